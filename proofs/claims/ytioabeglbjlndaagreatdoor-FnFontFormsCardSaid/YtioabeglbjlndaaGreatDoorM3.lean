/-
  A part of the proof: contracts and plain forms of functions beneath the statement, made small by a program (names shortened, what is not needed left out).
-/
import Derived.Test.YtioabeglbjlndaaGreatDoorRows
import Derived.Test.YtioabeglbjlndaaGreatDoorTie
import Derived.Test.YtioabeglbjlndaaGreatDoorCards
import Derived.Test.YtioabeglbjlndaaGreatDoorM2
import Derived.Laws.RangeString
import Derived.MapKept
open Option renaming bind_eq_some_iff → EU, map_eq_some_iff → EV, bind_some → Fa, bind_assoc → Fx, getD_some → FY, map_some → Gn
open List renaming getD_eq_getElem?_getD → EW, map_cons → Fb, mem_cons → Ff, getElem?_eq_none → Fg, drop_zero → Fh, getElem?_eq_some_iff → Fq, snd_lt_of_mem_zipIdx → Fs, getElem?_eq_getElem → Ft, all_eq_true → Fu, nil_append → Fw, drop_eq_getElem_cons → FF, map_nil → FH, length_eq_one_iff → FK, length_cons → FL, cons_append → FM, mem_append_right → FN, eq_nil_of_length_eq_zero → FR, length_take → FW, getElem?_take_of_lt → FX, getElem?_cons_zero → FZ, mem_filter → Gb, take_append_drop → Gc, getD_cons_zero → Ge, map_toArray → Gk
open Array renaming getD_eq_getD_getElem? → EX, getElem?_eq_getElem → Fi, getElem?_eq_some_iff → Fm, getElem?_setIfInBounds → FA, toArray_toList → FC, getElem?_toList → FO, length_toList → Gf, replicate → Gm
open Bool renaming and_eq_true → EY, not_eq_true' → Fp, or_eq_true → FG, false_eq_true → FT, not_false → Gp
open List.cons renaming injEq → EZ
open Option.some renaming injEq → Fc, inj → Gl
open Nat renaming beq → Fe, lt_of_lt_of_le → Fl, beq_refl → FP, le_trans → FQ, le_refl → Gj
open Go.MapKept renaming run_checkKey → Fj, run_findKey → Fk, run_getObj_map → Fr
open Go.Region renaming wanted → Fo, binds → Fv, ready → FJ
open Go.Result renaming andThen → Fy
open Classical renaming choose_spec → Fz, choose → FD
open Go.Instr renaming findNow → FE, lookup → FI, next → FU, mapUpdate → Ga, sameNow → Gd
open Ne renaming symm → FV
open Go.Builtin renaming min2 → Gg, max2 → Gh
open Go.Oper renaming wp_mono → Gi
set_option maxRecDepth 100000
set_option linter.unusedSimpArgs false
set_option linter.unusedVariables false
noncomputable section
namespace Go.V
open Go.RowKit
set_option maxRecDepth 100000
def kS (w:World) (F own:Nat→Prop) (k:Kd) (d:D) (y:Value):Prop :=
 d = .bad∨match k with
  | .dat lv=>bp w (FB F 0 lv) d y
  | .own z lv true=>fd w (FB F 0 lv) own z d y
  | .box n lv true=>ri w (FB F 0 lv) own n d y
  | _=>False
def dV (w:World) (F:Nat→Prop) (ow:Nat→Option Nat):Nat→List Kd→List D→List Value→Prop
 | _,[],[],[]=>True
 | i,k::ks,d::ds,y::ys=>kS w F (fun g=>ow g=some i) k d y∧dV w F ow (i+1) ks ds ys
 | _,_,_,_=>False
def mL:Kd→Bool
 | .own _ _ true=>true
 | .box _ _ true=>true
 | _=>false
def kp (w:World) (F:Nat→Prop):List Kd→List D→List Value→Prop
 | [],[],_=>True
 | k::ks,us,y::ys=>if mL k then(match us with
   | u::us=>u ≠ .bad∧kS w F (fun _=>True) k u y∧kp w F ks us ys
   | []=>False) else kp w F ks us ys
 | _,_,_=>False
def wG (w:World) (F:Nat→Prop) (B:Nat) (own:Nat→Prop) (k:Kd) (d:D) (y:Value):Prop :=
 d = .bad∨match k with
  | .dat lv=>bp w (FB F B lv) d y
  | .own z lv false=>fd w (FB F B lv) (fun g=>own g∧B≤g) z d y
  | _=>False
def gU:List Value→Value
 | [y]=>y
 | ys=>.tuple ys.toArray
structure CallPost (S:FS) (args:Array Value) (rs us:List D) (w:World) (F:Nat→Prop) (ow:Nat→Option Nat) (F':Nat→Prop) (R:Nat→Option Nat) (vs:List Value) (w':World):Prop where
 os:w'.os=w.os
 tape:w'.tape=w.tape
 output:w'.output=w.output
 size:w.heap.size≤w'.heap.size
 keep:∀b,b<w.heap.size→ow b=none→w'.heap[b]?=w.heap[b]?
 f0:∀b,F b→F' b
 fn:∀b,F' b→(F b∨w.heap.size≤b)∧b<w'.heap.size∧R b=none
 rn:∀b j,R b=some j→w.heap.size≤b∧b<w'.heap.size
 len:vs.length=S.rm.length
 lenD:rs.length=S.rm.length
 res:∀j,wG w' F' w.heap.size (fun g=>R g=some j) (ah S.rm j) (nth rs j) (vs.getD j undef)
 us:kp w' F' S.pm us args.toList
def DK (P:Program) (f:FuncId) (args:Array Value) (w:World) (R:Value→World→Prop):Prop :=
 ∀(o:Oper) (a:Act) (next:Act→World→Prop) (Q:Exit→Act→World→Prop),(∀v w',R v w'→next (a.put o.dst v) w')→o.upon P a next Q ((callFunc f args).run P w)
def ao (G:List (Nat × (Obj→Prop))) (P:Program) (f:FuncId) (S:FS):Prop :=
 ∀(ds rs us:List D),S.f ds=some (.ret rs us)→∀(args:Array Value) (w:World) (F:Nat→Prop) (ow:Nat→Option Nat),gOk G w F→dV w F ow 0 S.pm ds args.toList →
  (∀b,F b→b<w.heap.size∧ow b=none)→(∀b i,ow b=some i→b<w.heap.size)→DK P f args w fun v w'=>∃F' R vs,v=gU vs∧CallPost S args rs us w F ow F' R vs w'
section
variable {P:Program} {c:Cx} {B:Nat} {X:Nat→Prop} {w0:World} {F0 F:Nat→Prop} {O:Nat→Option (Nat × Nat)} {a:Act} {w:World} {δ:List D}
def bs:List Ag→List D→Option (List D)
 | [],_=>some []
 | .d x chk::l,is=>match x with
  | .tmp _=>match is with
   | i::is=>match chk with
    | false=>(bs l is).map (i::·)
    | true=>(bT i).bind fun i=>(bs l is).map (i::·)
   | []=>none
  | .const v=>(bs l is).map (oc v::·)
  | .func f=>(bs l is).map (.clo f []::·)
  | .global _=>none
 | .bor t r::l,is=>match Fe t r with
  | true=>match is with
   | i::is=>(bs l is).map (i::·)
   | _=>none
  | false=>match is with
   | p::i::is=>(aa p i).bind fun i=>(bs l is).map (i::·)
   | _=>none
 | .io t r::l,is=>match Fe t r with
  | true=>match is with
   | i::is=>(aa i i).bind fun i=>(bs l is).map (i::·)
   | _=>none
  | false=>match is with
   | p::i::is=>(bL p i).bind fun i=>(aa i i).bind fun i=>(bs l is).map (i::·)
   | _=>none
theorem iW (o:Option (List D)) (i:D) (acc:List D) (k:List D→Option Out):((o.map (i::·)).bind fun ds=>k (acc++ds))=o.bind fun ds=>k (app acc [i]++ds):=by
 cases o<;>simp [ij]
theorem eH:∀(l:List Ag) (acc is:List D) (k:List D→Option Out),er acc l is k=(bs l is).bind fun ds=>k (acc++ds)
 | [],acc,is,k=>by simp [er,bs]
 | .d x chk::l,acc,is,k=>by
  cases x with
  | tmp t =>
   cases is with
   | nil=>simp [er,bs]
   | cons i is =>
    cases chk
    ·simp only [er,bs]
     rw [iW,eH l]
    ·simp only [er,bs,Fx]
     congr 1
     funext i
     rw [iW,eH l]
  | const v=>simp only [er,bs];rw [iW,eH l]
  | func f=>simp only [er,bs];rw [iW,eH l]
  | global g=>simp [er,bs]
 | .bor t r::l,acc,is,k=>by
  cases hb:Fe t r
  ·rcases is with _ | ⟨p,_ | ⟨i,is⟩⟩
   ·simp [er,bs,hb]
   ·simp [er,bs,hb]
   ·simp only [er,bs,hb,Fx]
    refine congrArg _ (funext fun i=>?_)
    rw [iW,eH l]
  ·cases is with
   | nil=>simp [er,bs,hb]
   | cons i is=>simp only [er,bs,hb];rw [iW,eH l]
 | .io t r::l,acc,is,k=>by
  cases hb:Fe t r
  ·rcases is with _ | ⟨p,_ | ⟨i,is⟩⟩
   ·simp [er,bs,hb]
   ·simp [er,bs,hb]
   ·simp only [er,bs,hb,Fx]
    refine congrArg _ (funext fun i=>?_)
    refine congrArg _ (funext fun i=>?_)
    rw [iW,eH l]
  ·cases is with
   | nil=>simp [er,bs,hb]
   | cons i is =>
    simp only [er,bs,hb,Fx];refine congrArg _ (funext fun i=>?_)
    rw [iW,eH l]
theorem pC {F' own:Nat→Prop} {lv l:Nat} {d:D} {y:Value} (hF:∀b,F b→F' b) (h:br w (FB F B lv) d y) (hl:lv≤l) (h1:l≠1):kS w F' own (.dat l) d y:=by
 rcases h with h | h
 ·exact .inl h
 ·refine .inr (bc (fun b hb=>?_) (fun _ _=>rfl) h)
  match l,h1,hl with
  | 0,_,hl =>
   have:lv=0:=by omega
   subst this;exact hb
  | l+2,_,_=>exact hF b (dA b hb)
def qM:List Ag→Nat→Option Nat
 | [],_=>none
 | .io _ r::_,0=>some r
 | _::_,0=>none
 | _::l,n+1=>qM l n
theorem vd (hI:Inv c B X w0 F0 F O a w δ) {F':Nat→Prop} {ow:Nat→Option Nat} (hF:∀b,F b→F' b):∀(xs:List Operand) (pm:List Kd) (ags:List Ag) (i0:Nat) (ds:List D),fq c.K xs pm=some ags→fD pm=true →
  bs ags (ae δ (dl ags))=some ds→(∀r∈dO ags,∀b,O b=some (r,0)→F' b)→(∀j r,qM ags j=some r→∀b,O b=some (r,0)→ow b=some (i0+j))→dV w F' ow i0 pm ds (xs.map a.eval)
 | [],[],ags,i0,ds,h,_,hd,_,_=>by
  simp only [fq,Fc] at h;subst h;simp [bs] at hd;subst hd;trivial
 | [],_::_,_,_,_,h,_,_,_,_=>by simp [fq] at h
 | _::_,[],_,_,_,h,_,_,_,_=>by simp [fq] at h
 | x::xs,m::pm,ags,i0,ds,h,hpm,hd,hbor,hio=>by
  simp only [fq] at h;split at h
  case h_2=>cases h
  rename_i g l hg hl;cases h;have hpm':fD pm=true∧(∀lv,m = .dat lv→lv≠1)∧(∀z lv io,m = .own z lv io→io=true∧lv≠1)∧(∀z lv io,m = .box z lv io→io=true∧lv≠1):=by
   cases m with
   | dat lv =>
    simp only [fD] at hpm;split at hpm
    case h_2=>cases hpm
    rename_i h1 h2;exact⟨hpm,fun l e=>by cases e;intro e;subst e;simp at h1,fun _ _ _ e=>(by cases e),fun _ _ _ e=>(by cases e)⟩
   | own z lv io =>
    cases io
    ·simp [fD] at hpm
    simp only [fD] at hpm;split at hpm
    case h_2=>cases hpm
    rename_i h1 h2;exact⟨hpm,fun _ e=>(by cases e),fun _ l _ e=>by cases e;exact⟨rfl,fun e=>by subst e;simp at h1⟩,fun _ _ _ e=>(by cases e)⟩
   | box z lv io =>
    cases io
    ·simp [fD] at hpm
    simp only [fD] at hpm;split at hpm
    case h_2=>cases hpm
    rename_i h1 h2;exact⟨hpm,fun _ e=>(by cases e),fun _ _ _ e=>(by cases e),fun _ l _ e=>by cases e;exact⟨rfl,fun e=>by subst e;simp at h1⟩⟩
   | _=>simp [fD] at hpm
  obtain⟨hp1,hp2,hp3,hp4⟩:=hpm';have rest:∀d' ds',ds=d'::ds'→bs l (ae δ (dl l))=some ds'→(∀r∈dO l,∀b,O b=some (r,0)→F' b)→(∀j r,qM l j=some r→∀b,O b=some (r,0)→ow b=some (i0+1+j)) →
    kS w F' (fun g=>ow g=some i0) m d' (a.eval x)→dV w F' ow i0 (m::pm) ds ((x::xs).map a.eval):=by
   intro d' ds' e h1 h2 h3 h4;subst e;exact⟨h4,vd hI hF xs pm l (i0+1) ds' hl hp1 h1 h2 h3⟩
  have hio':∀j r,qM l j=some r→∀b,O b=some (r,0)→ow b=some (i0+1+j):=fun j r hj b hb=>by
   have:=hio (j+1) r (by cases g<;>exact hj) b hb;rw [this];congr 1
   omega
  have hbor':∀r∈dO l,∀b,O b=some (r,0)→F' b:=fun r hr=>hbor r (by cases g<;>simp [dO,hr])
  unfold lW at hg;split at hg
  ·rename_i lm
   have hl1:=hp2 lm rfl;split at hg
   ·rename_i t
    split at hg
    ·rename_i lv hk
     have hrep:=hI.dat hk;split at hg
     ·rename_i hle
      cases hg;simp only [app,ae,bs] at hd;obtain⟨ds',h1,rfl⟩:=EV.1 hd;exact rest _ _ rfl h1 hbor' hio' (pC hF hrep (aM.1 hle) hl1)
     ·split at hg
      case h_2=>cases hg
      rename_i hle h0;cases hg;simp only [app,ae,bs] at hd;obtain⟨i,hc,hd⟩:=EU.1 hd;obtain⟨ds',h1,rfl⟩:=EV.1 hd;refine rest _ _ rfl h1 hbor' hio' ?_
      unfold bT at hc;split at hc
      case isFalse=>cases hc
      rename_i hv;cases hc;refine .inr (kc hv (hrep.rep ?_))
      intro e;rw [e] at hv;simp [D.isV] at hv
    ·rename_i z lv io hk
     split at hg
     case h_2=>cases hg
     rename_i hl2;cases hg;simp only [dl,FP,ae,bs] at hd;obtain⟨ds',h1,rfl⟩:=EV.1 hd;refine rest _ _ rfl h1 hbor' hio' ?_
     by_cases hb:nth δ t = .bad
     ·exact .inl hb
     ·refine .inr (bc (fun b hb=>?_) (fun _ _=>rfl) (gI (hI.own hk hb)))
      rw [aq] at hl2;subst hl2;rcases hb with hb | hb
      ·exact hF b (dA b hb)
      ·exact hbor t (by simp [dO]) b hb.1
    ·rename_i r hk
     split at hg
     case h_2=>cases hg
     rename_i hl2 hown;cases hg;rw [aq] at hl2;subst hl2;have hviaD:∀(hbt:nth δ t ≠ .bad),kS w F' (fun g=>ow g=some i0) (.dat 2) (nth δ r) (a.eval (.tmp t)):=by
      intro hbt;obtain⟨g1,g2,g3,g4⟩:=hI.via hk hbt;obtain⟨z,lv,io,hkr⟩:∃z lv io,ah c.K r = .own z lv io:=by
       unfold ug at hown;split at hown
       ·exact⟨_,_,_,‹_›⟩
       ·cases hown
      rw [aZ,g1];refine .inr (bc (fun b hb=>?_) (fun _ _=>rfl) (gI (hI.own hkr g3)))
      rcases hb with hb | hb
      ·exact hF b (dA b hb)
      ·exact hbor r (by simp [dO]) b hb.1
     cases htr:Fe t r
     ·simp only [dl,htr,ae,bs] at hd
      obtain⟨i,hc,hd⟩:=EU.1 hd;obtain⟨ds',h1,rfl⟩:=EV.1 hd;obtain⟨hbt,rfl⟩:=aJ hc;exact rest _ _ rfl h1 hbor' hio' (hviaD hbt)
     ·have:=aq.1 htr
      subst this;simp only [dl,htr,ae,bs] at hd;obtain⟨ds',h1,rfl⟩:=EV.1 hd;refine rest _ _ rfl h1 hbor' hio' ?_
      by_cases hb:nth δ t = .bad
      ·exact .inl hb
      ·exact hviaD hb
    ·cases hg
   ·cases hg
   ·rename_i f
    cases hg;simp only [dl,app,bs] at hd;obtain⟨ds',h1,rfl⟩:=EV.1 hd;refine rest _ _ rfl h1 hbor' hio' (pC hF (lv:=0) (hI.opd (x:=.func f) (by simp [co])) (Nat.zero_le _) hl1)
   ·rename_i v
    split at hg
    case h_2=>cases hg
    rename_i hv;cases hg;simp only [dl,app,bs] at hd;obtain⟨ds',h1,rfl⟩:=EV.1 hd;have:=hI.opd (x:=.const v) (by simp [co,hv]);simp only [co,hv,opD] at this;exact rest _ _ rfl h1 hbor' hio' (pC hF this (Nat.zero_le _) hl1)
  ·rename_i z l'
   have hl1:=(hp3 z l' true rfl).2;have hcv:∀(lv:Nat),l'=lv→∀b,FB F B lv b→FB F' 0 l' b:=by
    intro lv e b hb;subst e
    match l',hl1 with
    | 0,_=>exact hb.elim
    | n+2,_=>exact hF b hb
   split at hg
   case h_2=>cases hg
   rename_i t;split at hg
   ·rename_i z' lv io hk
    split at hg
    case h_2=>cases hg
    rename_i h1 h2;rw [aq] at h1 h2;subst h1;cases hg;simp only [dl,FP,ae,bs] at hd;obtain⟨i,hc,hd⟩:=EU.1 hd;obtain⟨ds',h1',rfl⟩:=EV.1 hd;obtain⟨hb,rfl⟩:=aJ hc;exact rest _ _ rfl h1' hbor' hio' (.inr (cm (hcv lv h2) (fun _ _=>rfl) (fun g _ ho=>⟨by simpa using hio 0 t rfl g ho.1,rfl⟩) (hI.own hk hb)))
   ·rename_i r hk
    split at hg
    case h_2=>cases hg
    rename_i z' lv io hkr;split at hg
    case h_2=>cases hg
    rename_i h1 h2;rw [aq] at h1 h2;subst h1;cases hg;have hvia:nth δ t ≠ .bad→nth δ r ≠ .bad→kS w F' (fun g=>ow g=some i0) (.own z l' true) (nth δ r) (a.eval (.tmp t)):=by
     intro hbt hb;rw [aZ,(hI.via hk hbt).1];exact .inr (cm (hcv lv h2) (fun _ _=>rfl) (fun g _ ho=>⟨by simpa using hio 0 r rfl g ho.1,rfl⟩) (hI.own hkr hb))
    cases htr:Fe t r
    ·simp only [dl,htr,ae,bs] at hd
     obtain⟨i,hc,hd⟩:=EU.1 hd;obtain⟨i',hc',hd⟩:=EU.1 hd;obtain⟨ds',h1',rfl⟩:=EV.1 hd;obtain⟨hb,rfl⟩:=aJ hc';unfold bL at hc;split at hc
     case h_2=>cases hc
     rename_i hr0;cases hc;exact rest _ _ rfl h1' hbor' hio' (hvia (by rw [hr0];simp) hb)
    ·have e:=aq.1 htr
     subst e;rw [hk] at hkr;cases hkr
   ·cases hg
  ·rename_i n l'
   have hl1:=(hp4 n l' true rfl).2;have hcv:∀(lv:Nat),l'=lv→∀b,FB F B lv b→FB F' 0 l' b:=by
    intro lv e b hb;subst e
    match l',hl1 with
    | 0,_=>exact hb.elim
    | n+2,_=>exact hF b hb
   split at hg
   case h_2=>cases hg
   rename_i t;split at hg
   ·rename_i z' lv io hk
    split at hg
    case h_2=>cases hg
    rename_i h1 h2;rw [aq] at h1 h2;subst h1;cases hg;simp only [dl,FP,ae,bs] at hd;obtain⟨i,hc,hd⟩:=EU.1 hd;obtain⟨ds',h1',rfl⟩:=EV.1 hd;obtain⟨hb,rfl⟩:=aJ hc;exact rest _ _ rfl h1' hbor' hio' (.inr (pM (hcv lv h2) (fun _ _=>rfl) (fun g ho=>⟨by simpa using hio 0 t rfl g ho.1,rfl⟩) (hI.box hk hb)))
   ·rename_i r hk
    split at hg
    case h_2=>cases hg
    rename_i z' lv io hkr;split at hg
    case h_2=>cases hg
    rename_i h1 h2;rw [aq] at h1 h2;subst h1;cases hg;cases htr:Fe t r
    ·simp only [dl,htr,ae,bs] at hd
     obtain⟨i,hc,hd⟩:=EU.1 hd;obtain⟨i',hc',hd⟩:=EU.1 hd;obtain⟨ds',h1',rfl⟩:=EV.1 hd;obtain⟨hb,rfl⟩:=aJ hc';unfold bL at hc;split at hc
     case h_2=>cases hc
     rename_i hr0;cases hc;obtain⟨ii,ff,h5,_,h6⟩:=hI.ref hk (by rw [hr0];simp);rw [hr0] at h5;cases h5;rw [hkr] at h6;obtain⟨g0,e1,e2⟩:=h6;refine rest _ _ rfl h1' hbor' hio' (.inr ?_)
     rw [aZ,e2,←e1];exact pM (hcv lv h2) (fun _ _=>rfl) (fun g ho=>⟨by simpa using hio 0 r rfl g ho.1,rfl⟩) (hI.box hkr hb)
    ·have e:=aq.1 htr
     subst e;rw [hk] at hkr;cases hkr
   ·cases hg
  ·cases hg
end
end Go.V

namespace Go.V
open Go.RowKit
set_option maxRecDepth 100000
section
variable {P:Program} {c:Cx} {B:Nat} {X:Nat→Prop} {w0:World} {F0 F:Nat→Prop} {O:Nat→Option (Nat × Nat)} {a:Act} {w:World} {δ:List D}
theorem iA {w w':World} {F F':Nat→Prop} {own own':Nat→Prop} {n:Nat} {d:D} {y:Value} (hF:∀b,F b→F' b) (hw:∀b,F b→w'.heap[b]?=w.heap[b]?)
  (ho:∀g,V.blk y=some g→own g→own' g∧w'.heap[g]?=w.heap[g]?) (h:ri w F own n d y):ri w' F' own' n d y:=by
 obtain⟨l,us,g,e,a1,rfl,a3,a4,a5,a6,a7⟩:=h;exact⟨l,us,g,e,a1,rfl,(ho g rfl a7).2.trans a3,aW hF hw _ _ a4,a5,a6,(ho g rfl a7).1⟩
theorem ri.blk {F:Nat→Prop} {own:Nat→Prop} {n:Nat} {d:D} {y:Value} (h:ri w F own n d y):∀b,V.blk y=some b→own b∧b<w.heap.size:=by
 intro b hb;obtain⟨l,us,g,e,a1,rfl,a3,a4,a5,a6,a7⟩:=h;simp [V.blk] at hb;subst hb;exact⟨a7,(Fm.1 a3).1⟩
def mM:List Ag→Nat→Nat→Option Nat
 | [],_,_=>none
 | .io _ q::l,r,i=>if q=r then some i else mM l r (i+1)
 | .d _ _::l,r,i=>mM l r (i+1)
 | .bor _ _::l,r,i=>mM l r (i+1)
theorem lP:∀{l:List Ag} {r i j:Nat},mM l r i=some j→r∈cD l
 | .io _ q::l,r,i,j,h=>by
  simp only [mM] at h;split at h
  ·rename_i e;subst e;simp [cD]
  ·simp [cD,lP h]
 | .d _ _::l,r,i,j,h=>by simpa [cD] using lP (l:=l) h
 | .bor _ _::l,r,i,j,h=>by simpa [cD] using lP (l:=l) h
theorem ma:∀{l:List Ag} {r j:Nat},qM l j=some r→r∈cD l
 | .io _ q::l,r,0,h=>by simp [qM] at h;simp [cD,h]
 | .io _ q::l,r,j+1,h=>by simp only [cD,Ff];exact .inr (ma (l:=l) h)
 | .d _ _::l,r,0,h=>by simp [qM] at h
 | .bor _ _::l,r,0,h=>by simp [qM] at h
 | .d _ _::l,r,j+1,h=>by simpa [cD] using ma (l:=l) h
 | .bor _ _::l,r,j+1,h=>by simpa [cD] using ma (l:=l) h
theorem lX {a:Nat} {l:List Nat} (h:fR (a::l)=true):a∉l∧fR l=true:=by
 simp only [fR,eJ] at h;split at h
 ·cases h
 ·rename_i h1
  exact⟨by simpa using h1,h⟩
theorem ro:∀{l:List Ag} {r i j:Nat},fR (cD l)=true→qM l j=some r→mM l r i=some (i+j)
 | .io _ q::l,r,i,0,_,h=>by simp [qM] at h;simp [mM,h]
 | .io _ q::l,r,i,j+1,hn,h=>by
  obtain⟨h1,h2⟩:=lX hn;have h3:=ma (l:=l) h;have hne:¬q=r:=fun e=>h1 (by rw [e];exact h3)
  simp only [mM];rw [if_neg hne,ro (l:=l) h2 h];congr 1;omega
 | .d _ _::l,r,i,0,_,h=>by simp [qM] at h
 | .bor _ _::l,r,i,0,_,h=>by simp [qM] at h
 | .d _ _::l,r,i,j+1,hn,h=>by simp only [mM];rw [ro (l:=l) hn h];congr 1;omega
 | .bor _ _::l,r,i,j+1,hn,h=>by simp only [mM];rw [ro (l:=l) hn h];congr 1;omega
def vQ (c:Cx) (a:Act) (δ:List D):List Ag→List Kd→List Operand→Prop
 | [],[],[]=>True
 | .io _ r::l,m::pm,x::xs=>(nth δ r ≠ .bad∧a.eval x=av a r∧((∃z lv io,m = .own z lv true∧ah c.K r = .own z lv io∧lv≠1)∨∃n lv io,m = .box n lv true∧ah c.K r = .box n lv io∧lv≠1))∧vQ c a δ l pm xs
 | _::l,m::pm,_::xs=>mL m=false∧vQ c a δ l pm xs
 | _,_,_=>False
theorem ub {m:Kd} {pm:List Kd} (h:fD (m::pm)=true):fD pm=true∧(∀z lv,m = .own z lv true→lv≠1)∧∀n lv,m = .box n lv true→lv≠1:=by
 cases m with
 | dat lv =>
  simp only [fD] at h;split at h
  case h_2=>cases h
  exact⟨h,fun _ _ e=>(by cases e),fun _ _ e=>(by cases e)⟩
 | own z lv io =>
  cases io
  ·simp [fD] at h
  simp only [fD] at h;split at h
  case h_2=>cases h
  rename_i h1 h2;exact⟨h,fun _ l e=>by cases e;intro e;subst e;simp at h1,fun _ _ e=>(by cases e)⟩
 | box z lv io =>
  cases io
  ·simp [fD] at h
  simp only [fD] at h;split at h
  case h_2=>cases h
  rename_i h1 h2;exact⟨h,fun _ _ e=>(by cases e),fun _ l e=>by cases e;intro e;subst e;simp at h1⟩
 | _=>simp [fD] at h
theorem zT {K:List Kd} {x:Operand} {m:Kd} {t r:Nat} (h:lW K x m=some (.bor t r)):∃lv,m = .dat lv:=by
 cases m with
 | dat lv=>exact⟨lv,rfl⟩
 | own z lv io =>
  exfalso;cases io
  ·simp [lW] at h
  ·simp only [lW] at h
   repeat (split at h<;>try cases h)
 | box z lv io =>
  exfalso;cases io
  ·simp [lW] at h
  ·simp only [lW] at h
   repeat (split at h<;>try cases h)
 | _=>simp [lW] at h
theorem De {K:List Kd} {x:Operand} {m:Kd} {t r:Nat} (h:lW K x m=some (.io t r)):x = .tmp t∧((∃z lv io,m = .own z lv true∧((t=r∧ah K t = .own z lv io)∨(ah K t = .via r∧ah K r = .own z lv io))) ∨
  ∃n lv io,m = .box n lv true∧((t=r∧ah K t = .box n lv io)∨(ah K t = .ref r∧ah K r = .box n lv io))):=by
 cases m with
 | dat lv =>
  exfalso;simp only [lW] at h
  repeat (split at h<;>try cases h)
 | own z lv io =>
  cases io
  ·simp [lW] at h
  ·simp only [lW] at h
   split at h
   case h_2=>cases h
   split at h
   ·rename_i hk
    split at h
    case h_2=>cases h
    rename_i h1 h2;rw [aq] at h1 h2;cases h;exact⟨rfl,.inl ⟨_,_,_,rfl,.inl ⟨rfl,by rw [hk,h1,h2]⟩⟩⟩
   ·rename_i hk
    split at h
    case h_2=>cases h
    rename_i hk2;split at h
    case h_2=>cases h
    rename_i h1 h2;rw [aq] at h1 h2;cases h;exact⟨rfl,.inl ⟨_,_,_,rfl,.inr ⟨hk,by rw [hk2,h1,h2]⟩⟩⟩
   ·cases h
 | box z lv io =>
  cases io
  ·simp [lW] at h
  ·simp only [lW] at h
   split at h
   case h_2=>cases h
   split at h
   ·rename_i hk
    split at h
    case h_2=>cases h
    rename_i h1 h2;rw [aq] at h1 h2;cases h;exact⟨rfl,.inr ⟨_,_,_,rfl,.inl ⟨rfl,by rw [hk,h1,h2]⟩⟩⟩
   ·rename_i hk
    split at h
    case h_2=>cases h
    rename_i hk2;split at h
    case h_2=>cases h
    rename_i h1 h2;rw [aq] at h1 h2;cases h;exact⟨rfl,.inr ⟨_,_,_,rfl,.inr ⟨hk,by rw [hk2,h1,h2]⟩⟩⟩
   ·cases h
 | _=>simp [lW] at h
theorem pD (hI:Inv c B X w0 F0 F O a w δ):∀(xs:List Operand) (pm:List Kd) (ags:List Ag) (ds:List D),fq c.K xs pm=some ags→fD pm=true→bs ags (ae δ (dl ags))=some ds→vQ c a δ ags pm xs
 | [],[],ags,ds,h,_,_=>by
  simp only [fq,Fc] at h;subst h;trivial
 | [],_::_,_,_,h,_,_=>by simp [fq] at h
 | _::_,[],_,_,h,_,_=>by simp [fq] at h
 | x::xs,m::pm,ags,ds,h,hpm,hd=>by
  simp only [fq] at h;split at h
  case h_2=>cases h
  rename_i g l hg hl;cases h;obtain⟨hp1,hp2,hp3⟩:=ub hpm;cases g with
  | d y chk =>
   have hnio:mL m=false:=by
    cases m with
    | own z lv io=>cases io<;>first | rfl | (simp only [lW] at hg;repeat (split at hg<;>try cases hg))
    | box z lv io=>cases io<;>first | rfl | (simp only [lW] at hg;repeat (split at hg<;>try cases hg))
    | _=>rfl
   have hd':∃ds',bs l (ae δ (dl l))=some ds':=by
    cases y with
    | tmp t =>
     simp only [app,ae,bs] at hd;split at hd
     ·obtain⟨ds',h1,_⟩:=EV.1 hd
      exact⟨ds',h1⟩
     ·obtain⟨i,_,hd⟩:=EU.1 hd
      obtain⟨ds',h1,_⟩:=EV.1 hd;exact⟨ds',h1⟩
    | const v =>
     simp only [dl,app,bs] at hd;obtain⟨ds',h1,_⟩:=EV.1 hd;exact⟨ds',h1⟩
    | func v =>
     simp only [dl,app,bs] at hd;obtain⟨ds',h1,_⟩:=EV.1 hd;exact⟨ds',h1⟩
    | global v=>simp [bs] at hd
   obtain⟨ds',hd'⟩:=hd';exact⟨hnio,pD hI xs pm l ds' hl hp1 hd'⟩
  | bor t r =>
   have hnio:mL m=false:=by
    obtain⟨lv,e⟩:=zT hg;rw [e];rfl
   have hd':∃ds',bs l (ae δ (dl l))=some ds':=by
    cases htr:Fe t r
    ·simp only [dl,htr,ae,bs] at hd
     obtain⟨i,_,hd⟩:=EU.1 hd;obtain⟨ds',h1,_⟩:=EV.1 hd;exact⟨ds',h1⟩
    ·simp only [dl,htr,ae,bs] at hd
     obtain⟨ds',h1,_⟩:=EV.1 hd;exact⟨ds',h1⟩
   obtain⟨ds',hd'⟩:=hd';exact⟨hnio,pD hI xs pm l ds' hl hp1 hd'⟩
  | io t r =>
   obtain⟨rfl,hk⟩:=De hg;have main:(nth δ r ≠ .bad∧(t=r∨nth δ t = .ref 0 0))∧∃ds',bs l (ae δ (dl l))=some ds':=by
    cases htr:Fe t r
    ·simp only [dl,htr,ae,bs] at hd
     obtain⟨i,hc,hd⟩:=EU.1 hd;obtain⟨i',hc',hd⟩:=EU.1 hd;obtain⟨ds',h1,_⟩:=EV.1 hd;obtain⟨hb,rfl⟩:=aJ hc';unfold bL at hc;split at hc
     case h_2=>cases hc
     rename_i hr0;cases hc;exact⟨⟨hb,.inr hr0⟩,ds',h1⟩
    ·have e:=aq.1 htr
     subst e;simp only [dl,htr,ae,bs] at hd;obtain⟨i',hc',hd⟩:=EU.1 hd;obtain⟨ds',h1,_⟩:=EV.1 hd;exact⟨⟨(aJ hc').1,.inl rfl⟩,ds',h1⟩
   obtain⟨⟨hb,hre⟩,ds',hd'⟩:=main;refine⟨⟨hb,?_,?_⟩,pD hI xs pm l ds' hl hp1 hd'⟩
   ·rcases hre with e | hr0
    ·rw [e];rfl
    ·rcases hk with ⟨z,lv,io,_,h2⟩ | ⟨n,lv,io,_,h2⟩
     ·rcases h2 with ⟨e,_⟩ | ⟨h3,h4⟩
      ·rw [e];rfl
      ·exact(hI.via h3 (by rw [hr0];simp)).1
     ·rcases h2 with ⟨e,_⟩ | ⟨h3,h4⟩
      ·rw [e];rfl
      ·obtain⟨ii,ff,h5,_,h6⟩:=hI.ref h3 (by rw [hr0];simp)
       rw [hr0] at h5;cases h5;rw [h4] at h6;obtain⟨g0,e1,e2⟩:=h6;rw [aZ,e1,e2]
   ·rcases hk with ⟨z,lv,io,h1,h2⟩ | ⟨n,lv,io,h1,h2⟩
    ·refine .inl ⟨z,lv,io,h1,?_,hp2 z lv h1⟩
     rcases h2 with ⟨e,h2⟩ | ⟨_,h2⟩
     ·rw [←e];exact h2
     ·exact h2
    ·refine .inr ⟨n,lv,io,h1,?_,hp3 n lv h1⟩
     rcases h2 with ⟨e,h2⟩ | ⟨_,h2⟩
     ·rw [←e];exact h2
     ·exact h2
def EB (w':World) (F':Nat→Prop) (k:Kd) (u:D) (y:Value):Prop :=
 u ≠ .bad∧match k with
  | .own z lv _=>lv≠1∧fd w' (FB F' 0 lv) (fun _=>True) z u y
  | .box n lv _=>lv≠1∧ri w' (FB F' 0 lv) (fun _=>True) n u y
  | _=>False
theorem pY {w':World} {F':Nat→Prop}:∀(ags:List Ag) (pm:List Kd) (xs:List Operand) (us:List D),vQ c a δ ags pm xs→kp w' F' pm us (xs.map a.eval) →
  us.length=(cD ags).length∧∀(m r:Nat),(cD ags)[m]?=some r→nth δ r ≠ .bad∧∃u:D,us[m]?=some u∧EB w' F' (ah c.K r) u (av a r)
 | [],[],[],us,_,hu=>by
  cases us with
  | nil=>simp [cD]
  | cons u us=>simp [kp] at hu
 | .io t r::l,m::pm,x::xs,us,h,hu=>by
  obtain⟨⟨h1,h2,h3⟩,h4⟩:=h;simp only [Fb,kp] at hu;have hio:mL m=true:=by rcases h3 with ⟨z,lv,io,rfl,_⟩ | ⟨n,lv,io,rfl,_⟩<;>rfl
  rw [if_pos hio] at hu;cases us with
  | nil=>exact hu.elim
  | cons u us =>
   obtain⟨u1,u2,u3⟩:=hu;obtain⟨g1,g2⟩:=pY l pm xs us h4 u3;refine⟨by simp [cD,g1],fun j q hj=>?_⟩
   cases j with
   | zero =>
    simp only [cD,FZ,Fc] at hj;subst hj;refine⟨h1,u,rfl,u1,?_⟩
    rw [h2] at u2;have u2:=u2.resolve_left u1;rcases h3 with ⟨z,lv,io,rfl,hk,hlv⟩ | ⟨n,lv,io,rfl,hk,hlv⟩
    ·rw [hk];exact⟨hlv,u2⟩
    ·rw [hk];exact⟨hlv,u2⟩
   | succ j =>
    simp only [cD,List.getElem?_cons_succ] at hj;exact g2 j q hj
 | .d y chk::l,m::pm,x::xs,us,h,hu=>by
  obtain⟨h1,h2⟩:=h;simp only [Fb,kp,h1] at hu;exact pY l pm xs us h2 hu
 | .bor y chk::l,m::pm,x::xs,us,h,hu=>by
  obtain⟨h1,h2⟩:=h;simp only [Fb,kp,h1] at hu;exact pY l pm xs us h2 hu
 | [],[],_::_,_,h,_=>h.elim
 | [],_::_,_,_,h,_=>h.elim
 | .io _ _::_,[],_,_,h,_=>h.elim
 | .io _ _::_,_::_,[],_,h,_=>h.elim
 | .d _ _::_,[],_,_,h,_=>h.elim
 | .d _ _::_,_::_,[],_,h,_=>h.elim
 | .bor _ _::_,[],_,_,h,_=>h.elim
 | .bor _ _::_,_::_,[],_,h,_=>h.elim
theorem xP (us:List D):∀(ios:List Nat) (j:Nat),j+ios.length≤us.length→nO.go us j ios=(us.drop j).take ios.length
 | [],j,_=>by simp [nO.go]
 | _::l,j,h=>by
  simp only [FL] at h;simp only [nO.go];rw [xP us l (j+1) (by omega)];have hj:j<us.length:=by omega
  rw [FF hj,FL,List.take_succ_cons,cM,EW,Ft hj];rfl
theorem kH:∀(ss:List Nat) (ds δ:List D) (m s:Nat),fR ss=true→ss[m]?=some s→s<δ.length→nth (af δ ss ds) s=nth ds m
 | t::ss,[],δ,m,s,hn,hm,hl=>by
  rw [gG _ _ _ (List.mem_of_getElem? hm)]
 | t::ss,d::ds,δ,0,s,hn,hm,hl=>by
  obtain⟨h1,h2⟩:=lX hn;simp at hm;subst hm;simp only [af];rw [al _ _ _ _ h1,aP,if_pos hl]
 | t::ss,d::ds,δ,m+1,s,hn,hm,hl=>by
  obtain⟨h1,h2⟩:=lX hn;simp only [af];rw [kH ss ds _ m s h2 (by simpa using hm) (by rw [dP];exact hl)]
theorem yB {d:Nat} {l:List Nat} (h1:jD d l=false) (h2:fR l=true):fR ([d]++l)=true:=by
 simp only [FM,Fw,fR,h1];exact h2
theorem um:∀{l m:List Nat},sv l m=true→∀x∈l,x∉m
 | a::l,m,h,x,hx=>by
  simp only [sv,eJ] at h;split at h
  ·cases h
  ·rename_i h1
   rcases Ff.1 hx with rfl | hx
   ·simpa using h1
   ·exact um h x hx
theorem Cf {K:List Kd} {r:Nat} (h:dj K r):r<K.length:=by
 by_cases hd:r<K.length
 ·exact hd
 ·exfalso
  have:∀(K:List Kd) (r:Nat),¬r<K.length→ah K r = .no:=by
   intro K;induction K with
   | nil=>intro r _;rfl
   | cons k K ih =>
    intro r hr;cases r with
    | zero=>simp at hr
    | succ r=>exact ih r (by simpa using hr)
  rw [dj,this K r hd] at h;exact h
theorem rI {m:Kd} {pm:List Kd} (h:io0 (m::pm)=true):io0 pm=true∧(∀z lv io,m = .own z lv io→lv=0)∧∀n lv io,m = .box n lv io→lv=0:=by
 cases m with
 | own z lv io =>
  simp only [io0] at h;split at h
  case h_2=>cases h
  rename_i h0;exact⟨h,fun _ _ _ e=>by cases e;exact aq.1 h0,fun _ _ _ e=>(by cases e)⟩
 | box z lv io =>
  simp only [io0] at h;split at h
  case h_2=>cases h
  rename_i h0;exact⟨h,fun _ _ _ e=>(by cases e),fun _ _ _ e=>by cases e;exact aq.1 h0⟩
 | _=>exact⟨by simpa only [io0] using h,fun _ _ _ e=>(by cases e),fun _ _ _ e=>(by cases e)⟩
theorem vm:∀(ags:List Ag) (pm:List Kd) (xs:List Operand),vQ c a δ ags pm xs→io0 pm=true→∀(m r:Nat),(cD ags)[m]?=some r→∀lv,((∃z io,ah c.K r = .own z lv io)∨∃n io,ah c.K r = .box n lv io)→lv=0
 | [],_,_,_,_,m,r,hm,_,_=>by simp [cD] at hm
 | .io t q::l,m::pm,x::xs,h,h0,j,r,hj,lv,hk=>by
  obtain⟨⟨_,_,h3⟩,h4⟩:=h;obtain⟨g1,g2,g3⟩:=rI h0;cases j with
  | zero =>
   simp only [cD,FZ,Fc] at hj;subst hj;rcases h3 with ⟨z,lv',io,rfl,hk',_⟩ | ⟨n,lv',io,rfl,hk',_⟩
   ·have:=g2 z lv' true rfl
    subst this;rw [hk'] at hk;rcases hk with ⟨_,_,e⟩ | ⟨_,_,e⟩<;>cases e;rfl
   ·have:=g3 n lv' true rfl
    subst this;rw [hk'] at hk;rcases hk with ⟨_,_,e⟩ | ⟨_,_,e⟩<;>cases e;rfl
  | succ j=>exact vm l pm xs h4 g1 j r (by simpa [cD] using hj) lv hk
 | .d _ _::l,m::pm,x::xs,h,h0,j,r,hj,lv,hk=>vm l pm xs h.2 (rI h0).1 j r (by simpa [cD] using hj) lv hk
 | .bor _ _::l,m::pm,x::xs,h,h0,j,r,hj,lv,hk=>vm l pm xs h.2 (rI h0).1 j r (by simpa [cD] using hj) lv hk
 | .io _ _::_,[],_,h,_,_,_,_,_,_=>h.elim
 | .io _ _::_,_::_,[],h,_,_,_,_,_,_=>h.elim
 | .d _ _::_,[],_,h,_,_,_,_,_,_=>h.elim
 | .d _ _::_,_::_,[],h,_,_,_,_,_,_=>h.elim
 | .bor _ _::_,[],_,h,_,_,_,_,_,_=>h.elim
 | .bor _ _::_,_::_,[],h,_,_,_,_,_,_=>h.elim
theorem jN (hI:Inv c B X w0 F0 F O a w δ) {S:FS} {ags:List Ag} {xs:List Operand} {ds rs us:List D} {F':Nat→Prop} {R:Nat→Option Nat} {vs:List Value} {w':World} {v:Value} {dst:Option Nat} {x:List D}
  (hags:fq c.K xs S.pm=some ags) (hpm:fD S.pm=true) (hds:bs ags (ae δ (dl ags))=some ds) (hnd:fR (cD ags)=true)
  (hbor:dO ags=[]∨(lV S.rm=true∧io0 S.pm=true))
  (hpost:CallPost S (xs.map a.eval).toArray rs us w (fun b=>F b∨∃r∈dO ags,O b=some (r,0)) (fun b=>match O b with
   | some (r,0)=>mM ags r 0
   | _=>none) F' R vs w')
  (hdx:(dst=none∧x=[])∨∃d y,dst=some d∧x=[y]∧jD d (cD ags)=false) (g:Nat→Option (Nat × Nat)) (hg:∀j p,g j=some p→∀d,dst=some d→p.1=d) (hgn:dst=none→∀j,g j=none)
  (hU:∀(F2:Nat→Prop) (O2:Nat→Option (Nat × Nat)),(∀lv b,(dO ags=[]∨lv≤1)→FB F' w.heap.size lv b→FB F2 B lv b)→(∀b j,R b=some j→O2 b=g j∧B≤b∧(g j=none→F2 b))→∀d y,dst=some d→x=[y]→d<δ.length→nx c.K B F2 O2 (a.put dst v) w' d y) :
  ∃F2 O2,Inv c B X w0 F0 F2 O2 (a.put dst v) w' (af δ (dst.toList++(cD ags++aH c.K dst.toList)) (x++us)):=by
 have hB:=hI.bb;have hioA:=pD hI xs S.pm ags ds hags hpm hds;obtain⟨hul,hun⟩:=pY (c:=c) (a:=a) (δ:=δ) ags S.pm xs us hioA (by simpa using hpost.us);have hkeep:∀b,b<w.heap.size→(∀p,O b=some p→p.1∉cD ags)→w'.heap[b]?=w.heap[b]?:=by
  intro b hb hp;refine hpost.keep b hb ?_
  split
  ·rename_i r he
   cases h:mM ags r 0 with
   | none=>rfl
   | some j=>exact absurd (lP h) (hp _ he)
  ·rfl
 have hRn:∀b,b<w.heap.size→R b=none:=fun b hb=>by
  cases h:R b with
  | none=>rfl
  | some j=>have:=(hpost.rn b j h).1;omega
 let F2:Nat→Prop:=fun b=>F b∨(F' b∧w.heap.size≤b)∨∃j,R b=some j∧g j=none
 let O2:Nat→Option (Nat × Nat):=fun b=>match R b with
  | some j=>g j
  | none=>O b
 have hO2n:∀b,R b=none→O2 b=O b:=fun b h=>by simp only [O2,h]
 have hO2s:∀b j,R b=some j→O2 b=g j:=fun b j h=>by simp only [O2,h]
 have hOlt:∀b,w.heap.size≤b→O b=none:=fun b hb=>by
  cases h:O b with
  | none=>rfl
  | some p=>have:=(hI.ol b p h).1;omega
 have hlv:∀lv b,(dO ags=[]∨lv≤1)→FB F' w.heap.size lv b→FB F2 B lv b:=by
  intro lv b hbl hb
  match lv,hbl,hb with
  | 0,_,hb=>exact hb.elim
  | 1,_,hb=>exact⟨.inr (.inl hb),FQ hB hb.2⟩
  | n+2,hbl,hb =>
   have he:dO ags=[]:=hbl.resolve_right (by omega);rcases(hpost.fn b hb).1 with h1 | h1
   ·rcases h1 with h1 | ⟨r,hr,_⟩
    ·exact .inl h1
    ·rw [he] at hr;cases hr
   ·exact .inr (.inl ⟨hb,h1⟩)
 have hnd2:fR (dst.toList++cD ags)=true:=by
  rcases hdx with ⟨rfl,_⟩ | ⟨d,y,rfl,_,hm⟩
  ·exact hnd
  ·exact yB hm hnd
 have hlen:(x++us).length=(dst.toList++cD ags).length:=by
  rcases hdx with ⟨rfl,rfl⟩ | ⟨d,y,rfl,rfl,_⟩<;>simp [hul]
 have hlt:∀r,dj c.K r→r<δ.length:=fun r hr=>by
  rw [hI.ld];exact Cf hr
 have hgetio:∀(m r:Nat),(cD ags)[m]?=some r→dj c.K r→nth (af δ (dst.toList++cD ags) (x++us)) r=nth us m:=by
  intro m r hm hr;rcases hdx with ⟨rfl,rfl⟩ | ⟨d,y,rfl,rfl,_⟩
  ·exact kH _ _ _ m r hnd (by simpa using hm) (hlt r hr)
  ·have:=kH (δ:=δ) ([d]++cD ags) ([y]++us) (m:=m+1) (s:=r) hnd2 (by simpa using hm) (hlt r hr)
   simpa [nth] using this
 have hrootIo:∀(m r:Nat),(cD ags)[m]?=some r→dj c.K r:=by
  intro m r hm;obtain⟨_,u,_,hn⟩:=hun m r hm;obtain⟨_,hn⟩:=hn;unfold dj;generalize ah c.K r=kk at hn;cases kk<;>first | exact hn.elim | trivial
 refine⟨F2,O2,hI.many hlen (by cases dst<;>simp [Act.put]) (by cases dst<;>rfl) (fun s hs=>?_) (fun r hr _ hb=>?_) (fun s hs=>?_) (fun _ hb=>.inl hb) (fun b hb=>?_) (fun b p hp hm=>?_) (fun b hb=>?_) (fun b p hp=>?_) (fun b hb=>?_) hpost.size hpost.os hpost.tape hpost.output (fun b hb hx=>?_)⟩
 ·cases dst with
  | none=>rfl
  | some d=>exact bk fun e=>hs (by simp [e])
 ·obtain⟨m,hm⟩:=List.getElem?_of_mem hr
  obtain⟨_,u,hu,hn⟩:=hun m r hm;rw [hgetio m r hm (hrootIo m r hm),cM,EW,hu];exact hn.1
 ·rcases List.mem_append.1 hs with hs | hs
  ·rcases hdx with ⟨rfl,_⟩ | ⟨d,y,rfl,rfl,_⟩
   ·cases hs
   ·have:s=d:=by simpa using hs
    subst this;by_cases hsl:s<δ.length
    ·have e:=kH (δ:=δ) ([s]++cD ags) ([y]++us) (m:=0) (s:=s) hnd2 rfl hsl
     simp only [Option.toList_some] at e ⊢;rw [e];exact hU F2 O2 hlv (fun b j hj=>⟨hO2s b j hj,FQ hB (hpost.rn b j hj).1,fun hn=>.inr (.inr ⟨j,hj,hn⟩)⟩) s y rfl rfl hsl
    ·refine .inl ?_
     have:∀(l:List D) (n:Nat),¬n<l.length→nth l n = .bad:=fun l n h=>by
      rw [cM,EW,Fg (by omega)];rfl
     exact this _ _ (by rw [bW];exact hsl)
  ·have hs':=hs
   obtain⟨m,hm⟩:=List.getElem?_of_mem hs;have hr:=hrootIo m s hm;obtain⟨hb,u,hu,hn⟩:=hun m s hm;rw [hgetio m s hm hr,cM,EW,hu];have hav:av (a.put dst v) s=av a s:=by
    cases dst with
    | none=>rfl
    | some d =>
     refine bk ?_
     rcases hdx with ⟨h,_⟩ | ⟨d',y,h,_,hm'⟩
     ·cases h
     ·cases h
      rintro rfl;rw [eJ] at hm';exact(of_decide_eq_false hm') hs'
   refine .inr ?_
   obtain⟨hn1,hn2⟩:=hn;have hbl:∀lv,lv≠1→(dO ags=[]∨lv≤1)→∀b,FB F' 0 lv b→FB F2 B lv b:=by
    intro lv h1 h2 b hb;refine hlv lv b h2 ?_
    match lv,h1 with
    | 0,_=>exact hb
    | n+2,_=>exact hb
   have hlv1:∀lv,(∃z io,ah c.K s = .own z lv io)∨(∃n io,ah c.K s = .box n lv io)→dO ags=[]∨lv≤1:=by
    intro lv hk;rcases hbor with h | ⟨_,h0⟩
    ·exact .inl h
    ·right
     have:=vm ags S.pm xs hioA h0 m s hm lv hk;omega
   generalize hks:ah c.K s=kk at hn2;cases kk with
   | own z lv io =>
    refine .inr ?_
    obtain⟨h1,h2⟩:=hn2;rw [hav];have hown:=(hI.own hks hb).blk;exact cm (hbl lv h1 (hlv1 lv (.inl ⟨z,io,hks⟩))) (fun _ _=>rfl) (fun b hbk _=>⟨⟨(hO2n b (hRn b (hown b hbk).2)).trans (hown b hbk).1.1,(hown b hbk).1.2⟩,rfl⟩) h2
   | box n lv io =>
    refine .inr ?_
    obtain⟨h1,h2⟩:=hn2;rw [hav];have hown:=(hI.box hks hb).blk;exact iA (hbl lv h1 (hlv1 lv (.inr ⟨n,io,hks⟩))) (fun _ _=>rfl) (fun b hbk _=>⟨⟨(hO2n b (hRn b (hown b hbk).2)).trans (hown b hbk).1.1,(hown b hbk).1.2⟩,rfl⟩) h2
   | _=>exact hn2.elim
 ·exact hkeep b (hI.fl b hb).1 fun p hp=>by rw [(hI.fl b hb).2] at hp;cases hp
 ·have hb:=(hI.ol b p hp).1
  exact⟨(hO2n b (hRn b hb)).trans hp,hkeep b hb fun q hq=>by rw [hp] at hq;cases hq;exact fun hm'=>hm (FN _ hm')⟩
 ·rcases hb with hb | hb | ⟨j,hj,hn⟩
  ·obtain⟨h1,h2⟩:=hI.fl b hb
   exact⟨Fl h1 hpost.size,(hO2n b (hRn b h1)).trans h2⟩
  ·obtain⟨_,h1,h2⟩:=hpost.fn b hb.1
   exact⟨h1,(hO2n b h2).trans (hOlt b hb.2)⟩
  ·exact⟨(hpost.rn b j hj).2,(hO2s b j hj).trans hn⟩
 ·cases h:R b with
  | none =>
   rw [hO2n b h] at hp;exact⟨Fl (hI.ol b p hp).1 hpost.size,(hI.ol b p hp).2⟩
  | some j=>exact⟨(hpost.rn b j h).2,.inl (FQ hB (hpost.rn b j h).1)⟩
 ·rcases hb with hb | hb | ⟨j,hj,_⟩
  ·exact .inl hb
  ·exact .inr (FQ hB hb.2)
  ·exact .inr (FQ hB (hpost.rn b j hj).1)
 ·refine hkeep b (Fl hb hB) fun p hp=>?_
  rcases(hI.ol b p hp).2 with h1 | h1
  ·omega
  ·exact absurd h1 hx
theorem wP:∀{ms:List Kd},lV ms=true→∀i lv,(ah ms i = .dat lv∨∃z io,ah ms i = .own z lv io)→lv≤1
 | [],_,i,lv,hk=>by simp [ah] at hk
 | m::ms,h,i,lv,hk=>by
  have:(∀l,m = .dat l→l≤1)∧(∀z l io,m = .own z l io→l≤1)∧lV ms=true:=by
   cases m with
   | dat a =>
    simp only [lV] at h;split at h
    case h_2=>cases h
    rename_i e;exact⟨fun l e'=>by cases e';exact aM.1 e,fun _ _ _ e=>(by cases e),h⟩
   | own z a io =>
    simp only [lV] at h;split at h
    case h_2=>cases h
    rename_i e;exact⟨fun _ e=>(by cases e),fun _ l _ e'=>by cases e';exact aM.1 e,h⟩
   | _=>simp [lV] at h
  obtain⟨h1,h2,h3⟩:=this;cases i with
  | zero =>
   simp only [ah] at hk;rcases hk with hk | ⟨z,io,hk⟩
   ·exact h1 lv hk
   ·exact h2 z lv io hk
  | succ i=>exact wP h3 i lv hk
theorem xv {o:Oper} {q:Call} {f:Nat} (ho:o.op = .call q) (hf:q.callee = .value (.func f)):(execOp a.eval o).run P w=(callFunc f (q.args.map a.eval)).run P w:=by
 simp [execOp,ho,resolve,hf,Deferred.ofValue,Act.eval,invoke]
theorem xz {o:Oper} {q:Call} {t f:Nat} {us:Array Value} (ho:o.op = .call q) (hf:q.callee = .value (.tmp t)) (hv:av a t = .func (.func f) #[] us):(execOp a.eval o).run P w=(callFunc f (q.args.map a.eval++us)).run P w:=by
 have hv':a.eval (.tmp t) = .func (.func f) #[] us:=hv;simp [execOp,ho,resolve,hf,Deferred.ofValue,hv',invoke]
theorem mP {w:World} {F:Nat→Prop} {ow:Nat→Option Nat}:∀(pm pn:List Kd) (ds cs:List D) (ys us:List Value) (i:Nat),dV w F ow i pm ds ys→dV w F ow (i+pm.length) pn cs us→dV w F ow i (pm++pn) (ds++cs) (ys++us)
 | [],pn,[],cs,[],us,i,_,h=>by simpa using h
 | k::pm,pn,d::ds,cs,y::ys,us,i,h1,h2=>⟨h1.1,mP pm pn ds cs ys us (i+1) h1.2 (by rw [show i+1+pm.length=i+(k::pm).length by simp;omega];exact h2)⟩
 | [],_,_::_,_,_,_,_,h,_=>h.elim
 | [],_,[],_,_::_,_,_,h,_=>h.elim
 | _::_,_,[],_,_,_,_,h,_=>h.elim
 | _::_,_,_::_,_,[],_,_,h,_=>h.elim
theorem uF {K:List Kd}:∀(xs:List Operand) (pm:List Kd) (ags:List Ag),fq K xs pm=some ags→pm.length=xs.length
 | [],[],_,_=>rfl
 | x::xs,m::ms,ags,h=>by
  simp only [fq] at h;split at h
  ·rename_i h1 h2
   simp [uF xs ms _ h2]
  ·cases h
 | [],_::_,_,h=>by simp [fq] at h
 | _::_,[],_,h=>by simp [fq] at h
theorem vB {α:Type}:∀(n:Nat) (l:List α),sx n l=l.take n
 | 0,l=>by simp [sx]
 | n+1,[]=>by simp [sx]
 | n+1,_::l=>by simp [sx,vB n l]
theorem yb {w:World} {F:Nat→Prop} {ow:Nat→Option Nat}:∀(pn:List Kd) (cs:List D) (us:List Value) (i:Nat),gS pn=true→cs.length=pn.length→cs.all D.single=true→aY w F cs us→dV w F ow i pn cs us
 | [],[],us,i,_,_,_,h=>by
  rw [aD] at h;subst h;trivial
 | k::pn,d::cs,us,i,hk,hl,hs,h=>by
  obtain⟨v1,v2,rfl,h1,h2⟩:=au.1 h;simp only [List.all_cons,EY] at hs;obtain⟨y,rfl,_⟩:=iH d v1 hs.1 h1;cases k with
  | dat lv =>
   simp only [gS] at hk;split at hk
   case h_2=>cases hk
   rename_i e;rw [aq] at e;subst e;exact⟨.inr ((fc hs.1).2 h1),yb pn cs v2 (i+1) hk (by simpa using hl) hs.2 h2⟩
  | _=>simp [gS] at hk
 | [],_::_,_,_,_,hl,_,_=>by simp at hl
 | _::_,[],_,_,_,hl,_,_=>by simp at hl
theorem sn {w:World} {F:Nat→Prop}:∀(pm pn:List Kd) (us:List D) (ys zs:List Value),pm.length=ys.length→gS pn=true→kp w F (pm++pn) us (ys++zs)→kp w F pm us ys
 | [],pn,us,[],zs,_,hn,h=>by
  have:∀(pn:List Kd) (us:List D) (zs:List Value),gS pn=true→kp w F pn us zs→us=[]:=by
   intro pn;induction pn with
   | nil =>
    intro us zs _ h;cases us with
    | nil=>rfl
    | cons u us=>exact h.elim
   | cons k pn ih =>
    intro us zs hk h;cases k with
    | dat lv =>
     cases zs with
     | nil=>cases us<;>exact h.elim
     | cons z zs =>
      simp only [kp,mL,FT,if_false] at h;simp only [gS] at hk;split at hk
      ·exact ih us zs hk h
      ·cases hk
    | _=>simp [gS] at hk
  have e:=this pn us zs hn (by simpa using h);subst e;trivial
 | k::pm,pn,us,y::ys,zs,hl,hn,h=>by
  simp only [FM,kp] at h ⊢;split
  ·rename_i hk
   rw [if_pos hk] at h;cases us with
   | nil=>exact h
   | cons u us=>exact⟨h.1,h.2.1,sn pm pn us ys zs (by simpa using hl) hn h.2.2⟩
  ·rename_i hk
   rw [if_neg hk] at h;exact sn pm pn us ys zs (by simpa using hl) hn h
 | [],_,_,_::_,_,hl,_,_=>by simp at hl
 | _::_,_,_,[],_,hl,_,_=>by simp at hl
theorem zD (hS:∀f S,cb c.S f=some S→ao c.G P f S) {o:Oper} {q:Call} {t f:Nat} {S:FS} (ho:o.op = .call q) (hf:q.callee = .value (.tmp t)) (hlk:cb c.S f=some S) {A:Ac} (hA:vM c o.dst t f S q.args.toList=some A) (hI:Inv c B X w0 F0 F O a w δ)
  {k:List D→Option Out} {r:Out} (hg:bO c A δ k=some r) (Q:Exit→Act→World→Prop):o.wp P a w (Next c B X w0 F0 k r) Q:=by
 have hM:=hS f S hlk;unfold vM at hA;split at hA
 case h_2=>cases hA
 rename_i d lt lr hd hkt hrm;split at hA
 case h_2=>cases hA
 rename_i ags l hags hkd;split at hA
 case h_2=>cases hA
 rename_i hlr hlt hpm hdat hio hbor;cases hA;rw [gT,vB] at hags hpm;rw [gT,oR] at hdat;rw [aM] at hlr hlt;simp only [bO,ae] at hg;obtain⟨caps,hc1,hg⟩:=EU.1 hg;rw [eH] at hg;obtain⟨ds,h1,hg⟩:=EU.1 hg;simp only [Fw] at hg;unfold ai at hg;split at hg
 case h_2=>cases hg
 rename_i rs us h2;unfold Ds at hc1;split at hc1
 case h_2=>cases hc1
 rename_i g0 l0 hclo;split at hc1
 case isFalse=>cases hc1
 rename_i hcc;cases hc1;obtain⟨rfl,hcl,hcs⟩:=hcc;have hbt:nth δ t ≠ .bad:=fun e=>by rw [e] at hclo;cases hclo
 have hst:=(hI.slot t).resolve_left hbt;rw [hkt] at hst;have hrep:=hst.resolve_left hbt;rw [hclo] at hrep;simp only [bp,RepC] at hrep;obtain⟨uv,hav,hru⟩:=hrep;simp only [EZ,and_true] at hav;have hpmE:S.pm=S.pm.take q.args.toList.length++S.pm.drop q.args.toList.length:=(Gc _ _).symm;have hlenA:=uF _ _ _ hags;have hFB:∀b,FB F B lt b→F b:=dA;have hargs:=vd (F':=F) (ow:=fun _=>none) hI (fun _ h=>h) q.args.toList _ ags 0 ds hags hpm h1 (fun r hr b hb=>by rw [hbor] at hr;cases hr) (fun j r hj b hb=>by
  have:=ma hj;rw [hio] at this;cases this)
 have hcaps:=yb (w:=w) (F:=F) (ow:=fun _=>none) (S.pm.drop q.args.toList.length) caps uv (0+(S.pm.take q.args.toList.length).length) hdat (by rw [hcl,gT,gT,oR]) hcs (aW hFB (fun _ _=>rfl) _ _ hru);have hall:=mP _ _ _ _ _ _ 0 hargs hcaps;rw [←hpmE] at hall;have he:=hM (ds++caps) rs us h2 ((q.args.toList.map a.eval).toArray++uv.toArray) w F (fun _=>none) hI.gl (by simpa using hall) (fun b hb=>⟨(hI.fl b hb).1,rfl⟩) (fun b i hb=>by cases hb) o a (Next c B X w0 F0 k r) Q (fun v w' hp=>?_)
 ·unfold Oper.wp
  rw [xz ho hf hav];have:q.args.map a.eval=(q.args.toList.map a.eval).toArray:=by rw [←Gk,FC]
  rw [this];exact he
 ·obtain⟨F',R,vs,hv,hp⟩:=hp
  have hpost:CallPost {pm:=S.pm.take q.args.toList.length,rm:=S.rm,f:=S.f} (q.args.toList.map a.eval).toArray rs us w (fun b=>F b∨∃r∈dO ags,O b=some (r,0)) (fun b=>match O b with
   | some (r,0)=>mM ags r 0
   | _=>none) F' R vs w':=by
   refine⟨hp.os,hp.tape,hp.output,hp.size,fun b hb _=>hp.keep b hb rfl,fun b hb=>?_,fun b hb=>⟨?_,(hp.fn b hb).2⟩,hp.rn,hp.len,hp.lenD,hp.res,?_⟩
   ·rcases hb with hb | ⟨r,hr,_⟩
    ·exact hp.f0 b hb
    ·rw [hbor] at hr;cases hr
   ·rcases(hp.fn b hb).1 with h | h
    ·exact .inl (.inl h)
    ·exact .inr h
   ·have hu:=hp.us
    rw [hpmE] at hu;simp only [Array.toList_append] at hu;exact sn _ _ _ _ _ (by simpa using hlenA) hdat hu
  have hvl:=hp.len;rw [hrm] at hvl;obtain⟨y,rfl⟩:=FK.1 hvl;simp only [gU] at hv;subst hv;have hres:=hp.res 0;rw [hrm] at hres;simp only [ah,Ge] at hres;have hsz:d<δ.length→av (a.put (some d) v) d=v:=fun h=>bP (by rw [hI.la,←hI.ld];exact h)
  obtain⟨F2,O2,hI'⟩:=jN (S:={pm:=S.pm.take q.args.toList.length,rm:=S.rm,f:=S.f}) (v:=v) (dst:=some d) (x:=[nth rs 0]) hI hags hpm h1 (by simp [hio,fR]) (.inl hbor) hpost (.inr ⟨d,nth rs 0,rfl,rfl,by simp [hio,jD]⟩) (fun _=>none) (fun _ _ h=>by cases h) (fun _ _=>rfl) (fun F2 O2 h4 h5 d' y' e1 e2 h6=>by
   cases e1;simp only [EZ,and_true] at e2;subst e2;by_cases hb:nth rs 0 = .bad
   ·exact .inl hb
   ·refine .inr ?_
    rw [hkd,hsz h6];exact .inr (bc (fun b hb=>gN hlr _ (h4 lr b (.inl hbor) hb)) (fun _ _=>rfl) (hres.resolve_left hb)))
  have hus:us=[]:=by
   have h3:=(pY (c:=c) (a:=a) (δ:=δ) ags _ q.args.toList us (pD hI _ _ _ _ hags hpm h1) (by simpa using hpost.us)).1;rw [hio] at h3;exact FR h3
  subst hus;refine⟨F2,O2,_,by rw [hd];exact hI',?_⟩
  rw [hio];simpa using hg
theorem xJ (hS:∀f S,cb c.S f=some S→ao c.G P f S) {o:Oper} {q:Call} {f:Nat} {S:FS} (ho:o.op = .call q) (hf:q.callee = .value (.func f)) (hlk:cb c.S f=some S) {A:Ac} (hA:nO c o.dst S q.args.toList=some A) (hI:Inv c B X w0 F0 F O a w δ)
  {k:List D→Option Out} {r:Out} (hg:bO c A δ k=some r) (Q:Exit→Act→World→Prop):o.wp P a w (Next c B X w0 F0 k r) Q:=by
 have hM:=hS f S hlk;unfold nO at hA;split at hA
 ·cases hA
 rename_i ags hags;simp only at hA;split at hA
 case h_2=>cases hA
 rename_i hokB hnd hpm;have hbor:dO ags=[]∨(lV S.rm=true∧io0 S.pm=true∧sv (dO ags) (cD ags)=true):=by
  split at hokB
  ·rename_i e;exact .inl e
  ·split at hokB
   ·rename_i h1 h2;exact .inr ⟨h1,h2,hokB⟩
   ·cases hokB
 have hbor':dO ags=[]∨(lV S.rm=true∧io0 S.pm=true):=hbor.imp id fun h=>⟨h.1,h.2.1⟩
 have call:∀(ds rs us:List D),bs ags (ae δ (dl ags))=some ds→S.f ds=some (.ret rs us)→(∀v w' F' R vs,v=gU vs→CallPost S (q.args.toList.map a.eval).toArray rs us w (fun b=>F b∨∃r∈dO ags,O b=some (r,0)) (fun b=>match O b with
   | some (r,0)=>mM ags r 0
   | _=>none) F' R vs w'→Next c B X w0 F0 k r (a.put o.dst v) w')→o.wp P a w (Next c B X w0 F0 k r) Q:=by
  intro ds rs us h1 h2 h3;have hargs:=vd (F':=fun b=>F b∨∃r∈dO ags,O b=some (r,0)) (ow:=fun b=>match O b with
   | some (r,0)=>mM ags r 0
   | _=>none) hI (fun _ h=>.inl h) q.args.toList S.pm ags 0 ds hags hpm h1 (fun r hr b hb=>.inr ⟨r,hr,hb⟩) (fun j r hj b hb=>by simp only [hb];rw [ro hnd hj])
  have he:=hM ds rs us h2 (q.args.toList.map a.eval).toArray w _ _ (sN (fun _ h=>Or.inl h) (fun _ _=>rfl) hI.gl) (by simpa using hargs) (fun b hb=>?_) (fun b i hb=>?_) o a (Next c B X w0 F0 k r) Q (fun v w' hp=>?_)
  ·unfold Oper.wp
   rw [xv ho hf];have:q.args.map a.eval=(q.args.toList.map a.eval).toArray:=by rw [←Gk,FC]
   rw [this];exact he
  ·rcases hb with hb | ⟨r',hr,hb⟩
   ·obtain⟨g1,g2⟩:=hI.fl b hb
    exact⟨g1,by simp only [g2]⟩
   ·refine⟨(hI.ol b _ hb).1,?_⟩
    simp only [hb];cases h:mM ags r' 0 with
    | none=>rfl
    | some j =>
     rcases hbor with h0 | ⟨_,_,h0⟩
     ·rw [h0] at hr;cases hr
     ·exact absurd (lP h) (um h0 r' hr)
  ·split at hb
   ·rename_i r' hr;exact(hI.ol b _ hr).1
   ·cases hb
  ·obtain⟨F',R,vs,h4,h5⟩:=hp
   exact h3 v w' F' R vs h4 h5
 have asm:∀(K:List D→List D→Option Out),er [] ags (ae δ (dl ags)) (fun ds=>ai (S.f ds) K)=some r→∃ds rs us,bs ags (ae δ (dl ags))=some ds∧S.f ds=some (.ret rs us)∧K rs us=some r:=by
  intro K h;rw [eH] at h;obtain⟨ds,h1,h2⟩:=EU.1 h;simp only [Fw] at h2;unfold ai at h2;split at h2
  ·rename_i rs us h3
   exact⟨ds,rs,us,h1,h3,h2⟩
  ·cases h2
 have uslen:∀{ds rs us:List D} {F':Nat→Prop} {R:Nat→Option Nat} {vs:List Value} {w':World} {F1:Nat→Prop} {ow:Nat→Option Nat},bs ags (ae δ (dl ags))=some ds→CallPost S (q.args.toList.map a.eval).toArray rs us w F1 ow F' R vs w'→nO.outs us (cD ags)=us:=by
  intro ds rs us F' R vs w' F1 ow h1 h2;have h3:=(pY (c:=c) (a:=a) (δ:=δ) ags S.pm q.args.toList us (pD hI _ _ _ _ hags hpm h1) (by simpa using h2.us)).1;unfold nO.outs;rw [xP us _ 0 (by omega),Fh,←h3,List.take_length]
 have hlv0:∀i lv,(ah S.rm i = .dat lv∨∃z io,ah S.rm i = .own z lv io)→dO ags=[]∨lv≤1:=fun i lv hk=>hbor'.imp id fun h=>wP h.1 i lv hk
 split at hA
 ·rename_i hd
  split at hA
  case h_2=>cases hA
  rename_i hrm;cases hA;obtain⟨ds,rs,us,h1,h2,h3⟩:=asm _ hg;refine call ds rs us h1 h2 (fun v w' F' R vs hv hp=>?_)
  obtain⟨F2,O2,hI'⟩:=jN (v:=v) (dst:=none) (x:=[]) hI hags hpm h1 hnd hbor' hp (.inl ⟨rfl,rfl⟩) (fun _=>none) (fun _ _ h=>by cases h) (fun _ _=>rfl) (fun _ _ _ _ _ _ h=>by cases h);rw [uslen h1 hp] at h3;exact⟨F2,O2,_,by rw [hd];exact hI',h3⟩
 ·rename_i d hd
  split at hA
  ·rename_i h1' h2' hrm
   cases hA;obtain⟨ds,rs,us,h1,h2,h3⟩:=asm _ hg;refine call ds rs us h1 h2 (fun v w' F' R vs hv hp=>?_)
   obtain⟨F2,O2,hI'⟩:=jN (v:=v) (dst:=some d) (x:=[.bad]) hI hags hpm h1 hnd hbor' hp (.inr ⟨d,.bad,rfl,rfl,h2'⟩) (fun _=>none) (fun _ _ h=>by cases h) (fun _ _=>rfl) (fun _ _ _ _ d y _ h _=>by
    simp only [EZ,and_true] at h;exact .inl h.symm)
   rw [uslen h1 hp] at h3;exact⟨F2,O2,_,by rw [hd];exact hI',h3⟩
  ·rename_i kd h1' h2' hrm
   cases hA;obtain⟨ds,rs,us,h1,h2,h3⟩:=asm _ hg;refine call ds rs us h1 h2 (fun v w' F' R vs hv hp=>?_)
   have hvl:=hp.len;rw [hrm] at hvl;obtain⟨y,rfl⟩:=FK.1 hvl;simp only [gU] at hv;subst hv;have hres:=hp.res 0;rw [hrm] at hres;simp only [ah,Ge] at hres;rw [hrm] at h1';have hlv:=hlv0 0;rw [hrm] at hlv;simp only [ah] at hlv;have fin:∀(g:Nat→Option (Nat × Nat)),(∀j p,g j=some p→p.1=d)→(∀(F2:Nat→Prop) (O2:Nat→Option (Nat × Nat)),(∀lv b,(dO ags=[]∨lv≤1)→FB F' w.heap.size lv b→FB F2 B lv b)→(∀b j,R b=some j→O2 b=g j∧B≤b∧(g j=none→F2 b))→d<δ.length→nx c.K B F2 O2 (a.put (some d) v) w' d (nth rs 0)) →
     Next c B X w0 F0 k r (a.put o.dst v) w':=by
    intro g hg' hU;obtain⟨F2,O2,hI'⟩:=jN (v:=v) (dst:=some d) (x:=[nth rs 0]) hI hags hpm h1 hnd hbor' hp (.inr ⟨d,nth rs 0,rfl,rfl,h2'⟩) g (fun j p h d' e=>by cases e;exact hg' j p h) (fun h=>by cases h) (fun F2 O2 h4 h5 d' y' e1 e2 h6=>by
     cases e1;simp only [EZ,and_true] at e2;subst e2;exact hU F2 O2 h4 h5 h6)
    rw [uslen h1 hp] at h3;exact⟨F2,O2,_,by rw [hd];exact hI',h3⟩
   have hsz:d<δ.length→av (a.put (some d) v) d=v:=fun h=>bP (by rw [hI.la,←hI.ld];exact h)
   by_cases hb:nth rs 0 = .bad
   ·exact fin (fun _=>none) (fun _ _ h=>by cases h) (fun _ _ _ _ _=>.inl hb)
   have hres:=hres.resolve_left hb;cases kd with
   | dat lv =>
    simp only [wB] at h1';split at h1'
    case h_2=>cases h1'
    rename_i l hkd;rw [aM] at h1';refine fin (fun _=>none) (fun _ _ h=>by cases h) (fun F2 O2 h4 h5 h6=>.inr ?_)
    rw [hkd,hsz h6];exact .inr (bc (fun b hb=>gN h1' _ (h4 lv b (hlv lv (.inl rfl)) hb)) (fun _ _=>rfl) hres)
   | own z lv io =>
    cases io
    case true =>
     simp only [wB] at h1';split at h1'
     ·simp [dX] at h1'
     ·cases h1'
    simp only [wB] at h1';have hlv':=hlv lv (.inr ⟨z,false,rfl⟩);rcases kG h1' with ⟨l,hkd,hle⟩ | ⟨l,hkd,h1l,hle⟩
    ·refine fin (fun _=>some (d,0)) (fun _ _ h=>by cases h;rfl) (fun F2 O2 h4 h5 h6=>.inr ?_)
     rw [hkd,hsz h6];exact .inr (cm (fun b hb=>gN hle _ (h4 lv b hlv' hb)) (fun _ _=>rfl) (fun b _ hb=>⟨⟨(h5 b 0 hb.1).1,fun _=>(h5 b 0 hb.1).2.1⟩,rfl⟩) hres)
    ·refine fin (fun _=>none) (fun _ _ h=>by cases h) (fun F2 O2 h4 h5 h6=>.inr ?_)
     rw [hkd,hsz h6];refine .inr (bc (fun b hb=>?_) (fun _ _=>rfl) (gI hres))
     rcases hb with hb | ⟨hb1,hb2⟩
     ·exact gN hle _ (h4 lv b hlv' hb)
     ·obtain⟨_,g2,g3⟩:=h5 b 0 hb1
      match l,h1l with
      | 1,_=>exact⟨g3 rfl,g2⟩
      | _+2,_=>exact g3 rfl
   | _=>exact hres.elim
  ·rename_i h1' h2' hn0 hn1
   cases hA;obtain⟨ds,rs,us,h1,h2,h3⟩:=asm _ hg;refine call ds rs us h1 h2 (fun v w' F' R vs hv hp=>?_)
   have hvl:=hp.len;have hfit:∃ns,ah c.K d = .tup ns∧dX S.rm ns=true:=by
    unfold wB at h1';split at h1'
    ·rename_i e;exact absurd e (hn1 _)
    ·rename_i e;exact absurd e (hn1 _)
    ·rename_i e;exact absurd e hn0
    ·split at h1'
     ·exact⟨_,‹_›,h1'⟩
     ·cases h1'
   obtain⟨ns,hkd,hsame⟩:=hfit;have hv2:v = .tuple vs.toArray:=by
    rw [hv];unfold gU;split
    ·rename_i y
     exfalso;have:S.rm.length=1:=by rw [←hvl];rfl
     obtain⟨kk,e⟩:=FK.1 this;exact hn1 _ e
    ·rfl
   obtain⟨F2,O2,hI'⟩:=jN (v:=v) (dst:=some d) (x:=[.tup rs]) hI hags hpm h1 hnd hbor' hp (.inr ⟨d,.tup rs,rfl,rfl,h2'⟩) (fun j=>some (d,j+1)) (fun j p h d' e=>by cases e;cases h;rfl) (fun h=>by cases h) (fun F2 O2 h4 h5 d' y' e1 e2 h6=>by
    cases e1;simp only [EZ,and_true] at e2;subst e2;refine .inr ?_
    rw [hkd,bP (by rw [hI.la,←hI.ld];exact h6),hv2];refine⟨rs,vs.toArray,rfl,rfl,fun i=>?_⟩
    obtain⟨e1,e2⟩:=pP hsame i;rw [e1];have hgd:vs.toArray.getD i undef=vs.getD i undef:=by simp
    rw [hgd];rcases hp.res i with hb | hres
    ·exact .inl hb
    rcases e2 with e2 | ⟨lv,e2⟩ | ⟨z,lv,e2⟩
    ·rw [e2] at hres;exact hres.elim
    ·rw [e2] at hres ⊢
     exact .inr (bc (fun b hb=>h4 lv b (hlv0 i lv (.inl e2)) hb) (fun _ _=>rfl) hres)
    ·rw [e2] at hres ⊢
     exact .inr (cm (fun b hb=>h4 lv b (hlv0 i lv (.inr ⟨z,false,e2⟩)) hb) (fun _ _=>rfl) (fun b _ hb=>⟨⟨(h5 b i hb.1).1,fun _=>(h5 b i hb.1).2.1⟩,rfl⟩) hres))
   rw [uslen h1 hp] at h3;exact⟨F2,O2,_,by rw [hd];exact hI',h3⟩
  ·cases hA
end
end Go.V

namespace Go.V
open Go.RowKit
set_option maxRecDepth 100000
section
variable {P:Program} {c:Cx} {B:Nat} {X:Nat→Prop} {w0:World} {F0 F:Nat→Prop} {O:Nat→Option (Nat × Nat)} {a:Act} {w:World} {δ:List D}
theorem Inv.itr (h:Inv c B X w0 F0 F O a w δ) {s:Nat} (hk:ah c.K s = .itr) (hb:nth δ s ≠ .bad):Cg w (fun g=>O g=some (s,0)∧B≤g) (nth δ s) (av a s):=by
 have h0:=(h.slot s).resolve_left hb;rw [hk] at h0;exact h0.resolve_left hb
theorem Inv.freshI (h:Inv c B X w0 F0 F O a w δ) {d:Nat} (hk:ah c.K d = .itr) (s:ByteArray) :
  ∃F' O',Inv c B X w0 F0 F' O' (a.put (some d) (.pointer (some ⟨w.heap.size,0,none⟩))) (w.alloc (.stringIter s 0)) (af δ ([d]++([]++aH c.K [d])) [.itr s 0]):=by
 have sz:w.heap.size≤(w.alloc (.stringIter s 0)).heap.size:=by simp
 have hw:∀b,b<w.heap.size→(w.alloc (.stringIter s 0)).heap[b]?=w.heap[b]?:=fun b hb=>heap_alloc_old w _ hb
 have hg:w.heap.size<(w.alloc (.stringIter s 0)).heap.size:=by simp
 refine⟨F,cO O (.pointer (some ⟨w.heap.size,0,none⟩)) (some (d,0)),h.many (by simp) dz rfl (fun s hs=>bk fun e=>hs (by simp [e])) (by simp) (fun s' hs=>?_) (fun _ hb=>hb) (fun b hb=>hw b (h.fl b hb).1) (fun b p hp _=>⟨?_,hw b (h.ol b p hp).1⟩) (fun b hb=>⟨Fl (h.fl b hb).1 sz,?_⟩) (fun b p hp=>?_) (fun _ hb=>.inl hb) sz rfl rfl rfl (fun b hb _=>hw b (Fl hb h.bb))⟩
 ·rw [List.append_nil] at hs ⊢
  rcases cR (δ:=δ) (x:=.itr s 0) (ts:=[]) hs with e | ⟨rfl,hd,e⟩
  ·exact .inl e
  ·refine .inr ?_
   simp only [FH] at e;rw [hk,e,bP (by rw [h.la,←h.ld];exact hd)];exact .inr ⟨s,0,_,rfl,rfl,heap_alloc_new w _,oB rfl,h.bb⟩
 ·have:=(h.ol b p hp).1
  rw [dK (fun e=>by rw [ml] at e;omega)];exact hp
 ·have:=(h.fl b hb).1
  rw [dK (fun e=>by rw [ml] at e;omega)];exact(h.fl b hb).2
 ·by_cases e:w.heap.size=b
  ·subst e
   exact⟨hg,.inl h.bb⟩
  ·rw [dK (fun e'=>e (ml.1 e'))] at hp
   exact⟨Fl (h.ol b p hp).1 sz,(h.ol b p hp).2⟩
theorem wy (hT:okT P c.T=true) {o:Oper} {t:Nat} {x:Operand} (ho:o.op = .range t x):ed P c o:=by
 intro A hA B X w0 F0 F O a w δ hI k r hg Q;simp only [bm,ho] at hA;obtain⟨i,hi,hA⟩:=ak hA;split at hA
 case h_2=>cases hA
 rename_i hstr;have hti:=tok hT hi;unfold CD at hA;split at hA
 ·cases hA
 rename_i d hd;split at hA
 case h_2=>cases hA
 rename_i hk hlv;cases hA;simp only [bO] at hg;rw [aV] at hg;obtain⟨y,h1,h2⟩:=EU.1 hg;obtain⟨d1,e,h1⟩:=aK h1;simp only [Fb,FH,EZ,and_true] at e;subst e;unfold itD at h1;split at h1
 case h_2=>cases h1
 rename_i s hs;cases h1;have hx:=(hI.opd (aM.1 hlv)).rep (by rw [hs];simp);rw [hs] at hx;simp only [bp,RepC] at hx;have hv:a.eval x = .string s:=by simpa using hx.1
 have hrun:(execOp a.eval o).run P w = .ok (.value (.pointer (some ⟨w.heap.size,0,none⟩))) (w.alloc (.stringIter s 0)):=by
  refine bI (s:=Instr.range t (a.eval x)) (by simp only [execOp,ho]) ?_
  rw [hv];exact run_range_string w t s (hti.str hstr).1
 obtain⟨F',O',hI'⟩:=hI.freshI hk s;exact bd hd hrun hI' h2 Q
theorem wv {g:Nat} {s:ByteArray} {p:Nat} (ty:TypeId) (hg:w.heap[g]?=some (.stringIter s p)) (h:p<s.size) (ha:(s[p]'h).toNat<128) :
  (FU (.pointer (some ⟨g,0,none⟩)) true ty).run P w = .ok (.tuple #[.bool true,.int .i64 p,.int .i32 (s[p]'h).toNat]) {w with heap:=w.heap.setIfInBounds g (.stringIter s (p+1))}:=by
 have hl:=(Fm.1 hg).1;simp only [FU,getObj,setObj,Sem.run_bind,Sem.run,hg,Fy,h,if_true,decode_ascii s p h ha];simp [goInt]
theorem tR {g:Nat} {s:ByteArray} {p:Nat} (ty:TypeId) (hg:w.heap[g]?=some (.stringIter s p)) (h:¬p<s.size) :
  (FU (.pointer (some ⟨g,0,none⟩)) true ty).run P w = .ok (.tuple #[.bool false]) w:=by
 simp [FU,getObj,Sem.run,hg,h]
theorem Inv.nextI (h:Inv c B X w0 F0 F O a w δ) {d q g l1 l2 l3:Nat} (hq:ah c.K q = .itr) (hk:ah c.K d = .tup [.dat l1,.dat l2,.dat l3]) (hO:O g=some (q,0)) (hB:B≤g) (hy:av a q = .pointer (some ⟨g,0,none⟩))
  (s:ByteArray) (p:Nat) {vs:Array Value} {l:List D} (hl:l=vs.toList.map .v) (hf:∀v∈vs.toList,flat v=true) (h3:vs.size≤3) {w':World} (hg:w'.heap[g]?=some (.stringIter s p)) (hw:∀b,b≠g→w'.heap[b]?=w.heap[b]?) (sz:w'.heap.size=w.heap.size)
  (os:w'.os=w.os) (tape:w'.tape=w.tape) (output:w'.output=w.output) :
  Inv c B X w0 F0 F O (a.put (some d) (.tuple vs)) w' (af δ ([d]++([q]++aH c.K [d])) [.tup l,.itr s p]):=by
 have hdq:d≠q:=fun e=>by
  subst e;rw [hq] at hk;cases hk
 have e0:∀t,nth (af δ ([d]++[q]) [.tup l,.itr s p]) t=if t=q then(if q<δ.length then .itr s p else .bad) else if t=d then(if d<δ.length then .tup l else .bad) else nth δ t:=by
  intro t;simp only [FM,Fw,af];by_cases h1:t=q
  ·subst h1
   rw [if_pos rfl,aP,dP]
  ·rw [if_neg h1,bw _ _ _ _ h1]
   by_cases h2:t=d
   ·subst h2
    rw [if_pos rfl,aP]
   ·rw [if_neg h2,bw _ _ _ _ h2]
 have hgl:=(h.ol g _ hO).1;refine h.many (by simp) dz rfl (fun s hs=>bk fun e=>hs (by simp [e])) (fun r hr _ hb=>?_) (fun t ht=>?_) (fun _ hb=>hb) (fun b hb=>hw b fun e=>?_) (fun b p' hp hn=>⟨hp,hw b fun e=>?_⟩) (fun b hb=>⟨by rw [sz];exact(h.fl b hb).1,(h.fl b hb).2⟩) (fun b p' hp=>⟨by rw [sz];exact(h.ol b p' hp).1,(h.ol b p' hp).2⟩) (fun _ hb=>.inl hb) (Nat.le_of_eq sz.symm) os tape output (fun b hb _=>hw b (by omega))
 ·simp at hr
  subst hr;rw [e0,if_pos rfl];by_cases hlt:r<δ.length
  ·rw [if_pos hlt]
   simp
  ·refine absurd ?_ hb
   rw [cM,EW,Fg (by omega)];rfl
 ·rw [e0]
  by_cases h1:t=q
  ·subst h1
   rw [if_pos rfl];by_cases hlt:t<δ.length
   ·rw [if_pos hlt]
    refine .inr ?_
    rw [hq,bk (FV hdq),hy];exact .inr ⟨s,p,g,rfl,rfl,hg,hO,hB⟩
   ·rw [if_neg hlt]
    exact .inl rfl
  ·have h2:t=d:=by simpa [h1] using ht
   subst h2;rw [if_neg h1,if_pos rfl];by_cases hlt:t<δ.length
   ·rw [if_pos hlt]
    refine .inr ?_
    rw [hk,bP (by rw [h.la,←h.ld];exact hlt)];refine⟨l,vs,rfl,rfl,fun i=>?_⟩
    subst hl;by_cases hi:i<vs.size
    ·have hv:nth (vs.toList.map D.v) i = .v vs[i]:=by
      rw [cM,EW];simp [hi]
     have hv2:vs.getD i undef=vs[i]:=by simp [Array.getD,hi]
     rw [hv,hv2];refine .inr ?_
     have hfl:=hf vs[i] (by simp);obtain⟨v,hv0⟩:∃v,v=vs[i]:=⟨_,rfl⟩
     rw [←hv0] at hfl ⊢;clear hv hv2 hv0
     match i,hi with
     | 0,_=>exact aU hfl
     | 1,_=>exact aU hfl
     | 2,_=>exact aU hfl
     | i+3,hi=>omega
    ·refine .inl ?_
     rw [cM,EW,Fg (by simpa using hi)];rfl
   ·rw [if_neg hlt]
    exact .inl rfl
 ·subst e
  rw [(h.fl b hb).2] at hO;cases hO
 ·subst e
  rw [hO] at hp;cases hp;exact hn (by simp)
theorem xj {o:Oper} {q:Nat} (ho:o.op = .next (.tmp q) true):ed P c o:=by
 intro A hA B X w0 F0 F O a w δ hI k r hg Q;simp only [bm,ho] at hA;unfold CH at hA;split at hA
 ·cases hA
 rename_i d hd;split at hA
 case h_2=>cases hA
 rename_i l1 l2 l3 hq hk;cases hA;simp only [bO,ae,cK,nth] at hg;obtain⟨y,h1,h2⟩:=EU.1 hg;have hb:nth δ q ≠ .bad:=fun e=>by
  rw [e] at h1;simp [nxS] at h1
 obtain⟨s,p,g,a1,a2,a3,a4,a5⟩:=hI.itr hq hb;have hgl:=(hI.ol g _ a4).1;rw [a1] at h1 h2;simp only [nxS] at h1;simp only [nxT] at h2;have hex:execOp a.eval o=(do pure (.value (←FU (av a q) true o.type))):=by simp only [execOp,ho,aZ]
 split at h1
 ·rename_i ch hch
  split at h1
  case isFalse=>cases h1
  rename_i hasc;cases h1;rw [hch] at h2;have hlt:p<s.size:=by
   have:=(Fq.1 hch).1;rw [Gf] at this;exact this
  have hcc:s[p]'hlt=ch:=by
   have:=(Fq.1 hch).2;rw [←this];rfl
  have hr:=wv (P:=P) o.type a3 hlt (by rw [hcc];exact hasc);rw [hcc] at hr;refine bd hd (bI hex (by rw [a2];exact hr)) (hI.nextI (w':={w with heap:=w.heap.setIfInBounds g (.stringIter s (p+1))}) hq hk a4 a5 a2 s (p+1) (vs:=#[.bool true,.int .i64 p,.int .i32 ch.toNat]) rfl (by simp [flat]) (by simp) ?_ (fun b hne=>?_) ?_ rfl rfl rfl) h2 Q
  ·simp [hgl]
  ·simp [FV hne]
  ·simp
 ·rename_i hch
  cases h1;rw [hch] at h2;have hlt:¬p<s.size:=by
   have:=List.getElem?_eq_none_iff.1 hch;rw [Gf] at this;exact Nat.not_lt.2 this
  have hr:=tR (P:=P) o.type a3 hlt;exact bd hd (bI hex (by rw [a2];exact hr)) (hI.nextI hq hk a4 a5 a2 s p (vs:=#[.bool false]) rfl (by simp [flat]) (by simp) a3 (fun _ _=>rfl) rfl rfl rfl rfl) h2 Q
theorem tm {o:Oper} {t:Nat} (ho:o.op = .makeMap t none):ed P c o:=by
 intro A hA B X w0 F0 F O a w δ hI k r hg Q;simp only [bm,ho] at hA;obtain⟨i,hi,hA⟩:=ak hA;split at hA
 case h_2=>cases hA
 unfold Ca at hA;split at hA
 ·cases hA
 rename_i d hd;split at hA
 case h_2=>cases hA
 rename_i hk;cases hA;simp only [bO] at hg;have hrun:(execOp a.eval o).run P w = .ok (.value (.map (some w.heap.size))) (w.alloc (.map #[] 0)):=by
  refine bI (s:=Instr.makeMap t none) (by simp only [execOp,ho,Option.map_none]) ?_
  simp [Instr.makeMap,newObj,Sem.run]
 obtain⟨F',O',hI'⟩:=hI.installM (ts:=[]) (l:=[]) (es:=#[]) (clock:=0) (.inl hk) (heap_alloc_new w _) rfl hI.bb (.inl (Gj _)) (by simp) (fun b hb=>heap_alloc_old w _ hb) rfl rfl rfl;exact bd hd hrun hI' hg Q
theorem uJ (n:Int) (v:Bool) (fk:MapEntry→MapEntry) (hf:∀e,(fk e).key = .int .i64 n∧(fk e).val = .bool v):∀(l:List (Int × Bool)) (es:List MapEntry) (i:Nat),
  es.map (fun e=>(e.key,e.val))=l.map (fun p=>(Value.int .i64 p.1,Value.bool p.2)) →
  (FE (.int .i64) (.int .i64 n) es i=some none∧tP l n=false∧sm l n v=l++[(n,v)]) ∨
  ∃p e,FE (.int .i64) (.int .i64 n) es i=some (some (i+p,.bool (tP l n)))∧es[p]?=some e∧e.key = .int .i64 n∧(es.modify p fk).map (fun e=>(e.key,e.val))=(sm l n v).map fun p=>(Value.int .i64 p.1,Value.bool p.2)
 | [],[],_,_=>.inl ⟨rfl,rfl,rfl⟩
 | [],_::_,_,h=>by cases h
 | _::_,[],_,h=>by cases h
 | (m,b)::l,e::es,i,h=>by
  simp only [Fb,EZ,Prod.mk.injEq] at h;obtain⟨⟨h1,h2⟩,h3⟩:=h;by_cases hm:m=n
  ·subst hm
   refine .inr ⟨0,e,by simp [FE,Gd,h1,h2,tP],rfl,h1,?_⟩
   simp [sm,hf,h3]
  ·have hnm:(n==m)=false:=beq_eq_false_iff_ne.2 (FV hm)
   rcases uJ n v fk hf l es (i+1) h3 with ⟨g1,g2,g3⟩ | ⟨p,e',g1,g2,g3,g4⟩
   ·refine .inl ⟨by simp [FE,Gd,h1,hnm,g1],by simp [tP,hm,g2],by simp [sm,hm,g3]⟩
   ·refine .inr ⟨p+1,e',?_,by simpa using g2,g3,?_⟩
    ·simp [FE,Gd,h1,hnm,g1,tP,hm]
     omega
    ·simp [sm,hm,h1,h2,g4]
theorem mr (n:Int):Go.MapKept.IsKey (.int .i64) (.int .i64 n):=rfl
theorem nk {t k e:TypeId} {g:Nat} {es:Array MapEntry} {clock:Nat} {l:List (Int × Bool)} {n:Int} (hu:P.underlying t=some (.map k e)) (hk:P.underlying k=some (.int .i64)) (hz:∀w:World,(zeroValue e).run P w = .ok (.bool false) w)
  (hb:w.heap[g]?=some (.map es clock)) (he:qC es l):(FI t (.map (some g)) (.int .i64 n) false).run P w = .ok (.bool (tP l n)) w:=by
 rcases uJ n false (fun e=>{e with key:=.int .i64 n,val:=.bool false}) (fun _=>⟨rfl,rfl⟩) l es.toList 0 he with ⟨g1,g2,_⟩ | ⟨p,e',g1,_,_,_⟩
 ·simp [FI,run_underlying hu,Fr hb,Fj hk (mr n),Fk hk g1,hz,Fy,g2]
 ·simp [FI,run_underlying hu,Fr hb,Fj hk (mr n),Fk hk g1,Fy]
theorem rW {t k e:TypeId} {n:Int} (hu:P.underlying t=some (.map k e)) (hk:P.underlying k=some (.int .i64)) (hz:∀w:World,(zeroValue e).run P w = .ok (.bool false) w) :
  (FI t (.map none) (.int .i64 n) false).run P w = .ok (.bool false) w:=by
 simp [FI,run_underlying hu,Fj hk (mr n),Fk hk (show FE (.int .i64) (.int .i64 n) [] 0=some none from rfl),hz,Fy]
theorem tI {t k e:TypeId} {g:Nat} {es:Array MapEntry} {clock:Nat} {l:List (Int × Bool)} {n:Int} {v:Bool} (hu:P.underlying t=some (.map k e)) (hk:P.underlying k=some (.int .i64))
  (hb:w.heap[g]?=some (.map es clock)) (he:qC es l):∃es' clock',(Ga t (.map (some g)) (.int .i64 n) (.bool v)).run P w = .ok () {w with heap:=w.heap.setIfInBounds g (.map es' clock')}∧qC es' (sm l n v):=by
 rcases uJ n v (fun e=>{e with key:=.int .i64 n,val:=.bool v}) (fun _=>⟨rfl,rfl⟩) l es.toList 0 he with ⟨g1,_,g3⟩ | ⟨p,e',g1,g2,g3,g4⟩
 ·refine⟨es.push {key:=.int .i64 n,val:=.bool v,born:=clock},clock+1,?_,?_⟩
  ·simp [Ga,run_underlying hu,Fr hb,Fj hk (mr n),Fk hk g1,Go.MapKept.run_setObj_map _ hb,Fy]
  ·unfold qC at he ⊢
   rw [g3];simp [he]
 ·refine⟨es.modify p fun e=>{e with key:=.int .i64 n,val:=.bool v},clock,?_,?_⟩
  ·have hj:es[p]?=some e':=by simpa using g2
   have hs:=Go.MapKept.run_keyThatStays (P:=P) (w:=w) (mr n);simp [Ga,run_underlying hu,Fr hb,Fj hk (mr n),Fk hk g1,hj,g3,hs,Go.MapKept.run_setObj_map _ hb,Fy]
  ·unfold qC
   rw [Array.toList_modify];exact g4
theorem va (hT:okT P c.T=true) {o:Oper} {t q:Nat} {x:Operand} (ho:o.op = .lookup t (.tmp q) x false):ed P c o:=by
 intro A hA B X w0 F0 F O a w δ hI k r hg Q;simp only [bm,ho] at hA;obtain⟨i,hi,hA⟩:=ak hA;split at hA
 case h_2=>cases hA
 rename_i hm;obtain⟨kt,et,hu,hkt,hz⟩:=(tok hT hi).mp hm;have hex:execOp a.eval o=(do pure (.value (←FI t (av a q) (a.eval x) false))):=by simp only [execOp,ho,aZ]
 have own:∀(r d lv:Nat),ah c.K r = .mpo→av a q=av a r→ah c.K d = .dat lv→co c.K x≤2→∀z,lkD (nth δ r) (opD δ x)=some z→∃y,(execOp a.eval o).run P w = .ok (.value y) w∧rN c.K B F a w δ d z y:=by
  intro r d lv hq hav hkd hlv z hzz;have hb:nth δ r ≠ .bad:=fun e=>by
   rw [e] at hzz;simp [lkD] at hzz
  obtain⟨l,g,es,clock,e1,e2,e3,e4,_⟩:=hI.mpo hq hb;rw [e1] at hzz;unfold lkD at hzz;split at hzz
  case h_2=>cases hzz
  rename_i l' n e5 e6;cases e5;cases hzz;have h2:=hI.opd hlv;rw [e6] at h2;obtain⟨h2,_⟩:=ay h2;refine⟨.bool (tP l n),bI hex ?_,.inr ?_⟩
  ·rw [h2,hav,e2]
   exact nk hu hkt hz e3 e4
  ·rw [hkd]
   exact aU rfl
 unfold CW at hA;split at hA
 ·rename_i lv hq
  refine aB hA hI hg (fun hx z hzz=>?_) Q
  obtain⟨d1,d2,e,hzz⟩:=eh hzz;simp only [Fb,FH,EZ,and_true] at e;obtain⟨rfl,rfl⟩:=e;unfold lkD at hzz;split at hzz
  case h_2=>cases hzz
  rename_i l n e1 e2;cases hzz;have h1:=(hx (.tmp q) (by simp)).2.rep (by rw [e1];simp);have h2:=(hx x (by simp)).2;rw [e1] at h1;rw [e2] at h2;obtain⟨h2,_⟩:=ay h2;simp only [bp,RepC,aZ] at h1;refine⟨.bool (tP l n),bI hex ?_,.inr (aU rfl)⟩
  rw [h2];rcases h1 with ⟨h1,rfl⟩ | ⟨g,es,clock,h1,_,h3,h4⟩
  ·simp only [EZ,and_true] at h1
   rw [h1];exact rW hu hkt hz
  ·simp only [EZ,and_true] at h1
   rw [h1];exact nk hu hkt hz h3 h4
 ·rename_i hq
  split at hA
  ·cases hA
  rename_i d hd;split at hA
  case h_2=>cases hA
  rename_i lv hkd hlv;cases hA;refine bj hI hd hg (fun z hzz=>?_) Q
  simp only [ae] at hzz;rw [aV] at hzz;obtain⟨d1,e,hzz⟩:=aK hzz;simp only [Fb,FH,EZ,and_true] at e;subst e;exact own q d lv hq rfl hkd (aM.1 hlv) z hzz
 ·rename_i rr hq
  split at hA
  case h_2=>cases hA
  rename_i d hkr hd;split at hA
  case h_2=>cases hA
  rename_i lv hkd hlv;cases hA;refine bj hI hd hg (fun z hzz=>?_) Q
  simp only [ae] at hzz;obtain⟨b,hb1,hzz⟩:=EU.1 hzz;obtain⟨hpb,rfl⟩:=aJ hb1;rw [aV] at hzz;obtain⟨d1,e,hzz⟩:=aK hzz;simp only [Fb,FH,EZ,and_true] at e;subst e;exact own rr d lv hkr (hI.via hq hpb).1 hkd (aM.1 hlv) z hzz
 ·cases hA
theorem qH (hT:okT P c.T=true) {o:Oper} {t q:Nat} {x y:Operand} (ho:o.op = .mapUpdate t (.tmp q) x y):ed P c o:=by
 intro A hA B X w0 F0 F O a w δ hI k r hg Q;simp only [bm,ho] at hA;split at hA
 case h_2=>cases hA
 rename_i hdst;obtain⟨i,hi,hA⟩:=ak hA;split at hA
 case h_2=>cases hA
 rename_i hm;obtain⟨kt,et,hu,hkt,hz⟩:=(tok hT hi).mp hm;have main:∀(r1:Nat),ah c.K r1 = .mpo→av a q=av a r1→fJ c.K [x,y]≤2→∀z,upM (nth δ r1) ([x,y].map (opD δ))=some z→k (af δ ([]++([r1]++aH c.K [])) [z])=some r→o.wp P a w (Next c B X w0 F0 k r) Q:=by
  intro r1 hq hav hlv z h1 h2;have hb:nth δ r1 ≠ .bad:=fun e=>by
   rw [e] at h1;simp [upM] at h1
  obtain⟨l,g,es,clock,e1,e2,e3,e4,e5,e6⟩:=hI.mpo hq hb;rw [e1] at h1;unfold upM at h1;split at h1
  case h_2=>cases h1
  rename_i l' n v e7 e8;cases e7;cases h1;simp only [Fb,FH,EZ,and_true] at e8;have hlx:=eZ hlv x (by simp);have hly:=eZ hlv y (by simp);have hx:=hI.opd hlx;have hy:=hI.opd hly;rw [e8.1] at hx;rw [e8.2] at hy;obtain⟨hx,_⟩:=ay hx;obtain⟨hy,_⟩:=ay hy;obtain⟨es',clock',hrun,he'⟩:=tI (P:=P) (w:=w) (n:=n) (v:=v) hu hkt e3 e4;have hgl:=(hI.ol g _ e5).1;have hex:(execOp a.eval o).run P w = .ok .skip {w with heap:=w.heap.setIfInBounds g (.map es' clock')}:=by
   simp only [execOp,ho,aZ,hav,e2,hx,hy];simp [hrun]
  have e0:∀s,nth (af δ ([]++[r1]) [.mp (sm l n v)]) s=if s=r1 then(if r1<δ.length then .mp (sm l n v) else .bad) else nth δ s:=by
   intro s;simp only [Fw,af];by_cases h:s=r1
   ·subst h
    rw [if_pos rfl,aP]
   ·rw [if_neg h,bw _ _ _ _ h]
  refine ww hex ⟨F,O,_,?_,h2⟩
  rw [hdst];refine hI.many (hw:=[]) (cw:=[r1]) (outs:=[.mp (sm l n v)]) (by simp) rfl rfl (fun s _=>rfl) (fun r' hr _ hbr=>?_) (fun s hs=>?_) (fun _ hb=>hb) (fun b hbF=>?_) (fun b p hp hn=>⟨hp,?_⟩) (fun b hbF=>⟨by simpa using (hI.fl b hbF).1,(hI.fl b hbF).2⟩) (fun b p hp=>⟨by simpa using (hI.ol b p hp).1,(hI.ol b p hp).2⟩) (fun _ hb=>.inl hb) (by simp) rfl rfl rfl (fun b hbB _=>?_)
  ·simp at hr
   subst hr;rw [e0,if_pos rfl];by_cases hlt:r'<δ.length
   ·rw [if_pos hlt]
    simp
   ·refine absurd ?_ hbr
    rw [cM,EW,Fg (by omega)];rfl
  ·simp at hs
   subst hs;rw [e0,if_pos rfl];by_cases hlt:s<δ.length
   ·rw [if_pos hlt]
    refine .inr ?_
    rw [hq];exact .inr ⟨_,g,es',clock',rfl,e2,by simp [hgl],he',e5,e6⟩
   ·rw [if_neg hlt]
    exact .inl rfl
  ·have hne:b≠g:=fun e=>by
    subst e;rw [(hI.fl b hbF).2] at e5;cases e5
   simp [FV hne]
  ·have hne:b≠g:=fun e=>by
    subst e;rw [e5] at hp;cases hp;exact hn (by simp)
   simp [FV hne]
  ·have hne:b≠g:=by omega
   simp [FV hne]
 unfold Co at hA;split at hA
 ·rename_i hq hlv
  cases hA;simp only [bO,ae] at hg;rw [aV] at hg;obtain⟨z,h1,h2⟩:=EU.1 hg;exact main q hq rfl (aM.1 hlv) z h1 h2
 ·rename_i rr hq hlv
  split at hA
  case h_2=>cases hA
  rename_i hkr;cases hA;simp only [bO,ae] at hg;obtain⟨b,hb1,hg⟩:=EU.1 hg;obtain⟨hpb,rfl⟩:=aJ hb1;rw [aV] at hg;obtain⟨z,h1,h2⟩:=EU.1 hg;exact main rr hkr (hI.via hq hpb).1 (aM.1 hlv) z h1 h2
 ·cases hA
end
end Go.V

namespace Go.V
open Go.RowKit
set_option maxRecDepth 100000
section
variable {P:Program} {c:Cx}
theorem oW {o:Oper} {q:Call} (ho:o.op = .call q) {bi:Builtin} (hq:q.callee = .builtin bi) (f:D→D→Option D) (g:Value→Value→Sem Value) (hbi:(bi = .min∧f=yD∧g=Gg)∨(bi = .max∧f=zy∧g=Gh))
  {A:Ac} (hA:aT c o.dst q.args.toList 0 (sw f)=some A) {B:Nat} {X:Nat→Prop} {w0:World} {F0 F:Nat→Prop} {O:Nat→Option (Nat × Nat)} {a:Act} {w:World} {δ:List D} (hI:Inv c B X w0 F0 F O a w δ) {k:List D→Option Out} {r:Out} (hg:bO c A δ k=some r) (Q:Exit→Act→World→Prop):o.wp P a w (Next c B X w0 F0 k r) Q:=by
 rcases hbi with ⟨rfl,rfl,rfl⟩ | ⟨rfl,rfl,rfl⟩
 ·refine qu ho hq rfl (f:=yD) (g:=Gg) (fun w G a b z x y ha hb h=>Cu ha hb h) (fun x rest v he hr=>?_) hA hI hg Q
  simp [builtin,Builtin.min_,he,hr]
 ·refine qu ho hq rfl (f:=zy) (g:=Gh) (fun w G a b z x y ha hb h=>CK ha hb h) (fun x rest v he hr=>?_) hA hI hg Q
  simp [builtin,Builtin.max_,he,hr]
theorem yV (hT:okT P c.T=true) (hS:∀f S,cb c.S f=some S→ao c.G P f S) (o:Oper):ed P c o:=by
 intro A hA B X w0 F0 F O a w δ hI k r hg Q;have hA0:=hA;unfold bm at hA;split at hA
 case h_1 x ho=>exact wg (.inl ho) hA hI hg Q
 case h_2 x ho=>exact wg (.inr ho) hA hI hg Q
 case h_3 q x y ho=>exact xw ho A hA0 B X w0 F0 F O a w δ hI k r hg Q
 case h_4 t ho=>exact vr hT ho A hA0 B X w0 F0 F O a w δ hI k r hg Q
 case h_5 t x ho=>exact yA ho A hA0 B X w0 F0 F O a w δ hI k r hg Q
 case h_6 t ps ho=>exact wJ hT ho A hA0 B X w0 F0 F O a w δ hI k r hg Q
 case h_7 t n ps ho=>exact pL hT ho A hA0 B X w0 F0 F O a w δ hI k r hg Q
 case h_8 t p ho=>exact wX hT ho A hA0 B X w0 F0 F O a w δ hI k r hg Q
 case h_9 t p x ho=>exact vC hT ho A hA0 B X w0 F0 F O a w δ hI k r hg Q
 case h_10 x ho=>exact sM ho A hA0 B X w0 F0 F O a w δ hI k r hg Q
 case h_11 op t x y _ ho=>exact wM hT ho A hA0 B X w0 F0 F O a w δ hI k r hg Q
 case h_12 op t x ho=>exact wV ho A hA0 B X w0 F0 F O a w δ hI k r hg Q
 case h_13 s t x ho=>exact tl hT ho A hA0 B X w0 F0 F O a w δ hI k r hg Q
 case h_14 f u v ho=>exact rM ho A hA0 B X w0 F0 F O a w δ hI k r hg Q
 case h_15 t n m ho=>exact rb hT ho A hA0 B X w0 F0 F O a w δ hI k r hg Q
 case h_16 t x lo hi ho =>
  have hA1:=ak hA;clear hA;obtain⟨i,hi',hA⟩:=hA1;have main:∀(hsl:i.str=false→gW i=true),wH c o.dst i x lo hi=some A→o.wp P a w (Next c B X w0 F0 k r) Q:=by
   intro hsl hA;have hA2:=hA;unfold wH at hA2;split at hA2
   case h_2=>cases hA2
   rename_i q;split at hA2
   ·rename_i lv hk;exact qP hT ho hi' hsl hk hA hI hg Q
   ·exact lg hT ho hi' hsl hA2 hI hg Q
   ·exact lg hT ho hi' hsl hA2 hI hg Q
   ·cases hA2
  split at hA
  ·rename_i h1 h2;exact main (fun _=>h1) hA
  ·rename_i h1 h2;exact main (fun h=>by rw [h] at h2;cases h2) hA
  ·cases hA
 case h_17 t x f ho=>exact qG hT ho A hA0 B X w0 F0 F O a w δ hI k r hg Q
 case h_18 t x f ho=>exact vO hT ho A hA0 B X w0 F0 F O a w δ hI k r hg Q
 case h_19 t x i ho=>exact qV hT ho A hA0 B X w0 F0 F O a w δ hI k r hg Q
 case h_20 t x i ho=>exact vp hT ho A hA0 B X w0 F0 F O a w δ hI k r hg Q
 case h_21 x i ho=>exact tY ho A hA0 B X w0 F0 F O a w δ hI k r hg Q
 case h_22 q ho =>
  unfold yF at hA;split at hA
  ·rename_i x t hq h1 h2
   have hA1:=ak hA;clear hA;obtain⟨i,hi,hA⟩:=hA1;have eq:q={callee:=.builtin .len,args:=#[x],argTypes:=#[t]}:=by
    obtain⟨cl,ar,ty⟩:=q;simp only at hq h1 h2;subst hq;congr
    ·rw [←FC (xs:=ar),h1]
    ·rw [←FC (xs:=ty),h2]
   rw [eq] at ho;split at hA
   ·rename_i g1 g2
    exact su hT ho hi (fun _=>g1) (fun h=>by cases h) hA hI hg Q
   ·rename_i g1 g2
    exact su hT ho hi (fun h=>by cases h) (fun _=>g2) hA hI hg Q
   ·cases hA
  ·rename_i s x t u hq h1 h2
   split at hA
   case h_2=>cases hA
   rename_i htu;rw [aq] at htu;subst htu;have hA1:=ak hA;clear hA;obtain⟨i,hi,hA⟩:=hA1;have hA1:=ak hA;clear hA;obtain⟨e,he,hA⟩:=hA1;split at hA
   case h_2=>cases hA
   rename_i hsl;exact vl hT ho hq h1 h2 hi he hsl hA hI hg Q
  ·rename_i hq;exact oW ho hq yD Gg (.inl ⟨rfl,rfl,rfl⟩) hA hI hg Q
  ·rename_i hq;exact oW ho hq zy Gh (.inr ⟨rfl,rfl,rfl⟩) hA hI hg Q
  ·rename_i f hq
   split at hA
   case h_2=>cases hA
   rename_i S hlk;exact xJ hS ho hq hlk hA hI hg Q
  ·rename_i t hq
   split at hA
   case h_2=>cases hA
   rename_i f hC;split at hA
   case h_2=>cases hA
   rename_i S hlk;exact zD hS ho hq hlk hA hI hg Q
  ·cases hA
 case h_23 t x ho=>exact wy hT ho A hA0 B X w0 F0 F O a w δ hI k r hg Q
 case h_24 q ho=>exact xj ho A hA0 B X w0 F0 F O a w δ hI k r hg Q
 case h_25 t ho=>exact tm ho A hA0 B X w0 F0 F O a w δ hI k r hg Q
 case h_26 t q x y ho=>exact qH hT ho A hA0 B X w0 F0 F O a w δ hI k r hg Q
 case h_27 t q x ho=>exact va hT ho A hA0 B X w0 F0 F O a w δ hI k r hg Q
 case h_28=>cases hA
def Nt (n:Nat) (f:(List D→Option Out)→Option Out):Prop:=∃o:Option (List D),(∀k,f k=o.bind k)∧∀l,o=some l→l.length=n
def eP:Ac→Prop
 | .one _ _ _=>True
 | .many _ hw cw fn=>∀is,Nt (hw++cw).length (fn is)
theorem cY {n:Nat} {l:List D} (h:l.length=n):Nt n (fun k=>k l):=⟨some l,fun _=>rfl,fun l' e=>by cases e;exact h⟩
theorem fp {n:Nat}:Nt n (fun _=>none):=⟨none,fun _=>rfl,fun _ e=>by cases e⟩
theorem cf {n:Nat} {X:Option D} {f:D→(List D→Option Out)→Option Out} (h:∀y,Nt n (f y)):Nt n (fun k=>X.bind fun y=>f y k):=by
 cases X with
 | none=>exact fp
 | some y=>exact h y
theorem Be {n:Nat} {X:Option (List D)} {f:List D→(List D→Option Out)→Option Out} (h:∀y,Nt n (f y)):Nt n (fun k=>X.bind fun y=>f y k):=by
 cases X with
 | none=>exact fp
 | some y=>exact h y
theorem kF {n:Nat} {is:List D} {i:Nat} {f:D→(List D→Option Out)→Option Out} (h:∀y,Nt n (f y)):Nt n (fun k=>cC is i fun y=>f y k):=by
 simp only [cK];exact h _
theorem Ae {n q r:Nat} {is:List D} {f:D→D→List D→(List D→Option Out)→Option Out} (h:∀b p is,Nt n (f b p is)):Nt n (fun k=>goP q r is fun b p is=>f b p is k):=by
 unfold goP;cases Fe q r
 ·rcases is with _ | ⟨p,_ | ⟨b,is⟩⟩
  ·exact fp
  ·exact fp
  ·exact h _ _ _
 ·cases is with
  | nil=>exact fp
  | cons b is=>exact h _ _ _
theorem Az {n m:Nat} {chk:Bool} {b p y:D} {f:D→(List D→Option Out)→Option Out} (h:∀y,Nt n (f y)):Nt n (fun k=>stK chk m b p y fun b=>f b k):=by
 unfold stK;cases chk
 ·exact cf h
 ·exact cf fun _=>cf h
theorem uS {n:Nat} {rd:List Nat} {is:List D} {f:D→(List D→Option Out)→Option Out} (h:∀y,Nt n (f y)):Nt n (fun k=>fC rd is fun y=>f y k):=by
 unfold fC;rcases rd with _ | ⟨a,_ | ⟨b,rd⟩⟩
 ·exact h _
 ·exact kF h
 ·exact kF fun p=>kF fun x=>cf h
theorem Ba {n:Nat} {ags:List Ag} {is:List D} {f:List D→(List D→Option Out)→Option Out} (h:∀y,Nt n (f y)):Nt n (fun k=>er [] ags is fun y=>f y k):=by
 simp only [eH,Fw];cases bs ags is with
 | none=>exact fp
 | some y=>exact h y
theorem yi {n:Nat} {r:Option Out} {f:List D→List D→(List D→Option Out)→Option Out} (h:∀y z,Nt n (f y z)):Nt n (fun k=>ai r fun y z=>f y z k):=by
 unfold ai;split
 ·exact h _ _
 ·exact fp
theorem aR {dst:Option Nat} {xs:List Operand} {lv:Nat} {h:List D→Option D} {A:Ac} (hA:aT c dst xs lv h=some A):eP A:=by
 unfold aT at hA
 repeat' (split at hA)
 all_goals first | (cases hA;done) | (cases hA;trivial)
theorem yG {rd:List Nat} {d lv l:Nat} {h:List D→Option D} {A:Ac} (hA:CS (fun h=>Ac.one rd d h) (uC lv l h)=some A):eP A:=by
 unfold uC at hA
 repeat' (split at hA)
 all_goals first | (cases hA;done) | (cases hA;trivial)
theorem vI {dst:Option Nat} {x:Operand} {t:Nat} {A:Ac} (hA:vv c dst x t=some A):eP A:=by
 unfold vv at hA
 repeat' (split at hA)
 all_goals first
  | (cases hA;done)
  | exact aR hA
  | (cases hA;trivial)
  | (cases hA;exact fun is=>kF fun x=>cY rfl)
  | (cases hA;exact fun is=>kF fun p=>kF fun x=>cf fun y=>cY rfl)
  | (cases hA;exact fun is=>cY rfl)
  | (obtain⟨i,_,hA⟩:=ak hA;exact aR hA)
theorem Br {dst:Option Nat} {i:TI} {p:Operand} {A:Ac} (hA:Cy c dst i p=some A):eP A:=by
 unfold Cy at hA
 repeat' (split at hA)
 all_goals first | (cases hA;done) | exact aR hA | exact yG hA
theorem Aj {i:TI} {p x:Operand} {A:Ac} (hA:AF c i p x=some A):eP A:=by
 have main:∀q r lv,vT c i q r lv x=some A→eP A:=by
  intro q r lv hA;unfold vT at hA
  repeat' (split at hA)
  all_goals first
   | (cases hA;done)
   | (cases hA;exact fun is=>Ae fun b p is=>kF fun y=>Az fun b=>cY rfl)
   | (cases hA;exact fun is=>Ae fun b p is=>Az fun b=>cY rfl)
 unfold AF at hA
 repeat' (split at hA)
 all_goals first | (cases hA;done) | exact main _ _ _ hA
theorem AK {dst:Option Nat} {i:TI} {f:Nat} {p:Operand} {A:Ac} (hA:CL c dst i f p=some A):eP A:=by
 unfold CL at hA
 repeat' (split at hA)
 all_goals first | (cases hA;done) | exact aR hA | (cases hA;trivial)
theorem zV {dst:Option Nat} {i:TI} {x y:Operand} {A:Ac} (hA:Dh c dst i x y=some A):eP A:=by
 unfold Dh at hA
 repeat' (split at hA)
 all_goals first | (cases hA;done) | exact aR hA | (cases hA;trivial)
theorem Bw {dst:Option Nat} {i:TI} {n:Nat} {ps:List (Nat × Operand)} {A:Ac} (hA:Cp c dst i n ps=some A):eP A:=by
 unfold Cp at hA;simp only at hA
 repeat' (split at hA)
 all_goals first | (cases hA;done) | (cases hA;exact fun is=>cf fun y=>cY rfl)
theorem Bz {n:Nat} {chk:Bool} {b:D} {f:D→(List D→Option Out)→Option Out} (h:∀y,Nt n (f y)):Nt n (fun k=>xI chk b fun b=>f b k):=by
 cases chk
 ·exact h b
 ·exact cf h
theorem Bj {dst:Option Nat} {i:TI} {x y:Operand} {A:Ac} (hA:Bs c dst i x y=some A):eP A:=by
 have main:∀d chk rs rx os,zN c d i chk rs rx os=some A→eP A:=by
  intro d chk rs rx os hA;unfold zN at hA
  repeat' (split at hA)
  all_goals first
   | (cases hA;done)
   | (cases hA;exact fun is=>uS fun a=>uS fun b=>Bz fun b=>cf fun y=>cY rfl)
   | (cases hA;exact fun is=>uS fun b=>Bz fun b=>cf fun y=>cY rfl)
 unfold Bs at hA
 repeat' (split at hA)
 all_goals first
  | (cases hA;done)
  | exact main _ _ _ _ _ hA
theorem AW {dst:Option Nat} {str:Bool} {x:Operand} {A:Ac} (hA:yP c dst str x=some A):eP A:=by
 unfold yP at hA
 repeat' (split at hA)
 all_goals first | (cases hA;done) | exact aR hA | (cases hA;trivial)
theorem AY {dst:Option Nat} {i:TI} {x:Operand} {lo hi:Option Operand} {A:Ac} (hA:wH c dst i x lo hi=some A):eP A:=by
 have own:ul c dst i x lo hi=some A→eP A:=by
  intro hA;unfold ul at hA
  repeat' (split at hA)
  all_goals first | (cases hA;done) | (cases hA;exact fun is=>uS fun a=>cf fun y=>cY rfl)
 unfold wH at hA
 repeat' (split at hA)
 all_goals first | (cases hA;done) | exact aR hA | exact own hA
theorem Bo {dst:Option Nat} {i e:TI} {x y:Operand} {A:Ac} (hA:CN c dst i e x y=some A):eP A:=by
 unfold CN at hA
 repeat' (split at hA)
 all_goals first | (cases hA;done) | (cases hA;exact fun is=>cf fun y=>cY rfl)
theorem BG {dst:Option Nat} {i:TI} {x:Operand} {A:Ac} (hA:Dd c dst i x=some A):eP A:=by
 unfold Dd at hA
 repeat' (split at hA)
 all_goals first | (cases hA;done) | (cases hA;exact fun is=>cf fun y=>cY rfl) | (cases hA;exact fun is=>cf fun y=>cf fun y=>cY rfl)
theorem zL {dst:Option Nat} {t f:Nat} {S:FS} {xs:List Operand} {A:Ac} (hA:vM c dst t f S xs=some A):eP A:=by
  unfold vM at hA
  repeat' (split at hA)
  all_goals first
    | (cases hA;done)
    | (cases hA;exact fun is=>by
        cases is with
        | nil=>exact fp
        | cons cl is=>exact Be fun caps=>Ba fun ds=>yi fun rs us=>cY rfl)
theorem At {dst:Option Nat} {i:TI} {A:Ac} (hA:Cw c dst i=some A):eP A:=by
 unfold Cw at hA
 repeat' (split at hA)
 all_goals first | (cases hA;done) | (cases hA;exact fun is=>cY rfl)
theorem Aw {dst:Option Nat} {x:Operand} {i:Nat} {A:Ac} (hA:Di c dst x i=some A):eP A:=by
 unfold Di at hA
 repeat' (split at hA)
 all_goals first | (cases hA;done) | (cases hA;trivial) | (cases hA;exact fun is=>kF fun t=>cf fun y=>cY rfl)
theorem vZ (us:List D):∀(ios:List Nat) (j:Nat),(nO.go us j ios).length=ios.length
 | [],_=>rfl
 | _::l,j=>by simp [nO.go,vZ us l]
theorem AM {dst:Option Nat} {S:FS} {xs:List Operand} {A:Ac} (hA:nO c dst S xs=some A):eP A:=by
 unfold nO at hA;split at hA
 ·cases hA
 simp only at hA;split at hA
 case h_2=>cases hA
 repeat' (split at hA)
 all_goals first
  | (cases hA;done)
  | (cases hA;exact fun is=>Ba fun ds=>yi fun rs us=>cY (by simp [nO.outs,vZ]))
theorem zX {dst:Option Nat} {i j:TI} {x:Operand} {A:Ac} (hA:CO c dst i j x=some A):eP A:=by
 unfold CO at hA
 repeat' (split at hA)
 all_goals first | (cases hA;done) | exact aR hA | (cases hA;trivial)
theorem zS {dst:Option Nat} {i:TI} {x y:Operand} {A:Ac} (hA:Cm c dst i x y=some A):eP A:=by
 unfold Cm at hA
 repeat' (split at hA)
 all_goals first | (cases hA;done) | exact aR hA | (obtain⟨i,_,hA⟩:=ak hA;exact aR hA)
theorem Bh {dst:Option Nat} {i:TI} {ps:List (Nat × Operand)} {A:Ac} (hA:CM c dst i ps=some A):eP A:=by
 unfold CM at hA;simp only at hA
 repeat' (split at hA)
 all_goals first | (cases hA;done) | exact aR hA
theorem AJ {dst:Option Nat} {x:Operand} {A:Ac} (hA:CG c dst x=some A):eP A:=by
 unfold CG at hA
 repeat' (split at hA)
 all_goals first | (cases hA;done) | exact aR hA | (cases hA;trivial)
theorem Bm {dst:Option Nat} {q:Call} {A:Ac} (hA:yF c dst q=some A):eP A:=by
 unfold yF at hA;split at hA
 ·obtain⟨i,_,hA⟩:=ak hA
  split at hA<;>first | exact AW hA | cases hA
 ·split at hA
  ·obtain⟨i,_,hA⟩:=ak hA
   obtain⟨e,_,hA⟩:=ak hA;split at hA<;>first | exact Bj hA | cases hA
  ·cases hA
 ·exact aR hA
 ·exact aR hA
 ·split at hA<;>first | exact AM hA | cases hA
 ·repeat' (split at hA)
  all_goals first | exact zL hA | cases hA
 ·cases hA
theorem Ad {dst:Option Nat} {x:Operand} {A:Ac} (hA:CD c dst x=some A):eP A:=by
 unfold CD at hA
 repeat' (split at hA)
 all_goals first | (cases hA;done) | (cases hA;exact fun is=>cf fun y=>cY rfl)
theorem AQ {dst:Option Nat} {q:Nat} {A:Ac} (hA:CH c dst q=some A):eP A:=by
 unfold CH at hA
 repeat' (split at hA)
 all_goals first | (cases hA;done) | (cases hA;exact fun is=>kF fun x=>cf fun y=>cY rfl)
theorem BH {dst:Option Nat} {A:Ac} (hA:Ca c dst=some A):eP A:=by
 unfold Ca at hA
 repeat' (split at hA)
 all_goals first | (cases hA;done) | (cases hA;exact fun is=>cY rfl)
theorem zQ {q:Nat} {x y:Operand} {A:Ac} (hA:Co c q x y=some A):eP A:=by
 unfold Co at hA
 repeat' (split at hA)
 all_goals first
  | (cases hA;done)
  | (cases hA;intro is;rcases is with _ | ⟨b,is⟩;exact fp;exact cf fun y=>cY rfl)
  | (cases hA;intro is;rcases is with _ | ⟨p,_ | ⟨b,is⟩⟩;exact fp;exact fp;exact cf fun b=>cf fun y=>cY rfl)
theorem Bl {dst:Option Nat} {q:Nat} {x:Operand} {A:Ac} (hA:CW c dst q x=some A):eP A:=by
 unfold CW at hA
 repeat' (split at hA)
 all_goals first | (cases hA;done) | exact aR hA | (cases hA;trivial)
theorem uA {o:Oper} {A:Ac} (hA:bm c o=some A):eP A:=by
 unfold bm at hA;split at hA
 case h_1=>exact vI hA
 case h_2=>exact vI hA
 case h_3=>exact aR hA
 case h_4=>obtain⟨i,_,hA⟩:=ak hA;exact At hA
 case h_5=>obtain⟨i,_,hA⟩:=ak hA;exact BG hA
 case h_6=>obtain⟨i,_,hA⟩:=ak hA;exact Bh hA
 case h_7 =>
  obtain⟨i,_,hA⟩:=ak hA;obtain⟨e,_,hA⟩:=ak hA;split at hA<;>first | exact Bw hA | cases hA
 case h_8=>obtain⟨i,_,hA⟩:=ak hA;exact Br hA
 case h_9 =>
  split at hA
  ·obtain⟨i,_,hA⟩:=ak hA;exact Aj hA
  ·cases hA
 case h_10=>exact AJ hA
 case h_11 =>
  obtain⟨i,_,hA⟩:=ak hA;split at hA
  ·exact aR hA
  ·split at hA<;>exact aR hA
 case h_12=>exact aR hA
 case h_13 =>
  obtain⟨i,_,hA⟩:=ak hA;obtain⟨e,_,hA⟩:=ak hA;exact zX hA
 case h_14=>split at hA<;>first | exact aR hA | cases hA
 case h_15 =>
  obtain⟨i,_,hA⟩:=ak hA;obtain⟨e,_,hA⟩:=ak hA;split at hA<;>first | exact Bo hA | cases hA
 case h_16 =>
  obtain⟨i,_,hA⟩:=ak hA;split at hA<;>first | exact AY hA | cases hA
 case h_17=>obtain⟨i,_,hA⟩:=ak hA;exact AK hA
 case h_18 =>
  obtain⟨i,_,hA⟩:=ak hA;split at hA<;>first | exact aR hA | cases hA
 case h_19=>obtain⟨i,_,hA⟩:=ak hA;exact zV hA
 case h_20=>obtain⟨i,_,hA⟩:=ak hA;exact zS hA
 case h_21=>exact Aw hA
 case h_22=>exact Bm hA
 case h_23 =>
  obtain⟨i,_,hA⟩:=ak hA;split at hA<;>first | exact Ad hA | cases hA
 case h_24=>exact AQ hA
 case h_25 =>
  obtain⟨i,_,hA⟩:=ak hA;split at hA<;>first | exact BH hA | cases hA
 case h_26 =>
  split at hA
  ·obtain⟨i,_,hA⟩:=ak hA
   split at hA<;>first | exact zQ hA | cases hA
  ·cases hA
 case h_27 =>
  obtain⟨i,_,hA⟩:=ak hA;split at hA<;>first | exact Bl hA | cases hA
 case h_28=>cases hA
end
end Go.V

namespace Go.V
open Go.RowKit
set_option maxRecDepth 100000
def xm:Kd→Bool
 | .via _=>false
 | .ref _=>false
 | _=>true
def zx (c:Cx) (ops:List Oper) (o:Oper):Bool :=
 (match o.dst with
  | some d=>!mL (ah c.K d)
  | none=>true) &&
 (match o.guard with
  | none=>true
  | some (j,_)=>(match sP ops j with
    | some g=>(match ah c.K g with
     | .dat _=>true
     | _=>false)
    | none=>false) &&
   (match bm c o with
    | some (.one _ d _)=>(match o.dst with
     | some d'=>Fe d' d
     | none=>false)
    | some (.many _ hw cw _)=>(hw++cw).all (fun s=>xm (ah c.K s))&&(match o.dst with
     | some d=>jD d hw
     | none=>true)
    | none=>true))
def IoV (c:Cx) (V:Nat→Value) (a:Act):Prop:=∀s,mL (ah c.K s)=true→av a s=V s
theorem Ap {P:Program} {o:Oper} {a:Act} {next:Act→World→Prop} {Q:Exit→Act→World→Prop}:∀{res:Result Go.Next},o.upon P a next Q res→o.upon P a (fun a' w'=>next a' w'∧∀s,o.dst≠some s→av a' s=av a s) Q res:=by
 have key:∀(df:List Deferred) (v:Value) (s:Nat),o.dst≠some s→av (({a with defers:=df}:Act).put o.dst v) s=av a s:=by
  intro df v s hs;cases hd:o.dst with
  | none=>rfl
  | some d =>
   have:s≠d:=fun e=>hs (by rw [hd,e])
   exact(bk this).trans rfl
 have key0:∀(v:Value) (s:Nat),o.dst≠some s→av (a.put o.dst v) s=av a s:=fun v s hs=>key a.defers v s hs
 intro res h;cases res with
 | ok n w' =>
  cases n<;>simp only [Oper.upon] at h ⊢ <;>
   first
    | exact⟨h,key0 _⟩
    | exact⟨h,key _ _⟩
    | exact Calls.mono h (fun e w'' he=>by cases e<;>first | exact⟨he,key0 _⟩ | exact he)
    | exact Rows.mono h (fun _ _ he=>⟨he,key0 _⟩)
 | halt x w'=>cases x<;>simp only [Oper.upon] at h ⊢<;>exact h
section
variable {P:Program} {c:Cx} {B:Nat} {X:Nat→Prop} {w0:World} {F0 F:Nat→Prop} {O:Nat→Option (Nat × Nat)} {a:Act} {w:World} {δ:List D}
theorem kw:∀(ss:List Nat) (l:List D) (j:Nat),j+ss.length=l.length→fit l j ss=l.drop j
 | [],l,j,h=>by simp [fit,List.drop_eq_nil_of_le (show l.length≤j by simp at h;omega)]
 | s::ss,l,j,h=>by
  simp only [FL] at h;have hj:j<l.length:=by omega
  simp only [fit];rw [kw ss l (j+1) (by omega),FF hj,cM,EW,Ft hj];rfl
def qk (K:List Kd) (dst:Option Nat) (δ:List D) (s:Nat):D :=
 match dst with
 | some d=>if jD s (d::dB d K 0) then pb (ah K s) else nth δ s
 | none=>nth δ s
theorem oh (K:List Kd) (dst:Option Nat) (δ:List D):∀(ss:List Nat) (k:List D→Option Out),wC K δ dst ss k=k (ss.map (qk K dst δ))
 | [],k=>by simp [wC]
 | s::ss,k=>by
  cases dst with
  | none=>simp only [wC,qk,cK,Fb];exact oh K none δ ss _
  | some d =>
   simp only [wC,Fb];cases h:jD s (d::dB d K 0)
   ·simp only [cK]
    rw [oh K (some d) δ ss];simp only [qk,h,FT,if_false]
   ·simp only
    rw [oh K (some d) δ ss];simp only [qk,h,if_true]
theorem jf (f:Nat→D):∀(ss:List Nat) (δ:List D) (s:Nat),nth (af δ ss (ss.map f)) s=if s∈ss then(if s<δ.length then f s else .bad) else nth δ s
 | [],δ,s=>by simp [af]
 | t::ss,δ,s=>by
  simp only [Fb,af];rw [jf f ss (dN δ t (f t)) s,dP];by_cases hs:s∈ss
  ·simp [hs]
  ·by_cases ht:s=t
   ·subst ht
    simp only [hs,if_false,Ff,true_or,if_true];exact aP _ _ _
   ·simp only [hs,if_false,Ff,ht,or_self]
    exact bw _ _ _ _ ht
theorem xo {δ:List D} {s:Nat} (h:nth δ s ≠ .bad):s<δ.length:=by
 by_cases hl:s<δ.length
 ·exact hl
 ·exfalso
  rw [cM,EW,Fg (by omega)] at h;exact h rfl
theorem CR {s:Nat} (hs:s<a.tmps.size):nx c.K B F O (a.put (some s) undef) w s (pb (ah c.K s)):=by
 have hav:av (a.put (some s) undef) s=undef:=by
  simp [av,Act.put,hs]
 unfold pb;split
 ·rename_i lv hk
  refine .inr ?_
  simp only [hk];refine .inr ?_
  rw [hav];exact⟨rfl,rfl⟩
 ·exact .inl rfl
theorem Inv.pass_over (h:Inv c B X w0 F0 F O a w δ) {dst:Option Nat} {hw cw:List Nat} (hk:∀s∈hw++cw,xm (ah c.K s)=true) (hd:∀d,dst=some d→d∈hw) :
  Inv c B X w0 F0 F O (a.put dst undef) w (af δ (hw++(cw++aH c.K hw)) ((hw++cw).map (qk c.K dst δ))):=by
 have hav:∀s,dst≠some s→av (a.put dst undef) s=av a s:=by
  intro s hs;cases dst with
  | none=>rfl
  | some d=>exact bk fun e=>hs (by rw [e])
 have hnd:∀s,xm (ah c.K s)=true→∀d,s∉dB d c.K 0:=fun s hs d hm=>by
  rcases mv hm with e | e<;>rw [e] at hs<;>cases hs
 refine h.many (by simp) (by cases dst<;>simp [Act.put]) (by cases dst<;>rfl) (fun s hs=>hav s fun e=>hs (hd s e)) (fun r hr hn hb=>?_) (fun s hs=>?_) (fun _ hb=>hb) (fun _ _=>rfl) (fun _ _ hp _=>⟨hp,rfl⟩) h.fl h.ol (fun _ hb=>.inl hb) (Gj _) rfl rfl rfl (fun _ _ _=>rfl)
 ·rw [jf,if_pos (FN _ hr),if_pos (xo hb)]
  unfold qk;split
  ·rename_i d
   rw [if_neg]
   ·exact hb
   ·rw [eJ]
    simp only [decide_eq_true_eq,Ff,not_or];exact⟨fun e=>hn (e ▸ hd d rfl),hnd r (hk r (FN _ hr)) d⟩
  ·exact hb
 ·rw [jf,if_pos hs]
  split
  case isFalse=>exact .inl rfl
  rename_i hsl;have keep:dst≠some s→nx c.K B F O (a.put dst undef) w s (nth δ s):=by
   intro hne;rcases h.slot s with hb | hb
   ·exact .inl hb
   ·refine .inr ?_
    have hks:=hk s hs;rw [hav s hne];generalize ah c.K s=kk at hks hb;cases kk<;>first | exact hb | cases hks
  unfold qk;split
  ·rename_i d
   split
   ·rename_i hm
    rw [eJ] at hm;simp only [decide_eq_true_eq,Ff] at hm;rcases hm with rfl | hm
    ·exact CR (by rw [h.la,←h.ld];exact hsl)
    ·rcases mv hm with e | e<;>(rw [e];exact .inl rfl)
   ·rename_i hm
    rw [eJ] at hm;simp only [decide_eq_true_eq,Ff,not_or] at hm;exact keep fun e=>hm.1 (by cases e;rfl)
  ·exact keep (by simp)
def rdS (c:Cx) (ops:List Oper) (o:Oper):List Nat :=
 match bm c o with
 | none=>[]
 | some A=>match o.guard with
  | none=>Dx A
  | some (j,_)=>match sP ops j with
   | none=>[]
   | some g=>match A with
    | .one rd _ _=>g::rd
    | .many rd hw cw _=>g::(rd++(hw++cw))
def wrS (c:Cx) (o:Oper):List Nat :=
 match bm c o with
 | none=>[]
 | some (.one _ d _)=>d::dB d c.K 0
 | some (.many _ hw cw _)=>hw++(cw++aH c.K hw)
theorem gY {δ δ':List D}:∀{ss:List Nat},(∀s∈ss,nth δ s=nth δ' s)→ae δ ss=ae δ' ss
 | [],_=>rfl
 | s::ss,h=>by
  simp only [ae];rw [h s (by simp),gY fun t ht=>h t (by simp [ht])]
theorem uo {δ δ':List D}:∀{ss:List Nat},ae δ ss=ae δ' ss→∀s∈ss,nth δ s=nth δ' s
 | t::ss,h,s,hs=>by
  simp only [ae,EZ] at h;rcases Ff.1 hs with rfl | hs
  ·exact h.1
  ·exact uo h.2 s hs
theorem my (c:Cx) (ops:List Oper) (o:Oper):∃φ:List D→Option (List D),(∀δ k,bR c ops o δ k=(φ δ).bind fun l=>k (af δ (wrS c o) l))∧∀δ δ',ae δ (rdS c ops o)=ae δ' (rdS c ops o)→φ δ=φ δ':=by
 unfold bR rdS wrS;cases hA:bm c o with
 | none=>exact⟨fun _=>none,fun _ _=>rfl,fun _ _ _=>rfl⟩
 | some A =>
  have hn:=uA hA;cases hgd:o.guard with
  | none =>
   cases A with
   | one rd d h =>
    refine⟨fun δ=>(h (ae δ rd)).map fun z=>[z],fun δ k=>?_,fun δ δ' e=>by simp only [Dx] at e;simp only [e]⟩
    simp only [ba];cases h (ae δ rd) with
    | none=>rfl
    | some z=>exact bt _ _ _ _
   | many rd hw cw fn =>
    refine⟨fun δ=>FD (hn (ae δ rd)),fun δ k=>?_,fun δ δ' e=>by simp only [Dx] at e;simp only [e]⟩
    simp only [ba,bt,ij];exact(Fz (hn (ae δ rd))).1 _
  | some jp =>
   obtain⟨j,pol⟩:=jp;simp only;cases hg:sP ops j with
   | none=>exact⟨fun _=>none,fun _ _=>rfl,fun _ _ _=>rfl⟩
   | some g =>
    cases A with
    | one rd d h =>
     refine⟨fun δ=>(aj (pb (ah c.K d)) (nth δ g) pol (h (ae δ rd))).map fun z=>[z],fun δ k=>?_,fun δ δ' e=>by simp only [ae,EZ] at e;simp only [e.1,e.2]⟩
     simp only [ba,cK];cases aj (pb (ah c.K d)) (nth δ g) pol (h (ae δ rd)) with
     | none=>rfl
     | some z=>exact bt _ _ _ _
    | many rd hw cw fn =>
     refine⟨fun δ=>match nth δ g with
      | .v (.bool b)=>if b=pol then FD (hn (ae δ rd)) else some ((hw++cw).map (qk c.K o.dst δ))
      | .tup _=>some ((hw++cw).map (qk c.K o.dst δ))
      | _=>none,fun δ k=>?_,fun δ δ' e=>?_⟩
     ·simp only [ba,bt,cK,ij,oh]
      unfold cu;split
      ·rename_i b hb
       rw [hb];simp only;split
       ·obtain⟨h1,h2⟩:=Fz (hn (ae δ rd))
        rw [h1];cases hc:FD (hn (ae δ rd)) with
        | none=>rfl
        | some l =>
         have hl:=h2 l hc;simp only [Fa];rw [kw _ l 0 (by omega),Fh,kw _ l 0 (by omega),Fh]
       ·simp only [Fa]
        rw [kw _ _ 0 (by simp),Fh]
      ·rename_i l hb
       rw [hb];simp only [Fa];rw [kw _ _ 0 (by simp),Fh]
      ·rename_i hb hb'
       split
       ·rename_i b hb2;exact absurd hb2 (hb b)
       ·rename_i l hb2;exact absurd hb2 (hb' l)
       ·rfl
     ·simp only [ae,EZ,eE] at e
      have e2:=List.append_inj e.2 (by rw [iL,iL]);have e3:∀s∈hw++cw,nth δ s=nth δ' s:=uo (by rw [eE,eE];exact e2.2);have e4:(hw++cw).map (qk c.K o.dst δ)=(hw++cw).map (qk c.K o.dst δ'):=by
       refine List.map_congr_left fun s hs=>?_
       unfold qk;rw [e3 s hs]
      simp only [e.1,e2.1,e4]
def eD (c:Cx) (B:Nat) (X:Nat→Prop) (w0:World) (F0:Nat→Prop) (V:Nat→Value) (k:List D→Option Out) (r:Out) (a:Act) (w:World):Prop :=
 Next c B X w0 F0 k r a w∧IoV c V a
theorem sX (hT:okT P c.T=true) (hS:∀f S,cb c.S f=some S→ao c.G P f S) {ops:Array Oper} {o:Oper} (hok:zx c ops.toList o=true) {V:Nat→Value} (hI:Inv c B X w0 F0 F O a w δ) (hV:IoV c V a) {k:List D→Option Out} {r:Out}
  (hg:bR c ops.toList o δ k=some r) (Q:Exit→Act→World→Prop) :
  if Fo o (yielded ops a.tmps) then o.wp P a w (eD c B X w0 F0 V k r) Q else eD c B X w0 F0 V k r (a.put o.dst undef) w:=by
 unfold zx at hok;simp only [EY] at hok;obtain⟨hdst,hgd⟩:=hok;have hio:∀s,mL (ah c.K s)=true→o.dst≠some s:=fun s hs e=>by
  rw [e] at hdst;simp only at hdst;rw [hs] at hdst;cases hdst
 have lift:∀(A:Ac),bm c o=some A→bO c A δ k=some r→o.wp P a w (eD c B X w0 F0 V k r) Q:=by
  intro A hA hgo;have h:=yV hT hS o A hA B X w0 F0 F O a w δ hI k r hgo Q;unfold Oper.wp at h ⊢;refine Gi (P:=P) (o:=o) (a:=a) (w:=w) (K:=fun a' w'=>Next c B X w0 F0 k r a' w'∧∀s,o.dst≠some s→av a' s=av a s) (fun a' w' hn=>⟨hn.1,fun s hs=>(hn.2 s (hio s hs)).trans (hV s hs)⟩) ?_
  exact Ap h
 have skipV:IoV c V (a.put o.dst undef):=by
  intro s hs;cases hd:o.dst with
  | none=>exact hV s hs
  | some d=>exact(bk (fun e=>hio s hs (by rw [hd,e]))).trans (hV s hs)
 unfold bR at hg;cases hA:bm c o with
 | none=>rw [hA] at hg;cases hg
 | some A =>
  rw [hA] at hg;simp only at hg;cases hgu:o.guard with
  | none =>
   rw [hgu] at hg;rw [if_pos (by simp [Fo,hgu])];refine lift A hA ?_
   cases A with
   | one rd d h =>
    simp only [ba] at hg;obtain⟨z,h1,h2⟩:=EU.1 hg;rw [bt] at h2;simp only [bO,h1,Fa];exact h2
   | many rd hw cw fn =>
    simp only [ba,bt,ij] at hg;exact hg
  | some jp =>
   obtain⟨j,pol⟩:=jp;rw [hgu] at hg;rw [hgu,hA] at hgd;simp only [EY] at hgd;simp only at hg;cases hgs:sP ops.toList j with
   | none=>rw [hgs] at hg;cases hg
   | some g =>
    rw [hgs] at hg hgd;simp only at hgd;obtain⟨hkd,hck⟩:=hgd;have hyield:∀b,nth δ g = .v (.bool b)→yielded ops a.tmps j=some b:=by
     intro b hb;obtain⟨lv,hk⟩:∃lv,ah c.K g = .dat lv:=by
      split at hkd
      ·exact⟨_,‹_›⟩
      ·cases hkd
     have hr:=hI.dat hk;rw [hb] at hr;obtain⟨hv,_⟩:=ay hr;have hlt:g<a.tmps.size:=by
      rw [hI.la,←hI.ld];exact xo (by rw [hb];simp)
     have hg1:a.tmps[g]?=some (.bool b):=by
      rw [av,EX,Fi hlt] at hv;rw [Fi hlt];simpa using hv
     unfold sP at hgs;rw [oJ,FO] at hgs;unfold yielded;cases ho:ops[j]? with
     | none=>rw [ho] at hgs;cases hgs
     | some oj =>
      rw [ho] at hgs;simp only at hgs;simp [hgs,hg1]
    have hyT:∀l,nth δ g = .tup l→yielded ops a.tmps j=none:=by
     intro l hb;obtain⟨lv,hk⟩:∃lv,ah c.K g = .dat lv:=by
      split at hkd
      ·exact⟨_,‹_›⟩
      ·cases hkd
     have hr:=hI.dat hk;rw [hb] at hr;have hv:av a g = .tuple #[]:=(hr.rep (by simp)).2;unfold yielded;rw [sP,oJ,FO] at hgs;cases ho:ops[j]? with
     | none=>simp
     | some oj =>
      rw [ho] at hgs;simp only at hgs;simp only [Fa,hgs];cases hx:a.tmps[g]? with
      | none=>rfl
      | some x =>
       have:x = .tuple #[]:=by
        rw [←hv,av,EX,hx];rfl
       subst this;rfl
    cases A with
    | one rd d h =>
     simp only [cK,ba] at hg;obtain⟨z,h1,h2⟩:=EU.1 hg;rw [bt] at h2;unfold aj at h1;have skip:z=pb (ah c.K d)→eD c B X w0 F0 V k r (a.put o.dst undef) w:=by
      rintro rfl;refine⟨⟨F,O,_,?_,h2⟩,skipV⟩
      simp only at hck;split at hck
      ·rename_i d' hd'
       rw [aq] at hck;subst hck;rw [hd'];refine hI.put ?_
       unfold pb rN;split
       ·rename_i hkk
        refine .inr ?_
        rw [hkk];exact⟨rfl,rfl⟩
       ·exact .inl rfl
      ·cases hck
     split at h1
     case h_3=>cases h1
     case h_2 =>
      rename_i l hb;have hy:=hyT l hb;rw [if_neg (by simp [Fo,hgu,hy])];exact skip (by cases h1;rfl)
     rename_i b hb;have hy:=hyield b hb;split at h1
     ·rename_i hbp
      rw [if_pos (by simp [Fo,hgu,hy,hbp])];exact lift _ hA (by simp only [bO,h1,Fa];exact h2)
     ·rename_i hbp
      rw [if_neg (by simp [Fo,hgu,hy,hbp])];exact skip (by cases h1;rfl)
    | many rd hw cw fn =>
     simp only [cK,ba,oh,ij,bt] at hg;unfold cu at hg;have skip:k (af δ (hw++(cw++aH c.K hw)) (fit ((hw++cw).map (qk c.K o.dst δ)) 0 (hw++cw)))=some r→eD c B X w0 F0 V k r (a.put o.dst undef) w:=by
      intro hg;rw [kw _ _ 0 (by simp),Fh] at hg;simp only [EY,Fu] at hck;refine⟨⟨F,O,_,hI.pass_over hck.1 (fun d hd=>?_),hg⟩,skipV⟩
      have h3:=hck.2;rw [hd] at h3;simp only [eJ,decide_eq_true_eq] at h3;exact h3
     split at hg
     case h_3=>cases hg
     case h_2 =>
      rename_i l hb;have hy:=hyT l hb;rw [if_neg (by simp [Fo,hgu,hy])];exact skip hg
     rename_i b hb;have hy:=hyield b hb;obtain⟨φ,hφ,hlen⟩:=uA hA (ae δ rd);split at hg
     ·rename_i hbp
      rw [if_pos (by simp [Fo,hgu,hy,hbp])];refine lift _ hA ?_
      simp only [bO];rw [hφ] at hg ⊢;cases hp:φ with
      | none=>rw [hp] at hg;cases hg
      | some l =>
       rw [hp] at hg;have hl:=hlen l hp;simp only [Fa] at hg ⊢;rw [kw _ l 0 (by omega),Fh,kw _ l 0 (by omega),Fh] at hg;exact hg
     ·rename_i hbp
      rw [if_neg (by simp [Fo,hgu,hy,hbp])];exact skip hg
theorem nz (hT:okT P c.T=true) (hS:∀f S,cb c.S f=some S→ao c.G P f S) {ops:Array Oper} {V:Nat→Value} {Q:Exit→Act→World→Prop} {k:List D→Option Out} {r:Out} (hQ:∀a w,eD c B X w0 F0 V k r a w→Q .normal a w) :
  ∀(l:List Oper),(∀o∈l,zx c ops.toList o=true)→∀(F:Nat→Prop) (O:Nat→Option (Nat × Nat)) (a:Act) (w:World) (δ:List D),Inv c B X w0 F0 F O a w δ→IoV c V a→fV c ops.toList l δ k=some r→wpList P ops Q l a w
 | [],_,F,O,a,w,δ,hI,hV,hg=>hQ a w ⟨⟨F,O,δ,hI,hg⟩,hV⟩
 | o::l,hok,F,O,a,w,δ,hI,hV,hg=>by
  simp only [fV] at hg;have h:=sX hT hS (hok o (by simp)) hI hV hg Q;have ih:∀a w,eD c B X w0 F0 V (fun δ'=>fV c ops.toList l δ' k) r a w→wpList P ops Q l a w:=by
   rintro a w ⟨⟨F',O',δ',hI',hk'⟩,hV'⟩;exact nz hT hS hQ l (fun o' ho'=>hok o' (by simp [ho'])) F' O' a w δ' hI' hV' hk'
  unfold wpList;split
  ·rename_i hw
   rw [if_pos hw] at h;exact .inl (Gi ih h)
  ·rename_i hw
   rw [if_neg hw] at h;exact ih _ _ h
end
end Go.V

namespace Go.V
open Go.RowKit
set_option maxRecDepth 100000
def lG (x y:List Nat):Bool:=x.all fun s=>!jD s y
def xh (c:Cx) (ops:List Oper) (x y:Oper):Bool:=lG (rdS c ops x) (wrS c y)&&lG (wrS c x) (rdS c ops y)&&lG (wrS c x) (wrS c y)
def uT (c:Cx) (x y:Oper):Bool :=
 match x.guard,y.guard,x.op,x.dst,y.op,y.dst with
 | none,none,.move (.tmp t),some d,.store _ (.tmp q) (.tmp s),none =>
  (match ah c.K t,ah c.K d,ah c.K q,ah c.K s with
   | .own _ _ _,.via r,.ref r',.dat _=>Fe r t&&Fe r' t && !Fe q t&&lG (d::dB d c.K 0) [q,t,s]
   | _,_,_,_=>false)
 | _,_,_,_,_,_=>false
def Aa (c:Cx) (x y:Oper):Bool :=
 match x.guard,y.guard,x.op,y.op,y.dst with
 | none,none,.call q,.move (.tmp t),some d =>
  (match ah c.K t,ah c.K d,q.callee with
   | .box _ _ _,.ref r',.value (.func f)=>(match cb c.S f with
    | some S=>(match fq c.K q.args.toList S.pm with
     | some ags=>Fe r' t&&jD t (cD ags)
     | none=>false)
    | none=>false)
   | _,_,_=>false)
 | _,_,_,_,_=>false
def xt (c:Cx) (ops:List Oper) (x y:Oper):Bool:=Aa c x y&&lG (rdS c ops x) (wrS c y)&&lG (wrS c x) (wrS c y)
def uI (c:Cx) (ops:List Oper) (x y:Oper):Bool:=xh c ops x y||uT c x y||uT c y x||xt c ops x y
def bef (ops:List Oper) (j:Nat):Nat→Oper→Bool
 | 0,_=>false
 | n+1,o=>o.after.toList.any fun e=>Fv .any e&&(Fe e.on j||match wt ops e.on with
  | some q=>bef ops j n q
  | none=>false)
def yp (c:Cx) (ops:List Oper):Bool :=
 ops.zipIdx.all fun p=>(p.1.after.toList.all fun e=>!Fv .any e||decide (e.on<p.2))&&(ops.take p.2).zipIdx.all fun q=>uI c ops q.1 p.1||bef ops q.2 3 p.1
def jj (K:List Kd) (hl:List Nat):Bool :=
 hl.all fun s=>match ah K s with
  | .via r=>jD r hl
  | .ref r=>jD r hl
  | _=>true
def cj (c:Cx):Nat→Code→Bool
 | _,.skip=>true
 | _,.region _ ops d=>ops.toList.all (zx c ops.toList)&&(!d||yp c ops.toList)
 | b,.seq x y=>cj c b x&&cj c b y
 | b,.cond x t e=>Nat.ble (co c.K x) 2&&cj c b t&&cj c b e
 | _,.block id x=>cj c id x
 | b,.loop x=>cj c b x&&(match cb c.H b with
  | some (hl,xl)=>jj c.K hl&&jj c.K xl
  | none=>false)
 | _,.exit _=>true
 | _,.ret=>true
 | _,_=>false
section
variable {P:Program} {c:Cx} {B:Nat} {X:Nat→Prop} {w0:World} {F0 F:Nat→Prop} {O:Nat→Option (Nat × Nat)} {a:Act} {w:World} {δ:List D}
def xd (c:Cx) (δ:List D) (k:Out→Option Out):Option Out:=jk c δ c.res fun rs=>lj δ c.ios fun us=>usK us (k (.ret rs us))
def yT (c:Cx) (B:Nat) (X:Nat→Prop) (w0:World) (F0:Nat→Prop) (V:Nat→Value) (k:Out→Option Out) (r:Out):Exit→Act→World→Prop
 | .normal,a,w=>eD c B X w0 F0 V (fun δ=>k (.nrm δ)) r a w
 | .exit id,a,w=>eD c B X w0 F0 V (fun δ=>k (.ext id δ)) r a w
 | .ret,a,w=>eD c B X w0 F0 V (fun δ=>xd c δ k) r a w
 | _,_,_=>False
theorem hX {x y:List Nat} (h:lG x y=true):∀s∈x,s∉y:=by
 intro s hs;unfold lG at h;rw [Fu] at h;simpa [eJ] using h s hs
theorem BR {δ δ':List D} (h:δ.length=δ'.length) (hn:∀s,nth δ s=nth δ' s):δ=δ':=by
 refine List.ext_getElem h fun i h1 h2=>?_
 have:=hn i;rw [cM,cM,EW,EW,Ft h1,Ft h2] at this;exact this
theorem ky:∀(ss:List Nat) (l δ δ':List D),δ.length=δ'.length→∀s∈ss,nth (af δ ss l) s=nth (af δ' ss l) s
 | t::ss,l,δ,δ',hl,s,hs=>by
  cases l with
  | nil=>rw [gG _ _ _ hs,gG _ _ _ hs]
  | cons d l =>
   simp only [af];by_cases hm:s∈ss
   ·exact ky ss l _ _ (by rw [dP,dP,hl]) s hm
   ·have:s=t:=by simpa [hm] using hs
    subst this;rw [al _ _ _ _ hm,al _ _ _ _ hm,aP,aP,hl]
theorem kJ {A C:List Nat} {l m δ:List D} (h:∀s∈A,s∉C):af (af δ A l) C m=af (af δ C m) A l:=by
 refine BR (by simp only [bW]) fun s=>?_
 by_cases hA:s∈A
 ·rw [al _ _ _ _ (h s hA)]
  exact ky A l _ _ (by rw [bW]) s hA
 ·by_cases hC:s∈C
  ·rw [al A _ _ _ hA]
   exact(ky C m _ _ (by rw [bW]) s hC)
  ·rw [al _ _ _ _ hC,al _ _ _ _ hA,al _ _ _ _ hA,al _ _ _ _ hC]
theorem vo {n:Nat} {o p x z:D} (h:stD n o p x=some z):o ≠ .bad∧z ≠ .bad:=by
 unfold stD at h;split at h
 ·split at h
  ·split at h
   ·cases h;exact⟨by simp,by simp⟩
   ·cases h
  ·cases h
 ·split at h
  ·cases h;exact⟨by simp,by simp⟩
  ·cases h
 ·cases h
theorem sa (chk:Bool) (n:Nat) (b p y:D):∃E:Option D,(∀k:D→Option Out,stK chk n b p y k=E.bind k)∧∀z,E=some z→b ≠ .bad∧z ≠ .bad:=by
 cases chk
 ·exact⟨stD n b p y,fun _=>rfl,fun z hz=>vo hz⟩
 ·refine⟨(bT y).bind fun y=>stD n b p y,fun k=>by simp only [stK,Fx],fun z hz=>?_⟩
  obtain⟨y',_,h⟩:=EU.1 hz;exact vo h
theorem xU {ops:List Oper} {x y:Oper} (h:uT c x y=true) (δ:List D) (k:List D→Option Out):bR c ops x δ (fun δ=>bR c ops y δ k)=bR c ops y δ (fun δ=>bR c ops x δ k):=by
 unfold uT at h;split at h
 case h_2=>cases h
 rename_i t d ty q s hxg hyg hxo hxd hyo hyd;split at h
 case h_2=>cases h
 rename_i z lv io r0 r lv' hkt hkd hkq hks;simp only [EY,Fp] at h;obtain⟨⟨⟨h1,h2⟩,h3⟩,h4⟩:=h;have e1:=aq.1 h1;have e2:=aq.1 h2;subst e1;subst e2;have hx:∀(δ:List D) (k:List D→Option Out),bR c ops x δ k=(aa (nth δ r) (.ref 0 0)).bind fun z=>k (af δ (d::dB d c.K 0) [z]):=by
  intro δ k;have hA:bm c x=some (.one [r] d fun is=>(dm fun x=>aa x (.ref 0 0)) is):=by
   simp only [bm,hxo,hxd,vv,hkt,hkd,FP]
  simp only [bR,hA,hxg];rw [ba];show(aa (nth δ r) (.ref 0 0)).bind (fun z=>cT δ (d::dB d c.K 0) [z] k)=_
  exact congrArg _ (funext fun z=>bt _ _ _ _)
 have hy:∃E:D→D→D→Option D,(∀(δ:List D) (k:List D→Option Out),bR c ops y δ k=(E (nth δ r) (nth δ q) (nth δ s)).bind fun b=>k (af δ [r] [b]))∧∀a b e z,E a b e=some z→a ≠ .bad∧z ≠ .bad:=by
  cases hT:cb c.T ty with
  | none =>
   refine⟨fun _ _ _=>none,fun δ k=>?_,fun _ _ _ _ h=>by cases h⟩
   have hA:bm c y=none:=by simp only [bm,hyo,hyd,cL,hT]
   simp only [bR,hA];rfl
  | some i =>
   have act:∀chk:Bool,bm c y=some (.many [q,r,s] [] [r] fun is k=>goP q r is fun b p is=>cC is 0 fun y=>stK chk i.n b p y fun b=>k [b]) →
     ∃E:D→D→D→Option D,(∀(δ:List D) (k:List D→Option Out),bR c ops y δ k=(E (nth δ r) (nth δ q) (nth δ s)).bind fun b=>k (af δ [r] [b]))∧∀a b e z,E a b e=some z→a ≠ .bad∧z ≠ .bad:=by
    intro chk hA;refine⟨fun a b e=>FD (sa chk i.n a b e),fun δ k=>?_,fun a b e z h=>(Fz (sa chk i.n a b e)).2 z h⟩
    simp only [bR,hA,hyg];rw [ba];simp only [goP,h3,ae];show stK chk i.n (nth δ r) (nth δ q) (nth δ s) (fun b=>cT δ [r] [b] k)=_
    rw [(Fz (sa chk i.n (nth δ r) (nth δ q) (nth δ s))).1];exact congrArg _ (funext fun b=>bt _ _ _ _)
   have hst:bm c y=vT c i q r (dW c.K r) (.tmp s):=by
    simp only [bm,hyo,hyd,cL,hT,AF,hkq]
   unfold vT at hst;simp only [hks] at hst;split at hst
   ·exact act false (by rw [hst];simp only [rdP,h3])
   ·exact act true (by rw [hst];simp only [rdP,h3])
   ·refine⟨fun _ _ _=>none,fun δ k=>?_,fun _ _ _ _ h=>by cases h⟩
    simp only [bR,hst];rfl
 obtain⟨E,hE,hEl⟩:=hy;have ap:=fun s hs=>hX h4 s hs
 have hnq:∀m:List D,∀v∈[q,r,s],nth (af δ (d::dB d c.K 0) m) v=nth δ v:=fun m v hv=>al _ _ _ _ fun hm=>ap v hm hv
 simp only [hx,hE,hnq _ q (by simp),hnq _ r (by simp),hnq _ s (by simp)];cases hb:E (nth δ r) (nth δ q) (nth δ s) with
 | none=>cases aa (nth δ r) (.ref 0 0)<;>rfl
 | some b =>
  obtain⟨g1,g2⟩:=hEl _ _ _ _ hb;have hlive:∀a:D,a ≠ .bad→aa a (.ref 0 0)=some (.ref 0 0):=fun a ha=>by cases a<;>first | exact absurd rfl ha | rfl
  have hr:nth (af δ [r] [b]) r=b:=by
   simp only [af];rw [aP,if_pos];by_cases hl:r<δ.length
   ·exact hl
   ·exfalso
    rw [cM,EW,Fg (by omega)] at g1;exact g1 rfl
  simp only [hlive _ g1,hr,hlive _ g2,Fa];rw [kJ (A:=d::dB d c.K 0) (C:=[r])];intro v hv hv';exact ap v hv (by simp at hv';simp [hv'])
theorem xc {ops:List Oper} {x y:Oper} (h:xh c ops x y=true) (δ:List D) (k:List D→Option Out):bR c ops x δ (fun δ=>bR c ops y δ k)=bR c ops y δ (fun δ=>bR c ops x δ k):=by
 unfold xh at h;simp only [EY] at h;obtain⟨⟨h1,h2⟩,h3⟩:=h;obtain⟨φ,hφ,hφr⟩:=my c ops x;obtain⟨ψ,hψ,hψr⟩:=my c ops y;have e1:∀l,ψ (af δ (wrS c x) l)=ψ δ:=fun l=>hψr _ _ (gY fun s hs=>al _ _ _ _ fun hm=>hX h2 s hm hs)
 have e2:∀l,φ (af δ (wrS c y) l)=φ δ:=fun l=>hφr _ _ (gY fun s hs=>al _ _ _ _ (hX h1 s hs))
 simp only [hφ,hψ,e1,e2];cases φ δ with
 | none=>cases ψ δ<;>rfl
 | some l =>
  cases ψ δ with
  | none=>rfl
  | some m =>
   simp only [Fa];rw [kJ (hX h3)]
theorem mn {δ:List D}:∀(ags:List Ag) (ds:List D),bs ags (ae δ (dl ags))=some ds→∀t∈cD ags,nth δ t ≠ .bad
 | [],_,_,t,ht=>by simp [cD] at ht
 | .d x chk::l,ds,h,t,ht=>by
  have ih:=mn (δ:=δ) l;simp only [cD] at ht;cases x with
  | tmp u =>
   simp only [ae] at h;cases chk
   ·simp only [bs] at h
    obtain⟨z,hz,_⟩:=EV.1 h;exact ih z hz t ht
   ·simp only [bs] at h
    obtain⟨i,_,h⟩:=EU.1 h;obtain⟨z,hz,_⟩:=EV.1 h;exact ih z hz t ht
  | const v =>
   simp only [bs] at h;obtain⟨z,hz,_⟩:=EV.1 h;exact ih z hz t ht
  | func f =>
   simp only [bs] at h;obtain⟨z,hz,_⟩:=EV.1 h;exact ih z hz t ht
  | global g=>simp [bs] at h
 | .bor u r::l,ds,h,t,ht=>by
  have ih:=mn (δ:=δ) l;simp only [cD] at ht;cases hb:Fe u r
  ·simp only [dl,hb,ae,bs] at h
   obtain⟨i,_,h⟩:=EU.1 h;obtain⟨z,hz,_⟩:=EV.1 h;exact ih z hz t ht
  ·simp only [dl,hb,ae,bs] at h
   obtain⟨z,hz,_⟩:=EV.1 h;exact ih z hz t ht
 | .io u r::l,ds,h,t,ht=>by
  have ih:=mn (δ:=δ) l;simp only [cD,Ff] at ht;have lv:∀x y z:D,aa x y=some z→x ≠ .bad:=fun x y z hz e=>by subst e;cases hz
  cases hb:Fe u r
  ·simp only [dl,hb,ae,bs] at h
   obtain⟨i,hi,h⟩:=EU.1 h;obtain⟨i',hi',h⟩:=EU.1 h;obtain⟨z,hz,_⟩:=EV.1 h;have e:i=nth δ r:=by
    unfold bL at hi;split at hi
    ·exact(Gl hi).symm
    ·cases hi
   rcases ht with rfl | ht
   ·rw [←e];exact lv _ _ _ hi'
   ·exact ih z hz t ht
  ·simp only [dl,hb,ae,bs] at h
   obtain⟨i',hi',h⟩:=EU.1 h;obtain⟨z,hz,_⟩:=EV.1 h;have e:=aq.1 hb;rcases ht with rfl | ht
   ·rw [←e];exact lv _ _ _ hi'
   ·exact ih z hz t ht
theorem CT {ops:List Oper} {x y:Oper} (h:xt c ops x y=true) (δ:List D) (k:List D→Option Out) (r:Out) (hs:bR c ops x δ (fun δ=>bR c ops y δ k)=some r):bR c ops y δ (fun δ=>bR c ops x δ k)=some r:=by
 unfold xt at h;simp only [EY] at h;obtain⟨⟨h1,h2⟩,h3⟩:=h;unfold Aa at h1;split at h1
 case h_2=>cases h1
 rename_i q t d hxg hyg hxo hyo hyd;split at h1
 case h_2=>cases h1
 rename_i n lv io r' f hkt hkd hqc;split at h1
 case h_2=>cases h1
 rename_i S hS;split at h1
 case h_2=>cases h1
 rename_i ags hags;simp only [EY] at h1;obtain⟨h4,h5⟩:=h1;have e4:=aq.1 h4;subst e4;have hyA:bm c y=some (.one [r'] d fun is=>(dm fun x=>aa x (.ref 0 0)) is):=by
  simp only [bm,hyo,hyd,vv,hkt,hkd,FP]
 have hw:wrS c y=d::dB d c.K 0:=by
  unfold wrS;rw [hyA]
 have hy:∀(δ:List D) (k:List D→Option Out),bR c ops y δ k=(aa (nth δ r') (.ref 0 0)).bind fun z=>k (af δ (d::dB d c.K 0) [z]):=by
  intro δ k;simp only [bR,hyA,hyg];rw [ba];show(aa (nth δ r') (.ref 0 0)).bind (fun z=>cT δ (d::dB d c.K 0) [z] k)=_
  exact congrArg _ (funext fun z=>bt _ _ _ _)
 have live:∀(δ:List D) (K:List D→Option Out) (r:Out),bR c ops x δ K=some r→nth δ r' ≠ .bad:=by
  intro δ K r hr;have hm:r'∈cD ags:=by simpa [eJ] using h5
  have fin:∀K':List D→Option Out,er [] ags (ae δ (dl ags)) K'=some r→nth δ r' ≠ .bad:=by
   intro K' h;rw [eH] at h;obtain⟨ds,hds,_⟩:=EU.1 h;exact mn ags ds hds r' hm
  have hA:bm c x=yF c x.dst q:=by simp only [bm,hxo]
  have hcl:∀A,bm c x=some A→nO c x.dst S q.args.toList=some A:=by
   intro A h;rw [hA] at h;unfold yF at h;rw [hqc] at h;simp only [hS] at h;exact h
  cases hAc:bm c x with
  | none=>simp only [bR,hAc] at hr;cases hr
  | some A =>
   have hA2:=hcl A hAc;unfold nO at hA2;simp only [hags] at hA2;simp only [bR,hAc,hxg] at hr
   repeat' split at hA2
   all_goals first
    | (cases hA2;done)
    | (cases hA2;simp only [ba] at hr;exact fin _ hr)
    | skip
 have l1:=live δ _ r hs;obtain⟨φ,hφ,hφr⟩:=my c ops x;rw [hw] at h2 h3;have e2:∀l,φ (af δ (d::dB d c.K 0) l)=φ δ:=fun l=>hφr _ _ (gY fun s hs=>al _ _ _ _ (hX h2 s hs))
 have hlive:∀a:D,a ≠ .bad→aa a (.ref 0 0)=some (.ref 0 0):=fun a ha=>by cases a<;>first | exact absurd rfl ha | rfl
 simp only [hφ,hy,e2] at hs ⊢;rw [hlive _ l1];cases hp:φ δ with
 | none=>rw [hp] at hs;cases hs
 | some l =>
  rw [hp] at hs;simp only [Fa] at hs ⊢;obtain⟨z,hz,hk⟩:=EU.1 hs;have ez:z = .ref 0 0:=by
   unfold aa at hz;split at hz
   ·cases hz
   ·exact(Gl hz).symm
  subst ez;rw [kJ (hX h3)] at hk;exact hk
theorem zO {ops:List Oper} {x y:Oper} (h:uI c ops x y=true) (δ:List D) (k:List D→Option Out) (r:Out) (hs:bR c ops x δ (fun δ=>bR c ops y δ k)=some r):bR c ops y δ (fun δ=>bR c ops x δ k)=some r:=by
 unfold uI at h;simp only [FG] at h;rcases h with ((h | h) | h) | h
 ·exact(xc h δ k).symm.trans hs
 ·exact(xU h δ k).symm.trans hs
 ·exact(xU h δ k).trans hs
 ·exact CT h δ k r hs
theorem yW {ops:List Oper} {o:Oper} {k k':List D→Option Out} {δ:List D} {r:Out} (hk:∀δ,k δ=some r→k' δ=some r) (h:bR c ops o δ k=some r):bR c ops o δ k'=some r:=by
 obtain⟨φ,hφ,_⟩:=my c ops o;rw [hφ] at h ⊢;obtain⟨l,hl,h⟩:=EU.1 h;rw [hl];exact hk _ h
theorem oo {ops:List Oper} {o:Oper} {k:List D→Option Out} {r:Out}:∀(pre post:List Oper) (δ:List D),(∀q∈pre,uI c ops q o=true)→fV c ops (pre++o::post) δ k=some r→bR c ops o δ (fun δ=>fV c ops (pre++post) δ k)=some r
 | [],post,δ,_,h=>h
 | q::pre,post,δ,h,hr=>by
  simp only [FM,fV] at hr ⊢;exact zO (h q (by simp)) δ _ r (yW (fun δ' h'=>oo pre post δ' (fun q' hq'=>h q' (by simp [hq'])) h') hr)
def left (ops:List Oper) (listed:Array Bool):List Oper:=(ops.zipIdx.filter fun p=>!listed.getD p.2 true).map (·.1)
theorem Inv.drawn (h:Inv c B X w0 F0 F O a w δ) (n:Nat):Inv c B X w0 F0 F O a {w with drawn:=n} δ :=
 h.step (w':={w with drawn:=n}) (fun _=>False) rfl rfl rfl (fun _ _=>⟨rfl,.inl rfl⟩) (fun _ hb=>hb) (fun _ _=>rfl) (fun _ _ hp _=>⟨hp,rfl⟩) (fun _ _ _ hv hb=>⟨rfl,(h.root hv hb).2⟩) (fun _ hf=>hf.elim) h.fl h.ol (fun _ hb=>.inl hb) (Gj _) rfl rfl rfl (fun _ _ _=>rfl)
theorem sR {l:List Oper} {i:Nat} {o:Oper} (h:l[i]?=some o):l.zipIdx=(l.take i).zipIdx++(o,i)::(l.drop (i+1)).zipIdx (i+1):=by
 have hi:i<l.length:=(Fq.1 h).1;have e:l=l.take i++(o::l.drop (i+1)):=by
  have h1:l[i]=o:=(Fq.1 h).2
  conv=>lhs;rw [←Gc i l,FF hi,h1]
 conv=>lhs;rw [e]
 rw [List.zipIdx_append,List.zipIdx_cons];have:(l.take i).length=i:=by rw [FW];omega
 simp [this]
theorem sQ {l:List Oper} {listed:Array Bool} {i:Nat} {o:Oper} (h:l[i]?=some o) (hn:listed.getD i true=false) (hsz:i<listed.size) :
  left l listed=(((l.take i).zipIdx.filter fun p=>!listed.getD p.2 true).map (·.1))++o::((((l.drop (i+1)).zipIdx (i+1)).filter fun p=>!listed.getD p.2 true).map (·.1)) ∧
  left l (listed.setIfInBounds i true)=(((l.take i).zipIdx.filter fun p=>!listed.getD p.2 true).map (·.1))++((((l.drop (i+1)).zipIdx (i+1)).filter fun p=>!listed.getD p.2 true).map (·.1)):=by
 have hne:∀j,j≠i→(listed.setIfInBounds i true).getD j true=listed.getD j true:=fun j hj=>by
  simp only [EX,FA,FV hj,if_false]
 have hi:(listed.setIfInBounds i true).getD i true=true:=by
  simp [EX,hsz]
 unfold left;rw [sR h];simp only [List.filter_append,List.map_append,List.filter_cons,hn,hi,Gp,Bool.not_true,if_true,FT,if_false,Fb];refine⟨trivial,?_⟩
 congr 2
 ·refine List.filter_congr fun p hp=>?_
  have:=Fs hp;rw [FW] at this;rw [hne p.2 (by omega)]
 ·refine List.filter_congr fun p hp=>?_
  have:=List.le_snd_of_mem_zipIdx hp;rw [hne p.2 (by omega)]
def Cl (ops:Array Oper) (listed:Array Bool):Prop:=∀(m:Nat) (q:Oper),ops[m]?=some q→listed.getD m false=true→∀e∈q.after,Fv .any e=true→listed.getD e.on false=true
theorem sq {ops:Array Oper} {listed:Array Bool} (hc:Cl ops listed) {j:Nat}:∀(n:Nat) (o:Oper),(∀e∈o.after,Fv .any e=true→listed.getD e.on false=true)→bef ops.toList j n o=true→listed.getD j false=true
 | 0,_,_,h=>by simp [bef] at h
 | n+1,o,ho,h=>by
  simp only [bef,List.any_eq_true,EY,FG] at h;obtain⟨e,he,hb,h⟩:=h;have hl:=ho e (by simpa using he) hb;rcases h with h | h
  ·rw [←aq.1 h]
   exact hl
  ·split at h
   ·rename_i q hq
    rw [oJ,FO] at hq;exact sq hc n q (hc e.on q hq hl) h
   ·cases h
theorem sc {listed:Array Bool} {i x:Nat} (h:listed.getD x false=true):(listed.setIfInBounds i true).getD x false=true:=by
 rw [EX] at h ⊢;rw [FA];split
 ·split<;>rename_i h1 h2
  ·rfl
  ·subst h1
   rw [Array.getElem?_eq_none (by omega)] at h;cases h
 ·exact h
theorem Ec {ops:Array Oper} {listed:Array Bool} (hc:Cl ops listed) {i:Nat} {o:Oper} (ho:ops[i]?=some o) (hed:∀e∈o.after,Fv .any e=true→listed.getD e.on false=true):Cl ops (listed.setIfInBounds i true):=by
 intro m q hq hm e he hb;by_cases hmi:m=i
 ·subst hmi
  rw [ho] at hq;cases hq;exact sc (hed e he hb)
 ·refine sc (hc m q hq ?_ e he hb)
  rw [EX,FA,if_neg (fun e=>hmi e.symm)] at hm;rw [EX];exact hm
theorem xu (hT:okT P c.T=true) (hS:∀f S,cb c.S f=some S→ao c.G P f S) {ops:Array Oper} (hany:yp c ops.toList=true) {V:Nat→Value} {Q:Exit→Act→World→Prop} {k:List D→Option Out} {r:Out} (hQ:∀a w,eD c B X w0 F0 V k r a w→Q .normal a w)
  (hok:∀o∈ops.toList,zx c ops.toList o=true) (hI:Inv c B X w0 F0 F O a w δ) (hV:IoV c V a) (hg:fV c ops.toList ops.toList δ k=some r):wpAny P .any ops Q ops.size (Gm ops.size false) a {w with drawn:=w.drawn+1}:=by
 have hedge:∀(i:Nat) (o:Oper),ops[i]?=some o→(∀e∈o.after,Fv .any e=true→e.on<i)∧∀(j:Nat) (q:Oper),j<i→ops[j]?=some q→bef ops.toList j 3 o=true∨uI c ops.toList q o=true:=by
  intro i o ho;have h0:=hany;unfold yp at h0;rw [Fu] at h0;have hl:ops.toList[i]?=some o:=by simpa using ho
  have h1:=h0 (o,i) (by rw [sR hl];simp);simp only [EY,FG,Fp,decide_eq_true_eq,Fu] at h1;refine⟨fun e he hb=>(h1.1 e (by simpa using he)).resolve_left (by rw [hb];simp),fun j q hj hq=>?_⟩
  have hq':(ops.toList.take i)[j]?=some q:=by
   rw [FX hj];simpa using hq
  exact(h1.2 (q,j) (by rw [sR hq'];simp)).symm
 have main:∀(fuel:Nat) (listed:Array Bool) (F:Nat→Prop) (O:Nat→Option (Nat × Nat)) (a:Act) (w:World) (δ:List D),listed.size=ops.size→Cl ops listed→(left ops.toList listed).length≤fuel→Inv c B X w0 F0 F O a w δ→IoV c V a →
   fV c ops.toList (left ops.toList listed) δ k=some r→wpAny P .any ops Q fuel listed a w:=by
  intro fuel;have ready_mem:∀(listed:Array Bool) (i:Nat),i∈FJ .any ops listed→∃o,ops[i]?=some o∧listed.getD i true=false∧∀e∈o.after,Fv .any e=true→listed.getD e.on false=true:=by
   intro listed i hi;unfold FJ at hi;rw [Gb] at hi;obtain⟨hr,hi⟩:=hi;simp only [EY,Fp] at hi;cases ho:ops[i]? with
   | none=>rw [ho] at hi;simp at hi
   | some o =>
    rw [ho] at hi;simp only [Gn,FY,Array.all_eq_true_iff_forall_mem,FG,Fp] at hi;exact⟨o,rfl,hi.1,fun e he hb=>(hi.2 e he).resolve_left (by rw [hb];simp)⟩
  have empty:∀(listed:Array Bool),listed.size=ops.size→FJ .any ops listed=[]→left ops.toList listed=[]:=by
   intro listed hsz hr;have all:∀i,i<ops.size→listed.getD i true=true:=by
    intro i;induction i using Nat.strongRecOn with
    | _ i ih =>
     intro hi;cases hl:listed.getD i true with
     | true=>rfl
     | false =>
      exfalso;have ho:ops[i]?=some ops[i]:=Fi hi;have hmem:i∈FJ .any ops listed:=by
       unfold FJ;rw [Gb];refine⟨List.mem_range.2 hi,?_⟩
       rw [hl,ho];simp only [Gp,Bool.true_and,Gn,FY,Array.all_eq_true_iff_forall_mem,FG];intro e he;cases hb:Fv .any e
       ·exact .inl rfl
       right
       have h1:=(hedge i _ ho).1 e he hb;have h2:=ih e.on h1 (by omega);have h3:e.on<listed.size:=by omega
       rw [EX,Fi h3] at h2 ⊢;exact h2
      rw [hr] at hmem;cases hmem
   unfold left;rw [List.map_eq_nil_iff,List.filter_eq_nil_iff];rintro⟨o,i⟩ hp;have hi:=Fs hp;simp only [Fp,Bool.not_eq_false];exact all i (by simpa using hi)
  induction fuel with
  | zero =>
   intro listed F O a w δ hsz hcl hl hI hV hg;have h0:left ops.toList listed=[]:=FR (by omega);rw [h0] at hg;refine⟨?_,hQ a w ⟨⟨F,O,δ,hI,hg⟩,hV⟩⟩
   cases hr:FJ .any ops listed with
   | nil=>rfl
   | cons i rest =>
    exfalso;obtain⟨o,ho,hn,_⟩:=ready_mem listed i (by rw [hr];simp);have hi:i<ops.size:=(Fm.1 ho).1;have:=(sQ (l:=ops.toList) (by simpa using ho) hn (by omega)).1;rw [h0] at this;simp at this
  | succ fuel ihf =>
   intro listed F O a w δ hsz hcl hl hI hV hg;refine⟨fun hr=>?_,fun i hi=>?_⟩
   ·rw [empty listed hsz hr] at hg
    exact hQ a w ⟨⟨F,O,δ,hI,hg⟩,hV⟩
   ·obtain⟨o,ho,hn,hed⟩:=ready_mem listed i hi
    have hilt:i<ops.size:=(Fm.1 ho).1;obtain⟨e1,e2⟩:=sQ (l:=ops.toList) (by simpa using ho) hn (by omega);rw [e1] at hg hl;have hfront:∀q∈(((ops.toList.take i).zipIdx.filter fun p=>!listed.getD p.2 true).map (·.1)),uI c ops.toList q o=true:=by
     intro q hq
     ·simp only [List.mem_map,Gb] at hq
      obtain⟨⟨q',j⟩,⟨hm1,hm2⟩,rfl⟩:=hq;have hj:=Fs hm1;rw [FW] at hj;have hget:ops[j]?=some q':=by
       have:=List.mem_zipIdx_iff_getElem?.1 hm1;simp only at this;rw [FX (by omega)] at this;simpa using this
      rcases(hedge i o ho).2 j q' (by omega) hget with hbf | h
      ·exfalso
       have h3:=sq hcl 3 o hed hbf;simp only [Fp] at hm2;have hjlt:j<listed.size:=by omega
       rw [EX,Fi hjlt] at h3 hm2;simp only [FY] at h3 hm2;rw [h3] at hm2;cases hm2
      ·exact h
    ·replace hg:=oo _ _ _ hfront hg
     rw [←e2] at hg;have h:=sX hT hS (ops:=ops) (hok o (by simpa using Array.mem_of_getElem? ho)) hI hV hg Q;have ih:∀a w,eD c B X w0 F0 V (fun δ'=>fV c ops.toList (left ops.toList (listed.setIfInBounds i true)) δ' k) r a w→wpAny P .any ops Q fuel (listed.setIfInBounds i true) a w:=by
      rintro a w ⟨⟨F',O',δ',hI',hk'⟩,hV'⟩;exact ihf _ F' O' a w δ' (by simpa using hsz) (Ec hcl ho hed) (by rw [e2];simp only [List.length_append,FL] at hl ⊢;omega) hI' hV' hk'
     unfold wpOp;rw [ho];simp only;split
     ·rename_i hw
      rw [if_pos hw] at h;exact .inl (Gi ih h)
     ·rename_i hw
      rw [if_neg hw] at h;exact ih _ _ h
 have hleft:left ops.toList (Gm ops.size false)=ops.toList:=by
  unfold left;rw [List.filter_eq_self.2]
  ·simp
  ·rintro⟨o,i⟩ hp
   have hi:=Fs hp;have hi':i<ops.size:=by simpa using hi
   simp [EX,hi']
 refine main ops.size _ F O a _ δ (by simp) (fun m q _ hm=>?_) ?_ (hI.drawn _) hV ?_
 ·rw [EX,Array.getElem?_replicate] at hm
  split at hm<;>cases hm
 ·rw [hleft];simp
 ·rw [hleft];exact hg
theorem uw (hT:okT P c.T=true) (hS:∀f S,cb c.S f=some S→ao c.G P f S) {ops:Array Oper} (hany:yp c ops.toList=true) (hm:P.follows .mixedOrders=true) {V:Nat→Value} {Q:Exit→Act→World→Prop} {k:List D→Option Out} {r:Out} (hQ:∀a w,eD c B X w0 F0 V k r a w→Q .normal a w)
  (hok:∀o∈ops.toList,zx c ops.toList o=true) (hI:Inv c B X w0 F0 F O a w δ) (hV:IoV c V a) (hg:fV c ops.toList ops.toList δ k=some r) (id:Nat):(Code.region id ops true).wp P Q a w:=wp_region_any hm (xu hT hS hany hQ hok hI hV hg)
theorem fF:∀(l:List ResultVar) (δ:List D) (k:List D→Option Out),jk c δ l k=(jk c δ l fun rs=>some (.nrm rs)).bind fun o=>match o with
  | .nrm rs=>k rs
  | _=>none
 | [],δ,k=>rfl
 | .tmp t::l,δ,k=>by
  simp only [jk,cK];rw [fF l δ fun rs=>k (nth δ t::rs),fF l δ fun rs=>some (.nrm (nth δ t::rs))];cases h:jk c δ l fun rs=>some (.nrm rs) with
  | none=>rfl
  | some o=>cases o<;>rfl
 | .cell s t::l,δ,k=>by
  simp only [jk];split
  ·rename_i i _
   simp only [cK];cases fS i.agg i.n 0 (nth δ s) with
   | none=>rfl
   | some y =>
    simp only [Fa];rw [fF l δ fun rs=>k (y::rs),fF l δ fun rs=>some (.nrm (y::rs))];cases h:jk c δ l fun rs=>some (.nrm rs) with
    | none=>rfl
    | some o=>cases o<;>rfl
  ·rfl
theorem og:∀{us:List D} {o:Option Out} {r:Out},usK us o=some r↔(∀u∈us,u ≠ .bad)∧o=some r
 | [],o,r=>by simp [usK]
 | u::us,o,r=>by
  simp only [usK,EU,Ff,forall_eq_or_imp];constructor
  ·rintro⟨y,h1,h2⟩
   obtain⟨h3,h4⟩:=og.1 h2;exact⟨⟨(aJ h1).1,h3⟩,h4⟩
  ·rintro⟨⟨h1,h2⟩,h3⟩
   refine⟨u,?_,og.2 ⟨h2,h3⟩⟩
   cases u<;>first | rfl | exact absurd rfl h1
theorem gn {δ:List D} {k:Out→Option Out} {r:Out} (h:xd c δ k=some r):∃rs,jk c δ c.res (fun rs=>some (.nrm rs))=some (.nrm rs)∧(∀u∈ae δ c.ios,u ≠ .bad)∧k (.ret rs (ae δ c.ios))=some r:=by
 unfold xd at h;simp only [ba] at h;rw [fF] at h;cases hh:jk c δ c.res fun rs=>some (.nrm rs) with
 | none=>rw [hh] at h;cases h
 | some o =>
  rw [hh] at h;cases o with
  | nrm rs =>
   simp only [Fa] at h;obtain⟨h1,h2⟩:=og.1 h;exact⟨rs,rfl,h1,h2⟩
  | ext i δ=>cases h
  | ret x y=>cases h
theorem rq {δ:List D} {k:Out→Option Out} {r:Out} {rs:List D} (h1:jk c δ c.res (fun rs=>some (.nrm rs))=some (.nrm rs)) (h2:∀u∈ae δ c.ios,u ≠ .bad) (hk:k (.ret rs (ae δ c.ios))=some r):xd c δ k=some r:=by
 unfold xd;simp only [ba];rw [fF,h1];simp only [Fa];exact og.2 ⟨h2,hk⟩
def carry (n:Nat) (hl:List Nat) (δ:List D):List D:=af (sT n) hl (ae δ hl)
theorem oU:∀n,sT n=List.replicate n .bad
 | 0=>rfl
 | n+1=>by simp [sT,oU n,List.replicate_succ]
theorem Av (n s:Nat):nth (sT n) s = .bad:=by
 rw [cM,oU,EW,List.getElem?_replicate];split<;>rfl
theorem iI (n:Nat) (hl:List Nat) (δ:List D) (k:List D→Option Out):fw n hl (ae δ hl) k=k (carry n hl δ):=by
 unfold fw carry;rw [bt,kw _ _ 0 (by rw [iL];omega),Fh]
theorem kx (δ:List D):∀(l:List Nat),ae δ l=l.map (nth δ)
 | []=>rfl
 | _::l=>by simp [ae,kx δ l]
theorem pG {hl:List Nat} {δ:List D} (s:Nat):nth (carry δ.length hl δ) s=if s∈hl then nth δ s else .bad:=by
 unfold carry;rw [kx,jf];have hlen:(sT δ.length).length=δ.length:=by rw [oU];simp
 rw [hlen,Av];split
 ·split
  ·rfl
  ·rename_i h
   by_cases hb:nth δ s = .bad
   ·exact hb.symm
   ·exact absurd (xo hb) h
 ·rfl
theorem Inv.carry (h:Inv c B X w0 F0 F O a w δ) {hl:List Nat} (hk:jj c.K hl=true):Inv c B X w0 F0 F O a w (carry (fU c.K) hl δ):=by
 have e:fU c.K=δ.length:=by rw [gT,h.ld]
 rw [e];refine h.forget ?_ (fun s=>?_) (fun s r hv hb=>?_)
 ·unfold V.carry;rw [bW,oU];simp
 ·rw [pG]
  split
  ·exact .inl rfl
  ·exact .inr rfl
 ·rw [pG] at hb
  split at hb
  case isFalse=>exact absurd rfl hb
  rename_i hs;unfold jj at hk;rw [Fu] at hk;have hks:=hk s hs;have hr:r∈hl:=by
   rcases hv with e | e<;>rw [e] at hks<;>simpa [eJ] using hks
  rw [pG,if_pos hr];exact(h.root hv hb).2
theorem fM {V:Nat→Value} {k k':List D→Option Out} {r r':Out} (h:eD c B X w0 F0 V k r a w) (hk:∀δ F O,Inv c B X w0 F0 F O a w δ→k δ=some r→k' δ=some r'):eD c B X w0 F0 V k' r' a w:=by
 obtain⟨⟨F,O,δ,h1,h2⟩,h3⟩:=h;exact⟨⟨F,O,δ,h1,hk δ F O h1 h2⟩,h3⟩
theorem qD {V:Nat→Value} {b:Code} {bid:Nat} {hl xl:List Nat} (h1:jj c.K hl=true) (h2:jj c.K xl=true)
  (ih:∀(F:Nat→Prop) (O:Nat→Option (Nat × Nat)) (a:Act) (w:World) (δ:List D),Inv c B X w0 F0 F O a w δ→IoV c V a→∀(k:Out→Option Out) (r:Out),den c bid b δ k=some r→∀Q,(∀e a w,yT c B X w0 F0 V k r e a w→Q e a w)→b.wp P Q a w)
  {k:Out→Option Out} {r:Out} {Q:Exit→Act→World→Prop} (hQ:∀e a w,yT c B X w0 F0 V k r e a w→Q e a w) {o:Out}
  (ho:dk o (fun i s=>fw (fU c.K) xl s fun δ=>k (.ext i δ)) (fun x y=>k (.ret x y))=some r):∀(n:Nat) (F:Nat→Prop) (O:Nat→Option (Nat × Nat)) (a:Act) (w:World) (δ:List D),Inv c B X w0 F0 F O a w δ→IoV c V a →
  iter (fun s=>fw (fU c.K) hl s fun δ=>den c bid b δ (bD hl xl)) n (ae δ hl)=some o→Code.rounds P b Q n a w
 | 0,_,_,_,_,_,_,_,h=>by cases h
 | n+1,F,O,a,w,δ,hI,hV,h=>by
  simp only [iter,iI] at h;rw [rounds_succ];have hI':=hI.carry h1;cases hb:den c bid b (carry (fU c.K) hl δ) (bD hl xl) with
  | none=>rw [hb] at h;cases h
  | some ob =>
   rw [hb] at h;refine ih F O a w _ hI' hV _ ob hb _ (fun e a' w' hp=>?_)
   cases ob with
   | nrm s' =>
    simp only at h;cases e with
    | normal =>
     obtain⟨⟨F',O',δ',g1,g2⟩,g3⟩:=hp;simp only [bD,ba,Fc,Out.nrm.injEq] at g2;rw [←g2] at h;exact qD h1 h2 ih hQ ho n F' O' a' w' δ' g1 g3 h
    | exit i =>
     obtain⟨⟨F',O',δ',g1,g2⟩,g3⟩:=hp;simp [bD,ba] at g2
    | ret =>
     obtain⟨⟨F',O',δ',g1,g2⟩,g3⟩:=hp;obtain⟨rs,_,_,g4⟩:=gn g2;simp [bD] at g4
    | _=>exact hp.elim
   | ext i l =>
    simp only [Fc] at h;subst h;cases e with
    | normal =>
     obtain⟨⟨F',O',δ',g1,g2⟩,g3⟩:=hp;simp [bD,ba] at g2
    | exit j =>
     obtain⟨⟨F',O',δ',g1,g2⟩,g3⟩:=hp;simp only [bD,ba,Fc,Out.ext.injEq] at g2;obtain⟨rfl,rfl⟩:=g2;simp only [dk,iI] at ho;exact hQ (.exit j) _ _ ⟨⟨F',O',_,g1.carry h2,ho⟩,g3⟩
    | ret =>
     obtain⟨⟨F',O',δ',g1,g2⟩,g3⟩:=hp;obtain⟨rs,_,_,g4⟩:=gn g2;simp [bD] at g4
    | _=>exact hp.elim
   | ret x y =>
    simp only [Fc] at h;subst h;cases e with
    | normal =>
     obtain⟨⟨F',O',δ',g1,g2⟩,g3⟩:=hp;simp [bD,ba] at g2
    | exit j =>
     obtain⟨⟨F',O',δ',g1,g2⟩,g3⟩:=hp;simp [bD,ba] at g2
    | ret =>
     obtain⟨⟨F',O',δ',g1,g2⟩,g3⟩:=hp;obtain⟨rs,g5,g6,g4⟩:=gn g2;simp only [bD,Fc,Out.ret.injEq] at g4;obtain⟨rfl,rfl⟩:=g4;exact hQ .ret _ _ ⟨⟨F',O',δ',g1,rq g5 g6 ho⟩,g3⟩
    | _=>exact hp.elim
theorem fQ (hT:okT P c.T=true) (hS:∀f S,cb c.S f=some S→ao c.G P f S) (hm:P.follows .mixedOrders=true) {V:Nat→Value}:∀(b:Code) (bid:Nat),cj c bid b=true→∀(F:Nat→Prop) (O:Nat→Option (Nat × Nat)) (a:Act) (w:World) (δ:List D),
  Inv c B X w0 F0 F O a w δ→IoV c V a→∀(k:Out→Option Out) (r:Out),den c bid b δ k=some r→∀Q,(∀e a w,yT c B X w0 F0 V k r e a w→Q e a w)→b.wp P Q a w
 | .skip,bid,_,F,O,a,w,δ,hI,hV,k,r,hg,Q,hQ=>wp_skip (hQ _ _ _ ⟨⟨F,O,δ,hI,hg⟩,hV⟩)
 | .region id ops d,bid,hok,F,O,a,w,δ,hI,hV,k,r,hg,Q,hQ=>by
  simp only [cj,EY,Fu] at hok;have hq:∀a w,eD c B X w0 F0 V (fun δ=>k (.nrm δ)) r a w→Q .normal a w:=fun a w h=>hQ _ _ _ h
  cases d
  ·exact wp_region_list (nz hT hS hq ops.toList hok.1 F O a w δ hI hV hg)
  ·exact uw hT hS (by simpa using hok.2) hm hq hok.1 hI hV hg id
 | .seq x y,bid,hok,F,O,a,w,δ,hI,hV,k,r,hg,Q,hQ=>by
  simp only [cj,EY] at hok;refine wp_seq (fQ hT hS hm x bid hok.1 F O a w δ hI hV _ r hg _ (fun e a' w' hp=>?_))
  cases e with
  | normal =>
   obtain⟨⟨F',O',δ',hI',hk'⟩,hV'⟩:=hp;exact fQ hT hS hm y bid hok.2 F' O' a' w' δ' hI' hV' k r hk' Q hQ
  | exit id=>exact hQ _ _ _ hp
  | ret=>exact hQ _ _ _ hp
  | _=>exact hp.elim
 | .cond x t e,bid,hok,F,O,a,w,δ,hI,hV,k,r,hg,Q,hQ=>by
  simp only [cj,EY] at hok;obtain⟨⟨hlv,hok1⟩,hok2⟩:=hok;have hop:=hI.opd (aM.1 hlv);have key:ifD (opD δ x) (den c bid t δ k) (den c bid e δ k)=some r:=by
   simp only [den] at hg;cases x with
   | tmp s=>simpa only [opC,cK,opD] using hg
   | const v=>simpa only [opC,opD] using hg
   | func f=>simpa only [opC,opD] using hg
   | global g=>simp [opC] at hg
  unfold ifD at key;split at key
  ·rename_i hd
   rw [hd] at hop;exact wp_cond_true (ay hop).1 (fQ hT hS hm t bid hok1 F O a w δ hI hV k r key Q hQ)
  ·rename_i hd
   rw [hd] at hop;exact wp_cond_false (ay hop).1 (fQ hT hS hm e bid hok2 F O a w δ hI hV k r key Q hQ)
  ·cases key
 | .block id b,bid,hok,F,O,a,w,δ,hI,hV,k,r,hg,Q,hQ=>by
  simp only [cj] at hok;refine wp_block (fQ hT hS hm b id hok F O a w δ hI hV _ r hg _ (fun e a' w' hp=>?_))
  cases e with
  | normal=>exact hQ .normal _ _ hp
  | exit i =>
   simp only [Exit.inBlock];have hp':eD c B X w0 F0 V (fun δ=>wm id (.ext i δ) k) r a' w':=hp;split
   ·rename_i hi
    refine hQ .normal _ _ (fM hp' fun δ F O _ h=>?_)
    simp only [wm] at h;rw [aq.2 (by simpa using hi)] at h;exact h
   ·rename_i hi
    refine hQ (.exit i) _ _ (fM hp' fun δ F O _ h=>?_)
    simp only [wm] at h;cases hb:Fe i id
    ·rw [hb] at h;exact h
    ·exact absurd (by simpa using aq.1 hb) hi
  | ret=>exact hQ .ret _ _ hp
  | _=>exact hp.elim
 | .loop b,bid,hok,F,O,a,w,δ,hI,hV,k,r,hg,Q,hQ=>by
  simp only [cj,EY] at hok;obtain⟨hok1,hok2⟩:=hok;simp only [den] at hg;cases hH:cb c.H bid with
  | none=>rw [hH] at hg;cases hg
  | some hx =>
   obtain⟨hl,xl⟩:=hx;rw [hH] at hg hok2;simp only [EY] at hok2;simp only [ba] at hg;obtain⟨o',h1,h2⟩:=EU.1 hg;unfold aS at h1;split at h1
   case isFalse=>cases h1
   rename_i hex;refine wp_loop_rounds (FD hex) ?_
   refine qD (hl:=hl) (xl:=xl) hok2.1 hok2.2 (fun F O a w δ hI hV k r hg Q hQ=>fQ hT hS hm b bid hok1 F O a w δ hI hV k r hg Q hQ) hQ h2 _ F O a w δ hI hV h1
 | .exit id,bid,_,F,O,a,w,δ,hI,hV,k,r,hg,Q,hQ=>wp_exit (hQ _ _ _ ⟨⟨F,O,δ,hI,hg⟩,hV⟩)
 | .ret,bid,_,F,O,a,w,δ,hI,hV,k,r,hg,Q,hQ=>wp_ret (hQ _ _ _ ⟨⟨F,O,δ,hI,hg⟩,hV⟩)
 | .label _,_,hok,_,_,_,_,_,_,_,_,_,_,_,_=>by simp [cj] at hok
 | .goto _,_,hok,_,_,_,_,_,_,_,_,_,_,_,_=>by simp [cj] at hok
 | .scope _,_,hok,_,_,_,_,_,_,_,_,_,_,_,_=>by simp [cj] at hok
end
end Go.V

end
