/-
  A part of the proof: contracts and plain forms of functions beneath the statement, made small by a program (names shortened, what is not needed left out).
-/
import Derived.Test.YtidhhpakdogiaaaGreatDoorRows
import Derived.Test.YtidhhpakdogiaaaGreatDoorTie
import Derived.Test.YtidhhpakdogiaaaGreatDoorCards
import Derived.Test.YtidhhpakdogiaaaGreatDoorM2
import Derived.Laws.RangeString
import Derived.MapKept
open Option renaming bind_eq_some_iff → GK, map_eq_some_iff → GL, bind_some → GQ, bind_assoc → Hl, getD_some → HL, map_some → Ic
open List renaming getD_eq_getElem?_getD → GM, map_cons → GR, mem_cons → GU, getElem?_eq_none → GV, drop_zero → GW, getElem?_eq_some_iff → He, snd_lt_of_mem_zipIdx → Hg, getElem?_eq_getElem → Hh, all_eq_true → Hi, nil_append → Hk, drop_eq_getElem_cons → Hs, map_nil → Hu, length_eq_one_iff → Hx, length_cons → Hy, cons_append → Hz, mem_append_right → HA, eq_nil_of_length_eq_zero → HE, length_take → HJ, getElem?_take_of_lt → HK, getElem?_cons_zero → HM, mem_filter → HP, take_append_drop → HQ, getD_cons_zero → HS, map_toArray → HZ
open Array renaming getD_eq_getD_getElem? → GN, getElem?_eq_getElem → GX, getElem?_eq_some_iff → Hb, getElem?_setIfInBounds → Ho, toArray_toList → Hp, getElem?_toList → HB, length_toList → HT, replicate → Ib
open Bool renaming and_eq_true → GO, not_eq_true' → Hd, or_eq_true → Ht, false_eq_true → HF, not_false → Ie
open List.cons renaming injEq → GP
open Option.some renaming injEq → GS, inj → Ia
open Nat renaming beq → GT, lt_of_lt_of_le → Ha, beq_refl → HC, le_trans → HD, le_refl → HY
open Go.MapKept renaming run_checkKey → GY, run_findKey → GZ, run_getObj_map → Hf
open Go.Region renaming wanted → Hc, binds → Hj, ready → Hw
open Go.Result renaming andThen → Hm
open Classical renaming choose_spec → Hn, choose → Hq
open Go.Instr renaming findNow → Hr, lookup → Hv, next → HG, mapUpdate → HN, sameNow → HR
open Ne renaming symm → HH
open Go.Builtin renaming min2 → HU, max2 → HV
open Go.Oper renaming wp_mono → HX
set_option maxRecDepth 100000
set_option linter.unusedSimpArgs false
set_option linter.unusedVariables false
noncomputable section
namespace Go.V
open Go.RowKit
set_option maxRecDepth 100000
def jy (w:World) (F own:Nat→Prop) (k:Kd) (d:D) (y:Value):Prop :=
 d = .bad∨match k with
  | .dat lv=>bw w (FB F 0 lv) d y
  | .own z lv true=>fw w (FB F 0 lv) own z d y
  | .box n lv true=>sk w (FB F 0 lv) own n d y
  | _=>False
def dG (w:World) (F:Nat→Prop) (ow:Nat→Option Nat):Nat→List Kd→List D→List Value→Prop
 | _,[],[],[]=>True
 | i,k::ks,d::ds,y::ys=>jy w F (fun g=>ow g=some i) k d y∧dG w F ow (i+1) ks ds ys
 | _,_,_,_=>False
def nC:Kd→Bool
 | .own _ _ true=>true
 | .box _ _ true=>true
 | _=>false
def kR (w:World) (F:Nat→Prop):List Kd→List D→List Value→Prop
 | [],[],_=>True
 | k::ks,us,y::ys=>if nC k then(match us with
   | u::us=>u ≠ .bad∧jy w F (fun _=>True) k u y∧kR w F ks us ys
   | []=>False) else kR w F ks us ys
 | _,_,_=>False
def ya (w:World) (F:Nat→Prop) (B:Nat) (own:Nat→Prop) (k:Kd) (d:D) (y:Value):Prop :=
 d = .bad∨match k with
  | .dat lv=>bw w (FB F B lv) d y
  | .own z lv false=>fw w (FB F B lv) (fun g=>own g∧B≤g) z d y
  | _=>False
def gS:List Value→Value
 | [y]=>y
 | ys=>.tuple ys.toArray
structure CallPost (S:FS) (args:Array Value) (rs us:List D) (w:World) (F:Nat→Prop) (ow:Nat→Option Nat) (F':Nat→Prop) (R:Nat→Option Nat) (vs:List Value) (w':World):Prop where
 os:w'.os=w.os
 tape:w'.tape=w.tape
 output:w'.output=w.output
 size:w.heap.size≤w'.heap.size
 keep:∀b,b<w.heap.size→ow b=none→w'.heap[b]?=w.heap[b]?
 f0:∀b,F b→F' b
 fn:∀b,F' b→(F b∨w.heap.size≤b)∧b<w'.heap.size∧R b=none
 rn:∀b j,R b=some j→w.heap.size≤b∧b<w'.heap.size
 len:vs.length=S.rm.length
 lenD:rs.length=S.rm.length
 res:∀j,ya w' F' w.heap.size (fun g=>R g=some j) (ak S.rm j) (nth rs j) (vs.getD j undef)
 us:kR w' F' S.pm us args.toList
def Fv (P:Program) (f:FuncId) (args:Array Value) (w:World) (R:Value→World→Prop):Prop :=
 ∀(o:Oper) (a:Act) (next:Act→World→Prop) (Q:Exit→Act→World→Prop),(∀v w',R v w'→next (a.put o.dst v) w')→o.upon P a next Q ((callFunc f args).run P w)
def aw (G:List (Nat × (Obj→Prop))) (P:Program) (f:FuncId) (S:FS):Prop :=
 ∀(ds rs us:List D),S.f ds=some (.ret rs us)→∀(args:Array Value) (w:World) (F:Nat→Prop) (ow:Nat→Option Nat),gOk G w F→dG w F ow 0 S.pm ds args.toList →
  (∀b,F b→b<w.heap.size∧ow b=none)→(∀b i,ow b=some i→b<w.heap.size)→Fv P f args w fun v w'=>∃F' R vs,v=gS vs∧CallPost S args rs us w F ow F' R vs w'
section
variable {P:Program} {c:Cx} {B:Nat} {X:Nat→Prop} {w0:World} {F0 F:Nat→Prop} {O:Nat→Option (Nat × Nat)} {a:Act} {w:World} {δ:List D}
def bE:List Ag→List D→Option (List D)
 | [],_=>some []
 | .d x chk::l,is=>match x with
  | .tmp _=>match is with
   | i::is=>match chk with
    | false=>(bE l is).map (i::·)
    | true=>(bg i).bind fun i=>(bE l is).map (i::·)
   | []=>none
  | .const v=>(bE l is).map (oY v::·)
  | .func f=>(bE l is).map (.clo f []::·)
  | .global _=>none
 | .bor t r::l,is=>match GT t r with
  | true=>match is with
   | i::is=>(bE l is).map (i::·)
   | _=>none
  | false=>match is with
   | p::i::is=>(aa p i).bind fun i=>(bE l is).map (i::·)
   | _=>none
 | .io t r::l,is=>match GT t r with
  | true=>match is with
   | i::is=>(aa i i).bind fun i=>(bE l is).map (i::·)
   | _=>none
  | false=>match is with
   | p::i::is=>(bp p i).bind fun i=>(aa i i).bind fun i=>(bE l is).map (i::·)
   | _=>none
theorem jw (o:Option (List D)) (i:D) (acc:List D) (k:List D→Option Out):((o.map (i::·)).bind fun ds=>k (acc++ds))=o.bind fun ds=>k (app acc [i]++ds):=by
 cases o<;>simp [iQ]
theorem eS:∀(l:List Ag) (acc is:List D) (k:List D→Option Out),eH acc l is k=(bE l is).bind fun ds=>k (acc++ds)
 | [],acc,is,k=>by simp [eH,bE]
 | .d x chk::l,acc,is,k=>by
  cases x with
  | tmp t =>
   cases is with
   | nil=>simp [eH,bE]
   | cons i is =>
    cases chk
    ·simp only [eH,bE]
     rw [jw,eS l]
    ·simp only [eH,bE,Hl]
     congr 1
     funext i
     rw [jw,eS l]
  | const v=>simp only [eH,bE];rw [jw,eS l]
  | func f=>simp only [eH,bE];rw [jw,eS l]
  | global g=>simp [eH,bE]
 | .bor t r::l,acc,is,k=>by
  cases hb:GT t r
  ·rcases is with _ | ⟨p,_ | ⟨i,is⟩⟩
   ·simp [eH,bE,hb]
   ·simp [eH,bE,hb]
   ·simp only [eH,bE,hb,Hl]
    refine congrArg _ (funext fun i=>?_)
    rw [jw,eS l]
  ·cases is with
   | nil=>simp [eH,bE,hb]
   | cons i is=>simp only [eH,bE,hb];rw [jw,eS l]
 | .io t r::l,acc,is,k=>by
  cases hb:GT t r
  ·rcases is with _ | ⟨p,_ | ⟨i,is⟩⟩
   ·simp [eH,bE,hb]
   ·simp [eH,bE,hb]
   ·simp only [eH,bE,hb,Hl]
    refine congrArg _ (funext fun i=>?_)
    refine congrArg _ (funext fun i=>?_)
    rw [jw,eS l]
  ·cases is with
   | nil=>simp [eH,bE,hb]
   | cons i is =>
    simp only [eH,bE,hb,Hl];refine congrArg _ (funext fun i=>?_)
    rw [jw,eS l]
theorem qr {F' own:Nat→Prop} {lv l:Nat} {d:D} {y:Value} (hF:∀b,F b→F' b) (h:bD w (FB F B lv) d y) (hl:lv≤l) (h1:l≠1):jy w F' own (.dat l) d y:=by
 rcases h with h | h
 ·exact .inl h
 ·refine .inr (aZ (fun b hb=>?_) (fun _ _=>rfl) h)
  match l,h1,hl with
  | 0,_,hl =>
   have:lv=0:=by omega
   subst this;exact hb
  | l+2,_,_=>exact hF b (dB b hb)
def rT:List Ag→Nat→Option Nat
 | [],_=>none
 | .io _ r::_,0=>some r
 | _::_,0=>none
 | _::l,n+1=>rT l n
theorem ww (hI:Inv c B X w0 F0 F O a w δ) {F':Nat→Prop} {ow:Nat→Option Nat} (hF:∀b,F b→F' b):∀(xs:List Operand) (pm:List Kd) (ags:List Ag) (i0:Nat) (ds:List D),fE c.K xs pm=some ags→fO pm=true →
  bE ags (ae δ (dg ags))=some ds→(∀r∈dV ags,∀b,O b=some (r,0)→F' b)→(∀j r,rT ags j=some r→∀b,O b=some (r,0)→ow b=some (i0+j))→dG w F' ow i0 pm ds (xs.map a.eval)
 | [],[],ags,i0,ds,h,_,hd,_,_=>by
  simp only [fE,GS] at h;subst h;simp [bE] at hd;subst hd;trivial
 | [],_::_,_,_,_,h,_,_,_,_=>by simp [fE] at h
 | _::_,[],_,_,_,h,_,_,_,_=>by simp [fE] at h
 | x::xs,m::pm,ags,i0,ds,h,hpm,hd,hbor,hio=>by
  simp only [fE] at h;split at h
  case h_2=>cases h
  rename_i g l hg hl;cases h;have hpm':fO pm=true∧(∀lv,m = .dat lv→lv≠1)∧(∀z lv io,m = .own z lv io→io=true∧lv≠1)∧(∀z lv io,m = .box z lv io→io=true∧lv≠1):=by
   cases m with
   | dat lv =>
    simp only [fO] at hpm;split at hpm
    case h_2=>cases hpm
    rename_i h1 h2;exact⟨hpm,fun l e=>by cases e;intro e;subst e;simp at h1,fun _ _ _ e=>(by cases e),fun _ _ _ e=>(by cases e)⟩
   | own z lv io =>
    cases io
    ·simp [fO] at hpm
    simp only [fO] at hpm;split at hpm
    case h_2=>cases hpm
    rename_i h1 h2;exact⟨hpm,fun _ e=>(by cases e),fun _ l _ e=>by cases e;exact⟨rfl,fun e=>by subst e;simp at h1⟩,fun _ _ _ e=>(by cases e)⟩
   | box z lv io =>
    cases io
    ·simp [fO] at hpm
    simp only [fO] at hpm;split at hpm
    case h_2=>cases hpm
    rename_i h1 h2;exact⟨hpm,fun _ e=>(by cases e),fun _ _ _ e=>(by cases e),fun _ l _ e=>by cases e;exact⟨rfl,fun e=>by subst e;simp at h1⟩⟩
   | _=>simp [fO] at hpm
  obtain⟨hp1,hp2,hp3,hp4⟩:=hpm';have rest:∀d' ds',ds=d'::ds'→bE l (ae δ (dg l))=some ds'→(∀r∈dV l,∀b,O b=some (r,0)→F' b)→(∀j r,rT l j=some r→∀b,O b=some (r,0)→ow b=some (i0+1+j)) →
    jy w F' (fun g=>ow g=some i0) m d' (a.eval x)→dG w F' ow i0 (m::pm) ds ((x::xs).map a.eval):=by
   intro d' ds' e h1 h2 h3 h4;subst e;exact⟨h4,ww hI hF xs pm l (i0+1) ds' hl hp1 h1 h2 h3⟩
  have hio':∀j r,rT l j=some r→∀b,O b=some (r,0)→ow b=some (i0+1+j):=fun j r hj b hb=>by
   have:=hio (j+1) r (by cases g<;>exact hj) b hb;rw [this];congr 1
   omega
  have hbor':∀r∈dV l,∀b,O b=some (r,0)→F' b:=fun r hr=>hbor r (by cases g<;>simp [dV,hr])
  unfold mx at hg;split at hg
  ·rename_i lm
   have hl1:=hp2 lm rfl;split at hg
   ·rename_i t
    split at hg
    ·rename_i lv hk
     have hrep:=hI.dat hk;split at hg
     ·rename_i hle
      cases hg;simp only [app,ae,bE] at hd;obtain⟨ds',h1,rfl⟩:=GL.1 hd;exact rest _ _ rfl h1 hbor' hio' (qr hF hrep (aS.1 hle) hl1)
     ·split at hg
      case h_2=>cases hg
      rename_i hle h0;cases hg;simp only [app,ae,bE] at hd;obtain⟨i,hc,hd⟩:=GK.1 hd;obtain⟨ds',h1,rfl⟩:=GL.1 hd;refine rest _ _ rfl h1 hbor' hio' ?_
      unfold bg at hc;split at hc
      case isFalse=>cases hc
      rename_i hv;cases hc;refine .inr (kE hv (hrep.rep ?_))
      intro e;rw [e] at hv;simp [D.isV] at hv
    ·rename_i z lv io hk
     split at hg
     case h_2=>cases hg
     rename_i hl2;cases hg;simp only [dg,HC,ae,bE] at hd;obtain⟨ds',h1,rfl⟩:=GL.1 hd;refine rest _ _ rfl h1 hbor' hio' ?_
     by_cases hb:nth δ t = .bad
     ·exact .inl hb
     ·refine .inr (aZ (fun b hb=>?_) (fun _ _=>rfl) (gR (hI.own hk hb)))
      rw [ay] at hl2;subst hl2;rcases hb with hb | hb
      ·exact hF b (dB b hb)
      ·exact hbor t (by simp [dV]) b hb.1
    ·rename_i r hk
     split at hg
     case h_2=>cases hg
     rename_i hl2 hown;cases hg;rw [ay] at hl2;subst hl2;have hviaD:∀(hbt:nth δ t ≠ .bad),jy w F' (fun g=>ow g=some i0) (.dat 2) (nth δ r) (a.eval (.tmp t)):=by
      intro hbt;obtain⟨g1,g2,g3,g4⟩:=hI.via hk hbt;obtain⟨z,lv,io,hkr⟩:∃z lv io,ak c.K r = .own z lv io:=by
       unfold vo at hown;split at hown
       ·exact⟨_,_,_,‹_›⟩
       ·cases hown
      rw [bj,g1];refine .inr (aZ (fun b hb=>?_) (fun _ _=>rfl) (gR (hI.own hkr g3)))
      rcases hb with hb | hb
      ·exact hF b (dB b hb)
      ·exact hbor r (by simp [dV]) b hb.1
     cases htr:GT t r
     ·simp only [dg,htr,ae,bE] at hd
      obtain⟨i,hc,hd⟩:=GK.1 hd;obtain⟨ds',h1,rfl⟩:=GL.1 hd;obtain⟨hbt,rfl⟩:=aQ hc;exact rest _ _ rfl h1 hbor' hio' (hviaD hbt)
     ·have:=ay.1 htr
      subst this;simp only [dg,htr,ae,bE] at hd;obtain⟨ds',h1,rfl⟩:=GL.1 hd;refine rest _ _ rfl h1 hbor' hio' ?_
      by_cases hb:nth δ t = .bad
      ·exact .inl hb
      ·exact hviaD hb
    ·cases hg
   ·cases hg
   ·rename_i f
    cases hg;simp only [dg,app,bE] at hd;obtain⟨ds',h1,rfl⟩:=GL.1 hd;refine rest _ _ rfl h1 hbor' hio' (qr hF (lv:=0) (hI.opd (x:=.func f) (by simp [ct])) (Nat.zero_le _) hl1)
   ·rename_i v
    split at hg
    case h_2=>cases hg
    rename_i hv;cases hg;simp only [dg,app,bE] at hd;obtain⟨ds',h1,rfl⟩:=GL.1 hd;have:=hI.opd (x:=.const v) (by simp [ct,hv]);simp only [ct,hv,opD] at this;exact rest _ _ rfl h1 hbor' hio' (qr hF this (Nat.zero_le _) hl1)
  ·rename_i z l'
   have hl1:=(hp3 z l' true rfl).2;have hcv:∀(lv:Nat),l'=lv→∀b,FB F B lv b→FB F' 0 l' b:=by
    intro lv e b hb;subst e
    match l',hl1 with
    | 0,_=>exact hb.elim
    | n+2,_=>exact hF b hb
   split at hg
   case h_2=>cases hg
   rename_i t;split at hg
   ·rename_i z' lv io hk
    split at hg
    case h_2=>cases hg
    rename_i h1 h2;rw [ay] at h1 h2;subst h1;cases hg;simp only [dg,HC,ae,bE] at hd;obtain⟨i,hc,hd⟩:=GK.1 hd;obtain⟨ds',h1',rfl⟩:=GL.1 hd;obtain⟨hb,rfl⟩:=aQ hc;exact rest _ _ rfl h1' hbor' hio' (.inr (cy (hcv lv h2) (fun _ _=>rfl) (fun g _ ho=>⟨by simpa using hio 0 t rfl g ho.1,rfl⟩) (hI.own hk hb)))
   ·rename_i r hk
    split at hg
    case h_2=>cases hg
    rename_i z' lv io hkr;split at hg
    case h_2=>cases hg
    rename_i h1 h2;rw [ay] at h1 h2;subst h1;cases hg;have hvia:nth δ t ≠ .bad→nth δ r ≠ .bad→jy w F' (fun g=>ow g=some i0) (.own z l' true) (nth δ r) (a.eval (.tmp t)):=by
     intro hbt hb;rw [bj,(hI.via hk hbt).1];exact .inr (cy (hcv lv h2) (fun _ _=>rfl) (fun g _ ho=>⟨by simpa using hio 0 r rfl g ho.1,rfl⟩) (hI.own hkr hb))
    cases htr:GT t r
    ·simp only [dg,htr,ae,bE] at hd
     obtain⟨i,hc,hd⟩:=GK.1 hd;obtain⟨i',hc',hd⟩:=GK.1 hd;obtain⟨ds',h1',rfl⟩:=GL.1 hd;obtain⟨hb,rfl⟩:=aQ hc';unfold bp at hc;split at hc
     case h_2=>cases hc
     rename_i hr0;cases hc;exact rest _ _ rfl h1' hbor' hio' (hvia (by rw [hr0];simp) hb)
    ·have e:=ay.1 htr
     subst e;rw [hk] at hkr;cases hkr
   ·cases hg
  ·rename_i n l'
   have hl1:=(hp4 n l' true rfl).2;have hcv:∀(lv:Nat),l'=lv→∀b,FB F B lv b→FB F' 0 l' b:=by
    intro lv e b hb;subst e
    match l',hl1 with
    | 0,_=>exact hb.elim
    | n+2,_=>exact hF b hb
   split at hg
   case h_2=>cases hg
   rename_i t;split at hg
   ·rename_i z' lv io hk
    split at hg
    case h_2=>cases hg
    rename_i h1 h2;rw [ay] at h1 h2;subst h1;cases hg;simp only [dg,HC,ae,bE] at hd;obtain⟨i,hc,hd⟩:=GK.1 hd;obtain⟨ds',h1',rfl⟩:=GL.1 hd;obtain⟨hb,rfl⟩:=aQ hc;exact rest _ _ rfl h1' hbor' hio' (.inr (qF (hcv lv h2) (fun _ _=>rfl) (fun g ho=>⟨by simpa using hio 0 t rfl g ho.1,rfl⟩) (hI.box hk hb)))
   ·rename_i r hk
    split at hg
    case h_2=>cases hg
    rename_i z' lv io hkr;split at hg
    case h_2=>cases hg
    rename_i h1 h2;rw [ay] at h1 h2;subst h1;cases hg;cases htr:GT t r
    ·simp only [dg,htr,ae,bE] at hd
     obtain⟨i,hc,hd⟩:=GK.1 hd;obtain⟨i',hc',hd⟩:=GK.1 hd;obtain⟨ds',h1',rfl⟩:=GL.1 hd;obtain⟨hb,rfl⟩:=aQ hc';unfold bp at hc;split at hc
     case h_2=>cases hc
     rename_i hr0;cases hc;obtain⟨ii,ff,h5,_,h6⟩:=hI.ref hk (by rw [hr0];simp);rw [hr0] at h5;cases h5;rw [hkr] at h6;obtain⟨g0,e1,e2⟩:=h6;refine rest _ _ rfl h1' hbor' hio' (.inr ?_)
     rw [bj,e2,←e1];exact qF (hcv lv h2) (fun _ _=>rfl) (fun g ho=>⟨by simpa using hio 0 r rfl g ho.1,rfl⟩) (hI.box hkr hb)
    ·have e:=ay.1 htr
     subst e;rw [hk] at hkr;cases hkr
   ·cases hg
  ·cases hg
end
end Go.V

namespace Go.V
open Go.RowKit
set_option maxRecDepth 100000
section
variable {P:Program} {c:Cx} {B:Nat} {X:Nat→Prop} {w0:World} {F0 F:Nat→Prop} {O:Nat→Option (Nat × Nat)} {a:Act} {w:World} {δ:List D}
theorem jh {w w':World} {F F':Nat→Prop} {own own':Nat→Prop} {n:Nat} {d:D} {y:Value} (hF:∀b,F b→F' b) (hw:∀b,F b→w'.heap[b]?=w.heap[b]?)
  (ho:∀g,V.blk y=some g→own g→own' g∧w'.heap[g]?=w.heap[g]?) (h:sk w F own n d y):sk w' F' own' n d y:=by
 obtain⟨l,us,g,e,a1,rfl,a3,a4,a5,a6,a7⟩:=h;exact⟨l,us,g,e,a1,rfl,(ho g rfl a7).2.trans a3,be hF hw _ _ a4,a5,a6,(ho g rfl a7).1⟩
theorem sk.blk {F:Nat→Prop} {own:Nat→Prop} {n:Nat} {d:D} {y:Value} (h:sk w F own n d y):∀b,V.blk y=some b→own b∧b<w.heap.size:=by
 intro b hb;obtain⟨l,us,g,e,a1,rfl,a3,a4,a5,a6,a7⟩:=h;simp [V.blk] at hb;subst hb;exact⟨a7,(Hb.1 a3).1⟩
def nF:List Ag→Nat→Nat→Option Nat
 | [],_,_=>none
 | .io _ q::l,r,i=>if q=r then some i else nF l r (i+1)
 | .d _ _::l,r,i=>nF l r (i+1)
 | .bor _ _::l,r,i=>nF l r (i+1)
theorem mj:∀{l:List Ag} {r i j:Nat},nF l r i=some j→r∈cF l
 | .io _ q::l,r,i,j,h=>by
  simp only [nF] at h;split at h
  ·rename_i e;subst e;simp [cF]
  ·simp [cF,mj h]
 | .d _ _::l,r,i,j,h=>by simpa [cF] using mj (l:=l) h
 | .bor _ _::l,r,i,j,h=>by simpa [cF] using mj (l:=l) h
theorem mF:∀{l:List Ag} {r j:Nat},rT l j=some r→r∈cF l
 | .io _ q::l,r,0,h=>by simp [rT] at h;simp [cF,h]
 | .io _ q::l,r,j+1,h=>by simp only [cF,GU];exact .inr (mF (l:=l) h)
 | .d _ _::l,r,0,h=>by simp [rT] at h
 | .bor _ _::l,r,0,h=>by simp [rT] at h
 | .d _ _::l,r,j+1,h=>by simpa [cF] using mF (l:=l) h
 | .bor _ _::l,r,j+1,h=>by simpa [cF] using mF (l:=l) h
theorem mz {a:Nat} {l:List Nat} (h:gf (a::l)=true):a∉l∧gf l=true:=by
 simp only [gf,eU] at h;split at h
 ·cases h
 ·rename_i h1
  exact⟨by simpa using h1,h⟩
theorem su:∀{l:List Ag} {r i j:Nat},gf (cF l)=true→rT l j=some r→nF l r i=some (i+j)
 | .io _ q::l,r,i,0,_,h=>by simp [rT] at h;simp [nF,h]
 | .io _ q::l,r,i,j+1,hn,h=>by
  obtain⟨h1,h2⟩:=mz hn;have h3:=mF (l:=l) h;have hne:¬q=r:=fun e=>h1 (by rw [e];exact h3)
  simp only [nF];rw [if_neg hne,su (l:=l) h2 h];congr 1;omega
 | .d _ _::l,r,i,0,_,h=>by simp [rT] at h
 | .bor _ _::l,r,i,0,_,h=>by simp [rT] at h
 | .d _ _::l,r,i,j+1,hn,h=>by simp only [nF];rw [su (l:=l) hn h];congr 1;omega
 | .bor _ _::l,r,i,j+1,hn,h=>by simp only [nF];rw [su (l:=l) hn h];congr 1;omega
def xk (c:Cx) (a:Act) (δ:List D):List Ag→List Kd→List Operand→Prop
 | [],[],[]=>True
 | .io _ r::l,m::pm,x::xs=>(nth δ r ≠ .bad∧a.eval x=av a r∧((∃z lv io,m = .own z lv true∧ak c.K r = .own z lv io∧lv≠1)∨∃n lv io,m = .box n lv true∧ak c.K r = .box n lv io∧lv≠1))∧xk c a δ l pm xs
 | _::l,m::pm,_::xs=>nC m=false∧xk c a δ l pm xs
 | _,_,_=>False
theorem vc {m:Kd} {pm:List Kd} (h:fO (m::pm)=true):fO pm=true∧(∀z lv,m = .own z lv true→lv≠1)∧∀n lv,m = .box n lv true→lv≠1:=by
 cases m with
 | dat lv =>
  simp only [fO] at h;split at h
  case h_2=>cases h
  exact⟨h,fun _ _ e=>(by cases e),fun _ _ e=>(by cases e)⟩
 | own z lv io =>
  cases io
  ·simp [fO] at h
  simp only [fO] at h;split at h
  case h_2=>cases h
  rename_i h1 h2;exact⟨h,fun _ l e=>by cases e;intro e;subst e;simp at h1,fun _ _ e=>(by cases e)⟩
 | box z lv io =>
  cases io
  ·simp [fO] at h
  simp only [fO] at h;split at h
  case h_2=>cases h
  rename_i h1 h2;exact⟨h,fun _ _ e=>(by cases e),fun _ l e=>by cases e;intro e;subst e;simp at h1⟩
 | _=>simp [fO] at h
theorem BA {K:List Kd} {x:Operand} {m:Kd} {t r:Nat} (h:mx K x m=some (.bor t r)):∃lv,m = .dat lv:=by
 cases m with
 | dat lv=>exact⟨lv,rfl⟩
 | own z lv io =>
  exfalso;cases io
  ·simp [mx] at h
  ·simp only [mx] at h
   repeat (split at h<;>try cases h)
 | box z lv io =>
  exfalso;cases io
  ·simp [mx] at h
  ·simp only [mx] at h
   repeat (split at h<;>try cases h)
 | _=>simp [mx] at h
theorem EI {K:List Kd} {x:Operand} {m:Kd} {t r:Nat} (h:mx K x m=some (.io t r)):x = .tmp t∧((∃z lv io,m = .own z lv true∧((t=r∧ak K t = .own z lv io)∨(ak K t = .via r∧ak K r = .own z lv io))) ∨
  ∃n lv io,m = .box n lv true∧((t=r∧ak K t = .box n lv io)∨(ak K t = .ref r∧ak K r = .box n lv io))):=by
 cases m with
 | dat lv =>
  exfalso;simp only [mx] at h
  repeat (split at h<;>try cases h)
 | own z lv io =>
  cases io
  ·simp [mx] at h
  ·simp only [mx] at h
   split at h
   case h_2=>cases h
   split at h
   ·rename_i hk
    split at h
    case h_2=>cases h
    rename_i h1 h2;rw [ay] at h1 h2;cases h;exact⟨rfl,.inl ⟨_,_,_,rfl,.inl ⟨rfl,by rw [hk,h1,h2]⟩⟩⟩
   ·rename_i hk
    split at h
    case h_2=>cases h
    rename_i hk2;split at h
    case h_2=>cases h
    rename_i h1 h2;rw [ay] at h1 h2;cases h;exact⟨rfl,.inl ⟨_,_,_,rfl,.inr ⟨hk,by rw [hk2,h1,h2]⟩⟩⟩
   ·cases h
 | box z lv io =>
  cases io
  ·simp [mx] at h
  ·simp only [mx] at h
   split at h
   case h_2=>cases h
   split at h
   ·rename_i hk
    split at h
    case h_2=>cases h
    rename_i h1 h2;rw [ay] at h1 h2;cases h;exact⟨rfl,.inr ⟨_,_,_,rfl,.inl ⟨rfl,by rw [hk,h1,h2]⟩⟩⟩
   ·rename_i hk
    split at h
    case h_2=>cases h
    rename_i hk2;split at h
    case h_2=>cases h
    rename_i h1 h2;rw [ay] at h1 h2;cases h;exact⟨rfl,.inr ⟨_,_,_,rfl,.inr ⟨hk,by rw [hk2,h1,h2]⟩⟩⟩
   ·cases h
 | _=>simp [mx] at h
theorem qs (hI:Inv c B X w0 F0 F O a w δ):∀(xs:List Operand) (pm:List Kd) (ags:List Ag) (ds:List D),fE c.K xs pm=some ags→fO pm=true→bE ags (ae δ (dg ags))=some ds→xk c a δ ags pm xs
 | [],[],ags,ds,h,_,_=>by
  simp only [fE,GS] at h;subst h;trivial
 | [],_::_,_,_,h,_,_=>by simp [fE] at h
 | _::_,[],_,_,h,_,_=>by simp [fE] at h
 | x::xs,m::pm,ags,ds,h,hpm,hd=>by
  simp only [fE] at h;split at h
  case h_2=>cases h
  rename_i g l hg hl;cases h;obtain⟨hp1,hp2,hp3⟩:=vc hpm;cases g with
  | d y chk =>
   have hnio:nC m=false:=by
    cases m with
    | own z lv io=>cases io<;>first | rfl | (simp only [mx] at hg;repeat (split at hg<;>try cases hg))
    | box z lv io=>cases io<;>first | rfl | (simp only [mx] at hg;repeat (split at hg<;>try cases hg))
    | _=>rfl
   have hd':∃ds',bE l (ae δ (dg l))=some ds':=by
    cases y with
    | tmp t =>
     simp only [app,ae,bE] at hd;split at hd
     ·obtain⟨ds',h1,_⟩:=GL.1 hd
      exact⟨ds',h1⟩
     ·obtain⟨i,_,hd⟩:=GK.1 hd
      obtain⟨ds',h1,_⟩:=GL.1 hd;exact⟨ds',h1⟩
    | const v =>
     simp only [dg,app,bE] at hd;obtain⟨ds',h1,_⟩:=GL.1 hd;exact⟨ds',h1⟩
    | func v =>
     simp only [dg,app,bE] at hd;obtain⟨ds',h1,_⟩:=GL.1 hd;exact⟨ds',h1⟩
    | global v=>simp [bE] at hd
   obtain⟨ds',hd'⟩:=hd';exact⟨hnio,qs hI xs pm l ds' hl hp1 hd'⟩
  | bor t r =>
   have hnio:nC m=false:=by
    obtain⟨lv,e⟩:=BA hg;rw [e];rfl
   have hd':∃ds',bE l (ae δ (dg l))=some ds':=by
    cases htr:GT t r
    ·simp only [dg,htr,ae,bE] at hd
     obtain⟨i,_,hd⟩:=GK.1 hd;obtain⟨ds',h1,_⟩:=GL.1 hd;exact⟨ds',h1⟩
    ·simp only [dg,htr,ae,bE] at hd
     obtain⟨ds',h1,_⟩:=GL.1 hd;exact⟨ds',h1⟩
   obtain⟨ds',hd'⟩:=hd';exact⟨hnio,qs hI xs pm l ds' hl hp1 hd'⟩
  | io t r =>
   obtain⟨rfl,hk⟩:=EI hg;have main:(nth δ r ≠ .bad∧(t=r∨nth δ t = .ref 0 0))∧∃ds',bE l (ae δ (dg l))=some ds':=by
    cases htr:GT t r
    ·simp only [dg,htr,ae,bE] at hd
     obtain⟨i,hc,hd⟩:=GK.1 hd;obtain⟨i',hc',hd⟩:=GK.1 hd;obtain⟨ds',h1,_⟩:=GL.1 hd;obtain⟨hb,rfl⟩:=aQ hc';unfold bp at hc;split at hc
     case h_2=>cases hc
     rename_i hr0;cases hc;exact⟨⟨hb,.inr hr0⟩,ds',h1⟩
    ·have e:=ay.1 htr
     subst e;simp only [dg,htr,ae,bE] at hd;obtain⟨i',hc',hd⟩:=GK.1 hd;obtain⟨ds',h1,_⟩:=GL.1 hd;exact⟨⟨(aQ hc').1,.inl rfl⟩,ds',h1⟩
   obtain⟨⟨hb,hre⟩,ds',hd'⟩:=main;refine⟨⟨hb,?_,?_⟩,qs hI xs pm l ds' hl hp1 hd'⟩
   ·rcases hre with e | hr0
    ·rw [e];rfl
    ·rcases hk with ⟨z,lv,io,_,h2⟩ | ⟨n,lv,io,_,h2⟩
     ·rcases h2 with ⟨e,_⟩ | ⟨h3,h4⟩
      ·rw [e];rfl
      ·exact(hI.via h3 (by rw [hr0];simp)).1
     ·rcases h2 with ⟨e,_⟩ | ⟨h3,h4⟩
      ·rw [e];rfl
      ·obtain⟨ii,ff,h5,_,h6⟩:=hI.ref h3 (by rw [hr0];simp)
       rw [hr0] at h5;cases h5;rw [h4] at h6;obtain⟨g0,e1,e2⟩:=h6;rw [bj,e1,e2]
   ·rcases hk with ⟨z,lv,io,h1,h2⟩ | ⟨n,lv,io,h1,h2⟩
    ·refine .inl ⟨z,lv,io,h1,?_,hp2 z lv h1⟩
     rcases h2 with ⟨e,h2⟩ | ⟨_,h2⟩
     ·rw [←e];exact h2
     ·exact h2
    ·refine .inr ⟨n,lv,io,h1,?_,hp3 n lv h1⟩
     rcases h2 with ⟨e,h2⟩ | ⟨_,h2⟩
     ·rw [←e];exact h2
     ·exact h2
def Gs (w':World) (F':Nat→Prop) (k:Kd) (u:D) (y:Value):Prop :=
 u ≠ .bad∧match k with
  | .own z lv _=>lv≠1∧fw w' (FB F' 0 lv) (fun _=>True) z u y
  | .box n lv _=>lv≠1∧sk w' (FB F' 0 lv) (fun _=>True) n u y
  | _=>False
theorem qU {w':World} {F':Nat→Prop}:∀(ags:List Ag) (pm:List Kd) (xs:List Operand) (us:List D),xk c a δ ags pm xs→kR w' F' pm us (xs.map a.eval) →
  us.length=(cF ags).length∧∀(m r:Nat),(cF ags)[m]?=some r→nth δ r ≠ .bad∧∃u:D,us[m]?=some u∧Gs w' F' (ak c.K r) u (av a r)
 | [],[],[],us,_,hu=>by
  cases us with
  | nil=>simp [cF]
  | cons u us=>simp [kR] at hu
 | .io t r::l,m::pm,x::xs,us,h,hu=>by
  obtain⟨⟨h1,h2,h3⟩,h4⟩:=h;simp only [GR,kR] at hu;have hio:nC m=true:=by rcases h3 with ⟨z,lv,io,rfl,_⟩ | ⟨n,lv,io,rfl,_⟩<;>rfl
  rw [if_pos hio] at hu;cases us with
  | nil=>exact hu.elim
  | cons u us =>
   obtain⟨u1,u2,u3⟩:=hu;obtain⟨g1,g2⟩:=qU l pm xs us h4 u3;refine⟨by simp [cF,g1],fun j q hj=>?_⟩
   cases j with
   | zero =>
    simp only [cF,HM,GS] at hj;subst hj;refine⟨h1,u,rfl,u1,?_⟩
    rw [h2] at u2;have u2:=u2.resolve_left u1;rcases h3 with ⟨z,lv,io,rfl,hk,hlv⟩ | ⟨n,lv,io,rfl,hk,hlv⟩
    ·rw [hk];exact⟨hlv,u2⟩
    ·rw [hk];exact⟨hlv,u2⟩
   | succ j =>
    simp only [cF,List.getElem?_cons_succ] at hj;exact g2 j q hj
 | .d y chk::l,m::pm,x::xs,us,h,hu=>by
  obtain⟨h1,h2⟩:=h;simp only [GR,kR,h1] at hu;exact qU l pm xs us h2 hu
 | .bor y chk::l,m::pm,x::xs,us,h,hu=>by
  obtain⟨h1,h2⟩:=h;simp only [GR,kR,h1] at hu;exact qU l pm xs us h2 hu
 | [],[],_::_,_,h,_=>h.elim
 | [],_::_,_,_,h,_=>h.elim
 | .io _ _::_,[],_,_,h,_=>h.elim
 | .io _ _::_,_::_,[],_,h,_=>h.elim
 | .d _ _::_,[],_,_,h,_=>h.elim
 | .d _ _::_,_::_,[],_,h,_=>h.elim
 | .bor _ _::_,[],_,_,h,_=>h.elim
 | .bor _ _::_,_::_,[],_,h,_=>h.elim
theorem zI (us:List D):∀(ios:List Nat) (j:Nat),j+ios.length≤us.length→oK.go us j ios=(us.drop j).take ios.length
 | [],j,_=>by simp [oK.go]
 | _::l,j,h=>by
  simp only [Hy] at h;simp only [oK.go];rw [zI us l (j+1) (by omega)];have hj:j<us.length:=by omega
  rw [Hs hj,Hy,List.take_succ_cons,cJ,GM,Hh hj];rfl
theorem lk:∀(ss:List Nat) (ds δ:List D) (m s:Nat),gf ss=true→ss[m]?=some s→s<δ.length→nth (af δ ss ds) s=nth ds m
 | t::ss,[],δ,m,s,hn,hm,hl=>by
  rw [gP _ _ _ (List.mem_of_getElem? hm)]
 | t::ss,d::ds,δ,0,s,hn,hm,hl=>by
  obtain⟨h1,h2⟩:=mz hn;simp at hm;subst hm;simp only [af];rw [an _ _ _ _ h1,aU,if_pos hl]
 | t::ss,d::ds,δ,m+1,s,hn,hm,hl=>by
  obtain⟨h1,h2⟩:=mz hn;simp only [af];rw [lk ss ds _ m s h2 (by simpa using hm) (by rw [dW];exact hl)]
theorem Aw {d:Nat} {l:List Nat} (h1:jZ d l=false) (h2:gf l=true):gf ([d]++l)=true:=by
 simp only [Hz,Hk,gf,h1];exact h2
theorem vu:∀{l m:List Nat},tC l m=true→∀x∈l,x∉m
 | a::l,m,h,x,hx=>by
  simp only [tC,eU] at h;split at h
  ·cases h
  ·rename_i h1
   rcases GU.1 hx with rfl | hx
   ·simpa using h1
   ·exact vu h x hx
theorem DJ {K:List Kd} {r:Nat} (h:de K r):r<K.length:=by
 by_cases hd:r<K.length
 ·exact hd
 ·exfalso
  have:∀(K:List Kd) (r:Nat),¬r<K.length→ak K r = .no:=by
   intro K;induction K with
   | nil=>intro r _;rfl
   | cons k K ih =>
    intro r hr;cases r with
    | zero=>simp at hr
    | succ r=>exact ih r (by simpa using hr)
  rw [de,this K r hd] at h;exact h
theorem sM {m:Kd} {pm:List Kd} (h:io0 (m::pm)=true):io0 pm=true∧(∀z lv io,m = .own z lv io→lv=0)∧∀n lv io,m = .box n lv io→lv=0:=by
 cases m with
 | own z lv io =>
  simp only [io0] at h;split at h
  case h_2=>cases h
  rename_i h0;exact⟨h,fun _ _ _ e=>by cases e;exact ay.1 h0,fun _ _ _ e=>(by cases e)⟩
 | box z lv io =>
  simp only [io0] at h;split at h
  case h_2=>cases h
  rename_i h0;exact⟨h,fun _ _ _ e=>(by cases e),fun _ _ _ e=>by cases e;exact ay.1 h0⟩
 | _=>exact⟨by simpa only [io0] using h,fun _ _ _ e=>(by cases e),fun _ _ _ e=>(by cases e)⟩
theorem wH:∀(ags:List Ag) (pm:List Kd) (xs:List Operand),xk c a δ ags pm xs→io0 pm=true→∀(m r:Nat),(cF ags)[m]?=some r→∀lv,((∃z io,ak c.K r = .own z lv io)∨∃n io,ak c.K r = .box n lv io)→lv=0
 | [],_,_,_,_,m,r,hm,_,_=>by simp [cF] at hm
 | .io t q::l,m::pm,x::xs,h,h0,j,r,hj,lv,hk=>by
  obtain⟨⟨_,_,h3⟩,h4⟩:=h;obtain⟨g1,g2,g3⟩:=sM h0;cases j with
  | zero =>
   simp only [cF,HM,GS] at hj;subst hj;rcases h3 with ⟨z,lv',io,rfl,hk',_⟩ | ⟨n,lv',io,rfl,hk',_⟩
   ·have:=g2 z lv' true rfl
    subst this;rw [hk'] at hk;rcases hk with ⟨_,_,e⟩ | ⟨_,_,e⟩<;>cases e;rfl
   ·have:=g3 n lv' true rfl
    subst this;rw [hk'] at hk;rcases hk with ⟨_,_,e⟩ | ⟨_,_,e⟩<;>cases e;rfl
  | succ j=>exact wH l pm xs h4 g1 j r (by simpa [cF] using hj) lv hk
 | .d _ _::l,m::pm,x::xs,h,h0,j,r,hj,lv,hk=>wH l pm xs h.2 (sM h0).1 j r (by simpa [cF] using hj) lv hk
 | .bor _ _::l,m::pm,x::xs,h,h0,j,r,hj,lv,hk=>wH l pm xs h.2 (sM h0).1 j r (by simpa [cF] using hj) lv hk
 | .io _ _::_,[],_,h,_,_,_,_,_,_=>h.elim
 | .io _ _::_,_::_,[],h,_,_,_,_,_,_=>h.elim
 | .d _ _::_,[],_,h,_,_,_,_,_,_=>h.elim
 | .d _ _::_,_::_,[],h,_,_,_,_,_,_=>h.elim
 | .bor _ _::_,[],_,h,_,_,_,_,_,_=>h.elim
 | .bor _ _::_,_::_,[],h,_,_,_,_,_,_=>h.elim
theorem kl (hI:Inv c B X w0 F0 F O a w δ) {S:FS} {ags:List Ag} {xs:List Operand} {ds rs us:List D} {F':Nat→Prop} {R:Nat→Option Nat} {vs:List Value} {w':World} {v:Value} {dst:Option Nat} {x:List D}
  (hags:fE c.K xs S.pm=some ags) (hpm:fO S.pm=true) (hds:bE ags (ae δ (dg ags))=some ds) (hnd:gf (cF ags)=true)
  (hbor:dV ags=[]∨(mv S.rm=true∧io0 S.pm=true))
  (hpost:CallPost S (xs.map a.eval).toArray rs us w (fun b=>F b∨∃r∈dV ags,O b=some (r,0)) (fun b=>match O b with
   | some (r,0)=>nF ags r 0
   | _=>none) F' R vs w')
  (hdx:(dst=none∧x=[])∨∃d y,dst=some d∧x=[y]∧jZ d (cF ags)=false) (g:Nat→Option (Nat × Nat)) (hg:∀j p,g j=some p→∀d,dst=some d→p.1=d) (hgn:dst=none→∀j,g j=none)
  (hU:∀(F2:Nat→Prop) (O2:Nat→Option (Nat × Nat)),(∀lv b,(dV ags=[]∨lv≤1)→FB F' w.heap.size lv b→FB F2 B lv b)→(∀b j,R b=some j→O2 b=g j∧B≤b∧(g j=none→F2 b))→∀d y,dst=some d→x=[y]→d<δ.length→ou c.K B F2 O2 (a.put dst v) w' d y) :
  ∃F2 O2,Inv c B X w0 F0 F2 O2 (a.put dst v) w' (af δ (dst.toList++(cF ags++aO c.K dst.toList)) (x++us)):=by
 have hB:=hI.bb;have hioA:=qs hI xs S.pm ags ds hags hpm hds;obtain⟨hul,hun⟩:=qU (c:=c) (a:=a) (δ:=δ) ags S.pm xs us hioA (by simpa using hpost.us);have hkeep:∀b,b<w.heap.size→(∀p,O b=some p→p.1∉cF ags)→w'.heap[b]?=w.heap[b]?:=by
  intro b hb hp;refine hpost.keep b hb ?_
  split
  ·rename_i r he
   cases h:nF ags r 0 with
   | none=>rfl
   | some j=>exact absurd (mj h) (hp _ he)
  ·rfl
 have hRn:∀b,b<w.heap.size→R b=none:=fun b hb=>by
  cases h:R b with
  | none=>rfl
  | some j=>have:=(hpost.rn b j h).1;omega
 let F2:Nat→Prop:=fun b=>F b∨(F' b∧w.heap.size≤b)∨∃j,R b=some j∧g j=none
 let O2:Nat→Option (Nat × Nat):=fun b=>match R b with
  | some j=>g j
  | none=>O b
 have hO2n:∀b,R b=none→O2 b=O b:=fun b h=>by simp only [O2,h]
 have hO2s:∀b j,R b=some j→O2 b=g j:=fun b j h=>by simp only [O2,h]
 have hOlt:∀b,w.heap.size≤b→O b=none:=fun b hb=>by
  cases h:O b with
  | none=>rfl
  | some p=>have:=(hI.ol b p h).1;omega
 have hlv:∀lv b,(dV ags=[]∨lv≤1)→FB F' w.heap.size lv b→FB F2 B lv b:=by
  intro lv b hbl hb
  match lv,hbl,hb with
  | 0,_,hb=>exact hb.elim
  | 1,_,hb=>exact⟨.inr (.inl hb),HD hB hb.2⟩
  | n+2,hbl,hb =>
   have he:dV ags=[]:=hbl.resolve_right (by omega);rcases(hpost.fn b hb).1 with h1 | h1
   ·rcases h1 with h1 | ⟨r,hr,_⟩
    ·exact .inl h1
    ·rw [he] at hr;cases hr
   ·exact .inr (.inl ⟨hb,h1⟩)
 have hnd2:gf (dst.toList++cF ags)=true:=by
  rcases hdx with ⟨rfl,_⟩ | ⟨d,y,rfl,_,hm⟩
  ·exact hnd
  ·exact Aw hm hnd
 have hlen:(x++us).length=(dst.toList++cF ags).length:=by
  rcases hdx with ⟨rfl,rfl⟩ | ⟨d,y,rfl,rfl,_⟩<;>simp [hul]
 have hlt:∀r,de c.K r→r<δ.length:=fun r hr=>by
  rw [hI.ld];exact DJ hr
 have hgetio:∀(m r:Nat),(cF ags)[m]?=some r→de c.K r→nth (af δ (dst.toList++cF ags) (x++us)) r=nth us m:=by
  intro m r hm hr;rcases hdx with ⟨rfl,rfl⟩ | ⟨d,y,rfl,rfl,_⟩
  ·exact lk _ _ _ m r hnd (by simpa using hm) (hlt r hr)
  ·have:=lk (δ:=δ) ([d]++cF ags) ([y]++us) (m:=m+1) (s:=r) hnd2 (by simpa using hm) (hlt r hr)
   simpa [nth] using this
 have hrootIo:∀(m r:Nat),(cF ags)[m]?=some r→de c.K r:=by
  intro m r hm;obtain⟨_,u,_,hn⟩:=hun m r hm;obtain⟨_,hn⟩:=hn;unfold de;generalize ak c.K r=kk at hn;cases kk<;>first | exact hn.elim | trivial
 refine⟨F2,O2,hI.many hlen (by cases dst<;>simp [Act.put]) (by cases dst<;>rfl) (fun s hs=>?_) (fun r hr _ hb=>?_) (fun s hs=>?_) (fun _ hb=>.inl hb) (fun b hb=>?_) (fun b p hp hm=>?_) (fun b hb=>?_) (fun b p hp=>?_) (fun b hb=>?_) hpost.size hpost.os hpost.tape hpost.output (fun b hb hx=>?_)⟩
 ·cases dst with
  | none=>rfl
  | some d=>exact bt fun e=>hs (by simp [e])
 ·obtain⟨m,hm⟩:=List.getElem?_of_mem hr
  obtain⟨_,u,hu,hn⟩:=hun m r hm;rw [hgetio m r hm (hrootIo m r hm),cJ,GM,hu];exact hn.1
 ·rcases List.mem_append.1 hs with hs | hs
  ·rcases hdx with ⟨rfl,_⟩ | ⟨d,y,rfl,rfl,_⟩
   ·cases hs
   ·have:s=d:=by simpa using hs
    subst this;by_cases hsl:s<δ.length
    ·have e:=lk (δ:=δ) ([s]++cF ags) ([y]++us) (m:=0) (s:=s) hnd2 rfl hsl
     simp only [Option.toList_some] at e ⊢;rw [e];exact hU F2 O2 hlv (fun b j hj=>⟨hO2s b j hj,HD hB (hpost.rn b j hj).1,fun hn=>.inr (.inr ⟨j,hj,hn⟩)⟩) s y rfl rfl hsl
    ·refine .inl ?_
     have:∀(l:List D) (n:Nat),¬n<l.length→nth l n = .bad:=fun l n h=>by
      rw [cJ,GM,GV (by omega)];rfl
     exact this _ _ (by rw [ce];exact hsl)
  ·have hs':=hs
   obtain⟨m,hm⟩:=List.getElem?_of_mem hs;have hr:=hrootIo m s hm;obtain⟨hb,u,hu,hn⟩:=hun m s hm;rw [hgetio m s hm hr,cJ,GM,hu];have hav:av (a.put dst v) s=av a s:=by
    cases dst with
    | none=>rfl
    | some d =>
     refine bt ?_
     rcases hdx with ⟨h,_⟩ | ⟨d',y,h,_,hm'⟩
     ·cases h
     ·cases h
      rintro rfl;rw [eU] at hm';exact(of_decide_eq_false hm') hs'
   refine .inr ?_
   obtain⟨hn1,hn2⟩:=hn;have hbl:∀lv,lv≠1→(dV ags=[]∨lv≤1)→∀b,FB F' 0 lv b→FB F2 B lv b:=by
    intro lv h1 h2 b hb;refine hlv lv b h2 ?_
    match lv,h1 with
    | 0,_=>exact hb
    | n+2,_=>exact hb
   have hlv1:∀lv,(∃z io,ak c.K s = .own z lv io)∨(∃n io,ak c.K s = .box n lv io)→dV ags=[]∨lv≤1:=by
    intro lv hk;rcases hbor with h | ⟨_,h0⟩
    ·exact .inl h
    ·right
     have:=wH ags S.pm xs hioA h0 m s hm lv hk;omega
   generalize hks:ak c.K s=kk at hn2;cases kk with
   | own z lv io =>
    refine .inr ?_
    obtain⟨h1,h2⟩:=hn2;rw [hav];have hown:=(hI.own hks hb).blk;exact cy (hbl lv h1 (hlv1 lv (.inl ⟨z,io,hks⟩))) (fun _ _=>rfl) (fun b hbk _=>⟨⟨(hO2n b (hRn b (hown b hbk).2)).trans (hown b hbk).1.1,(hown b hbk).1.2⟩,rfl⟩) h2
   | box n lv io =>
    refine .inr ?_
    obtain⟨h1,h2⟩:=hn2;rw [hav];have hown:=(hI.box hks hb).blk;exact jh (hbl lv h1 (hlv1 lv (.inr ⟨n,io,hks⟩))) (fun _ _=>rfl) (fun b hbk _=>⟨⟨(hO2n b (hRn b (hown b hbk).2)).trans (hown b hbk).1.1,(hown b hbk).1.2⟩,rfl⟩) h2
   | _=>exact hn2.elim
 ·exact hkeep b (hI.fl b hb).1 fun p hp=>by rw [(hI.fl b hb).2] at hp;cases hp
 ·have hb:=(hI.ol b p hp).1
  exact⟨(hO2n b (hRn b hb)).trans hp,hkeep b hb fun q hq=>by rw [hp] at hq;cases hq;exact fun hm'=>hm (HA _ hm')⟩
 ·rcases hb with hb | hb | ⟨j,hj,hn⟩
  ·obtain⟨h1,h2⟩:=hI.fl b hb
   exact⟨Ha h1 hpost.size,(hO2n b (hRn b h1)).trans h2⟩
  ·obtain⟨_,h1,h2⟩:=hpost.fn b hb.1
   exact⟨h1,(hO2n b h2).trans (hOlt b hb.2)⟩
  ·exact⟨(hpost.rn b j hj).2,(hO2s b j hj).trans hn⟩
 ·cases h:R b with
  | none =>
   rw [hO2n b h] at hp;exact⟨Ha (hI.ol b p hp).1 hpost.size,(hI.ol b p hp).2⟩
  | some j=>exact⟨(hpost.rn b j h).2,.inl (HD hB (hpost.rn b j h).1)⟩
 ·rcases hb with hb | hb | ⟨j,hj,_⟩
  ·exact .inl hb
  ·exact .inr (HD hB hb.2)
  ·exact .inr (HD hB (hpost.rn b j hj).1)
 ·refine hkeep b (Ha hb hB) fun p hp=>?_
  rcases(hI.ol b p hp).2 with h1 | h1
  ·omega
  ·exact absurd h1 hx
theorem yi:∀{ms:List Kd},mv ms=true→∀i lv,(ak ms i = .dat lv∨∃z io,ak ms i = .own z lv io)→lv≤1
 | [],_,i,lv,hk=>by simp [ak] at hk
 | m::ms,h,i,lv,hk=>by
  have:(∀l,m = .dat l→l≤1)∧(∀z l io,m = .own z l io→l≤1)∧mv ms=true:=by
   cases m with
   | dat a =>
    simp only [mv] at h;split at h
    case h_2=>cases h
    rename_i e;exact⟨fun l e'=>by cases e';exact aS.1 e,fun _ _ _ e=>(by cases e),h⟩
   | own z a io =>
    simp only [mv] at h;split at h
    case h_2=>cases h
    rename_i e;exact⟨fun _ e=>(by cases e),fun _ l _ e'=>by cases e';exact aS.1 e,h⟩
   | _=>simp [mv] at h
  obtain⟨h1,h2,h3⟩:=this;cases i with
  | zero =>
   simp only [ak] at hk;rcases hk with hk | ⟨z,io,hk⟩
   ·exact h1 lv hk
   ·exact h2 z lv io hk
  | succ i=>exact yi h3 i lv hk
theorem yS {o:Oper} {q:Call} {f:Nat} (ho:o.op = .call q) (hf:q.callee = .value (.func f)):(execOp a.eval o).run P w=(callFunc f (q.args.map a.eval)).run P w:=by
 simp [execOp,ho,resolve,hf,Deferred.ofValue,Act.eval,invoke]
theorem yX {o:Oper} {q:Call} {t f:Nat} {us:Array Value} (ho:o.op = .call q) (hf:q.callee = .value (.tmp t)) (hv:av a t = .func (.func f) #[] us):(execOp a.eval o).run P w=(callFunc f (q.args.map a.eval++us)).run P w:=by
 have hv':a.eval (.tmp t) = .func (.func f) #[] us:=hv;simp [execOp,ho,resolve,hf,Deferred.ofValue,hv',invoke]
theorem nI {w:World} {F:Nat→Prop} {ow:Nat→Option Nat}:∀(pm pn:List Kd) (ds cs:List D) (ys us:List Value) (i:Nat),dG w F ow i pm ds ys→dG w F ow (i+pm.length) pn cs us→dG w F ow i (pm++pn) (ds++cs) (ys++us)
 | [],pn,[],cs,[],us,i,_,h=>by simpa using h
 | k::pm,pn,d::ds,cs,y::ys,us,i,h1,h2=>⟨h1.1,nI pm pn ds cs ys us (i+1) h1.2 (by rw [show i+1+pm.length=i+(k::pm).length by simp;omega];exact h2)⟩
 | [],_,_::_,_,_,_,_,h,_=>h.elim
 | [],_,[],_,_::_,_,_,h,_=>h.elim
 | _::_,_,[],_,_,_,_,h,_=>h.elim
 | _::_,_,_::_,_,[],_,_,h,_=>h.elim
theorem vN {K:List Kd}:∀(xs:List Operand) (pm:List Kd) (ags:List Ag),fE K xs pm=some ags→pm.length=xs.length
 | [],[],_,_=>rfl
 | x::xs,m::ms,ags,h=>by
  simp only [fE] at h;split at h
  ·rename_i h1 h2
   simp [vN xs ms _ h2]
  ·cases h
 | [],_::_,_,h=>by simp [fE] at h
 | _::_,[],_,h=>by simp [fE] at h
theorem wR {α:Type}:∀(n:Nat) (l:List α),tF n l=l.take n
 | 0,l=>by simp [tF]
 | n+1,[]=>by simp [tF]
 | n+1,_::l=>by simp [tF,wR n l]
theorem zV {w:World} {F:Nat→Prop} {ow:Nat→Option Nat}:∀(pn:List Kd) (cs:List D) (us:List Value) (i:Nat),im pn=true→cs.length=pn.length→cs.all D.single=true→bf w F cs us→dG w F ow i pn cs us
 | [],[],us,i,_,_,_,h=>by
  rw [aD] at h;subst h;trivial
 | k::pn,d::cs,us,i,hk,hl,hs,h=>by
  obtain⟨v1,v2,rfl,h1,h2⟩:=aq.1 h;simp only [List.all_cons,GO] at hs;obtain⟨y,rfl,_⟩:=jn d v1 hs.1 h1;cases k with
  | dat lv =>
   simp only [im] at hk;split at hk
   case h_2=>cases hk
   rename_i e;rw [ay] at e;subst e;exact⟨.inr ((fv hs.1).2 h1),zV pn cs v2 (i+1) hk (by simpa using hl) hs.2 h2⟩
  | _=>simp [im] at hk
 | [],_::_,_,_,_,hl,_,_=>by simp at hl
 | _::_,[],_,_,_,hl,_,_=>by simp at hl
theorem tw {w:World} {F:Nat→Prop}:∀(pm pn:List Kd) (us:List D) (ys zs:List Value),pm.length=ys.length→im pn=true→kR w F (pm++pn) us (ys++zs)→kR w F pm us ys
 | [],pn,us,[],zs,_,hn,h=>by
  have:∀(pn:List Kd) (us:List D) (zs:List Value),im pn=true→kR w F pn us zs→us=[]:=by
   intro pn;induction pn with
   | nil =>
    intro us zs _ h;cases us with
    | nil=>rfl
    | cons u us=>exact h.elim
   | cons k pn ih =>
    intro us zs hk h;cases k with
    | dat lv =>
     cases zs with
     | nil=>cases us<;>exact h.elim
     | cons z zs =>
      simp only [kR,nC,HF,if_false] at h;simp only [im] at hk;split at hk
      ·exact ih us zs hk h
      ·cases hk
    | _=>simp [im] at hk
  have e:=this pn us zs hn (by simpa using h);subst e;trivial
 | k::pm,pn,us,y::ys,zs,hl,hn,h=>by
  simp only [Hz,kR] at h ⊢;split
  ·rename_i hk
   rw [if_pos hk] at h;cases us with
   | nil=>exact h
   | cons u us=>exact⟨h.1,h.2.1,tw pm pn us ys zs (by simpa using hl) hn h.2.2⟩
  ·rename_i hk
   rw [if_neg hk] at h;exact tw pm pn us ys zs (by simpa using hl) hn h
 | [],_,_,_::_,_,hl,_,_=>by simp at hl
 | _::_,_,_,[],_,hl,_,_=>by simp at hl
theorem Bh (hS:∀f S,ci c.S f=some S→aw c.G P f S) {o:Oper} {q:Call} {t f:Nat} {S:FS} (ho:o.op = .call q) (hf:q.callee = .value (.tmp t)) (hlk:ci c.S f=some S) {A:Ac} (hA:xg c o.dst t f S q.args.toList=some A) (hI:Inv c B X w0 F0 F O a w δ)
  {k:List D→Option Out} {r:Out} (hg:bT c A δ k=some r) (Q:Exit→Act→World→Prop):o.wp P a w (Next c B X w0 F0 k r) Q:=by
 have hM:=hS f S hlk;unfold xg at hA;split at hA
 case h_2=>cases hA
 rename_i d lt lr hd hkt hrm;split at hA
 case h_2=>cases hA
 rename_i ags l hags hkd;split at hA
 case h_2=>cases hA
 rename_i hlr hlt hpm hdat hio hbor;cases hA;rw [ip,wR] at hags hpm;rw [ip,pN] at hdat;rw [aS] at hlr hlt;simp only [bT,ae] at hg;obtain⟨caps,hc1,hg⟩:=GK.1 hg;rw [eS] at hg;obtain⟨ds,h1,hg⟩:=GK.1 hg;simp only [Hk] at hg;unfold aj at hg;split at hg
 case h_2=>cases hg
 rename_i rs us h2;unfold EY at hc1;split at hc1
 case h_2=>cases hc1
 rename_i g0 l0 hclo;split at hc1
 case isFalse=>cases hc1
 rename_i hcc;cases hc1;obtain⟨rfl,hcl,hcs⟩:=hcc;have hbt:nth δ t ≠ .bad:=fun e=>by rw [e] at hclo;cases hclo
 have hst:=(hI.slot t).resolve_left hbt;rw [hkt] at hst;have hrep:=hst.resolve_left hbt;rw [hclo] at hrep;simp only [bw,RepC] at hrep;obtain⟨uv,hav,hru⟩:=hrep;simp only [GP,and_true] at hav;have hpmE:S.pm=S.pm.take q.args.toList.length++S.pm.drop q.args.toList.length:=(HQ _ _).symm;have hlenA:=vN _ _ _ hags;have hFB:∀b,FB F B lt b→F b:=dB;have hargs:=ww (F':=F) (ow:=fun _=>none) hI (fun _ h=>h) q.args.toList _ ags 0 ds hags hpm h1 (fun r hr b hb=>by rw [hbor] at hr;cases hr) (fun j r hj b hb=>by
  have:=mF hj;rw [hio] at this;cases this)
 have hcaps:=zV (w:=w) (F:=F) (ow:=fun _=>none) (S.pm.drop q.args.toList.length) caps uv (0+(S.pm.take q.args.toList.length).length) hdat (by rw [hcl,ip,ip,pN]) hcs (be hFB (fun _ _=>rfl) _ _ hru);have hall:=nI _ _ _ _ _ _ 0 hargs hcaps;rw [←hpmE] at hall;have he:=hM (ds++caps) rs us h2 ((q.args.toList.map a.eval).toArray++uv.toArray) w F (fun _=>none) hI.gl (by simpa using hall) (fun b hb=>⟨(hI.fl b hb).1,rfl⟩) (fun b i hb=>by cases hb) o a (Next c B X w0 F0 k r) Q (fun v w' hp=>?_)
 ·unfold Oper.wp
  rw [yX ho hf hav];have:q.args.map a.eval=(q.args.toList.map a.eval).toArray:=by rw [←HZ,Hp]
  rw [this];exact he
 ·obtain⟨F',R,vs,hv,hp⟩:=hp
  have hpost:CallPost {pm:=S.pm.take q.args.toList.length,rm:=S.rm,f:=S.f} (q.args.toList.map a.eval).toArray rs us w (fun b=>F b∨∃r∈dV ags,O b=some (r,0)) (fun b=>match O b with
   | some (r,0)=>nF ags r 0
   | _=>none) F' R vs w':=by
   refine⟨hp.os,hp.tape,hp.output,hp.size,fun b hb _=>hp.keep b hb rfl,fun b hb=>?_,fun b hb=>⟨?_,(hp.fn b hb).2⟩,hp.rn,hp.len,hp.lenD,hp.res,?_⟩
   ·rcases hb with hb | ⟨r,hr,_⟩
    ·exact hp.f0 b hb
    ·rw [hbor] at hr;cases hr
   ·rcases(hp.fn b hb).1 with h | h
    ·exact .inl (.inl h)
    ·exact .inr h
   ·have hu:=hp.us
    rw [hpmE] at hu;simp only [Array.toList_append] at hu;exact tw _ _ _ _ _ (by simpa using hlenA) hdat hu
  have hvl:=hp.len;rw [hrm] at hvl;obtain⟨y,rfl⟩:=Hx.1 hvl;simp only [gS] at hv;subst hv;have hres:=hp.res 0;rw [hrm] at hres;simp only [ak,HS] at hres;have hsz:d<δ.length→av (a.put (some d) v) d=v:=fun h=>bV (by rw [hI.la,←hI.ld];exact h)
  obtain⟨F2,O2,hI'⟩:=kl (S:={pm:=S.pm.take q.args.toList.length,rm:=S.rm,f:=S.f}) (v:=v) (dst:=some d) (x:=[nth rs 0]) hI hags hpm h1 (by simp [hio,gf]) (.inl hbor) hpost (.inr ⟨d,nth rs 0,rfl,rfl,by simp [hio,jZ]⟩) (fun _=>none) (fun _ _ h=>by cases h) (fun _ _=>rfl) (fun F2 O2 h4 h5 d' y' e1 e2 h6=>by
   cases e1;simp only [GP,and_true] at e2;subst e2;by_cases hb:nth rs 0 = .bad
   ·exact .inl hb
   ·refine .inr ?_
    rw [hkd,hsz h6];exact .inr (aZ (fun b hb=>hP hlr _ (h4 lr b (.inl hbor) hb)) (fun _ _=>rfl) (hres.resolve_left hb)))
  have hus:us=[]:=by
   have h3:=(qU (c:=c) (a:=a) (δ:=δ) ags _ q.args.toList us (qs hI _ _ _ _ hags hpm h1) (by simpa using hpost.us)).1;rw [hio] at h3;exact HE h3
  subst hus;refine⟨F2,O2,_,by rw [hd];exact hI',?_⟩
  rw [hio];simpa using hg
theorem zB (hS:∀f S,ci c.S f=some S→aw c.G P f S) {o:Oper} {q:Call} {f:Nat} {S:FS} (ho:o.op = .call q) (hf:q.callee = .value (.func f)) (hlk:ci c.S f=some S) {A:Ac} (hA:oK c o.dst S q.args.toList=some A) (hI:Inv c B X w0 F0 F O a w δ)
  {k:List D→Option Out} {r:Out} (hg:bT c A δ k=some r) (Q:Exit→Act→World→Prop):o.wp P a w (Next c B X w0 F0 k r) Q:=by
 have hM:=hS f S hlk;unfold oK at hA;split at hA
 ·cases hA
 rename_i ags hags;simp only at hA;split at hA
 case h_2=>cases hA
 rename_i hokB hnd hpm;have hbor:dV ags=[]∨(mv S.rm=true∧io0 S.pm=true∧tC (dV ags) (cF ags)=true):=by
  split at hokB
  ·rename_i e;exact .inl e
  ·split at hokB
   ·rename_i h1 h2;exact .inr ⟨h1,h2,hokB⟩
   ·cases hokB
 have hbor':dV ags=[]∨(mv S.rm=true∧io0 S.pm=true):=hbor.imp id fun h=>⟨h.1,h.2.1⟩
 have call:∀(ds rs us:List D),bE ags (ae δ (dg ags))=some ds→S.f ds=some (.ret rs us)→(∀v w' F' R vs,v=gS vs→CallPost S (q.args.toList.map a.eval).toArray rs us w (fun b=>F b∨∃r∈dV ags,O b=some (r,0)) (fun b=>match O b with
   | some (r,0)=>nF ags r 0
   | _=>none) F' R vs w'→Next c B X w0 F0 k r (a.put o.dst v) w')→o.wp P a w (Next c B X w0 F0 k r) Q:=by
  intro ds rs us h1 h2 h3;have hargs:=ww (F':=fun b=>F b∨∃r∈dV ags,O b=some (r,0)) (ow:=fun b=>match O b with
   | some (r,0)=>nF ags r 0
   | _=>none) hI (fun _ h=>.inl h) q.args.toList S.pm ags 0 ds hags hpm h1 (fun r hr b hb=>.inr ⟨r,hr,hb⟩) (fun j r hj b hb=>by simp only [hb];rw [su hnd hj])
  have he:=hM ds rs us h2 (q.args.toList.map a.eval).toArray w _ _ (pP (fun _ h=>Or.inl h) (fun _ _=>rfl) hI.gl) (by simpa using hargs) (fun b hb=>?_) (fun b i hb=>?_) o a (Next c B X w0 F0 k r) Q (fun v w' hp=>?_)
  ·unfold Oper.wp
   rw [yS ho hf];have:q.args.map a.eval=(q.args.toList.map a.eval).toArray:=by rw [←HZ,Hp]
   rw [this];exact he
  ·rcases hb with hb | ⟨r',hr,hb⟩
   ·obtain⟨g1,g2⟩:=hI.fl b hb
    exact⟨g1,by simp only [g2]⟩
   ·refine⟨(hI.ol b _ hb).1,?_⟩
    simp only [hb];cases h:nF ags r' 0 with
    | none=>rfl
    | some j =>
     rcases hbor with h0 | ⟨_,_,h0⟩
     ·rw [h0] at hr;cases hr
     ·exact absurd (mj h) (vu h0 r' hr)
  ·split at hb
   ·rename_i r' hr;exact(hI.ol b _ hr).1
   ·cases hb
  ·obtain⟨F',R,vs,h4,h5⟩:=hp
   exact h3 v w' F' R vs h4 h5
 have asm:∀(K:List D→List D→Option Out),eH [] ags (ae δ (dg ags)) (fun ds=>aj (S.f ds) K)=some r→∃ds rs us,bE ags (ae δ (dg ags))=some ds∧S.f ds=some (.ret rs us)∧K rs us=some r:=by
  intro K h;rw [eS] at h;obtain⟨ds,h1,h2⟩:=GK.1 h;simp only [Hk] at h2;unfold aj at h2;split at h2
  ·rename_i rs us h3
   exact⟨ds,rs,us,h1,h3,h2⟩
  ·cases h2
 have uslen:∀{ds rs us:List D} {F':Nat→Prop} {R:Nat→Option Nat} {vs:List Value} {w':World} {F1:Nat→Prop} {ow:Nat→Option Nat},bE ags (ae δ (dg ags))=some ds→CallPost S (q.args.toList.map a.eval).toArray rs us w F1 ow F' R vs w'→oK.outs us (cF ags)=us:=by
  intro ds rs us F' R vs w' F1 ow h1 h2;have h3:=(qU (c:=c) (a:=a) (δ:=δ) ags S.pm q.args.toList us (qs hI _ _ _ _ hags hpm h1) (by simpa using h2.us)).1;unfold oK.outs;rw [zI us _ 0 (by omega),GW,←h3,List.take_length]
 have hlv0:∀i lv,(ak S.rm i = .dat lv∨∃z io,ak S.rm i = .own z lv io)→dV ags=[]∨lv≤1:=fun i lv hk=>hbor'.imp id fun h=>yi h.1 i lv hk
 split at hA
 ·rename_i hd
  split at hA
  case h_2=>cases hA
  rename_i hrm;cases hA;obtain⟨ds,rs,us,h1,h2,h3⟩:=asm _ hg;refine call ds rs us h1 h2 (fun v w' F' R vs hv hp=>?_)
  obtain⟨F2,O2,hI'⟩:=kl (v:=v) (dst:=none) (x:=[]) hI hags hpm h1 hnd hbor' hp (.inl ⟨rfl,rfl⟩) (fun _=>none) (fun _ _ h=>by cases h) (fun _ _=>rfl) (fun _ _ _ _ _ _ h=>by cases h);rw [uslen h1 hp] at h3;exact⟨F2,O2,_,by rw [hd];exact hI',h3⟩
 ·rename_i d hd
  split at hA
  ·rename_i h1' h2' hrm
   cases hA;obtain⟨ds,rs,us,h1,h2,h3⟩:=asm _ hg;refine call ds rs us h1 h2 (fun v w' F' R vs hv hp=>?_)
   obtain⟨F2,O2,hI'⟩:=kl (v:=v) (dst:=some d) (x:=[.bad]) hI hags hpm h1 hnd hbor' hp (.inr ⟨d,.bad,rfl,rfl,h2'⟩) (fun _=>none) (fun _ _ h=>by cases h) (fun _ _=>rfl) (fun _ _ _ _ d y _ h _=>by
    simp only [GP,and_true] at h;exact .inl h.symm)
   rw [uslen h1 hp] at h3;exact⟨F2,O2,_,by rw [hd];exact hI',h3⟩
  ·rename_i kd h1' h2' hrm
   cases hA;obtain⟨ds,rs,us,h1,h2,h3⟩:=asm _ hg;refine call ds rs us h1 h2 (fun v w' F' R vs hv hp=>?_)
   have hvl:=hp.len;rw [hrm] at hvl;obtain⟨y,rfl⟩:=Hx.1 hvl;simp only [gS] at hv;subst hv;have hres:=hp.res 0;rw [hrm] at hres;simp only [ak,HS] at hres;rw [hrm] at h1';have hlv:=hlv0 0;rw [hrm] at hlv;simp only [ak] at hlv;have fin:∀(g:Nat→Option (Nat × Nat)),(∀j p,g j=some p→p.1=d)→(∀(F2:Nat→Prop) (O2:Nat→Option (Nat × Nat)),(∀lv b,(dV ags=[]∨lv≤1)→FB F' w.heap.size lv b→FB F2 B lv b)→(∀b j,R b=some j→O2 b=g j∧B≤b∧(g j=none→F2 b))→d<δ.length→ou c.K B F2 O2 (a.put (some d) v) w' d (nth rs 0)) →
     Next c B X w0 F0 k r (a.put o.dst v) w':=by
    intro g hg' hU;obtain⟨F2,O2,hI'⟩:=kl (v:=v) (dst:=some d) (x:=[nth rs 0]) hI hags hpm h1 hnd hbor' hp (.inr ⟨d,nth rs 0,rfl,rfl,h2'⟩) g (fun j p h d' e=>by cases e;exact hg' j p h) (fun h=>by cases h) (fun F2 O2 h4 h5 d' y' e1 e2 h6=>by
     cases e1;simp only [GP,and_true] at e2;subst e2;exact hU F2 O2 h4 h5 h6)
    rw [uslen h1 hp] at h3;exact⟨F2,O2,_,by rw [hd];exact hI',h3⟩
   have hsz:d<δ.length→av (a.put (some d) v) d=v:=fun h=>bV (by rw [hI.la,←hI.ld];exact h)
   by_cases hb:nth rs 0 = .bad
   ·exact fin (fun _=>none) (fun _ _ h=>by cases h) (fun _ _ _ _ _=>.inl hb)
   have hres:=hres.resolve_left hb;cases kd with
   | dat lv =>
    simp only [xX] at h1';split at h1'
    case h_2=>cases h1'
    rename_i l hkd;rw [aS] at h1';refine fin (fun _=>none) (fun _ _ h=>by cases h) (fun F2 O2 h4 h5 h6=>.inr ?_)
    rw [hkd,hsz h6];exact .inr (aZ (fun b hb=>hP h1' _ (h4 lv b (hlv lv (.inl rfl)) hb)) (fun _ _=>rfl) hres)
   | own z lv io =>
    cases io
    case true =>
     simp only [xX] at h1';split at h1'
     ·simp [ej] at h1'
     ·cases h1'
    simp only [xX] at h1';have hlv':=hlv lv (.inr ⟨z,false,rfl⟩);rcases lj h1' with ⟨l,hkd,hle⟩ | ⟨l,hkd,h1l,hle⟩
    ·refine fin (fun _=>some (d,0)) (fun _ _ h=>by cases h;rfl) (fun F2 O2 h4 h5 h6=>.inr ?_)
     rw [hkd,hsz h6];exact .inr (cy (fun b hb=>hP hle _ (h4 lv b hlv' hb)) (fun _ _=>rfl) (fun b _ hb=>⟨⟨(h5 b 0 hb.1).1,fun _=>(h5 b 0 hb.1).2.1⟩,rfl⟩) hres)
    ·refine fin (fun _=>none) (fun _ _ h=>by cases h) (fun F2 O2 h4 h5 h6=>.inr ?_)
     rw [hkd,hsz h6];refine .inr (aZ (fun b hb=>?_) (fun _ _=>rfl) (gR hres))
     rcases hb with hb | ⟨hb1,hb2⟩
     ·exact hP hle _ (h4 lv b hlv' hb)
     ·obtain⟨_,g2,g3⟩:=h5 b 0 hb1
      match l,h1l with
      | 1,_=>exact⟨g3 rfl,g2⟩
      | _+2,_=>exact g3 rfl
   | _=>exact hres.elim
  ·rename_i h1' h2' hn0 hn1
   cases hA;obtain⟨ds,rs,us,h1,h2,h3⟩:=asm _ hg;refine call ds rs us h1 h2 (fun v w' F' R vs hv hp=>?_)
   have hvl:=hp.len;have hfit:∃ns,ak c.K d = .tup ns∧ej S.rm ns=true:=by
    unfold xX at h1';split at h1'
    ·rename_i e;exact absurd e (hn1 _)
    ·rename_i e;exact absurd e (hn1 _)
    ·rename_i e;exact absurd e hn0
    ·split at h1'
     ·exact⟨_,‹_›,h1'⟩
     ·cases h1'
   obtain⟨ns,hkd,hsame⟩:=hfit;have hv2:v = .tuple vs.toArray:=by
    rw [hv];unfold gS;split
    ·rename_i y
     exfalso;have:S.rm.length=1:=by rw [←hvl];rfl
     obtain⟨kk,e⟩:=Hx.1 this;exact hn1 _ e
    ·rfl
   obtain⟨F2,O2,hI'⟩:=kl (v:=v) (dst:=some d) (x:=[.tup rs]) hI hags hpm h1 hnd hbor' hp (.inr ⟨d,.tup rs,rfl,rfl,h2'⟩) (fun j=>some (d,j+1)) (fun j p h d' e=>by cases e;cases h;rfl) (fun h=>by cases h) (fun F2 O2 h4 h5 d' y' e1 e2 h6=>by
    cases e1;simp only [GP,and_true] at e2;subst e2;refine .inr ?_
    rw [hkd,bV (by rw [hI.la,←hI.ld];exact h6),hv2];refine⟨rs,vs.toArray,rfl,rfl,fun i=>?_⟩
    obtain⟨e1,e2⟩:=qI hsame i;rw [e1];have hgd:vs.toArray.getD i undef=vs.getD i undef:=by simp
    rw [hgd];rcases hp.res i with hb | hres
    ·exact .inl hb
    rcases e2 with e2 | ⟨lv,e2⟩ | ⟨z,lv,e2⟩
    ·rw [e2] at hres;exact hres.elim
    ·rw [e2] at hres ⊢
     exact .inr (aZ (fun b hb=>h4 lv b (hlv0 i lv (.inl e2)) hb) (fun _ _=>rfl) hres)
    ·rw [e2] at hres ⊢
     exact .inr (cy (fun b hb=>h4 lv b (hlv0 i lv (.inr ⟨z,false,e2⟩)) hb) (fun _ _=>rfl) (fun b _ hb=>⟨⟨(h5 b i hb.1).1,fun _=>(h5 b i hb.1).2.1⟩,rfl⟩) hres))
   rw [uslen h1 hp] at h3;exact⟨F2,O2,_,by rw [hd];exact hI',h3⟩
  ·cases hA
end
end Go.V

namespace Go.V
open Go.RowKit
set_option maxRecDepth 100000
section
variable {P:Program} {c:Cx} {B:Nat} {X:Nat→Prop} {w0:World} {F0 F:Nat→Prop} {O:Nat→Option (Nat × Nat)} {a:Act} {w:World} {δ:List D}
theorem Inv.itr (h:Inv c B X w0 F0 F O a w δ) {s:Nat} (hk:ak c.K s = .itr) (hb:nth δ s ≠ .bad):DK w (fun g=>O g=some (s,0)∧B≤g) (nth δ s) (av a s):=by
 have h0:=(h.slot s).resolve_left hb;rw [hk] at h0;exact h0.resolve_left hb
theorem Inv.freshI (h:Inv c B X w0 F0 F O a w δ) {d:Nat} (hk:ak c.K d = .itr) (s:ByteArray) :
  ∃F' O',Inv c B X w0 F0 F' O' (a.put (some d) (.pointer (some ⟨w.heap.size,0,none⟩))) (w.alloc (.stringIter s 0)) (af δ ([d]++([]++aO c.K [d])) [.itr s 0]):=by
 have sz:w.heap.size≤(w.alloc (.stringIter s 0)).heap.size:=by simp
 have hw:∀b,b<w.heap.size→(w.alloc (.stringIter s 0)).heap[b]?=w.heap[b]?:=fun b hb=>heap_alloc_old w _ hb
 have hg:w.heap.size<(w.alloc (.stringIter s 0)).heap.size:=by simp
 refine⟨F,cM O (.pointer (some ⟨w.heap.size,0,none⟩)) (some (d,0)),h.many (by simp) dA rfl (fun s hs=>bt fun e=>hs (by simp [e])) (by simp) (fun s' hs=>?_) (fun _ hb=>hb) (fun b hb=>hw b (h.fl b hb).1) (fun b p hp _=>⟨?_,hw b (h.ol b p hp).1⟩) (fun b hb=>⟨Ha (h.fl b hb).1 sz,?_⟩) (fun b p hp=>?_) (fun _ hb=>.inl hb) sz rfl rfl rfl (fun b hb _=>hw b (Ha hb h.bb))⟩
 ·rw [List.append_nil] at hs ⊢
  rcases cR (δ:=δ) (x:=.itr s 0) (ts:=[]) hs with e | ⟨rfl,hd,e⟩
  ·exact .inl e
  ·refine .inr ?_
   simp only [Hu] at e;rw [hk,e,bV (by rw [h.la,←h.ld];exact hd)];exact .inr ⟨s,0,_,rfl,rfl,heap_alloc_new w _,px rfl,h.bb⟩
 ·have:=(h.ol b p hp).1
  rw [dP (fun e=>by rw [mR] at e;omega)];exact hp
 ·have:=(h.fl b hb).1
  rw [dP (fun e=>by rw [mR] at e;omega)];exact(h.fl b hb).2
 ·by_cases e:w.heap.size=b
  ·subst e
   exact⟨hg,.inl h.bb⟩
  ·rw [dP (fun e'=>e (mR.1 e'))] at hp
   exact⟨Ha (h.ol b p hp).1 sz,(h.ol b p hp).2⟩
theorem xT (hT:okT P c.T=true) {o:Oper} {t:Nat} {x:Operand} (ho:o.op = .range t x):er P c o:=by
 intro A hA B X w0 F0 F O a w δ hI k r hg Q;simp only [bu,ho] at hA;obtain⟨i,hi,hA⟩:=am hA;split at hA
 case h_2=>cases hA
 rename_i hstr;have hti:=tok hT hi;unfold Ee at hA;split at hA
 ·cases hA
 rename_i d hd;split at hA
 case h_2=>cases hA
 rename_i hk hlv;cases hA;simp only [bT] at hg;rw [bd] at hg;obtain⟨y,h1,h2⟩:=GK.1 hg;obtain⟨d1,e,h1⟩:=aR h1;simp only [GR,Hu,GP,and_true] at e;subst e;unfold itD at h1;split at h1
 case h_2=>cases h1
 rename_i s hs;cases h1;have hx:=(hI.opd (aS.1 hlv)).rep (by rw [hs];simp);rw [hs] at hx;simp only [bw,RepC] at hx;have hv:a.eval x = .string s:=by simpa using hx.1
 have hrun:(execOp a.eval o).run P w = .ok (.value (.pointer (some ⟨w.heap.size,0,none⟩))) (w.alloc (.stringIter s 0)):=by
  refine bN (s:=Instr.range t (a.eval x)) (by simp only [execOp,ho]) ?_
  rw [hv];exact run_range_string w t s (hti.str hstr).1
 obtain⟨F',O',hI'⟩:=hI.freshI hk s;exact bm hd hrun hI' h2 Q
theorem xO {g:Nat} {s:ByteArray} {p:Nat} (ty:TypeId) (hg:w.heap[g]?=some (.stringIter s p)) (h:p<s.size) (ha:(s[p]'h).toNat<128) :
  (HG (.pointer (some ⟨g,0,none⟩)) true ty).run P w = .ok (.tuple #[.bool true,.int .i64 p,.int .i32 (s[p]'h).toNat]) {w with heap:=w.heap.setIfInBounds g (.stringIter s (p+1))}:=by
 have hl:=(Hb.1 hg).1;simp only [HG,getObj,setObj,Sem.run_bind,Sem.run,hg,Hm,h,if_true,decode_ascii s p h ha];simp [goInt]
theorem uV {g:Nat} {s:ByteArray} {p:Nat} (ty:TypeId) (hg:w.heap[g]?=some (.stringIter s p)) (h:¬p<s.size) :
  (HG (.pointer (some ⟨g,0,none⟩)) true ty).run P w = .ok (.tuple #[.bool false]) w:=by
 simp [HG,getObj,Sem.run,hg,h]
theorem Inv.nextI (h:Inv c B X w0 F0 F O a w δ) {d q g l1 l2 l3:Nat} (hq:ak c.K q = .itr) (hk:ak c.K d = .tup [.dat l1,.dat l2,.dat l3]) (hO:O g=some (q,0)) (hB:B≤g) (hy:av a q = .pointer (some ⟨g,0,none⟩))
  (s:ByteArray) (p:Nat) {vs:Array Value} {l:List D} (hl:l=vs.toList.map .v) (hf:∀v∈vs.toList,flat v=true) (h3:vs.size≤3) {w':World} (hg:w'.heap[g]?=some (.stringIter s p)) (hw:∀b,b≠g→w'.heap[b]?=w.heap[b]?) (sz:w'.heap.size=w.heap.size)
  (os:w'.os=w.os) (tape:w'.tape=w.tape) (output:w'.output=w.output) :
  Inv c B X w0 F0 F O (a.put (some d) (.tuple vs)) w' (af δ ([d]++([q]++aO c.K [d])) [.tup l,.itr s p]):=by
 have hdq:d≠q:=fun e=>by
  subst e;rw [hq] at hk;cases hk
 have e0:∀t,nth (af δ ([d]++[q]) [.tup l,.itr s p]) t=if t=q then(if q<δ.length then .itr s p else .bad) else if t=d then(if d<δ.length then .tup l else .bad) else nth δ t:=by
  intro t;simp only [Hz,Hk,af];by_cases h1:t=q
  ·subst h1
   rw [if_pos rfl,aU,dW]
  ·rw [if_neg h1,bI _ _ _ _ h1]
   by_cases h2:t=d
   ·subst h2
    rw [if_pos rfl,aU]
   ·rw [if_neg h2,bI _ _ _ _ h2]
 have hgl:=(h.ol g _ hO).1;refine h.many (by simp) dA rfl (fun s hs=>bt fun e=>hs (by simp [e])) (fun r hr _ hb=>?_) (fun t ht=>?_) (fun _ hb=>hb) (fun b hb=>hw b fun e=>?_) (fun b p' hp hn=>⟨hp,hw b fun e=>?_⟩) (fun b hb=>⟨by rw [sz];exact(h.fl b hb).1,(h.fl b hb).2⟩) (fun b p' hp=>⟨by rw [sz];exact(h.ol b p' hp).1,(h.ol b p' hp).2⟩) (fun _ hb=>.inl hb) (Nat.le_of_eq sz.symm) os tape output (fun b hb _=>hw b (by omega))
 ·simp at hr
  subst hr;rw [e0,if_pos rfl];by_cases hlt:r<δ.length
  ·rw [if_pos hlt]
   simp
  ·refine absurd ?_ hb
   rw [cJ,GM,GV (by omega)];rfl
 ·rw [e0]
  by_cases h1:t=q
  ·subst h1
   rw [if_pos rfl];by_cases hlt:t<δ.length
   ·rw [if_pos hlt]
    refine .inr ?_
    rw [hq,bt (HH hdq),hy];exact .inr ⟨s,p,g,rfl,rfl,hg,hO,hB⟩
   ·rw [if_neg hlt]
    exact .inl rfl
  ·have h2:t=d:=by simpa [h1] using ht
   subst h2;rw [if_neg h1,if_pos rfl];by_cases hlt:t<δ.length
   ·rw [if_pos hlt]
    refine .inr ?_
    rw [hk,bV (by rw [h.la,←h.ld];exact hlt)];refine⟨l,vs,rfl,rfl,fun i=>?_⟩
    subst hl;by_cases hi:i<vs.size
    ·have hv:nth (vs.toList.map D.v) i = .v vs[i]:=by
      rw [cJ,GM];simp [hi]
     have hv2:vs.getD i undef=vs[i]:=by simp [Array.getD,hi]
     rw [hv,hv2];refine .inr ?_
     have hfl:=hf vs[i] (by simp);obtain⟨v,hv0⟩:∃v,v=vs[i]:=⟨_,rfl⟩
     rw [←hv0] at hfl ⊢;clear hv hv2 hv0
     match i,hi with
     | 0,_=>exact bc hfl
     | 1,_=>exact bc hfl
     | 2,_=>exact bc hfl
     | i+3,hi=>omega
    ·refine .inl ?_
     rw [cJ,GM,GV (by simpa using hi)];rfl
   ·rw [if_neg hlt]
    exact .inl rfl
 ·subst e
  rw [(h.fl b hb).2] at hO;cases hO
 ·subst e
  rw [hO] at hp;cases hp;exact hn (by simp)
theorem yH {o:Oper} {q:Nat} (ho:o.op = .next (.tmp q) true):er P c o:=by
 intro A hA B X w0 F0 F O a w δ hI k r hg Q;simp only [bu,ho] at hA;unfold Ek at hA;split at hA
 ·cases hA
 rename_i d hd;split at hA
 case h_2=>cases hA
 rename_i l1 l2 l3 hq hk;cases hA;simp only [bT,ae,cG,nth] at hg;obtain⟨y,h1,h2⟩:=GK.1 hg;have hb:nth δ q ≠ .bad:=fun e=>by
  rw [e] at h1;simp [nxS] at h1
 obtain⟨s,p,g,a1,a2,a3,a4,a5⟩:=hI.itr hq hb;have hgl:=(hI.ol g _ a4).1;rw [a1] at h1 h2;simp only [nxS] at h1;simp only [nxT] at h2;have hex:execOp a.eval o=(do pure (.value (←HG (av a q) true o.type))):=by simp only [execOp,ho,bj]
 split at h1
 ·rename_i ch hch
  split at h1
  case isFalse=>cases h1
  rename_i hasc;cases h1;rw [hch] at h2;have hlt:p<s.size:=by
   have:=(He.1 hch).1;rw [HT] at this;exact this
  have hcc:s[p]'hlt=ch:=by
   have:=(He.1 hch).2;rw [←this];rfl
  have hr:=xO (P:=P) o.type a3 hlt (by rw [hcc];exact hasc);rw [hcc] at hr;refine bm hd (bN hex (by rw [a2];exact hr)) (hI.nextI (w':={w with heap:=w.heap.setIfInBounds g (.stringIter s (p+1))}) hq hk a4 a5 a2 s (p+1) (vs:=#[.bool true,.int .i64 p,.int .i32 ch.toNat]) rfl (by simp [flat]) (by simp) ?_ (fun b hne=>?_) ?_ rfl rfl rfl) h2 Q
  ·simp [hgl]
  ·simp [HH hne]
  ·simp
 ·rename_i hch
  cases h1;rw [hch] at h2;have hlt:¬p<s.size:=by
   have:=List.getElem?_eq_none_iff.1 hch;rw [HT] at this;exact Nat.not_lt.2 this
  have hr:=uV (P:=P) o.type a3 hlt;exact bm hd (bN hex (by rw [a2];exact hr)) (hI.nextI hq hk a4 a5 a2 s p (vs:=#[.bool false]) rfl (by simp [flat]) (by simp) a3 (fun _ _=>rfl) rfl rfl rfl rfl) h2 Q
theorem uA {o:Oper} {t:Nat} (ho:o.op = .makeMap t none):er P c o:=by
 intro A hA B X w0 F0 F O a w δ hI k r hg Q;simp only [bu,ho] at hA;obtain⟨i,hi,hA⟩:=am hA;split at hA
 case h_2=>cases hA
 unfold DE at hA;split at hA
 ·cases hA
 rename_i d hd;split at hA
 case h_2=>cases hA
 rename_i hk;cases hA;simp only [bT] at hg;have hrun:(execOp a.eval o).run P w = .ok (.value (.map (some w.heap.size))) (w.alloc (.map #[] 0)):=by
  refine bN (s:=Instr.makeMap t none) (by simp only [execOp,ho,Option.map_none]) ?_
  simp [Instr.makeMap,newObj,Sem.run]
 obtain⟨F',O',hI'⟩:=hI.installM (ts:=[]) (l:=[]) (es:=#[]) (clock:=0) (.inl hk) (heap_alloc_new w _) rfl hI.bb (.inl (HY _)) (by simp) (fun b hb=>heap_alloc_old w _ hb) rfl rfl rfl;exact bm hd hrun hI' hg Q
theorem vT (n:Int) (v:Bool) (fk:MapEntry→MapEntry) (hf:∀e,(fk e).key = .int .i64 n∧(fk e).val = .bool v):∀(l:List (Int × Bool)) (es:List MapEntry) (i:Nat),
  es.map (fun e=>(e.key,e.val))=l.map (fun p=>(Value.int .i64 p.1,Value.bool p.2)) →
  (Hr (.int .i64) (.int .i64 n) es i=some none∧uT l n=false∧tv l n v=l++[(n,v)]) ∨
  ∃p e,Hr (.int .i64) (.int .i64 n) es i=some (some (i+p,.bool (uT l n)))∧es[p]?=some e∧e.key = .int .i64 n∧(es.modify p fk).map (fun e=>(e.key,e.val))=(tv l n v).map fun p=>(Value.int .i64 p.1,Value.bool p.2)
 | [],[],_,_=>.inl ⟨rfl,rfl,rfl⟩
 | [],_::_,_,h=>by cases h
 | _::_,[],_,h=>by cases h
 | (m,b)::l,e::es,i,h=>by
  simp only [GR,GP,Prod.mk.injEq] at h;obtain⟨⟨h1,h2⟩,h3⟩:=h;by_cases hm:m=n
  ·subst hm
   refine .inr ⟨0,e,by simp [Hr,HR,h1,h2,uT],rfl,h1,?_⟩
   simp [tv,hf,h3]
  ·have hnm:(n==m)=false:=beq_eq_false_iff_ne.2 (HH hm)
   rcases vT n v fk hf l es (i+1) h3 with ⟨g1,g2,g3⟩ | ⟨p,e',g1,g2,g3,g4⟩
   ·refine .inl ⟨by simp [Hr,HR,h1,hnm,g1],by simp [uT,hm,g2],by simp [tv,hm,g3]⟩
   ·refine .inr ⟨p+1,e',?_,by simpa using g2,g3,?_⟩
    ·simp [Hr,HR,h1,hnm,g1,uT,hm]
     omega
    ·simp [tv,hm,h1,h2,g4]
theorem mV (n:Int):Go.MapKept.IsKey (.int .i64) (.int .i64 n):=rfl
theorem nX {t k e:TypeId} {g:Nat} {es:Array MapEntry} {clock:Nat} {l:List (Int × Bool)} {n:Int} (hu:P.underlying t=some (.map k e)) (hk:P.underlying k=some (.int .i64)) (hz:∀w:World,(zeroValue e).run P w = .ok (.bool false) w)
  (hb:w.heap[g]?=some (.map es clock)) (he:rG es l):(Hv t (.map (some g)) (.int .i64 n) false).run P w = .ok (.bool (uT l n)) w:=by
 rcases vT n false (fun e=>{e with key:=.int .i64 n,val:=.bool false}) (fun _=>⟨rfl,rfl⟩) l es.toList 0 he with ⟨g1,g2,_⟩ | ⟨p,e',g1,_,_,_⟩
 ·simp [Hv,run_underlying hu,Hf hb,GY hk (mV n),GZ hk g1,hz,Hm,g2]
 ·simp [Hv,run_underlying hu,Hf hb,GY hk (mV n),GZ hk g1,Hm]
theorem tg {t k e:TypeId} {n:Int} (hu:P.underlying t=some (.map k e)) (hk:P.underlying k=some (.int .i64)) (hz:∀w:World,(zeroValue e).run P w = .ok (.bool false) w) :
  (Hv t (.map none) (.int .i64 n) false).run P w = .ok (.bool false) w:=by
 simp [Hv,run_underlying hu,GY hk (mV n),GZ hk (show Hr (.int .i64) (.int .i64 n) [] 0=some none from rfl),hz,Hm]
theorem uL {t k e:TypeId} {g:Nat} {es:Array MapEntry} {clock:Nat} {l:List (Int × Bool)} {n:Int} {v:Bool} (hu:P.underlying t=some (.map k e)) (hk:P.underlying k=some (.int .i64))
  (hb:w.heap[g]?=some (.map es clock)) (he:rG es l):∃es' clock',(HN t (.map (some g)) (.int .i64 n) (.bool v)).run P w = .ok () {w with heap:=w.heap.setIfInBounds g (.map es' clock')}∧rG es' (tv l n v):=by
 rcases vT n v (fun e=>{e with key:=.int .i64 n,val:=.bool v}) (fun _=>⟨rfl,rfl⟩) l es.toList 0 he with ⟨g1,_,g3⟩ | ⟨p,e',g1,g2,g3,g4⟩
 ·refine⟨es.push {key:=.int .i64 n,val:=.bool v,born:=clock},clock+1,?_,?_⟩
  ·simp [HN,run_underlying hu,Hf hb,GY hk (mV n),GZ hk g1,Go.MapKept.run_setObj_map _ hb,Hm]
  ·unfold rG at he ⊢
   rw [g3];simp [he]
 ·refine⟨es.modify p fun e=>{e with key:=.int .i64 n,val:=.bool v},clock,?_,?_⟩
  ·have hj:es[p]?=some e':=by simpa using g2
   have hs:=Go.MapKept.run_keyThatStays (P:=P) (w:=w) (mV n);simp [HN,run_underlying hu,Hf hb,GY hk (mV n),GZ hk g1,hj,g3,hs,Go.MapKept.run_setObj_map _ hb,Hm]
  ·unfold rG
   rw [Array.toList_modify];exact g4
theorem wt (hT:okT P c.T=true) {o:Oper} {t q:Nat} {x:Operand} (ho:o.op = .lookup t (.tmp q) x false):er P c o:=by
 intro A hA B X w0 F0 F O a w δ hI k r hg Q;simp only [bu,ho] at hA;obtain⟨i,hi,hA⟩:=am hA;split at hA
 case h_2=>cases hA
 rename_i hm;obtain⟨kt,et,hu,hkt,hz⟩:=(tok hT hi).mp hm;have hex:execOp a.eval o=(do pure (.value (←Hv t (av a q) (a.eval x) false))):=by simp only [execOp,ho,bj]
 have own:∀(r d lv:Nat),ak c.K r = .mpo→av a q=av a r→ak c.K d = .dat lv→ct c.K x≤2→∀z,lkD (nth δ r) (opD δ x)=some z→∃y,(execOp a.eval o).run P w = .ok (.value y) w∧sU c.K B F a w δ d z y:=by
  intro r d lv hq hav hkd hlv z hzz;have hb:nth δ r ≠ .bad:=fun e=>by
   rw [e] at hzz;simp [lkD] at hzz
  obtain⟨l,g,es,clock,e1,e2,e3,e4,_⟩:=hI.mpo hq hb;rw [e1] at hzz;unfold lkD at hzz;split at hzz
  case h_2=>cases hzz
  rename_i l' n e5 e6;cases e5;cases hzz;have h2:=hI.opd hlv;rw [e6] at h2;obtain⟨h2,_⟩:=aI h2;refine⟨.bool (uT l n),bN hex ?_,.inr ?_⟩
  ·rw [h2,hav,e2]
   exact nX hu hkt hz e3 e4
  ·rw [hkd]
   exact bc rfl
 unfold Ez at hA;split at hA
 ·rename_i lv hq
  refine aG hA hI hg (fun hx z hzz=>?_) Q
  obtain⟨d1,d2,e,hzz⟩:=dX hzz;simp only [GR,Hu,GP,and_true] at e;obtain⟨rfl,rfl⟩:=e;unfold lkD at hzz;split at hzz
  case h_2=>cases hzz
  rename_i l n e1 e2;cases hzz;have h1:=(hx (.tmp q) (by simp)).2.rep (by rw [e1];simp);have h2:=(hx x (by simp)).2;rw [e1] at h1;rw [e2] at h2;obtain⟨h2,_⟩:=aI h2;simp only [bw,RepC,bj] at h1;refine⟨.bool (uT l n),bN hex ?_,.inr (bc rfl)⟩
  rw [h2];rcases h1 with ⟨h1,rfl⟩ | ⟨g,es,clock,h1,_,h3,h4⟩
  ·simp only [GP,and_true] at h1
   rw [h1];exact tg hu hkt hz
  ·simp only [GP,and_true] at h1
   rw [h1];exact nX hu hkt hz h3 h4
 ·rename_i hq
  split at hA
  ·cases hA
  rename_i d hd;split at hA
  case h_2=>cases hA
  rename_i lv hkd hlv;cases hA;refine bs hI hd hg (fun z hzz=>?_) Q
  simp only [ae] at hzz;rw [bd] at hzz;obtain⟨d1,e,hzz⟩:=aR hzz;simp only [GR,Hu,GP,and_true] at e;subst e;exact own q d lv hq rfl hkd (aS.1 hlv) z hzz
 ·rename_i rr hq
  split at hA
  case h_2=>cases hA
  rename_i d hkr hd;split at hA
  case h_2=>cases hA
  rename_i lv hkd hlv;cases hA;refine bs hI hd hg (fun z hzz=>?_) Q
  simp only [ae] at hzz;obtain⟨b,hb1,hzz⟩:=GK.1 hzz;obtain⟨hpb,rfl⟩:=aQ hb1;rw [bd] at hzz;obtain⟨d1,e,hzz⟩:=aR hzz;simp only [GR,Hu,GP,and_true] at e;subst e;exact own rr d lv hkr (hI.via hq hpb).1 hkd (aS.1 hlv) z hzz
 ·cases hA
theorem rL (hT:okT P c.T=true) {o:Oper} {t q:Nat} {x y:Operand} (ho:o.op = .mapUpdate t (.tmp q) x y):er P c o:=by
 intro A hA B X w0 F0 F O a w δ hI k r hg Q;simp only [bu,ho] at hA;split at hA
 case h_2=>cases hA
 rename_i hdst;obtain⟨i,hi,hA⟩:=am hA;split at hA
 case h_2=>cases hA
 rename_i hm;obtain⟨kt,et,hu,hkt,hz⟩:=(tok hT hi).mp hm;have main:∀(r1:Nat),ak c.K r1 = .mpo→av a q=av a r1→fU c.K [x,y]≤2→∀z,upM (nth δ r1) ([x,y].map (opD δ))=some z→k (af δ ([]++([r1]++aO c.K [])) [z])=some r→o.wp P a w (Next c B X w0 F0 k r) Q:=by
  intro r1 hq hav hlv z h1 h2;have hb:nth δ r1 ≠ .bad:=fun e=>by
   rw [e] at h1;simp [upM] at h1
  obtain⟨l,g,es,clock,e1,e2,e3,e4,e5,e6⟩:=hI.mpo hq hb;rw [e1] at h1;unfold upM at h1;split at h1
  case h_2=>cases h1
  rename_i l' n v e7 e8;cases e7;cases h1;simp only [GR,Hu,GP,and_true] at e8;have hlx:=fo hlv x (by simp);have hly:=fo hlv y (by simp);have hx:=hI.opd hlx;have hy:=hI.opd hly;rw [e8.1] at hx;rw [e8.2] at hy;obtain⟨hx,_⟩:=aI hx;obtain⟨hy,_⟩:=aI hy;obtain⟨es',clock',hrun,he'⟩:=uL (P:=P) (w:=w) (n:=n) (v:=v) hu hkt e3 e4;have hgl:=(hI.ol g _ e5).1;have hex:(execOp a.eval o).run P w = .ok .skip {w with heap:=w.heap.setIfInBounds g (.map es' clock')}:=by
   simp only [execOp,ho,bj,hav,e2,hx,hy];simp [hrun]
  have e0:∀s,nth (af δ ([]++[r1]) [.mp (tv l n v)]) s=if s=r1 then(if r1<δ.length then .mp (tv l n v) else .bad) else nth δ s:=by
   intro s;simp only [Hk,af];by_cases h:s=r1
   ·subst h
    rw [if_pos rfl,aU]
   ·rw [if_neg h,bI _ _ _ _ h]
  refine xR hex ⟨F,O,_,?_,h2⟩
  rw [hdst];refine hI.many (hw:=[]) (cw:=[r1]) (outs:=[.mp (tv l n v)]) (by simp) rfl rfl (fun s _=>rfl) (fun r' hr _ hbr=>?_) (fun s hs=>?_) (fun _ hb=>hb) (fun b hbF=>?_) (fun b p hp hn=>⟨hp,?_⟩) (fun b hbF=>⟨by simpa using (hI.fl b hbF).1,(hI.fl b hbF).2⟩) (fun b p hp=>⟨by simpa using (hI.ol b p hp).1,(hI.ol b p hp).2⟩) (fun _ hb=>.inl hb) (by simp) rfl rfl rfl (fun b hbB _=>?_)
  ·simp at hr
   subst hr;rw [e0,if_pos rfl];by_cases hlt:r'<δ.length
   ·rw [if_pos hlt]
    simp
   ·refine absurd ?_ hbr
    rw [cJ,GM,GV (by omega)];rfl
  ·simp at hs
   subst hs;rw [e0,if_pos rfl];by_cases hlt:s<δ.length
   ·rw [if_pos hlt]
    refine .inr ?_
    rw [hq];exact .inr ⟨_,g,es',clock',rfl,e2,by simp [hgl],he',e5,e6⟩
   ·rw [if_neg hlt]
    exact .inl rfl
  ·have hne:b≠g:=fun e=>by
    subst e;rw [(hI.fl b hbF).2] at e5;cases e5
   simp [HH hne]
  ·have hne:b≠g:=fun e=>by
    subst e;rw [e5] at hp;cases hp;exact hn (by simp)
   simp [HH hne]
  ·have hne:b≠g:=by omega
   simp [HH hne]
 unfold DU at hA;split at hA
 ·rename_i hq hlv
  cases hA;simp only [bT,ae] at hg;rw [bd] at hg;obtain⟨z,h1,h2⟩:=GK.1 hg;exact main q hq rfl (aS.1 hlv) z h1 h2
 ·rename_i rr hq hlv
  split at hA
  case h_2=>cases hA
  rename_i hkr;cases hA;simp only [bT,ae] at hg;obtain⟨b,hb1,hg⟩:=GK.1 hg;obtain⟨hpb,rfl⟩:=aQ hb1;rw [bd] at hg;obtain⟨z,h1,h2⟩:=GK.1 hg;exact main rr hkr (hI.via hq hpb).1 (aS.1 hlv) z h1 h2
 ·cases hA
end
end Go.V

namespace Go.V
open Go.RowKit
set_option maxRecDepth 100000
section
variable {P:Program} {c:Cx}
theorem pT {o:Oper} {q:Call} (ho:o.op = .call q) {bi:Builtin} (hq:q.callee = .builtin bi) (f:D→D→Option D) (g:Value→Value→Sem Value) (hbi:(bi = .min∧f=Ax∧g=HU)∨(bi = .max∧f=AZ∧g=HV))
  {A:Ac} (hA:aV c o.dst q.args.toList 0 (tE f)=some A) {B:Nat} {X:Nat→Prop} {w0:World} {F0 F:Nat→Prop} {O:Nat→Option (Nat × Nat)} {a:Act} {w:World} {δ:List D} (hI:Inv c B X w0 F0 F O a w δ) {k:List D→Option Out} {r:Out} (hg:bT c A δ k=some r) (Q:Exit→Act→World→Prop):o.wp P a w (Next c B X w0 F0 k r) Q:=by
 rcases hbi with ⟨rfl,rfl,rfl⟩ | ⟨rfl,rfl,rfl⟩
 ·refine rv ho hq rfl (f:=Ax) (g:=HU) (fun w G a b z x y ha hb h=>DW ha hb h) (fun x rest v he hr=>?_) hA hI hg Q
  simp [builtin,Builtin.min_,he,hr]
 ·refine rv ho hq rfl (f:=AZ) (g:=HV) (fun w G a b z x y ha hb h=>En ha hb h) (fun x rest v he hr=>?_) hA hI hg Q
  simp [builtin,Builtin.max_,he,hr]
theorem AP (hT:okT P c.T=true) (hS:∀f S,ci c.S f=some S→aw c.G P f S) (o:Oper):er P c o:=by
 intro A hA B X w0 F0 F O a w δ hI k r hg Q;have hA0:=hA;unfold bu at hA;split at hA
 case h_1 x ho=>exact xC (.inl ho) hA hI hg Q
 case h_2 x ho=>exact xC (.inr ho) hA hI hg Q
 case h_3 q x y ho=>exact yT ho A hA0 B X w0 F0 F O a w δ hI k r hg Q
 case h_4 t ho=>exact wL hT ho A hA0 B X w0 F0 F O a w δ hI k r hg Q
 case h_5 t x ho=>exact Av ho A hA0 B X w0 F0 F O a w δ hI k r hg Q
 case h_6 t ps ho=>exact yb hT ho A hA0 B X w0 F0 F O a w δ hI k r hg Q
 case h_7 t n ps ho=>exact qD hT ho A hA0 B X w0 F0 F O a w δ hI k r hg Q
 case h_8 t p ho=>exact yu hT ho A hA0 B X w0 F0 F O a w δ hI k r hg Q
 case h_9 t p x ho=>exact wS hT ho A hA0 B X w0 F0 F O a w δ hI k r hg Q
 case h_10 x ho=>exact tV ho A hA0 B X w0 F0 F O a w δ hI k r hg Q
 case h_11 op t x y _ ho=>exact ye hT ho A hA0 B X w0 F0 F O a w δ hI k r hg Q
 case h_12 op t x ho=>exact yt ho A hA0 B X w0 F0 F O a w δ hI k r hg Q
 case h_13 s t x ho=>exact uz hT ho A hA0 B X w0 F0 F O a w δ hI k r hg Q
 case h_14 f u v ho=>exact sT ho A hA0 B X w0 F0 F O a w δ hI k r hg Q
 case h_15 t n m ho=>exact sa hT ho A hA0 B X w0 F0 F O a w δ hI k r hg Q
 case h_16 t x lo hi ho =>
  have hA1:=am hA;clear hA;obtain⟨i,hi',hA⟩:=hA1;have main:∀(hsl:i.str=false→gU i=true),uW c o.dst i x lo hi=some A→o.wp P a w (Next c B X w0 F0 k r) Q:=by
   intro hsl hA;have hA2:=hA;unfold uW at hA2;split at hA2
   case h_3=>cases hA2
   case h_2=>exact rQ hT ho hi' hsl hA hI hg Q
   rename_i q;split at hA2
   ·rename_i lv hk;exact rV hT ho hi' hsl hk hA hI hg Q
   ·exact lI hT ho hi' hsl hA2 hI hg Q
   ·exact lI hT ho hi' hsl hA2 hI hg Q
   ·cases hA2
  split at hA
  ·rename_i h1 h2;exact main (fun _=>h1) hA
  ·rename_i h1 h2;exact main (fun h=>by rw [h] at h2;cases h2) hA
  ·cases hA
 case h_17 t x f ho=>exact rK hT ho A hA0 B X w0 F0 F O a w δ hI k r hg Q
 case h_18 t x f ho=>exact xi hT ho A hA0 B X w0 F0 F O a w δ hI k r hg Q
 case h_19 t x i ho=>exact rX hT ho A hA0 B X w0 F0 F O a w δ hI k r hg Q
 case h_20 t x i ho=>exact wJ hT ho A hA0 B X w0 F0 F O a w δ hI k r hg Q
 case h_21 x i ho=>exact vb ho A hA0 B X w0 F0 F O a w δ hI k r hg Q
 case h_22 q ho =>
  unfold Az at hA;split at hA
  ·rename_i x t hq h1 h2
   have hA1:=am hA;clear hA;obtain⟨i,hi,hA⟩:=hA1;have eq:q={callee:=.builtin .len,args:=#[x],argTypes:=#[t]}:=by
    obtain⟨cl,ar,ty⟩:=q;simp only at hq h1 h2;subst hq;congr
    ·rw [←Hp (xs:=ar),h1]
    ·rw [←Hp (xs:=ty),h2]
   rw [eq] at ho;split at hA
   ·rename_i g1 g2
    exact tA hT ho hi (fun _=>g1) (fun h=>by cases h) hA hI hg Q
   ·rename_i g1 g2
    exact tA hT ho hi (fun h=>by cases h) (fun _=>g2) hA hI hg Q
   ·cases hA
  ·rename_i s x t u hq h1 h2
   split at hA
   case h_2=>cases hA
   rename_i htu;rw [ay] at htu;subst htu;have hA1:=am hA;clear hA;obtain⟨i,hi,hA⟩:=hA1;have hA1:=am hA;clear hA;obtain⟨e,he,hA⟩:=hA1;split at hA
   case h_2=>cases hA
   rename_i hsl;exact wG hT ho hq h1 h2 hi he hsl hA hI hg Q
  ·rename_i hq;exact pT ho hq Ax HU (.inl ⟨rfl,rfl,rfl⟩) hA hI hg Q
  ·rename_i hq;exact pT ho hq AZ HV (.inr ⟨rfl,rfl,rfl⟩) hA hI hg Q
  ·rename_i f hq
   split at hA
   case h_2=>cases hA
   rename_i S hlk;exact zB hS ho hq hlk hA hI hg Q
  ·rename_i t hq
   split at hA
   case h_2=>cases hA
   rename_i f hC;split at hA
   case h_2=>cases hA
   rename_i S hlk;exact Bh hS ho hq hlk hA hI hg Q
  ·cases hA
 case h_23 t x ho=>exact xT hT ho A hA0 B X w0 F0 F O a w δ hI k r hg Q
 case h_24 q ho=>exact yH ho A hA0 B X w0 F0 F O a w δ hI k r hg Q
 case h_25 t ho=>exact uA ho A hA0 B X w0 F0 F O a w δ hI k r hg Q
 case h_26 t q x y ho=>exact rL hT ho A hA0 B X w0 F0 F O a w δ hI k r hg Q
 case h_27 t q x ho=>exact wt hT ho A hA0 B X w0 F0 F O a w δ hI k r hg Q
 case h_28=>cases hA
def Nt (n:Nat) (f:(List D→Option Out)→Option Out):Prop:=∃o:Option (List D),(∀k,f k=o.bind k)∧∀l,o=some l→l.length=n
def fa:Ac→Prop
 | .one _ _ _=>True
 | .many _ hw cw fn=>∀is,Nt (hw++cw).length (fn is)
theorem cW {n:Nat} {l:List D} (h:l.length=n):Nt n (fun k=>k l):=⟨some l,fun _=>rfl,fun l' e=>by cases e;exact h⟩
theorem fD {n:Nat}:Nt n (fun _=>none):=⟨none,fun _=>rfl,fun _ e=>by cases e⟩
theorem cm {n:Nat} {X:Option D} {f:D→(List D→Option Out)→Option Out} (h:∀y,Nt n (f y)):Nt n (fun k=>X.bind fun y=>f y k):=by
 cases X with
 | none=>exact fD
 | some y=>exact h y
theorem CO {n:Nat} {X:Option (List D)} {f:List D→(List D→Option Out)→Option Out} (h:∀y,Nt n (f y)):Nt n (fun k=>X.bind fun y=>f y k):=by
 cases X with
 | none=>exact fD
 | some y=>exact h y
theorem li {n:Nat} {is:List D} {i:Nat} {f:D→(List D→Option Out)→Option Out} (h:∀y,Nt n (f y)):Nt n (fun k=>cE is i fun y=>f y k):=by
 simp only [cG];exact h _
theorem BM {n q r:Nat} {is:List D} {f:D→D→List D→(List D→Option Out)→Option Out} (h:∀b p is,Nt n (f b p is)):Nt n (fun k=>goP q r is fun b p is=>f b p is k):=by
 unfold goP;cases GT q r
 ·rcases is with _ | ⟨p,_ | ⟨b,is⟩⟩
  ·exact fD
  ·exact fD
  ·exact h _ _ _
 ·cases is with
  | nil=>exact fD
  | cons b is=>exact h _ _ _
theorem Ce {n m:Nat} {chk:Bool} {b p y:D} {f:D→(List D→Option Out)→Option Out} (h:∀y,Nt n (f y)):Nt n (fun k=>stK chk m b p y fun b=>f b k):=by
 unfold stK;cases chk
 ·exact cm h
 ·exact cm fun _=>cm h
theorem wg {n:Nat} {rd:List Nat} {is:List D} {f:D→(List D→Option Out)→Option Out} (h:∀y,Nt n (f y)):Nt n (fun k=>fL rd is fun y=>f y k):=by
 unfold fL;rcases rd with _ | ⟨a,_ | ⟨b,rd⟩⟩
 ·exact h _
 ·exact li h
 ·exact li fun p=>li fun x=>cm h
theorem CJ {n:Nat} {ags:List Ag} {is:List D} {f:List D→(List D→Option Out)→Option Out} (h:∀y,Nt n (f y)):Nt n (fun k=>eH [] ags is fun y=>f y k):=by
 simp only [eS,Hk];cases bE ags is with
 | none=>exact fD
 | some y=>exact h y
theorem Ab {n:Nat} {r:Option Out} {f:List D→List D→(List D→Option Out)→Option Out} (h:∀y z,Nt n (f y z)):Nt n (fun k=>aj r fun y z=>f y z k):=by
 unfold aj;split
 ·exact h _ _
 ·exact fD
theorem aW {dst:Option Nat} {xs:List Operand} {lv:Nat} {h:List D→Option D} {A:Ac} (hA:aV c dst xs lv h=some A):fa A:=by
 unfold aV at hA
 repeat' (split at hA)
 all_goals first | (cases hA;done) | (cases hA;trivial)
theorem AC {rd:List Nat} {d lv l:Nat} {h:List D→Option D} {A:Ac} (hA:Ev (fun h=>Ac.one rd d h) (vJ lv l h)=some A):fa A:=by
 unfold vJ at hA
 repeat' (split at hA)
 all_goals first | (cases hA;done) | (cases hA;trivial)
theorem xd {dst:Option Nat} {x:Operand} {t:Nat} {A:Ac} (hA:wP c dst x t=some A):fa A:=by
 unfold wP at hA
 repeat' (split at hA)
 all_goals first
  | (cases hA;done)
  | exact aW hA
  | (cases hA;trivial)
  | (cases hA;exact fun is=>li fun x=>cW rfl)
  | (cases hA;exact fun is=>li fun p=>li fun x=>cm fun y=>cW rfl)
  | (cases hA;exact fun is=>cW rfl)
  | (obtain⟨i,_,hA⟩:=am hA;exact aW hA)
theorem Dd {dst:Option Nat} {i:TI} {p:Operand} {A:Ac} (hA:Ea c dst i p=some A):fa A:=by
 unfold Ea at hA
 repeat' (split at hA)
 all_goals first | (cases hA;done) | exact aW hA | exact AC hA
theorem BP {i:TI} {p x:Operand} {A:Ac} (hA:Cn c i p x=some A):fa A:=by
 have main:∀q r lv,xn c i q r lv x=some A→fa A:=by
  intro q r lv hA;unfold xn at hA
  repeat' (split at hA)
  all_goals first
   | (cases hA;done)
   | (cases hA;exact fun is=>BM fun b p is=>li fun y=>Ce fun b=>cW rfl)
   | (cases hA;exact fun is=>BM fun b p is=>Ce fun b=>cW rfl)
 unfold Cn at hA
 repeat' (split at hA)
 all_goals first | (cases hA;done) | exact main _ _ _ hA
theorem Cq {dst:Option Nat} {i:TI} {f:Nat} {p:Operand} {A:Ac} (hA:Eo c dst i f p=some A):fa A:=by
 unfold Eo at hA
 repeat' (split at hA)
 all_goals first | (cases hA;done) | exact aW hA | (cases hA;trivial)
theorem BD {dst:Option Nat} {i:TI} {x y:Operand} {A:Ac} (hA:EJ c dst i x y=some A):fa A:=by
 unfold EJ at hA
 repeat' (split at hA)
 all_goals first | (cases hA;done) | exact aW hA | (cases hA;trivial)
theorem Dk {dst:Option Nat} {i:TI} {n:Nat} {ps:List (Nat × Operand)} {A:Ac} (hA:DV c dst i n ps=some A):fa A:=by
 unfold DV at hA;simp only at hA
 repeat' (split at hA)
 all_goals first | (cases hA;done) | (cases hA;exact fun is=>cm fun y=>cW rfl)
theorem Dm {n:Nat} {chk:Bool} {b:D} {f:D→(List D→Option Out)→Option Out} (h:∀y,Nt n (f y)):Nt n (fun k=>zA chk b fun b=>f b k):=by
 cases chk
 ·exact h b
 ·exact cm h
theorem CT {dst:Option Nat} {i:TI} {x y:Operand} {A:Ac} (hA:Df c dst i x y=some A):fa A:=by
 have main:∀d chk rs rx os,Br c d i chk rs rx os=some A→fa A:=by
  intro d chk rs rx os hA;unfold Br at hA
  repeat' (split at hA)
  all_goals first
   | (cases hA;done)
   | (cases hA;exact fun is=>wg fun a=>wg fun b=>Dm fun b=>cm fun y=>cW rfl)
   | (cases hA;exact fun is=>wg fun b=>Dm fun b=>cm fun y=>cW rfl)
 unfold Df at hA
 repeat' (split at hA)
 all_goals first
  | (cases hA;done)
  | exact main _ _ _ _ _ hA
theorem CF {dst:Option Nat} {str:Bool} {x:Operand} {A:Ac} (hA:AL c dst str x=some A):fa A:=by
 unfold AL at hA
 repeat' (split at hA)
 all_goals first | (cases hA;done) | exact aW hA | (cases hA;trivial)
theorem CG {dst:Option Nat} {i:TI} {x:Operand} {lo hi:Option Operand} {A:Ac} (hA:uW c dst i x lo hi=some A):fa A:=by
 have own:vt c dst i x lo hi=some A→fa A:=by
  intro hA;unfold vt at hA
  repeat' (split at hA)
  all_goals first | (cases hA;done) | (cases hA;exact fun is=>wg fun a=>cm fun y=>cW rfl)
 unfold uW at hA
 repeat' (split at hA)
 all_goals first | (cases hA;done) | exact aW hA | exact own hA
theorem Da {dst:Option Nat} {i e:TI} {x y:Operand} {A:Ac} (hA:xN c dst i e x y=some A):fa A:=by
 unfold xN at hA
 repeat' (split at hA)
 all_goals first | (cases hA;done) | (cases hA;exact fun is=>cm fun y=>cW rfl)
theorem Dr {dst:Option Nat} {i:TI} {x:Operand} {A:Ac} (hA:EH c dst i x=some A):fa A:=by
 unfold EH at hA
 repeat' (split at hA)
 all_goals first | (cases hA;done) | (cases hA;exact fun is=>cm fun y=>cW rfl) | (cases hA;exact fun is=>cm fun y=>cm fun y=>cW rfl)
theorem Bo {dst:Option Nat} {t f:Nat} {S:FS} {xs:List Operand} {A:Ac} (hA:xg c dst t f S xs=some A):fa A:=by
  unfold xg at hA
  repeat' (split at hA)
  all_goals first
    | (cases hA;done)
    | (cases hA;exact fun is=>by
        cases is with
        | nil=>exact fD
        | cons cl is=>exact CO fun caps=>CJ fun ds=>Ab fun rs us=>cW rfl)
theorem BZ {dst:Option Nat} {i:TI} {A:Ac} (hA:DZ c dst i=some A):fa A:=by
 unfold DZ at hA
 repeat' (split at hA)
 all_goals first | (cases hA;done) | (cases hA;exact fun is=>cW rfl)
theorem Cc {dst:Option Nat} {x:Operand} {i:Nat} {A:Ac} (hA:EK c dst x i=some A):fa A:=by
 unfold EK at hA
 repeat' (split at hA)
 all_goals first | (cases hA;done) | (cases hA;trivial) | (cases hA;exact fun is=>li fun t=>cm fun y=>cW rfl)
theorem xu (us:List D):∀(ios:List Nat) (j:Nat),(oK.go us j ios).length=ios.length
 | [],_=>rfl
 | _::l,j=>by simp [oK.go,xu us l]
theorem Cs {dst:Option Nat} {S:FS} {xs:List Operand} {A:Ac} (hA:oK c dst S xs=some A):fa A:=by
 unfold oK at hA;split at hA
 ·cases hA
 simp only at hA;split at hA
 case h_2=>cases hA
 repeat' (split at hA)
 all_goals first
  | (cases hA;done)
  | (cases hA;exact fun is=>CJ fun ds=>Ab fun rs us=>cW (by simp [oK.outs,xu]))
theorem BG {dst:Option Nat} {i j:TI} {x:Operand} {A:Ac} (hA:Es c dst i j x=some A):fa A:=by
 unfold Es at hA
 repeat' (split at hA)
 all_goals first | (cases hA;done) | exact aW hA | (cases hA;trivial)
theorem Bx {dst:Option Nat} {i:TI} {x y:Operand} {A:Ac} (hA:DQ c dst i x y=some A):fa A:=by
 unfold DQ at hA
 repeat' (split at hA)
 all_goals first | (cases hA;done) | exact aW hA | (obtain⟨i,_,hA⟩:=am hA;exact aW hA)
theorem CR {dst:Option Nat} {i:TI} {ps:List (Nat × Operand)} {A:Ac} (hA:Er c dst i ps=some A):fa A:=by
 unfold Er at hA;simp only at hA
 repeat' (split at hA)
 all_goals first | (cases hA;done) | exact aW hA
theorem Cp {dst:Option Nat} {x:Operand} {A:Ac} (hA:Ej c dst x=some A):fa A:=by
 unfold Ej at hA
 repeat' (split at hA)
 all_goals first | (cases hA;done) | exact aW hA | (cases hA;trivial)
theorem CY {dst:Option Nat} {q:Call} {A:Ac} (hA:Az c dst q=some A):fa A:=by
 unfold Az at hA;split at hA
 ·obtain⟨i,_,hA⟩:=am hA
  split at hA<;>first | exact CF hA | cases hA
 ·split at hA
  ·obtain⟨i,_,hA⟩:=am hA
   obtain⟨e,_,hA⟩:=am hA;split at hA<;>first | exact CT hA | cases hA
  ·cases hA
 ·exact aW hA
 ·exact aW hA
 ·split at hA<;>first | exact Cs hA | cases hA
 ·repeat' (split at hA)
  all_goals first | exact Bo hA | cases hA
 ·cases hA
theorem BL {dst:Option Nat} {x:Operand} {A:Ac} (hA:Ee c dst x=some A):fa A:=by
 unfold Ee at hA
 repeat' (split at hA)
 all_goals first | (cases hA;done) | (cases hA;exact fun is=>cm fun y=>cW rfl)
theorem CA {dst:Option Nat} {q:Nat} {A:Ac} (hA:Ek c dst q=some A):fa A:=by
 unfold Ek at hA
 repeat' (split at hA)
 all_goals first | (cases hA;done) | (cases hA;exact fun is=>li fun x=>cm fun y=>cW rfl)
theorem Ds {dst:Option Nat} {A:Ac} (hA:DE c dst=some A):fa A:=by
 unfold DE at hA
 repeat' (split at hA)
 all_goals first | (cases hA;done) | (cases hA;exact fun is=>cW rfl)
theorem Bv {q:Nat} {x y:Operand} {A:Ac} (hA:DU c q x y=some A):fa A:=by
 unfold DU at hA
 repeat' (split at hA)
 all_goals first
  | (cases hA;done)
  | (cases hA;intro is;rcases is with _ | ⟨b,is⟩;exact fD;exact cm fun y=>cW rfl)
  | (cases hA;intro is;rcases is with _ | ⟨p,_ | ⟨b,is⟩⟩;exact fD;exact fD;exact cm fun b=>cm fun y=>cW rfl)
theorem CW {dst:Option Nat} {q:Nat} {x:Operand} {A:Ac} (hA:Ez c dst q x=some A):fa A:=by
 unfold Ez at hA
 repeat' (split at hA)
 all_goals first | (cases hA;done) | exact aW hA | (cases hA;trivial)
theorem vH {o:Oper} {A:Ac} (hA:bu c o=some A):fa A:=by
 unfold bu at hA;split at hA
 case h_1=>exact xd hA
 case h_2=>exact xd hA
 case h_3=>exact aW hA
 case h_4=>obtain⟨i,_,hA⟩:=am hA;exact BZ hA
 case h_5=>obtain⟨i,_,hA⟩:=am hA;exact Dr hA
 case h_6=>obtain⟨i,_,hA⟩:=am hA;exact CR hA
 case h_7 =>
  obtain⟨i,_,hA⟩:=am hA;obtain⟨e,_,hA⟩:=am hA;split at hA<;>first | exact Dk hA | cases hA
 case h_8=>obtain⟨i,_,hA⟩:=am hA;exact Dd hA
 case h_9 =>
  split at hA
  ·obtain⟨i,_,hA⟩:=am hA;exact BP hA
  ·cases hA
 case h_10=>exact Cp hA
 case h_11 =>
  obtain⟨i,_,hA⟩:=am hA;split at hA
  ·exact aW hA
  ·split at hA<;>exact aW hA
 case h_12=>exact aW hA
 case h_13 =>
  obtain⟨i,_,hA⟩:=am hA;obtain⟨e,_,hA⟩:=am hA;exact BG hA
 case h_14=>split at hA<;>first | exact aW hA | cases hA
 case h_15 =>
  obtain⟨i,_,hA⟩:=am hA;obtain⟨e,_,hA⟩:=am hA;split at hA<;>first | exact Da hA | cases hA
 case h_16 =>
  obtain⟨i,_,hA⟩:=am hA;split at hA<;>first | exact CG hA | cases hA
 case h_17=>obtain⟨i,_,hA⟩:=am hA;exact Cq hA
 case h_18 =>
  obtain⟨i,_,hA⟩:=am hA;split at hA<;>first | exact aW hA | cases hA
 case h_19=>obtain⟨i,_,hA⟩:=am hA;exact BD hA
 case h_20=>obtain⟨i,_,hA⟩:=am hA;exact Bx hA
 case h_21=>exact Cc hA
 case h_22=>exact CY hA
 case h_23 =>
  obtain⟨i,_,hA⟩:=am hA;split at hA<;>first | exact BL hA | cases hA
 case h_24=>exact CA hA
 case h_25 =>
  obtain⟨i,_,hA⟩:=am hA;split at hA<;>first | exact Ds hA | cases hA
 case h_26 =>
  split at hA
  ·obtain⟨i,_,hA⟩:=am hA
   split at hA<;>first | exact Bv hA | cases hA
  ·cases hA
 case h_27 =>
  obtain⟨i,_,hA⟩:=am hA;split at hA<;>first | exact CW hA | cases hA
 case h_28=>cases hA
end
end Go.V

namespace Go.V
open Go.RowKit
set_option maxRecDepth 100000
def yK:Kd→Bool
 | .via _=>false
 | .ref _=>false
 | _=>true
def AY (c:Cx) (ops:List Oper) (o:Oper):Bool :=
 (match o.dst with
  | some d=>!nC (ak c.K d)
  | none=>true) &&
 (match o.guard with
  | none=>true
  | some (j,_)=>(match tY ops j with
    | some g=>(match ak c.K g with
     | .dat _=>true
     | _=>false)
    | none=>false) &&
   (match bu c o with
    | some (.one _ d _)=>(match o.dst with
     | some d'=>GT d' d
     | none=>false)
    | some (.many _ hw cw _)=>(hw++cw).all (fun s=>yK (ak c.K s))&&(match o.dst with
     | some d=>jZ d hw
     | none=>true)
    | none=>true))
def IoV (c:Cx) (V:Nat→Value) (a:Act):Prop:=∀s,nC (ak c.K s)=true→av a s=V s
theorem BV {P:Program} {o:Oper} {a:Act} {next:Act→World→Prop} {Q:Exit→Act→World→Prop}:∀{res:Result Go.Next},o.upon P a next Q res→o.upon P a (fun a' w'=>next a' w'∧∀s,o.dst≠some s→av a' s=av a s) Q res:=by
 have key:∀(df:List Deferred) (v:Value) (s:Nat),o.dst≠some s→av (({a with defers:=df}:Act).put o.dst v) s=av a s:=by
  intro df v s hs;cases hd:o.dst with
  | none=>rfl
  | some d =>
   have:s≠d:=fun e=>hs (by rw [hd,e])
   exact(bt this).trans rfl
 have key0:∀(v:Value) (s:Nat),o.dst≠some s→av (a.put o.dst v) s=av a s:=fun v s hs=>key a.defers v s hs
 intro res h;cases res with
 | ok n w' =>
  cases n<;>simp only [Oper.upon] at h ⊢ <;>
   first
    | exact⟨h,key0 _⟩
    | exact⟨h,key _ _⟩
    | exact Calls.mono h (fun e w'' he=>by cases e<;>first | exact⟨he,key0 _⟩ | exact he)
    | exact Rows.mono h (fun _ _ he=>⟨he,key0 _⟩)
 | halt x w'=>cases x<;>simp only [Oper.upon] at h ⊢<;>exact h
section
variable {P:Program} {c:Cx} {B:Nat} {X:Nat→Prop} {w0:World} {F0 F:Nat→Prop} {O:Nat→Option (Nat × Nat)} {a:Act} {w:World} {δ:List D}
theorem kV:∀(ss:List Nat) (l:List D) (j:Nat),j+ss.length=l.length→fit l j ss=l.drop j
 | [],l,j,h=>by simp [fit,List.drop_eq_nil_of_le (show l.length≤j by simp at h;omega)]
 | s::ss,l,j,h=>by
  simp only [Hy] at h;have hj:j<l.length:=by omega
  simp only [fit];rw [kV ss l (j+1) (by omega),Hs hj,cJ,GM,Hh hj];rfl
def rh (K:List Kd) (dst:Option Nat) (δ:List D) (s:Nat):D :=
 match dst with
 | some d=>if jZ s (d::dC d K 0) then pZ (ak K s) else nth δ s
 | none=>nth δ s
theorem pi (K:List Kd) (dst:Option Nat) (δ:List D):∀(ss:List Nat) (k:List D→Option Out),xY K δ dst ss k=k (ss.map (rh K dst δ))
 | [],k=>by simp [xY]
 | s::ss,k=>by
  cases dst with
  | none=>simp only [xY,rh,cG,GR];exact pi K none δ ss _
  | some d =>
   simp only [xY,GR];cases h:jZ s (d::dC d K 0)
   ·simp only [cG]
    rw [pi K (some d) δ ss];simp only [rh,h,HF,if_false]
   ·simp only
    rw [pi K (some d) δ ss];simp only [rh,h,if_true]
theorem jB (f:Nat→D):∀(ss:List Nat) (δ:List D) (s:Nat),nth (af δ ss (ss.map f)) s=if s∈ss then(if s<δ.length then f s else .bad) else nth δ s
 | [],δ,s=>by simp [af]
 | t::ss,δ,s=>by
  simp only [GR,af];rw [jB f ss (dU δ t (f t)) s,dW];by_cases hs:s∈ss
  ·simp [hs]
  ·by_cases ht:s=t
   ·subst ht
    simp only [hs,if_false,GU,true_or,if_true];exact aU _ _ _
   ·simp only [hs,if_false,GU,ht,or_self]
    exact bI _ _ _ _ ht
theorem yN {δ:List D} {s:Nat} (h:nth δ s ≠ .bad):s<δ.length:=by
 by_cases hl:s<δ.length
 ·exact hl
 ·exfalso
  rw [cJ,GM,GV (by omega)] at h;exact h rfl
theorem Eu {s:Nat} (hs:s<a.tmps.size):ou c.K B F O (a.put (some s) undef) w s (pZ (ak c.K s)):=by
 have hav:av (a.put (some s) undef) s=undef:=by
  simp [av,Act.put,hs]
 unfold pZ;split
 ·rename_i lv hk
  refine .inr ?_
  simp only [hk];refine .inr ?_
  rw [hav];exact⟨rfl,rfl⟩
 ·exact .inl rfl
theorem Inv.pass_over (h:Inv c B X w0 F0 F O a w δ) {dst:Option Nat} {hw cw:List Nat} (hk:∀s∈hw++cw,yK (ak c.K s)=true) (hd:∀d,dst=some d→d∈hw) :
  Inv c B X w0 F0 F O (a.put dst undef) w (af δ (hw++(cw++aO c.K hw)) ((hw++cw).map (rh c.K dst δ))):=by
 have hav:∀s,dst≠some s→av (a.put dst undef) s=av a s:=by
  intro s hs;cases dst with
  | none=>rfl
  | some d=>exact bt fun e=>hs (by rw [e])
 have hnd:∀s,yK (ak c.K s)=true→∀d,s∉dC d c.K 0:=fun s hs d hm=>by
  rcases mX hm with e | e<;>rw [e] at hs<;>cases hs
 refine h.many (by simp) (by cases dst<;>simp [Act.put]) (by cases dst<;>rfl) (fun s hs=>hav s fun e=>hs (hd s e)) (fun r hr hn hb=>?_) (fun s hs=>?_) (fun _ hb=>hb) (fun _ _=>rfl) (fun _ _ hp _=>⟨hp,rfl⟩) h.fl h.ol (fun _ hb=>.inl hb) (HY _) rfl rfl rfl (fun _ _ _=>rfl)
 ·rw [jB,if_pos (HA _ hr),if_pos (yN hb)]
  unfold rh;split
  ·rename_i d
   rw [if_neg]
   ·exact hb
   ·rw [eU]
    simp only [decide_eq_true_eq,GU,not_or];exact⟨fun e=>hn (e ▸ hd d rfl),hnd r (hk r (HA _ hr)) d⟩
  ·exact hb
 ·rw [jB,if_pos hs]
  split
  case isFalse=>exact .inl rfl
  rename_i hsl;have keep:dst≠some s→ou c.K B F O (a.put dst undef) w s (nth δ s):=by
   intro hne;rcases h.slot s with hb | hb
   ·exact .inl hb
   ·refine .inr ?_
    have hks:=hk s hs;rw [hav s hne];generalize ak c.K s=kk at hks hb;cases kk<;>first | exact hb | cases hks
  unfold rh;split
  ·rename_i d
   split
   ·rename_i hm
    rw [eU] at hm;simp only [decide_eq_true_eq,GU] at hm;rcases hm with rfl | hm
    ·exact Eu (by rw [h.la,←h.ld];exact hsl)
    ·rcases mX hm with e | e<;>(rw [e];exact .inl rfl)
   ·rename_i hm
    rw [eU] at hm;simp only [decide_eq_true_eq,GU,not_or] at hm;exact keep fun e=>hm.1 (by cases e;rfl)
  ·exact keep (by simp)
def rdS (c:Cx) (ops:List Oper) (o:Oper):List Nat :=
 match bu c o with
 | none=>[]
 | some A=>match o.guard with
  | none=>Ff A
  | some (j,_)=>match tY ops j with
   | none=>[]
   | some g=>match A with
    | .one rd _ _=>g::rd
    | .many rd hw cw _=>g::(rd++(hw++cw))
def wrS (c:Cx) (o:Oper):List Nat :=
 match bu c o with
 | none=>[]
 | some (.one _ d _)=>d::dC d c.K 0
 | some (.many _ hw cw _)=>hw++(cw++aO c.K hw)
theorem iy {δ δ':List D}:∀{ss:List Nat},(∀s∈ss,nth δ s=nth δ' s)→ae δ ss=ae δ' ss
 | [],_=>rfl
 | s::ss,h=>by
  simp only [ae];rw [h s (by simp),iy fun t ht=>h t (by simp [ht])]
theorem vv {δ δ':List D}:∀{ss:List Nat},ae δ ss=ae δ' ss→∀s∈ss,nth δ s=nth δ' s
 | t::ss,h,s,hs=>by
  simp only [ae,GP] at h;rcases GU.1 hs with rfl | hs
  ·exact h.1
  ·exact vv h.2 s hs
theorem nb (c:Cx) (ops:List Oper) (o:Oper):∃φ:List D→Option (List D),(∀δ k,bZ c ops o δ k=(φ δ).bind fun l=>k (af δ (wrS c o) l))∧∀δ δ',ae δ (rdS c ops o)=ae δ' (rdS c ops o)→φ δ=φ δ':=by
 unfold bZ rdS wrS;cases hA:bu c o with
 | none=>exact⟨fun _=>none,fun _ _=>rfl,fun _ _ _=>rfl⟩
 | some A =>
  have hn:=vH hA;cases hgd:o.guard with
  | none =>
   cases A with
   | one rd d h =>
    refine⟨fun δ=>(h (ae δ rd)).map fun z=>[z],fun δ k=>?_,fun δ δ' e=>by simp only [Ff] at e;simp only [e]⟩
    simp only [bk];cases h (ae δ rd) with
    | none=>rfl
    | some z=>exact bF _ _ _ _
   | many rd hw cw fn =>
    refine⟨fun δ=>Hq (hn (ae δ rd)),fun δ k=>?_,fun δ δ' e=>by simp only [Ff] at e;simp only [e]⟩
    simp only [bk,bF,iQ];exact(Hn (hn (ae δ rd))).1 _
  | some jp =>
   obtain⟨j,pol⟩:=jp;simp only;cases hg:tY ops j with
   | none=>exact⟨fun _=>none,fun _ _=>rfl,fun _ _ _=>rfl⟩
   | some g =>
    cases A with
    | one rd d h =>
     refine⟨fun δ=>(ab (pZ (ak c.K d)) (nth δ g) pol (h (ae δ rd))).map fun z=>[z],fun δ k=>?_,fun δ δ' e=>by simp only [ae,GP] at e;simp only [e.1,e.2]⟩
     simp only [bk,cG];cases ab (pZ (ak c.K d)) (nth δ g) pol (h (ae δ rd)) with
     | none=>rfl
     | some z=>exact bF _ _ _ _
    | many rd hw cw fn =>
     refine⟨fun δ=>match nth δ g with
      | .v (.bool b)=>if b=pol then Hq (hn (ae δ rd)) else some ((hw++cw).map (rh c.K o.dst δ))
      | .tup _=>some ((hw++cw).map (rh c.K o.dst δ))
      | _=>none,fun δ k=>?_,fun δ δ' e=>?_⟩
     ·simp only [bk,bF,cG,iQ,pi]
      unfold dE;split
      ·rename_i b hb
       rw [hb];simp only;split
       ·obtain⟨h1,h2⟩:=Hn (hn (ae δ rd))
        rw [h1];cases hc:Hq (hn (ae δ rd)) with
        | none=>rfl
        | some l =>
         have hl:=h2 l hc;simp only [GQ];rw [kV _ l 0 (by omega),GW,kV _ l 0 (by omega),GW]
       ·simp only [GQ]
        rw [kV _ _ 0 (by simp),GW]
      ·rename_i l hb
       rw [hb];simp only [GQ];rw [kV _ _ 0 (by simp),GW]
      ·rename_i hb hb'
       split
       ·rename_i b hb2;exact absurd hb2 (hb b)
       ·rename_i l hb2;exact absurd hb2 (hb' l)
       ·rfl
     ·simp only [ae,GP,eQ] at e
      have e2:=List.append_inj e.2 (by rw [jr,jr]);have e3:∀s∈hw++cw,nth δ s=nth δ' s:=vv (by rw [eQ,eQ];exact e2.2);have e4:(hw++cw).map (rh c.K o.dst δ)=(hw++cw).map (rh c.K o.dst δ'):=by
       refine List.map_congr_left fun s hs=>?_
       unfold rh;rw [e3 s hs]
      simp only [e.1,e2.1,e4]
def eN (c:Cx) (B:Nat) (X:Nat→Prop) (w0:World) (F0:Nat→Prop) (V:Nat→Value) (k:List D→Option Out) (r:Out) (a:Act) (w:World):Prop :=
 Next c B X w0 F0 k r a w∧IoV c V a
theorem um (hT:okT P c.T=true) (hS:∀f S,ci c.S f=some S→aw c.G P f S) {ops:Array Oper} {o:Oper} (hok:AY c ops.toList o=true) {V:Nat→Value} (hI:Inv c B X w0 F0 F O a w δ) (hV:IoV c V a) {k:List D→Option Out} {r:Out}
  (hg:bZ c ops.toList o δ k=some r) (Q:Exit→Act→World→Prop) :
  if Hc o (yielded ops a.tmps) then o.wp P a w (eN c B X w0 F0 V k r) Q else eN c B X w0 F0 V k r (a.put o.dst undef) w:=by
 unfold AY at hok;simp only [GO] at hok;obtain⟨hdst,hgd⟩:=hok;have hio:∀s,nC (ak c.K s)=true→o.dst≠some s:=fun s hs e=>by
  rw [e] at hdst;simp only at hdst;rw [hs] at hdst;cases hdst
 have lift:∀(A:Ac),bu c o=some A→bT c A δ k=some r→o.wp P a w (eN c B X w0 F0 V k r) Q:=by
  intro A hA hgo;have h:=AP hT hS o A hA B X w0 F0 F O a w δ hI k r hgo Q;unfold Oper.wp at h ⊢;refine HX (P:=P) (o:=o) (a:=a) (w:=w) (K:=fun a' w'=>Next c B X w0 F0 k r a' w'∧∀s,o.dst≠some s→av a' s=av a s) (fun a' w' hn=>⟨hn.1,fun s hs=>(hn.2 s (hio s hs)).trans (hV s hs)⟩) ?_
  exact BV h
 have skipV:IoV c V (a.put o.dst undef):=by
  intro s hs;cases hd:o.dst with
  | none=>exact hV s hs
  | some d=>exact(bt (fun e=>hio s hs (by rw [hd,e]))).trans (hV s hs)
 unfold bZ at hg;cases hA:bu c o with
 | none=>rw [hA] at hg;cases hg
 | some A =>
  rw [hA] at hg;simp only at hg;cases hgu:o.guard with
  | none =>
   rw [hgu] at hg;rw [if_pos (by simp [Hc,hgu])];refine lift A hA ?_
   cases A with
   | one rd d h =>
    simp only [bk] at hg;obtain⟨z,h1,h2⟩:=GK.1 hg;rw [bF] at h2;simp only [bT,h1,GQ];exact h2
   | many rd hw cw fn =>
    simp only [bk,bF,iQ] at hg;exact hg
  | some jp =>
   obtain⟨j,pol⟩:=jp;rw [hgu] at hg;rw [hgu,hA] at hgd;simp only [GO] at hgd;simp only at hg;cases hgs:tY ops.toList j with
   | none=>rw [hgs] at hg;cases hg
   | some g =>
    rw [hgs] at hg hgd;simp only at hgd;obtain⟨hkd,hck⟩:=hgd;have hyield:∀b,nth δ g = .v (.bool b)→yielded ops a.tmps j=some b:=by
     intro b hb;obtain⟨lv,hk⟩:∃lv,ak c.K g = .dat lv:=by
      split at hkd
      ·exact⟨_,‹_›⟩
      ·cases hkd
     have hr:=hI.dat hk;rw [hb] at hr;obtain⟨hv,_⟩:=aI hr;have hlt:g<a.tmps.size:=by
      rw [hI.la,←hI.ld];exact yN (by rw [hb];simp)
     have hg1:a.tmps[g]?=some (.bool b):=by
      rw [av,GN,GX hlt] at hv;rw [GX hlt];simpa using hv
     unfold tY at hgs;rw [pF,HB] at hgs;unfold yielded;cases ho:ops[j]? with
     | none=>rw [ho] at hgs;cases hgs
     | some oj =>
      rw [ho] at hgs;simp only at hgs;simp [hgs,hg1]
    have hyT:∀l,nth δ g = .tup l→yielded ops a.tmps j=none:=by
     intro l hb;obtain⟨lv,hk⟩:∃lv,ak c.K g = .dat lv:=by
      split at hkd
      ·exact⟨_,‹_›⟩
      ·cases hkd
     have hr:=hI.dat hk;rw [hb] at hr;have hv:av a g = .tuple #[]:=(hr.rep (by simp)).2;unfold yielded;rw [tY,pF,HB] at hgs;cases ho:ops[j]? with
     | none=>simp
     | some oj =>
      rw [ho] at hgs;simp only at hgs;simp only [GQ,hgs];cases hx:a.tmps[g]? with
      | none=>rfl
      | some x =>
       have:x = .tuple #[]:=by
        rw [←hv,av,GN,hx];rfl
       subst this;rfl
    cases A with
    | one rd d h =>
     simp only [cG,bk] at hg;obtain⟨z,h1,h2⟩:=GK.1 hg;rw [bF] at h2;unfold ab at h1;have skip:z=pZ (ak c.K d)→eN c B X w0 F0 V k r (a.put o.dst undef) w:=by
      rintro rfl;refine⟨⟨F,O,_,?_,h2⟩,skipV⟩
      simp only at hck;split at hck
      ·rename_i d' hd'
       rw [ay] at hck;subst hck;rw [hd'];refine hI.put ?_
       unfold pZ sU;split
       ·rename_i hkk
        refine .inr ?_
        rw [hkk];exact⟨rfl,rfl⟩
       ·exact .inl rfl
      ·cases hck
     split at h1
     case h_3=>cases h1
     case h_2 =>
      rename_i l hb;have hy:=hyT l hb;rw [if_neg (by simp [Hc,hgu,hy])];exact skip (by cases h1;rfl)
     rename_i b hb;have hy:=hyield b hb;split at h1
     ·rename_i hbp
      rw [if_pos (by simp [Hc,hgu,hy,hbp])];exact lift _ hA (by simp only [bT,h1,GQ];exact h2)
     ·rename_i hbp
      rw [if_neg (by simp [Hc,hgu,hy,hbp])];exact skip (by cases h1;rfl)
    | many rd hw cw fn =>
     simp only [cG,bk,pi,iQ,bF] at hg;unfold dE at hg;have skip:k (af δ (hw++(cw++aO c.K hw)) (fit ((hw++cw).map (rh c.K o.dst δ)) 0 (hw++cw)))=some r→eN c B X w0 F0 V k r (a.put o.dst undef) w:=by
      intro hg;rw [kV _ _ 0 (by simp),GW] at hg;simp only [GO,Hi] at hck;refine⟨⟨F,O,_,hI.pass_over hck.1 (fun d hd=>?_),hg⟩,skipV⟩
      have h3:=hck.2;rw [hd] at h3;simp only [eU,decide_eq_true_eq] at h3;exact h3
     split at hg
     case h_3=>cases hg
     case h_2 =>
      rename_i l hb;have hy:=hyT l hb;rw [if_neg (by simp [Hc,hgu,hy])];exact skip hg
     rename_i b hb;have hy:=hyield b hb;obtain⟨φ,hφ,hlen⟩:=vH hA (ae δ rd);split at hg
     ·rename_i hbp
      rw [if_pos (by simp [Hc,hgu,hy,hbp])];refine lift _ hA ?_
      simp only [bT];rw [hφ] at hg ⊢;cases hp:φ with
      | none=>rw [hp] at hg;cases hg
      | some l =>
       rw [hp] at hg;have hl:=hlen l hp;simp only [GQ] at hg ⊢;rw [kV _ l 0 (by omega),GW,kV _ l 0 (by omega),GW] at hg;exact hg
     ·rename_i hbp
      rw [if_neg (by simp [Hc,hgu,hy,hbp])];exact skip hg
theorem oA (hT:okT P c.T=true) (hS:∀f S,ci c.S f=some S→aw c.G P f S) {ops:Array Oper} {V:Nat→Value} {Q:Exit→Act→World→Prop} {k:List D→Option Out} {r:Out} (hQ:∀a w,eN c B X w0 F0 V k r a w→Q .normal a w) :
  ∀(l:List Oper),(∀o∈l,AY c ops.toList o=true)→∀(F:Nat→Prop) (O:Nat→Option (Nat × Nat)) (a:Act) (w:World) (δ:List D),Inv c B X w0 F0 F O a w δ→IoV c V a→gj c ops.toList l δ k=some r→wpList P ops Q l a w
 | [],_,F,O,a,w,δ,hI,hV,hg=>hQ a w ⟨⟨F,O,δ,hI,hg⟩,hV⟩
 | o::l,hok,F,O,a,w,δ,hI,hV,hg=>by
  simp only [gj] at hg;have h:=um hT hS (hok o (by simp)) hI hV hg Q;have ih:∀a w,eN c B X w0 F0 V (fun δ'=>gj c ops.toList l δ' k) r a w→wpList P ops Q l a w:=by
   rintro a w ⟨⟨F',O',δ',hI',hk'⟩,hV'⟩;exact oA hT hS hQ l (fun o' ho'=>hok o' (by simp [ho'])) F' O' a w δ' hI' hV' hk'
  unfold wpList;split
  ·rename_i hw
   rw [if_pos hw] at h;exact .inl (HX ih h)
  ·rename_i hw
   rw [if_neg hw] at h;exact ih _ _ h
end
end Go.V

namespace Go.V
open Go.RowKit
set_option maxRecDepth 100000
def lT (x y:List Nat):Bool:=x.all fun s=>!jZ s y
def yF (c:Cx) (ops:List Oper) (x y:Oper):Bool:=lT (rdS c ops x) (wrS c y)&&lT (wrS c x) (rdS c ops y)&&lT (wrS c x) (wrS c y)
def wh (c:Cx) (x y:Oper):Bool :=
 match x.guard,y.guard,x.op,x.dst,y.op,y.dst with
 | none,none,.move (.tmp t),some d,.store _ (.tmp q) (.tmp s),none =>
  (match ak c.K t,ak c.K d,ak c.K q,ak c.K s with
   | .own _ _ _,.via r,.ref r',.dat _=>GT r t&&GT r' t && !GT q t&&lT (d::dC d c.K 0) [q,t,s]
   | _,_,_,_=>false)
 | _,_,_,_,_,_=>false
def BK (c:Cx) (x y:Oper):Bool :=
 match x.guard,y.guard,x.op,y.op,y.dst with
 | none,none,.call q,.move (.tmp t),some d =>
  (match ak c.K t,ak c.K d,q.callee with
   | .box _ _ _,.ref r',.value (.func f)=>(match ci c.S f with
    | some S=>(match fE c.K q.args.toList S.pm with
     | some ags=>GT r' t&&jZ t (cF ags)
     | none=>false)
    | none=>false)
   | _,_,_=>false)
 | _,_,_,_,_=>false
def yQ (c:Cx) (ops:List Oper) (x y:Oper):Bool:=BK c x y&&lT (rdS c ops x) (wrS c y)&&lT (wrS c x) (wrS c y)
def vR (c:Cx) (ops:List Oper) (x y:Oper):Bool:=yF c ops x y||wh c x y||wh c y x||yQ c ops x y
def bef (ops:List Oper) (j:Nat):Nat→Oper→Bool
 | 0,_=>false
 | n+1,o=>o.after.toList.any fun e=>Hj .any e&&(GT e.on j||match xK ops e.on with
  | some q=>bef ops j n q
  | none=>false)
def Aj (c:Cx) (ops:List Oper):Bool :=
 ops.zipIdx.all fun p=>(p.1.after.toList.all fun e=>!Hj .any e||decide (e.on<p.2))&&(ops.take p.2).zipIdx.all fun q=>vR c ops q.1 p.1||bef ops q.2 3 p.1
def jE (K:List Kd) (hl:List Nat):Bool :=
 hl.all fun s=>match ak K s with
  | .via r=>jZ r hl
  | .ref r=>jZ r hl
  | _=>true
def cv (c:Cx):Nat→Code→Bool
 | _,.skip=>true
 | _,.region _ ops d=>ops.toList.all (AY c ops.toList)&&(!d||Aj c ops.toList)
 | b,.seq x y=>cv c b x&&cv c b y
 | b,.cond x t e=>Nat.ble (ct c.K x) 2&&cv c b t&&cv c b e
 | _,.block id x=>cv c id x
 | b,.loop x=>cv c b x&&(match ci c.H b with
  | some (hl,xl)=>jE c.K hl&&jE c.K xl
  | none=>false)
 | _,.exit _=>true
 | _,.ret=>true
 | _,_=>false
section
variable {P:Program} {c:Cx} {B:Nat} {X:Nat→Prop} {w0:World} {F0 F:Nat→Prop} {O:Nat→Option (Nat × Nat)} {a:Act} {w:World} {δ:List D}
def yC (c:Cx) (δ:List D) (k:Out→Option Out):Option Out:=eB c δ c.res fun rs=>lL δ c.ios fun us=>usK us (k (.ret rs us))
def AN (c:Cx) (B:Nat) (X:Nat→Prop) (w0:World) (F0:Nat→Prop) (V:Nat→Value) (k:Out→Option Out) (r:Out):Exit→Act→World→Prop
 | .normal,a,w=>eN c B X w0 F0 V (fun δ=>k (.nrm δ)) r a w
 | .exit id,a,w=>eN c B X w0 F0 V (fun δ=>k (.ext id δ)) r a w
 | .ret,a,w=>eN c B X w0 F0 V (fun δ=>yC c δ k) r a w
 | _,_,_=>False
theorem iD {x y:List Nat} (h:lT x y=true):∀s∈x,s∉y:=by
 intro s hs;unfold lT at h;rw [Hi] at h;simpa [eU] using h s hs
theorem Dz {δ δ':List D} (h:δ.length=δ'.length) (hn:∀s,nth δ s=nth δ' s):δ=δ':=by
 refine List.ext_getElem h fun i h1 h2=>?_
 have:=hn i;rw [cJ,cJ,GM,GM,Hh h1,Hh h2] at this;exact this
theorem kY:∀(ss:List Nat) (l δ δ':List D),δ.length=δ'.length→∀s∈ss,nth (af δ ss l) s=nth (af δ' ss l) s
 | t::ss,l,δ,δ',hl,s,hs=>by
  cases l with
  | nil=>rw [gP _ _ _ hs,gP _ _ _ hs]
  | cons d l =>
   simp only [af];by_cases hm:s∈ss
   ·exact kY ss l _ _ (by rw [dW,dW,hl]) s hm
   ·have:s=t:=by simpa [hm] using hs
    subst this;rw [an _ _ _ _ hm,an _ _ _ _ hm,aU,aU,hl]
theorem ll {A C:List Nat} {l m δ:List D} (h:∀s∈A,s∉C):af (af δ A l) C m=af (af δ C m) A l:=by
 refine Dz (by simp only [ce]) fun s=>?_
 by_cases hA:s∈A
 ·rw [an _ _ _ _ (h s hA)]
  exact kY A l _ _ (by rw [ce]) s hA
 ·by_cases hC:s∈C
  ·rw [an A _ _ _ hA]
   exact(kY C m _ _ (by rw [ce]) s hC)
  ·rw [an _ _ _ _ hC,an _ _ _ _ hA,an _ _ _ _ hA,an _ _ _ _ hC]
theorem wI {n:Nat} {o p x z:D} (h:stD n o p x=some z):o ≠ .bad∧z ≠ .bad:=by
 unfold stD at h;split at h
 ·split at h
  ·split at h
   ·cases h;exact⟨by simp,by simp⟩
   ·cases h
  ·cases h
 ·split at h
  ·cases h;exact⟨by simp,by simp⟩
  ·cases h
 ·cases h
theorem tm (chk:Bool) (n:Nat) (b p y:D):∃E:Option D,(∀k:D→Option Out,stK chk n b p y k=E.bind k)∧∀z,E=some z→b ≠ .bad∧z ≠ .bad:=by
 cases chk
 ·exact⟨stD n b p y,fun _=>rfl,fun z hz=>wI hz⟩
 ·refine⟨(bg y).bind fun y=>stD n b p y,fun k=>by simp only [stK,Hl],fun z hz=>?_⟩
  obtain⟨y',_,h⟩:=GK.1 hz;exact wI h
theorem zM {ops:List Oper} {x y:Oper} (h:wh c x y=true) (δ:List D) (k:List D→Option Out):bZ c ops x δ (fun δ=>bZ c ops y δ k)=bZ c ops y δ (fun δ=>bZ c ops x δ k):=by
 unfold wh at h;split at h
 case h_2=>cases h
 rename_i t d ty q s hxg hyg hxo hxd hyo hyd;split at h
 case h_2=>cases h
 rename_i z lv io r0 r lv' hkt hkd hkq hks;simp only [GO,Hd] at h;obtain⟨⟨⟨h1,h2⟩,h3⟩,h4⟩:=h;have e1:=ay.1 h1;have e2:=ay.1 h2;subst e1;subst e2;have hx:∀(δ:List D) (k:List D→Option Out),bZ c ops x δ k=(aa (nth δ r) (.ref 0 0)).bind fun z=>k (af δ (d::dC d c.K 0) [z]):=by
  intro δ k;have hA:bu c x=some (.one [r] d fun is=>(dh fun x=>aa x (.ref 0 0)) is):=by
   simp only [bu,hxo,hxd,wP,hkt,hkd,HC]
  simp only [bZ,hA,hxg];rw [bk];show(aa (nth δ r) (.ref 0 0)).bind (fun z=>cT δ (d::dC d c.K 0) [z] k)=_
  exact congrArg _ (funext fun z=>bF _ _ _ _)
 have hy:∃E:D→D→D→Option D,(∀(δ:List D) (k:List D→Option Out),bZ c ops y δ k=(E (nth δ r) (nth δ q) (nth δ s)).bind fun b=>k (af δ [r] [b]))∧∀a b e z,E a b e=some z→a ≠ .bad∧z ≠ .bad:=by
  cases hT:ci c.T ty with
  | none =>
   refine⟨fun _ _ _=>none,fun δ k=>?_,fun _ _ _ _ h=>by cases h⟩
   have hA:bu c y=none:=by simp only [bu,hyo,hyd,cI,hT]
   simp only [bZ,hA];rfl
  | some i =>
   have act:∀chk:Bool,bu c y=some (.many [q,r,s] [] [r] fun is k=>goP q r is fun b p is=>cE is 0 fun y=>stK chk i.n b p y fun b=>k [b]) →
     ∃E:D→D→D→Option D,(∀(δ:List D) (k:List D→Option Out),bZ c ops y δ k=(E (nth δ r) (nth δ q) (nth δ s)).bind fun b=>k (af δ [r] [b]))∧∀a b e z,E a b e=some z→a ≠ .bad∧z ≠ .bad:=by
    intro chk hA;refine⟨fun a b e=>Hq (tm chk i.n a b e),fun δ k=>?_,fun a b e z h=>(Hn (tm chk i.n a b e)).2 z h⟩
    simp only [bZ,hA,hyg];rw [bk];simp only [goP,h3,ae];show stK chk i.n (nth δ r) (nth δ q) (nth δ s) (fun b=>cT δ [r] [b] k)=_
    rw [(Hn (tm chk i.n (nth δ r) (nth δ q) (nth δ s))).1];exact congrArg _ (funext fun b=>bF _ _ _ _)
   have hst:bu c y=xn c i q r (eh c.K r) (.tmp s):=by
    simp only [bu,hyo,hyd,cI,hT,Cn,hkq]
   unfold xn at hst;simp only [hks] at hst;split at hst
   ·exact act false (by rw [hst];simp only [rdP,h3])
   ·exact act true (by rw [hst];simp only [rdP,h3])
   ·refine⟨fun _ _ _=>none,fun δ k=>?_,fun _ _ _ _ h=>by cases h⟩
    simp only [bZ,hst];rfl
 obtain⟨E,hE,hEl⟩:=hy;have ap:=fun s hs=>iD h4 s hs
 have hnq:∀m:List D,∀v∈[q,r,s],nth (af δ (d::dC d c.K 0) m) v=nth δ v:=fun m v hv=>an _ _ _ _ fun hm=>ap v hm hv
 simp only [hx,hE,hnq _ q (by simp),hnq _ r (by simp),hnq _ s (by simp)];cases hb:E (nth δ r) (nth δ q) (nth δ s) with
 | none=>cases aa (nth δ r) (.ref 0 0)<;>rfl
 | some b =>
  obtain⟨g1,g2⟩:=hEl _ _ _ _ hb;have hlive:∀a:D,a ≠ .bad→aa a (.ref 0 0)=some (.ref 0 0):=fun a ha=>by cases a<;>first | exact absurd rfl ha | rfl
  have hr:nth (af δ [r] [b]) r=b:=by
   simp only [af];rw [aU,if_pos];by_cases hl:r<δ.length
   ·exact hl
   ·exfalso
    rw [cJ,GM,GV (by omega)] at g1;exact g1 rfl
  simp only [hlive _ g1,hr,hlive _ g2,GQ];rw [ll (A:=d::dC d c.K 0) (C:=[r])];intro v hv hv';exact ap v hv (by simp at hv';simp [hv'])
theorem yA {ops:List Oper} {x y:Oper} (h:yF c ops x y=true) (δ:List D) (k:List D→Option Out):bZ c ops x δ (fun δ=>bZ c ops y δ k)=bZ c ops y δ (fun δ=>bZ c ops x δ k):=by
 unfold yF at h;simp only [GO] at h;obtain⟨⟨h1,h2⟩,h3⟩:=h;obtain⟨φ,hφ,hφr⟩:=nb c ops x;obtain⟨ψ,hψ,hψr⟩:=nb c ops y;have e1:∀l,ψ (af δ (wrS c x) l)=ψ δ:=fun l=>hψr _ _ (iy fun s hs=>an _ _ _ _ fun hm=>iD h2 s hm hs)
 have e2:∀l,φ (af δ (wrS c y) l)=φ δ:=fun l=>hφr _ _ (iy fun s hs=>an _ _ _ _ (iD h1 s hs))
 simp only [hφ,hψ,e1,e2];cases φ δ with
 | none=>cases ψ δ<;>rfl
 | some l =>
  cases ψ δ with
  | none=>rfl
  | some m =>
   simp only [GQ];rw [ll (iD h3)]
theorem mU {δ:List D}:∀(ags:List Ag) (ds:List D),bE ags (ae δ (dg ags))=some ds→∀t∈cF ags,nth δ t ≠ .bad
 | [],_,_,t,ht=>by simp [cF] at ht
 | .d x chk::l,ds,h,t,ht=>by
  have ih:=mU (δ:=δ) l;simp only [cF] at ht;cases x with
  | tmp u =>
   simp only [ae] at h;cases chk
   ·simp only [bE] at h
    obtain⟨z,hz,_⟩:=GL.1 h;exact ih z hz t ht
   ·simp only [bE] at h
    obtain⟨i,_,h⟩:=GK.1 h;obtain⟨z,hz,_⟩:=GL.1 h;exact ih z hz t ht
  | const v =>
   simp only [bE] at h;obtain⟨z,hz,_⟩:=GL.1 h;exact ih z hz t ht
  | func f =>
   simp only [bE] at h;obtain⟨z,hz,_⟩:=GL.1 h;exact ih z hz t ht
  | global g=>simp [bE] at h
 | .bor u r::l,ds,h,t,ht=>by
  have ih:=mU (δ:=δ) l;simp only [cF] at ht;cases hb:GT u r
  ·simp only [dg,hb,ae,bE] at h
   obtain⟨i,_,h⟩:=GK.1 h;obtain⟨z,hz,_⟩:=GL.1 h;exact ih z hz t ht
  ·simp only [dg,hb,ae,bE] at h
   obtain⟨z,hz,_⟩:=GL.1 h;exact ih z hz t ht
 | .io u r::l,ds,h,t,ht=>by
  have ih:=mU (δ:=δ) l;simp only [cF,GU] at ht;have lv:∀x y z:D,aa x y=some z→x ≠ .bad:=fun x y z hz e=>by subst e;cases hz
  cases hb:GT u r
  ·simp only [dg,hb,ae,bE] at h
   obtain⟨i,hi,h⟩:=GK.1 h;obtain⟨i',hi',h⟩:=GK.1 h;obtain⟨z,hz,_⟩:=GL.1 h;have e:i=nth δ r:=by
    unfold bp at hi;split at hi
    ·exact(Ia hi).symm
    ·cases hi
   rcases ht with rfl | ht
   ·rw [←e];exact lv _ _ _ hi'
   ·exact ih z hz t ht
  ·simp only [dg,hb,ae,bE] at h
   obtain⟨i',hi',h⟩:=GK.1 h;obtain⟨z,hz,_⟩:=GL.1 h;have e:=ay.1 hb;rcases ht with rfl | ht
   ·rw [←e];exact lv _ _ _ hi'
   ·exact ih z hz t ht
theorem Ew {ops:List Oper} {x y:Oper} (h:yQ c ops x y=true) (δ:List D) (k:List D→Option Out) (r:Out) (hs:bZ c ops x δ (fun δ=>bZ c ops y δ k)=some r):bZ c ops y δ (fun δ=>bZ c ops x δ k)=some r:=by
 unfold yQ at h;simp only [GO] at h;obtain⟨⟨h1,h2⟩,h3⟩:=h;unfold BK at h1;split at h1
 case h_2=>cases h1
 rename_i q t d hxg hyg hxo hyo hyd;split at h1
 case h_2=>cases h1
 rename_i n lv io r' f hkt hkd hqc;split at h1
 case h_2=>cases h1
 rename_i S hS;split at h1
 case h_2=>cases h1
 rename_i ags hags;simp only [GO] at h1;obtain⟨h4,h5⟩:=h1;have e4:=ay.1 h4;subst e4;have hyA:bu c y=some (.one [r'] d fun is=>(dh fun x=>aa x (.ref 0 0)) is):=by
  simp only [bu,hyo,hyd,wP,hkt,hkd,HC]
 have hw:wrS c y=d::dC d c.K 0:=by
  unfold wrS;rw [hyA]
 have hy:∀(δ:List D) (k:List D→Option Out),bZ c ops y δ k=(aa (nth δ r') (.ref 0 0)).bind fun z=>k (af δ (d::dC d c.K 0) [z]):=by
  intro δ k;simp only [bZ,hyA,hyg];rw [bk];show(aa (nth δ r') (.ref 0 0)).bind (fun z=>cT δ (d::dC d c.K 0) [z] k)=_
  exact congrArg _ (funext fun z=>bF _ _ _ _)
 have live:∀(δ:List D) (K:List D→Option Out) (r:Out),bZ c ops x δ K=some r→nth δ r' ≠ .bad:=by
  intro δ K r hr;have hm:r'∈cF ags:=by simpa [eU] using h5
  have fin:∀K':List D→Option Out,eH [] ags (ae δ (dg ags)) K'=some r→nth δ r' ≠ .bad:=by
   intro K' h;rw [eS] at h;obtain⟨ds,hds,_⟩:=GK.1 h;exact mU ags ds hds r' hm
  have hA:bu c x=Az c x.dst q:=by simp only [bu,hxo]
  have hcl:∀A,bu c x=some A→oK c x.dst S q.args.toList=some A:=by
   intro A h;rw [hA] at h;unfold Az at h;rw [hqc] at h;simp only [hS] at h;exact h
  cases hAc:bu c x with
  | none=>simp only [bZ,hAc] at hr;cases hr
  | some A =>
   have hA2:=hcl A hAc;unfold oK at hA2;simp only [hags] at hA2;simp only [bZ,hAc,hxg] at hr
   repeat' split at hA2
   all_goals first
    | (cases hA2;done)
    | (cases hA2;simp only [bk] at hr;exact fin _ hr)
    | skip
 have l1:=live δ _ r hs;obtain⟨φ,hφ,hφr⟩:=nb c ops x;rw [hw] at h2 h3;have e2:∀l,φ (af δ (d::dC d c.K 0) l)=φ δ:=fun l=>hφr _ _ (iy fun s hs=>an _ _ _ _ (iD h2 s hs))
 have hlive:∀a:D,a ≠ .bad→aa a (.ref 0 0)=some (.ref 0 0):=fun a ha=>by cases a<;>first | exact absurd rfl ha | rfl
 simp only [hφ,hy,e2] at hs ⊢;rw [hlive _ l1];cases hp:φ δ with
 | none=>rw [hp] at hs;cases hs
 | some l =>
  rw [hp] at hs;simp only [GQ] at hs ⊢;obtain⟨z,hz,hk⟩:=GK.1 hs;have ez:z = .ref 0 0:=by
   unfold aa at hz;split at hz
   ·cases hz
   ·exact(Ia hz).symm
  subst ez;rw [ll (iD h3)] at hk;exact hk
theorem Bs {ops:List Oper} {x y:Oper} (h:vR c ops x y=true) (δ:List D) (k:List D→Option Out) (r:Out) (hs:bZ c ops x δ (fun δ=>bZ c ops y δ k)=some r):bZ c ops y δ (fun δ=>bZ c ops x δ k)=some r:=by
 unfold vR at h;simp only [Ht] at h;rcases h with ((h | h) | h) | h
 ·exact(yA h δ k).symm.trans hs
 ·exact(zM h δ k).symm.trans hs
 ·exact(zM h δ k).trans hs
 ·exact Ew h δ k r hs
theorem AQ {ops:List Oper} {o:Oper} {k k':List D→Option Out} {δ:List D} {r:Out} (hk:∀δ,k δ=some r→k' δ=some r) (h:bZ c ops o δ k=some r):bZ c ops o δ k'=some r:=by
 obtain⟨φ,hφ,_⟩:=nb c ops o;rw [hφ] at h ⊢;obtain⟨l,hl,h⟩:=GK.1 h;rw [hl];exact hk _ h
theorem pq {ops:List Oper} {o:Oper} {k:List D→Option Out} {r:Out}:∀(pre post:List Oper) (δ:List D),(∀q∈pre,vR c ops q o=true)→gj c ops (pre++o::post) δ k=some r→bZ c ops o δ (fun δ=>gj c ops (pre++post) δ k)=some r
 | [],post,δ,_,h=>h
 | q::pre,post,δ,h,hr=>by
  simp only [Hz,gj] at hr ⊢;exact Bs (h q (by simp)) δ _ r (AQ (fun δ' h'=>pq pre post δ' (fun q' hq'=>h q' (by simp [hq'])) h') hr)
def left (ops:List Oper) (listed:Array Bool):List Oper:=(ops.zipIdx.filter fun p=>!listed.getD p.2 true).map (·.1)
theorem Inv.drawn (h:Inv c B X w0 F0 F O a w δ) (n:Nat):Inv c B X w0 F0 F O a {w with drawn:=n} δ :=
 h.step (w':={w with drawn:=n}) (fun _=>False) rfl rfl rfl (fun _ _=>⟨rfl,.inl rfl⟩) (fun _ hb=>hb) (fun _ _=>rfl) (fun _ _ hp _=>⟨hp,rfl⟩) (fun _ _ _ hv hb=>⟨rfl,(h.root hv hb).2⟩) (fun _ hf=>hf.elim) h.fl h.ol (fun _ hb=>.inl hb) (HY _) rfl rfl rfl (fun _ _ _=>rfl)
theorem ud {l:List Oper} {i:Nat} {o:Oper} (h:l[i]?=some o):l.zipIdx=(l.take i).zipIdx++(o,i)::(l.drop (i+1)).zipIdx (i+1):=by
 have hi:i<l.length:=(He.1 h).1;have e:l=l.take i++(o::l.drop (i+1)):=by
  have h1:l[i]=o:=(He.1 h).2
  conv=>lhs;rw [←HQ i l,Hs hi,h1]
 conv=>lhs;rw [e]
 rw [List.zipIdx_append,List.zipIdx_cons];have:(l.take i).length=i:=by rw [HJ];omega
 simp [this]
theorem tZ {l:List Oper} {listed:Array Bool} {i:Nat} {o:Oper} (h:l[i]?=some o) (hn:listed.getD i true=false) (hsz:i<listed.size) :
  left l listed=(((l.take i).zipIdx.filter fun p=>!listed.getD p.2 true).map (·.1))++o::((((l.drop (i+1)).zipIdx (i+1)).filter fun p=>!listed.getD p.2 true).map (·.1)) ∧
  left l (listed.setIfInBounds i true)=(((l.take i).zipIdx.filter fun p=>!listed.getD p.2 true).map (·.1))++((((l.drop (i+1)).zipIdx (i+1)).filter fun p=>!listed.getD p.2 true).map (·.1)):=by
 have hne:∀j,j≠i→(listed.setIfInBounds i true).getD j true=listed.getD j true:=fun j hj=>by
  simp only [GN,Ho,HH hj,if_false]
 have hi:(listed.setIfInBounds i true).getD i true=true:=by
  simp [GN,hsz]
 unfold left;rw [ud h];simp only [List.filter_append,List.map_append,List.filter_cons,hn,hi,Ie,Bool.not_true,if_true,HF,if_false,GR];refine⟨trivial,?_⟩
 congr 2
 ·refine List.filter_congr fun p hp=>?_
  have:=Hg hp;rw [HJ] at this;rw [hne p.2 (by omega)]
 ·refine List.filter_congr fun p hp=>?_
  have:=List.le_snd_of_mem_zipIdx hp;rw [hne p.2 (by omega)]
def Cl (ops:Array Oper) (listed:Array Bool):Prop:=∀(m:Nat) (q:Oper),ops[m]?=some q→listed.getD m false=true→∀e∈q.after,Hj .any e=true→listed.getD e.on false=true
theorem tz {ops:Array Oper} {listed:Array Bool} (hc:Cl ops listed) {j:Nat}:∀(n:Nat) (o:Oper),(∀e∈o.after,Hj .any e=true→listed.getD e.on false=true)→bef ops.toList j n o=true→listed.getD j false=true
 | 0,_,_,h=>by simp [bef] at h
 | n+1,o,ho,h=>by
  simp only [bef,List.any_eq_true,GO,Ht] at h;obtain⟨e,he,hb,h⟩:=h;have hl:=ho e (by simpa using he) hb;rcases h with h | h
  ·rw [←ay.1 h]
   exact hl
  ·split at h
   ·rename_i q hq
    rw [pF,HB] at hq;exact tz hc n q (hc e.on q hq hl) h
   ·cases h
theorem tn {listed:Array Bool} {i x:Nat} (h:listed.getD x false=true):(listed.setIfInBounds i true).getD x false=true:=by
 rw [GN] at h ⊢;rw [Ho];split
 ·split<;>rename_i h1 h2
  ·rfl
  ·subst h1
   rw [Array.getElem?_eq_none (by omega)] at h;cases h
 ·exact h
theorem FN {ops:Array Oper} {listed:Array Bool} (hc:Cl ops listed) {i:Nat} {o:Oper} (ho:ops[i]?=some o) (hed:∀e∈o.after,Hj .any e=true→listed.getD e.on false=true):Cl ops (listed.setIfInBounds i true):=by
 intro m q hq hm e he hb;by_cases hmi:m=i
 ·subst hmi
  rw [ho] at hq;cases hq;exact tn (hed e he hb)
 ·refine tn (hc m q hq ?_ e he hb)
  rw [GN,Ho,if_neg (fun e=>hmi e.symm)] at hm;rw [GN];exact hm
theorem yR (hT:okT P c.T=true) (hS:∀f S,ci c.S f=some S→aw c.G P f S) {ops:Array Oper} (hany:Aj c ops.toList=true) {V:Nat→Value} {Q:Exit→Act→World→Prop} {k:List D→Option Out} {r:Out} (hQ:∀a w,eN c B X w0 F0 V k r a w→Q .normal a w)
  (hok:∀o∈ops.toList,AY c ops.toList o=true) (hI:Inv c B X w0 F0 F O a w δ) (hV:IoV c V a) (hg:gj c ops.toList ops.toList δ k=some r):wpAny P .any ops Q ops.size (Ib ops.size false) a {w with drawn:=w.drawn+1}:=by
 have hedge:∀(i:Nat) (o:Oper),ops[i]?=some o→(∀e∈o.after,Hj .any e=true→e.on<i)∧∀(j:Nat) (q:Oper),j<i→ops[j]?=some q→bef ops.toList j 3 o=true∨vR c ops.toList q o=true:=by
  intro i o ho;have h0:=hany;unfold Aj at h0;rw [Hi] at h0;have hl:ops.toList[i]?=some o:=by simpa using ho
  have h1:=h0 (o,i) (by rw [ud hl];simp);simp only [GO,Ht,Hd,decide_eq_true_eq,Hi] at h1;refine⟨fun e he hb=>(h1.1 e (by simpa using he)).resolve_left (by rw [hb];simp),fun j q hj hq=>?_⟩
  have hq':(ops.toList.take i)[j]?=some q:=by
   rw [HK hj];simpa using hq
  exact(h1.2 (q,j) (by rw [ud hq'];simp)).symm
 have main:∀(fuel:Nat) (listed:Array Bool) (F:Nat→Prop) (O:Nat→Option (Nat × Nat)) (a:Act) (w:World) (δ:List D),listed.size=ops.size→Cl ops listed→(left ops.toList listed).length≤fuel→Inv c B X w0 F0 F O a w δ→IoV c V a →
   gj c ops.toList (left ops.toList listed) δ k=some r→wpAny P .any ops Q fuel listed a w:=by
  intro fuel;have ready_mem:∀(listed:Array Bool) (i:Nat),i∈Hw .any ops listed→∃o,ops[i]?=some o∧listed.getD i true=false∧∀e∈o.after,Hj .any e=true→listed.getD e.on false=true:=by
   intro listed i hi;unfold Hw at hi;rw [HP] at hi;obtain⟨hr,hi⟩:=hi;simp only [GO,Hd] at hi;cases ho:ops[i]? with
   | none=>rw [ho] at hi;simp at hi
   | some o =>
    rw [ho] at hi;simp only [Ic,HL,Array.all_eq_true_iff_forall_mem,Ht,Hd] at hi;exact⟨o,rfl,hi.1,fun e he hb=>(hi.2 e he).resolve_left (by rw [hb];simp)⟩
  have empty:∀(listed:Array Bool),listed.size=ops.size→Hw .any ops listed=[]→left ops.toList listed=[]:=by
   intro listed hsz hr;have all:∀i,i<ops.size→listed.getD i true=true:=by
    intro i;induction i using Nat.strongRecOn with
    | _ i ih =>
     intro hi;cases hl:listed.getD i true with
     | true=>rfl
     | false =>
      exfalso;have ho:ops[i]?=some ops[i]:=GX hi;have hmem:i∈Hw .any ops listed:=by
       unfold Hw;rw [HP];refine⟨List.mem_range.2 hi,?_⟩
       rw [hl,ho];simp only [Ie,Bool.true_and,Ic,HL,Array.all_eq_true_iff_forall_mem,Ht];intro e he;cases hb:Hj .any e
       ·exact .inl rfl
       right
       have h1:=(hedge i _ ho).1 e he hb;have h2:=ih e.on h1 (by omega);have h3:e.on<listed.size:=by omega
       rw [GN,GX h3] at h2 ⊢;exact h2
      rw [hr] at hmem;cases hmem
   unfold left;rw [List.map_eq_nil_iff,List.filter_eq_nil_iff];rintro⟨o,i⟩ hp;have hi:=Hg hp;simp only [Hd,Bool.not_eq_false];exact all i (by simpa using hi)
  induction fuel with
  | zero =>
   intro listed F O a w δ hsz hcl hl hI hV hg;have h0:left ops.toList listed=[]:=HE (by omega);rw [h0] at hg;refine⟨?_,hQ a w ⟨⟨F,O,δ,hI,hg⟩,hV⟩⟩
   cases hr:Hw .any ops listed with
   | nil=>rfl
   | cons i rest =>
    exfalso;obtain⟨o,ho,hn,_⟩:=ready_mem listed i (by rw [hr];simp);have hi:i<ops.size:=(Hb.1 ho).1;have:=(tZ (l:=ops.toList) (by simpa using ho) hn (by omega)).1;rw [h0] at this;simp at this
  | succ fuel ihf =>
   intro listed F O a w δ hsz hcl hl hI hV hg;refine⟨fun hr=>?_,fun i hi=>?_⟩
   ·rw [empty listed hsz hr] at hg
    exact hQ a w ⟨⟨F,O,δ,hI,hg⟩,hV⟩
   ·obtain⟨o,ho,hn,hed⟩:=ready_mem listed i hi
    have hilt:i<ops.size:=(Hb.1 ho).1;obtain⟨e1,e2⟩:=tZ (l:=ops.toList) (by simpa using ho) hn (by omega);rw [e1] at hg hl;have hfront:∀q∈(((ops.toList.take i).zipIdx.filter fun p=>!listed.getD p.2 true).map (·.1)),vR c ops.toList q o=true:=by
     intro q hq
     ·simp only [List.mem_map,HP] at hq
      obtain⟨⟨q',j⟩,⟨hm1,hm2⟩,rfl⟩:=hq;have hj:=Hg hm1;rw [HJ] at hj;have hget:ops[j]?=some q':=by
       have:=List.mem_zipIdx_iff_getElem?.1 hm1;simp only at this;rw [HK (by omega)] at this;simpa using this
      rcases(hedge i o ho).2 j q' (by omega) hget with hbf | h
      ·exfalso
       have h3:=tz hcl 3 o hed hbf;simp only [Hd] at hm2;have hjlt:j<listed.size:=by omega
       rw [GN,GX hjlt] at h3 hm2;simp only [HL] at h3 hm2;rw [h3] at hm2;cases hm2
      ·exact h
    ·replace hg:=pq _ _ _ hfront hg
     rw [←e2] at hg;have h:=um hT hS (ops:=ops) (hok o (by simpa using Array.mem_of_getElem? ho)) hI hV hg Q;have ih:∀a w,eN c B X w0 F0 V (fun δ'=>gj c ops.toList (left ops.toList (listed.setIfInBounds i true)) δ' k) r a w→wpAny P .any ops Q fuel (listed.setIfInBounds i true) a w:=by
      rintro a w ⟨⟨F',O',δ',hI',hk'⟩,hV'⟩;exact ihf _ F' O' a w δ' (by simpa using hsz) (FN hcl ho hed) (by rw [e2];simp only [List.length_append,Hy] at hl ⊢;omega) hI' hV' hk'
     unfold wpOp;rw [ho];simp only;split
     ·rename_i hw
      rw [if_pos hw] at h;exact .inl (HX ih h)
     ·rename_i hw
      rw [if_neg hw] at h;exact ih _ _ h
 have hleft:left ops.toList (Ib ops.size false)=ops.toList:=by
  unfold left;rw [List.filter_eq_self.2]
  ·simp
  ·rintro⟨o,i⟩ hp
   have hi:=Hg hp;have hi':i<ops.size:=by simpa using hi
   simp [GN,hi']
 refine main ops.size _ F O a _ δ (by simp) (fun m q _ hm=>?_) ?_ (hI.drawn _) hV ?_
 ·rw [GN,Array.getElem?_replicate] at hm
  split at hm<;>cases hm
 ·rw [hleft];simp
 ·rw [hleft];exact hg
theorem vB (hT:okT P c.T=true) (hS:∀f S,ci c.S f=some S→aw c.G P f S) {ops:Array Oper} (hany:Aj c ops.toList=true) (hm:P.follows .mixedOrders=true) {V:Nat→Value} {Q:Exit→Act→World→Prop} {k:List D→Option Out} {r:Out} (hQ:∀a w,eN c B X w0 F0 V k r a w→Q .normal a w)
  (hok:∀o∈ops.toList,AY c ops.toList o=true) (hI:Inv c B X w0 F0 F O a w δ) (hV:IoV c V a) (hg:gj c ops.toList ops.toList δ k=some r) (id:Nat):(Code.region id ops true).wp P Q a w:=wp_region_any hm (yR hT hS hany hQ hok hI hV hg)
theorem fS:∀(l:List ResultVar) (δ:List D) (k:List D→Option Out),eB c δ l k=(eB c δ l fun rs=>some (.nrm rs)).bind fun o=>match o with
  | .nrm rs=>k rs
  | _=>none
 | [],δ,k=>rfl
 | .tmp t::l,δ,k=>by
  simp only [eB,cG];rw [fS l δ fun rs=>k (nth δ t::rs),fS l δ fun rs=>some (.nrm (nth δ t::rs))];cases h:eB c δ l fun rs=>some (.nrm rs) with
  | none=>rfl
  | some o=>cases o<;>rfl
 | .cell s t::l,δ,k=>by
  simp only [eB];split
  ·rename_i i _
   simp only [cG];cases aX i.agg i.n 0 (nth δ s) with
   | none=>rfl
   | some y =>
    simp only [GQ];rw [fS l δ fun rs=>k (y::rs),fS l δ fun rs=>some (.nrm (y::rs))];cases h:eB c δ l fun rs=>some (.nrm rs) with
    | none=>rfl
    | some o=>cases o<;>rfl
  ·rfl
theorem ph:∀{us:List D} {o:Option Out} {r:Out},usK us o=some r↔(∀u∈us,u ≠ .bad)∧o=some r
 | [],o,r=>by simp [usK]
 | u::us,o,r=>by
  simp only [usK,GK,GU,forall_eq_or_imp];constructor
  ·rintro⟨y,h1,h2⟩
   obtain⟨h3,h4⟩:=ph.1 h2;exact⟨⟨(aQ h1).1,h3⟩,h4⟩
  ·rintro⟨⟨h1,h2⟩,h3⟩
   refine⟨u,?_,ph.2 ⟨h2,h3⟩⟩
   cases u<;>first | rfl | exact absurd rfl h1
theorem gB {δ:List D} {k:Out→Option Out} {r:Out} (h:yC c δ k=some r):∃rs,eB c δ c.res (fun rs=>some (.nrm rs))=some (.nrm rs)∧(∀u∈ae δ c.ios,u ≠ .bad)∧k (.ret rs (ae δ c.ios))=some r:=by
 unfold yC at h;simp only [bk] at h;rw [fS] at h;cases hh:eB c δ c.res fun rs=>some (.nrm rs) with
 | none=>rw [hh] at h;cases h
 | some o =>
  rw [hh] at h;cases o with
  | nrm rs =>
   simp only [GQ] at h;obtain⟨h1,h2⟩:=ph.1 h;exact⟨rs,rfl,h1,h2⟩
  | ext i δ=>cases h
  | ret x y=>cases h
theorem sw {δ:List D} {k:Out→Option Out} {r:Out} {rs:List D} (h1:eB c δ c.res (fun rs=>some (.nrm rs))=some (.nrm rs)) (h2:∀u∈ae δ c.ios,u ≠ .bad) (hk:k (.ret rs (ae δ c.ios))=some r):yC c δ k=some r:=by
 unfold yC;simp only [bk];rw [fS,h1];simp only [GQ];exact ph.2 ⟨h2,hk⟩
def carry (n:Nat) (hl:List Nat) (δ:List D):List D:=af (ug n) hl (ae δ hl)
theorem pR:∀n,ug n=List.replicate n .bad
 | 0=>rfl
 | n+1=>by simp [ug,pR n,List.replicate_succ]
theorem Cb (n s:Nat):nth (ug n) s = .bad:=by
 rw [cJ,pR,GM,List.getElem?_replicate];split<;>rfl
theorem jo (n:Nat) (hl:List Nat) (δ:List D) (k:List D→Option Out):fG n hl (ae δ hl) k=k (carry n hl δ):=by
 unfold fG carry;rw [bF,kV _ _ 0 (by rw [jr];omega),GW]
theorem kX (δ:List D):∀(l:List Nat),ae δ l=l.map (nth δ)
 | []=>rfl
 | _::l=>by simp [ae,kX δ l]
theorem qw {hl:List Nat} {δ:List D} (s:Nat):nth (carry δ.length hl δ) s=if s∈hl then nth δ s else .bad:=by
 unfold carry;rw [kX,jB];have hlen:(ug δ.length).length=δ.length:=by rw [pR];simp
 rw [hlen,Cb];split
 ·split
  ·rfl
  ·rename_i h
   by_cases hb:nth δ s = .bad
   ·exact hb.symm
   ·exact absurd (yN hb) h
 ·rfl
theorem Inv.carry (h:Inv c B X w0 F0 F O a w δ) {hl:List Nat} (hk:jE c.K hl=true):Inv c B X w0 F0 F O a w (carry (gi c.K) hl δ):=by
 have e:gi c.K=δ.length:=by rw [ip,h.ld]
 rw [e];refine h.forget ?_ (fun s=>?_) (fun s r hv hb=>?_)
 ·unfold V.carry;rw [ce,pR];simp
 ·rw [qw]
  split
  ·exact .inl rfl
  ·exact .inr rfl
 ·rw [qw] at hb
  split at hb
  case isFalse=>exact absurd rfl hb
  rename_i hs;unfold jE at hk;rw [Hi] at hk;have hks:=hk s hs;have hr:r∈hl:=by
   rcases hv with e | e<;>rw [e] at hks<;>simpa [eU] using hks
  rw [qw,if_pos hr];exact(h.root hv hb).2
theorem fZ {V:Nat→Value} {k k':List D→Option Out} {r r':Out} (h:eN c B X w0 F0 V k r a w) (hk:∀δ F O,Inv c B X w0 F0 F O a w δ→k δ=some r→k' δ=some r'):eN c B X w0 F0 V k' r' a w:=by
 obtain⟨⟨F,O,δ,h1,h2⟩,h3⟩:=h;exact⟨⟨F,O,δ,h1,hk δ F O h1 h2⟩,h3⟩
theorem rI {V:Nat→Value} {b:Code} {bid:Nat} {hl xl:List Nat} (h1:jE c.K hl=true) (h2:jE c.K xl=true)
  (ih:∀(F:Nat→Prop) (O:Nat→Option (Nat × Nat)) (a:Act) (w:World) (δ:List D),Inv c B X w0 F0 F O a w δ→IoV c V a→∀(k:Out→Option Out) (r:Out),den c bid b δ k=some r→∀Q,(∀e a w,AN c B X w0 F0 V k r e a w→Q e a w)→b.wp P Q a w)
  {k:Out→Option Out} {r:Out} {Q:Exit→Act→World→Prop} (hQ:∀e a w,AN c B X w0 F0 V k r e a w→Q e a w) {o:Out}
  (ho:cH o (fun i s=>fG (gi c.K) xl s fun δ=>k (.ext i δ)) (fun x y=>k (.ret x y))=some r):∀(n:Nat) (F:Nat→Prop) (O:Nat→Option (Nat × Nat)) (a:Act) (w:World) (δ:List D),Inv c B X w0 F0 F O a w δ→IoV c V a →
  iter (fun s=>fG (gi c.K) hl s fun δ=>den c bid b δ (bP hl xl)) n (ae δ hl)=some o→Code.rounds P b Q n a w
 | 0,_,_,_,_,_,_,_,h=>by cases h
 | n+1,F,O,a,w,δ,hI,hV,h=>by
  simp only [iter,jo] at h;rw [rounds_succ];have hI':=hI.carry h1;cases hb:den c bid b (carry (gi c.K) hl δ) (bP hl xl) with
  | none=>rw [hb] at h;cases h
  | some ob =>
   rw [hb] at h;refine ih F O a w _ hI' hV _ ob hb _ (fun e a' w' hp=>?_)
   cases ob with
   | nrm s' =>
    simp only at h;cases e with
    | normal =>
     obtain⟨⟨F',O',δ',g1,g2⟩,g3⟩:=hp;simp only [bP,bk,GS,Out.nrm.injEq] at g2;rw [←g2] at h;exact rI h1 h2 ih hQ ho n F' O' a' w' δ' g1 g3 h
    | exit i =>
     obtain⟨⟨F',O',δ',g1,g2⟩,g3⟩:=hp;simp [bP,bk] at g2
    | ret =>
     obtain⟨⟨F',O',δ',g1,g2⟩,g3⟩:=hp;obtain⟨rs,_,_,g4⟩:=gB g2;simp [bP] at g4
    | _=>exact hp.elim
   | ext i l =>
    simp only [GS] at h;subst h;cases e with
    | normal =>
     obtain⟨⟨F',O',δ',g1,g2⟩,g3⟩:=hp;simp [bP,bk] at g2
    | exit j =>
     obtain⟨⟨F',O',δ',g1,g2⟩,g3⟩:=hp;simp only [bP,bk,GS,Out.ext.injEq] at g2;obtain⟨rfl,rfl⟩:=g2;simp only [cH,jo] at ho;exact hQ (.exit j) _ _ ⟨⟨F',O',_,g1.carry h2,ho⟩,g3⟩
    | ret =>
     obtain⟨⟨F',O',δ',g1,g2⟩,g3⟩:=hp;obtain⟨rs,_,_,g4⟩:=gB g2;simp [bP] at g4
    | _=>exact hp.elim
   | ret x y =>
    simp only [GS] at h;subst h;cases e with
    | normal =>
     obtain⟨⟨F',O',δ',g1,g2⟩,g3⟩:=hp;simp [bP,bk] at g2
    | exit j =>
     obtain⟨⟨F',O',δ',g1,g2⟩,g3⟩:=hp;simp [bP,bk] at g2
    | ret =>
     obtain⟨⟨F',O',δ',g1,g2⟩,g3⟩:=hp;obtain⟨rs,g5,g6,g4⟩:=gB g2;simp only [bP,GS,Out.ret.injEq] at g4;obtain⟨rfl,rfl⟩:=g4;exact hQ .ret _ _ ⟨⟨F',O',δ',g1,sw g5 g6 ho⟩,g3⟩
    | _=>exact hp.elim
theorem gd (hT:okT P c.T=true) (hS:∀f S,ci c.S f=some S→aw c.G P f S) (hm:P.follows .mixedOrders=true) {V:Nat→Value}:∀(b:Code) (bid:Nat),cv c bid b=true→∀(F:Nat→Prop) (O:Nat→Option (Nat × Nat)) (a:Act) (w:World) (δ:List D),
  Inv c B X w0 F0 F O a w δ→IoV c V a→∀(k:Out→Option Out) (r:Out),den c bid b δ k=some r→∀Q,(∀e a w,AN c B X w0 F0 V k r e a w→Q e a w)→b.wp P Q a w
 | .skip,bid,_,F,O,a,w,δ,hI,hV,k,r,hg,Q,hQ=>wp_skip (hQ _ _ _ ⟨⟨F,O,δ,hI,hg⟩,hV⟩)
 | .region id ops d,bid,hok,F,O,a,w,δ,hI,hV,k,r,hg,Q,hQ=>by
  simp only [cv,GO,Hi] at hok;have hq:∀a w,eN c B X w0 F0 V (fun δ=>k (.nrm δ)) r a w→Q .normal a w:=fun a w h=>hQ _ _ _ h
  cases d
  ·exact wp_region_list (oA hT hS hq ops.toList hok.1 F O a w δ hI hV hg)
  ·exact vB hT hS (by simpa using hok.2) hm hq hok.1 hI hV hg id
 | .seq x y,bid,hok,F,O,a,w,δ,hI,hV,k,r,hg,Q,hQ=>by
  simp only [cv,GO] at hok;refine wp_seq (gd hT hS hm x bid hok.1 F O a w δ hI hV _ r hg _ (fun e a' w' hp=>?_))
  cases e with
  | normal =>
   obtain⟨⟨F',O',δ',hI',hk'⟩,hV'⟩:=hp;exact gd hT hS hm y bid hok.2 F' O' a' w' δ' hI' hV' k r hk' Q hQ
  | exit id=>exact hQ _ _ _ hp
  | ret=>exact hQ _ _ _ hp
  | _=>exact hp.elim
 | .cond x t e,bid,hok,F,O,a,w,δ,hI,hV,k,r,hg,Q,hQ=>by
  simp only [cv,GO] at hok;obtain⟨⟨hlv,hok1⟩,hok2⟩:=hok;have hop:=hI.opd (aS.1 hlv);have key:ifD (opD δ x) (den c bid t δ k) (den c bid e δ k)=some r:=by
   simp only [den] at hg;cases x with
   | tmp s=>simpa only [opC,cG,opD] using hg
   | const v=>simpa only [opC,opD] using hg
   | func f=>simpa only [opC,opD] using hg
   | global g=>simp [opC] at hg
  unfold ifD at key;split at key
  ·rename_i hd
   rw [hd] at hop;exact wp_cond_true (aI hop).1 (gd hT hS hm t bid hok1 F O a w δ hI hV k r key Q hQ)
  ·rename_i hd
   rw [hd] at hop;exact wp_cond_false (aI hop).1 (gd hT hS hm e bid hok2 F O a w δ hI hV k r key Q hQ)
  ·cases key
 | .block id b,bid,hok,F,O,a,w,δ,hI,hV,k,r,hg,Q,hQ=>by
  simp only [cv] at hok;refine wp_block (gd hT hS hm b id hok F O a w δ hI hV _ r hg _ (fun e a' w' hp=>?_))
  cases e with
  | normal=>exact hQ .normal _ _ hp
  | exit i =>
   simp only [Exit.inBlock];have hp':eN c B X w0 F0 V (fun δ=>xH id (.ext i δ) k) r a' w':=hp;split
   ·rename_i hi
    refine hQ .normal _ _ (fZ hp' fun δ F O _ h=>?_)
    simp only [xH] at h;rw [ay.2 (by simpa using hi)] at h;exact h
   ·rename_i hi
    refine hQ (.exit i) _ _ (fZ hp' fun δ F O _ h=>?_)
    simp only [xH] at h;cases hb:GT i id
    ·rw [hb] at h;exact h
    ·exact absurd (by simpa using ay.1 hb) hi
  | ret=>exact hQ .ret _ _ hp
  | _=>exact hp.elim
 | .loop b,bid,hok,F,O,a,w,δ,hI,hV,k,r,hg,Q,hQ=>by
  simp only [cv,GO] at hok;obtain⟨hok1,hok2⟩:=hok;simp only [den] at hg;cases hH:ci c.H bid with
  | none=>rw [hH] at hg;cases hg
  | some hx =>
   obtain⟨hl,xl⟩:=hx;rw [hH] at hg hok2;simp only [GO] at hok2;simp only [bk] at hg;obtain⟨o',h1,h2⟩:=GK.1 hg;unfold aY at h1;split at h1
   case isFalse=>cases h1
   rename_i hex;refine wp_loop_rounds (Hq hex) ?_
   refine rI (hl:=hl) (xl:=xl) hok2.1 hok2.2 (fun F O a w δ hI hV k r hg Q hQ=>gd hT hS hm b bid hok1 F O a w δ hI hV k r hg Q hQ) hQ h2 _ F O a w δ hI hV h1
 | .exit id,bid,_,F,O,a,w,δ,hI,hV,k,r,hg,Q,hQ=>wp_exit (hQ _ _ _ ⟨⟨F,O,δ,hI,hg⟩,hV⟩)
 | .ret,bid,_,F,O,a,w,δ,hI,hV,k,r,hg,Q,hQ=>wp_ret (hQ _ _ _ ⟨⟨F,O,δ,hI,hg⟩,hV⟩)
 | .label _,_,hok,_,_,_,_,_,_,_,_,_,_,_,_=>by simp [cv] at hok
 | .goto _,_,hok,_,_,_,_,_,_,_,_,_,_,_,_=>by simp [cv] at hok
 | .scope _,_,hok,_,_,_,_,_,_,_,_,_,_,_,_=>by simp [cv] at hok
end
end Go.V

end
