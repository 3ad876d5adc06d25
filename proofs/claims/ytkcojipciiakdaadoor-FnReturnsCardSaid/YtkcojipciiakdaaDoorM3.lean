/-
  A part of the proof: contracts and plain forms of functions beneath the statement, made small by a program (names shortened, what is not needed left out).
-/
import Derived.Test.YtkcojipciiakdaaDoorRows
import Derived.Test.YtkcojipciiakdaaDoorTie
import Derived.Test.YtkcojipciiakdaaDoorCards
import Derived.Test.YtkcojipciiakdaaDoorM2
import Derived.Below
import Derived.Shelf.Strconv.Itoa3
import Derived.Shelf.Strconv.AtoiAll
import Derived.Lib.AtoiErrMem
import Derived.Shelf.Strings.Cut
import Derived.Shelf.Strings.SplitShaped
import Derived.Shelf.Strings.Prefix
import Derived.Shelf.Strings.OnBuilder
import Derived.Shelf.Strings.FieldsFuncGrows
open Option renaming bind_eq_some_iff → JI, map_eq_some_iff → JK, bind_some → JO, getD_some → KC, map_some → KW
open Bool renaming and_eq_true → JJ, not_eq_true' → JR, or_eq_true → Ko, false_eq_true → Kq, not_false → KY
open List renaming getD_eq_getElem?_getD → JL, mem_cons → JP, drop_zero → JQ, getElem?_cons_zero → JV, snd_lt_of_mem_zipIdx → JY, getElem?_eq_getElem → JZ, all_eq_true → Kb, getD_cons_zero → Ke, map_cons → Kf, eq_nil_of_length_eq_zero → Kh, getElem?_eq_none → Ki, drop_eq_getElem_cons → Kn, length_eq_one_iff → Ks, length_cons → Kt, mem_append_right → Ku, nil_append → Kv, getElem?_eq_some_iff → Ky, cons_append → Kz, length_take → KA, getElem?_take_of_lt → KB, mem_filter → KD, take_append_drop → KF, mapM_cons → KG, filter_congr → KS, map_toArray → KU
open Array renaming getD_eq_getD_getElem? → JM, getElem?_eq_getElem → JU, replicate → Kg, getElem?_toList → Kj, getElem?_setIfInBounds → Kk, toArray_toList → Kl, getElem?_eq_some_iff → Km, getElem?_append_left → Kx
open Option.some renaming injEq → JN, inj → KV
open List.cons renaming injEq → JS
open Nat renaming beq → JT, lt_of_lt_of_le → Kp, le_trans → Kw, zero_add → KM, le_refl → KT, ble → KX
open Classical renaming choose_spec → JW, choose → Ka
open Go.Region renaming wanted → JX, binds → Kc, ready → Kr
open Go.Oper renaming upon_enter → KE, wp_mono → KL
open Go.Calls renaming mono → KH
open Go.Proofs renaming enters_of → KI
open Go.Builtin renaming min2 → KJ, max2 → KK
open Go.Value renaming string → KN
open Go.Lib renaming pow10Tab → KO, TabIs → KP
open Go.Sort renaming grow → KQ
open Go.Act renaming put → KR
set_option maxRecDepth 100000
set_option linter.unusedSimpArgs false
set_option linter.unusedVariables false
noncomputable section
namespace Go.V
open Go.RowKit
set_option maxRecDepth 100000
section
variable {P:Program} {c:Cx} {B:Nat} {X:Nat→Prop} {w0:World} {F0 F:Nat→Prop} {O:Nat→Option (Nat × Nat)} {a:Act} {w:World} {δ:List D}
theorem gi {w w':World} {F F':Nat→Prop} {own own':Nat→Prop} {n:Nat} {d:D} {y:Value} (hF:∀b,F b→F' b) (hw:∀b,F b→w'.heap[b]?=w.heap[b]?)
  (ho:∀g,V.blk y=some g→own g→own' g∧w'.heap[g]?=w.heap[g]?) (h:sY w F own n d y):sY w' F' own' n d y:=by
 obtain⟨l,us,g,e,a1,rfl,a3,a4,a5,a6,a7⟩:=h;exact⟨l,us,g,e,a1,rfl,(ho g rfl a7).2.trans a3,aX hF hw _ _ a4,a5,a6,(ho g rfl a7).1⟩
theorem sY.blk {F:Nat→Prop} {own:Nat→Prop} {n:Nat} {d:D} {y:Value} (h:sY w F own n d y):∀b,V.blk y=some b→own b∧b<w.heap.size:=by
 intro b hb;obtain⟨l,us,g,e,a1,rfl,a3,a4,a5,a6,a7⟩:=h;simp [V.blk] at hb;subst hb;exact⟨a7,(Km.1 a3).1⟩
def oW:List Ag→Nat→Nat→Option Nat
 | [],_,_=>none
 | .io _ q::l,r,i=>if q=r then some i else oW l r (i+1)
 | .d _ _::l,r,i=>oW l r (i+1)
 | .bor _ _::l,r,i=>oW l r (i+1)
theorem nm:∀{l:List Ag} {r i j:Nat},oW l r i=some j→r∈dm l
 | .io _ q::l,r,i,j,h=>by
  simp only [oW] at h;split at h
  ·rename_i e;subst e;simp [dm]
  ·simp [dm,nm h]
 | .d _ _::l,r,i,j,h=>by simpa [dm] using nm (l:=l) h
 | .bor _ _::l,r,i,j,h=>by simpa [dm] using nm (l:=l) h
theorem nL:∀{l:List Ag} {r j:Nat},tG l j=some r→r∈dm l
 | .io _ q::l,r,0,h=>by simp [tG] at h;simp [dm,h]
 | .io _ q::l,r,j+1,h=>by simp only [dm,JP];exact .inr (nL (l:=l) h)
 | .d _ _::l,r,0,h=>by simp [tG] at h
 | .bor _ _::l,r,0,h=>by simp [tG] at h
 | .d _ _::l,r,j+1,h=>by simpa [dm] using nL (l:=l) h
 | .bor _ _::l,r,j+1,h=>by simpa [dm] using nL (l:=l) h
theorem nC {a:Nat} {l:List Nat} (h:iB (a::l)=true):a∉l∧iB l=true:=by
 simp only [iB,ga] at h;split at h
 ·cases h
 ·rename_i h1
  exact⟨by simpa using h1,h⟩
theorem uc:∀{l:List Ag} {r i j:Nat},iB (dm l)=true→tG l j=some r→oW l r i=some (i+j)
 | .io _ q::l,r,i,0,_,h=>by simp [tG] at h;simp [oW,h]
 | .io _ q::l,r,i,j+1,hn,h=>by
  obtain⟨h1,h2⟩:=nC hn;have h3:=nL (l:=l) h;have hne:¬q=r:=fun e=>h1 (by rw [e];exact h3)
  simp only [oW];rw [if_neg hne,uc (l:=l) h2 h];congr 1;omega
 | .d _ _::l,r,i,0,_,h=>by simp [tG] at h
 | .bor _ _::l,r,i,0,_,h=>by simp [tG] at h
 | .d _ _::l,r,i,j+1,hn,h=>by simp only [oW];rw [uc (l:=l) hn h];congr 1;omega
 | .bor _ _::l,r,i,j+1,hn,h=>by simp only [oW];rw [uc (l:=l) hn h];congr 1;omega
def zQ (c:Cx) (a:Act) (δ:List D):List Ag→List Kd→List Operand→Prop
 | [],[],[]=>True
 | .io _ r::l,m::pm,x::xs=>(nth δ r ≠ .bad∧a.eval x=av a r∧((∃z lv io,m = .own z lv true∧an c.K r = .own z lv io∧lv≠1)∨∃n lv io,m = .box n lv true∧an c.K r = .box n lv io∧lv≠1))∧zQ c a δ l pm xs
 | _::l,m::pm,_::xs=>kh m=false∧zQ c a δ l pm xs
 | _,_,_=>False
theorem xe {m:Kd} {pm:List Kd} (h:gY (m::pm)=true):gY pm=true∧(∀z lv,m = .own z lv true→lv≠1)∧∀n lv,m = .box n lv true→lv≠1:=by
 cases m with
 | dat lv =>
  simp only [gY] at h;split at h
  case h_2=>cases h
  exact⟨h,fun _ _ e=>(by cases e),fun _ _ e=>(by cases e)⟩
 | own z lv io =>
  cases io
  ·simp [gY] at h
  simp only [gY] at h;split at h
  case h_2=>cases h
  rename_i h1 h2;exact⟨h,fun _ l e=>by cases e;intro e;subst e;simp at h1,fun _ _ e=>(by cases e)⟩
 | box z lv io =>
  cases io
  ·simp [gY] at h
  simp only [gY] at h;split at h
  case h_2=>cases h
  rename_i h1 h2;exact⟨h,fun _ _ e=>(by cases e),fun _ l e=>by cases e;intro e;subst e;simp at h1⟩
 | _=>simp [gY] at h
theorem DC {K:List Kd} {x:Operand} {m:Kd} {t r:Nat} (h:nB K x m=some (.bor t r)):∃lv,m = .dat lv:=by
 cases m with
 | dat lv=>exact⟨lv,rfl⟩
 | own z lv io =>
  exfalso;cases io
  ·simp [nB] at h
  ·simp only [nB] at h
   repeat (split at h<;>try cases h)
 | box z lv io =>
  exfalso;cases io
  ·simp [nB] at h
  ·simp only [nB] at h
   repeat (split at h<;>try cases h)
 | _=>simp [nB] at h
theorem Hd {K:List Kd} {x:Operand} {m:Kd} {t r:Nat} (h:nB K x m=some (.io t r)):x = .tmp t∧((∃z lv io,m = .own z lv true∧((t=r∧an K t = .own z lv io)∨(an K t = .via r∧an K r = .own z lv io))) ∨
  ∃n lv io,m = .box n lv true∧((t=r∧an K t = .box n lv io)∨(an K t = .ref r∧an K r = .box n lv io))):=by
 cases m with
 | dat lv =>
  exfalso;simp only [nB] at h
  repeat (split at h<;>try cases h)
 | own z lv io =>
  cases io
  ·simp [nB] at h
  ·simp only [nB] at h
   split at h
   case h_2=>cases h
   split at h
   ·rename_i hk
    split at h
    case h_2=>cases h
    rename_i h1 h2;rw [aL] at h1 h2;cases h;exact⟨rfl,.inl ⟨_,_,_,rfl,.inl ⟨rfl,by rw [hk,h1,h2]⟩⟩⟩
   ·rename_i hk
    split at h
    case h_2=>cases h
    rename_i hk2;split at h
    case h_2=>cases h
    rename_i h1 h2;rw [aL] at h1 h2;cases h;exact⟨rfl,.inl ⟨_,_,_,rfl,.inr ⟨hk,by rw [hk2,h1,h2]⟩⟩⟩
   ·cases h
 | box z lv io =>
  cases io
  ·simp [nB] at h
  ·simp only [nB] at h
   split at h
   case h_2=>cases h
   split at h
   ·rename_i hk
    split at h
    case h_2=>cases h
    rename_i h1 h2;rw [aL] at h1 h2;cases h;exact⟨rfl,.inr ⟨_,_,_,rfl,.inl ⟨rfl,by rw [hk,h1,h2]⟩⟩⟩
   ·rename_i hk
    split at h
    case h_2=>cases h
    rename_i hk2;split at h
    case h_2=>cases h
    rename_i h1 h2;rw [aL] at h1 h2;cases h;exact⟨rfl,.inr ⟨_,_,_,rfl,.inr ⟨hk,by rw [hk2,h1,h2]⟩⟩⟩
   ·cases h
 | _=>simp [nB] at h
theorem sb (hI:Inv c B X w0 F0 F O a w δ):∀(xs:List Operand) (pm:List Kd) (ags:List Ag) (ds:List D),gM c.K xs pm=some ags→gY pm=true→bV ags (ah δ (dR ags))=some ds→zQ c a δ ags pm xs
 | [],[],ags,ds,h,_,_=>by
  simp only [gM,JN] at h;subst h;trivial
 | [],_::_,_,_,h,_,_=>by simp [gM] at h
 | _::_,[],_,_,h,_,_=>by simp [gM] at h
 | x::xs,m::pm,ags,ds,h,hpm,hd=>by
  simp only [gM] at h;split at h
  case h_2=>cases h
  rename_i g l hg hl;cases h;obtain⟨hp1,hp2,hp3⟩:=xe hpm;cases g with
  | d y chk =>
   have hnio:kh m=false:=by
    cases m with
    | own z lv io=>cases io<;>first | rfl | (simp only [nB] at hg;repeat (split at hg<;>try cases hg))
    | box z lv io=>cases io<;>first | rfl | (simp only [nB] at hg;repeat (split at hg<;>try cases hg))
    | _=>rfl
   have hd':∃ds',bV l (ah δ (dR l))=some ds':=by
    cases y with
    | tmp t =>
     simp only [app,ah,bV] at hd;split at hd
     ·obtain⟨ds',h1,_⟩:=JK.1 hd
      exact⟨ds',h1⟩
     ·obtain⟨i,_,hd⟩:=JI.1 hd
      obtain⟨ds',h1,_⟩:=JK.1 hd;exact⟨ds',h1⟩
    | const v =>
     simp only [dR,app,bV] at hd;obtain⟨ds',h1,_⟩:=JK.1 hd;exact⟨ds',h1⟩
    | func v =>
     simp only [dR,app,bV] at hd;obtain⟨ds',h1,_⟩:=JK.1 hd;exact⟨ds',h1⟩
    | global v=>simp [bV] at hd
   obtain⟨ds',hd'⟩:=hd';exact⟨hnio,sb hI xs pm l ds' hl hp1 hd'⟩
  | bor t r =>
   have hnio:kh m=false:=by
    obtain⟨lv,e⟩:=DC hg;rw [e];rfl
   have hd':∃ds',bV l (ah δ (dR l))=some ds':=by
    cases htr:JT t r
    ·simp only [dR,htr,ah,bV] at hd
     obtain⟨i,_,hd⟩:=JI.1 hd;obtain⟨ds',h1,_⟩:=JK.1 hd;exact⟨ds',h1⟩
    ·simp only [dR,htr,ah,bV] at hd
     obtain⟨ds',h1,_⟩:=JK.1 hd;exact⟨ds',h1⟩
   obtain⟨ds',hd'⟩:=hd';exact⟨hnio,sb hI xs pm l ds' hl hp1 hd'⟩
  | io t r =>
   obtain⟨rfl,hk⟩:=Hd hg;have main:(nth δ r ≠ .bad∧(t=r∨nth δ t = .ref 0 0))∧∃ds',bV l (ah δ (dR l))=some ds':=by
    cases htr:JT t r
    ·simp only [dR,htr,ah,bV] at hd
     obtain⟨i,hc,hd⟩:=JI.1 hd;obtain⟨i',hc',hd⟩:=JI.1 hd;obtain⟨ds',h1,_⟩:=JK.1 hd;obtain⟨hb,rfl⟩:=bC hc';unfold cY at hc;split at hc
     case h_2=>cases hc
     rename_i hr0;cases hc;exact⟨⟨hb,.inr hr0⟩,ds',h1⟩
    ·have e:=aL.1 htr
     subst e;simp only [dR,htr,ah,bV] at hd;obtain⟨i',hc',hd⟩:=JI.1 hd;obtain⟨ds',h1,_⟩:=JK.1 hd;exact⟨⟨(bC hc').1,.inl rfl⟩,ds',h1⟩
   obtain⟨⟨hb,hre⟩,ds',hd'⟩:=main;refine⟨⟨hb,?_,?_⟩,sb hI xs pm l ds' hl hp1 hd'⟩
   ·rcases hre with e | hr0
    ·rw [e];rfl
    ·rcases hk with ⟨z,lv,io,_,h2⟩ | ⟨n,lv,io,_,h2⟩
     ·rcases h2 with ⟨e,_⟩ | ⟨h3,h4⟩
      ·rw [e];rfl
      ·exact(hI.via h3 (by rw [hr0];simp)).1
     ·rcases h2 with ⟨e,_⟩ | ⟨h3,h4⟩
      ·rw [e];rfl
      ·obtain⟨ii,ff,h5,_,h6⟩:=hI.ref h3 (by rw [hr0];simp)
       rw [hr0] at h5;cases h5;rw [h4] at h6;obtain⟨g0,e1,e2⟩:=h6;rw [cv,e1,e2]
   ·rcases hk with ⟨z,lv,io,h1,h2⟩ | ⟨n,lv,io,h1,h2⟩
    ·refine .inl ⟨z,lv,io,h1,?_,hp2 z lv h1⟩
     rcases h2 with ⟨e,h2⟩ | ⟨_,h2⟩
     ·rw [←e];exact h2
     ·exact h2
    ·refine .inr ⟨n,lv,io,h1,?_,hp3 n lv h1⟩
     rcases h2 with ⟨e,h2⟩ | ⟨_,h2⟩
     ·rw [←e];exact h2
     ·exact h2
def Ji (w':World) (F':Nat→Prop) (k:Kd) (u:D) (y:Value):Prop :=
 u ≠ .bad∧match k with
  | .own z lv _=>lv≠1∧bh w' (FB F' 0 lv) (fun _=>True) z u y
  | .box n lv _=>lv≠1∧sY w' (FB F' 0 lv) (fun _=>True) n u y
  | _=>False
theorem sK {w':World} {F':Nat→Prop}:∀(ags:List Ag) (pm:List Kd) (xs:List Operand) (us:List D),zQ c a δ ags pm xs→kW w' F' pm us (xs.map a.eval) →
  us.length=(dm ags).length∧∀(m r:Nat),(dm ags)[m]?=some r→nth δ r ≠ .bad∧∃u:D,us[m]?=some u∧Ji w' F' (an c.K r) u (av a r)
 | [],[],[],us,_,hu=>by
  cases us with
  | nil=>simp [dm]
  | cons u us=>simp [kW] at hu
 | .io t r::l,m::pm,x::xs,us,h,hu=>by
  obtain⟨⟨h1,h2,h3⟩,h4⟩:=h;simp only [Kf,kW] at hu;have hio:kh m=true:=by rcases h3 with ⟨z,lv,io,rfl,_⟩ | ⟨n,lv,io,rfl,_⟩<;>rfl
  rw [if_pos hio] at hu;cases us with
  | nil=>exact hu.elim
  | cons u us =>
   obtain⟨u1,u2,u3⟩:=hu;obtain⟨g1,g2⟩:=sK l pm xs us h4 u3;refine⟨by simp [dm,g1],fun j q hj=>?_⟩
   cases j with
   | zero =>
    simp only [dm,JV,JN] at hj;subst hj;refine⟨h1,u,rfl,u1,?_⟩
    rw [h2] at u2;have u2:=u2.resolve_left u1;rcases h3 with ⟨z,lv,io,rfl,hk,hlv⟩ | ⟨n,lv,io,rfl,hk,hlv⟩
    ·rw [hk];exact⟨hlv,u2⟩
    ·rw [hk];exact⟨hlv,u2⟩
   | succ j =>
    simp only [dm,List.getElem?_cons_succ] at hj;exact g2 j q hj
 | .d y chk::l,m::pm,x::xs,us,h,hu=>by
  obtain⟨h1,h2⟩:=h;simp only [Kf,kW,h1] at hu;exact sK l pm xs us h2 hu
 | .bor y chk::l,m::pm,x::xs,us,h,hu=>by
  obtain⟨h1,h2⟩:=h;simp only [Kf,kW,h1] at hu;exact sK l pm xs us h2 hu
 | [],[],_::_,_,h,_=>h.elim
 | [],_::_,_,_,h,_=>h.elim
 | .io _ _::_,[],_,_,h,_=>h.elim
 | .io _ _::_,_::_,[],_,h,_=>h.elim
 | .d _ _::_,[],_,_,h,_=>h.elim
 | .d _ _::_,_::_,[],_,h,_=>h.elim
 | .bor _ _::_,[],_,_,h,_=>h.elim
 | .bor _ _::_,_::_,[],_,h,_=>h.elim
theorem BZ (us:List D):∀(ios:List Nat) (j:Nat),j+ios.length≤us.length→qc.go us j ios=(us.drop j).take ios.length
 | [],j,_=>by simp [qc.go]
 | _::l,j,h=>by
  simp only [Kt] at h;simp only [qc.go];rw [BZ us l (j+1) (by omega)];have hj:j<us.length:=by omega
  rw [Kn hj,Kt,List.take_succ_cons,eX,JL,JZ hj];rfl
theorem mj:∀(ss:List Nat) (ds δ:List D) (m s:Nat),iB ss=true→ss[m]?=some s→s<δ.length→nth (ai δ ss ds) s=nth ds m
 | t::ss,[],δ,m,s,hn,hm,hl=>by
  rw [jf _ _ _ (List.mem_of_getElem? hm)]
 | t::ss,d::ds,δ,0,s,hn,hm,hl=>by
  obtain⟨h1,h2⟩:=nC hn;simp at hm;subst hm;simp only [ai];rw [aq _ _ _ _ h1,bL,if_pos hl]
 | t::ss,d::ds,δ,m+1,s,hn,hm,hl=>by
  obtain⟨h1,h2⟩:=nC hn;simp only [ai];rw [mj ss ds _ m s h2 (by simpa using hm) (by rw [fu];exact hl)]
theorem CL {d:Nat} {l:List Nat} (h1:kY d l=false) (h2:iB l=true):iB ([d]++l)=true:=by
 simp only [Kz,Kv,iB,h1];exact h2
theorem xw:∀{l m:List Nat},vb l m=true→∀x∈l,x∉m
 | a::l,m,h,x,hx=>by
  simp only [vb,ga] at h;split at h
  ·cases h
  ·rename_i h1
   rcases JP.1 hx with rfl | hx
   ·simpa using h1
   ·exact xw h x hx
theorem Gf {K:List Kd} {r:Nat} (h:dP K r):r<K.length:=by
 by_cases hd:r<K.length
 ·exact hd
 ·exfalso
  have:∀(K:List Kd) (r:Nat),¬r<K.length→an K r = .no:=by
   intro K;induction K with
   | nil=>intro r _;rfl
   | cons k K ih =>
    intro r hr;cases r with
    | zero=>simp at hr
    | succ r=>exact ih r (by simpa using hr)
  rw [dP,this K r hd] at h;exact h
theorem uz {m:Kd} {pm:List Kd} (h:io0 (m::pm)=true):io0 pm=true∧(∀z lv io,m = .own z lv io→lv=0)∧∀n lv io,m = .box n lv io→lv=0:=by
 cases m with
 | own z lv io =>
  simp only [io0] at h;split at h
  case h_2=>cases h
  rename_i h0;exact⟨h,fun _ _ _ e=>by cases e;exact aL.1 h0,fun _ _ _ e=>(by cases e)⟩
 | box z lv io =>
  simp only [io0] at h;split at h
  case h_2=>cases h
  rename_i h0;exact⟨h,fun _ _ _ e=>(by cases e),fun _ _ _ e=>by cases e;exact aL.1 h0⟩
 | _=>exact⟨by simpa only [io0] using h,fun _ _ _ e=>(by cases e),fun _ _ _ e=>(by cases e)⟩
theorem yO:∀(ags:List Ag) (pm:List Kd) (xs:List Operand),zQ c a δ ags pm xs→io0 pm=true→∀(m r:Nat),(dm ags)[m]?=some r→∀lv,((∃z io,an c.K r = .own z lv io)∨∃n io,an c.K r = .box n lv io)→lv=0
 | [],_,_,_,_,m,r,hm,_,_=>by simp [dm] at hm
 | .io t q::l,m::pm,x::xs,h,h0,j,r,hj,lv,hk=>by
  obtain⟨⟨_,_,h3⟩,h4⟩:=h;obtain⟨g1,g2,g3⟩:=uz h0;cases j with
  | zero =>
   simp only [dm,JV,JN] at hj;subst hj;rcases h3 with ⟨z,lv',io,rfl,hk',_⟩ | ⟨n,lv',io,rfl,hk',_⟩
   ·have:=g2 z lv' true rfl
    subst this;rw [hk'] at hk;rcases hk with ⟨_,_,e⟩ | ⟨_,_,e⟩<;>cases e;rfl
   ·have:=g3 n lv' true rfl
    subst this;rw [hk'] at hk;rcases hk with ⟨_,_,e⟩ | ⟨_,_,e⟩<;>cases e;rfl
  | succ j=>exact yO l pm xs h4 g1 j r (by simpa [dm] using hj) lv hk
 | .d _ _::l,m::pm,x::xs,h,h0,j,r,hj,lv,hk=>yO l pm xs h.2 (uz h0).1 j r (by simpa [dm] using hj) lv hk
 | .bor _ _::l,m::pm,x::xs,h,h0,j,r,hj,lv,hk=>yO l pm xs h.2 (uz h0).1 j r (by simpa [dm] using hj) lv hk
 | .io _ _::_,[],_,h,_,_,_,_,_,_=>h.elim
 | .io _ _::_,_::_,[],h,_,_,_,_,_,_=>h.elim
 | .d _ _::_,[],_,h,_,_,_,_,_,_=>h.elim
 | .d _ _::_,_::_,[],h,_,_,_,_,_,_=>h.elim
 | .bor _ _::_,[],_,h,_,_,_,_,_,_=>h.elim
 | .bor _ _::_,_::_,[],h,_,_,_,_,_,_=>h.elim
theorem lq (hI:Inv c B X w0 F0 F O a w δ) {S:FS} {ags:List Ag} {xs:List Operand} {ds rs us:List D} {F':Nat→Prop} {R:Nat→Option Nat} {vs:List Value} {w':World} {v:Value} {dst:Option Nat} {x:List D}
  (hags:gM c.K xs S.pm=some ags) (hpm:gY S.pm=true) (hds:bV ags (ah δ (dR ags))=some ds) (hnd:iB (dm ags)=true)
  (hbor:eK ags=[]∨(nA S.rm=true∧io0 S.pm=true))
  (hpost:CallPost S (xs.map a.eval).toArray rs us w (fun b=>F b∨∃r∈eK ags,O b=some (r,0)) (fun b=>match O b with
   | some (r,0)=>oW ags r 0
   | _=>none) F' R vs w')
  (hdx:(dst=none∧x=[])∨∃d y,dst=some d∧x=[y]∧kY d (dm ags)=false) (g:Nat→Option (Nat × Nat)) (hg:∀j p,g j=some p→∀d,dst=some d→p.1=d) (hgn:dst=none→∀j,g j=none)
  (hU:∀(F2:Nat→Prop) (O2:Nat→Option (Nat × Nat)),(∀lv b,(eK ags=[]∨lv≤1)→FB F' w.heap.size lv b→FB F2 B lv b)→(∀b j,R b=some j→O2 b=g j∧B≤b∧(g j=none→F2 b))→∀d y,dst=some d→x=[y]→d<δ.length→pM c.K B F2 O2 (a.put dst v) w' d y) :
  ∃F2 O2,Inv c B X w0 F0 F2 O2 (a.put dst v) w' (ai δ (dst.toList++(dm ags++br c.K dst.toList)) (x++us)):=by
 have hB:=hI.bb;have hioA:=sb hI xs S.pm ags ds hags hpm hds;obtain⟨hul,hun⟩:=sK (c:=c) (a:=a) (δ:=δ) ags S.pm xs us hioA (by simpa using hpost.us);have hkeep:∀b,b<w.heap.size→(∀p,O b=some p→p.1∉dm ags)→w'.heap[b]?=w.heap[b]?:=by
  intro b hb hp;refine hpost.keep b hb ?_
  split
  ·rename_i r he
   cases h:oW ags r 0 with
   | none=>rfl
   | some j=>exact absurd (nm h) (hp _ he)
  ·rfl
 have hRn:∀b,b<w.heap.size→R b=none:=fun b hb=>by
  cases h:R b with
  | none=>rfl
  | some j=>have:=(hpost.rn b j h).1;omega
 let F2:Nat→Prop:=fun b=>F b∨(F' b∧w.heap.size≤b)∨∃j,R b=some j∧g j=none
 let O2:Nat→Option (Nat × Nat):=fun b=>match R b with
  | some j=>g j
  | none=>O b
 have hO2n:∀b,R b=none→O2 b=O b:=fun b h=>by simp only [O2,h]
 have hO2s:∀b j,R b=some j→O2 b=g j:=fun b j h=>by simp only [O2,h]
 have hOlt:∀b,w.heap.size≤b→O b=none:=fun b hb=>by
  cases h:O b with
  | none=>rfl
  | some p=>have:=(hI.ol b p h).1;omega
 have hlv:∀lv b,(eK ags=[]∨lv≤1)→FB F' w.heap.size lv b→FB F2 B lv b:=by
  intro lv b hbl hb
  match lv,hbl,hb with
  | 0,_,hb=>exact hb.elim
  | 1,_,hb=>exact⟨.inr (.inl hb),Kw hB hb.2⟩
  | n+2,hbl,hb =>
   have he:eK ags=[]:=hbl.resolve_right (by omega);rcases(hpost.fn b hb).1 with h1 | h1
   ·rcases h1 with h1 | ⟨r,hr,_⟩
    ·exact .inl h1
    ·rw [he] at hr;cases hr
   ·exact .inr (.inl ⟨hb,h1⟩)
 have hnd2:iB (dst.toList++dm ags)=true:=by
  rcases hdx with ⟨rfl,_⟩ | ⟨d,y,rfl,_,hm⟩
  ·exact hnd
  ·exact CL hm hnd
 have hlen:(x++us).length=(dst.toList++dm ags).length:=by
  rcases hdx with ⟨rfl,rfl⟩ | ⟨d,y,rfl,rfl,_⟩<;>simp [hul]
 have hlt:∀r,dP c.K r→r<δ.length:=fun r hr=>by
  rw [hI.ld];exact Gf hr
 have hgetio:∀(m r:Nat),(dm ags)[m]?=some r→dP c.K r→nth (ai δ (dst.toList++dm ags) (x++us)) r=nth us m:=by
  intro m r hm hr;rcases hdx with ⟨rfl,rfl⟩ | ⟨d,y,rfl,rfl,_⟩
  ·exact mj _ _ _ m r hnd (by simpa using hm) (hlt r hr)
  ·have:=mj (δ:=δ) ([d]++dm ags) ([y]++us) (m:=m+1) (s:=r) hnd2 (by simpa using hm) (hlt r hr)
   simpa [nth] using this
 have hrootIo:∀(m r:Nat),(dm ags)[m]?=some r→dP c.K r:=by
  intro m r hm;obtain⟨_,u,_,hn⟩:=hun m r hm;obtain⟨_,hn⟩:=hn;unfold dP;generalize an c.K r=kk at hn;cases kk<;>first | exact hn.elim | trivial
 refine⟨F2,O2,hI.many hlen (by cases dst<;>simp [KR]) (by cases dst<;>rfl) (fun s hs=>?_) (fun r hr _ hb=>?_) (fun s hs=>?_) (fun _ hb=>.inl hb) (fun b hb=>?_) (fun b p hp hm=>?_) (fun b hb=>?_) (fun b p hp=>?_) (fun b hb=>?_) hpost.size hpost.os hpost.tape hpost.output (fun b hb hx=>?_)⟩
 ·cases dst with
  | none=>rfl
  | some d=>exact cA fun e=>hs (by simp [e])
 ·obtain⟨m,hm⟩:=List.getElem?_of_mem hr
  obtain⟨_,u,hu,hn⟩:=hun m r hm;rw [hgetio m r hm (hrootIo m r hm),eX,JL,hu];exact hn.1
 ·rcases List.mem_append.1 hs with hs | hs
  ·rcases hdx with ⟨rfl,_⟩ | ⟨d,y,rfl,rfl,_⟩
   ·cases hs
   ·have:s=d:=by simpa using hs
    subst this;by_cases hsl:s<δ.length
    ·have e:=mj (δ:=δ) ([s]++dm ags) ([y]++us) (m:=0) (s:=s) hnd2 rfl hsl
     simp only [Option.toList_some] at e ⊢;rw [e];exact hU F2 O2 hlv (fun b j hj=>⟨hO2s b j hj,Kw hB (hpost.rn b j hj).1,fun hn=>.inr (.inr ⟨j,hj,hn⟩)⟩) s y rfl rfl hsl
    ·refine .inl ?_
     have:∀(l:List D) (n:Nat),¬n<l.length→nth l n = .bad:=fun l n h=>by
      rw [eX,JL,Ki (by omega)];rfl
     exact this _ _ (by rw [cN];exact hsl)
  ·have hs':=hs
   obtain⟨m,hm⟩:=List.getElem?_of_mem hs;have hr:=hrootIo m s hm;obtain⟨hb,u,hu,hn⟩:=hun m s hm;rw [hgetio m s hm hr,eX,JL,hu];have hav:av (a.put dst v) s=av a s:=by
    cases dst with
    | none=>rfl
    | some d =>
     refine cA ?_
     rcases hdx with ⟨h,_⟩ | ⟨d',y,h,_,hm'⟩
     ·cases h
     ·cases h
      rintro rfl;rw [ga] at hm';exact(of_decide_eq_false hm') hs'
   refine .inr ?_
   obtain⟨hn1,hn2⟩:=hn;have hbl:∀lv,lv≠1→(eK ags=[]∨lv≤1)→∀b,FB F' 0 lv b→FB F2 B lv b:=by
    intro lv h1 h2 b hb;refine hlv lv b h2 ?_
    match lv,h1 with
    | 0,_=>exact hb
    | n+2,_=>exact hb
   have hlv1:∀lv,(∃z io,an c.K s = .own z lv io)∨(∃n io,an c.K s = .box n lv io)→eK ags=[]∨lv≤1:=by
    intro lv hk;rcases hbor with h | ⟨_,h0⟩
    ·exact .inl h
    ·right
     have:=yO ags S.pm xs hioA h0 m s hm lv hk;omega
   generalize hks:an c.K s=kk at hn2;cases kk with
   | own z lv io =>
    refine .inr ?_
    obtain⟨h1,h2⟩:=hn2;rw [hav];have hown:=(hI.own hks hb).blk;exact cI (hbl lv h1 (hlv1 lv (.inl ⟨z,io,hks⟩))) (fun _ _=>rfl) (fun b hbk _=>⟨⟨(hO2n b (hRn b (hown b hbk).2)).trans (hown b hbk).1.1,(hown b hbk).1.2⟩,rfl⟩) h2
   | box n lv io =>
    refine .inr ?_
    obtain⟨h1,h2⟩:=hn2;rw [hav];have hown:=(hI.box hks hb).blk;exact gi (hbl lv h1 (hlv1 lv (.inr ⟨n,io,hks⟩))) (fun _ _=>rfl) (fun b hbk _=>⟨⟨(hO2n b (hRn b (hown b hbk).2)).trans (hown b hbk).1.1,(hown b hbk).1.2⟩,rfl⟩) h2
   | _=>exact hn2.elim
 ·exact hkeep b (hI.fl b hb).1 fun p hp=>by rw [(hI.fl b hb).2] at hp;cases hp
 ·have hb:=(hI.ol b p hp).1
  exact⟨(hO2n b (hRn b hb)).trans hp,hkeep b hb fun q hq=>by rw [hp] at hq;cases hq;exact fun hm'=>hm (Ku _ hm')⟩
 ·rcases hb with hb | hb | ⟨j,hj,hn⟩
  ·obtain⟨h1,h2⟩:=hI.fl b hb
   exact⟨Kp h1 hpost.size,(hO2n b (hRn b h1)).trans h2⟩
  ·obtain⟨_,h1,h2⟩:=hpost.fn b hb.1
   exact⟨h1,(hO2n b h2).trans (hOlt b hb.2)⟩
  ·exact⟨(hpost.rn b j hj).2,(hO2s b j hj).trans hn⟩
 ·cases h:R b with
  | none =>
   rw [hO2n b h] at hp;exact⟨Kp (hI.ol b p hp).1 hpost.size,(hI.ol b p hp).2⟩
  | some j=>exact⟨(hpost.rn b j h).2,.inl (Kw hB (hpost.rn b j h).1)⟩
 ·rcases hb with hb | hb | ⟨j,hj,_⟩
  ·exact .inl hb
  ·exact .inr (Kw hB hb.2)
  ·exact .inr (Kw hB (hpost.rn b j hj).1)
 ·refine hkeep b (Kp hb hB) fun p hp=>?_
  rcases(hI.ol b p hp).2 with h1 | h1
  ·omega
  ·exact absurd h1 hx
theorem AP:∀{ms:List Kd},nA ms=true→∀i lv,(an ms i = .dat lv∨∃z io,an ms i = .own z lv io)→lv≤1
 | [],_,i,lv,hk=>by simp [an] at hk
 | m::ms,h,i,lv,hk=>by
  have:(∀l,m = .dat l→l≤1)∧(∀z l io,m = .own z l io→l≤1)∧nA ms=true:=by
   cases m with
   | dat a =>
    simp only [nA] at h;split at h
    case h_2=>cases h
    rename_i e;exact⟨fun l e'=>by cases e';exact bI.1 e,fun _ _ _ e=>(by cases e),h⟩
   | own z a io =>
    simp only [nA] at h;split at h
    case h_2=>cases h
    rename_i e;exact⟨fun _ e=>(by cases e),fun _ l _ e'=>by cases e';exact bI.1 e,h⟩
   | _=>simp [nA] at h
  obtain⟨h1,h2,h3⟩:=this;cases i with
  | zero =>
   simp only [an] at hk;rcases hk with hk | ⟨z,io,hk⟩
   ·exact h1 lv hk
   ·exact h2 z lv io hk
  | succ i=>exact AP h3 i lv hk
theorem BH {o:Oper} {q:Call} {f:Nat} (ho:o.op = .call q) (hf:q.callee = .value (.func f)):(execOp a.eval o).run P w=(callFunc f (q.args.map a.eval)).run P w:=by
 simp [execOp,ho,resolve,hf,Deferred.ofValue,Act.eval,invoke]
theorem BK {o:Oper} {q:Call} {t f:Nat} {us:Array Value} (ho:o.op = .call q) (hf:q.callee = .value (.tmp t)) (hv:av a t = .func (.func f) #[] us):(execOp a.eval o).run P w=(callFunc f (q.args.map a.eval++us)).run P w:=by
 have hv':a.eval (.tmp t) = .func (.func f) #[] us:=hv;simp [execOp,ho,resolve,hf,Deferred.ofValue,hv',invoke]
theorem oZ {w:World} {F:Nat→Prop} {ow:Nat→Option Nat}:∀(pm pn:List Kd) (ds cs:List D) (ys us:List Value) (i:Nat),cM w F ow i pm ds ys→cM w F ow (i+pm.length) pn cs us→cM w F ow i (pm++pn) (ds++cs) (ys++us)
 | [],pn,[],cs,[],us,i,_,h=>by simpa using h
 | k::pm,pn,d::ds,cs,y::ys,us,i,h1,h2=>⟨h1.1,oZ pm pn ds cs ys us (i+1) h1.2 (by rw [show i+1+pm.length=i+(k::pm).length by simp;omega];exact h2)⟩
 | [],_,_::_,_,_,_,_,h,_=>h.elim
 | [],_,[],_,_::_,_,_,h,_=>h.elim
 | _::_,_,[],_,_,_,_,h,_=>h.elim
 | _::_,_,_::_,_,[],_,_,h,_=>h.elim
theorem xJ {K:List Kd}:∀(xs:List Operand) (pm:List Kd) (ags:List Ag),gM K xs pm=some ags→pm.length=xs.length
 | [],[],_,_=>rfl
 | x::xs,m::ms,ags,h=>by
  simp only [gM] at h;split at h
  ·rename_i h1 h2
   simp [xJ xs ms _ h2]
  ·cases h
 | [],_::_,_,h=>by simp [gM] at h
 | _::_,[],_,h=>by simp [gM] at h
theorem zA {α:Type}:∀(n:Nat) (l:List α),ve n l=l.take n
 | 0,l=>by simp [ve]
 | n+1,[]=>by simp [ve]
 | n+1,_::l=>by simp [ve,zA n l]
theorem Ck {w:World} {F:Nat→Prop} {ow:Nat→Option Nat}:∀(pn:List Kd) (cs:List D) (us:List Value) (i:Nat),jy pn=true→cs.length=pn.length→cs.all D.single=true→bs w F cs us→cM w F ow i pn cs us
 | [],[],us,i,_,_,_,h=>by
  rw [aJ] at h;subst h;trivial
 | k::pn,d::cs,us,i,hk,hl,hs,h=>by
  obtain⟨v1,v2,rfl,h1,h2⟩:=aw.1 h;simp only [List.all_cons,JJ] at hs;obtain⟨y,rfl,_⟩:=je d v1 hs.1 h1;cases k with
  | dat lv =>
   simp only [jy] at hk;split at hk
   case h_2=>cases hk
   rename_i e;rw [aL] at e;subst e;exact⟨.inr ((gB hs.1).2 h1),Ck pn cs v2 (i+1) hk (by simpa using hl) hs.2 h2⟩
  | _=>simp [jy] at hk
 | [],_::_,_,_,_,hl,_,_=>by simp at hl
 | _::_,[],_,_,_,hl,_,_=>by simp at hl
theorem uW {w:World} {F:Nat→Prop}:∀(pm pn:List Kd) (us:List D) (ys zs:List Value),pm.length=ys.length→jy pn=true→kW w F (pm++pn) us (ys++zs)→kW w F pm us ys
 | [],pn,us,[],zs,_,hn,h=>by
  have:∀(pn:List Kd) (us:List D) (zs:List Value),jy pn=true→kW w F pn us zs→us=[]:=by
   intro pn;induction pn with
   | nil =>
    intro us zs _ h;cases us with
    | nil=>rfl
    | cons u us=>exact h.elim
   | cons k pn ih =>
    intro us zs hk h;cases k with
    | dat lv =>
     cases zs with
     | nil=>cases us<;>exact h.elim
     | cons z zs =>
      simp only [kW,kh,Kq,if_false] at h;simp only [jy] at hk;split at hk
      ·exact ih us zs hk h
      ·cases hk
    | _=>simp [jy] at hk
  have e:=this pn us zs hn (by simpa using h);subst e;trivial
 | k::pm,pn,us,y::ys,zs,hl,hn,h=>by
  simp only [Kz,kW] at h ⊢;split
  ·rename_i hk
   rw [if_pos hk] at h;cases us with
   | nil=>exact h
   | cons u us=>exact⟨h.1,h.2.1,uW pm pn us ys zs (by simpa using hl) hn h.2.2⟩
  ·rename_i hk
   rw [if_neg hk] at h;exact uW pm pn us ys zs (by simpa using hl) hn h
 | [],_,_,_::_,_,hl,_,_=>by simp at hl
 | _::_,_,_,[],_,hl,_,_=>by simp at hl
theorem Do (hS:∀f S,cR c.S f=some S→aF c.G P f S) {o:Oper} {q:Call} {t f:Nat} {S:FS} (ho:o.op = .call q) (hf:q.callee = .value (.tmp t)) (hlk:cR c.S f=some S) {A:Ac} (hA:zM c o.dst t f S q.args.toList=some A) (hI:Inv c B X w0 F0 F O a w δ)
  {k:List D→Option Out} {r:Out} (hg:dq c A δ k=some r) (Q:Exit→Act→World→Prop):o.wp P a w (Next c B X w0 F0 k r) Q:=by
 have hM:=hS f S hlk;unfold zM at hA;split at hA
 case h_2=>cases hA
 rename_i d lt lr hd hkt hrm;split at hA
 case h_2=>cases hA
 rename_i ags l hags hkd;split at hA
 case h_2=>cases hA
 rename_i hlr hlt hpm hdat hio hbor;cases hA;rw [jz,zA] at hags hpm;rw [jz,rj] at hdat;rw [bI] at hlr hlt;simp only [dq,ah] at hg;obtain⟨caps,hc1,hg⟩:=JI.1 hg;rw [fZ] at hg;obtain⟨ds,h1,hg⟩:=JI.1 hg;simp only [Kv] at hg;unfold ao at hg;split at hg
 case h_2=>cases hg
 rename_i rs us h2;unfold Hs at hc1;split at hc1
 case h_2=>cases hc1
 rename_i g0 l0 hclo;split at hc1
 case isFalse=>cases hc1
 rename_i hcc;cases hc1;obtain⟨rfl,hcl,hcs⟩:=hcc;have hbt:nth δ t ≠ .bad:=fun e=>by rw [e] at hclo;cases hclo
 have hst:=(hI.slot t).resolve_left hbt;rw [hkt] at hst;have hrep:=hst.resolve_left hbt;rw [hclo] at hrep;simp only [aT,RepC] at hrep;obtain⟨uv,hav,hru⟩:=hrep;simp only [JS,and_true] at hav;have hpmE:S.pm=S.pm.take q.args.toList.length++S.pm.drop q.args.toList.length:=(KF _ _).symm;have hlenA:=xJ _ _ _ hags;have hFB:∀b,FB F B lt b→F b:=dO;have hargs:=yA (F':=F) (ow:=fun _=>none) hI (fun _ h=>h) q.args.toList _ ags 0 ds hags hpm h1 (fun r hr b hb=>by rw [hbor] at hr;cases hr) (fun j r hj b hb=>by
  have:=nL hj;rw [hio] at this;cases this)
 have hcaps:=Ck (w:=w) (F:=F) (ow:=fun _=>none) (S.pm.drop q.args.toList.length) caps uv (0+(S.pm.take q.args.toList.length).length) hdat (by rw [hcl,jz,jz,rj]) hcs (aX hFB (fun _ _=>rfl) _ _ hru);have hall:=oZ _ _ _ _ _ _ 0 hargs hcaps;rw [←hpmE] at hall;have he:=hM (ds++caps) rs us h2 ((q.args.toList.map a.eval).toArray++uv.toArray) w F (fun _=>none) hI.gl (by simpa using hall) (fun b hb=>⟨(hI.fl b hb).1,rfl⟩) (fun b i hb=>by cases hb) o a (Next c B X w0 F0 k r) Q (fun v w' hp=>?_)
 ·unfold Oper.wp
  rw [BK ho hf hav];have:q.args.map a.eval=(q.args.toList.map a.eval).toArray:=by rw [←KU,Kl]
  rw [this];exact he
 ·obtain⟨F',R,vs,hv,hp⟩:=hp
  have hpost:CallPost {pm:=S.pm.take q.args.toList.length,rm:=S.rm,f:=S.f} (q.args.toList.map a.eval).toArray rs us w (fun b=>F b∨∃r∈eK ags,O b=some (r,0)) (fun b=>match O b with
   | some (r,0)=>oW ags r 0
   | _=>none) F' R vs w':=by
   refine⟨hp.os,hp.tape,hp.output,hp.size,fun b hb _=>hp.keep b hb rfl,fun b hb=>?_,fun b hb=>⟨?_,(hp.fn b hb).2⟩,hp.rn,hp.len,hp.lenD,hp.res,?_⟩
   ·rcases hb with hb | ⟨r,hr,_⟩
    ·exact hp.f0 b hb
    ·rw [hbor] at hr;cases hr
   ·rcases(hp.fn b hb).1 with h | h
    ·exact .inl (.inl h)
    ·exact .inr h
   ·have hu:=hp.us
    rw [hpmE] at hu;simp only [Array.toList_append] at hu;exact uW _ _ _ _ _ (by simpa using hlenA) hdat hu
  have hvl:=hp.len;rw [hrm] at hvl;obtain⟨y,rfl⟩:=Ks.1 hvl;simp only [iw] at hv;subst hv;have hres:=hp.res 0;rw [hrm] at hres;simp only [an,Ke] at hres;have hsz:d<δ.length→av (a.put (some d) v) d=v:=fun h=>dW (by rw [hI.la,←hI.ld];exact h)
  obtain⟨F2,O2,hI'⟩:=lq (S:={pm:=S.pm.take q.args.toList.length,rm:=S.rm,f:=S.f}) (v:=v) (dst:=some d) (x:=[nth rs 0]) hI hags hpm h1 (by simp [hio,iB]) (.inl hbor) hpost (.inr ⟨d,nth rs 0,rfl,rfl,by simp [hio,kY]⟩) (fun _=>none) (fun _ _ h=>by cases h) (fun _ _=>rfl) (fun F2 O2 h4 h5 d' y' e1 e2 h6=>by
   cases e1;simp only [JS,and_true] at e2;subst e2;by_cases hb:nth rs 0 = .bad
   ·exact .inl hb
   ·refine .inr ?_
    rw [hkd,hsz h6];exact .inr (aQ (fun b hb=>jo hlr _ (h4 lr b (.inl hbor) hb)) (fun _ _=>rfl) (hres.resolve_left hb)))
  have hus:us=[]:=by
   have h3:=(sK (c:=c) (a:=a) (δ:=δ) ags _ q.args.toList us (sb hI _ _ _ _ hags hpm h1) (by simpa using hpost.us)).1;rw [hio] at h3;exact Kh h3
  subst hus;refine⟨F2,O2,_,by rw [hd];exact hI',?_⟩
  rw [hio];simpa using hg
theorem BV (hS:∀f S,cR c.S f=some S→aF c.G P f S) {o:Oper} {q:Call} {f:Nat} {S:FS} (ho:o.op = .call q) (hf:q.callee = .value (.func f)) (hlk:cR c.S f=some S) {A:Ac} (hA:qc c o.dst S q.args.toList=some A) (hI:Inv c B X w0 F0 F O a w δ)
  {k:List D→Option Out} {r:Out} (hg:dq c A δ k=some r) (Q:Exit→Act→World→Prop):o.wp P a w (Next c B X w0 F0 k r) Q:=by
 have hM:=hS f S hlk;unfold qc at hA;split at hA
 ·cases hA
 rename_i ags hags;simp only at hA;split at hA
 case h_2=>cases hA
 rename_i hokB hnd hpm;have hbor:eK ags=[]∨(nA S.rm=true∧io0 S.pm=true∧vb (eK ags) (dm ags)=true):=by
  split at hokB
  ·rename_i e;exact .inl e
  ·split at hokB
   ·rename_i h1 h2;exact .inr ⟨h1,h2,hokB⟩
   ·cases hokB
 have hbor':eK ags=[]∨(nA S.rm=true∧io0 S.pm=true):=hbor.imp id fun h=>⟨h.1,h.2.1⟩
 have call:∀(ds rs us:List D),bV ags (ah δ (dR ags))=some ds→S.f ds=some (.ret rs us)→(∀v w' F' R vs,v=iw vs→CallPost S (q.args.toList.map a.eval).toArray rs us w (fun b=>F b∨∃r∈eK ags,O b=some (r,0)) (fun b=>match O b with
   | some (r,0)=>oW ags r 0
   | _=>none) F' R vs w'→Next c B X w0 F0 k r (a.put o.dst v) w')→o.wp P a w (Next c B X w0 F0 k r) Q:=by
  intro ds rs us h1 h2 h3;have hargs:=yA (F':=fun b=>F b∨∃r∈eK ags,O b=some (r,0)) (ow:=fun b=>match O b with
   | some (r,0)=>oW ags r 0
   | _=>none) hI (fun _ h=>.inl h) q.args.toList S.pm ags 0 ds hags hpm h1 (fun r hr b hb=>.inr ⟨r,hr,hb⟩) (fun j r hj b hb=>by simp only [hb];rw [uc hnd hj])
  have he:=hM ds rs us h2 (q.args.toList.map a.eval).toArray w _ _ (As (fun _ h=>Or.inl h) (fun _ _=>rfl) hI.gl) (by simpa using hargs) (fun b hb=>?_) (fun b i hb=>?_) o a (Next c B X w0 F0 k r) Q (fun v w' hp=>?_)
  ·unfold Oper.wp
   rw [BH ho hf];have:q.args.map a.eval=(q.args.toList.map a.eval).toArray:=by rw [←KU,Kl]
   rw [this];exact he
  ·rcases hb with hb | ⟨r',hr,hb⟩
   ·obtain⟨g1,g2⟩:=hI.fl b hb
    exact⟨g1,by simp only [g2]⟩
   ·refine⟨(hI.ol b _ hb).1,?_⟩
    simp only [hb];cases h:oW ags r' 0 with
    | none=>rfl
    | some j =>
     rcases hbor with h0 | ⟨_,_,h0⟩
     ·rw [h0] at hr;cases hr
     ·exact absurd (nm h) (xw h0 r' hr)
  ·split at hb
   ·rename_i r' hr;exact(hI.ol b _ hr).1
   ·cases hb
  ·obtain⟨F',R,vs,h4,h5⟩:=hp
   exact h3 v w' F' R vs h4 h5
 have asm:∀(K:List D→List D→Option Out),fH [] ags (ah δ (dR ags)) (fun ds=>ao (S.f ds) K)=some r→∃ds rs us,bV ags (ah δ (dR ags))=some ds∧S.f ds=some (.ret rs us)∧K rs us=some r:=by
  intro K h;rw [fZ] at h;obtain⟨ds,h1,h2⟩:=JI.1 h;simp only [Kv] at h2;unfold ao at h2;split at h2
  ·rename_i rs us h3
   exact⟨ds,rs,us,h1,h3,h2⟩
  ·cases h2
 have uslen:∀{ds rs us:List D} {F':Nat→Prop} {R:Nat→Option Nat} {vs:List Value} {w':World} {F1:Nat→Prop} {ow:Nat→Option Nat},bV ags (ah δ (dR ags))=some ds→CallPost S (q.args.toList.map a.eval).toArray rs us w F1 ow F' R vs w'→qc.outs us (dm ags)=us:=by
  intro ds rs us F' R vs w' F1 ow h1 h2;have h3:=(sK (c:=c) (a:=a) (δ:=δ) ags S.pm q.args.toList us (sb hI _ _ _ _ hags hpm h1) (by simpa using h2.us)).1;unfold qc.outs;rw [BZ us _ 0 (by omega),JQ,←h3,List.take_length]
 have hlv0:∀i lv,(an S.rm i = .dat lv∨∃z io,an S.rm i = .own z lv io)→eK ags=[]∨lv≤1:=fun i lv hk=>hbor'.imp id fun h=>AP h.1 i lv hk
 split at hA
 ·rename_i hd
  split at hA
  case h_2=>cases hA
  rename_i hrm;cases hA;obtain⟨ds,rs,us,h1,h2,h3⟩:=asm _ hg;refine call ds rs us h1 h2 (fun v w' F' R vs hv hp=>?_)
  obtain⟨F2,O2,hI'⟩:=lq (v:=v) (dst:=none) (x:=[]) hI hags hpm h1 hnd hbor' hp (.inl ⟨rfl,rfl⟩) (fun _=>none) (fun _ _ h=>by cases h) (fun _ _=>rfl) (fun _ _ _ _ _ _ h=>by cases h);rw [uslen h1 hp] at h3;exact⟨F2,O2,_,by rw [hd];exact hI',h3⟩
 ·rename_i d hd
  split at hA
  ·rename_i h1' h2' hrm
   cases hA;obtain⟨ds,rs,us,h1,h2,h3⟩:=asm _ hg;refine call ds rs us h1 h2 (fun v w' F' R vs hv hp=>?_)
   obtain⟨F2,O2,hI'⟩:=lq (v:=v) (dst:=some d) (x:=[.bad]) hI hags hpm h1 hnd hbor' hp (.inr ⟨d,.bad,rfl,rfl,h2'⟩) (fun _=>none) (fun _ _ h=>by cases h) (fun _ _=>rfl) (fun _ _ _ _ d y _ h _=>by
    simp only [JS,and_true] at h;exact .inl h.symm)
   rw [uslen h1 hp] at h3;exact⟨F2,O2,_,by rw [hd];exact hI',h3⟩
  ·rename_i kd h1' h2' hrm
   cases hA;obtain⟨ds,rs,us,h1,h2,h3⟩:=asm _ hg;refine call ds rs us h1 h2 (fun v w' F' R vs hv hp=>?_)
   have hvl:=hp.len;rw [hrm] at hvl;obtain⟨y,rfl⟩:=Ks.1 hvl;simp only [iw] at hv;subst hv;have hres:=hp.res 0;rw [hrm] at hres;simp only [an,Ke] at hres;rw [hrm] at h1';have hlv:=hlv0 0;rw [hrm] at hlv;simp only [an] at hlv;have fin:∀(g:Nat→Option (Nat × Nat)),(∀j p,g j=some p→p.1=d)→(∀(F2:Nat→Prop) (O2:Nat→Option (Nat × Nat)),(∀lv b,(eK ags=[]∨lv≤1)→FB F' w.heap.size lv b→FB F2 B lv b)→(∀b j,R b=some j→O2 b=g j∧B≤b∧(g j=none→F2 b))→d<δ.length→pM c.K B F2 O2 (a.put (some d) v) w' d (nth rs 0)) →
     Next c B X w0 F0 k r (a.put o.dst v) w':=by
    intro g hg' hU;obtain⟨F2,O2,hI'⟩:=lq (v:=v) (dst:=some d) (x:=[nth rs 0]) hI hags hpm h1 hnd hbor' hp (.inr ⟨d,nth rs 0,rfl,rfl,h2'⟩) g (fun j p h d' e=>by cases e;exact hg' j p h) (fun h=>by cases h) (fun F2 O2 h4 h5 d' y' e1 e2 h6=>by
     cases e1;simp only [JS,and_true] at e2;subst e2;exact hU F2 O2 h4 h5 h6)
    rw [uslen h1 hp] at h3;exact⟨F2,O2,_,by rw [hd];exact hI',h3⟩
   have hsz:d<δ.length→av (a.put (some d) v) d=v:=fun h=>dW (by rw [hI.la,←hI.ld];exact h)
   by_cases hb:nth rs 0 = .bad
   ·exact fin (fun _=>none) (fun _ _ h=>by cases h) (fun _ _ _ _ _=>.inl hb)
   have hres:=hres.resolve_left hb;cases kd with
   | dat lv =>
    simp only [AC] at h1';split at h1'
    case h_2=>cases h1'
    rename_i l hkd;rw [bI] at h1';refine fin (fun _=>none) (fun _ _ h=>by cases h) (fun F2 O2 h4 h5 h6=>.inr ?_)
    rw [hkd,hsz h6];exact .inr (aQ (fun b hb=>jo h1' _ (h4 lv b (hlv lv (.inl rfl)) hb)) (fun _ _=>rfl) hres)
   | own z lv io =>
    cases io
    case true =>
     simp only [AC] at h1';split at h1'
     ·simp [eW] at h1'
     ·cases h1'
    simp only [AC] at h1';have hlv':=hlv lv (.inr ⟨z,false,rfl⟩);rcases mi h1' with ⟨l,hkd,hle⟩ | ⟨l,hkd,h1l,hle⟩
    ·refine fin (fun _=>some (d,0)) (fun _ _ h=>by cases h;rfl) (fun F2 O2 h4 h5 h6=>.inr ?_)
     rw [hkd,hsz h6];exact .inr (cI (fun b hb=>jo hle _ (h4 lv b hlv' hb)) (fun _ _=>rfl) (fun b _ hb=>⟨⟨(h5 b 0 hb.1).1,fun _=>(h5 b 0 hb.1).2.1⟩,rfl⟩) hres)
    ·refine fin (fun _=>none) (fun _ _ h=>by cases h) (fun F2 O2 h4 h5 h6=>.inr ?_)
     rw [hkd,hsz h6];refine .inr (aQ (fun b hb=>?_) (fun _ _=>rfl) (jh hres))
     rcases hb with hb | ⟨hb1,hb2⟩
     ·exact jo hle _ (h4 lv b hlv' hb)
     ·obtain⟨_,g2,g3⟩:=h5 b 0 hb1
      match l,h1l with
      | 1,_=>exact⟨g3 rfl,g2⟩
      | _+2,_=>exact g3 rfl
   | _=>exact hres.elim
  ·rename_i h1' h2' hn0 hn1
   cases hA;obtain⟨ds,rs,us,h1,h2,h3⟩:=asm _ hg;refine call ds rs us h1 h2 (fun v w' F' R vs hv hp=>?_)
   have hvl:=hp.len;have hfit:∃ns,an c.K d = .tup ns∧eW S.rm ns=true:=by
    unfold AC at h1';split at h1'
    ·rename_i e;exact absurd e (hn1 _)
    ·rename_i e;exact absurd e (hn1 _)
    ·rename_i e;exact absurd e hn0
    ·split at h1'
     ·exact⟨_,‹_›,h1'⟩
     ·cases h1'
   obtain⟨ns,hkd,hsame⟩:=hfit;have hv2:v = .tuple vs.toArray:=by
    rw [hv];unfold iw;split
    ·rename_i y
     exfalso;have:S.rm.length=1:=by rw [←hvl];rfl
     obtain⟨kk,e⟩:=Ks.1 this;exact hn1 _ e
    ·rfl
   obtain⟨F2,O2,hI'⟩:=lq (v:=v) (dst:=some d) (x:=[.tup rs]) hI hags hpm h1 hnd hbor' hp (.inr ⟨d,.tup rs,rfl,rfl,h2'⟩) (fun j=>some (d,j+1)) (fun j p h d' e=>by cases e;cases h;rfl) (fun h=>by cases h) (fun F2 O2 h4 h5 d' y' e1 e2 h6=>by
    cases e1;simp only [JS,and_true] at e2;subst e2;refine .inr ?_
    rw [hkd,dW (by rw [hI.la,←hI.ld];exact h6),hv2];refine⟨rs,vs.toArray,rfl,rfl,fun i=>?_⟩
    obtain⟨e1,e2⟩:=sy hsame i;rw [e1];have hgd:vs.toArray.getD i undef=vs.getD i undef:=by simp
    rw [hgd];rcases hp.res i with hb | hres
    ·exact .inl hb
    rcases e2 with e2 | ⟨lv,e2⟩ | ⟨z,lv,e2⟩
    ·rw [e2] at hres;exact hres.elim
    ·rw [e2] at hres ⊢
     exact .inr (aQ (fun b hb=>h4 lv b (hlv0 i lv (.inl e2)) hb) (fun _ _=>rfl) hres)
    ·rw [e2] at hres ⊢
     exact .inr (cI (fun b hb=>h4 lv b (hlv0 i lv (.inr ⟨z,false,e2⟩)) hb) (fun _ _=>rfl) (fun b _ hb=>⟨⟨(h5 b i hb.1).1,fun _=>(h5 b i hb.1).2.1⟩,rfl⟩) hres))
   rw [uslen h1 hp] at h3;exact⟨F2,O2,_,by rw [hd];exact hI',h3⟩
  ·cases hA
end
end Go.V

namespace Go.V
open Go.RowKit
set_option maxRecDepth 100000
section
variable {P:Program} {c:Cx}
theorem ry {o:Oper} {q:Call} (ho:o.op = .call q) {bi:Builtin} (hq:q.callee = .builtin bi) (f:D→D→Option D) (g:Value→Value→Sem Value) (hbi:(bi = .min∧f=CM∧g=KJ)∨(bi = .max∧f=Dl∧g=KK))
  {A:Ac} (hA:bD c o.dst q.args.toList 0 (vd f)=some A) {B:Nat} {X:Nat→Prop} {w0:World} {F0 F:Nat→Prop} {O:Nat→Option (Nat × Nat)} {a:Act} {w:World} {δ:List D} (hI:Inv c B X w0 F0 F O a w δ) {k:List D→Option Out} {r:Out} (hg:dq c A δ k=some r) (Q:Exit→Act→World→Prop):o.wp P a w (Next c B X w0 F0 k r) Q:=by
 rcases hbi with ⟨rfl,rfl,rfl⟩ | ⟨rfl,rfl,rfl⟩
 ·refine tk ho hq rfl (f:=CM) (g:=KJ) (fun w G a b z x y ha hb h=>Gm ha hb h) (fun x rest v he hr=>?_) hA hI hg Q
  simp [builtin,Builtin.min_,he,hr]
 ·refine tk ho hq rfl (f:=Dl) (g:=KK) (fun w G a b z x y ha hb h=>GI ha hb h) (fun x rest v he hr=>?_) hA hI hg Q
  simp [builtin,Builtin.max_,he,hr]
theorem De (hT:okT P c.T=true) (hS:∀f S,cR c.S f=some S→aF c.G P f S) (o:Oper):gN P c o:=by
 intro A hA B X w0 F0 F O a w δ hI k r hg Q;have hA0:=hA;unfold cj at hA;split at hA
 case h_1 x ho=>exact Af (.inl ho) hA hI hg Q
 case h_2 x ho=>exact Af (.inr ho) hA hI hg Q
 case h_3 q x y ho=>exact BI ho A hA0 B X w0 F0 F O a w δ hI k r hg Q
 case h_4 t ho=>exact yU hT ho A hA0 B X w0 F0 F O a w δ hI k r hg Q
 case h_5 t x ho=>exact CK ho A hA0 B X w0 F0 F O a w δ hI k r hg Q
 case h_6 t ps ho=>exact AK hT ho A hA0 B X w0 F0 F O a w δ hI k r hg Q
 case h_7 t n ps ho=>exact su hT ho A hA0 B X w0 F0 F O a w δ hI k r hg Q
 case h_8 t p ho=>exact AZ hT ho A hA0 B X w0 F0 F O a w δ hI k r hg Q
 case h_9 t p x ho=>exact zB hT ho A hA0 B X w0 F0 F O a w δ hI k r hg Q
 case h_10 x ho=>exact vA ho A hA0 B X w0 F0 F O a w δ hI k r hg Q
 case h_11 op t x y _ ho=>exact AM hT ho A hA0 B X w0 F0 F O a w δ hI k r hg Q
 case h_12 op t x ho=>exact AY ho A hA0 B X w0 F0 F O a w δ hI k r hg Q
 case h_13 s t x ho=>exact we hT ho A hA0 B X w0 F0 F O a w δ hI k r hg Q
 case h_14 f u v ho=>exact uD ho A hA0 B X w0 F0 F O a w δ hI k r hg Q
 case h_15 t n m ho=>exact tQ hT ho A hA0 B X w0 F0 F O a w δ hI k r hg Q
 case h_16 t x lo hi ho =>
  have hA1:=ay hA;clear hA;obtain⟨i,hi',hA⟩:=hA1;have main:∀(hsl:i.str=false→jB i=true),AJ c o.dst i x lo hi=some A→o.wp P a w (Next c B X w0 F0 k r) Q:=by
   intro hsl hA;have hA2:=hA;unfold AJ at hA2;split at hA2
   case h_2=>cases hA2
   rename_i q;split at hA2
   ·rename_i lv hk;exact tI hT ho hi' hsl hk hA hI hg Q
   ·exact mF hT ho hi' hsl hA2 hI hg Q
   ·exact mF hT ho hi' hsl hA2 hI hg Q
   ·cases hA2
  split at hA
  ·rename_i h1 h2;exact main (fun _=>h1) hA
  ·rename_i h1 h2;exact main (fun h=>by rw [h] at h2;cases h2) hA
  ·cases hA
 case h_17 t x f ho=>exact tB hT ho A hA0 B X w0 F0 F O a w δ hI k r hg Q
 case h_18 t x f ho=>exact zP hT ho A hA0 B X w0 F0 F O a w δ hI k r hg Q
 case h_19 t x i ho=>exact tL hT ho A hA0 B X w0 F0 F O a w δ hI k r hg Q
 case h_20 t x i ho=>exact yQ hT ho A hA0 B X w0 F0 F O a w δ hI k r hg Q
 case h_21 x i ho=>exact wZ ho A hA0 B X w0 F0 F O a w δ hI k r hg Q
 case h_22 q ho =>
  unfold CO at hA;split at hA
  ·rename_i x t hq h1 h2
   have hA1:=ay hA;clear hA;obtain⟨i,hi,hA⟩:=hA1;have eq:q={callee:=.builtin .len,args:=#[x],argTypes:=#[t]}:=by
    obtain⟨cl,ar,ty⟩:=q;simp only at hq h1 h2;subst hq;congr
    ·rw [←Kl (xs:=ar),h1]
    ·rw [←Kl (xs:=ty),h2]
   rw [eq] at ho;split at hA
   ·rename_i g1 g2
    exact uY hT ho hi (fun _=>g1) (fun h=>by cases h) hA hI hg Q
   ·rename_i g1 g2
    exact uY hT ho hi (fun h=>by cases h) (fun _=>g2) hA hI hg Q
   ·cases hA
  ·rename_i s x t u hq h1 h2
   split at hA
   case h_2=>cases hA
   rename_i htu;rw [aL] at htu;subst htu;have hA1:=ay hA;clear hA;obtain⟨i,hi,hA⟩:=hA1;have hA1:=ay hA;clear hA;obtain⟨e,he,hA⟩:=hA1;split at hA
   case h_2=>cases hA
   rename_i hsl;exact yN hT ho hq h1 h2 hi he hsl hA hI hg Q
  ·rename_i hq;exact ry ho hq CM KJ (.inl ⟨rfl,rfl,rfl⟩) hA hI hg Q
  ·rename_i hq;exact ry ho hq Dl KK (.inr ⟨rfl,rfl,rfl⟩) hA hI hg Q
  ·rename_i f hq
   split at hA
   case h_2=>cases hA
   rename_i S hlk;exact BV hS ho hq hlk hA hI hg Q
  ·rename_i t hq
   split at hA
   case h_2=>cases hA
   rename_i f hC;split at hA
   case h_2=>cases hA
   rename_i S hlk;exact Do hS ho hq hlk hA hI hg Q
  ·cases hA
 case h_23=>cases hA
def Nt (n:Nat) (f:(List D→Option Out)→Option Out):Prop:=∃o:Option (List D),(∀k,f k=o.bind k)∧∀l,o=some l→l.length=n
def iW:Ac→Prop
 | .one _ _ _=>True
 | .many _ hw cw fn=>∀is,Nt (hw++cw).length (fn is)
theorem fM {n:Nat} {l:List D} (h:l.length=n):Nt n (fun k=>k l):=⟨some l,fun _=>rfl,fun l' e=>by cases e;exact h⟩
theorem kx {n:Nat}:Nt n (fun _=>none):=⟨none,fun _=>rfl,fun _ e=>by cases e⟩
theorem eD {n:Nat} {X:Option D} {f:D→(List D→Option Out)→Option Out} (h:∀y,Nt n (f y)):Nt n (fun k=>X.bind fun y=>f y k):=by
 cases X with
 | none=>exact kx
 | some y=>exact h y
theorem EV {n:Nat} {X:Option (List D)} {f:List D→(List D→Option Out)→Option Out} (h:∀y,Nt n (f y)):Nt n (fun k=>X.bind fun y=>f y k):=by
 cases X with
 | none=>exact kx
 | some y=>exact h y
theorem nP {n:Nat} {is:List D} {i:Nat} {f:D→(List D→Option Out)→Option Out} (h:∀y,Nt n (f y)):Nt n (fun k=>eY is i fun y=>f y k):=by
 simp only [dI];exact h _
theorem DO {n q r:Nat} {is:List D} {f:D→D→List D→(List D→Option Out)→Option Out} (h:∀b p is,Nt n (f b p is)):Nt n (fun k=>goP q r is fun b p is=>f b p is k):=by
 unfold goP;cases JT q r
 ·rcases is with _ | ⟨p,_ | ⟨b,is⟩⟩
  ·exact kx
  ·exact kx
  ·exact h _ _ _
 ·cases is with
  | nil=>exact kx
  | cons b is=>exact h _ _ _
theorem Ej {n m:Nat} {chk:Bool} {b p y:D} {f:D→(List D→Option Out)→Option Out} (h:∀y,Nt n (f y)):Nt n (fun k=>stK chk m b p y fun b=>f b k):=by
 unfold stK;cases chk
 ·exact eD h
 ·exact eD fun _=>eD h
theorem yd {n:Nat} {rd:List Nat} {is:List D} {f:D→(List D→Option Out)→Option Out} (h:∀y,Nt n (f y)):Nt n (fun k=>gU rd is fun y=>f y k):=by
 unfold gU;rcases rd with _ | ⟨a,_ | ⟨b,rd⟩⟩
 ·exact h _
 ·exact nP h
 ·exact nP fun p=>nP fun x=>eD h
theorem ER {n:Nat} {ags:List Ag} {is:List D} {f:List D→(List D→Option Out)→Option Out} (h:∀y,Nt n (f y)):Nt n (fun k=>fH [] ags is fun y=>f y k):=by
 simp only [fZ,Kv];cases bV ags is with
 | none=>exact kx
 | some y=>exact h y
theorem Cq {n:Nat} {r:Option Out} {f:List D→List D→(List D→Option Out)→Option Out} (h:∀y z,Nt n (f y z)):Nt n (fun k=>ao r fun y z=>f y z k):=by
 unfold ao;split
 ·exact h _ _
 ·exact kx
theorem bv {dst:Option Nat} {xs:List Operand} {lv:Nat} {h:List D→Option D} {A:Ac} (hA:bD c dst xs lv h=some A):iW A:=by
 unfold bD at hA
 repeat' (split at hA)
 all_goals first | (cases hA;done) | (cases hA;trivial)
theorem CP {rd:List Nat} {d lv l:Nat} {h:List D→Option D} {A:Ac} (hA:GR (fun h=>Ac.one rd d h) (xH lv l h)=some A):iW A:=by
 unfold xH at hA
 repeat' (split at hA)
 all_goals first | (cases hA;done) | (cases hA;trivial)
theorem zK {dst:Option Nat} {x:Operand} {t:Nat} {A:Ac} (hA:yZ c dst x t=some A):iW A:=by
 unfold yZ at hA
 repeat' (split at hA)
 all_goals first
  | (cases hA;done)
  | exact bv hA
  | (cases hA;trivial)
  | (cases hA;exact fun is=>nP fun x=>fM rfl)
  | (cases hA;exact fun is=>nP fun p=>nP fun x=>eD fun y=>fM rfl)
  | (cases hA;exact fun is=>fM rfl)
  | (obtain⟨i,_,hA⟩:=ay hA;exact bv hA)
theorem Fq {dst:Option Nat} {i:TI} {p:Operand} {A:Ac} (hA:Gs c dst i p=some A):iW A:=by
 unfold Gs at hA
 repeat' (split at hA)
 all_goals first | (cases hA;done) | exact bv hA | exact CP hA
theorem DT {i:TI} {p x:Operand} {A:Ac} (hA:Eu c i p x=some A):iW A:=by
 have main:∀q r lv,zU c i q r lv x=some A→iW A:=by
  intro q r lv hA;unfold zU at hA
  repeat' (split at hA)
  all_goals first
   | (cases hA;done)
   | (cases hA;exact fun is=>DO fun b p is=>nP fun y=>Ej fun b=>fM rfl)
   | (cases hA;exact fun is=>DO fun b p is=>Ej fun b=>fM rfl)
 unfold Eu at hA
 repeat' (split at hA)
 all_goals first | (cases hA;done) | exact main _ _ _ hA
theorem EA {dst:Option Nat} {i:TI} {f:Nat} {p:Operand} {A:Ac} (hA:GJ c dst i f p=some A):iW A:=by
 unfold GJ at hA
 repeat' (split at hA)
 all_goals first | (cases hA;done) | exact bv hA | (cases hA;trivial)
theorem DG {dst:Option Nat} {i:TI} {x y:Operand} {A:Ac} (hA:Hh c dst i x y=some A):iW A:=by
 unfold Hh at hA
 repeat' (split at hA)
 all_goals first | (cases hA;done) | exact bv hA | (cases hA;trivial)
theorem Fv {dst:Option Nat} {i:TI} {n:Nat} {ps:List (Nat × Operand)} {A:Ac} (hA:Gl c dst i n ps=some A):iW A:=by
 unfold Gl at hA;simp only at hA
 repeat' (split at hA)
 all_goals first | (cases hA;done) | (cases hA;exact fun is=>eD fun y=>fM rfl)
theorem Fx {n:Nat} {chk:Bool} {b:D} {f:D→(List D→Option Out)→Option Out} (h:∀y,Nt n (f y)):Nt n (fun k=>BT chk b fun b=>f b k):=by
 cases chk
 ·exact h b
 ·exact eD h
theorem Fe {dst:Option Nat} {i:TI} {x y:Operand} {A:Ac} (hA:Fr c dst i x y=some A):iW A:=by
 have main:∀d chk rs rx os,Dw c d i chk rs rx os=some A→iW A:=by
  intro d chk rs rx os hA;unfold Dw at hA
  repeat' (split at hA)
  all_goals first
   | (cases hA;done)
   | (cases hA;exact fun is=>yd fun a=>yd fun b=>Fx fun b=>eD fun y=>fM rfl)
   | (cases hA;exact fun is=>yd fun b=>Fx fun b=>eD fun y=>fM rfl)
 unfold Fr at hA
 repeat' (split at hA)
 all_goals first
  | (cases hA;done)
  | exact main _ _ _ _ _ hA
theorem EL {dst:Option Nat} {str:Bool} {x:Operand} {A:Ac} (hA:CY c dst str x=some A):iW A:=by
 unfold CY at hA
 repeat' (split at hA)
 all_goals first | (cases hA;done) | exact bv hA | (cases hA;trivial)
theorem EN {dst:Option Nat} {i:TI} {x:Operand} {lo hi:Option Operand} {A:Ac} (hA:AJ c dst i x lo hi=some A):iW A:=by
 have own:xu c dst i x lo hi=some A→iW A:=by
  intro hA;unfold xu at hA
  repeat' (split at hA)
  all_goals first | (cases hA;done) | (cases hA;exact fun is=>yd fun a=>eD fun y=>fM rfl)
 unfold AJ at hA
 repeat' (split at hA)
 all_goals first | (cases hA;done) | exact bv hA | exact own hA
theorem Fk {dst:Option Nat} {i e:TI} {x y:Operand} {A:Ac} (hA:GM c dst i e x y=some A):iW A:=by
 unfold GM at hA
 repeat' (split at hA)
 all_goals first | (cases hA;done) | (cases hA;exact fun is=>eD fun y=>fM rfl)
theorem FG {dst:Option Nat} {i:TI} {x:Operand} {A:Ac} (hA:Hb c dst i x=some A):iW A:=by
 unfold Hb at hA
 repeat' (split at hA)
 all_goals first | (cases hA;done) | (cases hA;exact fun is=>eD fun y=>fM rfl) | (cases hA;exact fun is=>eD fun y=>eD fun y=>fM rfl)
theorem Du {dst:Option Nat} {t f:Nat} {S:FS} {xs:List Operand} {A:Ac} (hA:zM c dst t f S xs=some A):iW A:=by
  unfold zM at hA
  repeat' (split at hA)
  all_goals first
    | (cases hA;done)
    | (cases hA;exact fun is=>by
        cases is with
        | nil=>exact kx
        | cons cl is=>exact EV fun caps=>ER fun ds=>Cq fun rs us=>fM rfl)
theorem Ee {dst:Option Nat} {i:TI} {A:Ac} (hA:Gq c dst i=some A):iW A:=by
 unfold Gq at hA
 repeat' (split at hA)
 all_goals first | (cases hA;done) | (cases hA;exact fun is=>fM rfl)
theorem Ei {dst:Option Nat} {x:Operand} {i:Nat} {A:Ac} (hA:Hi c dst x i=some A):iW A:=by
 unfold Hi at hA
 repeat' (split at hA)
 all_goals first | (cases hA;done) | (cases hA;trivial) | (cases hA;exact fun is=>nP fun t=>eD fun y=>fM rfl)
theorem Aa (us:List D):∀(ios:List Nat) (j:Nat),(qc.go us j ios).length=ios.length
 | [],_=>rfl
 | _::l,j=>by simp [qc.go,Aa us l]
theorem EC {dst:Option Nat} {S:FS} {xs:List Operand} {A:Ac} (hA:qc c dst S xs=some A):iW A:=by
 unfold qc at hA;split at hA
 ·cases hA
 simp only at hA;split at hA
 case h_2=>cases hA
 repeat' (split at hA)
 all_goals first
  | (cases hA;done)
  | (cases hA;exact fun is=>ER fun ds=>Cq fun rs us=>fM (by simp [qc.outs,Aa]))
theorem DJ {dst:Option Nat} {i j:TI} {x:Operand} {A:Ac} (hA:GN c dst i j x=some A):iW A:=by
 unfold GN at hA
 repeat' (split at hA)
 all_goals first | (cases hA;done) | exact bv hA | (cases hA;trivial)
theorem DB {dst:Option Nat} {i:TI} {x y:Operand} {A:Ac} (hA:Gi c dst i x y=some A):iW A:=by
 unfold Gi at hA
 repeat' (split at hA)
 all_goals first | (cases hA;done) | exact bv hA | (obtain⟨i,_,hA⟩:=ay hA;exact bv hA)
theorem EZ {dst:Option Nat} {i:TI} {ps:List (Nat × Operand)} {A:Ac} (hA:GL c dst i ps=some A):iW A:=by
 unfold GL at hA;simp only at hA
 repeat' (split at hA)
 all_goals first | (cases hA;done) | exact bv hA
theorem Ez {dst:Option Nat} {x:Operand} {A:Ac} (hA:GC c dst x=some A):iW A:=by
 unfold GC at hA
 repeat' (split at hA)
 all_goals first | (cases hA;done) | exact bv hA | (cases hA;trivial)
theorem Fi {dst:Option Nat} {q:Call} {A:Ac} (hA:CO c dst q=some A):iW A:=by
 unfold CO at hA;split at hA
 ·obtain⟨i,_,hA⟩:=ay hA
  split at hA<;>first | exact EL hA | cases hA
 ·split at hA
  ·obtain⟨i,_,hA⟩:=ay hA
   obtain⟨e,_,hA⟩:=ay hA;split at hA<;>first | exact Fe hA | cases hA
  ·cases hA
 ·exact bv hA
 ·exact bv hA
 ·split at hA<;>first | exact EC hA | cases hA
 ·repeat' (split at hA)
  all_goals first | exact Du hA | cases hA
 ·cases hA
theorem xF {o:Oper} {A:Ac} (hA:cj c o=some A):iW A:=by
 unfold cj at hA;split at hA
 case h_1=>exact zK hA
 case h_2=>exact zK hA
 case h_3=>exact bv hA
 case h_4=>obtain⟨i,_,hA⟩:=ay hA;exact Ee hA
 case h_5=>obtain⟨i,_,hA⟩:=ay hA;exact FG hA
 case h_6=>obtain⟨i,_,hA⟩:=ay hA;exact EZ hA
 case h_7 =>
  obtain⟨i,_,hA⟩:=ay hA;obtain⟨e,_,hA⟩:=ay hA;split at hA<;>first | exact Fv hA | cases hA
 case h_8=>obtain⟨i,_,hA⟩:=ay hA;exact Fq hA
 case h_9 =>
  split at hA
  ·obtain⟨i,_,hA⟩:=ay hA;exact DT hA
  ·cases hA
 case h_10=>exact Ez hA
 case h_11 =>
  obtain⟨i,_,hA⟩:=ay hA;split at hA
  ·exact bv hA
  ·split at hA<;>exact bv hA
 case h_12=>exact bv hA
 case h_13 =>
  obtain⟨i,_,hA⟩:=ay hA;obtain⟨e,_,hA⟩:=ay hA;exact DJ hA
 case h_14=>split at hA<;>first | exact bv hA | cases hA
 case h_15 =>
  obtain⟨i,_,hA⟩:=ay hA;obtain⟨e,_,hA⟩:=ay hA;split at hA<;>first | exact Fk hA | cases hA
 case h_16 =>
  obtain⟨i,_,hA⟩:=ay hA;split at hA<;>first | exact EN hA | cases hA
 case h_17=>obtain⟨i,_,hA⟩:=ay hA;exact EA hA
 case h_18 =>
  obtain⟨i,_,hA⟩:=ay hA;split at hA<;>first | exact bv hA | cases hA
 case h_19=>obtain⟨i,_,hA⟩:=ay hA;exact DG hA
 case h_20=>obtain⟨i,_,hA⟩:=ay hA;exact DB hA
 case h_21=>exact Ei hA
 case h_22=>exact Fi hA
 case h_23=>cases hA
end
end Go.V

namespace Go.V
open Go.RowKit
set_option maxRecDepth 100000
def Bo:Kd→Bool
 | .via _=>false
 | .ref _=>false
 | _=>true
def Dk (c:Cx) (ops:List Oper) (o:Oper):Bool :=
 (match o.dst with
  | some d=>!kh (an c.K d)
  | none=>true) &&
 (match o.guard with
  | none=>true
  | some (j,_)=>(match vE ops j with
    | some g=>(match an c.K g with
     | .dat _=>true
     | _=>false)
    | none=>false) &&
   (match cj c o with
    | some (.one _ d _)=>(match o.dst with
     | some d'=>JT d' d
     | none=>false)
    | some (.many _ hw cw _)=>(hw++cw).all (fun s=>Bo (an c.K s))&&(match o.dst with
     | some d=>kY d hw
     | none=>true)
    | none=>true))
def IoV (c:Cx) (V:Nat→Value) (a:Act):Prop:=∀s,kh (an c.K s)=true→av a s=V s
theorem DZ {P:Program} {o:Oper} {a:Act} {next:Act→World→Prop} {Q:Exit→Act→World→Prop}:∀{res:Result Go.Next},o.upon P a next Q res→o.upon P a (fun a' w'=>next a' w'∧∀s,o.dst≠some s→av a' s=av a s) Q res:=by
 have key:∀(df:List Deferred) (v:Value) (s:Nat),o.dst≠some s→av (({a with defers:=df}:Act).put o.dst v) s=av a s:=by
  intro df v s hs;cases hd:o.dst with
  | none=>rfl
  | some d =>
   have:s≠d:=fun e=>hs (by rw [hd,e])
   exact(cA this).trans rfl
 have key0:∀(v:Value) (s:Nat),o.dst≠some s→av (a.put o.dst v) s=av a s:=fun v s hs=>key a.defers v s hs
 intro res h;cases res with
 | ok n w' =>
  cases n<;>simp only [Oper.upon] at h ⊢ <;>
   first
    | exact⟨h,key0 _⟩
    | exact⟨h,key _ _⟩
    | exact KH h (fun e w'' he=>by cases e<;>first | exact⟨he,key0 _⟩ | exact he)
    | exact Rows.mono h (fun _ _ he=>⟨he,key0 _⟩)
 | halt x w'=>cases x<;>simp only [Oper.upon] at h ⊢<;>exact h
section
variable {P:Program} {c:Cx} {B:Nat} {X:Nat→Prop} {w0:World} {F0 F:Nat→Prop} {O:Nat→Option (Nat × Nat)} {a:Act} {w:World} {δ:List D}
theorem lU:∀(ss:List Nat) (l:List D) (j:Nat),j+ss.length=l.length→fit l j ss=l.drop j
 | [],l,j,h=>by simp [fit,List.drop_eq_nil_of_le (show l.length≤j by simp at h;omega)]
 | s::ss,l,j,h=>by
  simp only [Kt] at h;have hj:j<l.length:=by omega
  simp only [fit];rw [lU ss l (j+1) (by omega),Kn hj,eX,JL,JZ hj];rfl
def sT (K:List Kd) (dst:Option Nat) (δ:List D) (s:Nat):D :=
 match dst with
 | some d=>if kY s (d::eh d K 0) then rG (an K s) else nth δ s
 | none=>nth δ s
theorem qw (K:List Kd) (dst:Option Nat) (δ:List D):∀(ss:List Nat) (k:List D→Option Out),AD K δ dst ss k=k (ss.map (sT K dst δ))
 | [],k=>by simp [AD]
 | s::ss,k=>by
  cases dst with
  | none=>simp only [AD,sT,dI,Kf];exact qw K none δ ss _
  | some d =>
   simp only [AD,Kf];cases h:kY s (d::eh d K 0)
   ·simp only [dI]
    rw [qw K (some d) δ ss];simp only [sT,h,Kq,if_false]
   ·simp only
    rw [qw K (some d) δ ss];simp only [sT,h,if_true]
theorem kG (f:Nat→D):∀(ss:List Nat) (δ:List D) (s:Nat),nth (ai δ ss (ss.map f)) s=if s∈ss then(if s<δ.length then f s else .bad) else nth δ s
 | [],δ,s=>by simp [ai]
 | t::ss,δ,s=>by
  simp only [Kf,ai];rw [kG f ss (eJ δ t (f t)) s,fu];by_cases hs:s∈ss
  ·simp [hs]
  ·by_cases ht:s=t
   ·subst ht
    simp only [hs,if_false,JP,true_or,if_true];exact bL _ _ _
   ·simp only [hs,if_false,JP,ht,or_self]
    exact cX _ _ _ _ ht
theorem Br {δ:List D} {s:Nat} (h:nth δ s ≠ .bad):s<δ.length:=by
 by_cases hl:s<δ.length
 ·exact hl
 ·exfalso
  rw [eX,JL,Ki (by omega)] at h;exact h rfl
theorem GQ {s:Nat} (hs:s<a.tmps.size):pM c.K B F O (a.put (some s) undef) w s (rG (an c.K s)):=by
 have hav:av (a.put (some s) undef) s=undef:=by
  simp [av,KR,hs]
 unfold rG;split
 ·rename_i lv hk
  refine .inr ?_
  simp only [hk];refine .inr ?_
  rw [hav];exact⟨rfl,rfl⟩
 ·exact .inl rfl
theorem Inv.pass_over (h:Inv c B X w0 F0 F O a w δ) {dst:Option Nat} {hw cw:List Nat} (hk:∀s∈hw++cw,Bo (an c.K s)=true) (hd:∀d,dst=some d→d∈hw) :
  Inv c B X w0 F0 F O (a.put dst undef) w (ai δ (hw++(cw++br c.K hw)) ((hw++cw).map (sT c.K dst δ))):=by
 have hav:∀s,dst≠some s→av (a.put dst undef) s=av a s:=by
  intro s hs;cases dst with
  | none=>rfl
  | some d=>exact cA fun e=>hs (by rw [e])
 have hnd:∀s,Bo (an c.K s)=true→∀d,s∉eh d c.K 0:=fun s hs d hm=>by
  rcases oh hm with e | e<;>rw [e] at hs<;>cases hs
 refine h.many (by simp) (by cases dst<;>simp [KR]) (by cases dst<;>rfl) (fun s hs=>hav s fun e=>hs (hd s e)) (fun r hr hn hb=>?_) (fun s hs=>?_) (fun _ hb=>hb) (fun _ _=>rfl) (fun _ _ hp _=>⟨hp,rfl⟩) h.fl h.ol (fun _ hb=>.inl hb) (KT _) rfl rfl rfl (fun _ _ _=>rfl)
 ·rw [kG,if_pos (Ku _ hr),if_pos (Br hb)]
  unfold sT;split
  ·rename_i d
   rw [if_neg]
   ·exact hb
   ·rw [ga]
    simp only [decide_eq_true_eq,JP,not_or];exact⟨fun e=>hn (e ▸ hd d rfl),hnd r (hk r (Ku _ hr)) d⟩
  ·exact hb
 ·rw [kG,if_pos hs]
  split
  case isFalse=>exact .inl rfl
  rename_i hsl;have keep:dst≠some s→pM c.K B F O (a.put dst undef) w s (nth δ s):=by
   intro hne;rcases h.slot s with hb | hb
   ·exact .inl hb
   ·refine .inr ?_
    have hks:=hk s hs;rw [hav s hne];generalize an c.K s=kk at hks hb;cases kk<;>first | exact hb | cases hks
  unfold sT;split
  ·rename_i d
   split
   ·rename_i hm
    rw [ga] at hm;simp only [decide_eq_true_eq,JP] at hm;rcases hm with rfl | hm
    ·exact GQ (by rw [h.la,←h.ld];exact hsl)
    ·rcases oh hm with e | e<;>(rw [e];exact .inl rfl)
   ·rename_i hm
    rw [ga] at hm;simp only [decide_eq_true_eq,JP,not_or] at hm;exact keep fun e=>hm.1 (by cases e;rfl)
  ·exact keep (by simp)
def rdS (c:Cx) (ops:List Oper) (o:Oper):List Nat :=
 match cj c o with
 | none=>[]
 | some A=>match o.guard with
  | none=>Hy A
  | some (j,_)=>match vE ops j with
   | none=>[]
   | some g=>match A with
    | .one rd _ _=>g::rd
    | .many rd hw cw _=>g::(rd++(hw++cw))
def wrS (c:Cx) (o:Oper):List Nat :=
 match cj c o with
 | none=>[]
 | some (.one _ d _)=>d::eh d c.K 0
 | some (.many _ hw cw _)=>hw++(cw++br c.K hw)
theorem jD {δ δ':List D}:∀{ss:List Nat},(∀s∈ss,nth δ s=nth δ' s)→ah δ ss=ah δ' ss
 | [],_=>rfl
 | s::ss,h=>by
  simp only [ah];rw [h s (by simp),jD fun t ht=>h t (by simp [ht])]
theorem xz {δ δ':List D}:∀{ss:List Nat},ah δ ss=ah δ' ss→∀s∈ss,nth δ s=nth δ' s
 | t::ss,h,s,hs=>by
  simp only [ah,JS] at h;rcases JP.1 hs with rfl | hs
  ·exact h.1
  ·exact xz h.2 s hs
theorem oz (c:Cx) (ops:List Oper) (o:Oper):∃φ:List D→Option (List D),(∀δ k,cK c ops o δ k=(φ δ).bind fun l=>k (ai δ (wrS c o) l))∧∀δ δ',ah δ (rdS c ops o)=ah δ' (rdS c ops o)→φ δ=φ δ':=by
 unfold cK rdS wrS;cases hA:cj c o with
 | none=>exact⟨fun _=>none,fun _ _=>rfl,fun _ _ _=>rfl⟩
 | some A =>
  have hn:=xF hA;cases hgd:o.guard with
  | none =>
   cases A with
   | one rd d h =>
    refine⟨fun δ=>(h (ah δ rd)).map fun z=>[z],fun δ k=>?_,fun δ δ' e=>by simp only [Hy] at e;simp only [e]⟩
    simp only [bG];cases h (ah δ rd) with
    | none=>rfl
    | some z=>exact cb _ _ _ _
   | many rd hw cw fn =>
    refine⟨fun δ=>Ka (hn (ah δ rd)),fun δ k=>?_,fun δ δ' e=>by simp only [Hy] at e;simp only [e]⟩
    simp only [bG,cb,jW];exact(JW (hn (ah δ rd))).1 _
  | some jp =>
   obtain⟨j,pol⟩:=jp;simp only;cases hg:vE ops j with
   | none=>exact⟨fun _=>none,fun _ _=>rfl,fun _ _ _=>rfl⟩
   | some g =>
    cases A with
    | one rd d h =>
     refine⟨fun δ=>(ae (rG (an c.K d)) (nth δ g) pol (h (ah δ rd))).map fun z=>[z],fun δ k=>?_,fun δ δ' e=>by simp only [ah,JS] at e;simp only [e.1,e.2]⟩
     simp only [bG,dI];cases ae (rG (an c.K d)) (nth δ g) pol (h (ah δ rd)) with
     | none=>rfl
     | some z=>exact cb _ _ _ _
    | many rd hw cw fn =>
     refine⟨fun δ=>match nth δ g with
      | .v (.bool b)=>if b=pol then Ka (hn (ah δ rd)) else some ((hw++cw).map (sT c.K o.dst δ))
      | .tup _=>some ((hw++cw).map (sT c.K o.dst δ))
      | _=>none,fun δ k=>?_,fun δ δ' e=>?_⟩
     ·simp only [bG,cb,dI,jW,qw]
      unfold dF;split
      ·rename_i b hb
       rw [hb];simp only;split
       ·obtain⟨h1,h2⟩:=JW (hn (ah δ rd))
        rw [h1];cases hc:Ka (hn (ah δ rd)) with
        | none=>rfl
        | some l =>
         have hl:=h2 l hc;simp only [JO];rw [lU _ l 0 (by omega),JQ,lU _ l 0 (by omega),JQ]
       ·simp only [JO]
        rw [lU _ _ 0 (by simp),JQ]
      ·rename_i l hb
       rw [hb];simp only [JO];rw [lU _ _ 0 (by simp),JQ]
      ·rename_i hb hb'
       split
       ·rename_i b hb2;exact absurd hb2 (hb b)
       ·rename_i l hb2;exact absurd hb2 (hb' l)
       ·rfl
     ·simp only [ah,JS,fR] at e
      have e2:=List.append_inj e.2 (by rw [km,km]);have e3:∀s∈hw++cw,nth δ s=nth δ' s:=xz (by rw [fR,fR];exact e2.2);have e4:(hw++cw).map (sT c.K o.dst δ)=(hw++cw).map (sT c.K o.dst δ'):=by
       refine List.map_congr_left fun s hs=>?_
       unfold sT;rw [e3 s hs]
      simp only [e.1,e2.1,e4]
def fQ (c:Cx) (B:Nat) (X:Nat→Prop) (w0:World) (F0:Nat→Prop) (V:Nat→Value) (k:List D→Option Out) (r:Out) (a:Act) (w:World):Prop :=
 Next c B X w0 F0 k r a w∧IoV c V a
theorem vT (hT:okT P c.T=true) (hS:∀f S,cR c.S f=some S→aF c.G P f S) {ops:Array Oper} {o:Oper} (hok:Dk c ops.toList o=true) {V:Nat→Value} (hI:Inv c B X w0 F0 F O a w δ) (hV:IoV c V a) {k:List D→Option Out} {r:Out}
  (hg:cK c ops.toList o δ k=some r) (Q:Exit→Act→World→Prop) :
  if JX o (yielded ops a.tmps) then o.wp P a w (fQ c B X w0 F0 V k r) Q else fQ c B X w0 F0 V k r (a.put o.dst undef) w:=by
 unfold Dk at hok;simp only [JJ] at hok;obtain⟨hdst,hgd⟩:=hok;have hio:∀s,kh (an c.K s)=true→o.dst≠some s:=fun s hs e=>by
  rw [e] at hdst;simp only at hdst;rw [hs] at hdst;cases hdst
 have lift:∀(A:Ac),cj c o=some A→dq c A δ k=some r→o.wp P a w (fQ c B X w0 F0 V k r) Q:=by
  intro A hA hgo;have h:=De hT hS o A hA B X w0 F0 F O a w δ hI k r hgo Q;unfold Oper.wp at h ⊢;refine KL (P:=P) (o:=o) (a:=a) (w:=w) (K:=fun a' w'=>Next c B X w0 F0 k r a' w'∧∀s,o.dst≠some s→av a' s=av a s) (fun a' w' hn=>⟨hn.1,fun s hs=>(hn.2 s (hio s hs)).trans (hV s hs)⟩) ?_
  exact DZ h
 have skipV:IoV c V (a.put o.dst undef):=by
  intro s hs;cases hd:o.dst with
  | none=>exact hV s hs
  | some d=>exact(cA (fun e=>hio s hs (by rw [hd,e]))).trans (hV s hs)
 unfold cK at hg;cases hA:cj c o with
 | none=>rw [hA] at hg;cases hg
 | some A =>
  rw [hA] at hg;simp only at hg;cases hgu:o.guard with
  | none =>
   rw [hgu] at hg;rw [if_pos (by simp [JX,hgu])];refine lift A hA ?_
   cases A with
   | one rd d h =>
    simp only [bG] at hg;obtain⟨z,h1,h2⟩:=JI.1 hg;rw [cb] at h2;simp only [dq,h1,JO];exact h2
   | many rd hw cw fn =>
    simp only [bG,cb,jW] at hg;exact hg
  | some jp =>
   obtain⟨j,pol⟩:=jp;rw [hgu] at hg;rw [hgu,hA] at hgd;simp only [JJ] at hgd;simp only at hg;cases hgs:vE ops.toList j with
   | none=>rw [hgs] at hg;cases hg
   | some g =>
    rw [hgs] at hg hgd;simp only at hgd;obtain⟨hkd,hck⟩:=hgd;have hyield:∀b,nth δ g = .v (.bool b)→yielded ops a.tmps j=some b:=by
     intro b hb;obtain⟨lv,hk⟩:∃lv,an c.K g = .dat lv:=by
      split at hkd
      ·exact⟨_,‹_›⟩
      ·cases hkd
     have hr:=hI.dat hk;rw [hb] at hr;obtain⟨hv,_⟩:=ba hr;have hlt:g<a.tmps.size:=by
      rw [hI.la,←hI.ld];exact Br (by rw [hb];simp)
     have hg1:a.tmps[g]?=some (.bool b):=by
      rw [av,JM,JU hlt] at hv;rw [JU hlt];simpa using hv
     unfold vE at hgs;rw [rc,Kj] at hgs;unfold yielded;cases ho:ops[j]? with
     | none=>rw [ho] at hgs;cases hgs
     | some oj =>
      rw [ho] at hgs;simp only at hgs;simp [hgs,hg1]
    have hyT:∀l,nth δ g = .tup l→yielded ops a.tmps j=none:=by
     intro l hb;obtain⟨lv,hk⟩:∃lv,an c.K g = .dat lv:=by
      split at hkd
      ·exact⟨_,‹_›⟩
      ·cases hkd
     have hr:=hI.dat hk;rw [hb] at hr;have hv:av a g = .tuple #[]:=(hr.rep (by simp)).2;unfold yielded;rw [vE,rc,Kj] at hgs;cases ho:ops[j]? with
     | none=>simp
     | some oj =>
      rw [ho] at hgs;simp only at hgs;simp only [JO,hgs];cases hx:a.tmps[g]? with
      | none=>rfl
      | some x =>
       have:x = .tuple #[]:=by
        rw [←hv,av,JM,hx];rfl
       subst this;rfl
    cases A with
    | one rd d h =>
     simp only [dI,bG] at hg;obtain⟨z,h1,h2⟩:=JI.1 hg;rw [cb] at h2;unfold ae at h1;have skip:z=rG (an c.K d)→fQ c B X w0 F0 V k r (a.put o.dst undef) w:=by
      rintro rfl;refine⟨⟨F,O,_,?_,h2⟩,skipV⟩
      simp only at hck;split at hck
      ·rename_i d' hd'
       rw [aL] at hck;subst hck;rw [hd'];refine hI.put ?_
       unfold rG xj;split
       ·rename_i hkk
        refine .inr ?_
        rw [hkk];exact⟨rfl,rfl⟩
       ·exact .inl rfl
      ·cases hck
     split at h1
     case h_3=>cases h1
     case h_2 =>
      rename_i l hb;have hy:=hyT l hb;rw [if_neg (by simp [JX,hgu,hy])];exact skip (by cases h1;rfl)
     rename_i b hb;have hy:=hyield b hb;split at h1
     ·rename_i hbp
      rw [if_pos (by simp [JX,hgu,hy,hbp])];exact lift _ hA (by simp only [dq,h1,JO];exact h2)
     ·rename_i hbp
      rw [if_neg (by simp [JX,hgu,hy,hbp])];exact skip (by cases h1;rfl)
    | many rd hw cw fn =>
     simp only [dI,bG,qw,jW,cb] at hg;unfold dF at hg;have skip:k (ai δ (hw++(cw++br c.K hw)) (fit ((hw++cw).map (sT c.K o.dst δ)) 0 (hw++cw)))=some r→fQ c B X w0 F0 V k r (a.put o.dst undef) w:=by
      intro hg;rw [lU _ _ 0 (by simp),JQ] at hg;simp only [JJ,Kb] at hck;refine⟨⟨F,O,_,hI.pass_over hck.1 (fun d hd=>?_),hg⟩,skipV⟩
      have h3:=hck.2;rw [hd] at h3;simp only [ga,decide_eq_true_eq] at h3;exact h3
     split at hg
     case h_3=>cases hg
     case h_2 =>
      rename_i l hb;have hy:=hyT l hb;rw [if_neg (by simp [JX,hgu,hy])];exact skip hg
     rename_i b hb;have hy:=hyield b hb;obtain⟨φ,hφ,hlen⟩:=xF hA (ah δ rd);split at hg
     ·rename_i hbp
      rw [if_pos (by simp [JX,hgu,hy,hbp])];refine lift _ hA ?_
      simp only [dq];rw [hφ] at hg ⊢;cases hp:φ with
      | none=>rw [hp] at hg;cases hg
      | some l =>
       rw [hp] at hg;have hl:=hlen l hp;simp only [JO] at hg ⊢;rw [lU _ l 0 (by omega),JQ,lU _ l 0 (by omega),JQ] at hg;exact hg
     ·rename_i hbp
      rw [if_neg (by simp [JX,hgu,hy,hbp])];exact skip hg
theorem pP (hT:okT P c.T=true) (hS:∀f S,cR c.S f=some S→aF c.G P f S) {ops:Array Oper} {V:Nat→Value} {Q:Exit→Act→World→Prop} {k:List D→Option Out} {r:Out} (hQ:∀a w,fQ c B X w0 F0 V k r a w→Q .normal a w) :
  ∀(l:List Oper),(∀o∈l,Dk c ops.toList o=true)→∀(F:Nat→Prop) (O:Nat→Option (Nat × Nat)) (a:Act) (w:World) (δ:List D),Inv c B X w0 F0 F O a w δ→IoV c V a→iE c ops.toList l δ k=some r→wpList P ops Q l a w
 | [],_,F,O,a,w,δ,hI,hV,hg=>hQ a w ⟨⟨F,O,δ,hI,hg⟩,hV⟩
 | o::l,hok,F,O,a,w,δ,hI,hV,hg=>by
  simp only [iE] at hg;have h:=vT hT hS (hok o (by simp)) hI hV hg Q;have ih:∀a w,fQ c B X w0 F0 V (fun δ'=>iE c ops.toList l δ' k) r a w→wpList P ops Q l a w:=by
   rintro a w ⟨⟨F',O',δ',hI',hk'⟩,hV'⟩;exact pP hT hS hQ l (fun o' ho'=>hok o' (by simp [ho'])) F' O' a w δ' hI' hV' hk'
  unfold wpList;split
  ·rename_i hw
   rw [if_pos hw] at h;exact .inl (KL ih h)
  ·rename_i hw
   rw [if_neg hw] at h;exact ih _ _ h
end
end Go.V

namespace Go.V
open Go.RowKit
set_option maxRecDepth 100000
def mW (x y:List Nat):Bool:=x.all fun s=>!kY s y
def Bj (c:Cx) (ops:List Oper) (x y:Oper):Bool:=mW (rdS c ops x) (wrS c y)&&mW (wrS c x) (rdS c ops y)&&mW (wrS c x) (wrS c y)
def yf (c:Cx) (x y:Oper):Bool :=
 match x.guard,y.guard,x.op,x.dst,y.op,y.dst with
 | none,none,.move (.tmp t),some d,.store _ (.tmp q) (.tmp s),none =>
  (match an c.K t,an c.K d,an c.K q,an c.K s with
   | .own _ _ _,.via r,.ref r',.dat _=>JT r t&&JT r' t && !JT q t&&mW (d::eh d c.K 0) [q,t,s]
   | _,_,_,_=>false)
 | _,_,_,_,_,_=>false
def DL (c:Cx) (x y:Oper):Bool :=
 match x.guard,y.guard,x.op,y.op,y.dst with
 | none,none,.call q,.move (.tmp t),some d =>
  (match an c.K t,an c.K d,q.callee with
   | .box _ _ _,.ref r',.value (.func f)=>(match cR c.S f with
    | some S=>(match gM c.K q.args.toList S.pm with
     | some ags=>JT r' t&&kY t (dm ags)
     | none=>false)
    | none=>false)
   | _,_,_=>false)
 | _,_,_,_,_=>false
def BD (c:Cx) (ops:List Oper) (x y:Oper):Bool:=DL c x y&&mW (rdS c ops x) (wrS c y)&&mW (wrS c x) (wrS c y)
def xM (c:Cx) (ops:List Oper) (x y:Oper):Bool:=Bj c ops x y||yf c x y||yf c y x||BD c ops x y
def bef (ops:List Oper) (j:Nat):Nat→Oper→Bool
 | 0,_=>false
 | n+1,o=>o.after.toList.any fun e=>Kc .any e&&(JT e.on j||match Au ops e.on with
  | some q=>bef ops j n q
  | none=>false)
def Cy (c:Cx) (ops:List Oper):Bool :=
 ops.zipIdx.all fun p=>(p.1.after.toList.all fun e=>!Kc .any e||decide (e.on<p.2))&&(ops.take p.2).zipIdx.all fun q=>xM c ops q.1 p.1||bef ops q.2 3 p.1
def kK (K:List Kd) (hl:List Nat):Bool :=
 hl.all fun s=>match an K s with
  | .via r=>kY r hl
  | .ref r=>kY r hl
  | _=>true
def cV (c:Cx):Nat→Code→Bool
 | _,.skip=>true
 | _,.region _ ops d=>ops.toList.all (Dk c ops.toList)&&(!d||Cy c ops.toList)
 | b,.seq x y=>cV c b x&&cV c b y
 | b,.cond x t e=>KX (dA c.K x) 2&&cV c b t&&cV c b e
 | _,.block id x=>cV c id x
 | b,.loop x=>cV c b x&&(match cR c.H b with
  | some (hl,xl)=>kK c.K hl&&kK c.K xl
  | none=>false)
 | _,.exit _=>true
 | _,.ret=>true
 | _,_=>false
section
variable {P:Program} {c:Cx} {B:Nat} {X:Nat→Prop} {w0:World} {F0 F:Nat→Prop} {O:Nat→Option (Nat × Nat)} {a:Act} {w:World} {δ:List D}
def Bf (c:Cx) (δ:List D) (k:Out→Option Out):Option Out:=kM c δ c.res fun rs=>mI δ c.ios fun us=>usK us (k (.ret rs us))
def Da (c:Cx) (B:Nat) (X:Nat→Prop) (w0:World) (F0:Nat→Prop) (V:Nat→Value) (k:Out→Option Out) (r:Out):Exit→Act→World→Prop
 | .normal,a,w=>fQ c B X w0 F0 V (fun δ=>k (.nrm δ)) r a w
 | .exit id,a,w=>fQ c B X w0 F0 V (fun δ=>k (.ext id δ)) r a w
 | .ret,a,w=>fQ c B X w0 F0 V (fun δ=>Bf c δ k) r a w
 | _,_,_=>False
theorem jN {x y:List Nat} (h:mW x y=true):∀s∈x,s∉y:=by
 intro s hs;unfold mW at h;rw [Kb] at h;simpa [ga] using h s hs
theorem FR {δ δ':List D} (h:δ.length=δ'.length) (hn:∀s,nth δ s=nth δ' s):δ=δ':=by
 refine List.ext_getElem h fun i h1 h2=>?_
 have:=hn i;rw [eX,eX,JL,JL,JZ h1,JZ h2] at this;exact this
theorem lW:∀(ss:List Nat) (l δ δ':List D),δ.length=δ'.length→∀s∈ss,nth (ai δ ss l) s=nth (ai δ' ss l) s
 | t::ss,l,δ,δ',hl,s,hs=>by
  cases l with
  | nil=>rw [jf _ _ _ hs,jf _ _ _ hs]
  | cons d l =>
   simp only [ai];by_cases hm:s∈ss
   ·exact lW ss l _ _ (by rw [fu,fu,hl]) s hm
   ·have:s=t:=by simpa [hm] using hs
    subst this;rw [aq _ _ _ _ hm,aq _ _ _ _ hm,bL,bL,hl]
theorem mp {A C:List Nat} {l m δ:List D} (h:∀s∈A,s∉C):ai (ai δ A l) C m=ai (ai δ C m) A l:=by
 refine FR (by simp only [cN]) fun s=>?_
 by_cases hA:s∈A
 ·rw [aq _ _ _ _ (h s hA)]
  exact lW A l _ _ (by rw [cN]) s hA
 ·by_cases hC:s∈C
  ·rw [aq A _ _ _ hA]
   exact(lW C m _ _ (by rw [cN]) s hC)
  ·rw [aq _ _ _ _ hC,aq _ _ _ _ hA,aq _ _ _ _ hA,aq _ _ _ _ hC]
theorem yP {n:Nat} {o p x z:D} (h:stD n o p x=some z):o ≠ .bad∧z ≠ .bad:=by
 unfold stD at h;split at h
 ·split at h
  ·split at h
   ·cases h;exact⟨by simp,by simp⟩
   ·cases h
  ·cases h
 ·split at h
  ·cases h;exact⟨by simp,by simp⟩
  ·cases h
 ·cases h
theorem uO (chk:Bool) (n:Nat) (b p y:D):∃E:Option D,(∀k:D→Option Out,stK chk n b p y k=E.bind k)∧∀z,E=some z→b ≠ .bad∧z ≠ .bad:=by
 cases chk
 ·exact⟨stD n b p y,fun _=>rfl,fun z hz=>yP hz⟩
 ·refine⟨(aV y).bind fun y=>stD n b p y,fun k=>by simp only [stK,Option.bind_assoc],fun z hz=>?_⟩
  obtain⟨y',_,h⟩:=JI.1 hz;exact yP h
theorem Ce {ops:List Oper} {x y:Oper} (h:yf c x y=true) (δ:List D) (k:List D→Option Out):cK c ops x δ (fun δ=>cK c ops y δ k)=cK c ops y δ (fun δ=>cK c ops x δ k):=by
 unfold yf at h;split at h
 case h_2=>cases h
 rename_i t d ty q s hxg hyg hxo hxd hyo hyd;split at h
 case h_2=>cases h
 rename_i z lv io r0 r lv' hkt hkd hkq hks;simp only [JJ,JR] at h;obtain⟨⟨⟨h1,h2⟩,h3⟩,h4⟩:=h;have e1:=aL.1 h1;have e2:=aL.1 h2;subst e1;subst e2;have hx:∀(δ:List D) (k:List D→Option Out),cK c ops x δ k=(aa (nth δ r) (.ref 0 0)).bind fun z=>k (ai δ (d::eh d c.K 0) [z]):=by
  intro δ k;have hA:cj c x=some (.one [r] d fun is=>(fg fun x=>aa x (.ref 0 0)) is):=by
   simp only [cj,hxo,hxd,yZ,hkt,hkd,Nat.beq_refl]
  simp only [cK,hA,hxg];rw [bG];show(aa (nth δ r) (.ref 0 0)).bind (fun z=>dH δ (d::eh d c.K 0) [z] k)=_
  exact congrArg _ (funext fun z=>cb _ _ _ _)
 have hy:∃E:D→D→D→Option D,(∀(δ:List D) (k:List D→Option Out),cK c ops y δ k=(E (nth δ r) (nth δ q) (nth δ s)).bind fun b=>k (ai δ [r] [b]))∧∀a b e z,E a b e=some z→a ≠ .bad∧z ≠ .bad:=by
  cases hT:cR c.T ty with
  | none =>
   refine⟨fun _ _ _=>none,fun δ k=>?_,fun _ _ _ _ h=>by cases h⟩
   have hA:cj c y=none:=by simp only [cj,hyo,hyd,ek,hT]
   simp only [cK,hA];rfl
  | some i =>
   have act:∀chk:Bool,cj c y=some (.many [q,r,s] [] [r] fun is k=>goP q r is fun b p is=>eY is 0 fun y=>stK chk i.n b p y fun b=>k [b]) →
     ∃E:D→D→D→Option D,(∀(δ:List D) (k:List D→Option Out),cK c ops y δ k=(E (nth δ r) (nth δ q) (nth δ s)).bind fun b=>k (ai δ [r] [b]))∧∀a b e z,E a b e=some z→a ≠ .bad∧z ≠ .bad:=by
    intro chk hA;refine⟨fun a b e=>Ka (uO chk i.n a b e),fun δ k=>?_,fun a b e z h=>(JW (uO chk i.n a b e)).2 z h⟩
    simp only [cK,hA,hyg];rw [bG];simp only [goP,h3,ah];show stK chk i.n (nth δ r) (nth δ q) (nth δ s) (fun b=>dH δ [r] [b] k)=_
    rw [(JW (uO chk i.n (nth δ r) (nth δ q) (nth δ s))).1];exact congrArg _ (funext fun b=>cb _ _ _ _)
   have hst:cj c y=zU c i q r (eU c.K r) (.tmp s):=by
    simp only [cj,hyo,hyd,ek,hT,Eu,hkq]
   unfold zU at hst;simp only [hks] at hst;split at hst
   ·exact act false (by rw [hst];simp only [rdP,h3])
   ·exact act true (by rw [hst];simp only [rdP,h3])
   ·refine⟨fun _ _ _=>none,fun δ k=>?_,fun _ _ _ _ h=>by cases h⟩
    simp only [cK,hst];rfl
 obtain⟨E,hE,hEl⟩:=hy;have ap:=fun s hs=>jN h4 s hs
 have hnq:∀m:List D,∀v∈[q,r,s],nth (ai δ (d::eh d c.K 0) m) v=nth δ v:=fun m v hv=>aq _ _ _ _ fun hm=>ap v hm hv
 simp only [hx,hE,hnq _ q (by simp),hnq _ r (by simp),hnq _ s (by simp)];cases hb:E (nth δ r) (nth δ q) (nth δ s) with
 | none=>cases aa (nth δ r) (.ref 0 0)<;>rfl
 | some b =>
  obtain⟨g1,g2⟩:=hEl _ _ _ _ hb;have hlive:∀a:D,a ≠ .bad→aa a (.ref 0 0)=some (.ref 0 0):=fun a ha=>by cases a<;>first | exact absurd rfl ha | rfl
  have hr:nth (ai δ [r] [b]) r=b:=by
   simp only [ai];rw [bL,if_pos];by_cases hl:r<δ.length
   ·exact hl
   ·exfalso
    rw [eX,JL,Ki (by omega)] at g1;exact g1 rfl
  simp only [hlive _ g1,hr,hlive _ g2,JO];rw [mp (A:=d::eh d c.K 0) (C:=[r])];intro v hv hv';exact ap v hv (by simp at hv';simp [hv'])
theorem Be {ops:List Oper} {x y:Oper} (h:Bj c ops x y=true) (δ:List D) (k:List D→Option Out):cK c ops x δ (fun δ=>cK c ops y δ k)=cK c ops y δ (fun δ=>cK c ops x δ k):=by
 unfold Bj at h;simp only [JJ] at h;obtain⟨⟨h1,h2⟩,h3⟩:=h;obtain⟨φ,hφ,hφr⟩:=oz c ops x;obtain⟨ψ,hψ,hψr⟩:=oz c ops y;have e1:∀l,ψ (ai δ (wrS c x) l)=ψ δ:=fun l=>hψr _ _ (jD fun s hs=>aq _ _ _ _ fun hm=>jN h2 s hm hs)
 have e2:∀l,φ (ai δ (wrS c y) l)=φ δ:=fun l=>hφr _ _ (jD fun s hs=>aq _ _ _ _ (jN h1 s hs))
 simp only [hφ,hψ,e1,e2];cases φ δ with
 | none=>cases ψ δ<;>rfl
 | some l =>
  cases ψ δ with
  | none=>rfl
  | some m =>
   simp only [JO];rw [mp (jN h3)]
theorem od {δ:List D}:∀(ags:List Ag) (ds:List D),bV ags (ah δ (dR ags))=some ds→∀t∈dm ags,nth δ t ≠ .bad
 | [],_,_,t,ht=>by simp [dm] at ht
 | .d x chk::l,ds,h,t,ht=>by
  have ih:=od (δ:=δ) l;simp only [dm] at ht;cases x with
  | tmp u =>
   simp only [ah] at h;cases chk
   ·simp only [bV] at h
    obtain⟨z,hz,_⟩:=JK.1 h;exact ih z hz t ht
   ·simp only [bV] at h
    obtain⟨i,_,h⟩:=JI.1 h;obtain⟨z,hz,_⟩:=JK.1 h;exact ih z hz t ht
  | const v =>
   simp only [bV] at h;obtain⟨z,hz,_⟩:=JK.1 h;exact ih z hz t ht
  | func f =>
   simp only [bV] at h;obtain⟨z,hz,_⟩:=JK.1 h;exact ih z hz t ht
  | global g=>simp [bV] at h
 | .bor u r::l,ds,h,t,ht=>by
  have ih:=od (δ:=δ) l;simp only [dm] at ht;cases hb:JT u r
  ·simp only [dR,hb,ah,bV] at h
   obtain⟨i,_,h⟩:=JI.1 h;obtain⟨z,hz,_⟩:=JK.1 h;exact ih z hz t ht
  ·simp only [dR,hb,ah,bV] at h
   obtain⟨z,hz,_⟩:=JK.1 h;exact ih z hz t ht
 | .io u r::l,ds,h,t,ht=>by
  have ih:=od (δ:=δ) l;simp only [dm,JP] at ht;have lv:∀x y z:D,aa x y=some z→x ≠ .bad:=fun x y z hz e=>by subst e;cases hz
  cases hb:JT u r
  ·simp only [dR,hb,ah,bV] at h
   obtain⟨i,hi,h⟩:=JI.1 h;obtain⟨i',hi',h⟩:=JI.1 h;obtain⟨z,hz,_⟩:=JK.1 h;have e:i=nth δ r:=by
    unfold cY at hi;split at hi
    ·exact(KV hi).symm
    ·cases hi
   rcases ht with rfl | ht
   ·rw [←e];exact lv _ _ _ hi'
   ·exact ih z hz t ht
  ·simp only [dR,hb,ah,bV] at h
   obtain⟨i',hi',h⟩:=JI.1 h;obtain⟨z,hz,_⟩:=JK.1 h;have e:=aL.1 hb;rcases ht with rfl | ht
   ·rw [←e];exact lv _ _ _ hi'
   ·exact ih z hz t ht
theorem GS {ops:List Oper} {x y:Oper} (h:BD c ops x y=true) (δ:List D) (k:List D→Option Out) (r:Out) (hs:cK c ops x δ (fun δ=>cK c ops y δ k)=some r):cK c ops y δ (fun δ=>cK c ops x δ k)=some r:=by
 unfold BD at h;simp only [JJ] at h;obtain⟨⟨h1,h2⟩,h3⟩:=h;unfold DL at h1;split at h1
 case h_2=>cases h1
 rename_i q t d hxg hyg hxo hyo hyd;split at h1
 case h_2=>cases h1
 rename_i n lv io r' f hkt hkd hqc;split at h1
 case h_2=>cases h1
 rename_i S hS;split at h1
 case h_2=>cases h1
 rename_i ags hags;simp only [JJ] at h1;obtain⟨h4,h5⟩:=h1;have e4:=aL.1 h4;subst e4;have hyA:cj c y=some (.one [r'] d fun is=>(fg fun x=>aa x (.ref 0 0)) is):=by
  simp only [cj,hyo,hyd,yZ,hkt,hkd,Nat.beq_refl]
 have hw:wrS c y=d::eh d c.K 0:=by
  unfold wrS;rw [hyA]
 have hy:∀(δ:List D) (k:List D→Option Out),cK c ops y δ k=(aa (nth δ r') (.ref 0 0)).bind fun z=>k (ai δ (d::eh d c.K 0) [z]):=by
  intro δ k;simp only [cK,hyA,hyg];rw [bG];show(aa (nth δ r') (.ref 0 0)).bind (fun z=>dH δ (d::eh d c.K 0) [z] k)=_
  exact congrArg _ (funext fun z=>cb _ _ _ _)
 have live:∀(δ:List D) (K:List D→Option Out) (r:Out),cK c ops x δ K=some r→nth δ r' ≠ .bad:=by
  intro δ K r hr;have hm:r'∈dm ags:=by simpa [ga] using h5
  have fin:∀K':List D→Option Out,fH [] ags (ah δ (dR ags)) K'=some r→nth δ r' ≠ .bad:=by
   intro K' h;rw [fZ] at h;obtain⟨ds,hds,_⟩:=JI.1 h;exact od ags ds hds r' hm
  have hA:cj c x=CO c x.dst q:=by simp only [cj,hxo]
  have hcl:∀A,cj c x=some A→qc c x.dst S q.args.toList=some A:=by
   intro A h;rw [hA] at h;unfold CO at h;rw [hqc] at h;simp only [hS] at h;exact h
  cases hAc:cj c x with
  | none=>simp only [cK,hAc] at hr;cases hr
  | some A =>
   have hA2:=hcl A hAc;unfold qc at hA2;simp only [hags] at hA2;simp only [cK,hAc,hxg] at hr
   repeat' split at hA2
   all_goals first
    | (cases hA2;done)
    | (cases hA2;simp only [bG] at hr;exact fin _ hr)
    | skip
 have l1:=live δ _ r hs;obtain⟨φ,hφ,hφr⟩:=oz c ops x;rw [hw] at h2 h3;have e2:∀l,φ (ai δ (d::eh d c.K 0) l)=φ δ:=fun l=>hφr _ _ (jD fun s hs=>aq _ _ _ _ (jN h2 s hs))
 have hlive:∀a:D,a ≠ .bad→aa a (.ref 0 0)=some (.ref 0 0):=fun a ha=>by cases a<;>first | exact absurd rfl ha | rfl
 simp only [hφ,hy,e2] at hs ⊢;rw [hlive _ l1];cases hp:φ δ with
 | none=>rw [hp] at hs;cases hs
 | some l =>
  rw [hp] at hs;simp only [JO] at hs ⊢;obtain⟨z,hz,hk⟩:=JI.1 hs;have ez:z = .ref 0 0:=by
   unfold aa at hz;split at hz
   ·cases hz
   ·exact(KV hz).symm
  subst ez;rw [mp (jN h3)] at hk;exact hk
theorem Dy {ops:List Oper} {x y:Oper} (h:xM c ops x y=true) (δ:List D) (k:List D→Option Out) (r:Out) (hs:cK c ops x δ (fun δ=>cK c ops y δ k)=some r):cK c ops y δ (fun δ=>cK c ops x δ k)=some r:=by
 unfold xM at h;simp only [Ko] at h;rcases h with ((h | h) | h) | h
 ·exact(Be h δ k).symm.trans hs
 ·exact(Ce h δ k).symm.trans hs
 ·exact(Ce h δ k).trans hs
 ·exact GS h δ k r hs
theorem Df {ops:List Oper} {o:Oper} {k k':List D→Option Out} {δ:List D} {r:Out} (hk:∀δ,k δ=some r→k' δ=some r) (h:cK c ops o δ k=some r):cK c ops o δ k'=some r:=by
 obtain⟨φ,hφ,_⟩:=oz c ops o;rw [hφ] at h ⊢;obtain⟨l,hl,h⟩:=JI.1 h;rw [hl];exact hk _ h
theorem qL {ops:List Oper} {o:Oper} {k:List D→Option Out} {r:Out}:∀(pre post:List Oper) (δ:List D),(∀q∈pre,xM c ops q o=true)→iE c ops (pre++o::post) δ k=some r→cK c ops o δ (fun δ=>iE c ops (pre++post) δ k)=some r
 | [],post,δ,_,h=>h
 | q::pre,post,δ,h,hr=>by
  simp only [Kz,iE] at hr ⊢;exact Dy (h q (by simp)) δ _ r (Df (fun δ' h'=>qL pre post δ' (fun q' hq'=>h q' (by simp [hq'])) h') hr)
def left (ops:List Oper) (listed:Array Bool):List Oper:=(ops.zipIdx.filter fun p=>!listed.getD p.2 true).map (·.1)
theorem Inv.drawn (h:Inv c B X w0 F0 F O a w δ) (n:Nat):Inv c B X w0 F0 F O a {w with drawn:=n} δ :=
 h.step (w':={w with drawn:=n}) (fun _=>False) rfl rfl rfl (fun _ _=>⟨rfl,.inl rfl⟩) (fun _ hb=>hb) (fun _ _=>rfl) (fun _ _ hp _=>⟨hp,rfl⟩) (fun _ _ _ hv hb=>⟨rfl,(h.root hv hb).2⟩) (fun _ hf=>hf.elim) h.fl h.ol (fun _ hb=>.inl hb) (KT _) rfl rfl rfl (fun _ _ _=>rfl)
theorem vJ {l:List Oper} {i:Nat} {o:Oper} (h:l[i]?=some o):l.zipIdx=(l.take i).zipIdx++(o,i)::(l.drop (i+1)).zipIdx (i+1):=by
 have hi:i<l.length:=(Ky.1 h).1;have e:l=l.take i++(o::l.drop (i+1)):=by
  have h1:l[i]=o:=(Ky.1 h).2
  conv=>lhs;rw [←KF i l,Kn hi,h1]
 conv=>lhs;rw [e]
 rw [List.zipIdx_append,List.zipIdx_cons];have:(l.take i).length=i:=by rw [KA];omega
 simp [this]
theorem vF {l:List Oper} {listed:Array Bool} {i:Nat} {o:Oper} (h:l[i]?=some o) (hn:listed.getD i true=false) (hsz:i<listed.size) :
  left l listed=(((l.take i).zipIdx.filter fun p=>!listed.getD p.2 true).map (·.1))++o::((((l.drop (i+1)).zipIdx (i+1)).filter fun p=>!listed.getD p.2 true).map (·.1)) ∧
  left l (listed.setIfInBounds i true)=(((l.take i).zipIdx.filter fun p=>!listed.getD p.2 true).map (·.1))++((((l.drop (i+1)).zipIdx (i+1)).filter fun p=>!listed.getD p.2 true).map (·.1)):=by
 have hne:∀j,j≠i→(listed.setIfInBounds i true).getD j true=listed.getD j true:=fun j hj=>by
  simp only [JM,Kk,Ne.symm hj,if_false]
 have hi:(listed.setIfInBounds i true).getD i true=true:=by
  simp [JM,hsz]
 unfold left;rw [vJ h];simp only [List.filter_append,List.map_append,List.filter_cons,hn,hi,KY,Bool.not_true,if_true,Kq,if_false,Kf];refine⟨trivial,?_⟩
 congr 2
 ·refine KS fun p hp=>?_
  have:=JY hp;rw [KA] at this;rw [hne p.2 (by omega)]
 ·refine KS fun p hp=>?_
  have:=List.le_snd_of_mem_zipIdx hp;rw [hne p.2 (by omega)]
def Cl (ops:Array Oper) (listed:Array Bool):Prop:=∀(m:Nat) (q:Oper),ops[m]?=some q→listed.getD m false=true→∀e∈q.after,Kc .any e=true→listed.getD e.on false=true
theorem uX {ops:Array Oper} {listed:Array Bool} (hc:Cl ops listed) {j:Nat}:∀(n:Nat) (o:Oper),(∀e∈o.after,Kc .any e=true→listed.getD e.on false=true)→bef ops.toList j n o=true→listed.getD j false=true
 | 0,_,_,h=>by simp [bef] at h
 | n+1,o,ho,h=>by
  simp only [bef,List.any_eq_true,JJ,Ko] at h;obtain⟨e,he,hb,h⟩:=h;have hl:=ho e (by simpa using he) hb;rcases h with h | h
  ·rw [←aL.1 h]
   exact hl
  ·split at h
   ·rename_i q hq
    rw [rc,Kj] at hq;exact uX hc n q (hc e.on q hq hl) h
   ·cases h
theorem uQ {listed:Array Bool} {i x:Nat} (h:listed.getD x false=true):(listed.setIfInBounds i true).getD x false=true:=by
 rw [JM] at h ⊢;rw [Kk];split
 ·split<;>rename_i h1 h2
  ·rfl
  ·subst h1
   rw [Array.getElem?_eq_none (by omega)] at h;cases h
 ·exact h
theorem It {ops:Array Oper} {listed:Array Bool} (hc:Cl ops listed) {i:Nat} {o:Oper} (ho:ops[i]?=some o) (hed:∀e∈o.after,Kc .any e=true→listed.getD e.on false=true):Cl ops (listed.setIfInBounds i true):=by
 intro m q hq hm e he hb;by_cases hmi:m=i
 ·subst hmi
  rw [ho] at hq;cases hq;exact uQ (hed e he hb)
 ·refine uQ (hc m q hq ?_ e he hb)
  rw [JM,Kk,if_neg (fun e=>hmi e.symm)] at hm;rw [JM];exact hm
theorem BF (hT:okT P c.T=true) (hS:∀f S,cR c.S f=some S→aF c.G P f S) {ops:Array Oper} (hany:Cy c ops.toList=true) {V:Nat→Value} {Q:Exit→Act→World→Prop} {k:List D→Option Out} {r:Out} (hQ:∀a w,fQ c B X w0 F0 V k r a w→Q .normal a w)
  (hok:∀o∈ops.toList,Dk c ops.toList o=true) (hI:Inv c B X w0 F0 F O a w δ) (hV:IoV c V a) (hg:iE c ops.toList ops.toList δ k=some r):wpAny P .any ops Q ops.size (Kg ops.size false) a {w with drawn:=w.drawn+1}:=by
 have hedge:∀(i:Nat) (o:Oper),ops[i]?=some o→(∀e∈o.after,Kc .any e=true→e.on<i)∧∀(j:Nat) (q:Oper),j<i→ops[j]?=some q→bef ops.toList j 3 o=true∨xM c ops.toList q o=true:=by
  intro i o ho;have h0:=hany;unfold Cy at h0;rw [Kb] at h0;have hl:ops.toList[i]?=some o:=by simpa using ho
  have h1:=h0 (o,i) (by rw [vJ hl];simp);simp only [JJ,Ko,JR,decide_eq_true_eq,Kb] at h1;refine⟨fun e he hb=>(h1.1 e (by simpa using he)).resolve_left (by rw [hb];simp),fun j q hj hq=>?_⟩
  have hq':(ops.toList.take i)[j]?=some q:=by
   rw [KB hj];simpa using hq
  exact(h1.2 (q,j) (by rw [vJ hq'];simp)).symm
 have main:∀(fuel:Nat) (listed:Array Bool) (F:Nat→Prop) (O:Nat→Option (Nat × Nat)) (a:Act) (w:World) (δ:List D),listed.size=ops.size→Cl ops listed→(left ops.toList listed).length≤fuel→Inv c B X w0 F0 F O a w δ→IoV c V a →
   iE c ops.toList (left ops.toList listed) δ k=some r→wpAny P .any ops Q fuel listed a w:=by
  intro fuel;have ready_mem:∀(listed:Array Bool) (i:Nat),i∈Kr .any ops listed→∃o,ops[i]?=some o∧listed.getD i true=false∧∀e∈o.after,Kc .any e=true→listed.getD e.on false=true:=by
   intro listed i hi;unfold Kr at hi;rw [KD] at hi;obtain⟨hr,hi⟩:=hi;simp only [JJ,JR] at hi;cases ho:ops[i]? with
   | none=>rw [ho] at hi;simp at hi
   | some o =>
    rw [ho] at hi;simp only [KW,KC,Array.all_eq_true_iff_forall_mem,Ko,JR] at hi;exact⟨o,rfl,hi.1,fun e he hb=>(hi.2 e he).resolve_left (by rw [hb];simp)⟩
  have empty:∀(listed:Array Bool),listed.size=ops.size→Kr .any ops listed=[]→left ops.toList listed=[]:=by
   intro listed hsz hr;have all:∀i,i<ops.size→listed.getD i true=true:=by
    intro i;induction i using Nat.strongRecOn with
    | _ i ih =>
     intro hi;cases hl:listed.getD i true with
     | true=>rfl
     | false =>
      exfalso;have ho:ops[i]?=some ops[i]:=JU hi;have hmem:i∈Kr .any ops listed:=by
       unfold Kr;rw [KD];refine⟨List.mem_range.2 hi,?_⟩
       rw [hl,ho];simp only [KY,Bool.true_and,KW,KC,Array.all_eq_true_iff_forall_mem,Ko];intro e he;cases hb:Kc .any e
       ·exact .inl rfl
       right
       have h1:=(hedge i _ ho).1 e he hb;have h2:=ih e.on h1 (by omega);have h3:e.on<listed.size:=by omega
       rw [JM,JU h3] at h2 ⊢;exact h2
      rw [hr] at hmem;cases hmem
   unfold left;rw [List.map_eq_nil_iff,List.filter_eq_nil_iff];rintro⟨o,i⟩ hp;have hi:=JY hp;simp only [JR,Bool.not_eq_false];exact all i (by simpa using hi)
  induction fuel with
  | zero =>
   intro listed F O a w δ hsz hcl hl hI hV hg;have h0:left ops.toList listed=[]:=Kh (by omega);rw [h0] at hg;refine⟨?_,hQ a w ⟨⟨F,O,δ,hI,hg⟩,hV⟩⟩
   cases hr:Kr .any ops listed with
   | nil=>rfl
   | cons i rest =>
    exfalso;obtain⟨o,ho,hn,_⟩:=ready_mem listed i (by rw [hr];simp);have hi:i<ops.size:=(Km.1 ho).1;have:=(vF (l:=ops.toList) (by simpa using ho) hn (by omega)).1;rw [h0] at this;simp at this
  | succ fuel ihf =>
   intro listed F O a w δ hsz hcl hl hI hV hg;refine⟨fun hr=>?_,fun i hi=>?_⟩
   ·rw [empty listed hsz hr] at hg
    exact hQ a w ⟨⟨F,O,δ,hI,hg⟩,hV⟩
   ·obtain⟨o,ho,hn,hed⟩:=ready_mem listed i hi
    have hilt:i<ops.size:=(Km.1 ho).1;obtain⟨e1,e2⟩:=vF (l:=ops.toList) (by simpa using ho) hn (by omega);rw [e1] at hg hl;have hfront:∀q∈(((ops.toList.take i).zipIdx.filter fun p=>!listed.getD p.2 true).map (·.1)),xM c ops.toList q o=true:=by
     intro q hq
     ·simp only [List.mem_map,KD] at hq
      obtain⟨⟨q',j⟩,⟨hm1,hm2⟩,rfl⟩:=hq;have hj:=JY hm1;rw [KA] at hj;have hget:ops[j]?=some q':=by
       have:=List.mem_zipIdx_iff_getElem?.1 hm1;simp only at this;rw [KB (by omega)] at this;simpa using this
      rcases(hedge i o ho).2 j q' (by omega) hget with hbf | h
      ·exfalso
       have h3:=uX hcl 3 o hed hbf;simp only [JR] at hm2;have hjlt:j<listed.size:=by omega
       rw [JM,JU hjlt] at h3 hm2;simp only [KC] at h3 hm2;rw [h3] at hm2;cases hm2
      ·exact h
    ·replace hg:=qL _ _ _ hfront hg
     rw [←e2] at hg;have h:=vT hT hS (ops:=ops) (hok o (by simpa using Array.mem_of_getElem? ho)) hI hV hg Q;have ih:∀a w,fQ c B X w0 F0 V (fun δ'=>iE c ops.toList (left ops.toList (listed.setIfInBounds i true)) δ' k) r a w→wpAny P .any ops Q fuel (listed.setIfInBounds i true) a w:=by
      rintro a w ⟨⟨F',O',δ',hI',hk'⟩,hV'⟩;exact ihf _ F' O' a w δ' (by simpa using hsz) (It hcl ho hed) (by rw [e2];simp only [List.length_append,Kt] at hl ⊢;omega) hI' hV' hk'
     unfold wpOp;rw [ho];simp only;split
     ·rename_i hw
      rw [if_pos hw] at h;exact .inl (KL ih h)
     ·rename_i hw
      rw [if_neg hw] at h;exact ih _ _ h
 have hleft:left ops.toList (Kg ops.size false)=ops.toList:=by
  unfold left;rw [List.filter_eq_self.2]
  ·simp
  ·rintro⟨o,i⟩ hp
   have hi:=JY hp;have hi':i<ops.size:=by simpa using hi
   simp [JM,hi']
 refine main ops.size _ F O a _ δ (by simp) (fun m q _ hm=>?_) ?_ (hI.drawn _) hV ?_
 ·rw [JM,Array.getElem?_replicate] at hm
  split at hm<;>cases hm
 ·rw [hleft];simp
 ·rw [hleft];exact hg
theorem xE (hT:okT P c.T=true) (hS:∀f S,cR c.S f=some S→aF c.G P f S) {ops:Array Oper} (hany:Cy c ops.toList=true) (hm:P.follows .mixedOrders=true) {V:Nat→Value} {Q:Exit→Act→World→Prop} {k:List D→Option Out} {r:Out} (hQ:∀a w,fQ c B X w0 F0 V k r a w→Q .normal a w)
  (hok:∀o∈ops.toList,Dk c ops.toList o=true) (hI:Inv c B X w0 F0 F O a w δ) (hV:IoV c V a) (hg:iE c ops.toList ops.toList δ k=some r) (id:Nat):(Code.region id ops true).wp P Q a w:=wp_region_any hm (BF hT hS hany hQ hok hI hV hg)
theorem ib:∀(l:List ResultVar) (δ:List D) (k:List D→Option Out),kM c δ l k=(kM c δ l fun rs=>some (.nrm rs)).bind fun o=>match o with
  | .nrm rs=>k rs
  | _=>none
 | [],δ,k=>rfl
 | .tmp t::l,δ,k=>by
  simp only [kM,dI];rw [ib l δ fun rs=>k (nth δ t::rs),ib l δ fun rs=>some (.nrm (nth δ t::rs))];cases h:kM c δ l fun rs=>some (.nrm rs) with
  | none=>rfl
  | some o=>cases o<;>rfl
 | .cell s t::l,δ,k=>by
  simp only [kM];split
  ·rename_i i _
   simp only [dI];cases bF i.agg i.n 0 (nth δ s) with
   | none=>rfl
   | some y =>
    simp only [JO];rw [ib l δ fun rs=>k (y::rs),ib l δ fun rs=>some (.nrm (y::rs))];cases h:kM c δ l fun rs=>some (.nrm rs) with
    | none=>rfl
    | some o=>cases o<;>rfl
  ·rfl
theorem qv:∀{us:List D} {o:Option Out} {r:Out},usK us o=some r↔(∀u∈us,u ≠ .bad)∧o=some r
 | [],o,r=>by simp [usK]
 | u::us,o,r=>by
  simp only [usK,JI,JP,forall_eq_or_imp];constructor
  ·rintro⟨y,h1,h2⟩
   obtain⟨h3,h4⟩:=qv.1 h2;exact⟨⟨(bC h1).1,h3⟩,h4⟩
  ·rintro⟨⟨h1,h2⟩,h3⟩
   refine⟨u,?_,qv.2 ⟨h2,h3⟩⟩
   cases u<;>first | rfl | exact absurd rfl h1
theorem iS {δ:List D} {k:Out→Option Out} {r:Out} (h:Bf c δ k=some r):∃rs,kM c δ c.res (fun rs=>some (.nrm rs))=some (.nrm rs)∧(∀u∈ah δ c.ios,u ≠ .bad)∧k (.ret rs (ah δ c.ios))=some r:=by
 unfold Bf at h;simp only [bG] at h;rw [ib] at h;cases hh:kM c δ c.res fun rs=>some (.nrm rs) with
 | none=>rw [hh] at h;cases h
 | some o =>
  rw [hh] at h;cases o with
  | nrm rs =>
   simp only [JO] at h;obtain⟨h1,h2⟩:=qv.1 h;exact⟨rs,rfl,h1,h2⟩
  | ext i δ=>cases h
  | ret x y=>cases h
theorem ud {δ:List D} {k:Out→Option Out} {r:Out} {rs:List D} (h1:kM c δ c.res (fun rs=>some (.nrm rs))=some (.nrm rs)) (h2:∀u∈ah δ c.ios,u ≠ .bad) (hk:k (.ret rs (ah δ c.ios))=some r):Bf c δ k=some r:=by
 unfold Bf;simp only [bG];rw [ib,h1];simp only [JO];exact qv.2 ⟨h2,hk⟩
def carry (n:Nat) (hl:List Nat) (δ:List D):List D:=ai (vL n) hl (ah δ hl)
theorem rl:∀n,vL n=List.replicate n .bad
 | 0=>rfl
 | n+1=>by simp [vL,rl n,List.replicate_succ]
theorem Eg (n s:Nat):nth (vL n) s = .bad:=by
 rw [eX,rl,JL,List.getElem?_replicate];split<;>rfl
theorem kl (n:Nat) (hl:List Nat) (δ:List D) (k:List D→Option Out):gQ n hl (ah δ hl) k=k (carry n hl δ):=by
 unfold gQ carry;rw [cb,lU _ _ 0 (by rw [km];omega),JQ]
theorem lV (δ:List D):∀(l:List Nat),ah δ l=l.map (nth δ)
 | []=>rfl
 | _::l=>by simp [ah,lV δ l]
theorem sj {hl:List Nat} {δ:List D} (s:Nat):nth (carry δ.length hl δ) s=if s∈hl then nth δ s else .bad:=by
 unfold carry;rw [lV,kG];have hlen:(vL δ.length).length=δ.length:=by rw [rl];simp
 rw [hlen,Eg];split
 ·split
  ·rfl
  ·rename_i h
   by_cases hb:nth δ s = .bad
   ·exact hb.symm
   ·exact absurd (Br hb) h
 ·rfl
theorem Inv.carry (h:Inv c B X w0 F0 F O a w δ) {hl:List Nat} (hk:kK c.K hl=true):Inv c B X w0 F0 F O a w (carry (iD c.K) hl δ):=by
 have e:iD c.K=δ.length:=by rw [jz,h.ld]
 rw [e];refine h.forget ?_ (fun s=>?_) (fun s r hv hb=>?_)
 ·unfold V.carry;rw [cN,rl];simp
 ·rw [sj]
  split
  ·exact .inl rfl
  ·exact .inr rfl
 ·rw [sj] at hb
  split at hb
  case isFalse=>exact absurd rfl hb
  rename_i hs;unfold kK at hk;rw [Kb] at hk;have hks:=hk s hs;have hr:r∈hl:=by
   rcases hv with e | e<;>rw [e] at hks<;>simpa [ga] using hks
  rw [sj,if_pos hr];exact(h.root hv hb).2
theorem ir {V:Nat→Value} {k k':List D→Option Out} {r r':Out} (h:fQ c B X w0 F0 V k r a w) (hk:∀δ F O,Inv c B X w0 F0 F O a w δ→k δ=some r→k' δ=some r'):fQ c B X w0 F0 V k' r' a w:=by
 obtain⟨⟨F,O,δ,h1,h2⟩,h3⟩:=h;exact⟨⟨F,O,δ,h1,hk δ F O h1 h2⟩,h3⟩
theorem tA {V:Nat→Value} {b:Code} {bid:Nat} {hl xl:List Nat} (h1:kK c.K hl=true) (h2:kK c.K xl=true)
  (ih:∀(F:Nat→Prop) (O:Nat→Option (Nat × Nat)) (a:Act) (w:World) (δ:List D),Inv c B X w0 F0 F O a w δ→IoV c V a→∀(k:Out→Option Out) (r:Out),den c bid b δ k=some r→∀Q,(∀e a w,Da c B X w0 F0 V k r e a w→Q e a w)→b.wp P Q a w)
  {k:Out→Option Out} {r:Out} {Q:Exit→Act→World→Prop} (hQ:∀e a w,Da c B X w0 F0 V k r e a w→Q e a w) {o:Out}
  (ho:dw o (fun i s=>gQ (iD c.K) xl s fun δ=>k (.ext i δ)) (fun x y=>k (.ret x y))=some r):∀(n:Nat) (F:Nat→Prop) (O:Nat→Option (Nat × Nat)) (a:Act) (w:World) (δ:List D),Inv c B X w0 F0 F O a w δ→IoV c V a →
  iter (fun s=>gQ (iD c.K) hl s fun δ=>den c bid b δ (cq hl xl)) n (ah δ hl)=some o→Code.rounds P b Q n a w
 | 0,_,_,_,_,_,_,_,h=>by cases h
 | n+1,F,O,a,w,δ,hI,hV,h=>by
  simp only [iter,kl] at h;rw [rounds_succ];have hI':=hI.carry h1;cases hb:den c bid b (carry (iD c.K) hl δ) (cq hl xl) with
  | none=>rw [hb] at h;cases h
  | some ob =>
   rw [hb] at h;refine ih F O a w _ hI' hV _ ob hb _ (fun e a' w' hp=>?_)
   cases ob with
   | nrm s' =>
    simp only at h;cases e with
    | normal =>
     obtain⟨⟨F',O',δ',g1,g2⟩,g3⟩:=hp;simp only [cq,bG,JN,Out.nrm.injEq] at g2;rw [←g2] at h;exact tA h1 h2 ih hQ ho n F' O' a' w' δ' g1 g3 h
    | exit i =>
     obtain⟨⟨F',O',δ',g1,g2⟩,g3⟩:=hp;simp [cq,bG] at g2
    | ret =>
     obtain⟨⟨F',O',δ',g1,g2⟩,g3⟩:=hp;obtain⟨rs,_,_,g4⟩:=iS g2;simp [cq] at g4
    | _=>exact hp.elim
   | ext i l =>
    simp only [JN] at h;subst h;cases e with
    | normal =>
     obtain⟨⟨F',O',δ',g1,g2⟩,g3⟩:=hp;simp [cq,bG] at g2
    | exit j =>
     obtain⟨⟨F',O',δ',g1,g2⟩,g3⟩:=hp;simp only [cq,bG,JN,Out.ext.injEq] at g2;obtain⟨rfl,rfl⟩:=g2;simp only [dw,kl] at ho;exact hQ (.exit j) _ _ ⟨⟨F',O',_,g1.carry h2,ho⟩,g3⟩
    | ret =>
     obtain⟨⟨F',O',δ',g1,g2⟩,g3⟩:=hp;obtain⟨rs,_,_,g4⟩:=iS g2;simp [cq] at g4
    | _=>exact hp.elim
   | ret x y =>
    simp only [JN] at h;subst h;cases e with
    | normal =>
     obtain⟨⟨F',O',δ',g1,g2⟩,g3⟩:=hp;simp [cq,bG] at g2
    | exit j =>
     obtain⟨⟨F',O',δ',g1,g2⟩,g3⟩:=hp;simp [cq,bG] at g2
    | ret =>
     obtain⟨⟨F',O',δ',g1,g2⟩,g3⟩:=hp;obtain⟨rs,g5,g6,g4⟩:=iS g2;simp only [cq,JN,Out.ret.injEq] at g4;obtain⟨rfl,rfl⟩:=g4;exact hQ .ret _ _ ⟨⟨F',O',δ',g1,ud g5 g6 ho⟩,g3⟩
    | _=>exact hp.elim
theorem iA (hT:okT P c.T=true) (hS:∀f S,cR c.S f=some S→aF c.G P f S) (hm:P.follows .mixedOrders=true) {V:Nat→Value}:∀(b:Code) (bid:Nat),cV c bid b=true→∀(F:Nat→Prop) (O:Nat→Option (Nat × Nat)) (a:Act) (w:World) (δ:List D),
  Inv c B X w0 F0 F O a w δ→IoV c V a→∀(k:Out→Option Out) (r:Out),den c bid b δ k=some r→∀Q,(∀e a w,Da c B X w0 F0 V k r e a w→Q e a w)→b.wp P Q a w
 | .skip,bid,_,F,O,a,w,δ,hI,hV,k,r,hg,Q,hQ=>wp_skip (hQ _ _ _ ⟨⟨F,O,δ,hI,hg⟩,hV⟩)
 | .region id ops d,bid,hok,F,O,a,w,δ,hI,hV,k,r,hg,Q,hQ=>by
  simp only [cV,JJ,Kb] at hok;have hq:∀a w,fQ c B X w0 F0 V (fun δ=>k (.nrm δ)) r a w→Q .normal a w:=fun a w h=>hQ _ _ _ h
  cases d
  ·exact wp_region_list (pP hT hS hq ops.toList hok.1 F O a w δ hI hV hg)
  ·exact xE hT hS (by simpa using hok.2) hm hq hok.1 hI hV hg id
 | .seq x y,bid,hok,F,O,a,w,δ,hI,hV,k,r,hg,Q,hQ=>by
  simp only [cV,JJ] at hok;refine wp_seq (iA hT hS hm x bid hok.1 F O a w δ hI hV _ r hg _ (fun e a' w' hp=>?_))
  cases e with
  | normal =>
   obtain⟨⟨F',O',δ',hI',hk'⟩,hV'⟩:=hp;exact iA hT hS hm y bid hok.2 F' O' a' w' δ' hI' hV' k r hk' Q hQ
  | exit id=>exact hQ _ _ _ hp
  | ret=>exact hQ _ _ _ hp
  | _=>exact hp.elim
 | .cond x t e,bid,hok,F,O,a,w,δ,hI,hV,k,r,hg,Q,hQ=>by
  simp only [cV,JJ] at hok;obtain⟨⟨hlv,hok1⟩,hok2⟩:=hok;have hop:=hI.opd (bI.1 hlv);have key:ifD (opD δ x) (den c bid t δ k) (den c bid e δ k)=some r:=by
   simp only [den] at hg;cases x with
   | tmp s=>simpa only [opC,dI,opD] using hg
   | const v=>simpa only [opC,opD] using hg
   | func f=>simpa only [opC,opD] using hg
   | global g=>simp [opC] at hg
  unfold ifD at key;split at key
  ·rename_i hd
   rw [hd] at hop;exact wp_cond_true (ba hop).1 (iA hT hS hm t bid hok1 F O a w δ hI hV k r key Q hQ)
  ·rename_i hd
   rw [hd] at hop;exact wp_cond_false (ba hop).1 (iA hT hS hm e bid hok2 F O a w δ hI hV k r key Q hQ)
  ·cases key
 | .block id b,bid,hok,F,O,a,w,δ,hI,hV,k,r,hg,Q,hQ=>by
  simp only [cV] at hok;refine wp_block (iA hT hS hm b id hok F O a w δ hI hV _ r hg _ (fun e a' w' hp=>?_))
  cases e with
  | normal=>exact hQ .normal _ _ hp
  | exit i =>
   simp only [Exit.inBlock];have hp':fQ c B X w0 F0 V (fun δ=>Aq id (.ext i δ) k) r a' w':=hp;split
   ·rename_i hi
    refine hQ .normal _ _ (ir hp' fun δ F O _ h=>?_)
    simp only [Aq] at h;rw [aL.2 (by simpa using hi)] at h;exact h
   ·rename_i hi
    refine hQ (.exit i) _ _ (ir hp' fun δ F O _ h=>?_)
    simp only [Aq] at h;cases hb:JT i id
    ·rw [hb] at h;exact h
    ·exact absurd (by simpa using aL.1 hb) hi
  | ret=>exact hQ .ret _ _ hp
  | _=>exact hp.elim
 | .loop b,bid,hok,F,O,a,w,δ,hI,hV,k,r,hg,Q,hQ=>by
  simp only [cV,JJ] at hok;obtain⟨hok1,hok2⟩:=hok;simp only [den] at hg;cases hH:cR c.H bid with
  | none=>rw [hH] at hg;cases hg
  | some hx =>
   obtain⟨hl,xl⟩:=hx;rw [hH] at hg hok2;simp only [JJ] at hok2;simp only [bG] at hg;obtain⟨o',h1,h2⟩:=JI.1 hg;unfold bq at h1;split at h1
   case isFalse=>cases h1
   rename_i hex;refine wp_loop_rounds (Ka hex) ?_
   refine tA (hl:=hl) (xl:=xl) hok2.1 hok2.2 (fun F O a w δ hI hV k r hg Q hQ=>iA hT hS hm b bid hok1 F O a w δ hI hV k r hg Q hQ) hQ h2 _ F O a w δ hI hV h1
 | .exit id,bid,_,F,O,a,w,δ,hI,hV,k,r,hg,Q,hQ=>wp_exit (hQ _ _ _ ⟨⟨F,O,δ,hI,hg⟩,hV⟩)
 | .ret,bid,_,F,O,a,w,δ,hI,hV,k,r,hg,Q,hQ=>wp_ret (hQ _ _ _ ⟨⟨F,O,δ,hI,hg⟩,hV⟩)
 | .label _,_,hok,_,_,_,_,_,_,_,_,_,_,_,_=>by simp [cV] at hok
 | .goto _,_,hok,_,_,_,_,_,_,_,_,_,_,_,_=>by simp [cV] at hok
 | .scope _,_,hok,_,_,_,_,_,_,_,_,_,_,_,_=>by simp [cV] at hok
end
end Go.V

namespace Go.V
open Go.RowKit
set_option maxRecDepth 100000
def pW:List ResultVar→List Nat
 | []=>[]
 | .tmp t::l=>t::pW l
 | .cell _ _::l=>pW l
def ci (c:Cx):List ResultVar→List Kd→Bool
 | [],[]=>true
 | .tmp t::l,.dat lv::m=>(match an c.K t with
  | .dat l'=>KX l' lv
  | _=>false)&&ci c l m
 | .tmp t::l,.own z lv false::m=>(match an c.K t with
  | .own z' l' false=>JT z' z&&KX l' lv
  | _=>false) && !kY t (pW l)&&ci c l m
 | .cell s t::l,.dat lv::m=>(match an c.K s with
  | .box _ l' _=>KX l' lv
  | _=>false)&&(cR c.T t).isSome&&ci c l m
 | _,_=>false
def pb:Nat→List Kd→List Nat
 | _,[]=>[]
 | i,k::ks=>if kh k then i::pb (i+1) ks else pb (i+1) ks
def eqK:Kd→Kd→Bool
 | .dat a,.dat b=>JT a b
 | .own a b io,.own a' b' io'=>JT a a'&&JT b b'&&io==io'
 | .box a b io,.box a' b' io'=>JT a a'&&JT b b'&&io==io'
 | _,_=>false
def zL:List Kd→List Kd→Bool
 | [],_=>true
 | k::ks,l::ls=>eqK k l&&zL ks ls
 | _,_=>false
section
variable {P:Program} {c:Cx} {B:Nat} {X:Nat→Prop} {w0:World} {F0 F:Nat→Prop} {O:Nat→Option (Nat × Nat)} {a:Act} {w:World} {δ:List D}
def mu (tmps:Array Value):ResultVar→Sem Value
 | .tmp t=>pure (tmps.getD t undef)
 | .cell a t=>do loadVar t (←asAddr (tmps.getD a undef))
theorem Ij {k l:Kd} (h:eqK k l=true):k=l:=by
 unfold eqK at h;split at h
 ·rw [aL] at h;rw [h]
 ·simp only [JJ,aL,beq_iff_eq] at h
  obtain⟨⟨rfl,rfl⟩,rfl⟩:=h;rfl
 ·simp only [JJ,aL,beq_iff_eq] at h
  obtain⟨⟨rfl,rfl⟩,rfl⟩:=h;rfl
 ·cases h
theorem rW:∀{ks ls:List Kd},zL ks ls=true→ks.length≤ls.length∧∀(i:Nat),i<ks.length→an ls i=an ks i
 | [],_,_=>⟨by simp,by simp⟩
 | k::ks,l::ls,h=>by
  simp only [zL,JJ] at h;obtain⟨h1,h2⟩:=rW h.2;refine⟨by simp;exact h1,fun i hi=>?_⟩
  cases i with
  | zero=>simp only [an];exact(Ij h.1).symm
  | succ i=>simp only [an];exact h2 i (by simpa using hi)
 | _::_,[],h=>by simp [zL] at h
def HH (B:Nat) (O:Nat→Option (Nat × Nat)) (res:List ResultVar) (j:Nat) (g:Nat):Prop:=B≤g∧∃t,res[j]?=some (.tmp t)∧O g=some (t,0)
theorem jY {w:World} {F:Nat→Prop} {B:Nat} {own own':Nat→Prop} {k:Kd} {d:D} {y:Value} (ho:(∃z lv,k = .own z lv false)→∀g,own g→own' g) (h:vP w F B own k d y):vP w F B own' k d y:=by
 rcases h with h | h
 ·exact .inl h
 ·refine .inr ?_
  cases k with
  | own z lv io =>
   cases io
   ·exact h.own fun _ _ hg=>⟨ho ⟨z,lv,rfl⟩ _ hg.1,hg.2⟩
   ·exact h
  | _=>exact h
theorem rI (hT:okT P c.T=true) (hI:Inv c B X w0 F0 F O a w δ):∀(res:List ResultVar) (rm:List Kd) (rs:List D),ci c res rm=true→kM c δ res (fun rs=>some (.nrm rs))=some (.nrm rs) →
  ∃vs:List Value,(res.mapM (mu a.tmps)).run P w = .ok vs w∧vs.length=rm.length∧rs.length=rm.length∧∀j,vP w F B (HH B O res j) (an rm j) (nth rs j) (vs.getD j undef)
 | [],[],rs,_,h=>by
  simp only [kM,JN,Out.nrm.injEq] at h;subst h;exact⟨[],by simp,rfl,rfl,fun j=>.inl (by simp [nth])⟩
 | .tmp t::l,.dat lv::m,rs,hok,h=>by
  simp only [ci,JJ] at hok;simp only [kM,dI] at h;rw [ib] at h;obtain⟨o,h1,h2⟩:=JI.1 h;split at h2
  case h_2=>cases h2
  rename_i rs';simp only [JN,Out.nrm.injEq] at h2;subst h2;obtain⟨vs,g1,g2,g3,g4⟩:=rI hT hI l m rs' hok.2 h1;refine⟨a.tmps.getD t undef::vs,by simp [KG,mu,g1],by simp [g2],by simp [g3],fun j=>?_⟩
  cases j with
  | zero =>
   simp only [an,nth,Ke];have hk:=hok.1;split at hk
   case h_2=>cases hk
   rename_i l' hkt;exact(fv (bI.1 hk) (hI.dat hkt))
  | succ j =>
   refine jY (fun _ g hg=>?_) (g4 j)
   obtain⟨e1,t',e2,e3⟩:=hg;exact⟨e1,t',by simpa using e2,e3⟩
 | .tmp t::l,.own z lv false::m,rs,hok,h=>by
  simp only [ci,JJ] at hok;simp only [kM,dI] at h;rw [ib] at h;obtain⟨o,h1,h2⟩:=JI.1 h;split at h2
  case h_2=>cases h2
  rename_i rs';simp only [JN,Out.nrm.injEq] at h2;subst h2;obtain⟨vs,g1,g2,g3,g4⟩:=rI hT hI l m rs' hok.2 h1;refine⟨a.tmps.getD t undef::vs,by simp [KG,mu,g1],by simp [g2],by simp [g3],fun j=>?_⟩
  cases j with
  | zero =>
   simp only [an,nth,Ke];have hk:=hok.1.1;split at hk
   case h_2=>cases hk
   rename_i z' l' hkt;simp only [JJ,aL,bI] at hk;obtain⟨rfl,hle⟩:=hk;by_cases hb:nth δ t = .bad
   ·exact .inl hb
   ·exact .inr (cI (jo hle) (fun _ _=>rfl) (fun g _ hg=>⟨⟨⟨hg.2 rfl,t,rfl,hg.1⟩,hg.2 rfl⟩,rfl⟩) (hI.own hkt hb))
  | succ j =>
   refine jY (fun _ g hg=>?_) (g4 j)
   obtain⟨e1,t',e2,e3⟩:=hg;exact⟨e1,t',by simpa using e2,e3⟩
 | .cell s t::l,.dat lv::m,rs,hok,h=>by
  simp only [ci,JJ] at hok;simp only [kM] at h;split at h
  case h_2=>cases h
  rename_i i hi;simp only [dI] at h;obtain⟨y,hy,h⟩:=JI.1 h;rw [ib] at h;obtain⟨o,h1,h2⟩:=JI.1 h;split at h2
  case h_2=>cases h2
  rename_i rs';simp only [JN,Out.nrm.injEq] at h2;subst h2;obtain⟨vs,g1,g2,g3,g4⟩:=rI hT hI l m rs' hok.2 h1;have hk:=hok.1.1;split at hk
  case h_2=>cases hk
  rename_i n l' io hks;rw [bI] at hk;have hb:nth δ s ≠ .bad:=by
   intro e;rw [e] at hy;simp [bF] at hy
  obtain⟨mm,us,g,e,hd',a1,a2,a3,a4,a5,a6⟩:=hI.box hks hb;rw [hd'] at hy;simp only [bF,JQ] at hy;have hcell:cE w g 0 us:=lp a2 (fun i u hu=>by simpa using hu);obtain⟨v,hv,hr⟩:=qX (P:=P) (tok hT hi) a3 a4 hcell hy;have hv':(mu a.tmps (.cell s t)).run P w = .ok v w:=by
   have e1:a.tmps.getD s undef = .pointer (some ⟨g,0,none⟩):=a1;simp only [mu,e1];simpa [Instr.loadAt,Instr.sureAddr,asAddr] using hv
  refine⟨v::vs,by simp [KG,hv',g1],by simp [g2],by simp [g3],fun j=>?_⟩
  cases j with
  | zero =>
   simp only [an,nth,Ke];exact .inr (aQ (jo hk) (fun _ _=>rfl) hr)
  | succ j =>
   refine jY (fun _ g hg=>?_) (g4 j)
   obtain⟨e1,t',e2,e3⟩:=hg;exact⟨e1,t',by simpa using e2,e3⟩
 | [],_::_,_,hok,_=>by simp [ci] at hok
 | .tmp _::_,[],_,hok,_=>by simp [ci] at hok
 | .cell _ _::_,[],_,hok,_=>by simp [ci] at hok
 | .tmp _::_,.own _ _ true::_,_,hok,_=>by simp [ci] at hok
 | .tmp _::_,.box _ _ _::_,_,hok,_=>by simp [ci] at hok
 | .tmp _::_,.via _::_,_,hok,_=>by simp [ci] at hok
 | .tmp _::_,.ref _::_,_,hok,_=>by simp [ci] at hok
 | .tmp _::_,.tup _::_,_,hok,_=>by simp [ci] at hok
 | .tmp _::_,.no::_,_,hok,_=>by simp [ci] at hok
 | .cell _ _::_,.own _ _ _::_,_,hok,_=>by simp [ci] at hok
 | .cell _ _::_,.box _ _ _::_,_,hok,_=>by simp [ci] at hok
 | .cell _ _::_,.via _::_,_,hok,_=>by simp [ci] at hok
 | .cell _ _::_,.ref _::_,_,hok,_=>by simp [ci] at hok
 | .cell _ _::_,.tup _::_,_,hok,_=>by simp [ci] at hok
 | .cell _ _::_,.no::_,_,hok,_=>by simp [ci] at hok
def rk:List ResultVar→Nat→Nat→Option Nat
 | [],_,_=>none
 | .tmp t::l,s,j=>if t=s then some j else rk l s (j+1)
 | .cell _ _::l,s,j=>rk l s (j+1)
theorem pV:∀{res:List ResultVar} {j t:Nat},res[j]?=some (.tmp t)→t∈pW res
 | .tmp s::l,0,t,h=>by simp at h;simp [pW,h]
 | .cell _ _::l,0,t,h=>by simp at h
 | .tmp s::l,j+1,t,h=>by simp only [pW,JP];exact .inr (pV (by simpa using h))
 | .cell _ _::l,j+1,t,h=>by simp only [pW];exact pV (by simpa using h)
theorem lP:∀(res:List ResultVar) (rm:List Kd),ci c res rm=true→∀(j t i:Nat) (z lv:Nat),an rm j = .own z lv false→res[j]?=some (.tmp t)→rk res t i=some (i+j)∧∃z' l',an c.K t = .own z' l' false
 | [],[],_,j,t,i,z,lv,h,_=>by simp [an] at h
 | .tmp s::l,.dat lv'::m,hok,j,t,i,z,lv,h,hj=>by
  simp only [ci,JJ] at hok;cases j with
  | zero=>simp [an] at h
  | succ j =>
   obtain⟨h1,h2⟩:=lP l m hok.2 j t (i+1) z lv (by simpa [an] using h) (by simpa using hj);refine⟨?_,h2⟩
   simp only [rk];rw [if_neg,h1]
   ·congr 1;omega
   ·rintro rfl
    obtain⟨z',l',hk⟩:=h2;rw [hk] at hok;cases hok.1
 | .tmp s::l,.own z0 lv0 false::m,hok,j,t,i,z,lv,h,hj=>by
  simp only [ci,JJ] at hok;cases j with
  | zero =>
   simp at hj;subst hj;refine⟨by simp [rk],?_⟩
   have hk:=hok.1.1;split at hk
   ·exact⟨_,_,‹_›⟩
   ·cases hk
  | succ j =>
   obtain⟨h1,h2⟩:=lP l m hok.2 j t (i+1) z lv (by simpa [an] using h) (by simpa using hj);refine⟨?_,h2⟩
   simp only [rk];rw [if_neg,h1]
   ·congr 1;omega
   ·rintro rfl
    have hm:=hok.1.2;rw [ga] at hm;simp only [JR,decide_eq_false_iff_not] at hm;exact hm (pV (by simpa using hj))
 | .cell s s'::l,.dat lv'::m,hok,j,t,i,z,lv,h,hj=>by
  simp only [ci,JJ] at hok;cases j with
  | zero=>simp [an] at h
  | succ j =>
   obtain⟨h1,h2⟩:=lP l m hok.2 j t (i+1) z lv (by simpa [an] using h) (by simpa using hj);refine⟨?_,h2⟩
   simp only [rk];rw [h1];congr 1;omega
 | [],_::_,hok,_,_,_,_,_,_,_=>by simp [ci] at hok
 | .tmp _::_,[],hok,_,_,_,_,_,_,_=>by simp [ci] at hok
 | .cell _ _::_,[],hok,_,_,_,_,_,_,_=>by simp [ci] at hok
 | .tmp _::_,.own _ _ true::_,hok,_,_,_,_,_,_,_=>by simp [ci] at hok
 | .tmp _::_,.box _ _ _::_,hok,_,_,_,_,_,_,_=>by simp [ci] at hok
 | .tmp _::_,.via _::_,hok,_,_,_,_,_,_,_=>by simp [ci] at hok
 | .tmp _::_,.ref _::_,hok,_,_,_,_,_,_,_=>by simp [ci] at hok
 | .tmp _::_,.tup _::_,hok,_,_,_,_,_,_,_=>by simp [ci] at hok
 | .tmp _::_,.no::_,hok,_,_,_,_,_,_,_=>by simp [ci] at hok
 | .cell _ _::_,.own _ _ _::_,hok,_,_,_,_,_,_,_=>by simp [ci] at hok
 | .cell _ _::_,.box _ _ _::_,hok,_,_,_,_,_,_,_=>by simp [ci] at hok
 | .cell _ _::_,.via _::_,hok,_,_,_,_,_,_,_=>by simp [ci] at hok
 | .cell _ _::_,.ref _::_,hok,_,_,_,_,_,_,_=>by simp [ci] at hok
 | .cell _ _::_,.tup _::_,hok,_,_,_,_,_,_,_=>by simp [ci] at hok
 | .cell _ _::_,.no::_,hok,_,_,_,_,_,_,_=>by simp [ci] at hok
theorem rV {w:World} {F:Nat→Prop} {ow:Nat→Option Nat}:∀(pm:List Kd) (ds:List D) (ys:List Value) (i:Nat),cM w F ow i pm ds ys→ds.length=pm.length∧ys.length=pm.length∧∀(j:Nat),j<pm.length→eZ w F (fun g=>ow g=some (i+j)) (an pm j) (nth ds j) (ys.getD j undef)
 | [],[],[],_,_=>⟨rfl,rfl,fun j h=>by simp at h⟩
 | k::pm,d::ds,y::ys,i,h=>by
  obtain⟨h1,h2⟩:=h;obtain⟨g1,g2,g3⟩:=rV pm ds ys (i+1) h2;refine⟨by simp [g1],by simp [g2],fun j hj=>?_⟩
  cases j with
  | zero=>exact h1
  | succ j =>
   have:=g3 j (by simpa using hj);simp only [an,nth,List.getD_cons_succ];rw [show i+(j+1)=i+1+j from by omega];exact this
 | [],[],_::_,_,h=>h.elim
 | [],_::_,_,_,h=>h.elim
 | _::_,[],_,_,h=>h.elim
 | _::_,_::_,[],_,h=>h.elim
theorem xX {w:World} {F:Nat→Prop} {δ:List D}:∀(pm:List Kd) (ys:List Value) (i:Nat),ys.length=pm.length→(∀(j:Nat),j<pm.length→kh (an pm j)=true→nth δ (i+j) ≠ .bad∧eZ w F (fun _=>True) (an pm j) (nth δ (i+j)) (ys.getD j undef))→kW w F pm (ah δ (pb i pm)) ys
 | [],ys,i,_,_=>by simp [pb,ah,kW]
 | k::pm,[],i,hl,_=>by simp at hl
 | k::pm,y::ys,i,hl,h=>by
  have ih:=xX pm ys (i+1) (by simpa using hl) (fun j hj hio=>by
   have:=h (j+1) (by simpa using hj) (by simpa [an] using hio);rw [show i+1+j=i+(j+1) from by omega];simpa [an] using this)
  cases hk:kh k with
  | true =>
   have h0:=h 0 (by simp) (by simpa [an] using hk);simp only [pb,hk,if_true,ah,kW];exact⟨by simpa using h0.1,by simpa [an] using h0.2,ih⟩
  | false=>simpa only [pb,hk,Kq,if_false,kW] using ih
theorem sV:∀(pm:List Kd) (i j:Nat),j<pm.length→kh (an pm j)=true→i+j∈pb i pm
 | k::pm,i,0,_,h=>by
  simp only [an] at h;simp [pb,h]
 | k::pm,i,j+1,hj,h=>by
  have ih:=sV pm (i+1) j (by simpa using hj) (by simpa [an] using h);rw [show i+(j+1)=i+1+j from by omega];simp only [pb];split
  ·exact List.mem_cons_of_mem _ ih
  ·exact ih
theorem nZ:∀(n:Nat) (l:List D) (s:Nat),l.length≤n→nth (ny n l) s=nth l s
 | 0,l,s,h=>by
  have:l=[]:=Kh (by omega);subst this;simp [ny]
 | n+1,[],s,_=>by
  cases s with
  | zero=>simp [nth]
  | succ s=>simp only [nth];rw [nZ n [] s (by simp)]
 | n+1,d::l,s,h=>by
  cases s with
  | zero=>simp [nth]
  | succ s=>simp only [nth];exact nZ n l s (by simpa using h)
theorem oE:∀(n:Nat) (l:List D),(ny n l).length=n
 | 0,_=>rfl
 | n+1,[]=>by simp [ny,oE n []]
 | n+1,_::l=>by simp [ny,oE n l]
def BL (c:Cx) (fn:Func) (pm rm:List Kd):Bool :=
 (match fn.body with
  | some b=>cV c 0 b
  | none=>false)&&JT (iD c.K) fn.ntmps&&zL pm c.K&&gY pm&&ci c c.res rm&&decide (c.ios=pb 0 pm)
theorem qV:∀{pm:List Kd},gY pm=true→∀j,j<pm.length→(∃lv,an pm j = .dat lv∧lv≠1)∨(∃z lv,an pm j = .own z lv true∧lv≠1)∨∃n lv,an pm j = .box n lv true∧lv≠1
 | m::pm,h,j,hj=>by
  obtain⟨h1,h2,h3⟩:=xe h;cases j with
  | succ j=>exact qV h1 j (by simpa using hj)
  | zero =>
   simp only [an];cases m with
   | dat lv =>
    refine .inl ⟨lv,rfl,?_⟩
    simp only [gY] at h;split at h
    case h_2=>cases h
    rename_i e1 e2;intro e;subst e;simp at e1
   | own z lv io =>
    cases io
    ·simp [gY] at h
    ·exact .inr (.inl ⟨z,lv,rfl,h2 z lv rfl⟩)
   | box n lv io =>
    cases io
    ·simp [gY] at h
    ·exact .inr (.inr ⟨n,lv,rfl,h3 n lv rfl⟩)
   | _=>simp [gY] at h
theorem DX (hT:okT P c.T=true) (hS:∀f S,cR c.S f=some S→aF c.G P f S) (hm:P.follows .mixedOrders=true) {f:FuncId} {fn:Func} (hf:P.funcs[f]?=some fn) {pm rm:List Kd} (hok:BL c fn pm rm=true) (hres:c.res=fn.results.toList)
  {ds rs us:List D} (hd:bW c fn ds=some (.ret rs us)) {args:Array Value} {w:World} {F:Nat→Prop} {ow:Nat→Option Nat} (hgl:gOk c.G w F) (ha:cM w F ow 0 pm ds args.toList) (hF:∀b,F b→b<w.heap.size∧ow b=none) (hO:∀b i,ow b=some i→b<w.heap.size) :
  Calls P f args w fun e w'=>∃v,e = .returned v∧∃F' R vs,v=iw vs∧CallPost {pm:=pm,rm:=rm,f:=bW c fn} args rs us w F ow F' R vs w':=by
 unfold BL at hok;simp only [JJ,decide_eq_true_eq] at hok;obtain⟨⟨⟨⟨⟨hcode,hlenK⟩,hpre⟩,hpm⟩,hokr⟩,hios⟩:=hok;rw [aL,jz] at hlenK;obtain⟨hpl,hpn⟩:=rW hpre;obtain⟨hdl,hal,hargs⟩:=rV pm ds args.toList 0 ha;have hasz:args.size=pm.length:=by simpa using hal
 unfold bW at hd;cases hb:fn.body with
 | none=>rw [hb] at hd;cases hd
 | some b =>
  rw [hb] at hd hcode;simp only at hd hcode;refine calls_of_wp hf hb ?_
  have hav:∀s,s<pm.length→av ({tmps:=args++Kg (fn.ntmps - args.size) undef,defers:=[]}:Act) s=args.toList.getD s undef:=fun s hs=>by
   have h1:s<args.size:=by omega
   simp only [av,JM,JL,Kj];rw [Kx h1]
  have hinit:Inv c w.heap.size (fun b=>ow b≠none) w F F (fun b=>(ow b).map fun i=>(i,0)) {tmps:=args++Kg (fn.ntmps - args.size) undef,defers:=[]} w (ny fn.ntmps ds):=by
   refine⟨by simp;omega,by rw [oE,hlenK],rfl,fun s=>?_,fun b hb=>⟨(hF b hb).1,by simp [(hF b hb).2]⟩,fun b p hp=>?_,fun _ h=>h,fun _ h=>.inl h,KT _,rfl,rfl,rfl,fun _ _ _=>rfl,hgl⟩
   ·unfold sG
    rw [nZ _ _ _ (by rw [hdl];omega)];by_cases hs:s<pm.length
    ·rw [hpn s hs,hav s hs]
     rcases hargs s hs with hbad | harg
     ·exact .inl hbad
     refine .inr ?_
     have hlv:∀lv,lv≠1→∀b,FB F 0 lv b→FB F w.heap.size lv b:=fun lv h1 b hb=>by
      match lv,h1 with
      | 0,_=>exact hb
      | _+2,_=>exact hb
     rcases qV hpm s hs with ⟨lv,hk,h1⟩ | ⟨z,lv,hk,h1⟩ | ⟨n,lv,hk,h1⟩
     ·rw [hk] at harg ⊢
      exact .inr (aQ (hlv lv h1) (fun _ _=>rfl) harg)
     ·rw [hk] at harg ⊢
      exact .inr (cI (hlv lv h1) (fun _ _=>rfl) (fun g _ hg=>⟨⟨by simp only [KM] at hg;simp [hg],fun h=>by cases h⟩,rfl⟩) harg)
     ·rw [hk] at harg ⊢
      exact .inr (gi (hlv lv h1) (fun _ _=>rfl) (fun g _ hg=>⟨⟨by simp only [KM] at hg;simp [hg],fun h=>by cases h⟩,rfl⟩) harg)
    ·refine .inl ?_
     rw [eX,JL,Ki (by omega)];rfl
   ·obtain⟨i,hi,rfl⟩:=JK.1 hp
    exact⟨hO b i hi,.inr (by rw [hi];simp)⟩
  refine iA hT hS hm b 0 hcode F _ _ w _ hinit (V:=av {tmps:=args++Kg (fn.ntmps - args.size) undef,defers:=[]}) (fun _ _=>rfl) _ _ hd _ (fun e a' w' hp=>?_)
  have fin:fQ c w.heap.size (fun b=>ow b≠none) w F (av {tmps:=args++Kg (fn.ntmps - args.size) undef,defers:=[]}) (fun δ=>Bf c δ some) (.ret rs us) a' w'→a'.defers=[]∧∃v,(results fn a'.tmps).run P w' = .ok v w'∧∃v',Ending.returned v = .returned v'∧∃F' R vs,v'=iw vs∧CallPost {pm:=pm,rm:=rm,f:=bW c fn} args rs us w F ow F' R vs w':=by
   rintro⟨⟨F',O',δ',hI',hk⟩,hV'⟩;obtain⟨rs',h1,h2,h3⟩:=iS hk;simp only [JN,Out.ret.injEq] at h3;obtain⟨rfl,rfl⟩:=h3;obtain⟨vs,g1,g2,g3,g4⟩:=rI (P:=P) hT hI' c.res rm rs' hokr h1;refine⟨hI'.df,iw vs,?_,_,rfl,F',fun b=>if w.heap.size≤b then(match O' b with
    | some (t,0)=>rk c.res t 0
    | _=>none) else none,vs,rfl,?_⟩
   ·have hrun:(fn.results.mapM (mu a'.tmps)).run P w' = .ok vs.toArray w':=by
     rw [Array.mapM_eq_mapM_toList,←hres];simp [g1]
    have hrw:results fn a'.tmps=(do
      let vs ←fn.results.mapM (mu a'.tmps)
      pure (if h:vs.size=1 then vs[0] else .tuple vs)):=by
     unfold results;congr 1
    rw [hrw];simp only [Sem.run_bind,hrun,Result.andThen_ok,Sem.run_pure];congr 1
    rcases vs with _ | ⟨y,_ | ⟨y',vs⟩⟩
    ·simp [iw]
    ·simp [iw]
    ·simp [iw]
   ·refine⟨hI'.os,hI'.tape,hI'.output,hI'.bb,fun b hb ho=>hI'.keep b hb (by simp [ho]),hI'.f0,fun b hb=>⟨hI'.fn b hb,(hI'.fl b hb).1,by simp only [(hI'.fl b hb).2];split<;>rfl⟩,fun b j hj=>?_,g2,g3,fun j=>?_,?_⟩
    ·split at hj
     case isFalse=>cases hj
     rename_i hB;refine⟨hB,?_⟩
     split at hj
     ·rename_i t he;exact(hI'.ol b _ he).1
     ·cases hj
    ·refine jY (fun hk g hg=>?_) (g4 j)
     obtain⟨z,lv,hk⟩:=hk;obtain⟨e1,t,e2,e3⟩:=hg;rw [if_pos e1];simp only [e3];have:=(lP c.res rm hokr j t 0 z lv hk e2).1;simpa using this
    ·rw [hios]
     refine xX pm args.toList 0 hal (fun j hj hio=>?_)
     rw [KM];have hkj:=hpn j hj;have hbj:nth δ' j ≠ .bad:=by
      refine h2 _ ?_
      rw [hios,lV];exact List.mem_map_of_mem (by simpa using sV pm 0 j hj hio)
     have havj:av a' j=args.toList.getD j undef:=(hV' j (by rw [hkj];exact hio)).trans (hav j hj);have hlv:∀lv,lv≠1→∀b,FB F' w.heap.size lv b→FB F' 0 lv b:=fun lv h1 b hb=>by
      match lv,h1 with
      | 0,_=>exact hb
      | _+2,_=>exact hb
     refine⟨hbj,.inr ?_⟩
     rcases qV hpm j hj with ⟨lv,hk,h1⟩ | ⟨z,lv,hk,h1⟩ | ⟨n,lv,hk,h1⟩
     ·rw [hk] at hio;cases hio
     ·have h5:=hI'.own (hkj.trans hk) hbj
      rw [havj] at h5;rw [hk];exact cI (hlv lv h1) (fun _ _=>rfl) (fun _ _ _=>⟨trivial,rfl⟩) h5
     ·have h5:=hI'.box (hkj.trans hk) hbj
      rw [havj] at h5;rw [hk];exact gi (hlv lv h1) (fun _ _=>rfl) (fun _ _ _=>⟨trivial,rfl⟩) h5
  cases e with
  | normal=>exact fin hp
  | exit i =>
   obtain⟨⟨_,_,_,_,h⟩,_⟩:=hp;cases h
  | ret =>
   refine fin (ir hp fun δ F O _ h=>?_)
   obtain⟨rs',h1,h2,h3⟩:=iS h;exact ud h1 h2 h3
  | _=>exact hp.elim
theorem AR (hT:okT P c.T=true) (hS:∀f S,cR c.S f=some S→aF c.G P f S) (hm:P.follows .mixedOrders=true) {f:FuncId} {fn:Func} (hf:P.funcs[f]?=some fn) (hname:(fn.name== "runtime.NumGoroutine")=false) {pm rm:List Kd} (hok:BL c fn pm rm=true) (hres:c.res=fn.results.toList) :
  aF c.G P f {pm:=pm,rm:=rm,f:=bW c fn}:=by
 intro ds rs us hd args w F ow hgl ha hF hO o a next Q hn
 have hbody:∃b,fn.body=some b:=by
  have hd':bW c fn ds=some (.ret rs us):=hd;unfold bW at hd';cases hb:fn.body with
  | none=>rw [hb] at hd';cases hd'
  | some b=>exact⟨b,rfl⟩
 obtain⟨b,hb⟩:=hbody;have hrun:(callFunc f args).run P w = .ok (.enter f args) w:=by
  have h1:¬fn.name= "runtime.NumGoroutine":=by simpa using hname
  simp [callFunc,hf,h1,hb]
 rw [hrun,KE];refine KH (DX hT hS hm hf hok hres hd hgl ha hF hO) (fun e w' he=>?_)
 obtain⟨v,rfl,F',R,vs,h1,h2⟩:=he;exact hn v w' ⟨F',R,vs,h1,h2⟩
end
end Go.V

namespace Go.V
set_option maxRecDepth 100000
def sl (s:List D) (i:Nat):D:=nth s i
def ifN (b:Bool) (t e:Option Out):Option Out :=
 match b with
 | true=>t
 | false=>e
theorem aH {P:Program} {G:List (Nat × (Obj→Prop))}:∀(f:Nat) (S:FS),cR ([]:List (Nat × FS)) f=some S→aF G P f S:=by
 intro f S h;cases h
theorem af {P:Program} {G:List (Nat × (Obj→Prop))} {g:Nat} {S0:FS} {l:List (Nat × FS)} (h0:aF G P g S0) (h:∀(f:Nat) (S:FS),cR l f=some S→aF G P f S):∀(f:Nat) (S:FS),cR ((g,S0)::l) f=some S→aF G P f S:=by
 intro f S hl;simp only [cR] at hl;split at hl
 ·rename_i hb
  have:=aL.1 hb;subst this;cases hl;exact h0
 ·exact h f S hl
theorem bX {P:Program} {G G':List (Nat × (Obj→Prop))} {f:Nat} {S:FS} (h:∀p∈G,p∈G') (hm:aF G P f S):aF G' P f S :=
 fun ds rs us hd args w F ow hg=>hm ds rs us hd args w F ow fun p hp=>hg p (h p hp)
open Classical in
def CG (R:Nat→List D→Option Out) (ds:List D):Option Out :=
 if h:∃n,(R n ds).isSome=true then R (Ka h) ds else none
theorem Dg {R:Nat→List D→Option Out} {ds:List D} {r:Out} (h:CG R ds=some r):∃n,R n ds=some r:=by
 unfold CG at h;split at h
 ·exact⟨_,h⟩
 ·cases h
theorem Gh {R:Nat→List D→Option Out} {ds:List D} {r:Out} (h:∀n o,R n ds=some o→o=r) (n:Nat) (hn:R n ds=some r):CG R ds=some r:=by
 unfold CG;have hx:∃n,(R n ds).isSome=true:=⟨n,by rw [hn];rfl⟩
 rw [dif_pos hx];obtain⟨o,ho⟩:=Option.isSome_iff_exists.1 (JW hx);rw [ho,h _ _ ho]
theorem Bi {P:Program} {G:List (Nat × (Obj→Prop))} {f:Nat} {S:FS} (h:∀ds,S.f ds=none):aF G P f S:=by
 intro ds rs us hd;rw [h] at hd;cases hd
theorem Dm {P:Program} {G:List (Nat × (Obj→Prop))} {f:Nat} {pm rm:List Kd} {R:Nat→List D→Option Out} (h:∀n,aF G P f {pm:=pm,rm:=rm,f:=R n}):aF G P f {pm:=pm,rm:=rm,f:=CG R}:=by
 intro ds rs us hd args w F ow hg ha hF hO o a next Q hq
 obtain⟨n,hn⟩:=Dg hd;refine h n ds rs us hn args w F ow hg ha hF hO o a next Q fun v w' hv=>?_
 obtain⟨F',R',vs,h1,h2⟩:=hv;exact hq v w' ⟨F',R',vs,h1,⟨h2.os,h2.tape,h2.output,h2.size,h2.keep,h2.f0,h2.fn,h2.rn,h2.len,h2.lenD,h2.res,h2.us⟩⟩
open Go.RowKit
set_option maxRecDepth 100000
section
variable {P:Program} {G:List (Nat × (Obj→Prop))}
theorem gR {f:FuncId} {S:FS} (he:∀args w,(callFunc f args).run P w = .ok (.enter f args) w)
  (h:∀ds rs us,S.f ds=some (.ret rs us)→∀(args:Array Value) (w:World) (F:Nat→Prop) (ow:Nat→Option Nat),gOk G w F→cM w F ow 0 S.pm ds args.toList→(∀b,F b→b<w.heap.size∧ow b=none)→(∀b i,ow b=some i→b<w.heap.size) →
   Calls P f args w fun e w'=>∃v,e = .returned v∧∃F' R vs,v=iw vs∧CallPost S args rs us w F ow F' R vs w'):aF G P f S:=by
 intro ds rs us hd args w F ow hg ha hF hO o a next Q hn
 rw [he,KE];refine KH (h ds rs us hd args w F ow hg ha hF hO) (fun e w' hv=>?_)
 obtain⟨v,rfl,F',R,vs,h1,h2⟩:=hv;exact hn v w' ⟨F',R,vs,h1,h2⟩
theorem sF {w:World} {F:Nat→Prop}:∀(ks:List Kd) (ys:List Value),(ks.all fun k=>!kh k)=true→ks.length=ys.length→kW w F ks [] ys
 | [],[],_,_=>trivial
 | k::ks,y::ys,h,hl=>by
  simp only [List.all_cons,JJ,JR] at h;simp only [kW,h.1];exact sF ks ys h.2 (by simpa using hl)
 | [],_::_,_,hl=>by cases hl
 | _::_,[],_,hl=>by cases hl
theorem uI {w:World} {F:Nat→Prop} {ow:Nat→Option Nat}:∀(ks:List Kd) (ds:List D) (ys:List Value) (i:Nat),cM w F ow i ks ds ys→ds.length=ks.length∧ys.length=ks.length
 | [],[],[],_,_=>⟨rfl,rfl⟩
 | k::ks,d::ds,y::ys,i,h=>by
  obtain⟨h1,h2⟩:=uI ks ds ys (i+1) h.2;exact⟨by simp [h1],by simp [h2]⟩
 | [],_::_,_,_,h=>h.elim
 | [],[],_::_,_,h=>h.elim
 | _::_,[],_,_,h=>by cases ‹List Value›<;>exact h.elim
 | _::_,_::_,[],_,h=>h.elim
theorem Es {w:World} {F:Nat→Prop} {ow:Nat→Option Nat} {k:Kd} {ds:List D} {l:List Value} (h:cM w F ow 0 [k] ds l):∃d y,ds=[d]∧l=[y]∧eZ w F (fun g=>ow g=some 0) k d y:=by
 match ds,l,h with
 | [d],[y],h=>exact⟨d,y,rfl,rfl,h.1⟩
 | [],l,h=>cases l<;>exact h.elim
 | d::d'::ds,l,h =>
  match l,h with
  | [],h=>exact h.elim
  | [y],h=>exact h.2.elim
  | y::y'::ys,h=>exact h.2.elim
 | [d],[],h=>exact h.elim
 | [d],y::y'::ys,h=>exact h.2.elim
theorem Ec {w:World} {F:Nat→Prop} {ow:Nat→Option Nat} {k k':Kd} {ds:List D} {l:List Value} (h:cM w F ow 0 [k,k'] ds l) :
  ∃d y d' y',ds=[d,d']∧l=[y,y']∧eZ w F (fun g=>ow g=some 0) k d y∧eZ w F (fun g=>ow g=some 1) k' d' y':=by
 obtain⟨h1,h2⟩:=uI _ _ _ _ h
 match ds,l,h1,h2,h with
 | [d,d'],[y,y'],_,_,h=>exact⟨d,y,d',y',rfl,rfl,h.1,h.2.1⟩
theorem Jd {w:World} {F own:Nat→Prop} {lv:Nat} {x y:Value} (h:eZ w F own (.dat lv) (.v x) y):y=x∧flat x=true:=by
 rcases h with h | h
 ·cases h
 ·exact eT.1 h
theorem Fw {S:FS} {args:Array Value} {rs:List D} {vs:List Value} {w w':World} {F:Nat→Prop} {ow:Nat→Option Nat} (R:Nat→Option Nat) (hB:Below w.heap.size w w') (hF:∀b,F b→b<w.heap.size∧ow b=none)
  (hR:∀b j,R b=some j→w.heap.size≤b∧b<w'.heap.size) (hio:(S.pm.all fun k=>!kh k)=true) (hl:S.pm.length=args.size) (h1:vs.length=S.rm.length) (h2:rs.length=S.rm.length)
  (hres:∀j,vP w' F w.heap.size (fun g=>R g=some j) (an S.rm j) (nth rs j) (vs.getD j undef)):CallPost S args rs [] w F ow F R vs w' :=
 ⟨hB.os,hB.tape,hB.output,hB.size,fun b hb _=>hB.block b hb,fun _ h=>h,fun b hb=>⟨.inl hb,Kp (hF b hb).1 hB.size,by
  cases h:R b with
  | none=>rfl
  | some j=>exact absurd (hR b j h).1 (Nat.not_le.2 (hF b hb).1)⟩,hR,h1,h2,hres,sF _ _ hio (by simpa using hl)⟩
theorem sZ {S:FS} {args:Array Value} {w w':World} {F:Nat→Prop} {ow:Nat→Option Nat} (hB:Below w.heap.size w w') (hF:∀b,F b→b<w.heap.size∧ow b=none) (hio:(S.pm.all fun k=>!kh k)=true) (hl:S.pm.length=args.size)
  (rs:List D) (vs:List Value) (hrm:S.rm=rs.map fun _=>.dat 0) (hv:vs.length=rs.length) (h:∀(j:Nat) (d:D),rs[j]?=some d→∃y:Value,vs[j]?=some y∧aT w' (fun _=>False) d y):CallPost S args rs [] w F ow F (fun _=>none) vs w':=by
 refine Fw _ hB hF (fun b j h=>by cases h) hio hl (by rw [hrm,hv];simp) (by rw [hrm];simp) (fun j=>?_)
 rw [eX,JL];cases hj:rs[j]? with
 | none=>exact .inl rfl
 | some d =>
  obtain⟨y,h1,h2⟩:=h j d hj;have hk:an S.rm j = .dat 0:=by
   rw [hrm];clear hrm h hv h1 h2;induction rs generalizing j with
   | nil=>simp at hj
   | cons r rs ih =>
    cases j with
    | zero=>rfl
    | succ j=>exact ih j (by simpa using hj)
  refine .inr ?_
  rw [hk,JL,h1];exact aQ (fun b hb=>hb.elim) (fun _ _=>rfl) h2
theorem wa {w:World} {F:Nat→Prop}:∀(l:List ByteArray),bs w F (l.map T) (l.map KN)
 | []=>aJ.2 rfl
 | s::l=>aw.2 ⟨[.string s],l.map KN,rfl,by simp only [RepC];exact⟨trivial,rfl⟩,wa l⟩
end
end Go.V

namespace Go.V
open Go.RowKit Go.Shelf
set_option maxRecDepth 100000
section
variable {P:Program} {ρ:Ren} {G:List (Nat × (Obj→Prop))}
def rK (o:Obj):Prop:=∃e fr,o = .cells (KO.map fun z=>Value.int .u64 z).toArray e fr
theorem BJ {w:World} {g:Nat} (hn:P.globalNamed "internal/strconv.uint64pow10"=some g) (h:KP P w "internal/strconv.uint64pow10" .u64 KO):∃o,w.heap[g]?=some o∧rK o:=by
 simp only [KP,World.var?,hn,JO] at h;split at h
 ·rename_i cs e fr ho
  cases h;exact⟨_,ho,e,fr,rfl⟩
 ·cases h
theorem GW {w:World} {F:Nat→Prop} {g:Nat} (hg:gOk G w F) (hm:(g,rK)∈G) (hn:P.globalNamed "internal/strconv.uint64pow10"=some g):KP P w "internal/strconv.uint64pow10" .u64 KO:=by
 obtain⟨_,o,ho,e,fr,rfl⟩:=hg _ hm;simp [KP,World.var?,hn,ho]
theorem Jg {args:Array Value} {y y':Value} (h:args.toList=[y,y']):args=#[y,y']:=by
 apply Array.ext';rw [h]
theorem IQ {args:Array Value} {y:Value} (h:args.toList=[y]):args=#[y]:=by
 apply Array.ext';rw [h]
def nE:List D→Option Out
 | [.v (.int .i64 n)]=>if -9223372036854775808≤n∧n≤9223372036854775807 then some (.ret [T ⟨(Lib.itoa n).toArray⟩] []) else none
 | _=>none
@[reducible] def FD:FS:={pm:=[.dat 0],rm:=[.dat 0],f:=nE}
theorem HI (L:Go.Proofs.LaysM.n171 P ρ) {f:Nat} (hf:ρ.f 171=f) {g:Nat} (hm:(g,rK)∈G) (hn:P.globalNamed "internal/strconv.uint64pow10"=some g):aF G P f FD:=by
 subst hf;have he:∀args w,(callFunc (ρ.f 171) args).run P w = .ok (.enter (ρ.f 171) args) w:=KI L.f171 (by kernel_rfl) rfl;refine gR he fun ds rs us hd args w F ow hg ha hF _=>?_
 obtain⟨d,y,rfl,h2,h3⟩:=Es ha;replace hd:nE [d]=some (.ret rs us):=hd;unfold nE at hd;split at hd
 case h_2=>cases hd
 rename_i n e;cases e;split at hd
 case isFalse=>cases hd
 rename_i hr;cases hd;obtain⟨rfl,_⟩:=Jd h3;rw [IQ h2];refine(Go.Proofs.Any.strconv_Itoa L n hr.1 hr.2 w (GW hg hm hn)).mono ?_
 rintro e w' ⟨rfl,k,os,rfl⟩;refine⟨_,rfl,F,_,[_],rfl,sZ (below_itoa w k os) hF rfl rfl [_] [_] rfl rfl fun j d hj=>?_⟩
 match j,hj with
 | 0,hj =>
  simp only [JV,JN] at hj;subst hj;exact⟨_,rfl,gx rfl⟩
where
 below_itoa (w:World) (k:Nat) (os:Array Obj):Below w.heap.size w (KQ (w.drewN k) os) :=
  ⟨rfl,rfl,rfl,by simp [KQ,World.drewN],fun b hb=>by simp [KQ,World.drewN,Kx hb]⟩
end
end Go.V

namespace Go.V
open Go.RowKit Go.Shelf
set_option maxRecDepth 100000
section
variable {P:Program} {ρ:Ren} {G:List (Nat × (Obj→Prop))}
def dG:List D→Option (List ByteArray)
 | []=>some []
 | .v (.string s)::l=>(dG l).map (s::·)
 | _=>none
theorem tv:∀(l:List D) (xs:List ByteArray),dG l=some xs→l=xs.map T
 | [],xs,h=>by simp [dG] at h;subst h;rfl
 | .v (.string s)::l,xs,h=>by
  simp only [dG] at h;obtain⟨ys,h1,rfl⟩:=JK.1 h;rw [tv l ys h1];rfl
 | .v (.bool _)::_,_,h=>by simp [dG] at h
 | .v (.int _ _)::_,_,h=>by simp [dG] at h
 | .arr _ _::_,_,h=>by simp [dG] at h
 | .agg _::_,_,h=>by simp [dG] at h
 | .ptr _::_,_,h=>by simp [dG] at h
 | .clo _ _::_,_,h=>by simp [dG] at h
 | .ifc::_,_,h=>by simp [dG] at h
 | .tup _::_,_,h=>by simp [dG] at h
 | .ref _ _::_,_,h=>by simp [dG] at h
 | .bad::_,_,h=>by simp [dG] at h
theorem xA:∀(xs:List ByteArray),dG (xs.map T)=some xs
 | []=>rfl
 | x::xs=>by simp [dG,xA xs]
theorem pc {w:World} {F:Nat→Prop}:∀(xs:List ByteArray) (us:List Value),bs w F (xs.map T) us→us=xs.map KN
 | [],us,h=>aJ.1 h
 | x::xs,us,h=>by
  obtain⟨v1,v2,rfl,h1,h2⟩:=aw.1 h;simp only [RepC] at h1;rw [pc xs v2 h2,h1.1];rfl
def pU (xs:List ByteArray) (sep:ByteArray):ByteArray:=⟨(Lib.join (xs.map (·.data.toList)) sep.data.toList).toArray⟩
def xy:List D→Option Out
 | [.arr _ l,.v (.string sep)]=>(dG l).bind fun xs=>if xs.length≤140737488355328∧(pU xs sep).size≤140737488355328 then some (.ret [T (pU xs sep)] []) else none
 | _=>none
@[reducible] def FE:FS:={pm:=[.dat 2,.dat 0],rm:=[.dat 0],f:=xy}
theorem Hv (L:Go.Proofs.Lays.n156 P ρ) (X:Go.Proofs.Builder.Extra P ρ) {f:Nat} (hf:ρ.f 156=f):aF G P f FE:=by
 subst hf;have he:∀args w,(callFunc (ρ.f 156) args).run P w = .ok (.enter (ρ.f 156) args) w:=KI L.f156 (by kernel_rfl) rfl;refine gR he fun ds rs us hd args w F ow hg ha hF _=>?_
 obtain⟨d,y,d',y',rfl,h2,h3,h4⟩:=Ec ha;replace hd:xy [d,d']=some (.ret rs us):=hd;unfold xy at hd;split at hd
 case h_2=>cases hd
 rename_i z l sep e;cases e;obtain⟨xs,hx,hd⟩:=JI.1 hd;split at hd
 case isFalse=>cases hd
 rename_i hz;cases hd;obtain rfl:=tv _ _ hx;obtain⟨rfl,_⟩:=Jd h4;rcases h3 with h3 | h3
 ·cases h3
 simp only [aT,RepC] at h3;obtain⟨A,c,us,hy,hc,hr,_,hA⟩:=h3;simp only [JS,and_true] at hy;subst hy;have hus:=pc xs us hr;subst hus;rw [Jg h2];by_cases hne:xs=[]
 ·subst hne
  refine(Go.Proofs.Any.strings_Join_none L X A c sep w).mono ?_
  rintro e w' ⟨rfl,rfl⟩;refine⟨_,rfl,F,_,[_],rfl,sZ (Below.refl _ _) hF rfl rfl [_] [_] rfl rfl fun j d hj=>?_⟩
  match j,hj with
  | 0,hj =>
   simp only [JV,JN] at hj;subst hj;exact⟨_,rfl,eT.2 ⟨rfl,rfl⟩⟩
 ·obtain⟨b,o,rfl,hFb,hcells⟩:=hA (by simpa using hne)
  rw [List.length_map] at hc ⊢;refine(Go.Proofs.Any.strings_Join L X b o c xs sep w (fun j x hj=>hcells j _ (by simp [hj])) (hF b hFb).1 hz.1 hc (by simpa [pU,ByteArray.size] using hz.2)).mono ?_
  rintro e w' ⟨rfl,hB⟩;refine⟨_,rfl,F,_,[_],rfl,sZ hB hF rfl rfl [_] [_] rfl rfl fun j d hj=>?_⟩
  match j,hj with
  | 0,hj =>
   simp only [JV,JN] at hj;subst hj;exact⟨_,rfl,eT.2 ⟨rfl,rfl⟩⟩
theorem eE {f:FuncId} {S:FS} (he:∀args w,(callFunc f args).run P w = .ok (.enter f args) w) (hm:aF G P f S) {ds rs us:List D} (hd:S.f ds=some (.ret rs us)) {args:Array Value} {w:World} {F:Nat→Prop} {ow:Nat→Option Nat}
  (hgl:gOk G w F) (ha:cM w F ow 0 S.pm ds args.toList) (hF:∀b,F b→b<w.heap.size∧ow b=none) (hO:∀b i,ow b=some i→b<w.heap.size) :
  Calls P f args w fun e w'=>∃v,e = .returned v∧∃F' R vs,v=iw vs∧CallPost S args rs us w F ow F' R vs w':=by
 have h2:=hm ds rs us hd args w F ow hgl ha hF hO {(default:Oper) with dst:=some 0} {tmps:=#[undef],defers:=[]} (fun a w'=>∃F' R vs,a.tmps.getD 0 undef=iw vs∧CallPost S args rs us w F ow F' R vs w') (fun _ _ _=>False) (fun v w' h=>by
  obtain⟨F',R,vs,rfl,h⟩:=h;exact⟨F',R,vs,by simp [KR],h⟩)
 rw [he,KE] at h2;refine KH h2 fun e w' he=>?_
 cases e with
 | returned v =>
  obtain⟨F',R,vs,h3,h4⟩:=he;exact⟨v,rfl,F',R,vs,by simpa [KR] using h3,h4⟩
 | panicked c=>exact he.elim
 | outgrown=>obtain⟨_,_,h⟩:=he;exact h.elim
end
end Go.V

namespace Go.Proofs
open Go.Shelf
def Tryd.lays156_ren:Go.Shelf.Ren:=⟨fun | 156=>35 | 165=>50 | 166=>51 | 169=>52 | 240=>64 | 241=>65 | 276=>77 | 277=>78 | n=>n,fun | 31=>40 | 9=>9 | 3=>3 | 4=>4 | 0=>0 | 20=>20 | 72=>78 | 76=>82 | 70=>76 | 37=>22 | 75=>81 | 127=>95 | 164=>107 | 5=>5 | 80=>84 | n=>n,fun | n=>n⟩
theorem Tryd.lays156:Go.Proofs.Lays.n156 Tryd.prog Tryd.lays156_ren:={
 mixed:=by kernel_rfl
 f156:=Tryd.func35.trans (congrArg some (by kernel_rfl))
 f165:=Tryd.func50.trans (congrArg some (by kernel_rfl))
 f166:=Tryd.func51.trans (congrArg some (by kernel_rfl))
 f169:=Tryd.func52.trans (congrArg some (by kernel_rfl))
 f240:=Tryd.func64.trans (congrArg some (by kernel_rfl))
 f241:=Tryd.func65.trans (congrArg some (by kernel_rfl))
 f276:=Tryd.func77.trans (congrArg some (by kernel_rfl))
 f277:=Tryd.func78.trans (congrArg some (by kernel_rfl))
 t0:=Tryd.underlying0
 a0:=Tryd.isAgg0
 z0:=Tryd.sizeOf0
 v0:=Tryd.zeroValue0
 t3:=Tryd.underlying3
 a3:=Tryd.isAgg3
 z3:=Tryd.sizeOf3
 v3:=Tryd.zeroValue3
 t4:=Tryd.underlying4
 a4:=Tryd.isAgg4
 z4:=Tryd.sizeOf4
 v4:=Tryd.zeroValue4
 t9:=Tryd.underlying9
 a9:=Tryd.isAgg9
 z9:=Tryd.sizeOf9
 v9:=Tryd.zeroValue9
 t20:=Tryd.underlying20
 a20:=Tryd.isAgg20
 z20:=Tryd.sizeOf20
 v20:=Tryd.zeroValue20
 t31:=Tryd.underlying40
 a31:=Tryd.isAgg40
 z31:=Tryd.sizeOf40
 v31:=Tryd.zeroValue40
 t37:=Tryd.underlying22
 a37:=Tryd.isAgg22
 z37:=Tryd.sizeOf22
 v37:=Tryd.zeroValue22
 t70:=Tryd.underlying76
 a70:=Tryd.isAgg76
 z70:=Tryd.sizeOf76
 v70:=Tryd.zeroValue76
 t72:=Tryd.underlying78
 a72:=Tryd.isAgg78
 z72:=Tryd.sizeOf78
 v72:=Tryd.zeroValue78
 t75:=Tryd.underlying81
 a75:=Tryd.isAgg81
 z75:=Tryd.sizeOf81
 v75:=Tryd.zeroValue81
 t76:=Tryd.underlying82
 a76:=Tryd.isAgg82
 z76:=Tryd.sizeOf82
 v76:=Tryd.zeroValue82
 t127:=Tryd.underlying95
 a127:=Tryd.isAgg95
 z127:=Tryd.sizeOf95
 v127:=Tryd.zeroValue95
 t164:=Tryd.underlying107
 a164:=Tryd.isAgg107
 z164:=Tryd.sizeOf107
 v164:=Tryd.zeroValue107}
theorem Tryd.Builder_Extra_156:Builder.Extra Tryd.prog Tryd.lays156_ren:={
 sizeBuilder:=by kernel_rfl
 liesBuilder:=by kernel_rfl
 t5:=Tryd.underlying5
 a5:=Tryd.isAgg5
 z5:=Tryd.sizeOf5
 v5:=Tryd.zeroValue5
 infoByte:=by kernel_rfl
 cellsByte:=by kernel_rfl
 sizeByte:=by kernel_rfl
 neB5:=by decide}
def Tryd.laysM171_ren:Go.Shelf.Ren:=⟨fun | 171=>26 | 243=>45 | 246=>61 | 283=>72 | 284=>73 | 285=>74 | 286=>75 | 129=>83 | 317=>82 | 318=>84 | 319=>85 | 320=>86 | 337=>88 | 338=>89 | n=>n,fun | 3=>3 | 9=>9 | 2=>2 | 4=>4 | 171=>101 | 0=>0 | 53=>62 | 37=>22 | 5=>5 | 173=>104 | 212=>115 | 51=>116 | 20=>20 | 213=>117 | 46=>110 | 232=>123 | 233=>124 | n=>n,fun | 17=>0 | 18=>2 | 19=>3 | n=>n⟩
theorem Tryd.laysM171:Go.Proofs.LaysM.n171 Tryd.prog Tryd.laysM171_ren:={
 mixed:=by kernel_rfl
 f129:=Tryd.func83.trans (congrArg some (by kernel_rfl))
 f171:=Tryd.func26.trans (congrArg some (by kernel_rfl))
 f243:=Tryd.func45.trans (congrArg some (by kernel_rfl))
 f246:=Tryd.func61.trans (congrArg some (by kernel_rfl))
 f283:=Tryd.func72.trans (congrArg some (by kernel_rfl))
 f284:=Tryd.func73.trans (congrArg some (by kernel_rfl))
 f285:=Tryd.func74.trans (congrArg some (by kernel_rfl))
 f286:=Tryd.func75.trans (congrArg some (by kernel_rfl))
 f317:=Tryd.func82.trans (congrArg some (by kernel_rfl))
 f318:=Tryd.func84.trans (congrArg some (by kernel_rfl))
 f319:=Tryd.func85.trans (congrArg some (by kernel_rfl))
 f320:=Tryd.func86.trans (congrArg some (by kernel_rfl))
 f337:=Tryd.func88.trans (congrArg some (by kernel_rfl))
 f338:=Tryd.func89.trans (congrArg some (by kernel_rfl))
 t0:=Tryd.underlying0
 a0:=Tryd.isAgg0
 z0:=Tryd.sizeOf0
 v0:=Tryd.zeroValue0
 t2:=Tryd.underlying2
 a2:=Tryd.isAgg2
 z2:=Tryd.sizeOf2
 v2:=Tryd.zeroValue2
 t3:=Tryd.underlying3
 a3:=Tryd.isAgg3
 z3:=Tryd.sizeOf3
 v3:=Tryd.zeroValue3
 t4:=Tryd.underlying4
 a4:=Tryd.isAgg4
 z4:=Tryd.sizeOf4
 v4:=Tryd.zeroValue4
 t5:=Tryd.underlying5
 a5:=Tryd.isAgg5
 z5:=Tryd.sizeOf5
 v5:=Tryd.zeroValue5
 t9:=Tryd.underlying9
 a9:=Tryd.isAgg9
 z9:=Tryd.sizeOf9
 v9:=Tryd.zeroValue9
 t20:=Tryd.underlying20
 a20:=Tryd.isAgg20
 z20:=Tryd.sizeOf20
 v20:=Tryd.zeroValue20
 t37:=Tryd.underlying22
 a37:=Tryd.isAgg22
 z37:=Tryd.sizeOf22
 v37:=Tryd.zeroValue22
 t46:=Tryd.underlying110
 a46:=Tryd.isAgg110
 z46:=Tryd.sizeOf110
 v46:=Tryd.zeroValue110
 t51:=Tryd.underlying116
 a51:=Tryd.isAgg116
 z51:=Tryd.sizeOf116
 v51:=Tryd.zeroValue116
 t53:=Tryd.underlying62
 a53:=Tryd.isAgg62
 z53:=Tryd.sizeOf62
 v53:=Tryd.zeroValue62
 t171:=Tryd.underlying101
 a171:=Tryd.isAgg101
 z171:=Tryd.sizeOf101
 v171:=Tryd.zeroValue101
 t173:=Tryd.underlying104
 a173:=Tryd.isAgg104
 z173:=Tryd.sizeOf104
 v173:=Tryd.zeroValue104
 t212:=Tryd.underlying115
 a212:=Tryd.isAgg115
 z212:=Tryd.sizeOf115
 v212:=Tryd.zeroValue115
 t213:=Tryd.underlying117
 a213:=Tryd.isAgg117
 z213:=Tryd.sizeOf117
 t232:=Tryd.underlying123
 a232:=Tryd.isAgg123
 z232:=Tryd.sizeOf123
 v232:=Tryd.zeroValue123
 t233:=Tryd.underlying124
 a233:=Tryd.isAgg124
 z233:=Tryd.sizeOf124
 v233:=Tryd.zeroValue124
 g17:=by kernel_rfl
 g18:=by kernel_rfl
 g19:=by kernel_rfl
 i0:=by kernel_rfl
 i2:=by kernel_rfl
 i3:=by kernel_rfl
 i4:=by kernel_rfl
 i5:=by kernel_rfl
 i9:=by kernel_rfl
 i20:=by kernel_rfl
 i37:=by kernel_rfl
 i46:=by kernel_rfl
 i51:=by kernel_rfl
 i53:=by kernel_rfl
 i171:=by kernel_rfl
 i173:=by kernel_rfl
 i212:=by kernel_rfl
 i232:=by kernel_rfl
 i233:=by kernel_rfl
 m17:=by kernel_rfl
 m18:=by kernel_rfl
 m19:=by kernel_rfl}
end Go.Proofs
namespace Go.Proofs.YtkcojipciiakdaaDoor
open Go Go.V Go.Shelf
set_option maxRecDepth 100000
abbrev gl0:List (Nat × (Obj→Prop)):=[]
def gl1:List (Nat × (Obj→Prop)):=gl0++[(0,rK)]
theorem oS:∀p∈gl0,p∈gl1:=fun _ hp=>List.mem_append_left _ hp
@[reducible] def nt:FS:=FD
theorem vq:aF gl1 Tryd.prog 26 nt:=HI Tryd.laysM171 (by kernel_rfl) (show(0,rK)∈gl1 by simp [gl0,gl1]) (by kernel_rfl)
@[reducible] def nf:FS:=FE
theorem vR:aF gl0 Tryd.prog 35 nf:=Hv Tryd.lays156 Tryd.Builder_Extra_156 (by kernel_rfl)
end Go.Proofs.YtkcojipciiakdaaDoor

end
