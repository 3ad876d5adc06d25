/-
  A part of the proof: contracts and plain forms of functions beneath the statement, made small by a program (names shortened, what is not needed left out).
-/
import Derived.Test.YtjafgdefcggjcaaGreatDoorRows
import Derived.Test.YtjafgdefcggjcaaGreatDoorTie
import Derived.Test.YtjafgdefcggjcaaGreatDoorCards
import Derived.Test.YtjafgdefcggjcaaGreatDoorM2
import Derived.Below
import Derived.Shelf.Strconv.Itoa3
import Derived.Shelf.Strconv.AtoiAll
import Derived.Lib.AtoiErrMem
import Derived.Shelf.Strings.Cut
import Derived.Shelf.Strings.SplitShaped
import Derived.Shelf.Strings.Prefix
import Derived.Shelf.Strings.OnBuilder
open Option renaming bind_eq_some_iff → aik, map_eq_some_iff → ain, bind_some → air, getD_some → ai7, map_some → ajn
open Bool renaming and_eq_true → ail, not_eq_true' → aiv, or_eq_true → aiS, false_eq_true → aiU, not_false → ajr
open Option.some renaming injEq → aim, inj → ajm
open List renaming getD_eq_getElem?_getD → aio, getElem?_cons_zero → aiq, mem_cons → ais, drop_zero → ait, getElem?_cons_succ → aiu, snd_lt_of_mem_zipIdx → aiC, getElem?_eq_getElem → aiD, all_eq_true → aiF, getD_cons_zero → aiH, map_cons → aiI, eq_nil_of_length_eq_zero → aiK, getElem?_eq_none → aiL, drop_eq_getElem_cons → aiR, length_eq_one_iff → aiX, length_cons → aiY, mem_append_right → aiZ, nil_append → ai0, getElem?_eq_some_iff → ai3, cons_append → ai4, length_take → ai5, getElem?_take_of_lt → ai6, mem_filter → ai8, take_append_drop → ai9, mapM_cons → aja, map_toArray → ajk
open Array renaming getD_eq_getD_getElem? → aip, getElem?_eq_getElem → aix, replicate → aiJ, getElem?_toList → aiM, getElem?_setIfInBounds → aiN, toArray_toList → aiO, getElem?_eq_some_iff → aiP, getElem?_append_left → ai2
open Nat renaming beq → aiw, le_refl → aiQ, lt_of_lt_of_le → aiT, le_trans → ai1, zero_add → ajg, ble → ajq
open List.cons renaming injEq → aiy
open Go.Proofs renaming enters_of → aiz
open Classical renaming choose_spec → aiA, choose → aiE
open Go.Region renaming wanted → aiB, binds → aiG, ready → aiV
open Go.Value renaming string → aiW
open Go.RowKit.Below renaming refl → ajb
open Go.Lib renaming countB → ajc, pow10Tab → ajh, TabIs → aji
open Go.Builtin renaming min2 → ajd, max2 → aje
open Go.Oper renaming wp_mono → ajf, upon_enter → ajo
open Go.Sort renaming grow → ajj
open Go.Calls renaming mono → ajl
open Go.World renaming var? → ajp
set_option maxRecDepth 100000
set_option linter.unusedSimpArgs false
set_option linter.unusedVariables false
noncomputable section
namespace Go.V
open Go.RowKit
section
variable {P:Program} {c:Cx} {B:Nat} {X:Nat→Prop} {w0:World} {F0 F:Nat→Prop} {O:Nat→Option (Nat × Nat)} {a:Act} {w:World} {δ:List D}
theorem mj {w w':World} {F F':Nat→Prop} {own own':Nat→Prop} {n:Nat} {d:D} {y:Value} (hF:∀b,F b→F' b) (hw:∀b,F b→w'.heap[b]?=w.heap[b]?)
  (ho:∀g,V.blk y=some g→own g→own' g∧w'.heap[g]?=w.heap[g]?) (h:HH w F own n d y):HH w' F' own' n d y:=by
 obtain⟨l,us,g,e,a1,rfl,a3,a4,a5,a6,a7⟩:=h;exact⟨l,us,g,e,a1,rfl,(ho g rfl a7).2.trans a3,cJ hF hw _ _ a4,a5,a6,(ho g rfl a7).1⟩
theorem HH.blk {F:Nat→Prop} {own:Nat→Prop} {n:Nat} {d:D} {y:Value} (h:HH w F own n d y):∀b,V.blk y=some b→own b∧b<w.heap.size:=by
 intro b hb;obtain⟨l,us,g,e,a1,rfl,a3,a4,a5,a6,a7⟩:=h;simp [V.blk] at hb;subst hb;exact⟨a7,(aiP.1 a3).1⟩
def Cv:List Ag→Nat→Nat→Option Nat
 | [],_,_=>none
 | .io _ q::l,r,i=>if q=r then some i else Cv l r (i+1)
 | .d _ _::l,r,i=>Cv l r (i+1)
 | .bor _ _::l,r,i=>Cv l r (i+1)
theorem AO:∀{l:List Ag} {r i j:Nat},Cv l r i=some j→r∈fU l
 | .io _ q::l,r,i,j,h=>by
  simp only [Cv] at h;split at h
  ·rename_i e;subst e;simp [fU]
  ·simp [fU,AO h]
 | .d _ _::l,r,i,j,h=>by simpa [fU] using AO (l:=l) h
 | .bor _ _::l,r,i,j,h=>by simpa [fU] using AO (l:=l) h
theorem AH:∀{l:List Ag} {r j:Nat},Ly l j=some r→r∈fU l
 | .io _ q::l,r,0,h=>by simp [Ly] at h;simp [fU,h]
 | .io _ q::l,r,j+1,h=>by simp only [fU,ais];exact .inr (AH (l:=l) h)
 | .d _ _::l,r,0,h=>by simp [Ly] at h
 | .bor _ _::l,r,0,h=>by simp [Ly] at h
 | .d _ _::l,r,j+1,h=>by simpa [fU] using AH (l:=l) h
 | .bor _ _::l,r,j+1,h=>by simpa [fU] using AH (l:=l) h
theorem AJ {a:Nat} {l:List Nat} (h:oN (a::l)=true):a∉l∧oN l=true:=by
 simp only [oN,jO] at h;split at h
 ·cases h
 ·rename_i h1
  exact⟨by simpa using h1,h⟩
theorem LW:∀{l:List Ag} {r i j:Nat},oN (fU l)=true→Ly l j=some r→Cv l r i=some (i+j)
 | .io _ q::l,r,i,0,_,h=>by simp [Ly] at h;simp [Cv,h]
 | .io _ q::l,r,i,j+1,hn,h=>by
  obtain⟨h1,h2⟩:=AJ hn;have h3:=AH (l:=l) h;have hne:¬q=r:=fun e=>h1 (by rw [e];exact h3)
  simp only [Cv];rw [if_neg hne,LW (l:=l) h2 h];congr 1;omega
 | .d _ _::l,r,i,0,_,h=>by simp [Ly] at h
 | .bor _ _::l,r,i,0,_,h=>by simp [Ly] at h
 | .d _ _::l,r,i,j+1,hn,h=>by simp only [Cv];rw [LW (l:=l) hn h];congr 1;omega
 | .bor _ _::l,r,i,j+1,hn,h=>by simp only [Cv];rw [LW (l:=l) hn h];congr 1;omega
def Xo (c:Cx) (a:Act) (δ:List D):List Ag→List Kd→List Operand→Prop
 | [],[],[]=>True
 | .io _ r::l,m::pm,x::xs=>(nth δ r ≠ .bad∧a.eval x=av a r∧((∃z lv io,m = .own z lv true∧aD c.K r = .own z lv io∧lv≠1)∨∃n lv io,m = .box n lv true∧aD c.K r = .box n lv io∧lv≠1))∧Xo c a δ l pm xs
 | _::l,m::pm,_::xs=>uy m=false∧Xo c a δ l pm xs
 | _,_,_=>False
theorem Rt {m:Kd} {pm:List Kd} (h:mU (m::pm)=true):mU pm=true∧(∀z lv,m = .own z lv true→lv≠1)∧∀n lv,m = .box n lv true→lv≠1:=by
 cases m with
 | dat lv =>
  simp only [mU] at h;split at h
  case h_2=>cases h
  exact⟨h,fun _ _ e=>(by cases e),fun _ _ e=>(by cases e)⟩
 | own z lv io =>
  cases io
  ·simp [mU] at h
  simp only [mU] at h;split at h
  case h_2=>cases h
  rename_i h1 h2;exact⟨h,fun _ l e=>by cases e;intro e;subst e;simp at h1,fun _ _ e=>(by cases e)⟩
 | box z lv io =>
  cases io
  ·simp [mU] at h
  simp only [mU] at h;split at h
  case h_2=>cases h
  rename_i h1 h2;exact⟨h,fun _ _ e=>(by cases e),fun _ l e=>by cases e;intro e;subst e;simp at h1⟩
 | _=>simp [mU] at h
theorem ads {K:List Kd} {x:Operand} {m:Kd} {t r:Nat} (h:AK K x m=some (.bor t r)):∃lv,m = .dat lv:=by
 cases m with
 | dat lv=>exact⟨lv,rfl⟩
 | own z lv io =>
  exfalso;cases io
  ·simp [AK] at h
  ·simp only [AK] at h
   repeat (split at h<;>try cases h)
 | box z lv io =>
  exfalso;cases io
  ·simp [AK] at h
  ·simp only [AK] at h
   repeat (split at h<;>try cases h)
 | _=>simp [AK] at h
theorem afe {K:List Kd} {x:Operand} {m:Kd} {t r:Nat} (h:AK K x m=some (.io t r)):x = .tmp t∧((∃z lv io,m = .own z lv true∧((t=r∧aD K t = .own z lv io)∨(aD K t = .via r∧aD K r = .own z lv io))) ∨
  ∃n lv io,m = .box n lv true∧((t=r∧aD K t = .box n lv io)∨(aD K t = .ref r∧aD K r = .box n lv io))):=by
 cases m with
 | dat lv =>
  exfalso;simp only [AK] at h
  repeat (split at h<;>try cases h)
 | own z lv io =>
  cases io
  ·simp [AK] at h
  ·simp only [AK] at h
   split at h
   case h_2=>cases h
   split at h
   ·rename_i hk
    split at h
    case h_2=>cases h
    rename_i h1 h2;rw [bd] at h1 h2;cases h;exact⟨rfl,.inl ⟨_,_,_,rfl,.inl ⟨rfl,by rw [hk,h1,h2]⟩⟩⟩
   ·rename_i hk
    split at h
    case h_2=>cases h
    rename_i hk2;split at h
    case h_2=>cases h
    rename_i h1 h2;rw [bd] at h1 h2;cases h;exact⟨rfl,.inl ⟨_,_,_,rfl,.inr ⟨hk,by rw [hk2,h1,h2]⟩⟩⟩
   ·cases h
 | box z lv io =>
  cases io
  ·simp [AK] at h
  ·simp only [AK] at h
   split at h
   case h_2=>cases h
   split at h
   ·rename_i hk
    split at h
    case h_2=>cases h
    rename_i h1 h2;rw [bd] at h1 h2;cases h;exact⟨rfl,.inr ⟨_,_,_,rfl,.inl ⟨rfl,by rw [hk,h1,h2]⟩⟩⟩
   ·rename_i hk
    split at h
    case h_2=>cases h
    rename_i hk2;split at h
    case h_2=>cases h
    rename_i h1 h2;rw [bd] at h1 h2;cases h;exact⟨rfl,.inr ⟨_,_,_,rfl,.inr ⟨hk,by rw [hk2,h1,h2]⟩⟩⟩
   ·cases h
 | _=>simp [AK] at h
theorem IW (hI:Inv c B X w0 F0 F O a w δ):∀(xs:List Operand) (pm:List Kd) (ags:List Ag) (ds:List D),mX c.K xs pm=some ags→mU pm=true→du ags (aA δ (gN ags))=some ds→Xo c a δ ags pm xs
 | [],[],ags,ds,h,_,_=>by
  simp only [mX,aim] at h;subst h;trivial
 | [],_::_,_,_,h,_,_=>by simp [mX] at h
 | _::_,[],_,_,h,_,_=>by simp [mX] at h
 | x::xs,m::pm,ags,ds,h,hpm,hd=>by
  simp only [mX] at h;split at h
  case h_2=>cases h
  rename_i g l hg hl;cases h;obtain⟨hp1,hp2,hp3⟩:=Rt hpm;cases g with
  | d y chk =>
   have hnio:uy m=false:=by
    cases m with
    | own z lv io=>cases io<;>first | rfl | (simp only [AK] at hg;repeat (split at hg<;>try cases hg))
    | box z lv io=>cases io<;>first | rfl | (simp only [AK] at hg;repeat (split at hg<;>try cases hg))
    | _=>rfl
   have hd':∃ds',du l (aA δ (gN l))=some ds':=by
    cases y with
    | tmp t =>
     simp only [app,aA,du] at hd;split at hd
     ·obtain⟨ds',h1,_⟩:=ain.1 hd
      exact⟨ds',h1⟩
     ·obtain⟨i,_,hd⟩:=aik.1 hd
      obtain⟨ds',h1,_⟩:=ain.1 hd;exact⟨ds',h1⟩
    | const v =>
     simp only [gN,app,du] at hd;obtain⟨ds',h1,_⟩:=ain.1 hd;exact⟨ds',h1⟩
    | func v =>
     simp only [gN,app,du] at hd;obtain⟨ds',h1,_⟩:=ain.1 hd;exact⟨ds',h1⟩
    | global v=>simp [du] at hd
   obtain⟨ds',hd'⟩:=hd';exact⟨hnio,IW hI xs pm l ds' hl hp1 hd'⟩
  | bor t r =>
   have hnio:uy m=false:=by
    obtain⟨lv,e⟩:=ads hg;rw [e];rfl
   have hd':∃ds',du l (aA δ (gN l))=some ds':=by
    cases htr:aiw t r
    ·simp only [gN,htr,aA,du] at hd
     obtain⟨i,_,hd⟩:=aik.1 hd;obtain⟨ds',h1,_⟩:=ain.1 hd;exact⟨ds',h1⟩
    ·simp only [gN,htr,aA,du] at hd
     obtain⟨ds',h1,_⟩:=ain.1 hd;exact⟨ds',h1⟩
   obtain⟨ds',hd'⟩:=hd';exact⟨hnio,IW hI xs pm l ds' hl hp1 hd'⟩
  | io t r =>
   obtain⟨rfl,hk⟩:=afe hg;have main:(nth δ r ≠ .bad∧(t=r∨nth δ t = .ref 0 0))∧∃ds',du l (aA δ (gN l))=some ds':=by
    cases htr:aiw t r
    ·simp only [gN,htr,aA,du] at hd
     obtain⟨i,hc,hd⟩:=aik.1 hd;obtain⟨i',hc',hd⟩:=aik.1 hd;obtain⟨ds',h1,_⟩:=ain.1 hd;obtain⟨hb,rfl⟩:=cN hc';unfold cP at hc;split at hc
     case h_2=>cases hc
     rename_i hr0;cases hc;exact⟨⟨hb,.inr hr0⟩,ds',h1⟩
    ·have e:=bd.1 htr
     subst e;simp only [gN,htr,aA,du] at hd;obtain⟨i',hc',hd⟩:=aik.1 hd;obtain⟨ds',h1,_⟩:=ain.1 hd;exact⟨⟨(cN hc').1,.inl rfl⟩,ds',h1⟩
   obtain⟨⟨hb,hre⟩,ds',hd'⟩:=main;refine⟨⟨hb,?_,?_⟩,IW hI xs pm l ds' hl hp1 hd'⟩
   ·rcases hre with e | hr0
    ·rw [e];rfl
    ·rcases hk with ⟨z,lv,io,_,h2⟩ | ⟨n,lv,io,_,h2⟩
     ·rcases h2 with ⟨e,_⟩ | ⟨h3,h4⟩
      ·rw [e];rfl
      ·exact(hI.via h3 (by rw [hr0];simp)).1
     ·rcases h2 with ⟨e,_⟩ | ⟨h3,h4⟩
      ·rw [e];rfl
      ·obtain⟨ii,ff,h5,_,h6⟩:=hI.ref h3 (by rw [hr0];simp)
       rw [hr0] at h5;cases h5;rw [h4] at h6;obtain⟨g0,e1,e2⟩:=h6;rw [eH,e1,e2]
   ·rcases hk with ⟨z,lv,io,h1,h2⟩ | ⟨n,lv,io,h1,h2⟩
    ·refine .inl ⟨z,lv,io,h1,?_,hp2 z lv h1⟩
     rcases h2 with ⟨e,h2⟩ | ⟨_,h2⟩
     ·rw [←e];exact h2
     ·exact h2
    ·refine .inr ⟨n,lv,io,h1,?_,hp3 n lv h1⟩
     rcases h2 with ⟨e,h2⟩ | ⟨_,h2⟩
     ·rw [←e];exact h2
     ·exact h2
def ah0 (w':World) (F':Nat→Prop) (k:Kd) (u:D) (y:Value):Prop :=
 u ≠ .bad∧match k with
  | .own z lv _=>lv≠1∧kX w' (FB F' 0 lv) (fun _=>True) z u y
  | .box n lv _=>lv≠1∧HH w' (FB F' 0 lv) (fun _=>True) n u y
  | _=>False
theorem Ja {w':World} {F':Nat→Prop}:∀(ags:List Ag) (pm:List Kd) (xs:List Operand) (us:List D),Xo c a δ ags pm xs→xw w' F' pm us (xs.map a.eval) →
  us.length=(fU ags).length∧∀(m r:Nat),(fU ags)[m]?=some r→nth δ r ≠ .bad∧∃u:D,us[m]?=some u∧ah0 w' F' (aD c.K r) u (av a r)
 | [],[],[],us,_,hu=>by
  cases us with
  | nil=>simp [fU]
  | cons u us=>simp [xw] at hu
 | .io t r::l,m::pm,x::xs,us,h,hu=>by
  obtain⟨⟨h1,h2,h3⟩,h4⟩:=h;simp only [aiI,xw] at hu;have hio:uy m=true:=by rcases h3 with ⟨z,lv,io,rfl,_⟩ | ⟨n,lv,io,rfl,_⟩<;>rfl
  rw [if_pos hio] at hu;cases us with
  | nil=>exact hu.elim
  | cons u us =>
   obtain⟨u1,u2,u3⟩:=hu;obtain⟨g1,g2⟩:=Ja l pm xs us h4 u3;refine⟨by simp [fU,g1],fun j q hj=>?_⟩
   cases j with
   | zero =>
    simp only [fU,aiq,aim] at hj;subst hj;refine⟨h1,u,rfl,u1,?_⟩
    rw [h2] at u2;have u2:=u2.resolve_left u1;rcases h3 with ⟨z,lv,io,rfl,hk,hlv⟩ | ⟨n,lv,io,rfl,hk,hlv⟩
    ·rw [hk];exact⟨hlv,u2⟩
    ·rw [hk];exact⟨hlv,u2⟩
   | succ j =>
    simp only [fU,aiu] at hj;exact g2 j q hj
 | .d y chk::l,m::pm,x::xs,us,h,hu=>by
  obtain⟨h1,h2⟩:=h;simp only [aiI,xw,h1] at hu;exact Ja l pm xs us h2 hu
 | .bor y chk::l,m::pm,x::xs,us,h,hu=>by
  obtain⟨h1,h2⟩:=h;simp only [aiI,xw,h1] at hu;exact Ja l pm xs us h2 hu
 | [],[],_::_,_,h,_=>h.elim
 | [],_::_,_,_,h,_=>h.elim
 | .io _ _::_,[],_,_,h,_=>h.elim
 | .io _ _::_,_::_,[],_,h,_=>h.elim
 | .d _ _::_,[],_,_,h,_=>h.elim
 | .d _ _::_,_::_,[],_,h,_=>h.elim
 | .bor _ _::_,[],_,_,h,_=>h.elim
 | .bor _ _::_,_::_,[],_,h,_=>h.elim
theorem ZY (us:List D):∀(ios:List Nat) (j:Nat),j+ios.length≤us.length→FF.go us j ios=(us.drop j).take ios.length
 | [],j,_=>by simp [FF.go]
 | _::l,j,h=>by
  simp only [aiY] at h;simp only [FF.go];rw [ZY us l (j+1) (by omega)];have hj:j<us.length:=by omega
  rw [aiR hj,aiY,List.take_succ_cons,iS,aio,aiD hj];rfl
theorem wG:∀(ss:List Nat) (ds δ:List D) (m s:Nat),oN ss=true→ss[m]?=some s→s<δ.length→nth (ay δ ss ds) s=nth ds m
 | t::ss,[],δ,m,s,hn,hm,hl=>by
  rw [nF _ _ _ (List.mem_of_getElem? hm)]
 | t::ss,d::ds,δ,0,s,hn,hm,hl=>by
  obtain⟨h1,h2⟩:=AJ hn;simp at hm;subst hm;simp only [ay];rw [aE _ _ _ _ h1,cM,if_pos hl]
 | t::ss,d::ds,δ,m+1,s,hn,hm,hl=>by
  obtain⟨h1,h2⟩:=AJ hn;simp only [ay];rw [wG ss ds _ m s h2 (by simpa using hm) (by rw [jm];exact hl)]
theorem aba {d:Nat} {l:List Nat} (h1:oM d l=false) (h2:oN l=true):oN ([d]++l)=true:=by
 simp only [ai4,ai0,oN,h1];exact h2
theorem Se:∀{l m:List Nat},MU l m=true→∀x∈l,x∉m
 | a::l,m,h,x,hx=>by
  simp only [MU,jO] at h;split at h
  ·cases h
  ·rename_i h1
   rcases ais.1 hx with rfl | hx
   ·simpa using h1
   ·exact Se h x hx
theorem afi {K:List Kd} {r:Nat} (h:eM K r):r<K.length:=by
 by_cases hd:r<K.length
 ·exact hd
 ·exfalso
  have:∀(K:List Kd) (r:Nat),¬r<K.length→aD K r = .no:=by
   intro K;induction K with
   | nil=>intro r _;rfl
   | cons k K ih =>
    intro r hr;cases r with
    | zero=>simp at hr
    | succ r=>exact ih r (by simpa using hr)
  rw [eM,this K r hd] at h;exact h
theorem Oe {m:Kd} {pm:List Kd} (h:io0 (m::pm)=true):io0 pm=true∧(∀z lv io,m = .own z lv io→lv=0)∧∀n lv io,m = .box n lv io→lv=0:=by
 cases m with
 | own z lv io =>
  simp only [io0] at h;split at h
  case h_2=>cases h
  rename_i h0;exact⟨h,fun _ _ _ e=>by cases e;exact bd.1 h0,fun _ _ _ e=>(by cases e)⟩
 | box z lv io =>
  simp only [io0] at h;split at h
  case h_2=>cases h
  rename_i h0;exact⟨h,fun _ _ _ e=>(by cases e),fun _ _ _ e=>by cases e;exact bd.1 h0⟩
 | _=>exact⟨by simpa only [io0] using h,fun _ _ _ e=>(by cases e),fun _ _ _ e=>(by cases e)⟩
theorem Tx:∀(ags:List Ag) (pm:List Kd) (xs:List Operand),Xo c a δ ags pm xs→io0 pm=true→∀(m r:Nat),(fU ags)[m]?=some r→∀lv,((∃z io,aD c.K r = .own z lv io)∨∃n io,aD c.K r = .box n lv io)→lv=0
 | [],_,_,_,_,m,r,hm,_,_=>by simp [fU] at hm
 | .io t q::l,m::pm,x::xs,h,h0,j,r,hj,lv,hk=>by
  obtain⟨⟨_,_,h3⟩,h4⟩:=h;obtain⟨g1,g2,g3⟩:=Oe h0;cases j with
  | zero =>
   simp only [fU,aiq,aim] at hj;subst hj;rcases h3 with ⟨z,lv',io,rfl,hk',_⟩ | ⟨n,lv',io,rfl,hk',_⟩
   ·have:=g2 z lv' true rfl
    subst this;rw [hk'] at hk;rcases hk with ⟨_,_,e⟩ | ⟨_,_,e⟩<;>cases e;rfl
   ·have:=g3 n lv' true rfl
    subst this;rw [hk'] at hk;rcases hk with ⟨_,_,e⟩ | ⟨_,_,e⟩<;>cases e;rfl
  | succ j=>exact Tx l pm xs h4 g1 j r (by simpa [fU] using hj) lv hk
 | .d _ _::l,m::pm,x::xs,h,h0,j,r,hj,lv,hk=>Tx l pm xs h.2 (Oe h0).1 j r (by simpa [fU] using hj) lv hk
 | .bor _ _::l,m::pm,x::xs,h,h0,j,r,hj,lv,hk=>Tx l pm xs h.2 (Oe h0).1 j r (by simpa [fU] using hj) lv hk
 | .io _ _::_,[],_,h,_,_,_,_,_,_=>h.elim
 | .io _ _::_,_::_,[],h,_,_,_,_,_,_=>h.elim
 | .d _ _::_,[],_,h,_,_,_,_,_,_=>h.elim
 | .d _ _::_,_::_,[],h,_,_,_,_,_,_=>h.elim
 | .bor _ _::_,[],_,h,_,_,_,_,_,_=>h.elim
 | .bor _ _::_,_::_,[],h,_,_,_,_,_,_=>h.elim
theorem vC (hI:Inv c B X w0 F0 F O a w δ) {S:FS} {ags:List Ag} {xs:List Operand} {ds rs us:List D} {F':Nat→Prop} {R:Nat→Option Nat} {vs:List Value} {w':World} {v:Value} {dst:Option Nat} {x:List D}
  (hags:mX c.K xs S.pm=some ags) (hpm:mU S.pm=true) (hds:du ags (aA δ (gN ags))=some ds) (hnd:oN (fU ags)=true)
  (hbor:jk ags=[]∨(zF S.rm=true∧io0 S.pm=true))
  (hpost:CallPost S (xs.map a.eval).toArray rs us w (fun b=>F b∨∃r∈jk ags,O b=some (r,0)) (fun b=>match O b with
   | some (r,0)=>Cv ags r 0
   | _=>none) F' R vs w')
  (hdx:(dst=none∧x=[])∨∃d y,dst=some d∧x=[y]∧oM d (fU ags)=false) (g:Nat→Option (Nat × Nat)) (hg:∀j p,g j=some p→∀d,dst=some d→p.1=d) (hgn:dst=none→∀j,g j=none)
  (hU:∀(F2:Nat→Prop) (O2:Nat→Option (Nat × Nat)),(∀lv b,(jk ags=[]∨lv≤1)→FB F' w.heap.size lv b→FB F2 B lv b)→(∀b j,R b=some j→O2 b=g j∧B≤b∧(g j=none→F2 b))→∀d y,dst=some d→x=[y]→d<δ.length→DN c.K B F2 O2 (a.put dst v) w' d y) :
  ∃F2 O2,Inv c B X w0 F0 F2 O2 (a.put dst v) w' (ay δ (dst.toList++(fU ags++bu c.K dst.toList)) (x++us)):=by
 have hB:=hI.bb;have hioA:=IW hI xs S.pm ags ds hags hpm hds;obtain⟨hul,hun⟩:=Ja (c:=c) (a:=a) (δ:=δ) ags S.pm xs us hioA (by simpa using hpost.us);have hkeep:∀b,b<w.heap.size→(∀p,O b=some p→p.1∉fU ags)→w'.heap[b]?=w.heap[b]?:=by
  intro b hb hp;refine hpost.keep b hb ?_
  split
  ·rename_i r he
   cases h:Cv ags r 0 with
   | none=>rfl
   | some j=>exact absurd (AO h) (hp _ he)
  ·rfl
 have hRn:∀b,b<w.heap.size→R b=none:=fun b hb=>by
  cases h:R b with
  | none=>rfl
  | some j=>have:=(hpost.rn b j h).1;omega
 let F2:Nat→Prop:=fun b=>F b∨(F' b∧w.heap.size≤b)∨∃j,R b=some j∧g j=none
 let O2:Nat→Option (Nat × Nat):=fun b=>match R b with
  | some j=>g j
  | none=>O b
 have hO2n:∀b,R b=none→O2 b=O b:=fun b h=>by simp only [O2,h]
 have hO2s:∀b j,R b=some j→O2 b=g j:=fun b j h=>by simp only [O2,h]
 have hOlt:∀b,w.heap.size≤b→O b=none:=fun b hb=>by
  cases h:O b with
  | none=>rfl
  | some p=>have:=(hI.ol b p h).1;omega
 have hlv:∀lv b,(jk ags=[]∨lv≤1)→FB F' w.heap.size lv b→FB F2 B lv b:=by
  intro lv b hbl hb
  match lv,hbl,hb with
  | 0,_,hb=>exact hb.elim
  | 1,_,hb=>exact⟨.inr (.inl hb),ai1 hB hb.2⟩
  | n+2,hbl,hb =>
   have he:jk ags=[]:=hbl.resolve_right (by omega);rcases(hpost.fn b hb).1 with h1 | h1
   ·rcases h1 with h1 | ⟨r,hr,_⟩
    ·exact .inl h1
    ·rw [he] at hr;cases hr
   ·exact .inr (.inl ⟨hb,h1⟩)
 have hnd2:oN (dst.toList++fU ags)=true:=by
  rcases hdx with ⟨rfl,_⟩ | ⟨d,y,rfl,_,hm⟩
  ·exact hnd
  ·exact aba hm hnd
 have hlen:(x++us).length=(dst.toList++fU ags).length:=by
  rcases hdx with ⟨rfl,rfl⟩ | ⟨d,y,rfl,rfl,_⟩<;>simp [hul]
 have hlt:∀r,eM c.K r→r<δ.length:=fun r hr=>by
  rw [hI.ld];exact afi hr
 have hgetio:∀(m r:Nat),(fU ags)[m]?=some r→eM c.K r→nth (ay δ (dst.toList++fU ags) (x++us)) r=nth us m:=by
  intro m r hm hr;rcases hdx with ⟨rfl,rfl⟩ | ⟨d,y,rfl,rfl,_⟩
  ·exact wG _ _ _ m r hnd (by simpa using hm) (hlt r hr)
  ·have:=wG (δ:=δ) ([d]++fU ags) ([y]++us) (m:=m+1) (s:=r) hnd2 (by simpa using hm) (hlt r hr)
   simpa [nth] using this
 have hrootIo:∀(m r:Nat),(fU ags)[m]?=some r→eM c.K r:=by
  intro m r hm;obtain⟨_,u,_,hn⟩:=hun m r hm;obtain⟨_,hn⟩:=hn;unfold eM;generalize aD c.K r=kk at hn;cases kk<;>first | exact hn.elim | trivial
 refine⟨F2,O2,hI.many hlen (by cases dst<;>simp [Act.put]) (by cases dst<;>rfl) (fun s hs=>?_) (fun r hr _ hb=>?_) (fun s hs=>?_) (fun _ hb=>.inl hb) (fun b hb=>?_) (fun b p hp hm=>?_) (fun b hb=>?_) (fun b p hp=>?_) (fun b hb=>?_) hpost.size hpost.os hpost.tape hpost.output (fun b hb hx=>?_)⟩
 ·cases dst with
  | none=>rfl
  | some d=>exact eL fun e=>hs (by simp [e])
 ·obtain⟨m,hm⟩:=List.getElem?_of_mem hr
  obtain⟨_,u,hu,hn⟩:=hun m r hm;rw [hgetio m r hm (hrootIo m r hm),iS,aio,hu];exact hn.1
 ·rcases List.mem_append.1 hs with hs | hs
  ·rcases hdx with ⟨rfl,_⟩ | ⟨d,y,rfl,rfl,_⟩
   ·cases hs
   ·have:s=d:=by simpa using hs
    subst this;by_cases hsl:s<δ.length
    ·have e:=wG (δ:=δ) ([s]++fU ags) ([y]++us) (m:=0) (s:=s) hnd2 rfl hsl
     simp only [Option.toList_some] at e ⊢;rw [e];exact hU F2 O2 hlv (fun b j hj=>⟨hO2s b j hj,ai1 hB (hpost.rn b j hj).1,fun hn=>.inr (.inr ⟨j,hj,hn⟩)⟩) s y rfl rfl hsl
    ·refine .inl ?_
     have:∀(l:List D) (n:Nat),¬n<l.length→nth l n = .bad:=fun l n h=>by
      rw [iS,aio,aiL (by omega)];rfl
     exact this _ _ (by rw [eh];exact hsl)
  ·have hs':=hs
   obtain⟨m,hm⟩:=List.getElem?_of_mem hs;have hr:=hrootIo m s hm;obtain⟨hb,u,hu,hn⟩:=hun m s hm;rw [hgetio m s hm hr,iS,aio,hu];have hav:av (a.put dst v) s=av a s:=by
    cases dst with
    | none=>rfl
    | some d =>
     refine eL ?_
     rcases hdx with ⟨h,_⟩ | ⟨d',y,h,_,hm'⟩
     ·cases h
     ·cases h
      rintro rfl;rw [jO] at hm';exact(of_decide_eq_false hm') hs'
   refine .inr ?_
   obtain⟨hn1,hn2⟩:=hn;have hbl:∀lv,lv≠1→(jk ags=[]∨lv≤1)→∀b,FB F' 0 lv b→FB F2 B lv b:=by
    intro lv h1 h2 b hb;refine hlv lv b h2 ?_
    match lv,h1 with
    | 0,_=>exact hb
    | n+2,_=>exact hb
   have hlv1:∀lv,(∃z io,aD c.K s = .own z lv io)∨(∃n io,aD c.K s = .box n lv io)→jk ags=[]∨lv≤1:=by
    intro lv hk;rcases hbor with h | ⟨_,h0⟩
    ·exact .inl h
    ·right
     have:=Tx ags S.pm xs hioA h0 m s hm lv hk;omega
   generalize hks:aD c.K s=kk at hn2;cases kk with
   | own z lv io =>
    refine .inr ?_
    obtain⟨h1,h2⟩:=hn2;rw [hav];have hown:=(hI.own hks hb).blk;exact eE (hbl lv h1 (hlv1 lv (.inl ⟨z,io,hks⟩))) (fun _ _=>rfl) (fun b hbk _=>⟨⟨(hO2n b (hRn b (hown b hbk).2)).trans (hown b hbk).1.1,(hown b hbk).1.2⟩,rfl⟩) h2
   | box n lv io =>
    refine .inr ?_
    obtain⟨h1,h2⟩:=hn2;rw [hav];have hown:=(hI.box hks hb).blk;exact mj (hbl lv h1 (hlv1 lv (.inr ⟨n,io,hks⟩))) (fun _ _=>rfl) (fun b hbk _=>⟨⟨(hO2n b (hRn b (hown b hbk).2)).trans (hown b hbk).1.1,(hown b hbk).1.2⟩,rfl⟩) h2
   | _=>exact hn2.elim
 ·exact hkeep b (hI.fl b hb).1 fun p hp=>by rw [(hI.fl b hb).2] at hp;cases hp
 ·have hb:=(hI.ol b p hp).1
  exact⟨(hO2n b (hRn b hb)).trans hp,hkeep b hb fun q hq=>by rw [hp] at hq;cases hq;exact fun hm'=>hm (aiZ _ hm')⟩
 ·rcases hb with hb | hb | ⟨j,hj,hn⟩
  ·obtain⟨h1,h2⟩:=hI.fl b hb
   exact⟨aiT h1 hpost.size,(hO2n b (hRn b h1)).trans h2⟩
  ·obtain⟨_,h1,h2⟩:=hpost.fn b hb.1
   exact⟨h1,(hO2n b h2).trans (hOlt b hb.2)⟩
  ·exact⟨(hpost.rn b j hj).2,(hO2s b j hj).trans hn⟩
 ·cases h:R b with
  | none =>
   rw [hO2n b h] at hp;exact⟨aiT (hI.ol b p hp).1 hpost.size,(hI.ol b p hp).2⟩
  | some j=>exact⟨(hpost.rn b j h).2,.inl (ai1 hB (hpost.rn b j h).1)⟩
 ·rcases hb with hb | hb | ⟨j,hj,_⟩
  ·exact .inl hb
  ·exact .inr (ai1 hB hb.2)
  ·exact .inr (ai1 hB (hpost.rn b j hj).1)
 ·refine hkeep b (aiT hb hB) fun p hp=>?_
  rcases(hI.ol b p hp).2 with h1 | h1
  ·omega
  ·exact absurd h1 hx
theorem VR:∀{ms:List Kd},zF ms=true→∀i lv,(aD ms i = .dat lv∨∃z io,aD ms i = .own z lv io)→lv≤1
 | [],_,i,lv,hk=>by simp [aD] at hk
 | m::ms,h,i,lv,hk=>by
  have:(∀l,m = .dat l→l≤1)∧(∀z l io,m = .own z l io→l≤1)∧zF ms=true:=by
   cases m with
   | dat a =>
    simp only [zF] at h;split at h
    case h_2=>cases h
    rename_i e;exact⟨fun l e'=>by cases e';exact cR.1 e,fun _ _ _ e=>(by cases e),h⟩
   | own z a io =>
    simp only [zF] at h;split at h
    case h_2=>cases h
    rename_i e;exact⟨fun _ e=>(by cases e),fun _ l _ e'=>by cases e';exact cR.1 e,h⟩
   | _=>simp [zF] at h
  obtain⟨h1,h2,h3⟩:=this;cases i with
  | zero =>
   simp only [aD] at hk;rcases hk with hk | ⟨z,io,hk⟩
   ·exact h1 lv hk
   ·exact h2 z lv io hk
  | succ i=>exact VR h3 i lv hk
theorem XW {o:Oper} {q:Call} {f:Nat} (ho:o.op = .call q) (hf:q.callee = .value (.func f)):(execOp a.eval o).run P w=(callFunc f (q.args.map a.eval)).run P w:=by
 simp [execOp,ho,resolve,hf,Deferred.ofValue,Act.eval,invoke]
theorem YQ {o:Oper} {q:Call} {t f:Nat} {us:Array Value} (ho:o.op = .call q) (hf:q.callee = .value (.tmp t)) (hv:av a t = .func (.func f) #[] us):(execOp a.eval o).run P w=(callFunc f (q.args.map a.eval++us)).run P w:=by
 have hv':a.eval (.tmp t) = .func (.func f) #[] us:=hv;simp [execOp,ho,resolve,hf,Deferred.ofValue,hv',invoke]
theorem Er {w:World} {F:Nat→Prop} {ow:Nat→Option Nat}:∀(pm pn:List Kd) (ds cs:List D) (ys us:List Value) (i:Nat),fC w F ow i pm ds ys→fC w F ow (i+pm.length) pn cs us→fC w F ow i (pm++pn) (ds++cs) (ys++us)
 | [],pn,[],cs,[],us,i,_,h=>by simpa using h
 | k::pm,pn,d::ds,cs,y::ys,us,i,h1,h2=>⟨h1.1,Er pm pn ds cs ys us (i+1) h1.2 (by rw [show i+1+pm.length=i+(k::pm).length by simp;omega];exact h2)⟩
 | [],_,_::_,_,_,_,_,h,_=>h.elim
 | [],_,[],_,_::_,_,_,h,_=>h.elim
 | _::_,_,[],_,_,_,_,h,_=>h.elim
 | _::_,_,_::_,_,[],_,_,h,_=>h.elim
theorem Sd {K:List Kd}:∀(xs:List Operand) (pm:List Kd) (ags:List Ag),mX K xs pm=some ags→pm.length=xs.length
 | [],[],_,_=>rfl
 | x::xs,m::ms,ags,h=>by
  simp only [mX] at h;split at h
  ·rename_i h1 h2
   simp [Sd xs ms _ h2]
  ·cases h
 | [],_::_,_,h=>by simp [mX] at h
 | _::_,[],_,h=>by simp [mX] at h
theorem WK {α:Type}:∀(n:Nat) (l:List α),Mu n l=l.take n
 | 0,l=>by simp [Mu]
 | n+1,[]=>by simp [Mu]
 | n+1,_::l=>by simp [Mu,WK n l]
theorem ZS {w:World} {F:Nat→Prop} {ow:Nat→Option Nat}:∀(pn:List Kd) (cs:List D) (us:List Value) (i:Nat),rk pn=true→cs.length=pn.length→cs.all D.single=true→cm w F cs us→fC w F ow i pn cs us
 | [],[],us,i,_,_,_,h=>by
  rw [aW] at h;subst h;trivial
 | k::pn,d::cs,us,i,hk,hl,hs,h=>by
  obtain⟨v1,v2,rfl,h1,h2⟩:=au.1 h;simp only [List.all_cons,ail] at hs;obtain⟨y,rfl,_⟩:=lB d v1 hs.1 h1;cases k with
  | dat lv =>
   simp only [rk] at hk;split at hk
   case h_2=>cases hk
   rename_i e;rw [bd] at e;subst e;exact⟨.inr ((mF hs.1).2 h1),ZS pn cs v2 (i+1) hk (by simpa using hl) hs.2 h2⟩
  | _=>simp [rk] at hk
 | [],_::_,_,_,_,hl,_,_=>by simp at hl
 | _::_,[],_,_,_,hl,_,_=>by simp at hl
theorem NV {w:World} {F:Nat→Prop}:∀(pm pn:List Kd) (us:List D) (ys zs:List Value),pm.length=ys.length→rk pn=true→xw w F (pm++pn) us (ys++zs)→xw w F pm us ys
 | [],pn,us,[],zs,_,hn,h=>by
  have:∀(pn:List Kd) (us:List D) (zs:List Value),rk pn=true→xw w F pn us zs→us=[]:=by
   intro pn;induction pn with
   | nil =>
    intro us zs _ h;cases us with
    | nil=>rfl
    | cons u us=>exact h.elim
   | cons k pn ih =>
    intro us zs hk h;cases k with
    | dat lv =>
     cases zs with
     | nil=>cases us<;>exact h.elim
     | cons z zs =>
      simp only [xw,uy,aiU,if_false] at h;simp only [rk] at hk;split at hk
      ·exact ih us zs hk h
      ·cases hk
    | _=>simp [rk] at hk
  have e:=this pn us zs hn (by simpa using h);subst e;trivial
 | k::pm,pn,us,y::ys,zs,hl,hn,h=>by
  simp only [ai4,xw] at h ⊢;split
  ·rename_i hk
   rw [if_pos hk] at h;cases us with
   | nil=>exact h
   | cons u us=>exact⟨h.1,h.2.1,NV pm pn us ys zs (by simpa using hl) hn h.2.2⟩
  ·rename_i hk
   rw [if_neg hk] at h;exact NV pm pn us ys zs (by simpa using hl) hn h
 | [],_,_,_::_,_,hl,_,_=>by simp at hl
 | _::_,_,_,[],_,hl,_,_=>by simp at hl
theorem abp (hS:∀f S,eo c.S f=some S→aw c.G P f S) {o:Oper} {q:Call} {t f:Nat} {S:FS} (ho:o.op = .call q) (hf:q.callee = .value (.tmp t)) (hlk:eo c.S f=some S) {A:Ac} (hA:Xd c o.dst t f S q.args.toList=some A) (hI:Inv c B X w0 F0 F O a w δ)
  {k:List D→Option Out} {r:Out} (hg:fW c A δ k=some r) (Q:Exit→Act→World→Prop):o.wp P a w (Next c B X w0 F0 k r) Q:=by
 have hM:=hS f S hlk;unfold Xd at hA;split at hA
 case h_2=>cases hA
 rename_i d lt lr hd hkt hrm;split at hA
 case h_2=>cases hA
 rename_i ags l hags hkd;split at hA
 case h_2=>cases hA
 rename_i hlr hlt hpm hdat hio hbor;cases hA;rw [oQ,WK] at hags hpm;rw [oQ,FP] at hdat;rw [cR] at hlr hlt;simp only [fW,aA] at hg;obtain⟨caps,hc1,hg⟩:=aik.1 hg;rw [lZ] at hg;obtain⟨ds,h1,hg⟩:=aik.1 hg;simp only [ai0] at hg;unfold ae at hg;split at hg
 case h_2=>cases hg
 rename_i rs us h2;unfold afU at hc1;split at hc1
 case h_2=>cases hc1
 rename_i g0 l0 hclo;split at hc1
 case isFalse=>cases hc1
 rename_i hcc;cases hc1;obtain⟨rfl,hcl,hcs⟩:=hcc;have hbt:nth δ t ≠ .bad:=fun e=>by rw [e] at hclo;cases hclo
 have hst:=(hI.slot t).resolve_left hbt;rw [hkt] at hst;have hrep:=hst.resolve_left hbt;rw [hclo] at hrep;simp only [bP,RepC] at hrep;obtain⟨uv,hav,hru⟩:=hrep;simp only [aiy,and_true] at hav;have hpmE:S.pm=S.pm.take q.args.toList.length++S.pm.drop q.args.toList.length:=(ai9 _ _).symm;have hlenA:=Sd _ _ _ hags;have hFB:∀b,FB F B lt b→F b:=ip;have hargs:=Ts (F':=F) (ow:=fun _=>none) hI (fun _ h=>h) q.args.toList _ ags 0 ds hags hpm h1 (fun r hr b hb=>by rw [hbor] at hr;cases hr) (fun j r hj b hb=>by
  have:=AH hj;rw [hio] at this;cases this)
 have hcaps:=ZS (w:=w) (F:=F) (ow:=fun _=>none) (S.pm.drop q.args.toList.length) caps uv (0+(S.pm.take q.args.toList.length).length) hdat (by rw [hcl,oQ,oQ,FP]) hcs (cJ hFB (fun _ _=>rfl) _ _ hru);have hall:=Er _ _ _ _ _ _ 0 hargs hcaps;rw [←hpmE] at hall;have he:=hM (ds++caps) rs us h2 ((q.args.toList.map a.eval).toArray++uv.toArray) w F (fun _=>none) hI.gl (by simpa using hall) (fun b hb=>⟨(hI.fl b hb).1,rfl⟩) (fun b i hb=>by cases hb) o a (Next c B X w0 F0 k r) Q (fun v w' hp=>?_)
 ·unfold Oper.wp
  rw [YQ ho hf hav];have:q.args.map a.eval=(q.args.toList.map a.eval).toArray:=by rw [←ajk,aiO]
  rw [this];exact he
 ·obtain⟨F',R,vs,hv,hp⟩:=hp
  have hpost:CallPost {pm:=S.pm.take q.args.toList.length,rm:=S.rm,f:=S.f} (q.args.toList.map a.eval).toArray rs us w (fun b=>F b∨∃r∈jk ags,O b=some (r,0)) (fun b=>match O b with
   | some (r,0)=>Cv ags r 0
   | _=>none) F' R vs w':=by
   refine⟨hp.os,hp.tape,hp.output,hp.size,fun b hb _=>hp.keep b hb rfl,fun b hb=>?_,fun b hb=>⟨?_,(hp.fn b hb).2⟩,hp.rn,hp.len,hp.lenD,hp.res,?_⟩
   ·rcases hb with hb | ⟨r,hr,_⟩
    ·exact hp.f0 b hb
    ·rw [hbor] at hr;cases hr
   ·rcases(hp.fn b hb).1 with h | h
    ·exact .inl (.inl h)
    ·exact .inr h
   ·have hu:=hp.us
    rw [hpmE] at hu;simp only [Array.toList_append] at hu;exact NV _ _ _ _ _ (by simpa using hlenA) hdat hu
  have hvl:=hp.len;rw [hrm] at hvl;obtain⟨y,rfl⟩:=aiX.1 hvl;simp only [lf] at hv;subst hv;have hres:=hp.res 0;rw [hrm] at hres;simp only [aD,aiH] at hres;have hsz:d<δ.length→av (a.put (some d) v) d=v:=fun h=>il (by rw [hI.la,←hI.ld];exact h)
  obtain⟨F2,O2,hI'⟩:=vC (S:={pm:=S.pm.take q.args.toList.length,rm:=S.rm,f:=S.f}) (v:=v) (dst:=some d) (x:=[nth rs 0]) hI hags hpm h1 (by simp [hio,oN]) (.inl hbor) hpost (.inr ⟨d,nth rs 0,rfl,rfl,by simp [hio,oM]⟩) (fun _=>none) (fun _ _ h=>by cases h) (fun _ _=>rfl) (fun F2 O2 h4 h5 d' y' e1 e2 h6=>by
   cases e1;simp only [aiy,and_true] at e2;subst e2;by_cases hb:nth rs 0 = .bad
   ·exact .inl hb
   ·refine .inr ?_
    rw [hkd,hsz h6];exact .inr (cq (fun b hb=>pU hlr _ (h4 lr b (.inl hbor) hb)) (fun _ _=>rfl) (hres.resolve_left hb)))
  have hus:us=[]:=by
   have h3:=(Ja (c:=c) (a:=a) (δ:=δ) ags _ q.args.toList us (IW hI _ _ _ _ hags hpm h1) (by simpa using hpost.us)).1;rw [hio] at h3;exact aiK h3
  subst hus;refine⟨F2,O2,_,by rw [hd];exact hI',?_⟩
  rw [hio];simpa using hg
theorem Za (hS:∀f S,eo c.S f=some S→aw c.G P f S) {o:Oper} {q:Call} {f:Nat} {S:FS} (ho:o.op = .call q) (hf:q.callee = .value (.func f)) (hlk:eo c.S f=some S) {A:Ac} (hA:FF c o.dst S q.args.toList=some A) (hI:Inv c B X w0 F0 F O a w δ)
  {k:List D→Option Out} {r:Out} (hg:fW c A δ k=some r) (Q:Exit→Act→World→Prop):o.wp P a w (Next c B X w0 F0 k r) Q:=by
 have hM:=hS f S hlk;unfold FF at hA;split at hA
 ·cases hA
 rename_i ags hags;simp only at hA;split at hA
 case h_2=>cases hA
 rename_i hokB hnd hpm;have hbor:jk ags=[]∨(zF S.rm=true∧io0 S.pm=true∧MU (jk ags) (fU ags)=true):=by
  split at hokB
  ·rename_i e;exact .inl e
  ·split at hokB
   ·rename_i h1 h2;exact .inr ⟨h1,h2,hokB⟩
   ·cases hokB
 have hbor':jk ags=[]∨(zF S.rm=true∧io0 S.pm=true):=hbor.imp id fun h=>⟨h.1,h.2.1⟩
 have call:∀(ds rs us:List D),du ags (aA δ (gN ags))=some ds→S.f ds=some (.ret rs us)→(∀v w' F' R vs,v=lf vs→CallPost S (q.args.toList.map a.eval).toArray rs us w (fun b=>F b∨∃r∈jk ags,O b=some (r,0)) (fun b=>match O b with
   | some (r,0)=>Cv ags r 0
   | _=>none) F' R vs w'→Next c B X w0 F0 k r (a.put o.dst v) w')→o.wp P a w (Next c B X w0 F0 k r) Q:=by
  intro ds rs us h1 h2 h3;have hargs:=Ts (F':=fun b=>F b∨∃r∈jk ags,O b=some (r,0)) (ow:=fun b=>match O b with
   | some (r,0)=>Cv ags r 0
   | _=>none) hI (fun _ h=>.inl h) q.args.toList S.pm ags 0 ds hags hpm h1 (fun r hr b hb=>.inr ⟨r,hr,hb⟩) (fun j r hj b hb=>by simp only [hb];rw [LW hnd hj])
  have he:=hM ds rs us h2 (q.args.toList.map a.eval).toArray w _ _ (iv (fun _ h=>Or.inl h) (fun _ _=>rfl) hI.gl) (by simpa using hargs) (fun b hb=>?_) (fun b i hb=>?_) o a (Next c B X w0 F0 k r) Q (fun v w' hp=>?_)
  ·unfold Oper.wp
   rw [XW ho hf];have:q.args.map a.eval=(q.args.toList.map a.eval).toArray:=by rw [←ajk,aiO]
   rw [this];exact he
  ·rcases hb with hb | ⟨r',hr,hb⟩
   ·obtain⟨g1,g2⟩:=hI.fl b hb
    exact⟨g1,by simp only [g2]⟩
   ·refine⟨(hI.ol b _ hb).1,?_⟩
    simp only [hb];cases h:Cv ags r' 0 with
    | none=>rfl
    | some j =>
     rcases hbor with h0 | ⟨_,_,h0⟩
     ·rw [h0] at hr;cases hr
     ·exact absurd (AO h) (Se h0 r' hr)
  ·split at hb
   ·rename_i r' hr;exact(hI.ol b _ hr).1
   ·cases hb
  ·obtain⟨F',R,vs,h4,h5⟩:=hp
   exact h3 v w' F' R vs h4 h5
 have asm:∀(K:List D→List D→Option Out),kN [] ags (aA δ (gN ags)) (fun ds=>ae (S.f ds) K)=some r→∃ds rs us,du ags (aA δ (gN ags))=some ds∧S.f ds=some (.ret rs us)∧K rs us=some r:=by
  intro K h;rw [lZ] at h;obtain⟨ds,h1,h2⟩:=aik.1 h;simp only [ai0] at h2;unfold ae at h2;split at h2
  ·rename_i rs us h3
   exact⟨ds,rs,us,h1,h3,h2⟩
  ·cases h2
 have uslen:∀{ds rs us:List D} {F':Nat→Prop} {R:Nat→Option Nat} {vs:List Value} {w':World} {F1:Nat→Prop} {ow:Nat→Option Nat},du ags (aA δ (gN ags))=some ds→CallPost S (q.args.toList.map a.eval).toArray rs us w F1 ow F' R vs w'→FF.outs us (fU ags)=us:=by
  intro ds rs us F' R vs w' F1 ow h1 h2;have h3:=(Ja (c:=c) (a:=a) (δ:=δ) ags S.pm q.args.toList us (IW hI _ _ _ _ hags hpm h1) (by simpa using h2.us)).1;unfold FF.outs;rw [ZY us _ 0 (by omega),ait,←h3,List.take_length]
 have hlv0:∀i lv,(aD S.rm i = .dat lv∨∃z io,aD S.rm i = .own z lv io)→jk ags=[]∨lv≤1:=fun i lv hk=>hbor'.imp id fun h=>VR h.1 i lv hk
 split at hA
 ·rename_i hd
  split at hA
  case h_2=>cases hA
  rename_i hrm;cases hA;obtain⟨ds,rs,us,h1,h2,h3⟩:=asm _ hg;refine call ds rs us h1 h2 (fun v w' F' R vs hv hp=>?_)
  obtain⟨F2,O2,hI'⟩:=vC (v:=v) (dst:=none) (x:=[]) hI hags hpm h1 hnd hbor' hp (.inl ⟨rfl,rfl⟩) (fun _=>none) (fun _ _ h=>by cases h) (fun _ _=>rfl) (fun _ _ _ _ _ _ h=>by cases h);rw [uslen h1 hp] at h3;exact⟨F2,O2,_,by rw [hd];exact hI',h3⟩
 ·rename_i d hd
  split at hA
  ·rename_i h1' h2' hrm
   cases hA;obtain⟨ds,rs,us,h1,h2,h3⟩:=asm _ hg;refine call ds rs us h1 h2 (fun v w' F' R vs hv hp=>?_)
   obtain⟨F2,O2,hI'⟩:=vC (v:=v) (dst:=some d) (x:=[.bad]) hI hags hpm h1 hnd hbor' hp (.inr ⟨d,.bad,rfl,rfl,h2'⟩) (fun _=>none) (fun _ _ h=>by cases h) (fun _ _=>rfl) (fun _ _ _ _ d y _ h _=>by
    simp only [aiy,and_true] at h;exact .inl h.symm)
   rw [uslen h1 hp] at h3;exact⟨F2,O2,_,by rw [hd];exact hI',h3⟩
  ·rename_i kd h1' h2' hrm
   cases hA;obtain⟨ds,rs,us,h1,h2,h3⟩:=asm _ hg;refine call ds rs us h1 h2 (fun v w' F' R vs hv hp=>?_)
   have hvl:=hp.len;rw [hrm] at hvl;obtain⟨y,rfl⟩:=aiX.1 hvl;simp only [lf] at hv;subst hv;have hres:=hp.res 0;rw [hrm] at hres;simp only [aD,aiH] at hres;rw [hrm] at h1';have hlv:=hlv0 0;rw [hrm] at hlv;simp only [aD] at hlv;have fin:∀(g:Nat→Option (Nat × Nat)),(∀j p,g j=some p→p.1=d)→(∀(F2:Nat→Prop) (O2:Nat→Option (Nat × Nat)),(∀lv b,(jk ags=[]∨lv≤1)→FB F' w.heap.size lv b→FB F2 B lv b)→(∀b j,R b=some j→O2 b=g j∧B≤b∧(g j=none→F2 b))→d<δ.length→DN c.K B F2 O2 (a.put (some d) v) w' d (nth rs 0)) →
     Next c B X w0 F0 k r (a.put o.dst v) w':=by
    intro g hg' hU;obtain⟨F2,O2,hI'⟩:=vC (v:=v) (dst:=some d) (x:=[nth rs 0]) hI hags hpm h1 hnd hbor' hp (.inr ⟨d,nth rs 0,rfl,rfl,h2'⟩) g (fun j p h d' e=>by cases e;exact hg' j p h) (fun h=>by cases h) (fun F2 O2 h4 h5 d' y' e1 e2 h6=>by
     cases e1;simp only [aiy,and_true] at e2;subst e2;exact hU F2 O2 h4 h5 h6)
    rw [uslen h1 hp] at h3;exact⟨F2,O2,_,by rw [hd];exact hI',h3⟩
   have hsz:d<δ.length→av (a.put (some d) v) d=v:=fun h=>il (by rw [hI.la,←hI.ld];exact h)
   by_cases hb:nth rs 0 = .bad
   ·exact fin (fun _=>none) (fun _ _ h=>by cases h) (fun _ _ _ _ _=>.inl hb)
   have hres:=hres.resolve_left hb;cases kd with
   | dat lv =>
    simp only [WE] at h1';split at h1'
    case h_2=>cases h1'
    rename_i l hkd;rw [cR] at h1';refine fin (fun _=>none) (fun _ _ h=>by cases h) (fun F2 O2 h4 h5 h6=>.inr ?_)
    rw [hkd,hsz h6];exact .inr (cq (fun b hb=>pU h1' _ (h4 lv b (hlv lv (.inl rfl)) hb)) (fun _ _=>rfl) hres)
   | own z lv io =>
    cases io
    case true =>
     simp only [WE] at h1';split at h1'
     ·simp [jw] at h1'
     ·cases h1'
    simp only [WE] at h1';have hlv':=hlv lv (.inr ⟨z,false,rfl⟩);rcases xp h1' with ⟨l,hkd,hle⟩ | ⟨l,hkd,h1l,hle⟩
    ·refine fin (fun _=>some (d,0)) (fun _ _ h=>by cases h;rfl) (fun F2 O2 h4 h5 h6=>.inr ?_)
     rw [hkd,hsz h6];exact .inr (eE (fun b hb=>pU hle _ (h4 lv b hlv' hb)) (fun _ _=>rfl) (fun b _ hb=>⟨⟨(h5 b 0 hb.1).1,fun _=>(h5 b 0 hb.1).2.1⟩,rfl⟩) hres)
    ·refine fin (fun _=>none) (fun _ _ h=>by cases h) (fun F2 O2 h4 h5 h6=>.inr ?_)
     rw [hkd,hsz h6];refine .inr (cq (fun b hb=>?_) (fun _ _=>rfl) (na hres))
     rcases hb with hb | ⟨hb1,hb2⟩
     ·exact pU hle _ (h4 lv b hlv' hb)
     ·obtain⟨_,g2,g3⟩:=h5 b 0 hb1
      match l,h1l with
      | 1,_=>exact⟨g3 rfl,g2⟩
      | _+2,_=>exact g3 rfl
   | _=>exact hres.elim
  ·rename_i h1' h2' hn0 hn1
   cases hA;obtain⟨ds,rs,us,h1,h2,h3⟩:=asm _ hg;refine call ds rs us h1 h2 (fun v w' F' R vs hv hp=>?_)
   have hvl:=hp.len;have hfit:∃ns,aD c.K d = .tup ns∧jw S.rm ns=true:=by
    unfold WE at h1';split at h1'
    ·rename_i e;exact absurd e (hn1 _)
    ·rename_i e;exact absurd e (hn1 _)
    ·rename_i e;exact absurd e hn0
    ·split at h1'
     ·exact⟨_,‹_›,h1'⟩
     ·cases h1'
   obtain⟨ns,hkd,hsame⟩:=hfit;have hv2:v = .tuple vs.toArray:=by
    rw [hv];unfold lf;split
    ·rename_i y
     exfalso;have:S.rm.length=1:=by rw [←hvl];rfl
     obtain⟨kk,e⟩:=aiX.1 this;exact hn1 _ e
    ·rfl
   obtain⟨F2,O2,hI'⟩:=vC (v:=v) (dst:=some d) (x:=[.tup rs]) hI hags hpm h1 hnd hbor' hp (.inr ⟨d,.tup rs,rfl,rfl,h2'⟩) (fun j=>some (d,j+1)) (fun j p h d' e=>by cases e;cases h;rfl) (fun h=>by cases h) (fun F2 O2 h4 h5 d' y' e1 e2 h6=>by
    cases e1;simp only [aiy,and_true] at e2;subst e2;refine .inr ?_
    rw [hkd,il (by rw [hI.la,←hI.ld];exact h6),hv2];refine⟨rs,vs.toArray,rfl,rfl,fun i=>?_⟩
    obtain⟨e1,e2⟩:=Jq hsame i;rw [e1];have hgd:vs.toArray.getD i undef=vs.getD i undef:=by simp
    rw [hgd];rcases hp.res i with hb | hres
    ·exact .inl hb
    rcases e2 with e2 | ⟨lv,e2⟩ | ⟨z,lv,e2⟩
    ·rw [e2] at hres;exact hres.elim
    ·rw [e2] at hres ⊢
     exact .inr (cq (fun b hb=>h4 lv b (hlv0 i lv (.inl e2)) hb) (fun _ _=>rfl) hres)
    ·rw [e2] at hres ⊢
     exact .inr (eE (fun b hb=>h4 lv b (hlv0 i lv (.inr ⟨z,false,e2⟩)) hb) (fun _ _=>rfl) (fun b _ hb=>⟨⟨(h5 b i hb.1).1,fun _=>(h5 b i hb.1).2.1⟩,rfl⟩) hres))
   rw [uslen h1 hp] at h3;exact⟨F2,O2,_,by rw [hd];exact hI',h3⟩
  ·cases hA
end
end Go.V

namespace Go.V
open Go.RowKit
section
variable {P:Program} {c:Cx}
theorem Ge {o:Oper} {q:Call} (ho:o.op = .call q) {bi:Builtin} (hq:q.callee = .builtin bi) (f:D→D→Option D) (g:Value→Value→Sem Value) (hbi:(bi = .min∧f=Xp∧g=ajd)∨(bi = .max∧f=Tq∧g=aje))
  {A:Ac} (hA:cO c o.dst q.args.toList 0 (Mo f)=some A) {B:Nat} {X:Nat→Prop} {w0:World} {F0 F:Nat→Prop} {O:Nat→Option (Nat × Nat)} {a:Act} {w:World} {δ:List D} (hI:Inv c B X w0 F0 F O a w δ) {k:List D→Option Out} {r:Out} (hg:fW c A δ k=some r) (Q:Exit→Act→World→Prop):o.wp P a w (Next c B X w0 F0 k r) Q:=by
 rcases hbi with ⟨rfl,rfl,rfl⟩ | ⟨rfl,rfl,rfl⟩
 ·refine KD ho hq rfl (f:=Xp) (g:=ajd) (fun w G a b z x y ha hb h=>afH ha hb h) (fun x rest v he hr=>?_) hA hI hg Q
  simp [builtin,Builtin.min_,he,hr]
 ·refine KD ho hq rfl (f:=Tq) (g:=aje) (fun w G a b z x y ha hb h=>aeA ha hb h) (fun x rest v he hr=>?_) hA hI hg Q
  simp [builtin,Builtin.max_,he,hr]
theorem aa4 (hT:okT P c.T=true) (hS:∀f S,eo c.S f=some S→aw c.G P f S) (o:Oper):nj P c o:=by
 intro A hA B X w0 F0 F O a w δ hI k r hg Q;have hA0:=hA;unfold dP at hA;split at hA
 case h_1 x ho=>exact Vt (.inl ho) hA hI hg Q
 case h_2 x ho=>exact Vt (.inr ho) hA hI hg Q
 case h_3 q x y ho=>exact Yx ho A hA0 B X w0 F0 F O a w δ hI k r hg Q
 case h_4 t ho=>exact Xm hT ho A hA0 B X w0 F0 F O a w δ hI k r hg Q
 case h_5 t x ho=>exact aaL ho A hA0 B X w0 F0 F O a w δ hI k r hg Q
 case h_6 t ps ho=>exact Wd hT ho A hA0 B X w0 F0 F O a w δ hI k r hg Q
 case h_7 t n ps ho=>exact IK hT ho A hA0 B X w0 F0 F O a w δ hI k r hg Q
 case h_8 t p ho=>exact XV hT ho A hA0 B X w0 F0 F O a w δ hI k r hg Q
 case h_9 t p x ho=>exact Vq hT ho A hA0 B X w0 F0 F O a w δ hI k r hg Q
 case h_10 x ho=>exact Ou ho A hA0 B X w0 F0 F O a w δ hI k r hg Q
 case h_11 op t x y _ ho=>exact WA hT ho A hA0 B X w0 F0 F O a w δ hI k r hg Q
 case h_12 op t x ho=>exact Xv ho A hA0 B X w0 F0 F O a w δ hI k r hg Q
 case h_13 s t x ho=>exact Qo hT ho A hA0 B X w0 F0 F O a w δ hI k r hg Q
 case h_14 f u v ho=>exact OI ho A hA0 B X w0 F0 F O a w δ hI k r hg Q
 case h_15 t n m ho=>exact LG hT ho A hA0 B X w0 F0 F O a w δ hI k r hg Q
 case h_16 t x lo hi ho =>
  have hA1:=aQ hA;clear hA;obtain⟨i,hi',hA⟩:=hA1;have main:∀(hsl:i.str=false→ry i=true),UP c o.dst i x lo hi=some A→o.wp P a w (Next c B X w0 F0 k r) Q:=by
   intro hsl hA;have hA2:=hA;unfold UP at hA2;split at hA2
   case h_2=>cases hA2
   rename_i q;split at hA2
   ·rename_i lv hk;exact Lm hT ho hi' hsl hk hA hI hg Q
   ·exact yb hT ho hi' hsl hA2 hI hg Q
   ·exact yb hT ho hi' hsl hA2 hI hg Q
   ·cases hA2
  split at hA
  ·rename_i h1 h2;exact main (fun _=>h1) hA
  ·rename_i h1 h2;exact main (fun h=>by rw [h] at h2;cases h2) hA
  ·cases hA
 case h_17 t x f ho=>exact KQ hT ho A hA0 B X w0 F0 F O a w δ hI k r hg Q
 case h_18 t x f ho=>exact Wx hT ho A hA0 B X w0 F0 F O a w δ hI k r hg Q
 case h_19 t x i ho=>exact Lh hT ho A hA0 B X w0 F0 F O a w δ hI k r hg Q
 case h_20 t x i ho=>exact Wi hT ho A hA0 B X w0 F0 F O a w δ hI k r hg Q
 case h_21 x i ho=>exact PG ho A hA0 B X w0 F0 F O a w δ hI k r hg Q
 case h_22 q ho =>
  unfold aam at hA;split at hA
  ·rename_i x t hq h1 h2
   have hA1:=aQ hA;clear hA;obtain⟨i,hi,hA⟩:=hA1;have eq:q={callee:=.builtin .len,args:=#[x],argTypes:=#[t]}:=by
    obtain⟨cl,ar,ty⟩:=q;simp only at hq h1 h2;subst hq;congr
    ·rw [←aiO (xs:=ar),h1]
    ·rw [←aiO (xs:=ty),h2]
   rw [eq] at ho;split at hA
   ·rename_i g1 g2
    exact Mq hT ho hi (fun _=>g1) (fun h=>by cases h) hA hI hg Q
   ·rename_i g1 g2
    exact Mq hT ho hi (fun h=>by cases h) (fun _=>g2) hA hI hg Q
   ·cases hA
  ·rename_i s x t u hq h1 h2
   split at hA
   case h_2=>cases hA
   rename_i htu;rw [bd] at htu;subst htu;have hA1:=aQ hA;clear hA;obtain⟨i,hi,hA⟩:=hA1;have hA1:=aQ hA;clear hA;obtain⟨e,he,hA⟩:=hA1;split at hA
   case h_2=>cases hA
   rename_i hsl;exact TA hT ho hq h1 h2 hi he hsl hA hI hg Q
  ·rename_i hq;exact Ge ho hq Xp ajd (.inl ⟨rfl,rfl,rfl⟩) hA hI hg Q
  ·rename_i hq;exact Ge ho hq Tq aje (.inr ⟨rfl,rfl,rfl⟩) hA hI hg Q
  ·rename_i f hq
   split at hA
   case h_2=>cases hA
   rename_i S hlk;exact Za hS ho hq hlk hA hI hg Q
  ·rename_i t hq
   split at hA
   case h_2=>cases hA
   rename_i f hC;split at hA
   case h_2=>cases hA
   rename_i S hlk;exact abp hS ho hq hlk hA hI hg Q
  ·cases hA
 case h_23=>cases hA
def Nt (n:Nat) (f:(List D→Option Out)→Option Out):Prop:=∃o:Option (List D),(∀k,f k=o.bind k)∧∀l,o=some l→l.length=n
def pI:Ac→Prop
 | .one _ _ _=>True
 | .many _ hw cw fn=>∀is,Nt (hw++cw).length (fn is)
theorem lg {n:Nat} {l:List D} (h:l.length=n):Nt n (fun k=>k l):=⟨some l,fun _=>rfl,fun l' e=>by cases e;exact h⟩
theorem tg {n:Nat}:Nt n (fun _=>none):=⟨none,fun _=>rfl,fun _ e=>by cases e⟩
theorem iP {n:Nat} {X:Option D} {f:D→(List D→Option Out)→Option Out} (h:∀y,Nt n (f y)):Nt n (fun k=>X.bind fun y=>f y k):=by
 cases X with
 | none=>exact tg
 | some y=>exact h y
theorem acw {n:Nat} {X:Option (List D)} {f:List D→(List D→Option Out)→Option Out} (h:∀y,Nt n (f y)):Nt n (fun k=>X.bind fun y=>f y k):=by
 cases X with
 | none=>exact tg
 | some y=>exact h y
theorem Af {n:Nat} {is:List D} {i:Nat} {f:D→(List D→Option Out)→Option Out} (h:∀y,Nt n (f y)):Nt n (fun k=>iL is i fun y=>f y k):=by
 simp only [fy];exact h _
theorem aeb {n q r:Nat} {is:List D} {f:D→D→List D→(List D→Option Out)→Option Out} (h:∀b p is,Nt n (f b p is)):Nt n (fun k=>goP q r is fun b p is=>f b p is k):=by
 unfold goP;cases aiw q r
 ·rcases is with _ | ⟨p,_ | ⟨b,is⟩⟩
  ·exact tg
  ·exact tg
  ·exact h _ _ _
 ·cases is with
  | nil=>exact tg
  | cons b is=>exact h _ _ _
theorem abq {n m:Nat} {chk:Bool} {b p y:D} {f:D→(List D→Option Out)→Option Out} (h:∀y,Nt n (f y)):Nt n (fun k=>stK chk m b p y fun b=>f b k):=by
 unfold stK;cases chk
 ·exact iP h
 ·exact iP fun _=>iP h
theorem TL {n:Nat} {rd:List Nat} {is:List D} {f:D→(List D→Option Out)→Option Out} (h:∀y,Nt n (f y)):Nt n (fun k=>nH rd is fun y=>f y k):=by
 unfold nH;rcases rd with _ | ⟨a,_ | ⟨b,rd⟩⟩
 ·exact h _
 ·exact Af h
 ·exact Af fun p=>Af fun x=>iP h
theorem acD {n:Nat} {ags:List Ag} {is:List D} {f:List D→(List D→Option Out)→Option Out} (h:∀y,Nt n (f y)):Nt n (fun k=>kN [] ags is fun y=>f y k):=by
 simp only [lZ,ai0];cases du ags is with
 | none=>exact tg
 | some y=>exact h y
theorem ZD {n:Nat} {r:Option Out} {f:List D→List D→(List D→Option Out)→Option Out} (h:∀y z,Nt n (f y z)):Nt n (fun k=>ae r fun y z=>f y z k):=by
 unfold ae;split
 ·exact h _ _
 ·exact tg
theorem cE {dst:Option Nat} {xs:List Operand} {lv:Nat} {h:List D→Option D} {A:Ac} (hA:cO c dst xs lv h=some A):pI A:=by
 unfold cO at hA
 repeat' (split at hA)
 all_goals first | (cases hA;done) | (cases hA;trivial)
theorem aar {rd:List Nat} {d lv l:Nat} {h:List D→Option D} {A:Ac} (hA:aew (fun h=>Ac.one rd d h) (Sp lv l h)=some A):pI A:=by
 unfold Sp at hA
 repeat' (split at hA)
 all_goals first | (cases hA;done) | (cases hA;trivial)
theorem WG {dst:Option Nat} {x:Operand} {t:Nat} {A:Ac} (hA:WU c dst x t=some A):pI A:=by
 unfold WU at hA
 repeat' (split at hA)
 all_goals first
  | (cases hA;done)
  | exact cE hA
  | (cases hA;trivial)
  | (cases hA;exact fun is=>Af fun x=>lg rfl)
  | (cases hA;exact fun is=>Af fun p=>Af fun x=>iP fun y=>lg rfl)
  | (cases hA;exact fun is=>lg rfl)
  | (obtain⟨i,_,hA⟩:=aQ hA;exact cE hA)
theorem abr {dst:Option Nat} {i:TI} {p:Operand} {A:Ac} (hA:aeD c dst i p=some A):pI A:=by
 unfold aeD at hA
 repeat' (split at hA)
 all_goals first | (cases hA;done) | exact cE hA | exact aar hA
theorem adA {i:TI} {p x:Operand} {A:Ac} (hA:adj c i p x=some A):pI A:=by
 have main:∀q r lv,Vi c i q r lv x=some A→pI A:=by
  intro q r lv hA;unfold Vi at hA
  repeat' (split at hA)
  all_goals first
   | (cases hA;done)
   | (cases hA;exact fun is=>aeb fun b p is=>Af fun y=>abq fun b=>lg rfl)
   | (cases hA;exact fun is=>aeb fun b p is=>abq fun b=>lg rfl)
 unfold adj at hA
 repeat' (split at hA)
 all_goals first | (cases hA;done) | exact main _ _ _ hA
theorem adk {dst:Option Nat} {i:TI} {f:Nat} {p:Operand} {A:Ac} (hA:aeN c dst i f p=some A):pI A:=by
 unfold aeN at hA
 repeat' (split at hA)
 all_goals first | (cases hA;done) | exact cE hA | (cases hA;trivial)
theorem abI {dst:Option Nat} {i:TI} {x y:Operand} {A:Ac} (hA:ae2 c dst i x y=some A):pI A:=by
 unfold ae2 at hA
 repeat' (split at hA)
 all_goals first | (cases hA;done) | exact cE hA | (cases hA;trivial)
theorem adC {dst:Option Nat} {i:TI} {n:Nat} {ps:List (Nat × Operand)} {A:Ac} (hA:aeW c dst i n ps=some A):pI A:=by
 unfold aeW at hA;simp only at hA
 repeat' (split at hA)
 all_goals first | (cases hA;done) | (cases hA;exact fun is=>iP fun y=>lg rfl)
theorem adJ {n:Nat} {chk:Bool} {b:D} {f:D→(List D→Option Out)→Option Out} (h:∀y,Nt n (f y)):Nt n (fun k=>Yk chk b fun b=>f b k):=by
 cases chk
 ·exact h b
 ·exact iP h
theorem acz {dst:Option Nat} {i:TI} {x y:Operand} {A:Ac} (hA:abL c dst i x y=some A):pI A:=by
 have main:∀d chk rs rx os,aaY c d i chk rs rx os=some A→pI A:=by
  intro d chk rs rx os hA;unfold aaY at hA
  repeat' (split at hA)
  all_goals first
   | (cases hA;done)
   | (cases hA;exact fun is=>TL fun a=>TL fun b=>adJ fun b=>iP fun y=>lg rfl)
   | (cases hA;exact fun is=>TL fun b=>adJ fun b=>iP fun y=>lg rfl)
 unfold abL at hA
 repeat' (split at hA)
 all_goals first
  | (cases hA;done)
  | exact main _ _ _ _ _ hA
theorem acI {dst:Option Nat} {str:Bool} {x:Operand} {A:Ac} (hA:aaD c dst str x=some A):pI A:=by
 unfold aaD at hA
 repeat' (split at hA)
 all_goals first | (cases hA;done) | exact cE hA | (cases hA;trivial)
theorem adB {dst:Option Nat} {i:TI} {x:Operand} {lo hi:Option Operand} {A:Ac} (hA:UP c dst i x lo hi=some A):pI A:=by
 have own:RT c dst i x lo hi=some A→pI A:=by
  intro hA;unfold RT at hA
  repeat' (split at hA)
  all_goals first | (cases hA;done) | (cases hA;exact fun is=>TL fun a=>iP fun y=>lg rfl)
 unfold UP at hA
 repeat' (split at hA)
 all_goals first | (cases hA;done) | exact cE hA | exact own hA
theorem adM {dst:Option Nat} {i e:TI} {x y:Operand} {A:Ac} (hA:aeJ c dst i e x y=some A):pI A:=by
 unfold aeJ at hA
 repeat' (split at hA)
 all_goals first | (cases hA;done) | (cases hA;exact fun is=>iP fun y=>lg rfl)
theorem ad1 {dst:Option Nat} {i:TI} {x:Operand} {A:Ac} (hA:aez c dst i x=some A):pI A:=by
 unfold aez at hA
 repeat' (split at hA)
 all_goals first | (cases hA;done) | (cases hA;exact fun is=>iP fun y=>lg rfl) | (cases hA;exact fun is=>iP fun y=>iP fun y=>lg rfl)
theorem aaB {dst:Option Nat} {t f:Nat} {S:FS} {xs:List Operand} {A:Ac} (hA:Xd c dst t f S xs=some A):pI A:=by
  unfold Xd at hA
  repeat' (split at hA)
  all_goals first
    | (cases hA;done)
    | (cases hA;exact fun is=>by
        cases is with
        | nil=>exact tg
        | cons cl is=>exact acw fun caps=>acD fun ds=>ZD fun rs us=>lg rfl)
theorem ad0 {dst:Option Nat} {i:TI} {A:Ac} (hA:aeF c dst i=some A):pI A:=by
 unfold aeF at hA
 repeat' (split at hA)
 all_goals first | (cases hA;done) | (cases hA;exact fun is=>lg rfl)
theorem adY {dst:Option Nat} {x:Operand} {i:Nat} {A:Ac} (hA:afk c dst x i=some A):pI A:=by
 unfold afk at hA
 repeat' (split at hA)
 all_goals first | (cases hA;done) | (cases hA;trivial) | (cases hA;exact fun is=>Af fun t=>iP fun y=>lg rfl)
theorem VK (us:List D):∀(ios:List Nat) (j:Nat),(FF.go us j ios).length=ios.length
 | [],_=>rfl
 | _::l,j=>by simp [FF.go,VK us l]
theorem abx {dst:Option Nat} {S:FS} {xs:List Operand} {A:Ac} (hA:FF c dst S xs=some A):pI A:=by
 unfold FF at hA;split at hA
 ·cases hA
 simp only at hA;split at hA
 case h_2=>cases hA
 repeat' (split at hA)
 all_goals first
  | (cases hA;done)
  | (cases hA;exact fun is=>acD fun ds=>ZD fun rs us=>lg (by simp [FF.outs,VK]))
theorem adD {dst:Option Nat} {i j:TI} {x:Operand} {A:Ac} (hA:aeQ c dst i j x=some A):pI A:=by
 unfold aeQ at hA
 repeat' (split at hA)
 all_goals first | (cases hA;done) | exact cE hA | (cases hA;trivial)
theorem acB {dst:Option Nat} {i:TI} {x y:Operand} {A:Ac} (hA:aeB c dst i x y=some A):pI A:=by
 unfold aeB at hA
 repeat' (split at hA)
 all_goals first | (cases hA;done) | exact cE hA | (obtain⟨i,_,hA⟩:=aQ hA;exact cE hA)
theorem adt {dst:Option Nat} {i:TI} {ps:List (Nat × Operand)} {A:Ac} (hA:afB c dst i ps=some A):pI A:=by
 unfold afB at hA;simp only at hA
 repeat' (split at hA)
 all_goals first | (cases hA;done) | exact cE hA
theorem ab9 {dst:Option Nat} {x:Operand} {A:Ac} (hA:aer c dst x=some A):pI A:=by
 unfold aer at hA
 repeat' (split at hA)
 all_goals first | (cases hA;done) | exact cE hA | (cases hA;trivial)
theorem abX {dst:Option Nat} {q:Call} {A:Ac} (hA:aam c dst q=some A):pI A:=by
 unfold aam at hA;split at hA
 ·obtain⟨i,_,hA⟩:=aQ hA
  split at hA<;>first | exact acI hA | cases hA
 ·split at hA
  ·obtain⟨i,_,hA⟩:=aQ hA
   obtain⟨e,_,hA⟩:=aQ hA;split at hA<;>first | exact acz hA | cases hA
  ·cases hA
 ·exact cE hA
 ·exact cE hA
 ·split at hA<;>first | exact abx hA | cases hA
 ·repeat' (split at hA)
  all_goals first | exact aaB hA | cases hA
 ·cases hA
theorem Sm {o:Oper} {A:Ac} (hA:dP c o=some A):pI A:=by
 unfold dP at hA;split at hA
 case h_1=>exact WG hA
 case h_2=>exact WG hA
 case h_3=>exact cE hA
 case h_4=>obtain⟨i,_,hA⟩:=aQ hA;exact ad0 hA
 case h_5=>obtain⟨i,_,hA⟩:=aQ hA;exact ad1 hA
 case h_6=>obtain⟨i,_,hA⟩:=aQ hA;exact adt hA
 case h_7 =>
  obtain⟨i,_,hA⟩:=aQ hA;obtain⟨e,_,hA⟩:=aQ hA;split at hA<;>first | exact adC hA | cases hA
 case h_8=>obtain⟨i,_,hA⟩:=aQ hA;exact abr hA
 case h_9 =>
  split at hA
  ·obtain⟨i,_,hA⟩:=aQ hA;exact adA hA
  ·cases hA
 case h_10=>exact ab9 hA
 case h_11 =>
  obtain⟨i,_,hA⟩:=aQ hA;split at hA
  ·exact cE hA
  ·split at hA<;>exact cE hA
 case h_12=>exact cE hA
 case h_13 =>
  obtain⟨i,_,hA⟩:=aQ hA;obtain⟨e,_,hA⟩:=aQ hA;exact adD hA
 case h_14=>split at hA<;>first | exact cE hA | cases hA
 case h_15 =>
  obtain⟨i,_,hA⟩:=aQ hA;obtain⟨e,_,hA⟩:=aQ hA;split at hA<;>first | exact adM hA | cases hA
 case h_16 =>
  obtain⟨i,_,hA⟩:=aQ hA;split at hA<;>first | exact adB hA | cases hA
 case h_17=>obtain⟨i,_,hA⟩:=aQ hA;exact adk hA
 case h_18 =>
  obtain⟨i,_,hA⟩:=aQ hA;split at hA<;>first | exact cE hA | cases hA
 case h_19=>obtain⟨i,_,hA⟩:=aQ hA;exact abI hA
 case h_20=>obtain⟨i,_,hA⟩:=aQ hA;exact acB hA
 case h_21=>exact adY hA
 case h_22=>exact abX hA
 case h_23=>cases hA
end
end Go.V

namespace Go.V
open Go.RowKit
def Yi:Kd→Bool
 | .via _=>false
 | .ref _=>false
 | _=>true
def aah (c:Cx) (ops:List Oper) (o:Oper):Bool :=
 (match o.dst with
  | some d=>!uy (aD c.K d)
  | none=>true) &&
 (match o.guard with
  | none=>true
  | some (j,_)=>(match NE ops j with
    | some g=>(match aD c.K g with
     | .dat _=>true
     | _=>false)
    | none=>false) &&
   (match dP c o with
    | some (.one _ d _)=>(match o.dst with
     | some d'=>aiw d' d
     | none=>false)
    | some (.many _ hw cw _)=>(hw++cw).all (fun s=>Yi (aD c.K s))&&(match o.dst with
     | some d=>oM d hw
     | none=>true)
    | none=>true))
def IoV (c:Cx) (V:Nat→Value) (a:Act):Prop:=∀s,uy (aD c.K s)=true→av a s=V s
theorem ad8 {P:Program} {o:Oper} {a:Act} {next:Act→World→Prop} {Q:Exit→Act→World→Prop}:∀{res:Result Go.Next},o.upon P a next Q res→o.upon P a (fun a' w'=>next a' w'∧∀s,o.dst≠some s→av a' s=av a s) Q res:=by
 have key:∀(df:List Deferred) (v:Value) (s:Nat),o.dst≠some s→av (({a with defers:=df}:Act).put o.dst v) s=av a s:=by
  intro df v s hs;cases hd:o.dst with
  | none=>rfl
  | some d =>
   have:s≠d:=fun e=>hs (by rw [hd,e])
   exact(eL this).trans rfl
 have key0:∀(v:Value) (s:Nat),o.dst≠some s→av (a.put o.dst v) s=av a s:=fun v s hs=>key a.defers v s hs
 intro res h;cases res with
 | ok n w' =>
  cases n<;>simp only [Oper.upon] at h ⊢ <;>
   first
    | exact⟨h,key0 _⟩
    | exact⟨h,key _ _⟩
    | exact ajl h (fun e w'' he=>by cases e<;>first | exact⟨he,key0 _⟩ | exact he)
    | exact Rows.mono h (fun _ _ he=>⟨he,key0 _⟩)
 | halt x w'=>cases x<;>simp only [Oper.upon] at h ⊢<;>exact h
section
variable {P:Program} {c:Cx} {B:Nat} {X:Nat→Prop} {w0:World} {F0 F:Nat→Prop} {O:Nat→Option (Nat × Nat)} {a:Act} {w:World} {δ:List D}
theorem xj:∀(ss:List Nat) (l:List D) (j:Nat),j+ss.length=l.length→fit l j ss=l.drop j
 | [],l,j,h=>by simp [fit,List.drop_eq_nil_of_le (show l.length≤j by simp at h;omega)]
 | s::ss,l,j,h=>by
  simp only [aiY] at h;have hj:j<l.length:=by omega
  simp only [fit];rw [xj ss l (j+1) (by omega),aiR hj,iS,aio,aiD hj];rfl
def Jt (K:List Kd) (dst:Option Nat) (δ:List D) (s:Nat):D :=
 match dst with
 | some d=>if oM s (d::ic d K 0) then GO (aD K s) else nth δ s
 | none=>nth δ s
theorem FW (K:List Kd) (dst:Option Nat) (δ:List D):∀(ss:List Nat) (k:List D→Option Out),VY K δ dst ss k=k (ss.map (Jt K dst δ))
 | [],k=>by simp [VY]
 | s::ss,k=>by
  cases dst with
  | none=>simp only [VY,Jt,fy,aiI];exact FW K none δ ss _
  | some d =>
   simp only [VY,aiI];cases h:oM s (d::ic d K 0)
   ·simp only [fy]
    rw [FW K (some d) δ ss];simp only [Jt,h,aiU,if_false]
   ·simp only
    rw [FW K (some d) δ ss];simp only [Jt,h,if_true]
theorem tq (f:Nat→D):∀(ss:List Nat) (δ:List D) (s:Nat),nth (ay δ ss (ss.map f)) s=if s∈ss then(if s<δ.length then f s else .bad) else nth δ s
 | [],δ,s=>by simp [ay]
 | t::ss,δ,s=>by
  simp only [aiI,ay];rw [tq f ss (jh δ t (f t)) s,jm];by_cases hs:s∈ss
  ·simp [hs]
  ·by_cases ht:s=t
   ·subst ht
    simp only [hs,if_false,ais,true_or,if_true];exact cM _ _ _
   ·simp only [hs,if_false,ais,ht,or_self]
    exact fF _ _ _ _ ht
theorem XK {δ:List D} {s:Nat} (h:nth δ s ≠ .bad):s<δ.length:=by
 by_cases hl:s<δ.length
 ·exact hl
 ·exfalso
  rw [iS,aio,aiL (by omega)] at h;exact h rfl
theorem ae0 {s:Nat} (hs:s<a.tmps.size):DN c.K B F O (a.put (some s) undef) w s (GO (aD c.K s)):=by
 have hav:av (a.put (some s) undef) s=undef:=by
  simp [av,Act.put,hs]
 unfold GO;split
 ·rename_i lv hk
  refine .inr ?_
  simp only [hk];refine .inr ?_
  rw [hav];exact⟨rfl,rfl⟩
 ·exact .inl rfl
theorem Inv.pass_over (h:Inv c B X w0 F0 F O a w δ) {dst:Option Nat} {hw cw:List Nat} (hk:∀s∈hw++cw,Yi (aD c.K s)=true) (hd:∀d,dst=some d→d∈hw) :
  Inv c B X w0 F0 F O (a.put dst undef) w (ay δ (hw++(cw++bu c.K hw)) ((hw++cw).map (Jt c.K dst δ))):=by
 have hav:∀s,dst≠some s→av (a.put dst undef) s=av a s:=by
  intro s hs;cases dst with
  | none=>rfl
  | some d=>exact eL fun e=>hs (by rw [e])
 have hnd:∀s,Yi (aD c.K s)=true→∀d,s∉ic d c.K 0:=fun s hs d hm=>by
  rcases Bz hm with e | e<;>rw [e] at hs<;>cases hs
 refine h.many (by simp) (by cases dst<;>simp [Act.put]) (by cases dst<;>rfl) (fun s hs=>hav s fun e=>hs (hd s e)) (fun r hr hn hb=>?_) (fun s hs=>?_) (fun _ hb=>hb) (fun _ _=>rfl) (fun _ _ hp _=>⟨hp,rfl⟩) h.fl h.ol (fun _ hb=>.inl hb) (aiQ _) rfl rfl rfl (fun _ _ _=>rfl)
 ·rw [tq,if_pos (aiZ _ hr),if_pos (XK hb)]
  unfold Jt;split
  ·rename_i d
   rw [if_neg]
   ·exact hb
   ·rw [jO]
    simp only [decide_eq_true_eq,ais,not_or];exact⟨fun e=>hn (e ▸ hd d rfl),hnd r (hk r (aiZ _ hr)) d⟩
  ·exact hb
 ·rw [tq,if_pos hs]
  split
  case isFalse=>exact .inl rfl
  rename_i hsl;have keep:dst≠some s→DN c.K B F O (a.put dst undef) w s (nth δ s):=by
   intro hne;rcases h.slot s with hb | hb
   ·exact .inl hb
   ·refine .inr ?_
    have hks:=hk s hs;rw [hav s hne];generalize aD c.K s=kk at hks hb;cases kk<;>first | exact hb | cases hks
  unfold Jt;split
  ·rename_i d
   split
   ·rename_i hm
    rw [jO] at hm;simp only [decide_eq_true_eq,ais] at hm;rcases hm with rfl | hm
    ·exact ae0 (by rw [h.la,←h.ld];exact hsl)
    ·rcases Bz hm with e | e<;>(rw [e];exact .inl rfl)
   ·rename_i hm
    rw [jO] at hm;simp only [decide_eq_true_eq,ais,not_or] at hm;exact keep fun e=>hm.1 (by cases e;rfl)
  ·exact keep (by simp)
def rdS (c:Cx) (ops:List Oper) (o:Oper):List Nat :=
 match dP c o with
 | none=>[]
 | some A=>match o.guard with
  | none=>ag5 A
  | some (j,_)=>match NE ops j with
   | none=>[]
   | some g=>match A with
    | .one rd _ _=>g::rd
    | .many rd hw cw _=>g::(rd++(hw++cw))
def wrS (c:Cx) (o:Oper):List Nat :=
 match dP c o with
 | none=>[]
 | some (.one _ d _)=>d::ic d c.K 0
 | some (.many _ hw cw _)=>hw++(cw++bu c.K hw)
theorem ro {δ δ':List D}:∀{ss:List Nat},(∀s∈ss,nth δ s=nth δ' s)→aA δ ss=aA δ' ss
 | [],_=>rfl
 | s::ss,h=>by
  simp only [aA];rw [h s (by simp),ro fun t ht=>h t (by simp [ht])]
theorem Sx {δ δ':List D}:∀{ss:List Nat},aA δ ss=aA δ' ss→∀s∈ss,nth δ s=nth δ' s
 | t::ss,h,s,hs=>by
  simp only [aA,aiy] at h;rcases ais.1 hs with rfl | hs
  ·exact h.1
  ·exact Sx h.2 s hs
theorem BI (c:Cx) (ops:List Oper) (o:Oper):∃φ:List D→Option (List D),(∀δ k,eX c ops o δ k=(φ δ).bind fun l=>k (ay δ (wrS c o) l))∧∀δ δ',aA δ (rdS c ops o)=aA δ' (rdS c ops o)→φ δ=φ δ':=by
 unfold eX rdS wrS;cases hA:dP c o with
 | none=>exact⟨fun _=>none,fun _ _=>rfl,fun _ _ _=>rfl⟩
 | some A =>
  have hn:=Sm hA;cases hgd:o.guard with
  | none =>
   cases A with
   | one rd d h =>
    refine⟨fun δ=>(h (aA δ rd)).map fun z=>[z],fun δ k=>?_,fun δ δ' e=>by simp only [ag5] at e;simp only [e]⟩
    simp only [ch];cases h (aA δ rd) with
    | none=>rfl
    | some z=>exact dc _ _ _ _
   | many rd hw cw fn =>
    refine⟨fun δ=>aiE (hn (aA δ rd)),fun δ k=>?_,fun δ δ' e=>by simp only [ag5] at e;simp only [e]⟩
    simp only [ch,dc,rR];exact(aiA (hn (aA δ rd))).1 _
  | some jp =>
   obtain⟨j,pol⟩:=jp;simp only;cases hg:NE ops j with
   | none=>exact⟨fun _=>none,fun _ _=>rfl,fun _ _ _=>rfl⟩
   | some g =>
    cases A with
    | one rd d h =>
     refine⟨fun δ=>(aj (GO (aD c.K d)) (nth δ g) pol (h (aA δ rd))).map fun z=>[z],fun δ k=>?_,fun δ δ' e=>by simp only [aA,aiy] at e;simp only [e.1,e.2]⟩
     simp only [ch,fy];cases aj (GO (aD c.K d)) (nth δ g) pol (h (aA δ rd)) with
     | none=>rfl
     | some z=>exact dc _ _ _ _
    | many rd hw cw fn =>
     refine⟨fun δ=>match nth δ g with
      | .v (.bool b)=>if b=pol then aiE (hn (aA δ rd)) else some ((hw++cw).map (Jt c.K o.dst δ))
      | .tup _=>some ((hw++cw).map (Jt c.K o.dst δ))
      | _=>none,fun δ k=>?_,fun δ δ' e=>?_⟩
     ·simp only [ch,dc,fy,rR,FW]
      unfold cU;split
      ·rename_i b hb
       rw [hb];simp only;split
       ·obtain⟨h1,h2⟩:=aiA (hn (aA δ rd))
        rw [h1];cases hc:aiE (hn (aA δ rd)) with
        | none=>rfl
        | some l =>
         have hl:=h2 l hc;simp only [air];rw [xj _ l 0 (by omega),ait,xj _ l 0 (by omega),ait]
       ·simp only [air]
        rw [xj _ _ 0 (by simp),ait]
      ·rename_i l hb
       rw [hb];simp only [air];rw [xj _ _ 0 (by simp),ait]
      ·rename_i hb hb'
       split
       ·rename_i b hb2;exact absurd hb2 (hb b)
       ·rename_i l hb2;exact absurd hb2 (hb' l)
       ·rfl
     ·simp only [aA,aiy,ln] at e
      have e2:=List.append_inj e.2 (by rw [sg,sg]);have e3:∀s∈hw++cw,nth δ s=nth δ' s:=Sx (by rw [ln,ln];exact e2.2);have e4:(hw++cw).map (Jt c.K o.dst δ)=(hw++cw).map (Jt c.K o.dst δ'):=by
       refine List.map_congr_left fun s hs=>?_
       unfold Jt;rw [e3 s hs]
      simp only [e.1,e2.1,e4]
def ki (c:Cx) (B:Nat) (X:Nat→Prop) (w0:World) (F0:Nat→Prop) (V:Nat→Value) (k:List D→Option Out) (r:Out) (a:Act) (w:World):Prop :=
 Next c B X w0 F0 k r a w∧IoV c V a
theorem MR (hT:okT P c.T=true) (hS:∀f S,eo c.S f=some S→aw c.G P f S) {ops:Array Oper} {o:Oper} (hok:aah c ops.toList o=true) {V:Nat→Value} (hI:Inv c B X w0 F0 F O a w δ) (hV:IoV c V a) {k:List D→Option Out} {r:Out}
  (hg:eX c ops.toList o δ k=some r) (Q:Exit→Act→World→Prop) :
  if aiB o (yielded ops a.tmps) then o.wp P a w (ki c B X w0 F0 V k r) Q else ki c B X w0 F0 V k r (a.put o.dst undef) w:=by
 unfold aah at hok;simp only [ail] at hok;obtain⟨hdst,hgd⟩:=hok;have hio:∀s,uy (aD c.K s)=true→o.dst≠some s:=fun s hs e=>by
  rw [e] at hdst;simp only at hdst;rw [hs] at hdst;cases hdst
 have lift:∀(A:Ac),dP c o=some A→fW c A δ k=some r→o.wp P a w (ki c B X w0 F0 V k r) Q:=by
  intro A hA hgo;have h:=aa4 hT hS o A hA B X w0 F0 F O a w δ hI k r hgo Q;unfold Oper.wp at h ⊢;refine ajf (P:=P) (o:=o) (a:=a) (w:=w) (K:=fun a' w'=>Next c B X w0 F0 k r a' w'∧∀s,o.dst≠some s→av a' s=av a s) (fun a' w' hn=>⟨hn.1,fun s hs=>(hn.2 s (hio s hs)).trans (hV s hs)⟩) ?_
  exact ad8 h
 have skipV:IoV c V (a.put o.dst undef):=by
  intro s hs;cases hd:o.dst with
  | none=>exact hV s hs
  | some d=>exact(eL (fun e=>hio s hs (by rw [hd,e]))).trans (hV s hs)
 unfold eX at hg;cases hA:dP c o with
 | none=>rw [hA] at hg;cases hg
 | some A =>
  rw [hA] at hg;simp only at hg;cases hgu:o.guard with
  | none =>
   rw [hgu] at hg;rw [if_pos (by simp [aiB,hgu])];refine lift A hA ?_
   cases A with
   | one rd d h =>
    simp only [ch] at hg;obtain⟨z,h1,h2⟩:=aik.1 hg;rw [dc] at h2;simp only [fW,h1,air];exact h2
   | many rd hw cw fn =>
    simp only [ch,dc,rR] at hg;exact hg
  | some jp =>
   obtain⟨j,pol⟩:=jp;rw [hgu] at hg;rw [hgu,hA] at hgd;simp only [ail] at hgd;simp only at hg;cases hgs:NE ops.toList j with
   | none=>rw [hgs] at hg;cases hg
   | some g =>
    rw [hgs] at hg hgd;simp only at hgd;obtain⟨hkd,hck⟩:=hgd;have hyield:∀b,nth δ g = .v (.bool b)→yielded ops a.tmps j=some b:=by
     intro b hb;obtain⟨lv,hk⟩:∃lv,aD c.K g = .dat lv:=by
      split at hkd
      ·exact⟨_,‹_›⟩
      ·cases hkd
     have hr:=hI.dat hk;rw [hb] at hr;obtain⟨hv,_⟩:=bJ hr;have hlt:g<a.tmps.size:=by
      rw [hI.la,←hI.ld];exact XK (by rw [hb];simp)
     have hg1:a.tmps[g]?=some (.bool b):=by
      rw [av,aip,aix hlt] at hv;rw [aix hlt];simpa using hv
     unfold NE at hgs;rw [Hu,aiM] at hgs;unfold yielded;cases ho:ops[j]? with
     | none=>rw [ho] at hgs;cases hgs
     | some oj =>
      rw [ho] at hgs;simp only at hgs;simp [hgs,hg1]
    have hyT:∀l,nth δ g = .tup l→yielded ops a.tmps j=none:=by
     intro l hb;obtain⟨lv,hk⟩:∃lv,aD c.K g = .dat lv:=by
      split at hkd
      ·exact⟨_,‹_›⟩
      ·cases hkd
     have hr:=hI.dat hk;rw [hb] at hr;have hv:av a g = .tuple #[]:=(hr.rep (by simp)).2;unfold yielded;rw [NE,Hu,aiM] at hgs;cases ho:ops[j]? with
     | none=>simp
     | some oj =>
      rw [ho] at hgs;simp only at hgs;simp only [air,hgs];cases hx:a.tmps[g]? with
      | none=>rfl
      | some x =>
       have:x = .tuple #[]:=by
        rw [←hv,av,aip,hx];rfl
       subst this;rfl
    cases A with
    | one rd d h =>
     simp only [fy,ch] at hg;obtain⟨z,h1,h2⟩:=aik.1 hg;rw [dc] at h2;unfold aj at h1;have skip:z=GO (aD c.K d)→ki c B X w0 F0 V k r (a.put o.dst undef) w:=by
      rintro rfl;refine⟨⟨F,O,_,?_,h2⟩,skipV⟩
      simp only at hck;split at hck
      ·rename_i d' hd'
       rw [bd] at hck;subst hck;rw [hd'];refine hI.put ?_
       unfold GO Rs;split
       ·rename_i hkk
        refine .inr ?_
        rw [hkk];exact⟨rfl,rfl⟩
       ·exact .inl rfl
      ·cases hck
     split at h1
     case h_3=>cases h1
     case h_2 =>
      rename_i l hb;have hy:=hyT l hb;rw [if_neg (by simp [aiB,hgu,hy])];exact skip (by cases h1;rfl)
     rename_i b hb;have hy:=hyield b hb;split at h1
     ·rename_i hbp
      rw [if_pos (by simp [aiB,hgu,hy,hbp])];exact lift _ hA (by simp only [fW,h1,air];exact h2)
     ·rename_i hbp
      rw [if_neg (by simp [aiB,hgu,hy,hbp])];exact skip (by cases h1;rfl)
    | many rd hw cw fn =>
     simp only [fy,ch,FW,rR,dc] at hg;unfold cU at hg;have skip:k (ay δ (hw++(cw++bu c.K hw)) (fit ((hw++cw).map (Jt c.K o.dst δ)) 0 (hw++cw)))=some r→ki c B X w0 F0 V k r (a.put o.dst undef) w:=by
      intro hg;rw [xj _ _ 0 (by simp),ait] at hg;simp only [ail,aiF] at hck;refine⟨⟨F,O,_,hI.pass_over hck.1 (fun d hd=>?_),hg⟩,skipV⟩
      have h3:=hck.2;rw [hd] at h3;simp only [jO,decide_eq_true_eq] at h3;exact h3
     split at hg
     case h_3=>cases hg
     case h_2 =>
      rename_i l hb;have hy:=hyT l hb;rw [if_neg (by simp [aiB,hgu,hy])];exact skip hg
     rename_i b hb;have hy:=hyield b hb;obtain⟨φ,hφ,hlen⟩:=Sm hA (aA δ rd);split at hg
     ·rename_i hbp
      rw [if_pos (by simp [aiB,hgu,hy,hbp])];refine lift _ hA ?_
      simp only [fW];rw [hφ] at hg ⊢;cases hp:φ with
      | none=>rw [hp] at hg;cases hg
      | some l =>
       rw [hp] at hg;have hl:=hlen l hp;simp only [air] at hg ⊢;rw [xj _ l 0 (by omega),ait,xj _ l 0 (by omega),ait] at hg;exact hg
     ·rename_i hbp
      rw [if_neg (by simp [aiB,hgu,hy,hbp])];exact skip hg
theorem Fk (hT:okT P c.T=true) (hS:∀f S,eo c.S f=some S→aw c.G P f S) {ops:Array Oper} {V:Nat→Value} {Q:Exit→Act→World→Prop} {k:List D→Option Out} {r:Out} (hQ:∀a w,ki c B X w0 F0 V k r a w→Q .normal a w) :
  ∀(l:List Oper),(∀o∈l,aah c ops.toList o=true)→∀(F:Nat→Prop) (O:Nat→Option (Nat × Nat)) (a:Act) (w:World) (δ:List D),Inv c B X w0 F0 F O a w δ→IoV c V a→ml c ops.toList l δ k=some r→wpList P ops Q l a w
 | [],_,F,O,a,w,δ,hI,hV,hg=>hQ a w ⟨⟨F,O,δ,hI,hg⟩,hV⟩
 | o::l,hok,F,O,a,w,δ,hI,hV,hg=>by
  simp only [ml] at hg;have h:=MR hT hS (hok o (by simp)) hI hV hg Q;have ih:∀a w,ki c B X w0 F0 V (fun δ'=>ml c ops.toList l δ' k) r a w→wpList P ops Q l a w:=by
   rintro a w ⟨⟨F',O',δ',hI',hk'⟩,hV'⟩;exact Fk hT hS hQ l (fun o' ho'=>hok o' (by simp [ho'])) F' O' a w δ' hI' hV' hk'
  unfold wpList;split
  ·rename_i hw
   rw [if_pos hw] at h;exact .inl (ajf ih h)
  ·rename_i hw
   rw [if_neg hw] at h;exact ih _ _ h
end
end Go.V

namespace Go.V
open Go.RowKit
def Bd (x y:List Nat):Bool:=x.all fun s=>!oM s y
def YA (c:Cx) (ops:List Oper) (x y:Oper):Bool:=Bd (rdS c ops x) (wrS c y)&&Bd (wrS c x) (rdS c ops y)&&Bd (wrS c x) (wrS c y)
def TF (c:Cx) (x y:Oper):Bool :=
 match x.guard,y.guard,x.op,x.dst,y.op,y.dst with
 | none,none,.move (.tmp t),some d,.store _ (.tmp q) (.tmp s),none =>
  (match aD c.K t,aD c.K d,aD c.K q,aD c.K s with
   | .own _ _ _,.via r,.ref r',.dat _=>aiw r t&&aiw r' t && !aiw q t&&Bd (d::ic d c.K 0) [q,t,s]
   | _,_,_,_=>false)
 | _,_,_,_,_,_=>false
def adl (c:Cx) (x y:Oper):Bool :=
 match x.guard,y.guard,x.op,y.op,y.dst with
 | none,none,.call q,.move (.tmp t),some d =>
  (match aD c.K t,aD c.K d,q.callee with
   | .box _ _ _,.ref r',.value (.func f)=>(match eo c.S f with
    | some S=>(match mX c.K q.args.toList S.pm with
     | some ags=>aiw r' t&&oM t (fU ags)
     | none=>false)
    | none=>false)
   | _,_,_=>false)
 | _,_,_,_,_=>false
def Yp (c:Cx) (ops:List Oper) (x y:Oper):Bool:=adl c x y&&Bd (rdS c ops x) (wrS c y)&&Bd (wrS c x) (wrS c y)
def Sn (c:Cx) (ops:List Oper) (x y:Oper):Bool:=YA c ops x y||TF c x y||TF c y x||Yp c ops x y
def bef (ops:List Oper) (j:Nat):Nat→Oper→Bool
 | 0,_=>false
 | n+1,o=>o.after.toList.any fun e=>aiG .any e&&(aiw e.on j||match VL ops e.on with
  | some q=>bef ops j n q
  | none=>false)
def ZV (c:Cx) (ops:List Oper):Bool :=
 ops.zipIdx.all fun p=>(p.1.after.toList.all fun e=>!aiG .any e||decide (e.on<p.2))&&(ops.take p.2).zipIdx.all fun q=>Sn c ops q.1 p.1||bef ops q.2 3 p.1
def nz (K:List Kd) (hl:List Nat):Bool :=
 hl.all fun s=>match aD K s with
  | .via r=>oM r hl
  | .ref r=>oM r hl
  | _=>true
def eV (c:Cx):Nat→Code→Bool
 | _,.skip=>true
 | _,.region _ ops d=>ops.toList.all (aah c ops.toList)&&(!d||ZV c ops.toList)
 | b,.seq x y=>eV c b x&&eV c b y
 | b,.cond x t e=>ajq (gm c.K x) 2&&eV c b t&&eV c b e
 | _,.block id x=>eV c id x
 | b,.loop x=>eV c b x&&(match eo c.H b with
  | some (hl,xl)=>nz c.K hl&&nz c.K xl
  | none=>false)
 | _,.exit _=>true
 | _,.ret=>true
 | _,_=>false
section
variable {P:Program} {c:Cx} {B:Nat} {X:Nat→Prop} {w0:World} {F0 F:Nat→Prop} {O:Nat→Option (Nat × Nat)} {a:Act} {w:World} {δ:List D}
def WL (c:Cx) (δ:List D) (k:Out→Option Out):Option Out:=rU c δ c.res fun rs=>uD δ c.ios fun us=>usK us (k (.ret rs us))
def Ta (c:Cx) (B:Nat) (X:Nat→Prop) (w0:World) (F0:Nat→Prop) (V:Nat→Value) (k:Out→Option Out) (r:Out):Exit→Act→World→Prop
 | .normal,a,w=>ki c B X w0 F0 V (fun δ=>k (.nrm δ)) r a w
 | .exit id,a,w=>ki c B X w0 F0 V (fun δ=>k (.ext id δ)) r a w
 | .ret,a,w=>ki c B X w0 F0 V (fun δ=>WL c δ k) r a w
 | _,_,_=>False
theorem rA {x y:List Nat} (h:Bd x y=true):∀s∈x,s∉y:=by
 intro s hs;unfold Bd at h;rw [aiF] at h;simpa [jO] using h s hs
theorem ae8 {δ δ':List D} (h:δ.length=δ'.length) (hn:∀s,nth δ s=nth δ' s):δ=δ':=by
 refine List.ext_getElem h fun i h1 h2=>?_
 have:=hn i;rw [iS,iS,aio,aio,aiD h1,aiD h2] at this;exact this
theorem wO:∀(ss:List Nat) (l δ δ':List D),δ.length=δ'.length→∀s∈ss,nth (ay δ ss l) s=nth (ay δ' ss l) s
 | t::ss,l,δ,δ',hl,s,hs=>by
  cases l with
  | nil=>rw [nF _ _ _ hs,nF _ _ _ hs]
  | cons d l =>
   simp only [ay];by_cases hm:s∈ss
   ·exact wO ss l _ _ (by rw [jm,jm,hl]) s hm
   ·have:s=t:=by simpa [hm] using hs
    subst this;rw [aE _ _ _ _ hm,aE _ _ _ _ hm,cM,cM,hl]
theorem xu {A C:List Nat} {l m δ:List D} (h:∀s∈A,s∉C):ay (ay δ A l) C m=ay (ay δ C m) A l:=by
 refine ae8 (by simp only [eh]) fun s=>?_
 by_cases hA:s∈A
 ·rw [aE _ _ _ _ (h s hA)]
  exact wO A l _ _ (by rw [eh]) s hA
 ·by_cases hC:s∈C
  ·rw [aE A _ _ _ hA]
   exact(wO C m _ _ (by rw [eh]) s hC)
  ·rw [aE _ _ _ _ hC,aE _ _ _ _ hA,aE _ _ _ _ hA,aE _ _ _ _ hC]
theorem Wk {n:Nat} {o p x z:D} (h:stD n o p x=some z):o ≠ .bad∧z ≠ .bad:=by
 unfold stD at h;split at h
 ·split at h
  ·split at h
   ·cases h;exact⟨by simp,by simp⟩
   ·cases h
  ·cases h
 ·split at h
  ·cases h;exact⟨by simp,by simp⟩
  ·cases h
 ·cases h
theorem NZ (chk:Bool) (n:Nat) (b p y:D):∃E:Option D,(∀k:D→Option Out,stK chk n b p y k=E.bind k)∧∀z,E=some z→b ≠ .bad∧z ≠ .bad:=by
 cases chk
 ·exact⟨stD n b p y,fun _=>rfl,fun z hz=>Wk hz⟩
 ·refine⟨(aL y).bind fun y=>stD n b p y,fun k=>by simp only [stK,Option.bind_assoc],fun z hz=>?_⟩
  obtain⟨y',_,h⟩:=aik.1 hz;exact Wk h
theorem ZM {ops:List Oper} {x y:Oper} (h:TF c x y=true) (δ:List D) (k:List D→Option Out):eX c ops x δ (fun δ=>eX c ops y δ k)=eX c ops y δ (fun δ=>eX c ops x δ k):=by
 unfold TF at h;split at h
 case h_2=>cases h
 rename_i t d ty q s hxg hyg hxo hxd hyo hyd;split at h
 case h_2=>cases h
 rename_i z lv io r0 r lv' hkt hkd hkq hks;simp only [ail,aiv] at h;obtain⟨⟨⟨h1,h2⟩,h3⟩,h4⟩:=h;have e1:=bd.1 h1;have e2:=bd.1 h2;subst e1;subst e2;have hx:∀(δ:List D) (k:List D→Option Out),eX c ops x δ k=(aa (nth δ r) (.ref 0 0)).bind fun z=>k (ay δ (d::ic d c.K 0) [z]):=by
  intro δ k;have hA:dP c x=some (.one [r] d fun is=>(jZ fun x=>aa x (.ref 0 0)) is):=by
   simp only [dP,hxo,hxd,WU,hkt,hkd,Nat.beq_refl]
  simp only [eX,hA,hxg];rw [ch];show(aa (nth δ r) (.ref 0 0)).bind (fun z=>fc δ (d::ic d c.K 0) [z] k)=_
  exact congrArg _ (funext fun z=>dc _ _ _ _)
 have hy:∃E:D→D→D→Option D,(∀(δ:List D) (k:List D→Option Out),eX c ops y δ k=(E (nth δ r) (nth δ q) (nth δ s)).bind fun b=>k (ay δ [r] [b]))∧∀a b e z,E a b e=some z→a ≠ .bad∧z ≠ .bad:=by
  cases hT:eo c.T ty with
  | none =>
   refine⟨fun _ _ _=>none,fun δ k=>?_,fun _ _ _ _ h=>by cases h⟩
   have hA:dP c y=none:=by simp only [dP,hyo,hyd,iF,hT]
   simp only [eX,hA];rfl
  | some i =>
   have act:∀chk:Bool,dP c y=some (.many [q,r,s] [] [r] fun is k=>goP q r is fun b p is=>iL is 0 fun y=>stK chk i.n b p y fun b=>k [b]) →
     ∃E:D→D→D→Option D,(∀(δ:List D) (k:List D→Option Out),eX c ops y δ k=(E (nth δ r) (nth δ q) (nth δ s)).bind fun b=>k (ay δ [r] [b]))∧∀a b e z,E a b e=some z→a ≠ .bad∧z ≠ .bad:=by
    intro chk hA;refine⟨fun a b e=>aiE (NZ chk i.n a b e),fun δ k=>?_,fun a b e z h=>(aiA (NZ chk i.n a b e)).2 z h⟩
    simp only [eX,hA,hyg];rw [ch];simp only [goP,h3,aA];show stK chk i.n (nth δ r) (nth δ q) (nth δ s) (fun b=>fc δ [r] [b] k)=_
    rw [(aiA (NZ chk i.n (nth δ r) (nth δ q) (nth δ s))).1];exact congrArg _ (funext fun b=>dc _ _ _ _)
   have hst:dP c y=Vi c i q r (gf c.K r) (.tmp s):=by
    simp only [dP,hyo,hyd,iF,hT,adj,hkq]
   unfold Vi at hst;simp only [hks] at hst;split at hst
   ·exact act false (by rw [hst];simp only [rdP,h3])
   ·exact act true (by rw [hst];simp only [rdP,h3])
   ·refine⟨fun _ _ _=>none,fun δ k=>?_,fun _ _ _ _ h=>by cases h⟩
    simp only [eX,hst];rfl
 obtain⟨E,hE,hEl⟩:=hy;have ap:=fun s hs=>rA h4 s hs
 have hnq:∀m:List D,∀v∈[q,r,s],nth (ay δ (d::ic d c.K 0) m) v=nth δ v:=fun m v hv=>aE _ _ _ _ fun hm=>ap v hm hv
 simp only [hx,hE,hnq _ q (by simp),hnq _ r (by simp),hnq _ s (by simp)];cases hb:E (nth δ r) (nth δ q) (nth δ s) with
 | none=>cases aa (nth δ r) (.ref 0 0)<;>rfl
 | some b =>
  obtain⟨g1,g2⟩:=hEl _ _ _ _ hb;have hlive:∀a:D,a ≠ .bad→aa a (.ref 0 0)=some (.ref 0 0):=fun a ha=>by cases a<;>first | exact absurd rfl ha | rfl
  have hr:nth (ay δ [r] [b]) r=b:=by
   simp only [ay];rw [cM,if_pos];by_cases hl:r<δ.length
   ·exact hl
   ·exfalso
    rw [iS,aio,aiL (by omega)] at g1;exact g1 rfl
  simp only [hlive _ g1,hr,hlive _ g2,air];rw [xu (A:=d::ic d c.K 0) (C:=[r])];intro v hv hv';exact ap v hv (by simp at hv';simp [hv'])
theorem Yn {ops:List Oper} {x y:Oper} (h:YA c ops x y=true) (δ:List D) (k:List D→Option Out):eX c ops x δ (fun δ=>eX c ops y δ k)=eX c ops y δ (fun δ=>eX c ops x δ k):=by
 unfold YA at h;simp only [ail] at h;obtain⟨⟨h1,h2⟩,h3⟩:=h;obtain⟨φ,hφ,hφr⟩:=BI c ops x;obtain⟨ψ,hψ,hψr⟩:=BI c ops y;have e1:∀l,ψ (ay δ (wrS c x) l)=ψ δ:=fun l=>hψr _ _ (ro fun s hs=>aE _ _ _ _ fun hm=>rA h2 s hm hs)
 have e2:∀l,φ (ay δ (wrS c y) l)=φ δ:=fun l=>hφr _ _ (ro fun s hs=>aE _ _ _ _ (rA h1 s hs))
 simp only [hφ,hψ,e1,e2];cases φ δ with
 | none=>cases ψ δ<;>rfl
 | some l =>
  cases ψ δ with
  | none=>rfl
  | some m =>
   simp only [air];rw [xu (rA h3)]
theorem Bx {δ:List D}:∀(ags:List Ag) (ds:List D),du ags (aA δ (gN ags))=some ds→∀t∈fU ags,nth δ t ≠ .bad
 | [],_,_,t,ht=>by simp [fU] at ht
 | .d x chk::l,ds,h,t,ht=>by
  have ih:=Bx (δ:=δ) l;simp only [fU] at ht;cases x with
  | tmp u =>
   simp only [aA] at h;cases chk
   ·simp only [du] at h
    obtain⟨z,hz,_⟩:=ain.1 h;exact ih z hz t ht
   ·simp only [du] at h
    obtain⟨i,_,h⟩:=aik.1 h;obtain⟨z,hz,_⟩:=ain.1 h;exact ih z hz t ht
  | const v =>
   simp only [du] at h;obtain⟨z,hz,_⟩:=ain.1 h;exact ih z hz t ht
  | func f =>
   simp only [du] at h;obtain⟨z,hz,_⟩:=ain.1 h;exact ih z hz t ht
  | global g=>simp [du] at h
 | .bor u r::l,ds,h,t,ht=>by
  have ih:=Bx (δ:=δ) l;simp only [fU] at ht;cases hb:aiw u r
  ·simp only [gN,hb,aA,du] at h
   obtain⟨i,_,h⟩:=aik.1 h;obtain⟨z,hz,_⟩:=ain.1 h;exact ih z hz t ht
  ·simp only [gN,hb,aA,du] at h
   obtain⟨z,hz,_⟩:=ain.1 h;exact ih z hz t ht
 | .io u r::l,ds,h,t,ht=>by
  have ih:=Bx (δ:=δ) l;simp only [fU,ais] at ht;have lv:∀x y z:D,aa x y=some z→x ≠ .bad:=fun x y z hz e=>by subst e;cases hz
  cases hb:aiw u r
  ·simp only [gN,hb,aA,du] at h
   obtain⟨i,hi,h⟩:=aik.1 h;obtain⟨i',hi',h⟩:=aik.1 h;obtain⟨z,hz,_⟩:=ain.1 h;have e:i=nth δ r:=by
    unfold cP at hi;split at hi
    ·exact(ajm hi).symm
    ·cases hi
   rcases ht with rfl | ht
   ·rw [←e];exact lv _ _ _ hi'
   ·exact ih z hz t ht
  ·simp only [gN,hb,aA,du] at h
   obtain⟨i',hi',h⟩:=aik.1 h;obtain⟨z,hz,_⟩:=ain.1 h;have e:=bd.1 hb;rcases ht with rfl | ht
   ·rw [←e];exact lv _ _ _ hi'
   ·exact ih z hz t ht
theorem aej {ops:List Oper} {x y:Oper} (h:Yp c ops x y=true) (δ:List D) (k:List D→Option Out) (r:Out) (hs:eX c ops x δ (fun δ=>eX c ops y δ k)=some r):eX c ops y δ (fun δ=>eX c ops x δ k)=some r:=by
 unfold Yp at h;simp only [ail] at h;obtain⟨⟨h1,h2⟩,h3⟩:=h;unfold adl at h1;split at h1
 case h_2=>cases h1
 rename_i q t d hxg hyg hxo hyo hyd;split at h1
 case h_2=>cases h1
 rename_i n lv io r' f hkt hkd hqc;split at h1
 case h_2=>cases h1
 rename_i S hS;split at h1
 case h_2=>cases h1
 rename_i ags hags;simp only [ail] at h1;obtain⟨h4,h5⟩:=h1;have e4:=bd.1 h4;subst e4;have hyA:dP c y=some (.one [r'] d fun is=>(jZ fun x=>aa x (.ref 0 0)) is):=by
  simp only [dP,hyo,hyd,WU,hkt,hkd,Nat.beq_refl]
 have hw:wrS c y=d::ic d c.K 0:=by
  unfold wrS;rw [hyA]
 have hy:∀(δ:List D) (k:List D→Option Out),eX c ops y δ k=(aa (nth δ r') (.ref 0 0)).bind fun z=>k (ay δ (d::ic d c.K 0) [z]):=by
  intro δ k;simp only [eX,hyA,hyg];rw [ch];show(aa (nth δ r') (.ref 0 0)).bind (fun z=>fc δ (d::ic d c.K 0) [z] k)=_
  exact congrArg _ (funext fun z=>dc _ _ _ _)
 have live:∀(δ:List D) (K:List D→Option Out) (r:Out),eX c ops x δ K=some r→nth δ r' ≠ .bad:=by
  intro δ K r hr;have hm:r'∈fU ags:=by simpa [jO] using h5
  have fin:∀K':List D→Option Out,kN [] ags (aA δ (gN ags)) K'=some r→nth δ r' ≠ .bad:=by
   intro K' h;rw [lZ] at h;obtain⟨ds,hds,_⟩:=aik.1 h;exact Bx ags ds hds r' hm
  have hA:dP c x=aam c x.dst q:=by simp only [dP,hxo]
  have hcl:∀A,dP c x=some A→FF c x.dst S q.args.toList=some A:=by
   intro A h;rw [hA] at h;unfold aam at h;rw [hqc] at h;simp only [hS] at h;exact h
  cases hAc:dP c x with
  | none=>simp only [eX,hAc] at hr;cases hr
  | some A =>
   have hA2:=hcl A hAc;unfold FF at hA2;simp only [hags] at hA2;simp only [eX,hAc,hxg] at hr
   repeat' split at hA2
   all_goals first
    | (cases hA2;done)
    | (cases hA2;simp only [ch] at hr;exact fin _ hr)
    | skip
 have l1:=live δ _ r hs;obtain⟨φ,hφ,hφr⟩:=BI c ops x;rw [hw] at h2 h3;have e2:∀l,φ (ay δ (d::ic d c.K 0) l)=φ δ:=fun l=>hφr _ _ (ro fun s hs=>aE _ _ _ _ (rA h2 s hs))
 have hlive:∀a:D,a ≠ .bad→aa a (.ref 0 0)=some (.ref 0 0):=fun a ha=>by cases a<;>first | exact absurd rfl ha | rfl
 simp only [hφ,hy,e2] at hs ⊢;rw [hlive _ l1];cases hp:φ δ with
 | none=>rw [hp] at hs;cases hs
 | some l =>
  rw [hp] at hs;simp only [air] at hs ⊢;obtain⟨z,hz,hk⟩:=aik.1 hs;have ez:z = .ref 0 0:=by
   unfold aa at hz;split at hz
   ·cases hz
   ·exact(ajm hz).symm
  subst ez;rw [xu (rA h3)] at hk;exact hk
theorem aaN {ops:List Oper} {x y:Oper} (h:Sn c ops x y=true) (δ:List D) (k:List D→Option Out) (r:Out) (hs:eX c ops x δ (fun δ=>eX c ops y δ k)=some r):eX c ops y δ (fun δ=>eX c ops x δ k)=some r:=by
 unfold Sn at h;simp only [aiS] at h;rcases h with ((h | h) | h) | h
 ·exact(Yn h δ k).symm.trans hs
 ·exact(ZM h δ k).symm.trans hs
 ·exact(ZM h δ k).trans hs
 ·exact aej h δ k r hs
theorem aaZ {ops:List Oper} {o:Oper} {k k':List D→Option Out} {δ:List D} {r:Out} (hk:∀δ,k δ=some r→k' δ=some r) (h:eX c ops o δ k=some r):eX c ops o δ k'=some r:=by
 obtain⟨φ,hφ,_⟩:=BI c ops o;rw [hφ] at h ⊢;obtain⟨l,hl,h⟩:=aik.1 h;rw [hl];exact hk _ h
theorem HW {ops:List Oper} {o:Oper} {k:List D→Option Out} {r:Out}:∀(pre post:List Oper) (δ:List D),(∀q∈pre,Sn c ops q o=true)→ml c ops (pre++o::post) δ k=some r→eX c ops o δ (fun δ=>ml c ops (pre++post) δ k)=some r
 | [],post,δ,_,h=>h
 | q::pre,post,δ,h,hr=>by
  simp only [ai4,ml] at hr ⊢;exact aaN (h q (by simp)) δ _ r (aaZ (fun δ' h'=>HW pre post δ' (fun q' hq'=>h q' (by simp [hq'])) h') hr)
def left (ops:List Oper) (listed:Array Bool):List Oper:=(ops.zipIdx.filter fun p=>!listed.getD p.2 true).map (·.1)
theorem Inv.drawn (h:Inv c B X w0 F0 F O a w δ) (n:Nat):Inv c B X w0 F0 F O a {w with drawn:=n} δ :=
 h.step (w':={w with drawn:=n}) (fun _=>False) rfl rfl rfl (fun _ _=>⟨rfl,.inl rfl⟩) (fun _ hb=>hb) (fun _ _=>rfl) (fun _ _ hp _=>⟨hp,rfl⟩) (fun _ _ _ hv hb=>⟨rfl,(h.root hv hb).2⟩) (fun _ hf=>hf.elim) h.fl h.ol (fun _ hb=>.inl hb) (aiQ _) rfl rfl rfl (fun _ _ _=>rfl)
theorem Pf {l:List Oper} {i:Nat} {o:Oper} (h:l[i]?=some o):l.zipIdx=(l.take i).zipIdx++(o,i)::(l.drop (i+1)).zipIdx (i+1):=by
 have hi:i<l.length:=(ai3.1 h).1;have e:l=l.take i++(o::l.drop (i+1)):=by
  have h1:l[i]=o:=(ai3.1 h).2
  conv=>lhs;rw [←ai9 i l,aiR hi,h1]
 conv=>lhs;rw [e]
 rw [List.zipIdx_append,List.zipIdx_cons];have:(l.take i).length=i:=by rw [ai5];omega
 simp [this]
theorem Nj {l:List Oper} {listed:Array Bool} {i:Nat} {o:Oper} (h:l[i]?=some o) (hn:listed.getD i true=false) (hsz:i<listed.size) :
  left l listed=(((l.take i).zipIdx.filter fun p=>!listed.getD p.2 true).map (·.1))++o::((((l.drop (i+1)).zipIdx (i+1)).filter fun p=>!listed.getD p.2 true).map (·.1)) ∧
  left l (listed.setIfInBounds i true)=(((l.take i).zipIdx.filter fun p=>!listed.getD p.2 true).map (·.1))++((((l.drop (i+1)).zipIdx (i+1)).filter fun p=>!listed.getD p.2 true).map (·.1)):=by
 have hne:∀j,j≠i→(listed.setIfInBounds i true).getD j true=listed.getD j true:=fun j hj=>by
  simp only [aip,aiN,Ne.symm hj,if_false]
 have hi:(listed.setIfInBounds i true).getD i true=true:=by
  simp [aip,hsz]
 unfold left;rw [Pf h];simp only [List.filter_append,List.map_append,List.filter_cons,hn,hi,ajr,Bool.not_true,if_true,aiU,if_false,aiI];refine⟨trivial,?_⟩
 congr 2
 ·refine List.filter_congr fun p hp=>?_
  have:=aiC hp;rw [ai5] at this;rw [hne p.2 (by omega)]
 ·refine List.filter_congr fun p hp=>?_
  have:=List.le_snd_of_mem_zipIdx hp;rw [hne p.2 (by omega)]
def Cl (ops:Array Oper) (listed:Array Bool):Prop:=∀(m:Nat) (q:Oper),ops[m]?=some q→listed.getD m false=true→∀e∈q.after,aiG .any e=true→listed.getD e.on false=true
theorem NG {ops:Array Oper} {listed:Array Bool} (hc:Cl ops listed) {j:Nat}:∀(n:Nat) (o:Oper),(∀e∈o.after,aiG .any e=true→listed.getD e.on false=true)→bef ops.toList j n o=true→listed.getD j false=true
 | 0,_,_,h=>by simp [bef] at h
 | n+1,o,ho,h=>by
  simp only [bef,List.any_eq_true,ail,aiS] at h;obtain⟨e,he,hb,h⟩:=h;have hl:=ho e (by simpa using he) hb;rcases h with h | h
  ·rw [←bd.1 h]
   exact hl
  ·split at h
   ·rename_i q hq
    rw [Hu,aiM] at hq;exact NG hc n q (hc e.on q hq hl) h
   ·cases h
theorem My {listed:Array Bool} {i x:Nat} (h:listed.getD x false=true):(listed.setIfInBounds i true).getD x false=true:=by
 rw [aip] at h ⊢;rw [aiN];split
 ·split<;>rename_i h1 h2
  ·rfl
  ·subst h1
   rw [Array.getElem?_eq_none (by omega)] at h;cases h
 ·exact h
theorem agx {ops:Array Oper} {listed:Array Bool} (hc:Cl ops listed) {i:Nat} {o:Oper} (ho:ops[i]?=some o) (hed:∀e∈o.after,aiG .any e=true→listed.getD e.on false=true):Cl ops (listed.setIfInBounds i true):=by
 intro m q hq hm e he hb;by_cases hmi:m=i
 ·subst hmi
  rw [ho] at hq;cases hq;exact My (hed e he hb)
 ·refine My (hc m q hq ?_ e he hb)
  rw [aip,aiN,if_neg (fun e=>hmi e.symm)] at hm;rw [aip];exact hm
theorem YU (hT:okT P c.T=true) (hS:∀f S,eo c.S f=some S→aw c.G P f S) {ops:Array Oper} (hany:ZV c ops.toList=true) {V:Nat→Value} {Q:Exit→Act→World→Prop} {k:List D→Option Out} {r:Out} (hQ:∀a w,ki c B X w0 F0 V k r a w→Q .normal a w)
  (hok:∀o∈ops.toList,aah c ops.toList o=true) (hI:Inv c B X w0 F0 F O a w δ) (hV:IoV c V a) (hg:ml c ops.toList ops.toList δ k=some r):wpAny P .any ops Q ops.size (aiJ ops.size false) a {w with drawn:=w.drawn+1}:=by
 have hedge:∀(i:Nat) (o:Oper),ops[i]?=some o→(∀e∈o.after,aiG .any e=true→e.on<i)∧∀(j:Nat) (q:Oper),j<i→ops[j]?=some q→bef ops.toList j 3 o=true∨Sn c ops.toList q o=true:=by
  intro i o ho;have h0:=hany;unfold ZV at h0;rw [aiF] at h0;have hl:ops.toList[i]?=some o:=by simpa using ho
  have h1:=h0 (o,i) (by rw [Pf hl];simp);simp only [ail,aiS,aiv,decide_eq_true_eq,aiF] at h1;refine⟨fun e he hb=>(h1.1 e (by simpa using he)).resolve_left (by rw [hb];simp),fun j q hj hq=>?_⟩
  have hq':(ops.toList.take i)[j]?=some q:=by
   rw [ai6 hj];simpa using hq
  exact(h1.2 (q,j) (by rw [Pf hq'];simp)).symm
 have main:∀(fuel:Nat) (listed:Array Bool) (F:Nat→Prop) (O:Nat→Option (Nat × Nat)) (a:Act) (w:World) (δ:List D),listed.size=ops.size→Cl ops listed→(left ops.toList listed).length≤fuel→Inv c B X w0 F0 F O a w δ→IoV c V a →
   ml c ops.toList (left ops.toList listed) δ k=some r→wpAny P .any ops Q fuel listed a w:=by
  intro fuel;have ready_mem:∀(listed:Array Bool) (i:Nat),i∈aiV .any ops listed→∃o,ops[i]?=some o∧listed.getD i true=false∧∀e∈o.after,aiG .any e=true→listed.getD e.on false=true:=by
   intro listed i hi;unfold aiV at hi;rw [ai8] at hi;obtain⟨hr,hi⟩:=hi;simp only [ail,aiv] at hi;cases ho:ops[i]? with
   | none=>rw [ho] at hi;simp at hi
   | some o =>
    rw [ho] at hi;simp only [ajn,ai7,Array.all_eq_true_iff_forall_mem,aiS,aiv] at hi;exact⟨o,rfl,hi.1,fun e he hb=>(hi.2 e he).resolve_left (by rw [hb];simp)⟩
  have empty:∀(listed:Array Bool),listed.size=ops.size→aiV .any ops listed=[]→left ops.toList listed=[]:=by
   intro listed hsz hr;have all:∀i,i<ops.size→listed.getD i true=true:=by
    intro i;induction i using Nat.strongRecOn with
    | _ i ih =>
     intro hi;cases hl:listed.getD i true with
     | true=>rfl
     | false =>
      exfalso;have ho:ops[i]?=some ops[i]:=aix hi;have hmem:i∈aiV .any ops listed:=by
       unfold aiV;rw [ai8];refine⟨List.mem_range.2 hi,?_⟩
       rw [hl,ho];simp only [ajr,Bool.true_and,ajn,ai7,Array.all_eq_true_iff_forall_mem,aiS];intro e he;cases hb:aiG .any e
       ·exact .inl rfl
       right
       have h1:=(hedge i _ ho).1 e he hb;have h2:=ih e.on h1 (by omega);have h3:e.on<listed.size:=by omega
       rw [aip,aix h3] at h2 ⊢;exact h2
      rw [hr] at hmem;cases hmem
   unfold left;rw [List.map_eq_nil_iff,List.filter_eq_nil_iff];rintro⟨o,i⟩ hp;have hi:=aiC hp;simp only [aiv,Bool.not_eq_false];exact all i (by simpa using hi)
  induction fuel with
  | zero =>
   intro listed F O a w δ hsz hcl hl hI hV hg;have h0:left ops.toList listed=[]:=aiK (by omega);rw [h0] at hg;refine⟨?_,hQ a w ⟨⟨F,O,δ,hI,hg⟩,hV⟩⟩
   cases hr:aiV .any ops listed with
   | nil=>rfl
   | cons i rest =>
    exfalso;obtain⟨o,ho,hn,_⟩:=ready_mem listed i (by rw [hr];simp);have hi:i<ops.size:=(aiP.1 ho).1;have:=(Nj (l:=ops.toList) (by simpa using ho) hn (by omega)).1;rw [h0] at this;simp at this
  | succ fuel ihf =>
   intro listed F O a w δ hsz hcl hl hI hV hg;refine⟨fun hr=>?_,fun i hi=>?_⟩
   ·rw [empty listed hsz hr] at hg
    exact hQ a w ⟨⟨F,O,δ,hI,hg⟩,hV⟩
   ·obtain⟨o,ho,hn,hed⟩:=ready_mem listed i hi
    have hilt:i<ops.size:=(aiP.1 ho).1;obtain⟨e1,e2⟩:=Nj (l:=ops.toList) (by simpa using ho) hn (by omega);rw [e1] at hg hl;have hfront:∀q∈(((ops.toList.take i).zipIdx.filter fun p=>!listed.getD p.2 true).map (·.1)),Sn c ops.toList q o=true:=by
     intro q hq
     ·simp only [List.mem_map,ai8] at hq
      obtain⟨⟨q',j⟩,⟨hm1,hm2⟩,rfl⟩:=hq;have hj:=aiC hm1;rw [ai5] at hj;have hget:ops[j]?=some q':=by
       have:=List.mem_zipIdx_iff_getElem?.1 hm1;simp only at this;rw [ai6 (by omega)] at this;simpa using this
      rcases(hedge i o ho).2 j q' (by omega) hget with hbf | h
      ·exfalso
       have h3:=NG hcl 3 o hed hbf;simp only [aiv] at hm2;have hjlt:j<listed.size:=by omega
       rw [aip,aix hjlt] at h3 hm2;simp only [ai7] at h3 hm2;rw [h3] at hm2;cases hm2
      ·exact h
    ·replace hg:=HW _ _ _ hfront hg
     rw [←e2] at hg;have h:=MR hT hS (ops:=ops) (hok o (by simpa using Array.mem_of_getElem? ho)) hI hV hg Q;have ih:∀a w,ki c B X w0 F0 V (fun δ'=>ml c ops.toList (left ops.toList (listed.setIfInBounds i true)) δ' k) r a w→wpAny P .any ops Q fuel (listed.setIfInBounds i true) a w:=by
      rintro a w ⟨⟨F',O',δ',hI',hk'⟩,hV'⟩;exact ihf _ F' O' a w δ' (by simpa using hsz) (agx hcl ho hed) (by rw [e2];simp only [List.length_append,aiY] at hl ⊢;omega) hI' hV' hk'
     unfold wpOp;rw [ho];simp only;split
     ·rename_i hw
      rw [if_pos hw] at h;exact .inl (ajf ih h)
     ·rename_i hw
      rw [if_neg hw] at h;exact ih _ _ h
 have hleft:left ops.toList (aiJ ops.size false)=ops.toList:=by
  unfold left;rw [List.filter_eq_self.2]
  ·simp
  ·rintro⟨o,i⟩ hp
   have hi:=aiC hp;have hi':i<ops.size:=by simpa using hi
   simp [aip,hi']
 refine main ops.size _ F O a _ δ (by simp) (fun m q _ hm=>?_) ?_ (hI.drawn _) hV ?_
 ·rw [aip,Array.getElem?_replicate] at hm
  split at hm<;>cases hm
 ·rw [hleft];simp
 ·rw [hleft];exact hg
theorem RK (hT:okT P c.T=true) (hS:∀f S,eo c.S f=some S→aw c.G P f S) {ops:Array Oper} (hany:ZV c ops.toList=true) (hm:P.follows .mixedOrders=true) {V:Nat→Value} {Q:Exit→Act→World→Prop} {k:List D→Option Out} {r:Out} (hQ:∀a w,ki c B X w0 F0 V k r a w→Q .normal a w)
  (hok:∀o∈ops.toList,aah c ops.toList o=true) (hI:Inv c B X w0 F0 F O a w δ) (hV:IoV c V a) (hg:ml c ops.toList ops.toList δ k=some r) (id:Nat):(Code.region id ops true).wp P Q a w:=wp_region_any hm (YU hT hS hany hQ hok hI hV hg)
theorem nJ:∀(l:List ResultVar) (δ:List D) (k:List D→Option Out),rU c δ l k=(rU c δ l fun rs=>some (.nrm rs)).bind fun o=>match o with
  | .nrm rs=>k rs
  | _=>none
 | [],δ,k=>rfl
 | .tmp t::l,δ,k=>by
  simp only [rU,fy];rw [nJ l δ fun rs=>k (nth δ t::rs),nJ l δ fun rs=>some (.nrm (nth δ t::rs))];cases h:rU c δ l fun rs=>some (.nrm rs) with
  | none=>rfl
  | some o=>cases o<;>rfl
 | .cell s t::l,δ,k=>by
  simp only [rU];split
  ·rename_i i _
   simp only [fy];cases bh i.agg i.n 0 (nth δ s) with
   | none=>rfl
   | some y =>
    simp only [air];rw [nJ l δ fun rs=>k (y::rs),nJ l δ fun rs=>some (.nrm (y::rs))];cases h:rU c δ l fun rs=>some (.nrm rs) with
    | none=>rfl
    | some o=>cases o<;>rfl
  ·rfl
theorem Gk:∀{us:List D} {o:Option Out} {r:Out},usK us o=some r↔(∀u∈us,u ≠ .bad)∧o=some r
 | [],o,r=>by simp [usK]
 | u::us,o,r=>by
  simp only [usK,aik,ais,forall_eq_or_imp];constructor
  ·rintro⟨y,h1,h2⟩
   obtain⟨h3,h4⟩:=Gk.1 h2;exact⟨⟨(cN h1).1,h3⟩,h4⟩
  ·rintro⟨⟨h1,h2⟩,h3⟩
   refine⟨u,?_,Gk.2 ⟨h2,h3⟩⟩
   cases u<;>first | rfl | exact absurd rfl h1
theorem hP {δ:List D} {k:Out→Option Out} {r:Out} (h:WL c δ k=some r):∃rs,rU c δ c.res (fun rs=>some (.nrm rs))=some (.nrm rs)∧(∀u∈aA δ c.ios,u ≠ .bad)∧k (.ret rs (aA δ c.ios))=some r:=by
 unfold WL at h;simp only [ch] at h;rw [nJ] at h;cases hh:rU c δ c.res fun rs=>some (.nrm rs) with
 | none=>rw [hh] at h;cases h
 | some o =>
  rw [hh] at h;cases o with
  | nrm rs =>
   simp only [air] at h;obtain⟨h1,h2⟩:=Gk.1 h;exact⟨rs,rfl,h1,h2⟩
  | ext i δ=>cases h
  | ret x y=>cases h
theorem BT {δ:List D} {k:Out→Option Out} {r:Out} {rs:List D} (h1:rU c δ c.res (fun rs=>some (.nrm rs))=some (.nrm rs)) (h2:∀u∈aA δ c.ios,u ≠ .bad) (hk:k (.ret rs (aA δ c.ios))=some r):WL c δ k=some r:=by
 unfold WL;simp only [ch];rw [nJ,h1];simp only [air];exact Gk.2 ⟨h2,hk⟩
def carry (n:Nat) (hl:List Nat) (δ:List D):List D:=ay (NO n) hl (aA δ hl)
theorem Il:∀n,NO n=List.replicate n .bad
 | 0=>rfl
 | n+1=>by simp [NO,Il n,List.replicate_succ]
theorem aec (n s:Nat):nth (NO n) s = .bad:=by
 rw [iS,Il,aio,List.getElem?_replicate];split<;>rfl
theorem mu (n:Nat) (hl:List Nat) (δ:List D) (k:List D→Option Out):iQ n hl (aA δ hl) k=k (carry n hl δ):=by
 unfold iQ carry;rw [dc,xj _ _ 0 (by rw [sg];omega),ait]
theorem sB (δ:List D):∀(l:List Nat),aA δ l=l.map (nth δ)
 | []=>rfl
 | _::l=>by simp [aA,sB δ l]
theorem ID {hl:List Nat} {δ:List D} (s:Nat):nth (carry δ.length hl δ) s=if s∈hl then nth δ s else .bad:=by
 unfold carry;rw [sB,tq];have hlen:(NO δ.length).length=δ.length:=by rw [Il];simp
 rw [hlen,aec];split
 ·split
  ·rfl
  ·rename_i h
   by_cases hb:nth δ s = .bad
   ·exact hb.symm
   ·exact absurd (XK hb) h
 ·rfl
theorem Inv.carry (h:Inv c B X w0 F0 F O a w δ) {hl:List Nat} (hk:nz c.K hl=true):Inv c B X w0 F0 F O a w (carry (kY c.K) hl δ):=by
 have e:kY c.K=δ.length:=by rw [oQ,h.ld]
 rw [e];refine h.forget ?_ (fun s=>?_) (fun s r hv hb=>?_)
 ·unfold V.carry;rw [eh,Il];simp
 ·rw [ID]
  split
  ·exact .inl rfl
  ·exact .inr rfl
 ·rw [ID] at hb
  split at hb
  case isFalse=>exact absurd rfl hb
  rename_i hs;unfold nz at hk;rw [aiF] at hk;have hks:=hk s hs;have hr:r∈hl:=by
   rcases hv with e | e<;>rw [e] at hks<;>simpa [jO] using hks
  rw [ID,if_pos hr];exact(h.root hv hb).2
theorem iY {V:Nat→Value} {k k':List D→Option Out} {r r':Out} (h:ki c B X w0 F0 V k r a w) (hk:∀δ F O,Inv c B X w0 F0 F O a w δ→k δ=some r→k' δ=some r'):ki c B X w0 F0 V k' r' a w:=by
 obtain⟨⟨F,O,δ,h1,h2⟩,h3⟩:=h;exact⟨⟨F,O,δ,h1,hk δ F O h1 h2⟩,h3⟩
theorem Kk {V:Nat→Value} {b:Code} {bid:Nat} {hl xl:List Nat} (h1:nz c.K hl=true) (h2:nz c.K xl=true)
  (ih:∀(F:Nat→Prop) (O:Nat→Option (Nat × Nat)) (a:Act) (w:World) (δ:List D),Inv c B X w0 F0 F O a w δ→IoV c V a→∀(k:Out→Option Out) (r:Out),den c bid b δ k=some r→∀Q,(∀e a w,Ta c B X w0 F0 V k r e a w→Q e a w)→b.wp P Q a w)
  {k:Out→Option Out} {r:Out} {Q:Exit→Act→World→Prop} (hQ:∀e a w,Ta c B X w0 F0 V k r e a w→Q e a w) {o:Out}
  (ho:bS o (fun i s=>iQ (kY c.K) xl s fun δ=>k (.ext i δ)) (fun x y=>k (.ret x y))=some r):∀(n:Nat) (F:Nat→Prop) (O:Nat→Option (Nat × Nat)) (a:Act) (w:World) (δ:List D),Inv c B X w0 F0 F O a w δ→IoV c V a →
  iter (fun s=>iQ (kY c.K) hl s fun δ=>den c bid b δ (co hl xl)) n (aA δ hl)=some o→Code.rounds P b Q n a w
 | 0,_,_,_,_,_,_,_,h=>by cases h
 | n+1,F,O,a,w,δ,hI,hV,h=>by
  simp only [iter,mu] at h;rw [rounds_succ];have hI':=hI.carry h1;cases hb:den c bid b (carry (kY c.K) hl δ) (co hl xl) with
  | none=>rw [hb] at h;cases h
  | some ob =>
   rw [hb] at h;refine ih F O a w _ hI' hV _ ob hb _ (fun e a' w' hp=>?_)
   cases ob with
   | nrm s' =>
    simp only at h;cases e with
    | normal =>
     obtain⟨⟨F',O',δ',g1,g2⟩,g3⟩:=hp;simp only [co,ch,aim,Out.nrm.injEq] at g2;rw [←g2] at h;exact Kk h1 h2 ih hQ ho n F' O' a' w' δ' g1 g3 h
    | exit i =>
     obtain⟨⟨F',O',δ',g1,g2⟩,g3⟩:=hp;simp [co,ch] at g2
    | ret =>
     obtain⟨⟨F',O',δ',g1,g2⟩,g3⟩:=hp;obtain⟨rs,_,_,g4⟩:=hP g2;simp [co] at g4
    | _=>exact hp.elim
   | ext i l =>
    simp only [aim] at h;subst h;cases e with
    | normal =>
     obtain⟨⟨F',O',δ',g1,g2⟩,g3⟩:=hp;simp [co,ch] at g2
    | exit j =>
     obtain⟨⟨F',O',δ',g1,g2⟩,g3⟩:=hp;simp only [co,ch,aim,Out.ext.injEq] at g2;obtain⟨rfl,rfl⟩:=g2;simp only [bS,mu] at ho;exact hQ (.exit j) _ _ ⟨⟨F',O',_,g1.carry h2,ho⟩,g3⟩
    | ret =>
     obtain⟨⟨F',O',δ',g1,g2⟩,g3⟩:=hp;obtain⟨rs,_,_,g4⟩:=hP g2;simp [co] at g4
    | _=>exact hp.elim
   | ret x y =>
    simp only [aim] at h;subst h;cases e with
    | normal =>
     obtain⟨⟨F',O',δ',g1,g2⟩,g3⟩:=hp;simp [co,ch] at g2
    | exit j =>
     obtain⟨⟨F',O',δ',g1,g2⟩,g3⟩:=hp;simp [co,ch] at g2
    | ret =>
     obtain⟨⟨F',O',δ',g1,g2⟩,g3⟩:=hp;obtain⟨rs,g5,g6,g4⟩:=hP g2;simp only [co,aim,Out.ret.injEq] at g4;obtain⟨rfl,rfl⟩:=g4;exact hQ .ret _ _ ⟨⟨F',O',δ',g1,BT g5 g6 ho⟩,g3⟩
    | _=>exact hp.elim
theorem kM (hT:okT P c.T=true) (hS:∀f S,eo c.S f=some S→aw c.G P f S) (hm:P.follows .mixedOrders=true) {V:Nat→Value}:∀(b:Code) (bid:Nat),eV c bid b=true→∀(F:Nat→Prop) (O:Nat→Option (Nat × Nat)) (a:Act) (w:World) (δ:List D),
  Inv c B X w0 F0 F O a w δ→IoV c V a→∀(k:Out→Option Out) (r:Out),den c bid b δ k=some r→∀Q,(∀e a w,Ta c B X w0 F0 V k r e a w→Q e a w)→b.wp P Q a w
 | .skip,bid,_,F,O,a,w,δ,hI,hV,k,r,hg,Q,hQ=>wp_skip (hQ _ _ _ ⟨⟨F,O,δ,hI,hg⟩,hV⟩)
 | .region id ops d,bid,hok,F,O,a,w,δ,hI,hV,k,r,hg,Q,hQ=>by
  simp only [eV,ail,aiF] at hok;have hq:∀a w,ki c B X w0 F0 V (fun δ=>k (.nrm δ)) r a w→Q .normal a w:=fun a w h=>hQ _ _ _ h
  cases d
  ·exact wp_region_list (Fk hT hS hq ops.toList hok.1 F O a w δ hI hV hg)
  ·exact RK hT hS (by simpa using hok.2) hm hq hok.1 hI hV hg id
 | .seq x y,bid,hok,F,O,a,w,δ,hI,hV,k,r,hg,Q,hQ=>by
  simp only [eV,ail] at hok;refine wp_seq (kM hT hS hm x bid hok.1 F O a w δ hI hV _ r hg _ (fun e a' w' hp=>?_))
  cases e with
  | normal =>
   obtain⟨⟨F',O',δ',hI',hk'⟩,hV'⟩:=hp;exact kM hT hS hm y bid hok.2 F' O' a' w' δ' hI' hV' k r hk' Q hQ
  | exit id=>exact hQ _ _ _ hp
  | ret=>exact hQ _ _ _ hp
  | _=>exact hp.elim
 | .cond x t e,bid,hok,F,O,a,w,δ,hI,hV,k,r,hg,Q,hQ=>by
  simp only [eV,ail] at hok;obtain⟨⟨hlv,hok1⟩,hok2⟩:=hok;have hop:=hI.opd (cR.1 hlv);have key:ifD (opD δ x) (den c bid t δ k) (den c bid e δ k)=some r:=by
   simp only [den] at hg;cases x with
   | tmp s=>simpa only [opC,fy,opD] using hg
   | const v=>simpa only [opC,opD] using hg
   | func f=>simpa only [opC,opD] using hg
   | global g=>simp [opC] at hg
  unfold ifD at key;split at key
  ·rename_i hd
   rw [hd] at hop;exact wp_cond_true (bJ hop).1 (kM hT hS hm t bid hok1 F O a w δ hI hV k r key Q hQ)
  ·rename_i hd
   rw [hd] at hop;exact wp_cond_false (bJ hop).1 (kM hT hS hm e bid hok2 F O a w δ hI hV k r key Q hQ)
  ·cases key
 | .block id b,bid,hok,F,O,a,w,δ,hI,hV,k,r,hg,Q,hQ=>by
  simp only [eV] at hok;refine wp_block (kM hT hS hm b id hok F O a w δ hI hV _ r hg _ (fun e a' w' hp=>?_))
  cases e with
  | normal=>exact hQ .normal _ _ hp
  | exit i =>
   simp only [Exit.inBlock];have hp':ki c B X w0 F0 V (fun δ=>Lk id (.ext i δ) k) r a' w':=hp;split
   ·rename_i hi
    refine hQ .normal _ _ (iY hp' fun δ F O _ h=>?_)
    simp only [Lk] at h;rw [bd.2 (by simpa using hi)] at h;exact h
   ·rename_i hi
    refine hQ (.exit i) _ _ (iY hp' fun δ F O _ h=>?_)
    simp only [Lk] at h;cases hb:aiw i id
    ·rw [hb] at h;exact h
    ·exact absurd (by simpa using bd.1 hb) hi
  | ret=>exact hQ .ret _ _ hp
  | _=>exact hp.elim
 | .loop b,bid,hok,F,O,a,w,δ,hI,hV,k,r,hg,Q,hQ=>by
  simp only [eV,ail] at hok;obtain⟨hok1,hok2⟩:=hok;simp only [den] at hg;cases hH:eo c.H bid with
  | none=>rw [hH] at hg;cases hg
  | some hx =>
   obtain⟨hl,xl⟩:=hx;rw [hH] at hg hok2;simp only [ail] at hok2;simp only [ch] at hg;obtain⟨o',h1,h2⟩:=aik.1 hg;unfold aZ at h1;split at h1
   case isFalse=>cases h1
   rename_i hex;refine wp_loop_rounds (aiE hex) ?_
   refine Kk (hl:=hl) (xl:=xl) hok2.1 hok2.2 (fun F O a w δ hI hV k r hg Q hQ=>kM hT hS hm b bid hok1 F O a w δ hI hV k r hg Q hQ) hQ h2 _ F O a w δ hI hV h1
 | .exit id,bid,_,F,O,a,w,δ,hI,hV,k,r,hg,Q,hQ=>wp_exit (hQ _ _ _ ⟨⟨F,O,δ,hI,hg⟩,hV⟩)
 | .ret,bid,_,F,O,a,w,δ,hI,hV,k,r,hg,Q,hQ=>wp_ret (hQ _ _ _ ⟨⟨F,O,δ,hI,hg⟩,hV⟩)
 | .label _,_,hok,_,_,_,_,_,_,_,_,_,_,_,_=>by simp [eV] at hok
 | .goto _,_,hok,_,_,_,_,_,_,_,_,_,_,_,_=>by simp [eV] at hok
 | .scope _,_,hok,_,_,_,_,_,_,_,_,_,_,_,_=>by simp [eV] at hok
end
end Go.V

namespace Go.V
open Go.RowKit
def EY:List ResultVar→List Nat
 | []=>[]
 | .tmp t::l=>t::EY l
 | .cell _ _::l=>EY l
def dL (c:Cx):List ResultVar→List Kd→Bool
 | [],[]=>true
 | .tmp t::l,.dat lv::m=>(match aD c.K t with
  | .dat l'=>ajq l' lv
  | _=>false)&&dL c l m
 | .tmp t::l,.own z lv false::m=>(match aD c.K t with
  | .own z' l' false=>aiw z' z&&ajq l' lv
  | _=>false) && !oM t (EY l)&&dL c l m
 | .cell s t::l,.dat lv::m=>(match aD c.K s with
  | .box _ l' _=>ajq l' lv
  | _=>false)&&(eo c.T t).isSome&&dL c l m
 | _,_=>false
def zO:Nat→List Kd→List Nat
 | _,[]=>[]
 | i,k::ks=>if uy k then i::zO (i+1) ks else zO (i+1) ks
def eqK:Kd→Kd→Bool
 | .dat a,.dat b=>aiw a b
 | .own a b io,.own a' b' io'=>aiw a a'&&aiw b b'&&io==io'
 | .box a b io,.box a' b' io'=>aiw a a'&&aiw b b'&&io==io'
 | _,_=>false
def Rw:List Kd→List Kd→Bool
 | [],_=>true
 | k::ks,l::ls=>eqK k l&&Rw ks ls
 | _,_=>false
section
variable {P:Program} {c:Cx} {B:Nat} {X:Nat→Prop} {w0:World} {F0 F:Nat→Prop} {O:Nat→Option (Nat × Nat)} {a:Act} {w:World} {δ:List D}
def sE (tmps:Array Value):ResultVar→Sem Value
 | .tmp t=>pure (tmps.getD t undef)
 | .cell a t=>do loadVar t (←asAddr (tmps.getD a undef))
theorem agb {k l:Kd} (h:eqK k l=true):k=l:=by
 unfold eqK at h;split at h
 ·rw [bd] at h;rw [h]
 ·simp only [ail,bd,beq_iff_eq] at h
  obtain⟨⟨rfl,rfl⟩,rfl⟩:=h;rfl
 ·simp only [ail,bd,beq_iff_eq] at h
  obtain⟨⟨rfl,rfl⟩,rfl⟩:=h;rfl
 ·cases h
theorem BK:∀{ks ls:List Kd},Rw ks ls=true→ks.length≤ls.length∧∀(i:Nat),i<ks.length→aD ls i=aD ks i
 | [],_,_=>⟨by simp,by simp⟩
 | k::ks,l::ls,h=>by
  simp only [Rw,ail] at h;obtain⟨h1,h2⟩:=BK h.2;refine⟨by simp;exact h1,fun i hi=>?_⟩
  cases i with
  | zero=>simp only [aD];exact(agb h.1).symm
  | succ i=>simp only [aD];exact h2 i (by simpa using hi)
 | _::_,[],h=>by simp [Rw] at h
def agO (B:Nat) (O:Nat→Option (Nat × Nat)) (res:List ResultVar) (j:Nat) (g:Nat):Prop:=B≤g∧∃t,res[j]?=some (.tmp t)∧O g=some (t,0)
theorem oC {w:World} {F:Nat→Prop} {B:Nat} {own own':Nat→Prop} {k:Kd} {d:D} {y:Value} (ho:(∃z lv,k = .own z lv false)→∀g,own g→own' g) (h:Va w F B own k d y):Va w F B own' k d y:=by
 rcases h with h | h
 ·exact .inl h
 ·refine .inr ?_
  cases k with
  | own z lv io =>
   cases io
   ·exact h.own fun _ _ hg=>⟨ho ⟨z,lv,rfl⟩ _ hg.1,hg.2⟩
   ·exact h
  | _=>exact h
theorem BG (hT:okT P c.T=true) (hI:Inv c B X w0 F0 F O a w δ):∀(res:List ResultVar) (rm:List Kd) (rs:List D),dL c res rm=true→rU c δ res (fun rs=>some (.nrm rs))=some (.nrm rs) →
  ∃vs:List Value,(res.mapM (sE a.tmps)).run P w = .ok vs w∧vs.length=rm.length∧rs.length=rm.length∧∀j,Va w F B (agO B O res j) (aD rm j) (nth rs j) (vs.getD j undef)
 | [],[],rs,_,h=>by
  simp only [rU,aim,Out.nrm.injEq] at h;subst h;exact⟨[],by simp,rfl,rfl,fun j=>.inl (by simp [nth])⟩
 | .tmp t::l,.dat lv::m,rs,hok,h=>by
  simp only [dL,ail] at hok;simp only [rU,fy] at h;rw [nJ] at h;obtain⟨o,h1,h2⟩:=aik.1 h;split at h2
  case h_2=>cases h2
  rename_i rs';simp only [aim,Out.nrm.injEq] at h2;subst h2;obtain⟨vs,g1,g2,g3,g4⟩:=BG hT hI l m rs' hok.2 h1;refine⟨a.tmps.getD t undef::vs,by simp [aja,sE,g1],by simp [g2],by simp [g3],fun j=>?_⟩
  cases j with
  | zero =>
   simp only [aD,nth,aiH];have hk:=hok.1;split at hk
   case h_2=>cases hk
   rename_i l' hkt;exact(kB (cR.1 hk) (hI.dat hkt))
  | succ j =>
   refine oC (fun _ g hg=>?_) (g4 j)
   obtain⟨e1,t',e2,e3⟩:=hg;exact⟨e1,t',by simpa using e2,e3⟩
 | .tmp t::l,.own z lv false::m,rs,hok,h=>by
  simp only [dL,ail] at hok;simp only [rU,fy] at h;rw [nJ] at h;obtain⟨o,h1,h2⟩:=aik.1 h;split at h2
  case h_2=>cases h2
  rename_i rs';simp only [aim,Out.nrm.injEq] at h2;subst h2;obtain⟨vs,g1,g2,g3,g4⟩:=BG hT hI l m rs' hok.2 h1;refine⟨a.tmps.getD t undef::vs,by simp [aja,sE,g1],by simp [g2],by simp [g3],fun j=>?_⟩
  cases j with
  | zero =>
   simp only [aD,nth,aiH];have hk:=hok.1.1;split at hk
   case h_2=>cases hk
   rename_i z' l' hkt;simp only [ail,bd,cR] at hk;obtain⟨rfl,hle⟩:=hk;by_cases hb:nth δ t = .bad
   ·exact .inl hb
   ·exact .inr (eE (pU hle) (fun _ _=>rfl) (fun g _ hg=>⟨⟨⟨hg.2 rfl,t,rfl,hg.1⟩,hg.2 rfl⟩,rfl⟩) (hI.own hkt hb))
  | succ j =>
   refine oC (fun _ g hg=>?_) (g4 j)
   obtain⟨e1,t',e2,e3⟩:=hg;exact⟨e1,t',by simpa using e2,e3⟩
 | .cell s t::l,.dat lv::m,rs,hok,h=>by
  simp only [dL,ail] at hok;simp only [rU] at h;split at h
  case h_2=>cases h
  rename_i i hi;simp only [fy] at h;obtain⟨y,hy,h⟩:=aik.1 h;rw [nJ] at h;obtain⟨o,h1,h2⟩:=aik.1 h;split at h2
  case h_2=>cases h2
  rename_i rs';simp only [aim,Out.nrm.injEq] at h2;subst h2;obtain⟨vs,g1,g2,g3,g4⟩:=BG hT hI l m rs' hok.2 h1;have hk:=hok.1.1;split at hk
  case h_2=>cases hk
  rename_i n l' io hks;rw [cR] at hk;have hb:nth δ s ≠ .bad:=by
   intro e;rw [e] at hy;simp [bh] at hy
  obtain⟨mm,us,g,e,hd',a1,a2,a3,a4,a5,a6⟩:=hI.box hks hb;rw [hd'] at hy;simp only [bh,ait] at hy;have hcell:cL w g 0 us:=wx a2 (fun i u hu=>by simpa using hu);obtain⟨v,hv,hr⟩:=Gf (P:=P) (tok hT hi) a3 a4 hcell hy;have hv':(sE a.tmps (.cell s t)).run P w = .ok v w:=by
   have e1:a.tmps.getD s undef = .pointer (some ⟨g,0,none⟩):=a1;simp only [sE,e1];simpa [Instr.loadAt,Instr.sureAddr,asAddr] using hv
  refine⟨v::vs,by simp [aja,hv',g1],by simp [g2],by simp [g3],fun j=>?_⟩
  cases j with
  | zero =>
   simp only [aD,nth,aiH];exact .inr (cq (pU hk) (fun _ _=>rfl) hr)
  | succ j =>
   refine oC (fun _ g hg=>?_) (g4 j)
   obtain⟨e1,t',e2,e3⟩:=hg;exact⟨e1,t',by simpa using e2,e3⟩
 | [],_::_,_,hok,_=>by simp [dL] at hok
 | .tmp _::_,[],_,hok,_=>by simp [dL] at hok
 | .cell _ _::_,[],_,hok,_=>by simp [dL] at hok
 | .tmp _::_,.own _ _ true::_,_,hok,_=>by simp [dL] at hok
 | .tmp _::_,.box _ _ _::_,_,hok,_=>by simp [dL] at hok
 | .tmp _::_,.via _::_,_,hok,_=>by simp [dL] at hok
 | .tmp _::_,.ref _::_,_,hok,_=>by simp [dL] at hok
 | .tmp _::_,.tup _::_,_,hok,_=>by simp [dL] at hok
 | .tmp _::_,.no::_,_,hok,_=>by simp [dL] at hok
 | .cell _ _::_,.own _ _ _::_,_,hok,_=>by simp [dL] at hok
 | .cell _ _::_,.box _ _ _::_,_,hok,_=>by simp [dL] at hok
 | .cell _ _::_,.via _::_,_,hok,_=>by simp [dL] at hok
 | .cell _ _::_,.ref _::_,_,hok,_=>by simp [dL] at hok
 | .cell _ _::_,.tup _::_,_,hok,_=>by simp [dL] at hok
 | .cell _ _::_,.no::_,_,hok,_=>by simp [dL] at hok
def DT:List ResultVar→Nat→Nat→Option Nat
 | [],_,_=>none
 | .tmp t::l,s,j=>if t=s then some j else DT l s (j+1)
 | .cell _ _::l,s,j=>DT l s (j+1)
theorem EH:∀{res:List ResultVar} {j t:Nat},res[j]?=some (.tmp t)→t∈EY res
 | .tmp s::l,0,t,h=>by simp at h;simp [EY,h]
 | .cell _ _::l,0,t,h=>by simp at h
 | .tmp s::l,j+1,t,h=>by simp only [EY,ais];exact .inr (EH (by simpa using h))
 | .cell _ _::l,j+1,t,h=>by simp only [EY];exact EH (by simpa using h)
theorem rK:∀(res:List ResultVar) (rm:List Kd),dL c res rm=true→∀(j t i:Nat) (z lv:Nat),aD rm j = .own z lv false→res[j]?=some (.tmp t)→DT res t i=some (i+j)∧∃z' l',aD c.K t = .own z' l' false
 | [],[],_,j,t,i,z,lv,h,_=>by simp [aD] at h
 | .tmp s::l,.dat lv'::m,hok,j,t,i,z,lv,h,hj=>by
  simp only [dL,ail] at hok;cases j with
  | zero=>simp [aD] at h
  | succ j =>
   obtain⟨h1,h2⟩:=rK l m hok.2 j t (i+1) z lv (by simpa [aD] using h) (by simpa using hj);refine⟨?_,h2⟩
   simp only [DT];rw [if_neg,h1]
   ·congr 1;omega
   ·rintro rfl
    obtain⟨z',l',hk⟩:=h2;rw [hk] at hok;cases hok.1
 | .tmp s::l,.own z0 lv0 false::m,hok,j,t,i,z,lv,h,hj=>by
  simp only [dL,ail] at hok;cases j with
  | zero =>
   simp at hj;subst hj;refine⟨by simp [DT],?_⟩
   have hk:=hok.1.1;split at hk
   ·exact⟨_,_,‹_›⟩
   ·cases hk
  | succ j =>
   obtain⟨h1,h2⟩:=rK l m hok.2 j t (i+1) z lv (by simpa [aD] using h) (by simpa using hj);refine⟨?_,h2⟩
   simp only [DT];rw [if_neg,h1]
   ·congr 1;omega
   ·rintro rfl
    have hm:=hok.1.2;rw [jO] at hm;simp only [aiv,decide_eq_false_iff_not] at hm;exact hm (EH (by simpa using hj))
 | .cell s s'::l,.dat lv'::m,hok,j,t,i,z,lv,h,hj=>by
  simp only [dL,ail] at hok;cases j with
  | zero=>simp [aD] at h
  | succ j =>
   obtain⟨h1,h2⟩:=rK l m hok.2 j t (i+1) z lv (by simpa [aD] using h) (by simpa using hj);refine⟨?_,h2⟩
   simp only [DT];rw [h1];congr 1;omega
 | [],_::_,hok,_,_,_,_,_,_,_=>by simp [dL] at hok
 | .tmp _::_,[],hok,_,_,_,_,_,_,_=>by simp [dL] at hok
 | .cell _ _::_,[],hok,_,_,_,_,_,_,_=>by simp [dL] at hok
 | .tmp _::_,.own _ _ true::_,hok,_,_,_,_,_,_,_=>by simp [dL] at hok
 | .tmp _::_,.box _ _ _::_,hok,_,_,_,_,_,_,_=>by simp [dL] at hok
 | .tmp _::_,.via _::_,hok,_,_,_,_,_,_,_=>by simp [dL] at hok
 | .tmp _::_,.ref _::_,hok,_,_,_,_,_,_,_=>by simp [dL] at hok
 | .tmp _::_,.tup _::_,hok,_,_,_,_,_,_,_=>by simp [dL] at hok
 | .tmp _::_,.no::_,hok,_,_,_,_,_,_,_=>by simp [dL] at hok
 | .cell _ _::_,.own _ _ _::_,hok,_,_,_,_,_,_,_=>by simp [dL] at hok
 | .cell _ _::_,.box _ _ _::_,hok,_,_,_,_,_,_,_=>by simp [dL] at hok
 | .cell _ _::_,.via _::_,hok,_,_,_,_,_,_,_=>by simp [dL] at hok
 | .cell _ _::_,.ref _::_,hok,_,_,_,_,_,_,_=>by simp [dL] at hok
 | .cell _ _::_,.tup _::_,hok,_,_,_,_,_,_,_=>by simp [dL] at hok
 | .cell _ _::_,.no::_,hok,_,_,_,_,_,_,_=>by simp [dL] at hok
theorem BS {w:World} {F:Nat→Prop} {ow:Nat→Option Nat}:∀(pm:List Kd) (ds:List D) (ys:List Value) (i:Nat),fC w F ow i pm ds ys→ds.length=pm.length∧ys.length=pm.length∧∀(j:Nat),j<pm.length→eP w F (fun g=>ow g=some (i+j)) (aD pm j) (nth ds j) (ys.getD j undef)
 | [],[],[],_,_=>⟨rfl,rfl,fun j h=>by simp at h⟩
 | k::pm,d::ds,y::ys,i,h=>by
  obtain⟨h1,h2⟩:=h;obtain⟨g1,g2,g3⟩:=BS pm ds ys (i+1) h2;refine⟨by simp [g1],by simp [g2],fun j hj=>?_⟩
  cases j with
  | zero=>exact h1
  | succ j =>
   have:=g3 j (by simpa using hj);simp only [aD,nth,List.getD_cons_succ];rw [show i+(j+1)=i+1+j from by omega];exact this
 | [],[],_::_,_,h=>h.elim
 | [],_::_,_,_,h=>h.elim
 | _::_,[],_,_,h=>h.elim
 | _::_,_::_,[],_,h=>h.elim
theorem LR {w:World} {F:Nat→Prop} {δ:List D}:∀(pm:List Kd) (ys:List Value) (i:Nat),ys.length=pm.length→(∀(j:Nat),j<pm.length→uy (aD pm j)=true→nth δ (i+j) ≠ .bad∧eP w F (fun _=>True) (aD pm j) (nth δ (i+j)) (ys.getD j undef))→xw w F pm (aA δ (zO i pm)) ys
 | [],ys,i,_,_=>by simp [zO,aA,xw]
 | k::pm,[],i,hl,_=>by simp at hl
 | k::pm,y::ys,i,hl,h=>by
  have ih:=LR pm ys (i+1) (by simpa using hl) (fun j hj hio=>by
   have:=h (j+1) (by simpa using hj) (by simpa [aD] using hio);rw [show i+1+j=i+(j+1) from by omega];simpa [aD] using this)
  cases hk:uy k with
  | true =>
   have h0:=h 0 (by simp) (by simpa [aD] using hk);simp only [zO,hk,if_true,aA,xw];exact⟨by simpa using h0.1,by simpa [aD] using h0.2,ih⟩
  | false=>simpa only [zO,hk,aiU,if_false,xw] using ih
theorem BD:∀(pm:List Kd) (i j:Nat),j<pm.length→uy (aD pm j)=true→i+j∈zO i pm
 | k::pm,i,0,_,h=>by
  simp only [aD] at h;simp [zO,h]
 | k::pm,i,j+1,hj,h=>by
  have ih:=BD pm (i+1) j (by simpa using hj) (by simpa [aD] using h);rw [show i+(j+1)=i+1+j from by omega];simp only [zO];split
  ·exact List.mem_cons_of_mem _ ih
  ·exact ih
theorem vH:∀(n:Nat) (l:List D) (s:Nat),l.length≤n→nth (vV n l) s=nth l s
 | 0,l,s,h=>by
  have:l=[]:=aiK (by omega);subst this;simp [vV]
 | n+1,[],s,_=>by
  cases s with
  | zero=>simp [nth]
  | succ s=>simp only [nth];rw [vH n [] s (by simp)]
 | n+1,d::l,s,h=>by
  cases s with
  | zero=>simp [nth]
  | succ s=>simp only [nth];exact vH n l s (by simpa using h)
theorem vk:∀(n:Nat) (l:List D),(vV n l).length=n
 | 0,_=>rfl
 | n+1,[]=>by simp [vV,vk n []]
 | n+1,_::l=>by simp [vV,vk n l]
def Xz (c:Cx) (fn:Func) (pm rm:List Kd):Bool :=
 (match fn.body with
  | some b=>eV c 0 b
  | none=>false)&&aiw (kY c.K) fn.ntmps&&Rw pm c.K&&mU pm&&dL c c.res rm&&decide (c.ios=zO 0 pm)
theorem xe:∀{pm:List Kd},mU pm=true→∀j,j<pm.length→(∃lv,aD pm j = .dat lv∧lv≠1)∨(∃z lv,aD pm j = .own z lv true∧lv≠1)∨∃n lv,aD pm j = .box n lv true∧lv≠1
 | m::pm,h,j,hj=>by
  obtain⟨h1,h2,h3⟩:=Rt h;cases j with
  | succ j=>exact xe h1 j (by simpa using hj)
  | zero =>
   simp only [aD];cases m with
   | dat lv =>
    refine .inl ⟨lv,rfl,?_⟩
    simp only [mU] at h;split at h
    case h_2=>cases h
    rename_i e1 e2;intro e;subst e;simp at e1
   | own z lv io =>
    cases io
    ·simp [mU] at h
    ·exact .inr (.inl ⟨z,lv,rfl,h2 z lv rfl⟩)
   | box n lv io =>
    cases io
    ·simp [mU] at h
    ·exact .inr (.inr ⟨n,lv,rfl,h3 n lv rfl⟩)
   | _=>simp [mU] at h
theorem abz (hT:okT P c.T=true) (hS:∀f S,eo c.S f=some S→aw c.G P f S) (hm:P.follows .mixedOrders=true) {f:FuncId} {fn:Func} (hf:P.funcs[f]?=some fn) {pm rm:List Kd} (hok:Xz c fn pm rm=true) (hres:c.res=fn.results.toList)
  {ds rs us:List D} (hd:ba c fn ds=some (.ret rs us)) {args:Array Value} {w:World} {F:Nat→Prop} {ow:Nat→Option Nat} (hgl:gOk c.G w F) (ha:fC w F ow 0 pm ds args.toList) (hF:∀b,F b→b<w.heap.size∧ow b=none) (hO:∀b i,ow b=some i→b<w.heap.size) :
  Calls P f args w fun e w'=>∃v,e = .returned v∧∃F' R vs,v=lf vs∧CallPost {pm:=pm,rm:=rm,f:=ba c fn} args rs us w F ow F' R vs w':=by
 unfold Xz at hok;simp only [ail,decide_eq_true_eq] at hok;obtain⟨⟨⟨⟨⟨hcode,hlenK⟩,hpre⟩,hpm⟩,hokr⟩,hios⟩:=hok;rw [bd,oQ] at hlenK;obtain⟨hpl,hpn⟩:=BK hpre;obtain⟨hdl,hal,hargs⟩:=BS pm ds args.toList 0 ha;have hasz:args.size=pm.length:=by simpa using hal
 unfold ba at hd;cases hb:fn.body with
 | none=>rw [hb] at hd;cases hd
 | some b =>
  rw [hb] at hd hcode;simp only at hd hcode;refine calls_of_wp hf hb ?_
  have hav:∀s,s<pm.length→av ({tmps:=args++aiJ (fn.ntmps - args.size) undef,defers:=[]}:Act) s=args.toList.getD s undef:=fun s hs=>by
   have h1:s<args.size:=by omega
   simp only [av,aip,aio,aiM];rw [ai2 h1]
  have hinit:Inv c w.heap.size (fun b=>ow b≠none) w F F (fun b=>(ow b).map fun i=>(i,0)) {tmps:=args++aiJ (fn.ntmps - args.size) undef,defers:=[]} w (vV fn.ntmps ds):=by
   refine⟨by simp;omega,by rw [vk,hlenK],rfl,fun s=>?_,fun b hb=>⟨(hF b hb).1,by simp [(hF b hb).2]⟩,fun b p hp=>?_,fun _ h=>h,fun _ h=>.inl h,aiQ _,rfl,rfl,rfl,fun _ _ _=>rfl,hgl⟩
   ·unfold Fa
    rw [vH _ _ _ (by rw [hdl];omega)];by_cases hs:s<pm.length
    ·rw [hpn s hs,hav s hs]
     rcases hargs s hs with hbad | harg
     ·exact .inl hbad
     refine .inr ?_
     have hlv:∀lv,lv≠1→∀b,FB F 0 lv b→FB F w.heap.size lv b:=fun lv h1 b hb=>by
      match lv,h1 with
      | 0,_=>exact hb
      | _+2,_=>exact hb
     rcases xe hpm s hs with ⟨lv,hk,h1⟩ | ⟨z,lv,hk,h1⟩ | ⟨n,lv,hk,h1⟩
     ·rw [hk] at harg ⊢
      exact .inr (cq (hlv lv h1) (fun _ _=>rfl) harg)
     ·rw [hk] at harg ⊢
      exact .inr (eE (hlv lv h1) (fun _ _=>rfl) (fun g _ hg=>⟨⟨by simp only [ajg] at hg;simp [hg],fun h=>by cases h⟩,rfl⟩) harg)
     ·rw [hk] at harg ⊢
      exact .inr (mj (hlv lv h1) (fun _ _=>rfl) (fun g _ hg=>⟨⟨by simp only [ajg] at hg;simp [hg],fun h=>by cases h⟩,rfl⟩) harg)
    ·refine .inl ?_
     rw [iS,aio,aiL (by omega)];rfl
   ·obtain⟨i,hi,rfl⟩:=ain.1 hp
    exact⟨hO b i hi,.inr (by rw [hi];simp)⟩
  refine kM hT hS hm b 0 hcode F _ _ w _ hinit (V:=av {tmps:=args++aiJ (fn.ntmps - args.size) undef,defers:=[]}) (fun _ _=>rfl) _ _ hd _ (fun e a' w' hp=>?_)
  have fin:ki c w.heap.size (fun b=>ow b≠none) w F (av {tmps:=args++aiJ (fn.ntmps - args.size) undef,defers:=[]}) (fun δ=>WL c δ some) (.ret rs us) a' w'→a'.defers=[]∧∃v,(results fn a'.tmps).run P w' = .ok v w'∧∃v',Ending.returned v = .returned v'∧∃F' R vs,v'=lf vs∧CallPost {pm:=pm,rm:=rm,f:=ba c fn} args rs us w F ow F' R vs w':=by
   rintro⟨⟨F',O',δ',hI',hk⟩,hV'⟩;obtain⟨rs',h1,h2,h3⟩:=hP hk;simp only [aim,Out.ret.injEq] at h3;obtain⟨rfl,rfl⟩:=h3;obtain⟨vs,g1,g2,g3,g4⟩:=BG (P:=P) hT hI' c.res rm rs' hokr h1;refine⟨hI'.df,lf vs,?_,_,rfl,F',fun b=>if w.heap.size≤b then(match O' b with
    | some (t,0)=>DT c.res t 0
    | _=>none) else none,vs,rfl,?_⟩
   ·have hrun:(fn.results.mapM (sE a'.tmps)).run P w' = .ok vs.toArray w':=by
     rw [Array.mapM_eq_mapM_toList,←hres];simp [g1]
    have hrw:results fn a'.tmps=(do
      let vs ←fn.results.mapM (sE a'.tmps)
      pure (if h:vs.size=1 then vs[0] else .tuple vs)):=by
     unfold results;congr 1
    rw [hrw];simp only [Sem.run_bind,hrun,Result.andThen_ok,Sem.run_pure];congr 1
    rcases vs with _ | ⟨y,_ | ⟨y',vs⟩⟩
    ·simp [lf]
    ·simp [lf]
    ·simp [lf]
   ·refine⟨hI'.os,hI'.tape,hI'.output,hI'.bb,fun b hb ho=>hI'.keep b hb (by simp [ho]),hI'.f0,fun b hb=>⟨hI'.fn b hb,(hI'.fl b hb).1,by simp only [(hI'.fl b hb).2];split<;>rfl⟩,fun b j hj=>?_,g2,g3,fun j=>?_,?_⟩
    ·split at hj
     case isFalse=>cases hj
     rename_i hB;refine⟨hB,?_⟩
     split at hj
     ·rename_i t he;exact(hI'.ol b _ he).1
     ·cases hj
    ·refine oC (fun hk g hg=>?_) (g4 j)
     obtain⟨z,lv,hk⟩:=hk;obtain⟨e1,t,e2,e3⟩:=hg;rw [if_pos e1];simp only [e3];have:=(rK c.res rm hokr j t 0 z lv hk e2).1;simpa using this
    ·rw [hios]
     refine LR pm args.toList 0 hal (fun j hj hio=>?_)
     rw [ajg];have hkj:=hpn j hj;have hbj:nth δ' j ≠ .bad:=by
      refine h2 _ ?_
      rw [hios,sB];exact List.mem_map_of_mem (by simpa using BD pm 0 j hj hio)
     have havj:av a' j=args.toList.getD j undef:=(hV' j (by rw [hkj];exact hio)).trans (hav j hj);have hlv:∀lv,lv≠1→∀b,FB F' w.heap.size lv b→FB F' 0 lv b:=fun lv h1 b hb=>by
      match lv,h1 with
      | 0,_=>exact hb
      | _+2,_=>exact hb
     refine⟨hbj,.inr ?_⟩
     rcases xe hpm j hj with ⟨lv,hk,h1⟩ | ⟨z,lv,hk,h1⟩ | ⟨n,lv,hk,h1⟩
     ·rw [hk] at hio;cases hio
     ·have h5:=hI'.own (hkj.trans hk) hbj
      rw [havj] at h5;rw [hk];exact eE (hlv lv h1) (fun _ _=>rfl) (fun _ _ _=>⟨trivial,rfl⟩) h5
     ·have h5:=hI'.box (hkj.trans hk) hbj
      rw [havj] at h5;rw [hk];exact mj (hlv lv h1) (fun _ _=>rfl) (fun _ _ _=>⟨trivial,rfl⟩) h5
  cases e with
  | normal=>exact fin hp
  | exit i =>
   obtain⟨⟨_,_,_,_,h⟩,_⟩:=hp;cases h
  | ret =>
   refine fin (iY hp fun δ F O _ h=>?_)
   obtain⟨rs',h1,h2,h3⟩:=hP h;exact BT h1 h2 h3
  | _=>exact hp.elim
theorem Vr (hT:okT P c.T=true) (hS:∀f S,eo c.S f=some S→aw c.G P f S) (hm:P.follows .mixedOrders=true) {f:FuncId} {fn:Func} (hf:P.funcs[f]?=some fn) (hname:(fn.name=="runtime.NumGoroutine")=false) {pm rm:List Kd} (hok:Xz c fn pm rm=true) (hres:c.res=fn.results.toList) :
  aw c.G P f {pm:=pm,rm:=rm,f:=ba c fn}:=by
 intro ds rs us hd args w F ow hgl ha hF hO o a next Q hn
 have hbody:∃b,fn.body=some b:=by
  have hd':ba c fn ds=some (.ret rs us):=hd;unfold ba at hd';cases hb:fn.body with
  | none=>rw [hb] at hd';cases hd'
  | some b=>exact⟨b,rfl⟩
 obtain⟨b,hb⟩:=hbody;have hrun:(callFunc f args).run P w = .ok (.enter f args) w:=by
  have h1:¬fn.name="runtime.NumGoroutine":=by simpa using hname
  simp [callFunc,hf,h1,hb]
 rw [hrun,ajo];refine ajl (abz hT hS hm hf hok hres hd hgl ha hF hO) (fun e w' he=>?_)
 obtain⟨v,rfl,F',R,vs,h1,h2⟩:=he;exact hn v w' ⟨F',R,vs,h1,h2⟩
end
end Go.V

namespace Go.V
def sl (s:List D) (i:Nat):D:=nth s i
def ifN (b:Bool) (t e:Option Out):Option Out :=
 match b with
 | true=>t
 | false=>e
theorem al {P:Program} {G:List (Nat × (Obj→Prop))}:∀(f:Nat) (S:FS),eo ([]:List (Nat × FS)) f=some S→aw G P f S:=by
 intro f S h;cases h
theorem ab {P:Program} {G:List (Nat × (Obj→Prop))} {g:Nat} {S0:FS} {l:List (Nat × FS)} (h0:aw G P g S0) (h:∀(f:Nat) (S:FS),eo l f=some S→aw G P f S):∀(f:Nat) (S:FS),eo ((g,S0)::l) f=some S→aw G P f S:=by
 intro f S hl;simp only [eo] at hl;split at hl
 ·rename_i hb
  have:=bd.1 hb;subst this;cases hl;exact h0
 ·exact h f S hl
theorem aN {P:Program} {G G':List (Nat × (Obj→Prop))} {f:Nat} {S:FS} (h:∀p∈G,p∈G') (hm:aw G P f S):aw G' P f S :=
 fun ds rs us hd args w F ow hg=>hm ds rs us hd args w F ow fun p hp=>hg p (h p hp)
open Classical in
def aau (R:Nat→List D→Option Out) (ds:List D):Option Out :=
 if h:∃n,(R n ds).isSome=true then R (aiE h) ds else none
theorem aat {R:Nat→List D→Option Out} {ds:List D} {r:Out} (h:aau R ds=some r):∃n,R n ds=some r:=by
 unfold aau at h;split at h
 ·exact⟨_,h⟩
 ·cases h
theorem afl {R:Nat→List D→Option Out} {ds:List D} {r:Out} (h:∀n o,R n ds=some o→o=r) (n:Nat) (hn:R n ds=some r):aau R ds=some r:=by
 unfold aau;have hx:∃n,(R n ds).isSome=true:=⟨n,by rw [hn];rfl⟩
 rw [dif_pos hx];obtain⟨o,ho⟩:=Option.isSome_iff_exists.1 (aiA hx);rw [ho,h _ _ ho]
theorem Xx {P:Program} {G:List (Nat × (Obj→Prop))} {f:Nat} {S:FS} (h:∀ds,S.f ds=none):aw G P f S:=by
 intro ds rs us hd;rw [h] at hd;cases hd
theorem abk {P:Program} {G:List (Nat × (Obj→Prop))} {f:Nat} {pm rm:List Kd} {R:Nat→List D→Option Out} (h:∀n,aw G P f {pm:=pm,rm:=rm,f:=R n}):aw G P f {pm:=pm,rm:=rm,f:=aau R}:=by
 intro ds rs us hd args w F ow hg ha hF hO o a next Q hq
 obtain⟨n,hn⟩:=aat hd;refine h n ds rs us hn args w F ow hg ha hF hO o a next Q fun v w' hv=>?_
 obtain⟨F',R',vs,h1,h2⟩:=hv;exact hq v w' ⟨F',R',vs,h1,⟨h2.os,h2.tape,h2.output,h2.size,h2.keep,h2.f0,h2.fn,h2.rn,h2.len,h2.lenD,h2.res,h2.us⟩⟩
open Go.RowKit
section
variable {P:Program} {G:List (Nat × (Obj→Prop))}
theorem bQ {f:FuncId} {S:FS} (he:∀args w,(callFunc f args).run P w = .ok (.enter f args) w)
  (h:∀ds rs us,S.f ds=some (.ret rs us)→∀(args:Array Value) (w:World) (F:Nat→Prop) (ow:Nat→Option Nat),gOk G w F→fC w F ow 0 S.pm ds args.toList→(∀b,F b→b<w.heap.size∧ow b=none)→(∀b i,ow b=some i→b<w.heap.size) →
   Calls P f args w fun e w'=>∃v,e = .returned v∧∃F' R vs,v=lf vs∧CallPost S args rs us w F ow F' R vs w'):aw G P f S:=by
 intro ds rs us hd args w F ow hg ha hF hO o a next Q hn
 rw [he,ajo];refine ajl (h ds rs us hd args w F ow hg ha hF hO) (fun e w' hv=>?_)
 obtain⟨v,rfl,F',R,vs,h1,h2⟩:=hv;exact hn v w' ⟨F',R,vs,h1,h2⟩
theorem RF {w:World} {F:Nat→Prop}:∀(ks:List Kd) (ys:List Value),(ks.all fun k=>!uy k)=true→ks.length=ys.length→xw w F ks [] ys
 | [],[],_,_=>trivial
 | k::ks,y::ys,h,hl=>by
  simp only [List.all_cons,ail,aiv] at h;simp only [xw,h.1];exact RF ks ys h.2 (by simpa using hl)
 | [],_::_,_,hl=>by cases hl
 | _::_,[],_,hl=>by cases hl
theorem NU {w:World} {F:Nat→Prop} {ow:Nat→Option Nat}:∀(ks:List Kd) (ds:List D) (ys:List Value) (i:Nat),fC w F ow i ks ds ys→ds.length=ks.length∧ys.length=ks.length
 | [],[],[],_,_=>⟨rfl,rfl⟩
 | k::ks,d::ds,y::ys,i,h=>by
  obtain⟨h1,h2⟩:=NU ks ds ys (i+1) h.2;exact⟨by simp [h1],by simp [h2]⟩
 | [],_::_,_,_,h=>h.elim
 | [],[],_::_,_,h=>h.elim
 | _::_,[],_,_,h=>by cases ‹List Value›<;>exact h.elim
 | _::_,_::_,[],_,h=>h.elim
theorem lC {w:World} {F:Nat→Prop} {ow:Nat→Option Nat} {k:Kd} {ds:List D} {l:List Value} (h:fC w F ow 0 [k] ds l):∃d y,ds=[d]∧l=[y]∧eP w F (fun g=>ow g=some 0) k d y:=by
 match ds,l,h with
 | [d],[y],h=>exact⟨d,y,rfl,rfl,h.1⟩
 | [],l,h=>cases l<;>exact h.elim
 | d::d'::ds,l,h =>
  match l,h with
  | [],h=>exact h.elim
  | [y],h=>exact h.2.elim
  | y::y'::ys,h=>exact h.2.elim
 | [d],[],h=>exact h.elim
 | [d],y::y'::ys,h=>exact h.2.elim
theorem vM {w:World} {F:Nat→Prop} {ow:Nat→Option Nat} {k k':Kd} {ds:List D} {l:List Value} (h:fC w F ow 0 [k,k'] ds l) :
  ∃d y d' y',ds=[d,d']∧l=[y,y']∧eP w F (fun g=>ow g=some 0) k d y∧eP w F (fun g=>ow g=some 1) k' d' y':=by
 obtain⟨h1,h2⟩:=NU _ _ _ _ h
 match ds,l,h1,h2,h with
 | [d,d'],[y,y'],_,_,h=>exact⟨d,y,d',y',rfl,rfl,h.1,h.2.1⟩
theorem Cf {w:World} {F own:Nat→Prop} {lv:Nat} {x y:Value} (h:eP w F own (.dat lv) (.v x) y):y=x∧flat x=true:=by
 rcases h with h | h
 ·cases h
 ·exact ce.1 h
theorem MB {S:FS} {args:Array Value} {rs:List D} {vs:List Value} {w w':World} {F:Nat→Prop} {ow:Nat→Option Nat} (R:Nat→Option Nat) (hB:Below w.heap.size w w') (hF:∀b,F b→b<w.heap.size∧ow b=none)
  (hR:∀b j,R b=some j→w.heap.size≤b∧b<w'.heap.size) (hio:(S.pm.all fun k=>!uy k)=true) (hl:S.pm.length=args.size) (h1:vs.length=S.rm.length) (h2:rs.length=S.rm.length)
  (hres:∀j,Va w' F w.heap.size (fun g=>R g=some j) (aD S.rm j) (nth rs j) (vs.getD j undef)):CallPost S args rs [] w F ow F R vs w' :=
 ⟨hB.os,hB.tape,hB.output,hB.size,fun b hb _=>hB.block b hb,fun _ h=>h,fun b hb=>⟨.inl hb,aiT (hF b hb).1 hB.size,by
  cases h:R b with
  | none=>rfl
  | some j=>exact absurd (hR b j h).1 (Nat.not_le.2 (hF b hb).1)⟩,hR,h1,h2,hres,RF _ _ hio (by simpa using hl)⟩
theorem eR {S:FS} {args:Array Value} {w w':World} {F:Nat→Prop} {ow:Nat→Option Nat} (hB:Below w.heap.size w w') (hF:∀b,F b→b<w.heap.size∧ow b=none) (hio:(S.pm.all fun k=>!uy k)=true) (hl:S.pm.length=args.size)
  (rs:List D) (vs:List Value) (hrm:S.rm=rs.map fun _=>.dat 0) (hv:vs.length=rs.length) (h:∀(j:Nat) (d:D),rs[j]?=some d→∃y:Value,vs[j]?=some y∧bP w' (fun _=>False) d y):CallPost S args rs [] w F ow F (fun _=>none) vs w':=by
 refine MB _ hB hF (fun b j h=>by cases h) hio hl (by rw [hrm,hv];simp) (by rw [hrm];simp) (fun j=>?_)
 rw [iS,aio];cases hj:rs[j]? with
 | none=>exact .inl rfl
 | some d =>
  obtain⟨y,h1,h2⟩:=h j d hj;have hk:aD S.rm j = .dat 0:=by
   rw [hrm];clear hrm h hv h1 h2;induction rs generalizing j with
   | nil=>simp at hj
   | cons r rs ih =>
    cases j with
    | zero=>rfl
    | succ j=>exact ih j (by simpa using hj)
  refine .inr ?_
  rw [hk,aio,h1];exact cq (fun b hb=>hb.elim) (fun _ _=>rfl) h2
theorem Nh {w:World} {F:Nat→Prop}:∀(l:List ByteArray),cm w F (l.map T) (l.map aiW)
 | []=>aW.2 rfl
 | s::l=>au.2 ⟨[.string s],l.map aiW,rfl,by simp only [RepC];exact⟨trivial,rfl⟩,Nh l⟩
theorem On {w':World} {F own:Nat→Prop} {A c e:Nat} {cur:Array Value} {l:List ByteArray} (hb:w'.heap[A]?=some (.cells cur e (0,0))) (hc:l.length≤c) (hs:c≤cur.size) (hl:∀(i:Nat) (u:Value),(l.map aiW)[i]?=some u→cur[i]?=some u) (ho:own A) :
  kX w' F own 1 (.arr 1 (l.map T)) (.slice (some ⟨A,0,none⟩) l.length c):=by
 refine⟨l.map T,rfl,fun x hx=>?_,.inr ⟨A,0,c,l.map aiW,cur,e,by simp,by simpa using hc,hb,by omega,Nh l,fun i u hu=>by simpa using hl i u hu,ho⟩⟩
 obtain⟨s,_,rfl⟩:=List.mem_map.1 hx;rfl
end
end Go.V

namespace Go.V
open Go.RowKit Go.Shelf
section
variable {P:Program} {ρ:Ren} {G:List (Nat × (Obj→Prop))}
def Gc (o:Obj):Prop:=∃e fr,o = .cells (ajh.map fun z=>Value.int .u64 z).toArray e fr
def MG (g:Nat) (o:Obj):Prop:=∃m,∀w:World,w.heap[g]?=some o→w.cell? ⟨g,0,none⟩=some (.int .i64 m)
theorem WN {w:World} {F:Nat→Prop} {g:Nat} (hg:gOk G w F) (hm:(g,MG g)∈G):∃m,w.cell? ⟨g,0,none⟩=some (.int .i64 m):=by
 obtain⟨_,o,ho,m,hc⟩:=hg _ hm;exact⟨m,hc w ho⟩
theorem ab0 {w:World} {g:Nat} {m:Int} (h:w.cell? ⟨g,0,none⟩=some (.int .i64 m)):∃o,w.heap[g]?=some o∧MG g o:=by
 cases ho:w.heap[g]? with
 | none=>simp [World.cell?,ho] at h
 | some o=>exact⟨o,rfl,m,fun w' hw'=>(World.cell?_of_block (w:=w) (hw'.trans ho.symm)).trans h⟩
theorem Xw {w:World} {g:Nat} (hn:P.globalNamed "internal/strconv.uint64pow10"=some g) (h:aji P w "internal/strconv.uint64pow10" .u64 ajh):∃o,w.heap[g]?=some o∧Gc o:=by
 simp only [aji,ajp,hn,air] at h;split at h
 ·rename_i cs e fr ho
  cases h;exact⟨_,ho,e,fr,rfl⟩
 ·cases h
theorem afn {w:World} {F:Nat→Prop} {g:Nat} (hg:gOk G w F) (hm:(g,Gc)∈G) (hn:P.globalNamed "internal/strconv.uint64pow10"=some g):aji P w "internal/strconv.uint64pow10" .u64 ajh:=by
 obtain⟨_,o,ho,e,fr,rfl⟩:=hg _ hm;simp [aji,ajp,hn,ho]
theorem RQ {args:Array Value} {y y':Value} (h:args.toList=[y,y']):args=#[y,y']:=by
 apply Array.ext';rw [h]
theorem DL {args:Array Value} {y:Value} (h:args.toList=[y]):args=#[y]:=by
 apply Array.ext';rw [h]
def KJ:List D→Option Out
 | [.v (.int .i64 n)]=>if -9223372036854775808≤n∧n≤9223372036854775807 then some (.ret [T ⟨(Lib.itoa n).toArray⟩] []) else none
 | _=>none
@[reducible] def acj:FS:={pm:=[.dat 0],rm:=[.dat 0],f:=KJ}
theorem agm (L:Go.Proofs.LaysM.n171 P ρ) {f:Nat} (hf:ρ.f 171=f) {g:Nat} (hm:(g,Gc)∈G) (hn:P.globalNamed "internal/strconv.uint64pow10"=some g):aw G P f acj:=by
 subst hf;have he:∀args w,(callFunc (ρ.f 171) args).run P w = .ok (.enter (ρ.f 171) args) w:=aiz L.f171 (by kernel_rfl) rfl;refine bQ he fun ds rs us hd args w F ow hg ha hF _=>?_
 obtain⟨d,y,rfl,h2,h3⟩:=lC ha;replace hd:KJ [d]=some (.ret rs us):=hd;unfold KJ at hd;split at hd
 case h_2=>cases hd
 rename_i n e;cases e;split at hd
 case isFalse=>cases hd
 rename_i hr;cases hd;obtain⟨rfl,_⟩:=Cf h3;rw [DL h2];refine(Go.Proofs.Any.strconv_Itoa L n hr.1 hr.2 w (afn hg hm hn)).mono ?_
 rintro e w' ⟨rfl,k,os,rfl⟩;refine⟨_,rfl,F,_,[_],rfl,eR (below_itoa w k os) hF rfl rfl [_] [_] rfl rfl fun j d hj=>?_⟩
 match j,hj with
 | 0,hj =>
  simp only [aiq,aim] at hj;subst hj;exact⟨_,rfl,cZ rfl⟩
where
 below_itoa (w:World) (k:Nat) (os:Array Obj):Below w.heap.size w (ajj (w.drewN k) os) :=
  ⟨rfl,rfl,rfl,by simp [ajj,World.drewN],fun b hb=>by simp [ajj,World.drewN,ai2 hb]⟩
def HK:List D→Option Out
 | [.v (.string s)]=>if s.size≤281474976710656 then(match Lib.atoiAll s.data.toList with
  | .ok v=>some (.ret [I v,.v .nilIface] [])
  | .range=>some (.ret [I (Lib.atoiSat s.data.toList),.ifc] [])
  | _=>some (.ret [I 0,.ifc] [])) else none
 | _=>none
@[reducible] def abT:FS:={pm:=[.dat 0],rm:=[.dat 0,.dat 0],f:=HK}
def JW (o:Obj):Prop:=∃v cs e fr,o = .cells cs e fr∧cs[0]?=some v∧(v = .nilIface∨∃te pe,v = .iface te pe)
theorem VV {w:World} {g:Nat} {name:String} {tp:TypeId} {p:Value} (hn:P.globalNamed name=some g) (h:w.var? P name=some #[.iface tp p]):∃o,w.heap[g]?=some o∧JW o:=by
 simp only [ajp,hn,air] at h;split at h
 ·rename_i cs e fr ho
  cases h;exact⟨_,ho,.iface tp p,_,e,fr,rfl,rfl,.inr ⟨tp,p,rfl⟩⟩
 ·cases h
theorem ZB {w:World} {F:Nat→Prop} {g:Nat} (hg:gOk G w F) (hm:(g,JW)∈G):∃v,w.cell? ⟨g,0,none⟩=some v∧(v = .nilIface∨∃te pe,v = .iface te pe):=by
 obtain⟨_,o,ho,v,cs,e,fr,rfl,hc,hv⟩:=hg _ hm;exact⟨v,by simp [World.cell?,ho,hc],hv⟩
theorem ahd (L:Go.Proofs.LaysC.n172 P ρ) {f:Nat} (hf:ρ.f 172=f) {g15 g16:Nat} (h15:ρ.g 15=g15) (h16:ρ.g 16=g16) (hs:(g15,JW)∈G) (hr:(g16,JW)∈G):aw G P f abT:=by
 subst hf;have he:∀args w,(callFunc (ρ.f 172) args).run P w = .ok (.enter (ρ.f 172) args) w:=aiz L.f172 (by kernel_rfl) rfl;refine bQ he fun ds rs us hd args w F ow hg ha hF _=>?_
 obtain⟨d,y,rfl,h2,h3⟩:=lC ha;subst h15 h16;replace hd:HK [d]=some (.ret rs us):=hd;unfold HK at hd;split at hd
 case h_2=>cases hd
 rename_i s e;cases e;split at hd
 case isFalse=>cases hd
 rename_i hz;obtain⟨rfl,_⟩:=Cf h3;rw [DL h2];split at hd
 ·rename_i v hv
  cases hd;refine(Go.Proofs.Any.strconv_Atoi_ok L s (by omega) v hv w).mono ?_
  rintro e w' ⟨rfl,hw⟩;refine⟨_,rfl,F,_,[_,_],rfl,eR ?_ hF rfl rfl [_,_] [_,_] rfl rfl fun j d hj=>?_⟩
  ·rcases hw with rfl | ⟨t,rfl⟩
   ·exact ajb _ _
   ·exact Go.Lib.bytesWorld_below w _ t
  ·match j,hj with
   | 0,hj=>simp only [aiq,aim] at hj;subst hj;exact⟨_,rfl,cZ rfl⟩
   | 1,hj=>simp only [aiu,aiq,aim] at hj;subst hj;exact⟨_,rfl,cZ rfl⟩
 ·rename_i hv
  cases hd;obtain⟨v,hc,hv'⟩:=ZB hg hr;refine(Go.Proofs.Any.strconv_Atoi_range L s hz hv v w hc hv').mono ?_
  rintro e w' ⟨N,rfl,_,_,hB⟩;refine⟨_,rfl,F,_,[_,_],rfl,eR hB hF rfl rfl [_,_] [_,_] rfl rfl fun j d hj=>?_⟩
  match j,hj with
  | 0,hj=>simp only [aiq,aim] at hj;subst hj;exact⟨_,rfl,cZ rfl⟩
  | 1,hj=>simp only [aiu,aiq,aim] at hj;subst hj;exact⟨_,rfl,_,_,rfl⟩
 ·rename_i h1 h2
  cases hv:Lib.atoiAll s.data.toList with
  | ok v=>exact(h1 v hv).elim
  | range=>exact(h2 hv).elim
  | _ =>
   cases hd;obtain⟨v,hc,hv'⟩:=ZB hg hs;refine(Go.Proofs.Any.strconv_Atoi_syntax L s hz hv v w hc hv').mono ?_
   rintro e w' ⟨N,rfl,_,_,hB⟩;refine⟨_,rfl,F,_,[_,_],rfl,eR hB hF rfl rfl [_,_] [_,_] rfl rfl fun j d hj=>?_⟩
   match j,hj with
   | 0,hj=>simp only [aiq,aim] at hj;subst hj;exact⟨_,rfl,cZ rfl⟩
   | 1,hj=>simp only [aiu,aiq,aim] at hj;subst hj;exact⟨_,rfl,_,_,rfl⟩
def kq:List D→Option Out
 | [.v (.string s),.v (.string p)]=>if s.size≤9223372036854775807 then some (.ret [B (Lib.hasSuffix s.data.toList p.data.toList)] []) else none
 | _=>none
@[reducible] def Kz:FS:={pm:=[.dat 0,.dat 0],rm:=[.dat 0],f:=kq}
theorem Xj (L:Go.Proofs.Lays.n100 P ρ) {f:Nat} (hf:ρ.f 100=f):aw G P f Kz:=by
 subst hf;have he:∀args w,(callFunc (ρ.f 100) args).run P w = .ok (.enter (ρ.f 100) args) w:=aiz L.f100 (by kernel_rfl) rfl;refine bQ he fun ds rs us hd args w F ow hg ha hF _=>?_
 obtain⟨d,y,d',y',rfl,h2,h3,h4⟩:=vM ha;replace hd:kq [d,d']=some (.ret rs us):=hd;unfold kq at hd;split at hd
 case h_2=>cases hd
 rename_i s p e;cases e;split at hd
 case isFalse=>cases hd
 rename_i hz;cases hd;obtain⟨rfl,_⟩:=Cf h3;obtain⟨rfl,_⟩:=Cf h4;rw [RQ h2];refine(Go.Proofs.Any.strings_HasSuffix L s p w hz).mono ?_
 rintro e w' ⟨rfl,rfl⟩;refine⟨_,rfl,F,_,[_],rfl,eR (ajb _ _) hF rfl rfl [_] [_] rfl rfl fun j d hj=>?_⟩
 match j,hj with
 | 0,hj=>simp only [aiq,aim] at hj;subst hj;exact⟨_,rfl,cZ rfl⟩
def kn:List D→Option Out
 | [.v (.string s),.v (.string p)]=>if s.size≤9223372036854775807 then some (.ret [T ⟨(Lib.trimSuffix s.data.toList p.data.toList).toArray⟩] []) else none
 | _=>none
@[reducible] def Ii:FS:={pm:=[.dat 0,.dat 0],rm:=[.dat 0],f:=kn}
theorem Uj (L:Go.Proofs.Lays.n102 P ρ) {f:Nat} (hf:ρ.f 102=f):aw G P f Ii:=by
 subst hf;have he:∀args w,(callFunc (ρ.f 102) args).run P w = .ok (.enter (ρ.f 102) args) w:=aiz L.f102 (by kernel_rfl) rfl;refine bQ he fun ds rs us hd args w F ow hg ha hF _=>?_
 obtain⟨d,y,d',y',rfl,h2,h3,h4⟩:=vM ha;replace hd:kn [d,d']=some (.ret rs us):=hd;unfold kn at hd;split at hd
 case h_2=>cases hd
 rename_i s p e;cases e;split at hd
 case isFalse=>cases hd
 rename_i hz;cases hd;obtain⟨rfl,_⟩:=Cf h3;obtain⟨rfl,_⟩:=Cf h4;rw [RQ h2];refine(Go.Proofs.Any.strings_TrimSuffix L s p w hz).mono ?_
 rintro e w' ⟨rfl,rfl⟩;refine⟨_,rfl,F,_,[_],rfl,eR (ajb _ _) hF rfl rfl [_] [_] rfl rfl fun j d hj=>?_⟩
 match j,hj with
 | 0,hj=>simp only [aiq,aim] at hj;subst hj;exact⟨_,rfl,cZ rfl⟩
def Ti:List D→Option Out
 | [.v (.string s),.v (.string p)]=>if s.size<4294967281 then some (.ret [T ⟨(Lib.cut s.data.toList p.data.toList).1.toArray⟩,T ⟨(Lib.cut s.data.toList p.data.toList).2.1.toArray⟩,B (Lib.cut s.data.toList p.data.toList).2.2] []) else none
 | _=>none
@[reducible] def afZ:FS:={pm:=[.dat 0,.dat 0],rm:=[.dat 0,.dat 0,.dat 0],f:=Ti}
theorem VA (w:World) (n:Nat):Below w.heap.size w (w.drewN n):=⟨rfl,rfl,rfl,aiQ _,fun _ _=>rfl⟩
theorem ahr (L:Go.Proofs.Lays.n145 P ρ) {f:Nat} (hf:ρ.f 145=f) {g1:Nat} (h1:ρ.g 1=g1) (hm:(g1,MG g1)∈G):aw G P f afZ:=by
 subst hf;have he:∀args w,(callFunc (ρ.f 145) args).run P w = .ok (.enter (ρ.f 145) args) w:=aiz L.f145 (by kernel_rfl) rfl;refine bQ he fun ds rs us hd args w F ow hg ha hF _=>?_
 obtain⟨d,y,d',y',rfl,h2,h3,h4⟩:=vM ha;replace hd:Ti [d,d']=some (.ret rs us):=hd;unfold Ti at hd;split at hd
 case h_2=>cases hd
 rename_i s p e;cases e;split at hd
 case isFalse=>cases hd
 rename_i hz;cases hd;obtain⟨rfl,_⟩:=Cf h3;obtain⟨rfl,_⟩:=Cf h4;rw [RQ h2];subst h1;obtain⟨m,hc⟩:=WN hg hm;refine(Go.Proofs.Any.strings_Cut L s p m w hz hc).mono ?_
 rintro e w' ⟨rfl,n,rfl⟩;refine⟨_,rfl,F,_,[_,_,_],rfl,eR (VA _ _) hF rfl rfl [_,_,_] [_,_,_] rfl rfl fun j d hj=>?_⟩
 match j,hj with
 | 0,hj=>simp only [aiq,aim] at hj;subst hj;exact⟨_,rfl,cZ rfl⟩
 | 1,hj=>simp only [aiu,aiq,aim] at hj;subst hj;exact⟨_,rfl,cZ rfl⟩
 | 2,hj=>simp only [aiu,aiq,aim] at hj;subst hj;exact⟨_,rfl,cZ rfl⟩
theorem aaU (w:World) (o:Obj):(w.alloc o).heap[w.heap.size]?=some o:=by simpa using heap_alloc_new w o
theorem XX (w:World) (o:Obj):(w.alloc o).heap.size=w.heap.size+1:=by simp
def oZ (s p:ByteArray):List ByteArray:=Lib.splitB p 0 (ajc s p) s
def AL:List D→Option Out
 | [.v (.string s),.v (.string p)]=>if s.size<4294967281∧1≤p.size then some (.ret [.arr 1 ((oZ s p).map T)] []) else none
 | _=>none
@[reducible] def ZR:FS:={pm:=[.dat 0,.dat 0],rm:=[.own 1 0 false],f:=AL}
theorem aeS (L:Go.Proofs.LaysM.n146 P ρ) {f:Nat} (hf:ρ.f 146=f) {g1:Nat} (h1:ρ.g 1=g1) (hm:(g1,MG g1)∈G):aw G P f ZR:=by
 subst hf;have he:∀args w,(callFunc (ρ.f 146) args).run P w = .ok (.enter (ρ.f 146) args) w:=aiz L.f146 (by kernel_rfl) rfl;refine bQ he fun ds rs us hd args w F ow hg ha hF _=>?_
 obtain⟨d,y,d',y',rfl,h2,h3,h4⟩:=vM ha;replace hd:AL [d,d']=some (.ret rs us):=hd;unfold AL at hd;split at hd
 case h_2=>cases hd
 rename_i s p e;cases e;split at hd
 case isFalse=>cases hd
 rename_i hz;cases hd;obtain⟨rfl,_⟩:=Cf h3;obtain⟨rfl,_⟩:=Cf h4;rw [RQ h2];subst h1;obtain⟨m,hc⟩:=WN hg hm;refine(Go.Proofs.Any.strings_Split {L with} L.i9 s p m w hz.1 hc hz.2).mono ?_
 rintro e w' ⟨rfl,rfl⟩;have hlen:(oZ s p).length=ajc s p+1:=splitOf_length s p hz.2;refine⟨_,rfl,F,fun b=>if b=w.heap.size then some 0 else none,[_],rfl,MB _ ((ajb _ w).alloc (aiQ _) _) hF (fun b j hb=>?_) rfl rfl rfl rfl fun j=>?_⟩
 ·split at hb
  ·rename_i e;subst e;exact⟨aiQ _,by rw [XX];exact Nat.lt_succ_self _⟩
  ·cases hb
 ·match j with
  | 0 =>
   refine .inr ?_
   have:=On (w':=w.alloc (.cells ((oZ s p).map aiW).toArray (ρ.t 9))) (F:=FB F w.heap.size 0) (own:=fun g=>(if g=w.heap.size then some 0 else none)=some 0∧w.heap.size≤g) (A:=w.heap.size) (c:=ajc s p+1) (e:=ρ.t 9)
    (cur:=((oZ s p).map aiW).toArray) (l:=oZ s p) (aaU _ _) (by omega) (by simp only [List.size_toArray,List.length_map];omega) (fun i u hu=>by rw [List.getElem?_toArray];exact hu) ⟨by simp,aiQ _⟩
   rw [hlen] at this;exact this
  | j+1=>exact .inl rfl
where
 splitOf_length (s p:ByteArray) (hp:1≤p.size):(oZ s p).length=ajc s p+1:=by
  exact Lib.splitB_all p hp 0 _ s rfl
end
end Go.V

end
