/-
  A part of the proof: contracts and plain forms of functions beneath the statement, made small by a program (names shortened, what is not needed left out).
-/
import Derived.Test.YtjafgdefcggjcaaGreatDoorRows
import Derived.Test.YtjafgdefcggjcaaGreatDoorTie
import Derived.Test.YtjafgdefcggjcaaGreatDoorCards
import Derived.Test.YtjafgdefcggjcaaGreatDoorM2
import Derived.Below
import Derived.Shelf.Strconv.Itoa3
import Derived.Shelf.Strconv.AtoiAll
import Derived.Lib.AtoiErrMem
import Derived.Shelf.Strings.Cut
import Derived.Shelf.Strings.SplitShaped
import Derived.Shelf.Strings.Prefix
import Derived.Shelf.Strings.OnBuilder
open Option renaming bind_eq_some_iff → aiT, map_eq_some_iff → aiW, bind_some → ai0, getD_some → ajG, map_some → ajW
open Bool renaming and_eq_true → aiU, not_eq_true' → ai4, or_eq_true → ajr, false_eq_true → ajt, not_false → aj0
open Option.some renaming injEq → aiV, inj → ajV
open List renaming getD_eq_getElem?_getD → aiX, getElem?_cons_zero → aiZ, mem_cons → ai1, drop_zero → ai2, getElem?_cons_succ → ai3, snd_lt_of_mem_zipIdx → ajb, getElem?_eq_getElem → ajc, all_eq_true → aje, getD_cons_zero → ajg, map_cons → ajh, eq_nil_of_length_eq_zero → ajj, getElem?_eq_none → ajk, drop_eq_getElem_cons → ajq, length_eq_one_iff → ajw, length_cons → ajx, mem_append_right → ajy, nil_append → ajz, getElem?_eq_some_iff → ajC, cons_append → ajD, length_take → ajE, getElem?_take_of_lt → ajF, mem_filter → ajH, take_append_drop → ajI, mapM_cons → ajJ, map_toArray → ajT
open Array renaming getD_eq_getD_getElem? → aiY, getElem?_eq_getElem → ai6, replicate → aji, getElem?_toList → ajl, getElem?_setIfInBounds → ajm, toArray_toList → ajn, getElem?_eq_some_iff → ajo, getElem?_append_left → ajB
open Nat renaming beq → ai5, le_refl → ajp, lt_of_lt_of_le → ajs, le_trans → ajA, zero_add → ajP, ble → ajZ
open List.cons renaming injEq → ai7
open Go.Proofs renaming enters_of → ai8
open Classical renaming choose_spec → ai9, choose → ajd
open Go.Region renaming wanted → aja, binds → ajf, ready → aju
open Go.Value renaming string → ajv
open Go.RowKit.Below renaming refl → ajK
open Go.Lib renaming countB → ajL, pow10Tab → ajQ, TabIs → ajR
open Go.Builtin renaming min2 → ajM, max2 → ajN
open Go.Oper renaming wp_mono → ajO, upon_enter → ajX
open Go.Sort renaming grow → ajS
open Go.Calls renaming mono → ajU
open Go.World renaming var? → ajY
set_option maxRecDepth 100000
set_option linter.unusedSimpArgs false
set_option linter.unusedVariables false
noncomputable section
namespace Go.V
open Go.RowKit
section
variable {P:Program} {c:Cx} {B:Nat} {X:Nat→Prop} {w0:World} {F0 F:Nat→Prop} {O:Nat→Option (Nat × Nat)} {a:Act} {w:World} {δ:List D}
theorem mz {w w':World} {F F':Nat→Prop} {own own':Nat→Prop} {n:Nat} {d:D} {y:Value} (hF:∀b,F b→F' b) (hw:∀b,F b→w'.heap[b]?=w.heap[b]?)
  (ho:∀g,V.blk y=some g→own g→own' g∧w'.heap[g]?=w.heap[g]?) (h:Gx w F own n d y):Gx w' F' own' n d y:=by
 obtain⟨l,us,g,e,a1,rfl,a3,a4,a5,a6,a7⟩:=h;exact⟨l,us,g,e,a1,rfl,(ho g rfl a7).2.trans a3,cL hF hw _ _ a4,a5,a6,(ho g rfl a7).1⟩
theorem Gx.blk {F:Nat→Prop} {own:Nat→Prop} {n:Nat} {d:D} {y:Value} (h:Gx w F own n d y):∀b,V.blk y=some b→own b∧b<w.heap.size:=by
 intro b hb;obtain⟨l,us,g,e,a1,rfl,a3,a4,a5,a6,a7⟩:=h;simp [V.blk] at hb;subst hb;exact⟨a7,(ajo.1 a3).1⟩
def CH:List Ag→Nat→Nat→Option Nat
 | [],_,_=>none
 | .io _ q::l,r,i=>if q=r then some i else CH l r (i+1)
 | .d _ _::l,r,i=>CH l r (i+1)
 | .bor _ _::l,r,i=>CH l r (i+1)
theorem Aw:∀{l:List Ag} {r i j:Nat},CH l r i=some j→r∈gd l
 | .io _ q::l,r,i,j,h=>by
  simp only [CH] at h;split at h
  ·rename_i e;subst e;simp [gd]
  ·simp [gd,Aw h]
 | .d _ _::l,r,i,j,h=>by simpa [gd] using Aw (l:=l) h
 | .bor _ _::l,r,i,j,h=>by simpa [gd] using Aw (l:=l) h
theorem zG:∀{l:List Ag} {r j:Nat},Mf l j=some r→r∈gd l
 | .io _ q::l,r,0,h=>by simp [Mf] at h;simp [gd,h]
 | .io _ q::l,r,j+1,h=>by simp only [gd,ai1];exact .inr (zG (l:=l) h)
 | .d _ _::l,r,0,h=>by simp [Mf] at h
 | .bor _ _::l,r,0,h=>by simp [Mf] at h
 | .d _ _::l,r,j+1,h=>by simpa [gd] using zG (l:=l) h
 | .bor _ _::l,r,j+1,h=>by simpa [gd] using zG (l:=l) h
theorem Aq {a:Nat} {l:List Nat} (h:oX (a::l)=true):a∉l∧oX l=true:=by
 simp only [oX,jZ] at h;split at h
 ·cases h
 ·rename_i h1
  exact⟨by simpa using h1,h⟩
theorem MS:∀{l:List Ag} {r i j:Nat},oX (gd l)=true→Mf l j=some r→CH l r i=some (i+j)
 | .io _ q::l,r,i,0,_,h=>by simp [Mf] at h;simp [CH,h]
 | .io _ q::l,r,i,j+1,hn,h=>by
  obtain⟨h1,h2⟩:=Aq hn;have h3:=zG (l:=l) h;have hne:¬q=r:=fun e=>h1 (by rw [e];exact h3)
  simp only [CH];rw [if_neg hne,MS (l:=l) h2 h];congr 1;omega
 | .d _ _::l,r,i,0,_,h=>by simp [Mf] at h
 | .bor _ _::l,r,i,0,_,h=>by simp [Mf] at h
 | .d _ _::l,r,i,j+1,hn,h=>by simp only [CH];rw [MS (l:=l) hn h];congr 1;omega
 | .bor _ _::l,r,i,j+1,hn,h=>by simp only [CH];rw [MS (l:=l) hn h];congr 1;omega
def VI (c:Cx) (a:Act) (δ:List D):List Ag→List Kd→List Operand→Prop
 | [],[],[]=>True
 | .io _ r::l,m::pm,x::xs=>(nth δ r ≠ .bad∧a.eval x=av a r∧((∃z lv io,m = .own z lv true∧aD c.K r = .own z lv io∧lv≠1)∨∃n lv io,m = .box n lv true∧aD c.K r = .box n lv io∧lv≠1))∧VI c a δ l pm xs
 | _::l,m::pm,_::xs=>vd m=false∧VI c a δ l pm xs
 | _,_,_=>False
theorem SY {m:Kd} {pm:List Kd} (h:ni (m::pm)=true):ni pm=true∧(∀z lv,m = .own z lv true→lv≠1)∧∀n lv,m = .box n lv true→lv≠1:=by
 cases m with
 | dat lv =>
  simp only [ni] at h;split at h
  case h_2=>cases h
  exact⟨h,fun _ _ e=>(by cases e),fun _ _ e=>(by cases e)⟩
 | own z lv io =>
  cases io
  ·simp [ni] at h
  simp only [ni] at h;split at h
  case h_2=>cases h
  rename_i h1 h2;exact⟨h,fun _ l e=>by cases e;intro e;subst e;simp at h1,fun _ _ e=>(by cases e)⟩
 | box z lv io =>
  cases io
  ·simp [ni] at h
  simp only [ni] at h;split at h
  case h_2=>cases h
  rename_i h1 h2;exact⟨h,fun _ _ e=>(by cases e),fun _ l e=>by cases e;intro e;subst e;simp at h1⟩
 | _=>simp [ni] at h
theorem adO {K:List Kd} {x:Operand} {m:Kd} {t r:Nat} (h:AK K x m=some (.bor t r)):∃lv,m = .dat lv:=by
 cases m with
 | dat lv=>exact⟨lv,rfl⟩
 | own z lv io =>
  exfalso;cases io
  ·simp [AK] at h
  ·simp only [AK] at h
   repeat (split at h<;>try cases h)
 | box z lv io =>
  exfalso;cases io
  ·simp [AK] at h
  ·simp only [AK] at h
   repeat (split at h<;>try cases h)
 | _=>simp [AK] at h
theorem afI {K:List Kd} {x:Operand} {m:Kd} {t r:Nat} (h:AK K x m=some (.io t r)):x = .tmp t∧((∃z lv io,m = .own z lv true∧((t=r∧aD K t = .own z lv io)∨(aD K t = .via r∧aD K r = .own z lv io))) ∨
  ∃n lv io,m = .box n lv true∧((t=r∧aD K t = .box n lv io)∨(aD K t = .ref r∧aD K r = .box n lv io))):=by
 cases m with
 | dat lv =>
  exfalso;simp only [AK] at h
  repeat (split at h<;>try cases h)
 | own z lv io =>
  cases io
  ·simp [AK] at h
  ·simp only [AK] at h
   split at h
   case h_2=>cases h
   split at h
   ·rename_i hk
    split at h
    case h_2=>cases h
    rename_i h1 h2;rw [bd] at h1 h2;cases h;exact⟨rfl,.inl ⟨_,_,_,rfl,.inl ⟨rfl,by rw [hk,h1,h2]⟩⟩⟩
   ·rename_i hk
    split at h
    case h_2=>cases h
    rename_i hk2;split at h
    case h_2=>cases h
    rename_i h1 h2;rw [bd] at h1 h2;cases h;exact⟨rfl,.inl ⟨_,_,_,rfl,.inr ⟨hk,by rw [hk2,h1,h2]⟩⟩⟩
   ·cases h
 | box z lv io =>
  cases io
  ·simp [AK] at h
  ·simp only [AK] at h
   split at h
   case h_2=>cases h
   split at h
   ·rename_i hk
    split at h
    case h_2=>cases h
    rename_i h1 h2;rw [bd] at h1 h2;cases h;exact⟨rfl,.inr ⟨_,_,_,rfl,.inl ⟨rfl,by rw [hk,h1,h2]⟩⟩⟩
   ·rename_i hk
    split at h
    case h_2=>cases h
    rename_i hk2;split at h
    case h_2=>cases h
    rename_i h1 h2;rw [bd] at h1 h2;cases h;exact⟨rfl,.inr ⟨_,_,_,rfl,.inr ⟨hk,by rw [hk2,h1,h2]⟩⟩⟩
   ·cases h
 | _=>simp [AK] at h
theorem KC (hI:Inv c B X w0 F0 F O a w δ):∀(xs:List Operand) (pm:List Kd) (ags:List Ag) (ds:List D),nY c.K xs pm=some ags→ni pm=true→dz ags (aB δ (gU ags))=some ds→VI c a δ ags pm xs
 | [],[],ags,ds,h,_,_=>by
  simp only [nY,aiV] at h;subst h;trivial
 | [],_::_,_,_,h,_,_=>by simp [nY] at h
 | _::_,[],_,_,h,_,_=>by simp [nY] at h
 | x::xs,m::pm,ags,ds,h,hpm,hd=>by
  simp only [nY] at h;split at h
  case h_2=>cases h
  rename_i g l hg hl;cases h;obtain⟨hp1,hp2,hp3⟩:=SY hpm;cases g with
  | d y chk =>
   have hnio:vd m=false:=by
    cases m with
    | own z lv io=>cases io<;>first | rfl | (simp only [AK] at hg;repeat (split at hg<;>try cases hg))
    | box z lv io=>cases io<;>first | rfl | (simp only [AK] at hg;repeat (split at hg<;>try cases hg))
    | _=>rfl
   have hd':∃ds',dz l (aB δ (gU l))=some ds':=by
    cases y with
    | tmp t =>
     simp only [app,aB,dz] at hd;split at hd
     ·obtain⟨ds',h1,_⟩:=aiW.1 hd
      exact⟨ds',h1⟩
     ·obtain⟨i,_,hd⟩:=aiT.1 hd
      obtain⟨ds',h1,_⟩:=aiW.1 hd;exact⟨ds',h1⟩
    | const v =>
     simp only [gU,app,dz] at hd;obtain⟨ds',h1,_⟩:=aiW.1 hd;exact⟨ds',h1⟩
    | func v =>
     simp only [gU,app,dz] at hd;obtain⟨ds',h1,_⟩:=aiW.1 hd;exact⟨ds',h1⟩
    | global v=>simp [dz] at hd
   obtain⟨ds',hd'⟩:=hd';exact⟨hnio,KC hI xs pm l ds' hl hp1 hd'⟩
  | bor t r =>
   have hnio:vd m=false:=by
    obtain⟨lv,e⟩:=adO hg;rw [e];rfl
   have hd':∃ds',dz l (aB δ (gU l))=some ds':=by
    cases htr:ai5 t r
    ·simp only [gU,htr,aB,dz] at hd
     obtain⟨i,_,hd⟩:=aiT.1 hd;obtain⟨ds',h1,_⟩:=aiW.1 hd;exact⟨ds',h1⟩
    ·simp only [gU,htr,aB,dz] at hd
     obtain⟨ds',h1,_⟩:=aiW.1 hd;exact⟨ds',h1⟩
   obtain⟨ds',hd'⟩:=hd';exact⟨hnio,KC hI xs pm l ds' hl hp1 hd'⟩
  | io t r =>
   obtain⟨rfl,hk⟩:=afI hg;have main:(nth δ r ≠ .bad∧(t=r∨nth δ t = .ref 0 0))∧∃ds',dz l (aB δ (gU l))=some ds':=by
    cases htr:ai5 t r
    ·simp only [gU,htr,aB,dz] at hd
     obtain⟨i,hc,hd⟩:=aiT.1 hd;obtain⟨i',hc',hd⟩:=aiT.1 hd;obtain⟨ds',h1,_⟩:=aiW.1 hd;obtain⟨hb,rfl⟩:=cM hc';unfold cI at hc;split at hc
     case h_2=>cases hc
     rename_i hr0;cases hc;exact⟨⟨hb,.inr hr0⟩,ds',h1⟩
    ·have e:=bd.1 htr
     subst e;simp only [gU,htr,aB,dz] at hd;obtain⟨i',hc',hd⟩:=aiT.1 hd;obtain⟨ds',h1,_⟩:=aiW.1 hd;exact⟨⟨(cM hc').1,.inl rfl⟩,ds',h1⟩
   obtain⟨⟨hb,hre⟩,ds',hd'⟩:=main;refine⟨⟨hb,?_,?_⟩,KC hI xs pm l ds' hl hp1 hd'⟩
   ·rcases hre with e | hr0
    ·rw [e];rfl
    ·rcases hk with ⟨z,lv,io,_,h2⟩ | ⟨n,lv,io,_,h2⟩
     ·rcases h2 with ⟨e,_⟩ | ⟨h3,h4⟩
      ·rw [e];rfl
      ·exact(hI.via h3 (by rw [hr0];simp)).1
     ·rcases h2 with ⟨e,_⟩ | ⟨h3,h4⟩
      ·rw [e];rfl
      ·obtain⟨ii,ff,h5,_,h6⟩:=hI.ref h3 (by rw [hr0];simp)
       rw [hr0] at h5;cases h5;rw [h4] at h6;obtain⟨g0,e1,e2⟩:=h6;rw [eF,e1,e2]
   ·rcases hk with ⟨z,lv,io,h1,h2⟩ | ⟨n,lv,io,h1,h2⟩
    ·refine .inl ⟨z,lv,io,h1,?_,hp2 z lv h1⟩
     rcases h2 with ⟨e,h2⟩ | ⟨_,h2⟩
     ·rw [←e];exact h2
     ·exact h2
    ·refine .inr ⟨n,lv,io,h1,?_,hp3 n lv h1⟩
     rcases h2 with ⟨e,h2⟩ | ⟨_,h2⟩
     ·rw [←e];exact h2
     ·exact h2
def ahr (w':World) (F':Nat→Prop) (k:Kd) (u:D) (y:Value):Prop :=
 u ≠ .bad∧match k with
  | .own z lv _=>lv≠1∧lL w' (FB F' 0 lv) (fun _=>True) z u y
  | .box n lv _=>lv≠1∧Gx w' (FB F' 0 lv) (fun _=>True) n u y
  | _=>False
theorem JI {w':World} {F':Nat→Prop}:∀(ags:List Ag) (pm:List Kd) (xs:List Operand) (us:List D),VI c a δ ags pm xs→xn w' F' pm us (xs.map a.eval) →
  us.length=(gd ags).length∧∀(m r:Nat),(gd ags)[m]?=some r→nth δ r ≠ .bad∧∃u:D,us[m]?=some u∧ahr w' F' (aD c.K r) u (av a r)
 | [],[],[],us,_,hu=>by
  cases us with
  | nil=>simp [gd]
  | cons u us=>simp [xn] at hu
 | .io t r::l,m::pm,x::xs,us,h,hu=>by
  obtain⟨⟨h1,h2,h3⟩,h4⟩:=h;simp only [ajh,xn] at hu;have hio:vd m=true:=by rcases h3 with ⟨z,lv,io,rfl,_⟩ | ⟨n,lv,io,rfl,_⟩<;>rfl
  rw [if_pos hio] at hu;cases us with
  | nil=>exact hu.elim
  | cons u us =>
   obtain⟨u1,u2,u3⟩:=hu;obtain⟨g1,g2⟩:=JI l pm xs us h4 u3;refine⟨by simp [gd,g1],fun j q hj=>?_⟩
   cases j with
   | zero =>
    simp only [gd,aiZ,aiV] at hj;subst hj;refine⟨h1,u,rfl,u1,?_⟩
    rw [h2] at u2;have u2:=u2.resolve_left u1;rcases h3 with ⟨z,lv,io,rfl,hk,hlv⟩ | ⟨n,lv,io,rfl,hk,hlv⟩
    ·rw [hk];exact⟨hlv,u2⟩
    ·rw [hk];exact⟨hlv,u2⟩
   | succ j =>
    simp only [gd,ai3] at hj;exact g2 j q hj
 | .d y chk::l,m::pm,x::xs,us,h,hu=>by
  obtain⟨h1,h2⟩:=h;simp only [ajh,xn,h1] at hu;exact JI l pm xs us h2 hu
 | .bor y chk::l,m::pm,x::xs,us,h,hu=>by
  obtain⟨h1,h2⟩:=h;simp only [ajh,xn,h1] at hu;exact JI l pm xs us h2 hu
 | [],[],_::_,_,h,_=>h.elim
 | [],_::_,_,_,h,_=>h.elim
 | .io _ _::_,[],_,_,h,_=>h.elim
 | .io _ _::_,_::_,[],_,h,_=>h.elim
 | .d _ _::_,[],_,_,h,_=>h.elim
 | .d _ _::_,_::_,[],_,h,_=>h.elim
 | .bor _ _::_,[],_,_,h,_=>h.elim
 | .bor _ _::_,_::_,[],_,h,_=>h.elim
theorem ZR (us:List D):∀(ios:List Nat) (j:Nat),j+ios.length≤us.length→Gj.go us j ios=(us.drop j).take ios.length
 | [],j,_=>by simp [Gj.go]
 | _::l,j,h=>by
  simp only [ajx] at h;simp only [Gj.go];rw [ZR us l (j+1) (by omega)];have hj:j<us.length:=by omega
  rw [ajq hj,ajx,List.take_succ_cons,jk,aiX,ajc hj];rfl
theorem xe:∀(ss:List Nat) (ds δ:List D) (m s:Nat),oX ss=true→ss[m]?=some s→s<δ.length→nth (az δ ss ds) s=nth ds m
 | t::ss,[],δ,m,s,hn,hm,hl=>by
  rw [nj _ _ _ (List.mem_of_getElem? hm)]
 | t::ss,d::ds,δ,0,s,hn,hm,hl=>by
  obtain⟨h1,h2⟩:=Aq hn;simp at hm;subst hm;simp only [az];rw [aF _ _ _ _ h1,cO,if_pos hl]
 | t::ss,d::ds,δ,m+1,s,hn,hm,hl=>by
  obtain⟨h1,h2⟩:=Aq hn;simp only [az];rw [xe ss ds _ m s h2 (by simpa using hm) (by rw [jA];exact hl)]
theorem abg {d:Nat} {l:List Nat} (h1:oL d l=false) (h2:oX l=true):oX ([d]++l)=true:=by
 simp only [ajD,ajz,oX,h1];exact h2
theorem To:∀{l m:List Nat},NM l m=true→∀x∈l,x∉m
 | a::l,m,h,x,hx=>by
  simp only [NM,jZ] at h;split at h
  ·cases h
  ·rename_i h1
   rcases ai1.1 hx with rfl | hx
   ·simpa using h1
   ·exact To h x hx
theorem aeE {K:List Kd} {r:Nat} (h:eN K r):r<K.length:=by
 by_cases hd:r<K.length
 ·exact hd
 ·exfalso
  have:∀(K:List Kd) (r:Nat),¬r<K.length→aD K r = .no:=by
   intro K;induction K with
   | nil=>intro r _;rfl
   | cons k K ih =>
    intro r hr;cases r with
    | zero=>simp at hr
    | succ r=>exact ih r (by simpa using hr)
  rw [eN,this K r hd] at h;exact h
theorem Of {m:Kd} {pm:List Kd} (h:io0 (m::pm)=true):io0 pm=true∧(∀z lv io,m = .own z lv io→lv=0)∧∀n lv io,m = .box n lv io→lv=0:=by
 cases m with
 | own z lv io =>
  simp only [io0] at h;split at h
  case h_2=>cases h
  rename_i h0;exact⟨h,fun _ _ _ e=>by cases e;exact bd.1 h0,fun _ _ _ e=>(by cases e)⟩
 | box z lv io =>
  simp only [io0] at h;split at h
  case h_2=>cases h
  rename_i h0;exact⟨h,fun _ _ _ e=>(by cases e),fun _ _ _ e=>by cases e;exact bd.1 h0⟩
 | _=>exact⟨by simpa only [io0] using h,fun _ _ _ e=>(by cases e),fun _ _ _ e=>(by cases e)⟩
theorem UV:∀(ags:List Ag) (pm:List Kd) (xs:List Operand),VI c a δ ags pm xs→io0 pm=true→∀(m r:Nat),(gd ags)[m]?=some r→∀lv,((∃z io,aD c.K r = .own z lv io)∨∃n io,aD c.K r = .box n lv io)→lv=0
 | [],_,_,_,_,m,r,hm,_,_=>by simp [gd] at hm
 | .io t q::l,m::pm,x::xs,h,h0,j,r,hj,lv,hk=>by
  obtain⟨⟨_,_,h3⟩,h4⟩:=h;obtain⟨g1,g2,g3⟩:=Of h0;cases j with
  | zero =>
   simp only [gd,aiZ,aiV] at hj;subst hj;rcases h3 with ⟨z,lv',io,rfl,hk',_⟩ | ⟨n,lv',io,rfl,hk',_⟩
   ·have:=g2 z lv' true rfl
    subst this;rw [hk'] at hk;rcases hk with ⟨_,_,e⟩ | ⟨_,_,e⟩<;>cases e
    rfl
   ·have:=g3 n lv' true rfl
    subst this;rw [hk'] at hk;rcases hk with ⟨_,_,e⟩ | ⟨_,_,e⟩<;>cases e
    rfl
  | succ j=>exact UV l pm xs h4 g1 j r (by simpa [gd] using hj) lv hk
 | .d _ _::l,m::pm,x::xs,h,h0,j,r,hj,lv,hk=>UV l pm xs h.2 (Of h0).1 j r (by simpa [gd] using hj) lv hk
 | .bor _ _::l,m::pm,x::xs,h,h0,j,r,hj,lv,hk=>UV l pm xs h.2 (Of h0).1 j r (by simpa [gd] using hj) lv hk
 | .io _ _::_,[],_,h,_,_,_,_,_,_=>h.elim
 | .io _ _::_,_::_,[],h,_,_,_,_,_,_=>h.elim
 | .d _ _::_,[],_,h,_,_,_,_,_,_=>h.elim
 | .d _ _::_,_::_,[],h,_,_,_,_,_,_=>h.elim
 | .bor _ _::_,[],_,h,_,_,_,_,_,_=>h.elim
 | .bor _ _::_,_::_,[],h,_,_,_,_,_,_=>h.elim
theorem wB (hI:Inv c B X w0 F0 F O a w δ) {S:FS} {ags:List Ag} {xs:List Operand} {ds rs us:List D} {F':Nat→Prop} {R:Nat→Option Nat} {vs:List Value} {w':World} {v:Value} {dst:Option Nat} {x:List D}
  (hags:nY c.K xs S.pm=some ags) (hpm:ni S.pm=true) (hds:dz ags (aB δ (gU ags))=some ds) (hnd:oX (gd ags)=true)
  (hbor:jt ags=[]∨(At S.rm=true∧io0 S.pm=true))
  (hpost:CallPost S (xs.map a.eval).toArray rs us w (fun b=>F b∨∃r∈jt ags,O b=some (r,0)) (fun b=>match O b with
   | some (r,0)=>CH ags r 0
   | _=>none) F' R vs w')
  (hdx:(dst=none∧x=[])∨∃d y,dst=some d∧x=[y]∧oL d (gd ags)=false) (g:Nat→Option (Nat × Nat)) (hg:∀j p,g j=some p→∀d,dst=some d→p.1=d) (hgn:dst=none→∀j,g j=none)
  (hU:∀(F2:Nat→Prop) (O2:Nat→Option (Nat × Nat)),(∀lv b,(jt ags=[]∨lv≤1)→FB F' w.heap.size lv b→FB F2 B lv b)→(∀b j,R b=some j→O2 b=g j∧B≤b∧(g j=none→F2 b))→∀d y,dst=some d→x=[y]→d<δ.length→Ep c.K B F2 O2 (a.put dst v) w' d y) :
  ∃F2 O2,Inv c B X w0 F0 F2 O2 (a.put dst v) w' (az δ (dst.toList++(gd ags++bu c.K dst.toList)) (x++us)):=by
 have hB:=hI.bb;have hioA:=KC hI xs S.pm ags ds hags hpm hds;obtain⟨hul,hun⟩:=JI (c:=c) (a:=a) (δ:=δ) ags S.pm xs us hioA (by simpa using hpost.us);have hkeep:∀b,b<w.heap.size→(∀p,O b=some p→p.1∉gd ags)→w'.heap[b]?=w.heap[b]?:=by
  intro b hb hp;refine hpost.keep b hb ?_
  split
  ·rename_i r he
   cases h:CH ags r 0 with
   | none=>rfl
   | some j=>exact absurd (Aw h) (hp _ he)
  ·rfl
 have hRn:∀b,b<w.heap.size→R b=none:=fun b hb=>by
  cases h:R b with
  | none=>rfl
  | some j=>have:=(hpost.rn b j h).1;omega
 let F2:Nat→Prop:=fun b=>F b∨(F' b∧w.heap.size≤b)∨∃j,R b=some j∧g j=none
 let O2:Nat→Option (Nat × Nat):=fun b=>match R b with
  | some j=>g j
  | none=>O b
 have hO2n:∀b,R b=none→O2 b=O b:=fun b h=>by simp only [O2,h]
 have hO2s:∀b j,R b=some j→O2 b=g j:=fun b j h=>by simp only [O2,h]
 have hOlt:∀b,w.heap.size≤b→O b=none:=fun b hb=>by
  cases h:O b with
  | none=>rfl
  | some p=>have:=(hI.ol b p h).1;omega
 have hlv:∀lv b,(jt ags=[]∨lv≤1)→FB F' w.heap.size lv b→FB F2 B lv b:=by
  intro lv b hbl hb
  match lv,hbl,hb with
  | 0,_,hb=>exact hb.elim
  | 1,_,hb=>exact⟨.inr (.inl hb),ajA hB hb.2⟩
  | n+2,hbl,hb =>
   have he:jt ags=[]:=hbl.resolve_right (by omega);rcases(hpost.fn b hb).1 with h1 | h1
   ·rcases h1 with h1 | ⟨r,hr,_⟩
    ·exact .inl h1
    ·rw [he] at hr;cases hr
   ·exact .inr (.inl ⟨hb,h1⟩)
 have hnd2:oX (dst.toList++gd ags)=true:=by
  rcases hdx with ⟨rfl,_⟩ | ⟨d,y,rfl,_,hm⟩
  ·exact hnd
  ·exact abg hm hnd
 have hlen:(x++us).length=(dst.toList++gd ags).length:=by
  rcases hdx with ⟨rfl,rfl⟩ | ⟨d,y,rfl,rfl,_⟩<;>simp [hul]
 have hlt:∀r,eN c.K r→r<δ.length:=fun r hr=>by
  rw [hI.ld];exact aeE hr
 have hgetio:∀(m r:Nat),(gd ags)[m]?=some r→eN c.K r→nth (az δ (dst.toList++gd ags) (x++us)) r=nth us m:=by
  intro m r hm hr;rcases hdx with ⟨rfl,rfl⟩ | ⟨d,y,rfl,rfl,_⟩
  ·exact xe _ _ _ m r hnd (by simpa using hm) (hlt r hr)
  ·have:=xe (δ:=δ) ([d]++gd ags) ([y]++us) (m:=m+1) (s:=r) hnd2 (by simpa using hm) (hlt r hr)
   simpa [nth] using this
 have hrootIo:∀(m r:Nat),(gd ags)[m]?=some r→eN c.K r:=by
  intro m r hm;obtain⟨_,u,_,hn⟩:=hun m r hm;obtain⟨_,hn⟩:=hn;unfold eN;generalize aD c.K r=kk at hn;cases kk<;>first | exact hn.elim | trivial
 refine⟨F2,O2,hI.many hlen (by cases dst<;>simp [Act.put]) (by cases dst<;>rfl) (fun s hs=>?_) (fun r hr _ hb=>?_) (fun s hs=>?_) (fun _ hb=>.inl hb) (fun b hb=>?_) (fun b p hp hm=>?_) (fun b hb=>?_) (fun b p hp=>?_) (fun b hb=>?_) hpost.size hpost.os hpost.tape hpost.output (fun b hb hx=>?_)⟩
 ·cases dst with
  | none=>rfl
  | some d=>exact eK fun e=>hs (by simp [e])
 ·obtain⟨m,hm⟩:=List.getElem?_of_mem hr
  obtain⟨_,u,hu,hn⟩:=hun m r hm;rw [hgetio m r hm (hrootIo m r hm),jk,aiX,hu];exact hn.1
 ·rcases List.mem_append.1 hs with hs | hs
  ·rcases hdx with ⟨rfl,_⟩ | ⟨d,y,rfl,rfl,_⟩
   ·cases hs
   ·have:s=d:=by simpa using hs
    subst this;by_cases hsl:s<δ.length
    ·have e:=xe (δ:=δ) ([s]++gd ags) ([y]++us) (m:=0) (s:=s) hnd2 rfl hsl
     simp only [Option.toList_some] at e ⊢;rw [e];exact hU F2 O2 hlv (fun b j hj=>⟨hO2s b j hj,ajA hB (hpost.rn b j hj).1,fun hn=>.inr (.inr ⟨j,hj,hn⟩)⟩) s y rfl rfl hsl
    ·refine .inl ?_
     have:∀(l:List D) (n:Nat),¬n<l.length→nth l n = .bad:=fun l n h=>by
      rw [jk,aiX,ajk (by omega)];rfl
     exact this _ _ (by rw [ed];exact hsl)
  ·have hs':=hs
   obtain⟨m,hm⟩:=List.getElem?_of_mem hs;have hr:=hrootIo m s hm;obtain⟨hb,u,hu,hn⟩:=hun m s hm;rw [hgetio m s hm hr,jk,aiX,hu];have hav:av (a.put dst v) s=av a s:=by
    cases dst with
    | none=>rfl
    | some d =>
     refine eK ?_
     rcases hdx with ⟨h,_⟩ | ⟨d',y,h,_,hm'⟩
     ·cases h
     ·cases h
      rintro rfl;rw [jZ] at hm';exact(of_decide_eq_false hm') hs'
   refine .inr ?_
   obtain⟨hn1,hn2⟩:=hn;have hbl:∀lv,lv≠1→(jt ags=[]∨lv≤1)→∀b,FB F' 0 lv b→FB F2 B lv b:=by
    intro lv h1 h2 b hb;refine hlv lv b h2 ?_
    match lv,h1 with
    | 0,_=>exact hb
    | n+2,_=>exact hb
   have hlv1:∀lv,(∃z io,aD c.K s = .own z lv io)∨(∃n io,aD c.K s = .box n lv io)→jt ags=[]∨lv≤1:=by
    intro lv hk;rcases hbor with h | ⟨_,h0⟩
    ·exact .inl h
    ·right
     have:=UV ags S.pm xs hioA h0 m s hm lv hk;omega
   generalize hks:aD c.K s=kk at hn2;cases kk with
   | own z lv io =>
    refine .inr ?_
    obtain⟨h1,h2⟩:=hn2;rw [hav];have hown:=(hI.own hks hb).blk;exact eH (hbl lv h1 (hlv1 lv (.inl ⟨z,io,hks⟩))) (fun _ _=>rfl) (fun b hbk _=>⟨⟨(hO2n b (hRn b (hown b hbk).2)).trans (hown b hbk).1.1,(hown b hbk).1.2⟩,rfl⟩) h2
   | box n lv io =>
    refine .inr ?_
    obtain⟨h1,h2⟩:=hn2;rw [hav];have hown:=(hI.box hks hb).blk;exact mz (hbl lv h1 (hlv1 lv (.inr ⟨n,io,hks⟩))) (fun _ _=>rfl) (fun b hbk _=>⟨⟨(hO2n b (hRn b (hown b hbk).2)).trans (hown b hbk).1.1,(hown b hbk).1.2⟩,rfl⟩) h2
   | _=>exact hn2.elim
 ·exact hkeep b (hI.fl b hb).1 fun p hp=>by rw [(hI.fl b hb).2] at hp;cases hp
 ·have hb:=(hI.ol b p hp).1
  exact⟨(hO2n b (hRn b hb)).trans hp,hkeep b hb fun q hq=>by rw [hp] at hq;cases hq;exact fun hm'=>hm (ajy _ hm')⟩
 ·rcases hb with hb | hb | ⟨j,hj,hn⟩
  ·obtain⟨h1,h2⟩:=hI.fl b hb
   exact⟨ajs h1 hpost.size,(hO2n b (hRn b h1)).trans h2⟩
  ·obtain⟨_,h1,h2⟩:=hpost.fn b hb.1
   exact⟨h1,(hO2n b h2).trans (hOlt b hb.2)⟩
  ·exact⟨(hpost.rn b j hj).2,(hO2s b j hj).trans hn⟩
 ·cases h:R b with
  | none =>
   rw [hO2n b h] at hp;exact⟨ajs (hI.ol b p hp).1 hpost.size,(hI.ol b p hp).2⟩
  | some j=>exact⟨(hpost.rn b j h).2,.inl (ajA hB (hpost.rn b j h).1)⟩
 ·rcases hb with hb | hb | ⟨j,hj,_⟩
  ·exact .inl hb
  ·exact .inr (ajA hB hb.2)
  ·exact .inr (ajA hB (hpost.rn b j hj).1)
 ·refine hkeep b (ajs hb hB) fun p hp=>?_
  rcases(hI.ol b p hp).2 with h1 | h1
  ·omega
  ·exact absurd h1 hx
theorem Wz:∀{ms:List Kd},At ms=true→∀i lv,(aD ms i = .dat lv∨∃z io,aD ms i = .own z lv io)→lv≤1
 | [],_,i,lv,hk=>by simp [aD] at hk
 | m::ms,h,i,lv,hk=>by
  have:(∀l,m = .dat l→l≤1)∧(∀z l io,m = .own z l io→l≤1)∧At ms=true:=by
   cases m with
   | dat a =>
    simp only [At] at h;split at h
    case h_2=>cases h
    rename_i e;exact⟨fun l e'=>by cases e';exact cT.1 e,fun _ _ _ e=>(by cases e),h⟩
   | own z a io =>
    simp only [At] at h;split at h
    case h_2=>cases h
    rename_i e;exact⟨fun _ e=>(by cases e),fun _ l _ e'=>by cases e';exact cT.1 e,h⟩
   | _=>simp [At] at h
  obtain⟨h1,h2,h3⟩:=this;cases i with
  | zero =>
   simp only [aD] at hk;rcases hk with hk | ⟨z,io,hk⟩
   ·exact h1 lv hk
   ·exact h2 z lv io hk
  | succ i=>exact Wz h3 i lv hk
theorem Yg {o:Oper} {q:Call} {f:Nat} (ho:o.op = .call q) (hf:q.callee = .value (.func f)):(execOp a.eval o).run P w=(callFunc f (q.args.map a.eval)).run P w:=by
 simp [execOp,ho,resolve,hf,Deferred.ofValue,Act.eval,invoke]
theorem Zd {o:Oper} {q:Call} {t f:Nat} {us:Array Value} (ho:o.op = .call q) (hf:q.callee = .value (.tmp t)) (hv:av a t = .func (.func f) #[] us):(execOp a.eval o).run P w=(callFunc f (q.args.map a.eval++us)).run P w:=by
 have hv':a.eval (.tmp t) = .func (.func f) #[] us:=hv;simp [execOp,ho,resolve,hf,Deferred.ofValue,hv',invoke]
theorem DU {w:World} {F:Nat→Prop} {ow:Nat→Option Nat}:∀(pm pn:List Kd) (ds cs:List D) (ys us:List Value) (i:Nat),fB w F ow i pm ds ys→fB w F ow (i+pm.length) pn cs us→fB w F ow i (pm++pn) (ds++cs) (ys++us)
 | [],pn,[],cs,[],us,i,_,h=>by simpa using h
 | k::pm,pn,d::ds,cs,y::ys,us,i,h1,h2=>⟨h1.1,DU pm pn ds cs ys us (i+1) h1.2 (by rw [show i+1+pm.length=i+(k::pm).length by simp;omega];exact h2)⟩
 | [],_,_::_,_,_,_,_,h,_=>h.elim
 | [],_,[],_,_::_,_,_,h,_=>h.elim
 | _::_,_,[],_,_,_,_,h,_=>h.elim
 | _::_,_,_::_,_,[],_,_,h,_=>h.elim
theorem SW {K:List Kd}:∀(xs:List Operand) (pm:List Kd) (ags:List Ag),nY K xs pm=some ags→pm.length=xs.length
 | [],[],_,_=>rfl
 | x::xs,m::ms,ags,h=>by
  simp only [nY] at h;split at h
  ·rename_i h1 h2
   simp [SW xs ms _ h2]
  ·cases h
 | [],_::_,_,h=>by simp [nY] at h
 | _::_,[],_,h=>by simp [nY] at h
theorem Xm {α:Type}:∀(n:Nat) (l:List α),OV n l=l.take n
 | 0,l=>by simp [OV]
 | n+1,[]=>by simp [OV]
 | n+1,_::l=>by simp [OV,Xm n l]
theorem aau {w:World} {F:Nat→Prop} {ow:Nat→Option Nat}:∀(pn:List Kd) (cs:List D) (us:List Value) (i:Nat),rK pn=true→cs.length=pn.length→cs.all D.single=true→cm w F cs us→fB w F ow i pn cs us
 | [],[],us,i,_,_,_,h=>by
  rw [aZ] at h;subst h;trivial
 | k::pn,d::cs,us,i,hk,hl,hs,h=>by
  obtain⟨v1,v2,rfl,h1,h2⟩:=ax.1 h;simp only [List.all_cons,aiU] at hs;obtain⟨y,rfl,_⟩:=lP d v1 hs.1 h1;cases k with
  | dat lv =>
   simp only [rK] at hk;split at hk
   case h_2=>cases hk
   rename_i e;rw [bd] at e;subst e;exact⟨.inr ((ng hs.1).2 h1),aau pn cs v2 (i+1) hk (by simpa using hl) hs.2 h2⟩
  | _=>simp [rK] at hk
 | [],_::_,_,_,_,hl,_,_=>by simp at hl
 | _::_,[],_,_,_,hl,_,_=>by simp at hl
theorem Pa {w:World} {F:Nat→Prop}:∀(pm pn:List Kd) (us:List D) (ys zs:List Value),pm.length=ys.length→rK pn=true→xn w F (pm++pn) us (ys++zs)→xn w F pm us ys
 | [],pn,us,[],zs,_,hn,h=>by
  have:∀(pn:List Kd) (us:List D) (zs:List Value),rK pn=true→xn w F pn us zs→us=[]:=by
   intro pn;induction pn with
   | nil =>
    intro us zs _ h;cases us with
    | nil=>rfl
    | cons u us=>exact h.elim
   | cons k pn ih =>
    intro us zs hk h;cases k with
    | dat lv =>
     cases zs with
     | nil=>cases us<;>exact h.elim
     | cons z zs =>
      simp only [xn,vd,ajt,if_false] at h;simp only [rK] at hk;split at hk
      ·exact ih us zs hk h
      ·cases hk
    | _=>simp [rK] at hk
  have e:=this pn us zs hn (by simpa using h);subst e;trivial
 | k::pm,pn,us,y::ys,zs,hl,hn,h=>by
  simp only [ajD,xn] at h ⊢;split
  ·rename_i hk
   rw [if_pos hk] at h;cases us with
   | nil=>exact h
   | cons u us=>exact⟨h.1,h.2.1,Pa pm pn us ys zs (by simpa using hl) hn h.2.2⟩
  ·rename_i hk
   rw [if_neg hk] at h;exact Pa pm pn us ys zs (by simpa using hl) hn h
 | [],_,_,_::_,_,hl,_,_=>by simp at hl
 | _::_,_,_,[],_,hl,_,_=>by simp at hl
theorem abA (hS:∀f S,en c.S f=some S→au c.G P f S) {o:Oper} {q:Call} {t f:Nat} {S:FS} (ho:o.op = .call q) (hf:q.callee = .value (.tmp t)) (hlk:en c.S f=some S) {A:Ac} (hA:Xv c o.dst t f S q.args.toList=some A) (hI:Inv c B X w0 F0 F O a w δ)
  {k:List D→Option Out} {r:Out} (hg:fX c A δ k=some r) (Q:Exit→Act→World→Prop):o.wp P a w (Next c B X w0 F0 k r) Q:=by
 have hM:=hS f S hlk;unfold Xv at hA;split at hA
 case h_2=>cases hA
 rename_i d lt lr hd hkt hrm;split at hA
 case h_2=>cases hA
 rename_i ags l hags hkd;split at hA
 case h_2=>cases hA
 rename_i hlr hlt hpm hdat hio hbor;cases hA;rw [pD,Xm] at hags hpm;rw [pD,IB] at hdat;rw [cT] at hlr hlt;simp only [fX,aB] at hg;obtain⟨caps,hc1,hg⟩:=aiT.1 hg;rw [mw] at hg;obtain⟨ds,h1,hg⟩:=aiT.1 hg;simp only [ajz] at hg;unfold ac at hg;split at hg
 case h_2=>cases hg
 rename_i rs us h2;unfold af4 at hc1;split at hc1
 case h_2=>cases hc1
 rename_i g0 l0 hclo;split at hc1
 case isFalse=>cases hc1
 rename_i hcc;cases hc1;obtain⟨rfl,hcl,hcs⟩:=hcc;have hbt:nth δ t ≠ .bad:=fun e=>by rw [e] at hclo;cases hclo
 have hst:=(hI.slot t).resolve_left hbt;rw [hkt] at hst;have hrep:=hst.resolve_left hbt;rw [hclo] at hrep;simp only [bU,RepC] at hrep;obtain⟨uv,hav,hru⟩:=hrep;simp only [ai7,and_true] at hav;have hpmE:S.pm=S.pm.take q.args.toList.length++S.pm.drop q.args.toList.length:=(ajI _ _).symm;have hlenA:=SW _ _ _ hags;have hFB:∀b,FB F B lt b→F b:=iv;have hargs:=UW (F':=F) (ow:=fun _=>none) hI (fun _ h=>h) q.args.toList _ ags 0 ds hags hpm h1 (fun r hr b hb=>by rw [hbor] at hr;cases hr) (fun j r hj b hb=>by
  have:=zG hj;rw [hio] at this;cases this)
 have hcaps:=aau (w:=w) (F:=F) (ow:=fun _=>none) (S.pm.drop q.args.toList.length) caps uv (0+(S.pm.take q.args.toList.length).length) hdat (by rw [hcl,pD,pD,IB]) hcs (cL hFB (fun _ _=>rfl) _ _ hru);have hall:=DU _ _ _ _ _ _ 0 hargs hcaps;rw [←hpmE] at hall;have he:=hM (ds++caps) rs us h2 ((q.args.toList.map a.eval).toArray++uv.toArray) w F (fun _=>none) hI.gl (by simpa using hall) (fun b hb=>⟨(hI.fl b hb).1,rfl⟩) (fun b i hb=>by cases hb) o a (Next c B X w0 F0 k r) Q (fun v w' hp=>?_)
 ·unfold Oper.wp
  rw [Zd ho hf hav];have:q.args.map a.eval=(q.args.toList.map a.eval).toArray:=by rw [←ajT,ajn]
  rw [this];exact he
 ·obtain⟨F',R,vs,hv,hp⟩:=hp
  have hpost:CallPost {pm:=S.pm.take q.args.toList.length,rm:=S.rm,f:=S.f} (q.args.toList.map a.eval).toArray rs us w (fun b=>F b∨∃r∈jt ags,O b=some (r,0)) (fun b=>match O b with
   | some (r,0)=>CH ags r 0
   | _=>none) F' R vs w':=by
   refine⟨hp.os,hp.tape,hp.output,hp.size,fun b hb _=>hp.keep b hb rfl,fun b hb=>?_,fun b hb=>⟨?_,(hp.fn b hb).2⟩,hp.rn,hp.len,hp.lenD,hp.res,?_⟩
   ·rcases hb with hb | ⟨r,hr,_⟩
    ·exact hp.f0 b hb
    ·rw [hbor] at hr;cases hr
   ·rcases(hp.fn b hb).1 with h | h
    ·exact .inl (.inl h)
    ·exact .inr h
   ·have hu:=hp.us
    rw [hpmE] at hu;simp only [Array.toList_append] at hu;exact Pa _ _ _ _ _ (by simpa using hlenA) hdat hu
  have hvl:=hp.len;rw [hrm] at hvl;obtain⟨y,rfl⟩:=ajw.1 hvl;simp only [lA] at hv;subst hv;have hres:=hp.res 0;rw [hrm] at hres;simp only [aD,ajg] at hres;have hsz:d<δ.length→av (a.put (some d) v) d=v:=fun h=>ip (by rw [hI.la,←hI.ld];exact h)
  obtain⟨F2,O2,hI'⟩:=wB (S:={pm:=S.pm.take q.args.toList.length,rm:=S.rm,f:=S.f}) (v:=v) (dst:=some d) (x:=[nth rs 0]) hI hags hpm h1 (by simp [hio,oX]) (.inl hbor) hpost (.inr ⟨d,nth rs 0,rfl,rfl,by simp [hio,oL]⟩) (fun _=>none) (fun _ _ h=>by cases h) (fun _ _=>rfl) (fun F2 O2 h4 h5 d' y' e1 e2 h6=>by
   cases e1;simp only [ai7,and_true] at e2;subst e2;by_cases hb:nth rs 0 = .bad
   ·exact .inl hb
   ·refine .inr ?_
    rw [hkd,hsz h6];exact .inr (co (fun b hb=>qv hlr _ (h4 lr b (.inl hbor) hb)) (fun _ _=>rfl) (hres.resolve_left hb)))
  have hus:us=[]:=by
   have h3:=(JI (c:=c) (a:=a) (δ:=δ) ags _ q.args.toList us (KC hI _ _ _ _ hags hpm h1) (by simpa using hpost.us)).1;rw [hio] at h3;exact ajj h3
  subst hus;refine⟨F2,O2,_,by rw [hd];exact hI',?_⟩
  rw [hio];simpa using hg
theorem Zo (hS:∀f S,en c.S f=some S→au c.G P f S) {o:Oper} {q:Call} {f:Nat} {S:FS} (ho:o.op = .call q) (hf:q.callee = .value (.func f)) (hlk:en c.S f=some S) {A:Ac} (hA:Gj c o.dst S q.args.toList=some A) (hI:Inv c B X w0 F0 F O a w δ)
  {k:List D→Option Out} {r:Out} (hg:fX c A δ k=some r) (Q:Exit→Act→World→Prop):o.wp P a w (Next c B X w0 F0 k r) Q:=by
 have hM:=hS f S hlk;unfold Gj at hA;split at hA
 ·cases hA
 rename_i ags hags;simp only at hA;split at hA
 case h_2=>cases hA
 rename_i hokB hnd hpm;have hbor:jt ags=[]∨(At S.rm=true∧io0 S.pm=true∧NM (jt ags) (gd ags)=true):=by
  split at hokB
  ·rename_i e;exact .inl e
  ·split at hokB
   ·rename_i h1 h2;exact .inr ⟨h1,h2,hokB⟩
   ·cases hokB
 have hbor':jt ags=[]∨(At S.rm=true∧io0 S.pm=true):=hbor.imp id fun h=>⟨h.1,h.2.1⟩
 have call:∀(ds rs us:List D),dz ags (aB δ (gU ags))=some ds→S.f ds=some (.ret rs us)→(∀v w' F' R vs,v=lA vs→CallPost S (q.args.toList.map a.eval).toArray rs us w (fun b=>F b∨∃r∈jt ags,O b=some (r,0)) (fun b=>match O b with
   | some (r,0)=>CH ags r 0
   | _=>none) F' R vs w'→Next c B X w0 F0 k r (a.put o.dst v) w')→o.wp P a w (Next c B X w0 F0 k r) Q:=by
  intro ds rs us h1 h2 h3;have hargs:=UW (F':=fun b=>F b∨∃r∈jt ags,O b=some (r,0)) (ow:=fun b=>match O b with
   | some (r,0)=>CH ags r 0
   | _=>none) hI (fun _ h=>.inl h) q.args.toList S.pm ags 0 ds hags hpm h1 (fun r hr b hb=>.inr ⟨r,hr,hb⟩) (fun j r hj b hb=>by simp only [hb];rw [MS hnd hj])
  have he:=hM ds rs us h2 (q.args.toList.map a.eval).toArray w _ _ (iu (fun _ h=>Or.inl h) (fun _ _=>rfl) hI.gl) (by simpa using hargs) (fun b hb=>?_) (fun b i hb=>?_) o a (Next c B X w0 F0 k r) Q (fun v w' hp=>?_)
  ·unfold Oper.wp
   rw [Yg ho hf];have:q.args.map a.eval=(q.args.toList.map a.eval).toArray:=by rw [←ajT,ajn]
   rw [this];exact he
  ·rcases hb with hb | ⟨r',hr,hb⟩
   ·obtain⟨g1,g2⟩:=hI.fl b hb
    exact⟨g1,by simp only [g2]⟩
   ·refine⟨(hI.ol b _ hb).1,?_⟩
    simp only [hb];cases h:CH ags r' 0 with
    | none=>rfl
    | some j =>
     rcases hbor with h0 | ⟨_,_,h0⟩
     ·rw [h0] at hr;cases hr
     ·exact absurd (Aw h) (To h0 r' hr)
  ·split at hb
   ·rename_i r' hr;exact(hI.ol b _ hr).1
   ·cases hb
  ·obtain⟨F',R,vs,h4,h5⟩:=hp
   exact h3 v w' F' R vs h4 h5
 have asm:∀(K:List D→List D→Option Out),kS [] ags (aB δ (gU ags)) (fun ds=>ac (S.f ds) K)=some r→∃ds rs us,dz ags (aB δ (gU ags))=some ds∧S.f ds=some (.ret rs us)∧K rs us=some r:=by
  intro K h;rw [mw] at h;obtain⟨ds,h1,h2⟩:=aiT.1 h;simp only [ajz] at h2;unfold ac at h2;split at h2
  ·rename_i rs us h3
   exact⟨ds,rs,us,h1,h3,h2⟩
  ·cases h2
 have uslen:∀{ds rs us:List D} {F':Nat→Prop} {R:Nat→Option Nat} {vs:List Value} {w':World} {F1:Nat→Prop} {ow:Nat→Option Nat},dz ags (aB δ (gU ags))=some ds→CallPost S (q.args.toList.map a.eval).toArray rs us w F1 ow F' R vs w'→Gj.outs us (gd ags)=us:=by
  intro ds rs us F' R vs w' F1 ow h1 h2;have h3:=(JI (c:=c) (a:=a) (δ:=δ) ags S.pm q.args.toList us (KC hI _ _ _ _ hags hpm h1) (by simpa using h2.us)).1;unfold Gj.outs;rw [ZR us _ 0 (by omega),ai2,←h3,List.take_length]
 have hlv0:∀i lv,(aD S.rm i = .dat lv∨∃z io,aD S.rm i = .own z lv io)→jt ags=[]∨lv≤1:=fun i lv hk=>hbor'.imp id fun h=>Wz h.1 i lv hk
 split at hA
 ·rename_i hd
  split at hA
  case h_2=>cases hA
  rename_i hrm;cases hA;obtain⟨ds,rs,us,h1,h2,h3⟩:=asm _ hg;refine call ds rs us h1 h2 (fun v w' F' R vs hv hp=>?_)
  obtain⟨F2,O2,hI'⟩:=wB (v:=v) (dst:=none) (x:=[]) hI hags hpm h1 hnd hbor' hp (.inl ⟨rfl,rfl⟩) (fun _=>none) (fun _ _ h=>by cases h) (fun _ _=>rfl) (fun _ _ _ _ _ _ h=>by cases h);rw [uslen h1 hp] at h3;exact⟨F2,O2,_,by rw [hd];exact hI',h3⟩
 ·rename_i d hd
  split at hA
  ·rename_i h1' h2' hrm
   cases hA;obtain⟨ds,rs,us,h1,h2,h3⟩:=asm _ hg;refine call ds rs us h1 h2 (fun v w' F' R vs hv hp=>?_)
   obtain⟨F2,O2,hI'⟩:=wB (v:=v) (dst:=some d) (x:=[.bad]) hI hags hpm h1 hnd hbor' hp (.inr ⟨d,.bad,rfl,rfl,h2'⟩) (fun _=>none) (fun _ _ h=>by cases h) (fun _ _=>rfl) (fun _ _ _ _ d y _ h _=>by
    simp only [ai7,and_true] at h;exact .inl h.symm)
   rw [uslen h1 hp] at h3;exact⟨F2,O2,_,by rw [hd];exact hI',h3⟩
  ·rename_i kd h1' h2' hrm
   cases hA;obtain⟨ds,rs,us,h1,h2,h3⟩:=asm _ hg;refine call ds rs us h1 h2 (fun v w' F' R vs hv hp=>?_)
   have hvl:=hp.len;rw [hrm] at hvl;obtain⟨y,rfl⟩:=ajw.1 hvl;simp only [lA] at hv;subst hv;have hres:=hp.res 0;rw [hrm] at hres;simp only [aD,ajg] at hres;rw [hrm] at h1';have hlv:=hlv0 0;rw [hrm] at hlv;simp only [aD] at hlv;have fin:∀(g:Nat→Option (Nat × Nat)),(∀j p,g j=some p→p.1=d)→(∀(F2:Nat→Prop) (O2:Nat→Option (Nat × Nat)),(∀lv b,(jt ags=[]∨lv≤1)→FB F' w.heap.size lv b→FB F2 B lv b)→(∀b j,R b=some j→O2 b=g j∧B≤b∧(g j=none→F2 b))→d<δ.length→Ep c.K B F2 O2 (a.put (some d) v) w' d (nth rs 0)) →
     Next c B X w0 F0 k r (a.put o.dst v) w':=by
    intro g hg' hU;obtain⟨F2,O2,hI'⟩:=wB (v:=v) (dst:=some d) (x:=[nth rs 0]) hI hags hpm h1 hnd hbor' hp (.inr ⟨d,nth rs 0,rfl,rfl,h2'⟩) g (fun j p h d' e=>by cases e;exact hg' j p h) (fun h=>by cases h) (fun F2 O2 h4 h5 d' y' e1 e2 h6=>by
     cases e1;simp only [ai7,and_true] at e2;subst e2;exact hU F2 O2 h4 h5 h6)
    rw [uslen h1 hp] at h3;exact⟨F2,O2,_,by rw [hd];exact hI',h3⟩
   have hsz:d<δ.length→av (a.put (some d) v) d=v:=fun h=>ip (by rw [hI.la,←hI.ld];exact h)
   by_cases hb:nth rs 0 = .bad
   ·exact fin (fun _=>none) (fun _ _ h=>by cases h) (fun _ _ _ _ _=>.inl hb)
   have hres:=hres.resolve_left hb;cases kd with
   | dat lv =>
    simp only [XR] at h1';split at h1'
    case h_2=>cases h1'
    rename_i l hkd;rw [cT] at h1';refine fin (fun _=>none) (fun _ _ h=>by cases h) (fun F2 O2 h4 h5 h6=>.inr ?_)
    rw [hkd,hsz h6];exact .inr (co (fun b hb=>qv h1' _ (h4 lv b (hlv lv (.inl rfl)) hb)) (fun _ _=>rfl) hres)
   | own z lv io =>
    cases io
    case true =>
     simp only [XR] at h1';split at h1'
     ·simp [jE] at h1'
     ·cases h1'
    simp only [XR] at h1';have hlv':=hlv lv (.inr ⟨z,false,rfl⟩);rcases xg h1' with ⟨l,hkd,hle⟩ | ⟨l,hkd,h1l,hle⟩
    ·refine fin (fun _=>some (d,0)) (fun _ _ h=>by cases h;rfl) (fun F2 O2 h4 h5 h6=>.inr ?_)
     rw [hkd,hsz h6];exact .inr (eH (fun b hb=>qv hle _ (h4 lv b hlv' hb)) (fun _ _=>rfl) (fun b _ hb=>⟨⟨(h5 b 0 hb.1).1,fun _=>(h5 b 0 hb.1).2.1⟩,rfl⟩) hres)
    ·refine fin (fun _=>none) (fun _ _ h=>by cases h) (fun F2 O2 h4 h5 h6=>.inr ?_)
     rw [hkd,hsz h6];refine .inr (co (fun b hb=>?_) (fun _ _=>rfl) (nT hres))
     rcases hb with hb | ⟨hb1,hb2⟩
     ·exact qv hle _ (h4 lv b hlv' hb)
     ·obtain⟨_,g2,g3⟩:=h5 b 0 hb1
      match l,h1l with
      | 1,_=>exact⟨g3 rfl,g2⟩
      | _+2,_=>exact g3 rfl
   | _=>exact hres.elim
  ·rename_i h1' h2' hn0 hn1
   cases hA;obtain⟨ds,rs,us,h1,h2,h3⟩:=asm _ hg;refine call ds rs us h1 h2 (fun v w' F' R vs hv hp=>?_)
   have hvl:=hp.len;have hfit:∃ns,aD c.K d = .tup ns∧jE S.rm ns=true:=by
    unfold XR at h1';split at h1'
    ·rename_i e;exact absurd e (hn1 _)
    ·rename_i e;exact absurd e (hn1 _)
    ·rename_i e;exact absurd e hn0
    ·split at h1'
     ·exact⟨_,‹_›,h1'⟩
     ·cases h1'
   obtain⟨ns,hkd,hsame⟩:=hfit;have hv2:v = .tuple vs.toArray:=by
    rw [hv];unfold lA;split
    ·rename_i y
     exfalso;have:S.rm.length=1:=by rw [←hvl];rfl
     obtain⟨kk,e⟩:=ajw.1 this;exact hn1 _ e
    ·rfl
   obtain⟨F2,O2,hI'⟩:=wB (v:=v) (dst:=some d) (x:=[.tup rs]) hI hags hpm h1 hnd hbor' hp (.inr ⟨d,.tup rs,rfl,rfl,h2'⟩) (fun j=>some (d,j+1)) (fun j p h d' e=>by cases e;cases h;rfl) (fun h=>by cases h) (fun F2 O2 h4 h5 d' y' e1 e2 h6=>by
    cases e1;simp only [ai7,and_true] at e2;subst e2;refine .inr ?_
    rw [hkd,ip (by rw [hI.la,←hI.ld];exact h6),hv2];refine⟨rs,vs.toArray,rfl,rfl,fun i=>?_⟩
    obtain⟨e1,e2⟩:=Jo hsame i;rw [e1];have hgd:vs.toArray.getD i undef=vs.getD i undef:=by simp
    rw [hgd];rcases hp.res i with hb | hres
    ·exact .inl hb
    rcases e2 with e2 | ⟨lv,e2⟩ | ⟨z,lv,e2⟩
    ·rw [e2] at hres;exact hres.elim
    ·rw [e2] at hres ⊢
     exact .inr (co (fun b hb=>h4 lv b (hlv0 i lv (.inl e2)) hb) (fun _ _=>rfl) hres)
    ·rw [e2] at hres ⊢
     exact .inr (eH (fun b hb=>h4 lv b (hlv0 i lv (.inr ⟨z,false,e2⟩)) hb) (fun _ _=>rfl) (fun b _ hb=>⟨⟨(h5 b i hb.1).1,fun _=>(h5 b i hb.1).2.1⟩,rfl⟩) hres))
   rw [uslen h1 hp] at h3;exact⟨F2,O2,_,by rw [hd];exact hI',h3⟩
  ·cases hA
end
end Go.V

namespace Go.V
open Go.RowKit
section
variable {P:Program} {c:Cx}
theorem Il {o:Oper} {q:Call} (ho:o.op = .call q) {bi:Builtin} (hq:q.callee = .builtin bi) (f:D→D→Option D) (g:Value→Value→Sem Value) (hbi:(bi = .min∧f=Wr∧g=ajM)∨(bi = .max∧f=Vr∧g=ajN))
  {A:Ac} (hA:cP c o.dst q.args.toList 0 (NG f)=some A) {B:Nat} {X:Nat→Prop} {w0:World} {F0 F:Nat→Prop} {O:Nat→Option (Nat × Nat)} {a:Act} {w:World} {δ:List D} (hI:Inv c B X w0 F0 F O a w δ) {k:List D→Option Out} {r:Out} (hg:fX c A δ k=some r) (Q:Exit→Act→World→Prop):o.wp P a w (Next c B X w0 F0 k r) Q:=by
 rcases hbi with ⟨rfl,rfl,rfl⟩ | ⟨rfl,rfl,rfl⟩
 ·refine Lb ho hq rfl (f:=Wr) (g:=ajM) (fun w G a b z x y ha hb h=>afb ha hb h) (fun x rest v he hr=>?_) hA hI hg Q
  simp [builtin,Builtin.min_,he,hr]
 ·refine Lb ho hq rfl (f:=Vr) (g:=ajN) (fun w G a b z x y ha hb h=>afc ha hb h) (fun x rest v he hr=>?_) hA hI hg Q
  simp [builtin,Builtin.max_,he,hr]
theorem aa2 (hT:okT P c.T=true) (hS:∀f S,en c.S f=some S→au c.G P f S) (o:Oper):nO P c o:=by
 intro A hA B X w0 F0 F O a w δ hI k r hg Q;have hA0:=hA;unfold dO at hA;split at hA
 case h_1 x ho=>exact VP (.inl ho) hA hI hg Q
 case h_2 x ho=>exact VP (.inr ho) hA hI hg Q
 case h_3 q x y ho=>exact Zj ho A hA0 B X w0 F0 F O a w δ hI k r hg Q
 case h_4 t ho=>exact Wg hT ho A hA0 B X w0 F0 F O a w δ hI k r hg Q
 case h_5 t x ho=>exact aaZ ho A hA0 B X w0 F0 F O a w δ hI k r hg Q
 case h_6 t ps ho=>exact WY hT ho A hA0 B X w0 F0 F O a w δ hI k r hg Q
 case h_7 t n ps ho=>exact JT hT ho A hA0 B X w0 F0 F O a w δ hI k r hg Q
 case h_8 t p ho=>exact Za hT ho A hA0 B X w0 F0 F O a w δ hI k r hg Q
 case h_9 t p x ho=>exact Xp hT ho A hA0 B X w0 F0 F O a w δ hI k r hg Q
 case h_10 x ho=>exact OL ho A hA0 B X w0 F0 F O a w δ hI k r hg Q
 case h_11 op t x y _ ho=>exact Wl hT ho A hA0 B X w0 F0 F O a w δ hI k r hg Q
 case h_12 op t x ho=>exact YA ho A hA0 B X w0 F0 F O a w δ hI k r hg Q
 case h_13 s t x ho=>exact QD hT ho A hA0 B X w0 F0 F O a w δ hI k r hg Q
 case h_14 f u v ho=>exact Nf ho A hA0 B X w0 F0 F O a w δ hI k r hg Q
 case h_15 t n m ho=>exact Mt hT ho A hA0 B X w0 F0 F O a w δ hI k r hg Q
 case h_16 t x lo hi ho =>
  have hA1:=aQ hA;clear hA;obtain⟨i,hi',hA⟩:=hA1;have main:∀(hsl:i.str=false→rN i=true),VQ c o.dst i x lo hi=some A→o.wp P a w (Next c B X w0 F0 k r) Q:=by
   intro hsl hA;have hA2:=hA;unfold VQ at hA2;split at hA2
   case h_2=>cases hA2
   rename_i q;split at hA2
   ·rename_i lv hk;exact LN hT ho hi' hsl hk hA hI hg Q
   ·exact yz hT ho hi' hsl hA2 hI hg Q
   ·exact yz hT ho hi' hsl hA2 hI hg Q
   ·cases hA2
  split at hA
  ·rename_i h1 h2;exact main (fun _=>h1) hA
  ·rename_i h1 h2;exact main (fun h=>by rw [h] at h2;cases h2) hA
  ·cases hA
 case h_17 t x f ho=>exact LV hT ho A hA0 B X w0 F0 F O a w δ hI k r hg Q
 case h_18 t x f ho=>exact VE hT ho A hA0 B X w0 F0 F O a w δ hI k r hg Q
 case h_19 t x i ho=>exact Mu hT ho A hA0 B X w0 F0 F O a w δ hI k r hg Q
 case h_20 t x i ho=>exact XD hT ho A hA0 B X w0 F0 F O a w δ hI k r hg Q
 case h_21 x i ho=>exact QA ho A hA0 B X w0 F0 F O a w δ hI k r hg Q
 case h_22 q ho =>
  unfold aaY at hA;split at hA
  ·rename_i x t hq h1 h2
   have hA1:=aQ hA;clear hA;obtain⟨i,hi,hA⟩:=hA1;have eq:q={callee:=.builtin .len,args:=#[x],argTypes:=#[t]}:=by
    obtain⟨cl,ar,ty⟩:=q;simp only at hq h1 h2;subst hq;congr
    ·rw [←ajn (xs:=ar),h1]
    ·rw [←ajn (xs:=ty),h2]
   rw [eq] at ho;split at hA
   ·rename_i g1 g2
    exact Oi hT ho hi (fun _=>g1) (fun h=>by cases h) hA hI hg Q
   ·rename_i g1 g2
    exact Oi hT ho hi (fun h=>by cases h) (fun _=>g2) hA hI hg Q
   ·cases hA
  ·rename_i s x t u hq h1 h2
   split at hA
   case h_2=>cases hA
   rename_i htu;rw [bd] at htu;subst htu;have hA1:=aQ hA;clear hA;obtain⟨i,hi,hA⟩:=hA1;have hA1:=aQ hA;clear hA;obtain⟨e,he,hA⟩:=hA1;split at hA
   case h_2=>cases hA
   rename_i hsl;exact Ty hT ho hq h1 h2 hi he hsl hA hI hg Q
  ·rename_i hq;exact Il ho hq Wr ajM (.inl ⟨rfl,rfl,rfl⟩) hA hI hg Q
  ·rename_i hq;exact Il ho hq Vr ajN (.inr ⟨rfl,rfl,rfl⟩) hA hI hg Q
  ·rename_i f hq
   split at hA
   case h_2=>cases hA
   rename_i S hlk;exact Zo hS ho hq hlk hA hI hg Q
  ·rename_i t hq
   split at hA
   case h_2=>cases hA
   rename_i f hC;split at hA
   case h_2=>cases hA
   rename_i S hlk;exact abA hS ho hq hlk hA hI hg Q
  ·cases hA
 case h_23=>cases hA
def Nt (n:Nat) (f:(List D→Option Out)→Option Out):Prop:=∃o:Option (List D),(∀k,f k=o.bind k)∧∀l,o=some l→l.length=n
def pZ:Ac→Prop
 | .one _ _ _=>True
 | .many _ hw cw fn=>∀is,Nt (hw++cw).length (fn is)
theorem ly {n:Nat} {l:List D} (h:l.length=n):Nt n (fun k=>k l):=⟨some l,fun _=>rfl,fun l' e=>by cases e;exact h⟩
theorem ui {n:Nat}:Nt n (fun _=>none):=⟨none,fun _=>rfl,fun _ e=>by cases e⟩
theorem jc {n:Nat} {X:Option D} {f:D→(List D→Option Out)→Option Out} (h:∀y,Nt n (f y)):Nt n (fun k=>X.bind fun y=>f y k):=by
 cases X with
 | none=>exact ui
 | some y=>exact h y
theorem acW {n:Nat} {X:Option (List D)} {f:List D→(List D→Option Out)→Option Out} (h:∀y,Nt n (f y)):Nt n (fun k=>X.bind fun y=>f y k):=by
 cases X with
 | none=>exact ui
 | some y=>exact h y
theorem AX {n:Nat} {is:List D} {i:Nat} {f:D→(List D→Option Out)→Option Out} (h:∀y,Nt n (f y)):Nt n (fun k=>iY is i fun y=>f y k):=by
 simp only [fH];exact h _
theorem adC {n q r:Nat} {is:List D} {f:D→D→List D→(List D→Option Out)→Option Out} (h:∀b p is,Nt n (f b p is)):Nt n (fun k=>goP q r is fun b p is=>f b p is k):=by
 unfold goP;cases ai5 q r
 ·rcases is with _ | ⟨p,_ | ⟨b,is⟩⟩
  ·exact ui
  ·exact ui
  ·exact h _ _ _
 ·cases is with
  | nil=>exact ui
  | cons b is=>exact h _ _ _
theorem adz {n m:Nat} {chk:Bool} {b p y:D} {f:D→(List D→Option Out)→Option Out} (h:∀y,Nt n (f y)):Nt n (fun k=>stK chk m b p y fun b=>f b k):=by
 unfold stK;cases chk
 ·exact jc h
 ·exact jc fun _=>jc h
theorem TQ {n:Nat} {rd:List Nat} {is:List D} {f:D→(List D→Option Out)→Option Out} (h:∀y,Nt n (f y)):Nt n (fun k=>nS rd is fun y=>f y k):=by
 unfold nS;rcases rd with _ | ⟨a,_ | ⟨b,rd⟩⟩
 ·exact h _
 ·exact AX h
 ·exact AX fun p=>AX fun x=>jc h
theorem adJ {n:Nat} {ags:List Ag} {is:List D} {f:List D→(List D→Option Out)→Option Out} (h:∀y,Nt n (f y)):Nt n (fun k=>kS [] ags is fun y=>f y k):=by
 simp only [mw,ajz];cases dz ags is with
 | none=>exact ui
 | some y=>exact h y
theorem aag {n:Nat} {r:Option Out} {f:List D→List D→(List D→Option Out)→Option Out} (h:∀y z,Nt n (f y z)):Nt n (fun k=>ac r fun y z=>f y z k):=by
 unfold ac;split
 ·exact h _ _
 ·exact ui
theorem cD {dst:Option Nat} {xs:List Operand} {lv:Nat} {h:List D→Option D} {A:Ac} (hA:cP c dst xs lv h=some A):pZ A:=by
 unfold cP at hA
 repeat' (split at hA)
 all_goals first | (cases hA;done) | (cases hA;trivial)
theorem abP {rd:List Nat} {d lv l:Nat} {h:List D→Option D} {A:Ac} (hA:afD (fun h=>Ac.one rd d h) (SZ lv l h)=some A):pZ A:=by
 unfold SZ at hA
 repeat' (split at hA)
 all_goals first | (cases hA;done) | (cases hA;trivial)
theorem Xf {dst:Option Nat} {x:Operand} {t:Nat} {A:Ac} (hA:Ws c dst x t=some A):pZ A:=by
 unfold Ws at hA
 repeat' (split at hA)
 all_goals first
  | (cases hA;done)
  | exact cD hA
  | (cases hA;trivial)
  | (cases hA;exact fun is=>AX fun x=>ly rfl)
  | (cases hA;exact fun is=>AX fun p=>AX fun x=>jc fun y=>ly rfl)
  | (cases hA;exact fun is=>ly rfl)
  | (obtain⟨i,_,hA⟩:=aQ hA;exact cD hA)
theorem adD {dst:Option Nat} {i:TI} {p:Operand} {A:Ac} (hA:afC c dst i p=some A):pZ A:=by
 unfold afC at hA
 repeat' (split at hA)
 all_goals first | (cases hA;done) | exact cD hA | exact abP hA
theorem adi {i:TI} {p x:Operand} {A:Ac} (hA:adh c i p x=some A):pZ A:=by
 have main:∀q r lv,Wo c i q r lv x=some A→pZ A:=by
  intro q r lv hA;unfold Wo at hA
  repeat' (split at hA)
  all_goals first
   | (cases hA;done)
   | (cases hA;exact fun is=>adC fun b p is=>AX fun y=>adz fun b=>ly rfl)
   | (cases hA;exact fun is=>adC fun b p is=>adz fun b=>ly rfl)
 unfold adh at hA
 repeat' (split at hA)
 all_goals first | (cases hA;done) | exact main _ _ _ hA
theorem acg {dst:Option Nat} {i:TI} {f:Nat} {p:Operand} {A:Ac} (hA:aeV c dst i f p=some A):pZ A:=by
 unfold aeV at hA
 repeat' (split at hA)
 all_goals first | (cases hA;done) | exact cD hA | (cases hA;trivial)
theorem abV {dst:Option Nat} {i:TI} {x y:Operand} {A:Ac} (hA:afu c dst i x y=some A):pZ A:=by
 unfold afu at hA
 repeat' (split at hA)
 all_goals first | (cases hA;done) | exact cD hA | (cases hA;trivial)
theorem acn {dst:Option Nat} {i:TI} {n:Nat} {ps:List (Nat × Operand)} {A:Ac} (hA:aeI c dst i n ps=some A):pZ A:=by
 unfold aeI at hA;simp only at hA
 repeat' (split at hA)
 all_goals first | (cases hA;done) | (cases hA;exact fun is=>jc fun y=>ly rfl)
theorem adx {n:Nat} {chk:Bool} {b:D} {f:D→(List D→Option Out)→Option Out} (h:∀y,Nt n (f y)):Nt n (fun k=>Zg chk b fun b=>f b k):=by
 cases chk
 ·exact h b
 ·exact jc h
theorem ael {dst:Option Nat} {i:TI} {x y:Operand} {A:Ac} (hA:adY c dst i x y=some A):pZ A:=by
 have main:∀d chk rs rx os,aaR c d i chk rs rx os=some A→pZ A:=by
  intro d chk rs rx os hA;unfold aaR at hA
  repeat' (split at hA)
  all_goals first
   | (cases hA;done)
   | (cases hA;exact fun is=>TQ fun a=>TQ fun b=>adx fun b=>jc fun y=>ly rfl)
   | (cases hA;exact fun is=>TQ fun b=>adx fun b=>jc fun y=>ly rfl)
 unfold adY at hA
 repeat' (split at hA)
 all_goals first
  | (cases hA;done)
  | exact main _ _ _ _ _ hA
theorem acP {dst:Option Nat} {str:Bool} {x:Operand} {A:Ac} (hA:abq c dst str x=some A):pZ A:=by
 unfold abq at hA
 repeat' (split at hA)
 all_goals first | (cases hA;done) | exact cD hA | (cases hA;trivial)
theorem adg {dst:Option Nat} {i:TI} {x:Operand} {lo hi:Option Operand} {A:Ac} (hA:VQ c dst i x lo hi=some A):pZ A:=by
 have own:Sg c dst i x lo hi=some A→pZ A:=by
  intro hA;unfold Sg at hA
  repeat' (split at hA)
  all_goals first | (cases hA;done) | (cases hA;exact fun is=>TQ fun a=>jc fun y=>ly rfl)
 unfold VQ at hA
 repeat' (split at hA)
 all_goals first | (cases hA;done) | exact cD hA | exact own hA
theorem abX {dst:Option Nat} {i e:TI} {x y:Operand} {A:Ac} (hA:aeU c dst i e x y=some A):pZ A:=by
 unfold aeU at hA
 repeat' (split at hA)
 all_goals first | (cases hA;done) | (cases hA;exact fun is=>jc fun y=>ly rfl)
theorem acX {dst:Option Nat} {i:TI} {x:Operand} {A:Ac} (hA:afH c dst i x=some A):pZ A:=by
 unfold afH at hA
 repeat' (split at hA)
 all_goals first | (cases hA;done) | (cases hA;exact fun is=>jc fun y=>ly rfl) | (cases hA;exact fun is=>jc fun y=>jc fun y=>ly rfl)
theorem abo {dst:Option Nat} {t f:Nat} {S:FS} {xs:List Operand} {A:Ac} (hA:Xv c dst t f S xs=some A):pZ A:=by
  unfold Xv at hA
  repeat' (split at hA)
  all_goals first
    | (cases hA;done)
    | (cases hA;exact fun is=>by
        cases is with
        | nil=>exact ui
        | cons cl is=>exact acW fun caps=>adJ fun ds=>aag fun rs us=>ly rfl)
theorem ab5 {dst:Option Nat} {i:TI} {A:Ac} (hA:aeZ c dst i=some A):pZ A:=by
 unfold aeZ at hA
 repeat' (split at hA)
 all_goals first | (cases hA;done) | (cases hA;exact fun is=>ly rfl)
theorem aec {dst:Option Nat} {x:Operand} {i:Nat} {A:Ac} (hA:afx c dst x i=some A):pZ A:=by
 unfold afx at hA
 repeat' (split at hA)
 all_goals first | (cases hA;done) | (cases hA;trivial) | (cases hA;exact fun is=>AX fun t=>jc fun y=>ly rfl)
theorem WZ (us:List D):∀(ios:List Nat) (j:Nat),(Gj.go us j ios).length=ios.length
 | [],_=>rfl
 | _::l,j=>by simp [Gj.go,WZ us l]
theorem acs {dst:Option Nat} {S:FS} {xs:List Operand} {A:Ac} (hA:Gj c dst S xs=some A):pZ A:=by
 unfold Gj at hA;split at hA
 ·cases hA
 simp only at hA;split at hA
 case h_2=>cases hA
 repeat' (split at hA)
 all_goals first
  | (cases hA;done)
  | (cases hA;exact fun is=>adJ fun ds=>aag fun rs us=>ly (by simp [Gj.outs,WZ]))
theorem adW {dst:Option Nat} {i j:TI} {x:Operand} {A:Ac} (hA:aeG c dst i j x=some A):pZ A:=by
 unfold aeG at hA
 repeat' (split at hA)
 all_goals first | (cases hA;done) | exact cD hA | (cases hA;trivial)
theorem adR {dst:Option Nat} {i:TI} {x y:Operand} {A:Ac} (hA:afr c dst i x y=some A):pZ A:=by
 unfold afr at hA
 repeat' (split at hA)
 all_goals first | (cases hA;done) | exact cD hA | (obtain⟨i,_,hA⟩:=aQ hA;exact cD hA)
theorem adL {dst:Option Nat} {i:TI} {ps:List (Nat × Operand)} {A:Ac} (hA:aeN c dst i ps=some A):pZ A:=by
 unfold aeN at hA;simp only at hA
 repeat' (split at hA)
 all_goals first | (cases hA;done) | exact cD hA
theorem adH {dst:Option Nat} {x:Operand} {A:Ac} (hA:afl c dst x=some A):pZ A:=by
 unfold afl at hA
 repeat' (split at hA)
 all_goals first | (cases hA;done) | exact cD hA | (cases hA;trivial)
theorem ac8 {dst:Option Nat} {q:Call} {A:Ac} (hA:aaY c dst q=some A):pZ A:=by
 unfold aaY at hA;split at hA
 ·obtain⟨i,_,hA⟩:=aQ hA
  split at hA<;>first | exact acP hA | cases hA
 ·split at hA
  ·obtain⟨i,_,hA⟩:=aQ hA
   obtain⟨e,_,hA⟩:=aQ hA;split at hA<;>first | exact ael hA | cases hA
  ·cases hA
 ·exact cD hA
 ·exact cD hA
 ·split at hA<;>first | exact acs hA | cases hA
 ·repeat' (split at hA)
  all_goals first | exact abo hA | cases hA
 ·cases hA
theorem So {o:Oper} {A:Ac} (hA:dO c o=some A):pZ A:=by
 unfold dO at hA;split at hA
 case h_1=>exact Xf hA
 case h_2=>exact Xf hA
 case h_3=>exact cD hA
 case h_4=>obtain⟨i,_,hA⟩:=aQ hA;exact ab5 hA
 case h_5=>obtain⟨i,_,hA⟩:=aQ hA;exact acX hA
 case h_6=>obtain⟨i,_,hA⟩:=aQ hA;exact adL hA
 case h_7 =>
  obtain⟨i,_,hA⟩:=aQ hA;obtain⟨e,_,hA⟩:=aQ hA;split at hA<;>first | exact acn hA | cases hA
 case h_8=>obtain⟨i,_,hA⟩:=aQ hA;exact adD hA
 case h_9 =>
  split at hA
  ·obtain⟨i,_,hA⟩:=aQ hA;exact adi hA
  ·cases hA
 case h_10=>exact adH hA
 case h_11 =>
  obtain⟨i,_,hA⟩:=aQ hA;split at hA
  ·exact cD hA
  ·split at hA<;>exact cD hA
 case h_12=>exact cD hA
 case h_13 =>
  obtain⟨i,_,hA⟩:=aQ hA;obtain⟨e,_,hA⟩:=aQ hA;exact adW hA
 case h_14=>split at hA<;>first | exact cD hA | cases hA
 case h_15 =>
  obtain⟨i,_,hA⟩:=aQ hA;obtain⟨e,_,hA⟩:=aQ hA;split at hA<;>first | exact abX hA | cases hA
 case h_16 =>
  obtain⟨i,_,hA⟩:=aQ hA;split at hA<;>first | exact adg hA | cases hA
 case h_17=>obtain⟨i,_,hA⟩:=aQ hA;exact acg hA
 case h_18 =>
  obtain⟨i,_,hA⟩:=aQ hA;split at hA<;>first | exact cD hA | cases hA
 case h_19=>obtain⟨i,_,hA⟩:=aQ hA;exact abV hA
 case h_20=>obtain⟨i,_,hA⟩:=aQ hA;exact adR hA
 case h_21=>exact aec hA
 case h_22=>exact ac8 hA
 case h_23=>cases hA
end
end Go.V

namespace Go.V
open Go.RowKit
def Zi:Kd→Bool
 | .via _=>false
 | .ref _=>false
 | _=>true
def aaX (c:Cx) (ops:List Oper) (o:Oper):Bool :=
 (match o.dst with
  | some d=>!vd (aD c.K d)
  | none=>true) &&
 (match o.guard with
  | none=>true
  | some (j,_)=>(match NS ops j with
    | some g=>(match aD c.K g with
     | .dat _=>true
     | _=>false)
    | none=>false) &&
   (match dO c o with
    | some (.one _ d _)=>(match o.dst with
     | some d'=>ai5 d' d
     | none=>false)
    | some (.many _ hw cw _)=>(hw++cw).all (fun s=>Zi (aD c.K s))&&(match o.dst with
     | some d=>oL d hw
     | none=>true)
    | none=>true))
def IoV (c:Cx) (V:Nat→Value) (a:Act):Prop:=∀s,vd (aD c.K s)=true→av a s=V s
theorem aeh {P:Program} {o:Oper} {a:Act} {next:Act→World→Prop} {Q:Exit→Act→World→Prop}:∀{res:Result Go.Next},o.upon P a next Q res→o.upon P a (fun a' w'=>next a' w'∧∀s,o.dst≠some s→av a' s=av a s) Q res:=by
 have key:∀(df:List Deferred) (v:Value) (s:Nat),o.dst≠some s→av (({a with defers:=df}:Act).put o.dst v) s=av a s:=by
  intro df v s hs;cases hd:o.dst with
  | none=>rfl
  | some d =>
   have:s≠d:=fun e=>hs (by rw [hd,e])
   exact(eK this).trans rfl
 have key0:∀(v:Value) (s:Nat),o.dst≠some s→av (a.put o.dst v) s=av a s:=fun v s hs=>key a.defers v s hs
 intro res h;cases res with
 | ok n w' =>
  cases n<;>simp only [Oper.upon] at h ⊢ <;>
   first
    | exact⟨h,key0 _⟩
    | exact⟨h,key _ _⟩
    | exact ajU h (fun e w'' he=>by cases e<;>first | exact⟨he,key0 _⟩ | exact he)
    | exact Rows.mono h (fun _ _ he=>⟨he,key0 _⟩)
 | halt x w'=>cases x<;>simp only [Oper.upon] at h ⊢<;>exact h
section
variable {P:Program} {c:Cx} {B:Nat} {X:Nat→Prop} {w0:World} {F0 F:Nat→Prop} {O:Nat→Option (Nat × Nat)} {a:Act} {w:World} {δ:List D}
theorem xk:∀(ss:List Nat) (l:List D) (j:Nat),j+ss.length=l.length→fit l j ss=l.drop j
 | [],l,j,h=>by simp [fit,List.drop_eq_nil_of_le (show l.length≤j by simp at h;omega)]
 | s::ss,l,j,h=>by
  simp only [ajx] at h;have hj:j<l.length:=by omega
  simp only [fit];rw [xk ss l (j+1) (by omega),ajq hj,jk,aiX,ajc hj];rfl
def Kn (K:List Kd) (dst:Option Nat) (δ:List D) (s:Nat):D :=
 match dst with
 | some d=>if oL s (d::iw d K 0) then Hx (aD K s) else nth δ s
 | none=>nth δ s
theorem Gu (K:List Kd) (dst:Option Nat) (δ:List D):∀(ss:List Nat) (k:List D→Option Out),Wc K δ dst ss k=k (ss.map (Kn K dst δ))
 | [],k=>by simp [Wc]
 | s::ss,k=>by
  cases dst with
  | none=>simp only [Wc,Kn,fH,ajh];exact Gu K none δ ss _
  | some d =>
   simp only [Wc,ajh];cases h:oL s (d::iw d K 0)
   ·simp only [fH]
    rw [Gu K (some d) δ ss];simp only [Kn,h,ajt,if_false]
   ·simp only
    rw [Gu K (some d) δ ss];simp only [Kn,h,if_true]
theorem ut (f:Nat→D):∀(ss:List Nat) (δ:List D) (s:Nat),nth (az δ ss (ss.map f)) s=if s∈ss then(if s<δ.length then f s else .bad) else nth δ s
 | [],δ,s=>by simp [az]
 | t::ss,δ,s=>by
  simp only [ajh,az];rw [ut f ss (js δ t (f t)) s,jA];by_cases hs:s∈ss
  ·simp [hs]
  ·by_cases ht:s=t
   ·subst ht
    simp only [hs,if_false,ai1,true_or,if_true];exact cO _ _ _
   ·simp only [hs,if_false,ai1,ht,or_self]
    exact fD _ _ _ _ ht
theorem YZ {δ:List D} {s:Nat} (h:nth δ s ≠ .bad):s<δ.length:=by
 by_cases hl:s<δ.length
 ·exact hl
 ·exfalso
  rw [jk,aiX,ajk (by omega)] at h;exact h rfl
theorem aeQ {s:Nat} (hs:s<a.tmps.size):Ep c.K B F O (a.put (some s) undef) w s (Hx (aD c.K s)):=by
 have hav:av (a.put (some s) undef) s=undef:=by
  simp [av,Act.put,hs]
 unfold Hx;split
 ·rename_i lv hk
  refine .inr ?_
  simp only [hk];refine .inr ?_
  rw [hav];exact⟨rfl,rfl⟩
 ·exact .inl rfl
theorem Inv.pass_over (h:Inv c B X w0 F0 F O a w δ) {dst:Option Nat} {hw cw:List Nat} (hk:∀s∈hw++cw,Zi (aD c.K s)=true) (hd:∀d,dst=some d→d∈hw) :
  Inv c B X w0 F0 F O (a.put dst undef) w (az δ (hw++(cw++bu c.K hw)) ((hw++cw).map (Kn c.K dst δ))):=by
 have hav:∀s,dst≠some s→av (a.put dst undef) s=av a s:=by
  intro s hs;cases dst with
  | none=>rfl
  | some d=>exact eK fun e=>hs (by rw [e])
 have hnd:∀s,Zi (aD c.K s)=true→∀d,s∉iw d c.K 0:=fun s hs d hm=>by
  rcases Ci hm with e | e<;>rw [e] at hs<;>cases hs
 refine h.many (by simp) (by cases dst<;>simp [Act.put]) (by cases dst<;>rfl) (fun s hs=>hav s fun e=>hs (hd s e)) (fun r hr hn hb=>?_) (fun s hs=>?_) (fun _ hb=>hb) (fun _ _=>rfl) (fun _ _ hp _=>⟨hp,rfl⟩) h.fl h.ol (fun _ hb=>.inl hb) (ajp _) rfl rfl rfl (fun _ _ _=>rfl)
 ·rw [ut,if_pos (ajy _ hr),if_pos (YZ hb)]
  unfold Kn;split
  ·rename_i d
   rw [if_neg]
   ·exact hb
   ·rw [jZ]
    simp only [decide_eq_true_eq,ai1,not_or];exact⟨fun e=>hn (e ▸ hd d rfl),hnd r (hk r (ajy _ hr)) d⟩
  ·exact hb
 ·rw [ut,if_pos hs]
  split
  case isFalse=>exact .inl rfl
  rename_i hsl;have keep:dst≠some s→Ep c.K B F O (a.put dst undef) w s (nth δ s):=by
   intro hne;rcases h.slot s with hb | hb
   ·exact .inl hb
   ·refine .inr ?_
    have hks:=hk s hs;rw [hav s hne];generalize aD c.K s=kk at hks hb;cases kk<;>first | exact hb | cases hks
  unfold Kn;split
  ·rename_i d
   split
   ·rename_i hm
    rw [jZ] at hm;simp only [decide_eq_true_eq,ai1] at hm;rcases hm with rfl | hm
    ·exact aeQ (by rw [h.la,←h.ld];exact hsl)
    ·rcases Ci hm with e | e<;>(rw [e];exact .inl rfl)
   ·rename_i hm
    rw [jZ] at hm;simp only [decide_eq_true_eq,ai1,not_or] at hm;exact keep fun e=>hm.1 (by cases e;rfl)
  ·exact keep (by simp)
def rdS (c:Cx) (ops:List Oper) (o:Oper):List Nat :=
 match dO c o with
 | none=>[]
 | some A=>match o.guard with
  | none=>agw A
  | some (j,_)=>match NS ops j with
   | none=>[]
   | some g=>match A with
    | .one rd _ _=>g::rd
    | .many rd hw cw _=>g::(rd++(hw++cw))
def wrS (c:Cx) (o:Oper):List Nat :=
 match dO c o with
 | none=>[]
 | some (.one _ d _)=>d::iw d c.K 0
 | some (.many _ hw cw _)=>hw++(cw++bu c.K hw)
theorem rI {δ δ':List D}:∀{ss:List Nat},(∀s∈ss,nth δ s=nth δ' s)→aB δ ss=aB δ' ss
 | [],_=>rfl
 | s::ss,h=>by
  simp only [aB];rw [h s (by simp),rI fun t ht=>h t (by simp [ht])]
theorem SS {δ δ':List D}:∀{ss:List Nat},aB δ ss=aB δ' ss→∀s∈ss,nth δ s=nth δ' s
 | t::ss,h,s,hs=>by
  simp only [aB,ai7] at h;rcases ai1.1 hs with rfl | hs
  ·exact h.1
  ·exact SS h.2 s hs
theorem BX (c:Cx) (ops:List Oper) (o:Oper):∃φ:List D→Option (List D),(∀δ k,eV c ops o δ k=(φ δ).bind fun l=>k (az δ (wrS c o) l))∧∀δ δ',aB δ (rdS c ops o)=aB δ' (rdS c ops o)→φ δ=φ δ':=by
 unfold eV rdS wrS;cases hA:dO c o with
 | none=>exact⟨fun _=>none,fun _ _=>rfl,fun _ _ _=>rfl⟩
 | some A =>
  have hn:=So hA;cases hgd:o.guard with
  | none =>
   cases A with
   | one rd d h =>
    refine⟨fun δ=>(h (aB δ rd)).map fun z=>[z],fun δ k=>?_,fun δ δ' e=>by simp only [agw] at e;simp only [e]⟩
    simp only [cg];cases h (aB δ rd) with
    | none=>rfl
    | some z=>exact dh _ _ _ _
   | many rd hw cw fn =>
    refine⟨fun δ=>ajd (hn (aB δ rd)),fun δ k=>?_,fun δ δ' e=>by simp only [agw] at e;simp only [e]⟩
    simp only [cg,dh,sj];exact(ai9 (hn (aB δ rd))).1 _
  | some jp =>
   obtain⟨j,pol⟩:=jp;simp only;cases hg:NS ops j with
   | none=>exact⟨fun _=>none,fun _ _=>rfl,fun _ _ _=>rfl⟩
   | some g =>
    cases A with
    | one rd d h =>
     refine⟨fun δ=>(aj (Hx (aD c.K d)) (nth δ g) pol (h (aB δ rd))).map fun z=>[z],fun δ k=>?_,fun δ δ' e=>by simp only [aB,ai7] at e;simp only [e.1,e.2]⟩
     simp only [cg,fH];cases aj (Hx (aD c.K d)) (nth δ g) pol (h (aB δ rd)) with
     | none=>rfl
     | some z=>exact dh _ _ _ _
    | many rd hw cw fn =>
     refine⟨fun δ=>match nth δ g with
      | .v (.bool b)=>if b=pol then ajd (hn (aB δ rd)) else some ((hw++cw).map (Kn c.K o.dst δ))
      | .tup _=>some ((hw++cw).map (Kn c.K o.dst δ))
      | _=>none,fun δ k=>?_,fun δ δ' e=>?_⟩
     ·simp only [cg,dh,fH,sj,Gu]
      unfold cQ;split
      ·rename_i b hb
       rw [hb];simp only;split
       ·obtain⟨h1,h2⟩:=ai9 (hn (aB δ rd))
        rw [h1];cases hc:ajd (hn (aB δ rd)) with
        | none=>rfl
        | some l =>
         have hl:=h2 l hc;simp only [ai0];rw [xk _ l 0 (by omega),ai2,xk _ l 0 (by omega),ai2]
       ·simp only [ai0]
        rw [xk _ _ 0 (by simp),ai2]
      ·rename_i l hb
       rw [hb];simp only [ai0];rw [xk _ _ 0 (by simp),ai2]
      ·rename_i hb hb'
       split
       ·rename_i b hb2;exact absurd hb2 (hb b)
       ·rename_i l hb2;exact absurd hb2 (hb' l)
       ·rfl
     ·simp only [aB,ai7,lK] at e
      have e2:=List.append_inj e.2 (by rw [sM,sM]);have e3:∀s∈hw++cw,nth δ s=nth δ' s:=SS (by rw [lK,lK];exact e2.2);have e4:(hw++cw).map (Kn c.K o.dst δ)=(hw++cw).map (Kn c.K o.dst δ'):=by
       refine List.map_congr_left fun s hs=>?_
       unfold Kn;rw [e3 s hs]
      simp only [e.1,e2.1,e4]
def kr (c:Cx) (B:Nat) (X:Nat→Prop) (w0:World) (F0:Nat→Prop) (V:Nat→Value) (k:List D→Option Out) (r:Out) (a:Act) (w:World):Prop :=
 Next c B X w0 F0 k r a w∧IoV c V a
theorem PW (hT:okT P c.T=true) (hS:∀f S,en c.S f=some S→au c.G P f S) {ops:Array Oper} {o:Oper} (hok:aaX c ops.toList o=true) {V:Nat→Value} (hI:Inv c B X w0 F0 F O a w δ) (hV:IoV c V a) {k:List D→Option Out} {r:Out}
  (hg:eV c ops.toList o δ k=some r) (Q:Exit→Act→World→Prop) :
  if aja o (yielded ops a.tmps) then o.wp P a w (kr c B X w0 F0 V k r) Q else kr c B X w0 F0 V k r (a.put o.dst undef) w:=by
 unfold aaX at hok;simp only [aiU] at hok;obtain⟨hdst,hgd⟩:=hok;have hio:∀s,vd (aD c.K s)=true→o.dst≠some s:=fun s hs e=>by
  rw [e] at hdst;simp only at hdst;rw [hs] at hdst;cases hdst
 have lift:∀(A:Ac),dO c o=some A→fX c A δ k=some r→o.wp P a w (kr c B X w0 F0 V k r) Q:=by
  intro A hA hgo;have h:=aa2 hT hS o A hA B X w0 F0 F O a w δ hI k r hgo Q;unfold Oper.wp at h ⊢;refine ajO (P:=P) (o:=o) (a:=a) (w:=w) (K:=fun a' w'=>Next c B X w0 F0 k r a' w'∧∀s,o.dst≠some s→av a' s=av a s) (fun a' w' hn=>⟨hn.1,fun s hs=>(hn.2 s (hio s hs)).trans (hV s hs)⟩) ?_
  exact aeh h
 have skipV:IoV c V (a.put o.dst undef):=by
  intro s hs;cases hd:o.dst with
  | none=>exact hV s hs
  | some d=>exact(eK (fun e=>hio s hs (by rw [hd,e]))).trans (hV s hs)
 unfold eV at hg;cases hA:dO c o with
 | none=>rw [hA] at hg;cases hg
 | some A =>
  rw [hA] at hg;simp only at hg;cases hgu:o.guard with
  | none =>
   rw [hgu] at hg;rw [if_pos (by simp [aja,hgu])];refine lift A hA ?_
   cases A with
   | one rd d h =>
    simp only [cg] at hg;obtain⟨z,h1,h2⟩:=aiT.1 hg;rw [dh] at h2;simp only [fX,h1,ai0];exact h2
   | many rd hw cw fn =>
    simp only [cg,dh,sj] at hg;exact hg
  | some jp =>
   obtain⟨j,pol⟩:=jp;rw [hgu] at hg;rw [hgu,hA] at hgd;simp only [aiU] at hgd;simp only at hg;cases hgs:NS ops.toList j with
   | none=>rw [hgs] at hg;cases hg
   | some g =>
    rw [hgs] at hg hgd;simp only at hgd;obtain⟨hkd,hck⟩:=hgd;have hyield:∀b,nth δ g = .v (.bool b)→yielded ops a.tmps j=some b:=by
     intro b hb;obtain⟨lv,hk⟩:∃lv,aD c.K g = .dat lv:=by
      split at hkd
      ·exact⟨_,‹_›⟩
      ·cases hkd
     have hr:=hI.dat hk;rw [hb] at hr;obtain⟨hv,_⟩:=bG hr;have hlt:g<a.tmps.size:=by
      rw [hI.la,←hI.ld];exact YZ (by rw [hb];simp)
     have hg1:a.tmps[g]?=some (.bool b):=by
      rw [av,aiY,ai6 hlt] at hv;rw [ai6 hlt];simpa using hv
     unfold NS at hgs;rw [Gq,ajl] at hgs;unfold yielded;cases ho:ops[j]? with
     | none=>rw [ho] at hgs;cases hgs
     | some oj =>
      rw [ho] at hgs;simp only at hgs;simp [hgs,hg1]
    have hyT:∀l,nth δ g = .tup l→yielded ops a.tmps j=none:=by
     intro l hb;obtain⟨lv,hk⟩:∃lv,aD c.K g = .dat lv:=by
      split at hkd
      ·exact⟨_,‹_›⟩
      ·cases hkd
     have hr:=hI.dat hk;rw [hb] at hr;have hv:av a g = .tuple #[]:=(hr.rep (by simp)).2;unfold yielded;rw [NS,Gq,ajl] at hgs;cases ho:ops[j]? with
     | none=>simp
     | some oj =>
      rw [ho] at hgs;simp only at hgs;simp only [ai0,hgs];cases hx:a.tmps[g]? with
      | none=>rfl
      | some x =>
       have:x = .tuple #[]:=by
        rw [←hv,av,aiY,hx];rfl
       subst this;rfl
    cases A with
    | one rd d h =>
     simp only [fH,cg] at hg;obtain⟨z,h1,h2⟩:=aiT.1 hg;rw [dh] at h2;unfold aj at h1;have skip:z=Hx (aD c.K d)→kr c B X w0 F0 V k r (a.put o.dst undef) w:=by
      rintro rfl;refine⟨⟨F,O,_,?_,h2⟩,skipV⟩
      simp only at hck;split at hck
      ·rename_i d' hd'
       rw [bd] at hck;subst hck;rw [hd'];refine hI.put ?_
       unfold Hx SB;split
       ·rename_i hkk
        refine .inr ?_
        rw [hkk];exact⟨rfl,rfl⟩
       ·exact .inl rfl
      ·cases hck
     split at h1
     case h_3=>cases h1
     case h_2 =>
      rename_i l hb;have hy:=hyT l hb;rw [if_neg (by simp [aja,hgu,hy])];exact skip (by cases h1;rfl)
     rename_i b hb;have hy:=hyield b hb;split at h1
     ·rename_i hbp
      rw [if_pos (by simp [aja,hgu,hy,hbp])];exact lift _ hA (by simp only [fX,h1,ai0];exact h2)
     ·rename_i hbp
      rw [if_neg (by simp [aja,hgu,hy,hbp])];exact skip (by cases h1;rfl)
    | many rd hw cw fn =>
     simp only [fH,cg,Gu,sj,dh] at hg;unfold cQ at hg;have skip:k (az δ (hw++(cw++bu c.K hw)) (fit ((hw++cw).map (Kn c.K o.dst δ)) 0 (hw++cw)))=some r→kr c B X w0 F0 V k r (a.put o.dst undef) w:=by
      intro hg;rw [xk _ _ 0 (by simp),ai2] at hg;simp only [aiU,aje] at hck;refine⟨⟨F,O,_,hI.pass_over hck.1 (fun d hd=>?_),hg⟩,skipV⟩
      have h3:=hck.2;rw [hd] at h3;simp only [jZ,decide_eq_true_eq] at h3;exact h3
     split at hg
     case h_3=>cases hg
     case h_2 =>
      rename_i l hb;have hy:=hyT l hb;rw [if_neg (by simp [aja,hgu,hy])];exact skip hg
     rename_i b hb;have hy:=hyield b hb;obtain⟨φ,hφ,hlen⟩:=So hA (aB δ rd);split at hg
     ·rename_i hbp
      rw [if_pos (by simp [aja,hgu,hy,hbp])];refine lift _ hA ?_
      simp only [fX];rw [hφ] at hg ⊢;cases hp:φ with
      | none=>rw [hp] at hg;cases hg
      | some l =>
       rw [hp] at hg;have hl:=hlen l hp;simp only [ai0] at hg ⊢;rw [xk _ l 0 (by omega),ai2,xk _ l 0 (by omega),ai2] at hg;exact hg
     ·rename_i hbp
      rw [if_neg (by simp [aja,hgu,hy,hbp])];exact skip hg
theorem Gf (hT:okT P c.T=true) (hS:∀f S,en c.S f=some S→au c.G P f S) {ops:Array Oper} {V:Nat→Value} {Q:Exit→Act→World→Prop} {k:List D→Option Out} {r:Out} (hQ:∀a w,kr c B X w0 F0 V k r a w→Q .normal a w) :
  ∀(l:List Oper),(∀o∈l,aaX c ops.toList o=true)→∀(F:Nat→Prop) (O:Nat→Option (Nat × Nat)) (a:Act) (w:World) (δ:List D),Inv c B X w0 F0 F O a w δ→IoV c V a→mF c ops.toList l δ k=some r→wpList P ops Q l a w
 | [],_,F,O,a,w,δ,hI,hV,hg=>hQ a w ⟨⟨F,O,δ,hI,hg⟩,hV⟩
 | o::l,hok,F,O,a,w,δ,hI,hV,hg=>by
  simp only [mF] at hg;have h:=PW hT hS (hok o (by simp)) hI hV hg Q;have ih:∀a w,kr c B X w0 F0 V (fun δ'=>mF c ops.toList l δ' k) r a w→wpList P ops Q l a w:=by
   rintro a w ⟨⟨F',O',δ',hI',hk'⟩,hV'⟩;exact Gf hT hS hQ l (fun o' ho'=>hok o' (by simp [ho'])) F' O' a w δ' hI' hV' hk'
  unfold wpList;split
  ·rename_i hw
   rw [if_pos hw] at h;exact .inl (ajO ih h)
  ·rename_i hw
   rw [if_neg hw] at h;exact ih _ _ h
end
end Go.V

namespace Go.V
open Go.RowKit
def zX (x y:List Nat):Bool:=x.all fun s=>!oL s y
def Zl (c:Cx) (ops:List Oper) (x y:Oper):Bool:=zX (rdS c ops x) (wrS c y)&&zX (wrS c x) (rdS c ops y)&&zX (wrS c x) (wrS c y)
def Tu (c:Cx) (x y:Oper):Bool :=
 match x.guard,y.guard,x.op,x.dst,y.op,y.dst with
 | none,none,.move (.tmp t),some d,.store _ (.tmp q) (.tmp s),none =>
  (match aD c.K t,aD c.K d,aD c.K q,aD c.K s with
   | .own _ _ _,.via r,.ref r',.dat _=>ai5 r t&&ai5 r' t && !ai5 q t&&zX (d::iw d c.K 0) [q,t,s]
   | _,_,_,_=>false)
 | _,_,_,_,_,_=>false
def adE (c:Cx) (x y:Oper):Bool :=
 match x.guard,y.guard,x.op,y.op,y.dst with
 | none,none,.call q,.move (.tmp t),some d =>
  (match aD c.K t,aD c.K d,q.callee with
   | .box _ _ _,.ref r',.value (.func f)=>(match en c.S f with
    | some S=>(match nY c.K q.args.toList S.pm with
     | some ags=>ai5 r' t&&oL t (gd ags)
     | none=>false)
    | none=>false)
   | _,_,_=>false)
 | _,_,_,_,_=>false
def Zz (c:Cx) (ops:List Oper) (x y:Oper):Bool:=adE c x y&&zX (rdS c ops x) (wrS c y)&&zX (wrS c x) (wrS c y)
def Tm (c:Cx) (ops:List Oper) (x y:Oper):Bool:=Zl c ops x y||Tu c x y||Tu c y x||Zz c ops x y
def bef (ops:List Oper) (j:Nat):Nat→Oper→Bool
 | 0,_=>false
 | n+1,o=>o.after.toList.any fun e=>ajf .any e&&(ai5 e.on j||match XQ ops e.on with
  | some q=>bef ops j n q
  | none=>false)
def aav (c:Cx) (ops:List Oper):Bool :=
 ops.zipIdx.all fun p=>(p.1.after.toList.all fun e=>!ajf .any e||decide (e.on<p.2))&&(ops.take p.2).zipIdx.all fun q=>Tm c ops q.1 p.1||bef ops q.2 3 p.1
def nq (K:List Kd) (hl:List Nat):Bool :=
 hl.all fun s=>match aD K s with
  | .via r=>oL r hl
  | .ref r=>oL r hl
  | _=>true
def eR (c:Cx):Nat→Code→Bool
 | _,.skip=>true
 | _,.region _ ops d=>ops.toList.all (aaX c ops.toList)&&(!d||aav c ops.toList)
 | b,.seq x y=>eR c b x&&eR c b y
 | b,.cond x t e=>ajZ (gw c.K x) 2&&eR c b t&&eR c b e
 | _,.block id x=>eR c id x
 | b,.loop x=>eR c b x&&(match en c.H b with
  | some (hl,xl)=>nq c.K hl&&nq c.K xl
  | none=>false)
 | _,.exit _=>true
 | _,.ret=>true
 | _,_=>false
section
variable {P:Program} {c:Cx} {B:Nat} {X:Nat→Prop} {w0:World} {F0 F:Nat→Prop} {O:Nat→Option (Nat × Nat)} {a:Act} {w:World} {δ:List D}
def VD (c:Cx) (δ:List D) (k:Out→Option Out):Option Out:=sg c δ c.res fun rs=>uT δ c.ios fun us=>usK us (k (.ret rs us))
def TK (c:Cx) (B:Nat) (X:Nat→Prop) (w0:World) (F0:Nat→Prop) (V:Nat→Value) (k:Out→Option Out) (r:Out):Exit→Act→World→Prop
 | .normal,a,w=>kr c B X w0 F0 V (fun δ=>k (.nrm δ)) r a w
 | .exit id,a,w=>kr c B X w0 F0 V (fun δ=>k (.ext id δ)) r a w
 | .ret,a,w=>kr c B X w0 F0 V (fun δ=>VD c δ k) r a w
 | _,_,_=>False
theorem rQ {x y:List Nat} (h:zX x y=true):∀s∈x,s∉y:=by
 intro s hs;unfold zX at h;rw [aje] at h;simpa [jZ] using h s hs
theorem afz {δ δ':List D} (h:δ.length=δ'.length) (hn:∀s,nth δ s=nth δ' s):δ=δ':=by
 refine List.ext_getElem h fun i h1 h2=>?_
 have:=hn i;rw [jk,jk,aiX,aiX,ajc h1,ajc h2] at this;exact this
theorem xm:∀(ss:List Nat) (l δ δ':List D),δ.length=δ'.length→∀s∈ss,nth (az δ ss l) s=nth (az δ' ss l) s
 | t::ss,l,δ,δ',hl,s,hs=>by
  cases l with
  | nil=>rw [nj _ _ _ hs,nj _ _ _ hs]
  | cons d l =>
   simp only [az];by_cases hm:s∈ss
   ·exact xm ss l _ _ (by rw [jA,jA,hl]) s hm
   ·have:s=t:=by simpa [hm] using hs
    subst this;rw [aF _ _ _ _ hm,aF _ _ _ _ hm,cO,cO,hl]
theorem xG {A C:List Nat} {l m δ:List D} (h:∀s∈A,s∉C):az (az δ A l) C m=az (az δ C m) A l:=by
 refine afz (by simp only [ed]) fun s=>?_
 by_cases hA:s∈A
 ·rw [aF _ _ _ _ (h s hA)]
  exact xm A l _ _ (by rw [ed]) s hA
 ·by_cases hC:s∈C
  ·rw [aF A _ _ _ hA]
   exact(xm C m _ _ (by rw [ed]) s hC)
  ·rw [aF _ _ _ _ hC,aF _ _ _ _ hA,aF _ _ _ _ hA,aF _ _ _ _ hC]
theorem Xa {n:Nat} {o p x z:D} (h:stD n o p x=some z):o ≠ .bad∧z ≠ .bad:=by
 unfold stD at h;split at h
 ·split at h
  ·split at h
   ·cases h;exact⟨by simp,by simp⟩
   ·cases h
  ·cases h
 ·split at h
  ·cases h;exact⟨by simp,by simp⟩
  ·cases h
 ·cases h
theorem OR (chk:Bool) (n:Nat) (b p y:D):∃E:Option D,(∀k:D→Option Out,stK chk n b p y k=E.bind k)∧∀z,E=some z→b ≠ .bad∧z ≠ .bad:=by
 cases chk
 ·exact⟨stD n b p y,fun _=>rfl,fun z hz=>Xa hz⟩
 ·refine⟨(aM y).bind fun y=>stD n b p y,fun k=>by simp only [stK,Option.bind_assoc],fun z hz=>?_⟩
  obtain⟨y',_,h⟩:=aiT.1 hz;exact Xa h
theorem ZL {ops:List Oper} {x y:Oper} (h:Tu c x y=true) (δ:List D) (k:List D→Option Out):eV c ops x δ (fun δ=>eV c ops y δ k)=eV c ops y δ (fun δ=>eV c ops x δ k):=by
 unfold Tu at h;split at h
 case h_2=>cases h
 rename_i t d ty q s hxg hyg hxo hxd hyo hyd;split at h
 case h_2=>cases h
 rename_i z lv io r0 r lv' hkt hkd hkq hks;simp only [aiU,ai4] at h;obtain⟨⟨⟨h1,h2⟩,h3⟩,h4⟩:=h;have e1:=bd.1 h1;have e2:=bd.1 h2;subst e1;subst e2;have hx:∀(δ:List D) (k:List D→Option Out),eV c ops x δ k=(aa (nth δ r) (.ref 0 0)).bind fun z=>k (az δ (d::iw d c.K 0) [z]):=by
  intro δ k;have hA:dO c x=some (.one [r] d fun is=>(km fun x=>aa x (.ref 0 0)) is):=by
   simp only [dO,hxo,hxd,Ws,hkt,hkd,Nat.beq_refl]
  simp only [eV,hA,hxg];rw [cg];show(aa (nth δ r) (.ref 0 0)).bind (fun z=>fe δ (d::iw d c.K 0) [z] k)=_
  exact congrArg _ (funext fun z=>dh _ _ _ _)
 have hy:∃E:D→D→D→Option D,(∀(δ:List D) (k:List D→Option Out),eV c ops y δ k=(E (nth δ r) (nth δ q) (nth δ s)).bind fun b=>k (az δ [r] [b]))∧∀a b e z,E a b e=some z→a ≠ .bad∧z ≠ .bad:=by
  cases hT:en c.T ty with
  | none =>
   refine⟨fun _ _ _=>none,fun δ k=>?_,fun _ _ _ _ h=>by cases h⟩
   have hA:dO c y=none:=by simp only [dO,hyo,hyd,iL,hT]
   simp only [eV,hA];rfl
  | some i =>
   have act:∀chk:Bool,dO c y=some (.many [q,r,s] [] [r] fun is k=>goP q r is fun b p is=>iY is 0 fun y=>stK chk i.n b p y fun b=>k [b]) →
     ∃E:D→D→D→Option D,(∀(δ:List D) (k:List D→Option Out),eV c ops y δ k=(E (nth δ r) (nth δ q) (nth δ s)).bind fun b=>k (az δ [r] [b]))∧∀a b e z,E a b e=some z→a ≠ .bad∧z ≠ .bad:=by
    intro chk hA;refine⟨fun a b e=>ajd (OR chk i.n a b e),fun δ k=>?_,fun a b e z h=>(ai9 (OR chk i.n a b e)).2 z h⟩
    simp only [eV,hA,hyg];rw [cg];simp only [goP,h3,aB];show stK chk i.n (nth δ r) (nth δ q) (nth δ s) (fun b=>fe δ [r] [b] k)=_
    rw [(ai9 (OR chk i.n (nth δ r) (nth δ q) (nth δ s))).1];exact congrArg _ (funext fun b=>dh _ _ _ _)
   have hst:dO c y=Wo c i q r (fS c.K r) (.tmp s):=by
    simp only [dO,hyo,hyd,iL,hT,adh,hkq]
   unfold Wo at hst;simp only [hks] at hst;split at hst
   ·exact act false (by rw [hst];simp only [rdP,h3])
   ·exact act true (by rw [hst];simp only [rdP,h3])
   ·refine⟨fun _ _ _=>none,fun δ k=>?_,fun _ _ _ _ h=>by cases h⟩
    simp only [eV,hst];rfl
 obtain⟨E,hE,hEl⟩:=hy;have ap:=fun s hs=>rQ h4 s hs
 have hnq:∀m:List D,∀v∈[q,r,s],nth (az δ (d::iw d c.K 0) m) v=nth δ v:=fun m v hv=>aF _ _ _ _ fun hm=>ap v hm hv
 simp only [hx,hE,hnq _ q (by simp),hnq _ r (by simp),hnq _ s (by simp)];cases hb:E (nth δ r) (nth δ q) (nth δ s) with
 | none=>cases aa (nth δ r) (.ref 0 0)<;>rfl
 | some b =>
  obtain⟨g1,g2⟩:=hEl _ _ _ _ hb;have hlive:∀a:D,a ≠ .bad→aa a (.ref 0 0)=some (.ref 0 0):=fun a ha=>by cases a<;>first | exact absurd rfl ha | rfl
  have hr:nth (az δ [r] [b]) r=b:=by
   simp only [az];rw [cO,if_pos];by_cases hl:r<δ.length
   ·exact hl
   ·exfalso
    rw [jk,aiX,ajk (by omega)] at g1;exact g1 rfl
  simp only [hlive _ g1,hr,hlive _ g2,ai0];rw [xG (A:=d::iw d c.K 0) (C:=[r])];intro v hv hv';exact ap v hv (by simp at hv';simp [hv'])
theorem Yj {ops:List Oper} {x y:Oper} (h:Zl c ops x y=true) (δ:List D) (k:List D→Option Out):eV c ops x δ (fun δ=>eV c ops y δ k)=eV c ops y δ (fun δ=>eV c ops x δ k):=by
 unfold Zl at h;simp only [aiU] at h;obtain⟨⟨h1,h2⟩,h3⟩:=h;obtain⟨φ,hφ,hφr⟩:=BX c ops x;obtain⟨ψ,hψ,hψr⟩:=BX c ops y;have e1:∀l,ψ (az δ (wrS c x) l)=ψ δ:=fun l=>hψr _ _ (rI fun s hs=>aF _ _ _ _ fun hm=>rQ h2 s hm hs)
 have e2:∀l,φ (az δ (wrS c y) l)=φ δ:=fun l=>hφr _ _ (rI fun s hs=>aF _ _ _ _ (rQ h1 s hs))
 simp only [hφ,hψ,e1,e2];cases φ δ with
 | none=>cases ψ δ<;>rfl
 | some l =>
  cases ψ δ with
  | none=>rfl
  | some m =>
   simp only [ai0];rw [xG (rQ h3)]
theorem BS {δ:List D}:∀(ags:List Ag) (ds:List D),dz ags (aB δ (gU ags))=some ds→∀t∈gd ags,nth δ t ≠ .bad
 | [],_,_,t,ht=>by simp [gd] at ht
 | .d x chk::l,ds,h,t,ht=>by
  have ih:=BS (δ:=δ) l;simp only [gd] at ht;cases x with
  | tmp u =>
   simp only [aB] at h;cases chk
   ·simp only [dz] at h
    obtain⟨z,hz,_⟩:=aiW.1 h;exact ih z hz t ht
   ·simp only [dz] at h
    obtain⟨i,_,h⟩:=aiT.1 h;obtain⟨z,hz,_⟩:=aiW.1 h;exact ih z hz t ht
  | const v =>
   simp only [dz] at h;obtain⟨z,hz,_⟩:=aiW.1 h;exact ih z hz t ht
  | func f =>
   simp only [dz] at h;obtain⟨z,hz,_⟩:=aiW.1 h;exact ih z hz t ht
  | global g=>simp [dz] at h
 | .bor u r::l,ds,h,t,ht=>by
  have ih:=BS (δ:=δ) l;simp only [gd] at ht;cases hb:ai5 u r
  ·simp only [gU,hb,aB,dz] at h
   obtain⟨i,_,h⟩:=aiT.1 h;obtain⟨z,hz,_⟩:=aiW.1 h;exact ih z hz t ht
  ·simp only [gU,hb,aB,dz] at h
   obtain⟨z,hz,_⟩:=aiW.1 h;exact ih z hz t ht
 | .io u r::l,ds,h,t,ht=>by
  have ih:=BS (δ:=δ) l;simp only [gd,ai1] at ht;have lv:∀x y z:D,aa x y=some z→x ≠ .bad:=fun x y z hz e=>by subst e;cases hz
  cases hb:ai5 u r
  ·simp only [gU,hb,aB,dz] at h
   obtain⟨i,hi,h⟩:=aiT.1 h;obtain⟨i',hi',h⟩:=aiT.1 h;obtain⟨z,hz,_⟩:=aiW.1 h;have e:i=nth δ r:=by
    unfold cI at hi;split at hi
    ·exact(ajV hi).symm
    ·cases hi
   rcases ht with rfl | ht
   ·rw [←e];exact lv _ _ _ hi'
   ·exact ih z hz t ht
  ·simp only [gU,hb,aB,dz] at h
   obtain⟨i',hi',h⟩:=aiT.1 h;obtain⟨z,hz,_⟩:=aiW.1 h;have e:=bd.1 hb;rcases ht with rfl | ht
   ·rw [←e];exact lv _ _ _ hi'
   ·exact ih z hz t ht
theorem afB {ops:List Oper} {x y:Oper} (h:Zz c ops x y=true) (δ:List D) (k:List D→Option Out) (r:Out) (hs:eV c ops x δ (fun δ=>eV c ops y δ k)=some r):eV c ops y δ (fun δ=>eV c ops x δ k)=some r:=by
 unfold Zz at h;simp only [aiU] at h;obtain⟨⟨h1,h2⟩,h3⟩:=h;unfold adE at h1;split at h1
 case h_2=>cases h1
 rename_i q t d hxg hyg hxo hyo hyd;split at h1
 case h_2=>cases h1
 rename_i n lv io r' f hkt hkd hqc;split at h1
 case h_2=>cases h1
 rename_i S hS;split at h1
 case h_2=>cases h1
 rename_i ags hags;simp only [aiU] at h1;obtain⟨h4,h5⟩:=h1;have e4:=bd.1 h4;subst e4;have hyA:dO c y=some (.one [r'] d fun is=>(km fun x=>aa x (.ref 0 0)) is):=by
  simp only [dO,hyo,hyd,Ws,hkt,hkd,Nat.beq_refl]
 have hw:wrS c y=d::iw d c.K 0:=by
  unfold wrS;rw [hyA]
 have hy:∀(δ:List D) (k:List D→Option Out),eV c ops y δ k=(aa (nth δ r') (.ref 0 0)).bind fun z=>k (az δ (d::iw d c.K 0) [z]):=by
  intro δ k;simp only [eV,hyA,hyg];rw [cg];show(aa (nth δ r') (.ref 0 0)).bind (fun z=>fe δ (d::iw d c.K 0) [z] k)=_
  exact congrArg _ (funext fun z=>dh _ _ _ _)
 have live:∀(δ:List D) (K:List D→Option Out) (r:Out),eV c ops x δ K=some r→nth δ r' ≠ .bad:=by
  intro δ K r hr;have hm:r'∈gd ags:=by simpa [jZ] using h5
  have fin:∀K':List D→Option Out,kS [] ags (aB δ (gU ags)) K'=some r→nth δ r' ≠ .bad:=by
   intro K' h;rw [mw] at h;obtain⟨ds,hds,_⟩:=aiT.1 h;exact BS ags ds hds r' hm
  have hA:dO c x=aaY c x.dst q:=by simp only [dO,hxo]
  have hcl:∀A,dO c x=some A→Gj c x.dst S q.args.toList=some A:=by
   intro A h;rw [hA] at h;unfold aaY at h;rw [hqc] at h;simp only [hS] at h;exact h
  cases hAc:dO c x with
  | none=>simp only [eV,hAc] at hr;cases hr
  | some A =>
   have hA2:=hcl A hAc;unfold Gj at hA2;simp only [hags] at hA2;simp only [eV,hAc,hxg] at hr
   repeat' split at hA2
   all_goals first
    | (cases hA2;done)
    | (cases hA2;simp only [cg] at hr;exact fin _ hr)
    | skip
 have l1:=live δ _ r hs;obtain⟨φ,hφ,hφr⟩:=BX c ops x;rw [hw] at h2 h3;have e2:∀l,φ (az δ (d::iw d c.K 0) l)=φ δ:=fun l=>hφr _ _ (rI fun s hs=>aF _ _ _ _ (rQ h2 s hs))
 have hlive:∀a:D,a ≠ .bad→aa a (.ref 0 0)=some (.ref 0 0):=fun a ha=>by cases a<;>first | exact absurd rfl ha | rfl
 simp only [hφ,hy,e2] at hs ⊢;rw [hlive _ l1];cases hp:φ δ with
 | none=>rw [hp] at hs;cases hs
 | some l =>
  rw [hp] at hs;simp only [ai0] at hs ⊢;obtain⟨z,hz,hk⟩:=aiT.1 hs;have ez:z = .ref 0 0:=by
   unfold aa at hz;split at hz
   ·cases hz
   ·exact(ajV hz).symm
  subst ez;rw [xG (rQ h3)] at hk;exact hk
theorem abj {ops:List Oper} {x y:Oper} (h:Tm c ops x y=true) (δ:List D) (k:List D→Option Out) (r:Out) (hs:eV c ops x δ (fun δ=>eV c ops y δ k)=some r):eV c ops y δ (fun δ=>eV c ops x δ k)=some r:=by
 unfold Tm at h;simp only [ajr] at h;rcases h with ((h | h) | h) | h
 ·exact(Yj h δ k).symm.trans hs
 ·exact(ZL h δ k).symm.trans hs
 ·exact(ZL h δ k).trans hs
 ·exact afB h δ k r hs
theorem aaT {ops:List Oper} {o:Oper} {k k':List D→Option Out} {δ:List D} {r:Out} (hk:∀δ,k δ=some r→k' δ=some r) (h:eV c ops o δ k=some r):eV c ops o δ k'=some r:=by
 obtain⟨φ,hφ,_⟩:=BX c ops o;rw [hφ] at h ⊢;obtain⟨l,hl,h⟩:=aiT.1 h;rw [hl];exact hk _ h
theorem IM {ops:List Oper} {o:Oper} {k:List D→Option Out} {r:Out}:∀(pre post:List Oper) (δ:List D),(∀q∈pre,Tm c ops q o=true)→mF c ops (pre++o::post) δ k=some r→eV c ops o δ (fun δ=>mF c ops (pre++post) δ k)=some r
 | [],post,δ,_,h=>h
 | q::pre,post,δ,h,hr=>by
  simp only [ajD,mF] at hr ⊢;exact abj (h q (by simp)) δ _ r (aaT (fun δ' h'=>IM pre post δ' (fun q' hq'=>h q' (by simp [hq'])) h') hr)
def left (ops:List Oper) (listed:Array Bool):List Oper:=(ops.zipIdx.filter fun p=>!listed.getD p.2 true).map (·.1)
theorem Inv.drawn (h:Inv c B X w0 F0 F O a w δ) (n:Nat):Inv c B X w0 F0 F O a {w with drawn:=n} δ :=
 h.step (w':={w with drawn:=n}) (fun _=>False) rfl rfl rfl (fun _ _=>⟨rfl,.inl rfl⟩) (fun _ hb=>hb) (fun _ _=>rfl) (fun _ _ hp _=>⟨hp,rfl⟩) (fun _ _ _ hv hb=>⟨rfl,(h.root hv hb).2⟩) (fun _ hf=>hf.elim) h.fl h.ol (fun _ hb=>.inl hb) (ajp _) rfl rfl rfl (fun _ _ _=>rfl)
theorem Om {l:List Oper} {i:Nat} {o:Oper} (h:l[i]?=some o):l.zipIdx=(l.take i).zipIdx++(o,i)::(l.drop (i+1)).zipIdx (i+1):=by
 have hi:i<l.length:=(ajC.1 h).1;have e:l=l.take i++(o::l.drop (i+1)):=by
  have h1:l[i]=o:=(ajC.1 h).2
  conv=>lhs;rw [←ajI i l,ajq hi,h1]
 conv=>lhs;rw [e]
 rw [List.zipIdx_append,List.zipIdx_cons];have:(l.take i).length=i:=by rw [ajE];omega
 simp [this]
theorem Oc {l:List Oper} {listed:Array Bool} {i:Nat} {o:Oper} (h:l[i]?=some o) (hn:listed.getD i true=false) (hsz:i<listed.size) :
  left l listed=(((l.take i).zipIdx.filter fun p=>!listed.getD p.2 true).map (·.1))++o::((((l.drop (i+1)).zipIdx (i+1)).filter fun p=>!listed.getD p.2 true).map (·.1)) ∧
  left l (listed.setIfInBounds i true)=(((l.take i).zipIdx.filter fun p=>!listed.getD p.2 true).map (·.1))++((((l.drop (i+1)).zipIdx (i+1)).filter fun p=>!listed.getD p.2 true).map (·.1)):=by
 have hne:∀j,j≠i→(listed.setIfInBounds i true).getD j true=listed.getD j true:=fun j hj=>by
  simp only [aiY,ajm,Ne.symm hj,if_false]
 have hi:(listed.setIfInBounds i true).getD i true=true:=by
  simp [aiY,hsz]
 unfold left;rw [Om h];simp only [List.filter_append,List.map_append,List.filter_cons,hn,hi,aj0,Bool.not_true,if_true,ajt,if_false,ajh];refine⟨trivial,?_⟩
 congr 2
 ·refine List.filter_congr fun p hp=>?_
  have:=ajb hp;rw [ajE] at this;rw [hne p.2 (by omega)]
 ·refine List.filter_congr fun p hp=>?_
  have:=List.le_snd_of_mem_zipIdx hp;rw [hne p.2 (by omega)]
def Cl (ops:Array Oper) (listed:Array Bool):Prop:=∀(m:Nat) (q:Oper),ops[m]?=some q→listed.getD m false=true→∀e∈q.after,ajf .any e=true→listed.getD e.on false=true
theorem PD {ops:Array Oper} {listed:Array Bool} (hc:Cl ops listed) {j:Nat}:∀(n:Nat) (o:Oper),(∀e∈o.after,ajf .any e=true→listed.getD e.on false=true)→bef ops.toList j n o=true→listed.getD j false=true
 | 0,_,_,h=>by simp [bef] at h
 | n+1,o,ho,h=>by
  simp only [bef,List.any_eq_true,aiU,ajr] at h;obtain⟨e,he,hb,h⟩:=h;have hl:=ho e (by simpa using he) hb;rcases h with h | h
  ·rw [←bd.1 h]
   exact hl
  ·split at h
   ·rename_i q hq
    rw [Gq,ajl] at hq;exact PD hc n q (hc e.on q hq hl) h
   ·cases h
theorem Pw {listed:Array Bool} {i x:Nat} (h:listed.getD x false=true):(listed.setIfInBounds i true).getD x false=true:=by
 rw [aiY] at h ⊢;rw [ajm];split
 ·split<;>rename_i h1 h2
  ·rfl
  ·subst h1
   rw [Array.getElem?_eq_none (by omega)] at h;cases h
 ·exact h
theorem ag9 {ops:Array Oper} {listed:Array Bool} (hc:Cl ops listed) {i:Nat} {o:Oper} (ho:ops[i]?=some o) (hed:∀e∈o.after,ajf .any e=true→listed.getD e.on false=true):Cl ops (listed.setIfInBounds i true):=by
 intro m q hq hm e he hb;by_cases hmi:m=i
 ·subst hmi
  rw [ho] at hq;cases hq;exact Pw (hed e he hb)
 ·refine Pw (hc m q hq ?_ e he hb)
  rw [aiY,ajm,if_neg (fun e=>hmi e.symm)] at hm;rw [aiY];exact hm
theorem Zq (hT:okT P c.T=true) (hS:∀f S,en c.S f=some S→au c.G P f S) {ops:Array Oper} (hany:aav c ops.toList=true) {V:Nat→Value} {Q:Exit→Act→World→Prop} {k:List D→Option Out} {r:Out} (hQ:∀a w,kr c B X w0 F0 V k r a w→Q .normal a w)
  (hok:∀o∈ops.toList,aaX c ops.toList o=true) (hI:Inv c B X w0 F0 F O a w δ) (hV:IoV c V a) (hg:mF c ops.toList ops.toList δ k=some r):wpAny P .any ops Q ops.size (aji ops.size false) a {w with drawn:=w.drawn+1}:=by
 have hedge:∀(i:Nat) (o:Oper),ops[i]?=some o→(∀e∈o.after,ajf .any e=true→e.on<i)∧∀(j:Nat) (q:Oper),j<i→ops[j]?=some q→bef ops.toList j 3 o=true∨Tm c ops.toList q o=true:=by
  intro i o ho;have h0:=hany;unfold aav at h0;rw [aje] at h0;have hl:ops.toList[i]?=some o:=by simpa using ho
  have h1:=h0 (o,i) (by rw [Om hl];simp);simp only [aiU,ajr,ai4,decide_eq_true_eq,aje] at h1;refine⟨fun e he hb=>(h1.1 e (by simpa using he)).resolve_left (by rw [hb];simp),fun j q hj hq=>?_⟩
  have hq':(ops.toList.take i)[j]?=some q:=by
   rw [ajF hj];simpa using hq
  exact(h1.2 (q,j) (by rw [Om hq'];simp)).symm
 have main:∀(fuel:Nat) (listed:Array Bool) (F:Nat→Prop) (O:Nat→Option (Nat × Nat)) (a:Act) (w:World) (δ:List D),listed.size=ops.size→Cl ops listed→(left ops.toList listed).length≤fuel→Inv c B X w0 F0 F O a w δ→IoV c V a →
   mF c ops.toList (left ops.toList listed) δ k=some r→wpAny P .any ops Q fuel listed a w:=by
  intro fuel;have ready_mem:∀(listed:Array Bool) (i:Nat),i∈aju .any ops listed→∃o,ops[i]?=some o∧listed.getD i true=false∧∀e∈o.after,ajf .any e=true→listed.getD e.on false=true:=by
   intro listed i hi;unfold aju at hi;rw [ajH] at hi;obtain⟨hr,hi⟩:=hi;simp only [aiU,ai4] at hi;cases ho:ops[i]? with
   | none=>rw [ho] at hi;simp at hi
   | some o =>
    rw [ho] at hi;simp only [ajW,ajG,Array.all_eq_true_iff_forall_mem,ajr,ai4] at hi;exact⟨o,rfl,hi.1,fun e he hb=>(hi.2 e he).resolve_left (by rw [hb];simp)⟩
  have empty:∀(listed:Array Bool),listed.size=ops.size→aju .any ops listed=[]→left ops.toList listed=[]:=by
   intro listed hsz hr;have all:∀i,i<ops.size→listed.getD i true=true:=by
    intro i;induction i using Nat.strongRecOn with
    | _ i ih =>
     intro hi;cases hl:listed.getD i true with
     | true=>rfl
     | false =>
      exfalso;have ho:ops[i]?=some ops[i]:=ai6 hi;have hmem:i∈aju .any ops listed:=by
       unfold aju;rw [ajH];refine⟨List.mem_range.2 hi,?_⟩
       rw [hl,ho];simp only [aj0,Bool.true_and,ajW,ajG,Array.all_eq_true_iff_forall_mem,ajr];intro e he;cases hb:ajf .any e
       ·exact .inl rfl
       right
       have h1:=(hedge i _ ho).1 e he hb;have h2:=ih e.on h1 (by omega);have h3:e.on<listed.size:=by omega
       rw [aiY,ai6 h3] at h2 ⊢;exact h2
      rw [hr] at hmem;cases hmem
   unfold left;rw [List.map_eq_nil_iff,List.filter_eq_nil_iff];rintro⟨o,i⟩ hp;have hi:=ajb hp;simp only [ai4,Bool.not_eq_false];exact all i (by simpa using hi)
  induction fuel with
  | zero =>
   intro listed F O a w δ hsz hcl hl hI hV hg;have h0:left ops.toList listed=[]:=ajj (by omega);rw [h0] at hg;refine⟨?_,hQ a w ⟨⟨F,O,δ,hI,hg⟩,hV⟩⟩
   cases hr:aju .any ops listed with
   | nil=>rfl
   | cons i rest =>
    exfalso;obtain⟨o,ho,hn,_⟩:=ready_mem listed i (by rw [hr];simp);have hi:i<ops.size:=(ajo.1 ho).1;have:=(Oc (l:=ops.toList) (by simpa using ho) hn (by omega)).1;rw [h0] at this;simp at this
  | succ fuel ihf =>
   intro listed F O a w δ hsz hcl hl hI hV hg;refine⟨fun hr=>?_,fun i hi=>?_⟩
   ·rw [empty listed hsz hr] at hg
    exact hQ a w ⟨⟨F,O,δ,hI,hg⟩,hV⟩
   ·obtain⟨o,ho,hn,hed⟩:=ready_mem listed i hi
    have hilt:i<ops.size:=(ajo.1 ho).1;obtain⟨e1,e2⟩:=Oc (l:=ops.toList) (by simpa using ho) hn (by omega);rw [e1] at hg hl;have hfront:∀q∈(((ops.toList.take i).zipIdx.filter fun p=>!listed.getD p.2 true).map (·.1)),Tm c ops.toList q o=true:=by
     intro q hq
     ·simp only [List.mem_map,ajH] at hq
      obtain⟨⟨q',j⟩,⟨hm1,hm2⟩,rfl⟩:=hq;have hj:=ajb hm1;rw [ajE] at hj;have hget:ops[j]?=some q':=by
       have:=List.mem_zipIdx_iff_getElem?.1 hm1;simp only at this;rw [ajF (by omega)] at this;simpa using this
      rcases(hedge i o ho).2 j q' (by omega) hget with hbf | h
      ·exfalso
       have h3:=PD hcl 3 o hed hbf;simp only [ai4] at hm2;have hjlt:j<listed.size:=by omega
       rw [aiY,ai6 hjlt] at h3 hm2;simp only [ajG] at h3 hm2;rw [h3] at hm2;cases hm2
      ·exact h
    ·replace hg:=IM _ _ _ hfront hg
     rw [←e2] at hg;have h:=PW hT hS (ops:=ops) (hok o (by simpa using Array.mem_of_getElem? ho)) hI hV hg Q;have ih:∀a w,kr c B X w0 F0 V (fun δ'=>mF c ops.toList (left ops.toList (listed.setIfInBounds i true)) δ' k) r a w→wpAny P .any ops Q fuel (listed.setIfInBounds i true) a w:=by
      rintro a w ⟨⟨F',O',δ',hI',hk'⟩,hV'⟩;exact ihf _ F' O' a w δ' (by simpa using hsz) (ag9 hcl ho hed) (by rw [e2];simp only [List.length_append,ajx] at hl ⊢;omega) hI' hV' hk'
     unfold wpOp;rw [ho];simp only;split
     ·rename_i hw
      rw [if_pos hw] at h;exact .inl (ajO ih h)
     ·rename_i hw
      rw [if_neg hw] at h;exact ih _ _ h
 have hleft:left ops.toList (aji ops.size false)=ops.toList:=by
  unfold left;rw [List.filter_eq_self.2]
  ·simp
  ·rintro⟨o,i⟩ hp
   have hi:=ajb hp;have hi':i<ops.size:=by simpa using hi
   simp [aiY,hi']
 refine main ops.size _ F O a _ δ (by simp) (fun m q _ hm=>?_) ?_ (hI.drawn _) hV ?_
 ·rw [aiY,Array.getElem?_replicate] at hm
  split at hm<;>cases hm
 ·rw [hleft];simp
 ·rw [hleft];exact hg
theorem SO (hT:okT P c.T=true) (hS:∀f S,en c.S f=some S→au c.G P f S) {ops:Array Oper} (hany:aav c ops.toList=true) (hm:P.follows .mixedOrders=true) {V:Nat→Value} {Q:Exit→Act→World→Prop} {k:List D→Option Out} {r:Out} (hQ:∀a w,kr c B X w0 F0 V k r a w→Q .normal a w)
  (hok:∀o∈ops.toList,aaX c ops.toList o=true) (hI:Inv c B X w0 F0 F O a w δ) (hV:IoV c V a) (hg:mF c ops.toList ops.toList δ k=some r) (id:Nat):(Code.region id ops true).wp P Q a w:=wp_region_any hm (Zq hT hS hany hQ hok hI hV hg)
theorem nr:∀(l:List ResultVar) (δ:List D) (k:List D→Option Out),sg c δ l k=(sg c δ l fun rs=>some (.nrm rs)).bind fun o=>match o with
  | .nrm rs=>k rs
  | _=>none
 | [],δ,k=>rfl
 | .tmp t::l,δ,k=>by
  simp only [sg,fH];rw [nr l δ fun rs=>k (nth δ t::rs),nr l δ fun rs=>some (.nrm (nth δ t::rs))];cases h:sg c δ l fun rs=>some (.nrm rs) with
  | none=>rfl
  | some o=>cases o<;>rfl
 | .cell s t::l,δ,k=>by
  simp only [sg];split
  ·rename_i i _
   simp only [fH];cases bf i.agg i.n 0 (nth δ s) with
   | none=>rfl
   | some y =>
    simp only [ai0];rw [nr l δ fun rs=>k (y::rs),nr l δ fun rs=>some (.nrm (y::rs))];cases h:sg c δ l fun rs=>some (.nrm rs) with
    | none=>rfl
    | some o=>cases o<;>rfl
  ·rfl
theorem Hy:∀{us:List D} {o:Option Out} {r:Out},usK us o=some r↔(∀u∈us,u ≠ .bad)∧o=some r
 | [],o,r=>by simp [usK]
 | u::us,o,r=>by
  simp only [usK,aiT,ai1,forall_eq_or_imp];constructor
  ·rintro⟨y,h1,h2⟩
   obtain⟨h3,h4⟩:=Hy.1 h2;exact⟨⟨(cM h1).1,h3⟩,h4⟩
  ·rintro⟨⟨h1,h2⟩,h3⟩
   refine⟨u,?_,Hy.2 ⟨h2,h3⟩⟩
   cases u<;>first | rfl | exact absurd rfl h1
theorem hY {δ:List D} {k:Out→Option Out} {r:Out} (h:VD c δ k=some r):∃rs,sg c δ c.res (fun rs=>some (.nrm rs))=some (.nrm rs)∧(∀u∈aB δ c.ios,u ≠ .bad)∧k (.ret rs (aB δ c.ios))=some r:=by
 unfold VD at h;simp only [cg] at h;rw [nr] at h;cases hh:sg c δ c.res fun rs=>some (.nrm rs) with
 | none=>rw [hh] at h;cases h
 | some o =>
  rw [hh] at h;cases o with
  | nrm rs =>
   simp only [ai0] at h;obtain⟨h1,h2⟩:=Hy.1 h;exact⟨rs,rfl,h1,h2⟩
  | ext i δ=>cases h
  | ret x y=>cases h
theorem Co {δ:List D} {k:Out→Option Out} {r:Out} {rs:List D} (h1:sg c δ c.res (fun rs=>some (.nrm rs))=some (.nrm rs)) (h2:∀u∈aB δ c.ios,u ≠ .bad) (hk:k (.ret rs (aB δ c.ios))=some r):VD c δ k=some r:=by
 unfold VD;simp only [cg];rw [nr,h1];simp only [ai0];exact Hy.2 ⟨h2,hk⟩
def carry (n:Nat) (hl:List Nat) (δ:List D):List D:=az (NH n) hl (aB δ hl)
theorem GC:∀n,NH n=List.replicate n .bad
 | 0=>rfl
 | n+1=>by simp [NH,GC n,List.replicate_succ]
theorem aco (n s:Nat):nth (NH n) s = .bad:=by
 rw [jk,GC,aiX,List.getElem?_replicate];split<;>rfl
theorem mM (n:Nat) (hl:List Nat) (δ:List D) (k:List D→Option Out):iX n hl (aB δ hl) k=k (carry n hl δ):=by
 unfold iX carry;rw [dh,xk _ _ 0 (by rw [sM];omega),ai2]
theorem sa (δ:List D):∀(l:List Nat),aB δ l=l.map (nth δ)
 | []=>rfl
 | _::l=>by simp [aB,sa δ l]
theorem Ju {hl:List Nat} {δ:List D} (s:Nat):nth (carry δ.length hl δ) s=if s∈hl then nth δ s else .bad:=by
 unfold carry;rw [sa,ut];have hlen:(NH δ.length).length=δ.length:=by rw [GC];simp
 rw [hlen,aco];split
 ·split
  ·rfl
  ·rename_i h
   by_cases hb:nth δ s = .bad
   ·exact hb.symm
   ·exact absurd (YZ hb) h
 ·rfl
theorem Inv.carry (h:Inv c B X w0 F0 F O a w δ) {hl:List Nat} (hk:nq c.K hl=true):Inv c B X w0 F0 F O a w (carry (lB c.K) hl δ):=by
 have e:lB c.K=δ.length:=by rw [pD,h.ld]
 rw [e];refine h.forget ?_ (fun s=>?_) (fun s r hv hb=>?_)
 ·unfold V.carry;rw [ed,GC];simp
 ·rw [Ju]
  split
  ·exact .inl rfl
  ·exact .inr rfl
 ·rw [Ju] at hb
  split at hb
  case isFalse=>exact absurd rfl hb
  rename_i hs;unfold nq at hk;rw [aje] at hk;have hks:=hk s hs;have hr:r∈hl:=by
   rcases hv with e | e<;>rw [e] at hks<;>simpa [jZ] using hks
  rw [Ju,if_pos hr];exact(h.root hv hb).2
theorem ji {V:Nat→Value} {k k':List D→Option Out} {r r':Out} (h:kr c B X w0 F0 V k r a w) (hk:∀δ F O,Inv c B X w0 F0 F O a w δ→k δ=some r→k' δ=some r'):kr c B X w0 F0 V k' r' a w:=by
 obtain⟨⟨F,O,δ,h1,h2⟩,h3⟩:=h;exact⟨⟨F,O,δ,h1,hk δ F O h1 h2⟩,h3⟩
theorem KW {V:Nat→Value} {b:Code} {bid:Nat} {hl xl:List Nat} (h1:nq c.K hl=true) (h2:nq c.K xl=true)
  (ih:∀(F:Nat→Prop) (O:Nat→Option (Nat × Nat)) (a:Act) (w:World) (δ:List D),Inv c B X w0 F0 F O a w δ→IoV c V a→∀(k:Out→Option Out) (r:Out),den c bid b δ k=some r→∀Q,(∀e a w,TK c B X w0 F0 V k r e a w→Q e a w)→b.wp P Q a w)
  {k:Out→Option Out} {r:Out} {Q:Exit→Act→World→Prop} (hQ:∀e a w,TK c B X w0 F0 V k r e a w→Q e a w) {o:Out}
  (ho:bV o (fun i s=>iX (lB c.K) xl s fun δ=>k (.ext i δ)) (fun x y=>k (.ret x y))=some r):∀(n:Nat) (F:Nat→Prop) (O:Nat→Option (Nat × Nat)) (a:Act) (w:World) (δ:List D),Inv c B X w0 F0 F O a w δ→IoV c V a →
  iter (fun s=>iX (lB c.K) hl s fun δ=>den c bid b δ (ck hl xl)) n (aB δ hl)=some o→Code.rounds P b Q n a w
 | 0,_,_,_,_,_,_,_,h=>by cases h
 | n+1,F,O,a,w,δ,hI,hV,h=>by
  simp only [iter,mM] at h;rw [rounds_succ];have hI':=hI.carry h1;cases hb:den c bid b (carry (lB c.K) hl δ) (ck hl xl) with
  | none=>rw [hb] at h;cases h
  | some ob =>
   rw [hb] at h;refine ih F O a w _ hI' hV _ ob hb _ (fun e a' w' hp=>?_)
   cases ob with
   | nrm s' =>
    simp only at h;cases e with
    | normal =>
     obtain⟨⟨F',O',δ',g1,g2⟩,g3⟩:=hp;simp only [ck,cg,aiV,Out.nrm.injEq] at g2;rw [←g2] at h;exact KW h1 h2 ih hQ ho n F' O' a' w' δ' g1 g3 h
    | exit i =>
     obtain⟨⟨F',O',δ',g1,g2⟩,g3⟩:=hp;simp [ck,cg] at g2
    | ret =>
     obtain⟨⟨F',O',δ',g1,g2⟩,g3⟩:=hp;obtain⟨rs,_,_,g4⟩:=hY g2;simp [ck] at g4
    | _=>exact hp.elim
   | ext i l =>
    simp only [aiV] at h;subst h;cases e with
    | normal =>
     obtain⟨⟨F',O',δ',g1,g2⟩,g3⟩:=hp;simp [ck,cg] at g2
    | exit j =>
     obtain⟨⟨F',O',δ',g1,g2⟩,g3⟩:=hp;simp only [ck,cg,aiV,Out.ext.injEq] at g2;obtain⟨rfl,rfl⟩:=g2;simp only [bV,mM] at ho;exact hQ (.exit j) _ _ ⟨⟨F',O',_,g1.carry h2,ho⟩,g3⟩
    | ret =>
     obtain⟨⟨F',O',δ',g1,g2⟩,g3⟩:=hp;obtain⟨rs,_,_,g4⟩:=hY g2;simp [ck] at g4
    | _=>exact hp.elim
   | ret x y =>
    simp only [aiV] at h;subst h;cases e with
    | normal =>
     obtain⟨⟨F',O',δ',g1,g2⟩,g3⟩:=hp;simp [ck,cg] at g2
    | exit j =>
     obtain⟨⟨F',O',δ',g1,g2⟩,g3⟩:=hp;simp [ck,cg] at g2
    | ret =>
     obtain⟨⟨F',O',δ',g1,g2⟩,g3⟩:=hp;obtain⟨rs,g5,g6,g4⟩:=hY g2;simp only [ck,aiV,Out.ret.injEq] at g4;obtain⟨rfl,rfl⟩:=g4;exact hQ .ret _ _ ⟨⟨F',O',δ',g1,Co g5 g6 ho⟩,g3⟩
    | _=>exact hp.elim
theorem lk (hT:okT P c.T=true) (hS:∀f S,en c.S f=some S→au c.G P f S) (hm:P.follows .mixedOrders=true) {V:Nat→Value}:∀(b:Code) (bid:Nat),eR c bid b=true→∀(F:Nat→Prop) (O:Nat→Option (Nat × Nat)) (a:Act) (w:World) (δ:List D),
  Inv c B X w0 F0 F O a w δ→IoV c V a→∀(k:Out→Option Out) (r:Out),den c bid b δ k=some r→∀Q,(∀e a w,TK c B X w0 F0 V k r e a w→Q e a w)→b.wp P Q a w
 | .skip,bid,_,F,O,a,w,δ,hI,hV,k,r,hg,Q,hQ=>wp_skip (hQ _ _ _ ⟨⟨F,O,δ,hI,hg⟩,hV⟩)
 | .region id ops d,bid,hok,F,O,a,w,δ,hI,hV,k,r,hg,Q,hQ=>by
  simp only [eR,aiU,aje] at hok;have hq:∀a w,kr c B X w0 F0 V (fun δ=>k (.nrm δ)) r a w→Q .normal a w:=fun a w h=>hQ _ _ _ h
  cases d
  ·exact wp_region_list (Gf hT hS hq ops.toList hok.1 F O a w δ hI hV hg)
  ·exact SO hT hS (by simpa using hok.2) hm hq hok.1 hI hV hg id
 | .seq x y,bid,hok,F,O,a,w,δ,hI,hV,k,r,hg,Q,hQ=>by
  simp only [eR,aiU] at hok;refine wp_seq (lk hT hS hm x bid hok.1 F O a w δ hI hV _ r hg _ (fun e a' w' hp=>?_))
  cases e with
  | normal =>
   obtain⟨⟨F',O',δ',hI',hk'⟩,hV'⟩:=hp;exact lk hT hS hm y bid hok.2 F' O' a' w' δ' hI' hV' k r hk' Q hQ
  | exit id=>exact hQ _ _ _ hp
  | ret=>exact hQ _ _ _ hp
  | _=>exact hp.elim
 | .cond x t e,bid,hok,F,O,a,w,δ,hI,hV,k,r,hg,Q,hQ=>by
  simp only [eR,aiU] at hok;obtain⟨⟨hlv,hok1⟩,hok2⟩:=hok;have hop:=hI.opd (cT.1 hlv);have key:ifD (opD δ x) (den c bid t δ k) (den c bid e δ k)=some r:=by
   simp only [den] at hg;cases x with
   | tmp s=>simpa only [opC,fH,opD] using hg
   | const v=>simpa only [opC,opD] using hg
   | func f=>simpa only [opC,opD] using hg
   | global g=>simp [opC] at hg
  unfold ifD at key;split at key
  ·rename_i hd
   rw [hd] at hop;exact wp_cond_true (bG hop).1 (lk hT hS hm t bid hok1 F O a w δ hI hV k r key Q hQ)
  ·rename_i hd
   rw [hd] at hop;exact wp_cond_false (bG hop).1 (lk hT hS hm e bid hok2 F O a w δ hI hV k r key Q hQ)
  ·cases key
 | .block id b,bid,hok,F,O,a,w,δ,hI,hV,k,r,hg,Q,hQ=>by
  simp only [eR] at hok;refine wp_block (lk hT hS hm b id hok F O a w δ hI hV _ r hg _ (fun e a' w' hp=>?_))
  cases e with
  | normal=>exact hQ .normal _ _ hp
  | exit i =>
   simp only [Exit.inBlock];have hp':kr c B X w0 F0 V (fun δ=>LL id (.ext i δ) k) r a' w':=hp;split
   ·rename_i hi
    refine hQ .normal _ _ (ji hp' fun δ F O _ h=>?_)
    simp only [LL] at h;rw [bd.2 (by simpa using hi)] at h;exact h
   ·rename_i hi
    refine hQ (.exit i) _ _ (ji hp' fun δ F O _ h=>?_)
    simp only [LL] at h;cases hb:ai5 i id
    ·rw [hb] at h;exact h
    ·exact absurd (by simpa using bd.1 hb) hi
  | ret=>exact hQ .ret _ _ hp
  | _=>exact hp.elim
 | .loop b,bid,hok,F,O,a,w,δ,hI,hV,k,r,hg,Q,hQ=>by
  simp only [eR,aiU] at hok;obtain⟨hok1,hok2⟩:=hok;simp only [den] at hg;cases hH:en c.H bid with
  | none=>rw [hH] at hg;cases hg
  | some hx =>
   obtain⟨hl,xl⟩:=hx;rw [hH] at hg hok2;simp only [aiU] at hok2;simp only [cg] at hg;obtain⟨o',h1,h2⟩:=aiT.1 hg;unfold ba at h1;split at h1
   case isFalse=>cases h1
   rename_i hex;refine wp_loop_rounds (ajd hex) ?_
   refine KW (hl:=hl) (xl:=xl) hok2.1 hok2.2 (fun F O a w δ hI hV k r hg Q hQ=>lk hT hS hm b bid hok1 F O a w δ hI hV k r hg Q hQ) hQ h2 _ F O a w δ hI hV h1
 | .exit id,bid,_,F,O,a,w,δ,hI,hV,k,r,hg,Q,hQ=>wp_exit (hQ _ _ _ ⟨⟨F,O,δ,hI,hg⟩,hV⟩)
 | .ret,bid,_,F,O,a,w,δ,hI,hV,k,r,hg,Q,hQ=>wp_ret (hQ _ _ _ ⟨⟨F,O,δ,hI,hg⟩,hV⟩)
 | .label _,_,hok,_,_,_,_,_,_,_,_,_,_,_,_=>by simp [eR] at hok
 | .goto _,_,hok,_,_,_,_,_,_,_,_,_,_,_,_=>by simp [eR] at hok
 | .scope _,_,hok,_,_,_,_,_,_,_,_,_,_,_,_=>by simp [eR] at hok
end
end Go.V

namespace Go.V
open Go.RowKit
def EZ:List ResultVar→List Nat
 | []=>[]
 | .tmp t::l=>t::EZ l
 | .cell _ _::l=>EZ l
def dJ (c:Cx):List ResultVar→List Kd→Bool
 | [],[]=>true
 | .tmp t::l,.dat lv::m=>(match aD c.K t with
  | .dat l'=>ajZ l' lv
  | _=>false)&&dJ c l m
 | .tmp t::l,.own z lv false::m=>(match aD c.K t with
  | .own z' l' false=>ai5 z' z&&ajZ l' lv
  | _=>false) && !oL t (EZ l)&&dJ c l m
 | .cell s t::l,.dat lv::m=>(match aD c.K s with
  | .box _ l' _=>ajZ l' lv
  | _=>false)&&(en c.T t).isSome&&dJ c l m
 | _,_=>false
def zF:Nat→List Kd→List Nat
 | _,[]=>[]
 | i,k::ks=>if vd k then i::zF (i+1) ks else zF (i+1) ks
def eqK:Kd→Kd→Bool
 | .dat a,.dat b=>ai5 a b
 | .own a b io,.own a' b' io'=>ai5 a a'&&ai5 b b'&&io==io'
 | .box a b io,.box a' b' io'=>ai5 a a'&&ai5 b b'&&io==io'
 | _,_=>false
def Ti:List Kd→List Kd→Bool
 | [],_=>true
 | k::ks,l::ls=>eqK k l&&Ti ks ls
 | _,_=>false
section
variable {P:Program} {c:Cx} {B:Nat} {X:Nat→Prop} {w0:World} {F0 F:Nat→Prop} {O:Nat→Option (Nat × Nat)} {a:Act} {w:World} {δ:List D}
def sZ (tmps:Array Value):ResultVar→Sem Value
 | .tmp t=>pure (tmps.getD t undef)
 | .cell a t=>do loadVar t (←asAddr (tmps.getD a undef))
theorem agC {k l:Kd} (h:eqK k l=true):k=l:=by
 unfold eqK at h;split at h
 ·rw [bd] at h;rw [h]
 ·simp only [aiU,bd,beq_iff_eq] at h
  obtain⟨⟨rfl,rfl⟩,rfl⟩:=h;rfl
 ·simp only [aiU,bd,beq_iff_eq] at h
  obtain⟨⟨rfl,rfl⟩,rfl⟩:=h;rfl
 ·cases h
theorem Ce:∀{ks ls:List Kd},Ti ks ls=true→ks.length≤ls.length∧∀(i:Nat),i<ks.length→aD ls i=aD ks i
 | [],_,_=>⟨by simp,by simp⟩
 | k::ks,l::ls,h=>by
  simp only [Ti,aiU] at h;obtain⟨h1,h2⟩:=Ce h.2;refine⟨by simp;exact h1,fun i hi=>?_⟩
  cases i with
  | zero=>simp only [aD];exact(agC h.1).symm
  | succ i=>simp only [aD];exact h2 i (by simpa using hi)
 | _::_,[],h=>by simp [Ti] at h
def ahj (B:Nat) (O:Nat→Option (Nat × Nat)) (res:List ResultVar) (j:Nat) (g:Nat):Prop:=B≤g∧∃t,res[j]?=some (.tmp t)∧O g=some (t,0)
theorem oZ {w:World} {F:Nat→Prop} {B:Nat} {own own':Nat→Prop} {k:Kd} {d:D} {y:Value} (ho:(∃z lv,k = .own z lv false)→∀g,own g→own' g) (h:VB w F B own k d y):VB w F B own' k d y:=by
 rcases h with h | h
 ·exact .inl h
 ·refine .inr ?_
  cases k with
  | own z lv io =>
   cases io
   ·exact h.own fun _ _ hg=>⟨ho ⟨z,lv,rfl⟩ _ hg.1,hg.2⟩
   ·exact h
  | _=>exact h
theorem Cc (hT:okT P c.T=true) (hI:Inv c B X w0 F0 F O a w δ):∀(res:List ResultVar) (rm:List Kd) (rs:List D),dJ c res rm=true→sg c δ res (fun rs=>some (.nrm rs))=some (.nrm rs) →
  ∃vs:List Value,(res.mapM (sZ a.tmps)).run P w = .ok vs w∧vs.length=rm.length∧rs.length=rm.length∧∀j,VB w F B (ahj B O res j) (aD rm j) (nth rs j) (vs.getD j undef)
 | [],[],rs,_,h=>by
  simp only [sg,aiV,Out.nrm.injEq] at h;subst h;exact⟨[],by simp,rfl,rfl,fun j=>.inl (by simp [nth])⟩
 | .tmp t::l,.dat lv::m,rs,hok,h=>by
  simp only [dJ,aiU] at hok;simp only [sg,fH] at h;rw [nr] at h;obtain⟨o,h1,h2⟩:=aiT.1 h;split at h2
  case h_2=>cases h2
  rename_i rs';simp only [aiV,Out.nrm.injEq] at h2;subst h2;obtain⟨vs,g1,g2,g3,g4⟩:=Cc hT hI l m rs' hok.2 h1;refine⟨a.tmps.getD t undef::vs,by simp [ajJ,sZ,g1],by simp [g2],by simp [g3],fun j=>?_⟩
  cases j with
  | zero =>
   simp only [aD,nth,ajg];have hk:=hok.1;split at hk
   case h_2=>cases hk
   rename_i l' hkt;exact(kP (cT.1 hk) (hI.dat hkt))
  | succ j =>
   refine oZ (fun _ g hg=>?_) (g4 j)
   obtain⟨e1,t',e2,e3⟩:=hg;exact⟨e1,t',by simpa using e2,e3⟩
 | .tmp t::l,.own z lv false::m,rs,hok,h=>by
  simp only [dJ,aiU] at hok;simp only [sg,fH] at h;rw [nr] at h;obtain⟨o,h1,h2⟩:=aiT.1 h;split at h2
  case h_2=>cases h2
  rename_i rs';simp only [aiV,Out.nrm.injEq] at h2;subst h2;obtain⟨vs,g1,g2,g3,g4⟩:=Cc hT hI l m rs' hok.2 h1;refine⟨a.tmps.getD t undef::vs,by simp [ajJ,sZ,g1],by simp [g2],by simp [g3],fun j=>?_⟩
  cases j with
  | zero =>
   simp only [aD,nth,ajg];have hk:=hok.1.1;split at hk
   case h_2=>cases hk
   rename_i z' l' hkt;simp only [aiU,bd,cT] at hk;obtain⟨rfl,hle⟩:=hk;by_cases hb:nth δ t = .bad
   ·exact .inl hb
   ·exact .inr (eH (qv hle) (fun _ _=>rfl) (fun g _ hg=>⟨⟨⟨hg.2 rfl,t,rfl,hg.1⟩,hg.2 rfl⟩,rfl⟩) (hI.own hkt hb))
  | succ j =>
   refine oZ (fun _ g hg=>?_) (g4 j)
   obtain⟨e1,t',e2,e3⟩:=hg;exact⟨e1,t',by simpa using e2,e3⟩
 | .cell s t::l,.dat lv::m,rs,hok,h=>by
  simp only [dJ,aiU] at hok;simp only [sg] at h;split at h
  case h_2=>cases h
  rename_i i hi;simp only [fH] at h;obtain⟨y,hy,h⟩:=aiT.1 h;rw [nr] at h;obtain⟨o,h1,h2⟩:=aiT.1 h;split at h2
  case h_2=>cases h2
  rename_i rs';simp only [aiV,Out.nrm.injEq] at h2;subst h2;obtain⟨vs,g1,g2,g3,g4⟩:=Cc hT hI l m rs' hok.2 h1;have hk:=hok.1.1;split at hk
  case h_2=>cases hk
  rename_i n l' io hks;rw [cT] at hk;have hb:nth δ s ≠ .bad:=by
   intro e;rw [e] at hy;simp [bf] at hy
  obtain⟨mm,us,g,e,hd',a1,a2,a3,a4,a5,a6⟩:=hI.box hks hb;rw [hd'] at hy;simp only [bf,ai2] at hy;have hcell:cN w g 0 us:=vr a2 (fun i u hu=>by simpa using hu);obtain⟨v,hv,hr⟩:=Jb (P:=P) (tok hT hi) a3 a4 hcell hy;have hv':(sZ a.tmps (.cell s t)).run P w = .ok v w:=by
   have e1:a.tmps.getD s undef = .pointer (some ⟨g,0,none⟩):=a1;simp only [sZ,e1];simpa [Instr.loadAt,Instr.sureAddr,asAddr] using hv
  refine⟨v::vs,by simp [ajJ,hv',g1],by simp [g2],by simp [g3],fun j=>?_⟩
  cases j with
  | zero =>
   simp only [aD,nth,ajg];exact .inr (co (qv hk) (fun _ _=>rfl) hr)
  | succ j =>
   refine oZ (fun _ g hg=>?_) (g4 j)
   obtain⟨e1,t',e2,e3⟩:=hg;exact⟨e1,t',by simpa using e2,e3⟩
 | [],_::_,_,hok,_=>by simp [dJ] at hok
 | .tmp _::_,[],_,hok,_=>by simp [dJ] at hok
 | .cell _ _::_,[],_,hok,_=>by simp [dJ] at hok
 | .tmp _::_,.own _ _ true::_,_,hok,_=>by simp [dJ] at hok
 | .tmp _::_,.box _ _ _::_,_,hok,_=>by simp [dJ] at hok
 | .tmp _::_,.via _::_,_,hok,_=>by simp [dJ] at hok
 | .tmp _::_,.ref _::_,_,hok,_=>by simp [dJ] at hok
 | .tmp _::_,.tup _::_,_,hok,_=>by simp [dJ] at hok
 | .tmp _::_,.no::_,_,hok,_=>by simp [dJ] at hok
 | .cell _ _::_,.own _ _ _::_,_,hok,_=>by simp [dJ] at hok
 | .cell _ _::_,.box _ _ _::_,_,hok,_=>by simp [dJ] at hok
 | .cell _ _::_,.via _::_,_,hok,_=>by simp [dJ] at hok
 | .cell _ _::_,.ref _::_,_,hok,_=>by simp [dJ] at hok
 | .cell _ _::_,.tup _::_,_,hok,_=>by simp [dJ] at hok
 | .cell _ _::_,.no::_,_,hok,_=>by simp [dJ] at hok
def Dd:List ResultVar→Nat→Nat→Option Nat
 | [],_,_=>none
 | .tmp t::l,s,j=>if t=s then some j else Dd l s (j+1)
 | .cell _ _::l,s,j=>Dd l s (j+1)
theorem FV:∀{res:List ResultVar} {j t:Nat},res[j]?=some (.tmp t)→t∈EZ res
 | .tmp s::l,0,t,h=>by simp at h;simp [EZ,h]
 | .cell _ _::l,0,t,h=>by simp at h
 | .tmp s::l,j+1,t,h=>by simp only [EZ,ai1];exact .inr (FV (by simpa using h))
 | .cell _ _::l,j+1,t,h=>by simp only [EZ];exact FV (by simpa using h)
theorem rR:∀(res:List ResultVar) (rm:List Kd),dJ c res rm=true→∀(j t i:Nat) (z lv:Nat),aD rm j = .own z lv false→res[j]?=some (.tmp t)→Dd res t i=some (i+j)∧∃z' l',aD c.K t = .own z' l' false
 | [],[],_,j,t,i,z,lv,h,_=>by simp [aD] at h
 | .tmp s::l,.dat lv'::m,hok,j,t,i,z,lv,h,hj=>by
  simp only [dJ,aiU] at hok;cases j with
  | zero=>simp [aD] at h
  | succ j =>
   obtain⟨h1,h2⟩:=rR l m hok.2 j t (i+1) z lv (by simpa [aD] using h) (by simpa using hj);refine⟨?_,h2⟩
   simp only [Dd];rw [if_neg,h1]
   ·congr 1;omega
   ·rintro rfl
    obtain⟨z',l',hk⟩:=h2;rw [hk] at hok;cases hok.1
 | .tmp s::l,.own z0 lv0 false::m,hok,j,t,i,z,lv,h,hj=>by
  simp only [dJ,aiU] at hok;cases j with
  | zero =>
   simp at hj;subst hj;refine⟨by simp [Dd],?_⟩
   have hk:=hok.1.1;split at hk
   ·exact⟨_,_,‹_›⟩
   ·cases hk
  | succ j =>
   obtain⟨h1,h2⟩:=rR l m hok.2 j t (i+1) z lv (by simpa [aD] using h) (by simpa using hj);refine⟨?_,h2⟩
   simp only [Dd];rw [if_neg,h1]
   ·congr 1;omega
   ·rintro rfl
    have hm:=hok.1.2;rw [jZ] at hm;simp only [ai4,decide_eq_false_iff_not] at hm;exact hm (FV (by simpa using hj))
 | .cell s s'::l,.dat lv'::m,hok,j,t,i,z,lv,h,hj=>by
  simp only [dJ,aiU] at hok;cases j with
  | zero=>simp [aD] at h
  | succ j =>
   obtain⟨h1,h2⟩:=rR l m hok.2 j t (i+1) z lv (by simpa [aD] using h) (by simpa using hj);refine⟨?_,h2⟩
   simp only [Dd];rw [h1];congr 1;omega
 | [],_::_,hok,_,_,_,_,_,_,_=>by simp [dJ] at hok
 | .tmp _::_,[],hok,_,_,_,_,_,_,_=>by simp [dJ] at hok
 | .cell _ _::_,[],hok,_,_,_,_,_,_,_=>by simp [dJ] at hok
 | .tmp _::_,.own _ _ true::_,hok,_,_,_,_,_,_,_=>by simp [dJ] at hok
 | .tmp _::_,.box _ _ _::_,hok,_,_,_,_,_,_,_=>by simp [dJ] at hok
 | .tmp _::_,.via _::_,hok,_,_,_,_,_,_,_=>by simp [dJ] at hok
 | .tmp _::_,.ref _::_,hok,_,_,_,_,_,_,_=>by simp [dJ] at hok
 | .tmp _::_,.tup _::_,hok,_,_,_,_,_,_,_=>by simp [dJ] at hok
 | .tmp _::_,.no::_,hok,_,_,_,_,_,_,_=>by simp [dJ] at hok
 | .cell _ _::_,.own _ _ _::_,hok,_,_,_,_,_,_,_=>by simp [dJ] at hok
 | .cell _ _::_,.box _ _ _::_,hok,_,_,_,_,_,_,_=>by simp [dJ] at hok
 | .cell _ _::_,.via _::_,hok,_,_,_,_,_,_,_=>by simp [dJ] at hok
 | .cell _ _::_,.ref _::_,hok,_,_,_,_,_,_,_=>by simp [dJ] at hok
 | .cell _ _::_,.tup _::_,hok,_,_,_,_,_,_,_=>by simp [dJ] at hok
 | .cell _ _::_,.no::_,hok,_,_,_,_,_,_,_=>by simp [dJ] at hok
theorem BQ {w:World} {F:Nat→Prop} {ow:Nat→Option Nat}:∀(pm:List Kd) (ds:List D) (ys:List Value) (i:Nat),fB w F ow i pm ds ys→ds.length=pm.length∧ys.length=pm.length∧∀(j:Nat),j<pm.length→eX w F (fun g=>ow g=some (i+j)) (aD pm j) (nth ds j) (ys.getD j undef)
 | [],[],[],_,_=>⟨rfl,rfl,fun j h=>by simp at h⟩
 | k::pm,d::ds,y::ys,i,h=>by
  obtain⟨h1,h2⟩:=h;obtain⟨g1,g2,g3⟩:=BQ pm ds ys (i+1) h2;refine⟨by simp [g1],by simp [g2],fun j hj=>?_⟩
  cases j with
  | zero=>exact h1
  | succ j =>
   have:=g3 j (by simpa using hj);simp only [aD,nth,List.getD_cons_succ];rw [show i+(j+1)=i+1+j from by omega];exact this
 | [],[],_::_,_,h=>h.elim
 | [],_::_,_,_,h=>h.elim
 | _::_,[],_,_,h=>h.elim
 | _::_,_::_,[],_,h=>h.elim
theorem MU {w:World} {F:Nat→Prop} {δ:List D}:∀(pm:List Kd) (ys:List Value) (i:Nat),ys.length=pm.length→(∀(j:Nat),j<pm.length→vd (aD pm j)=true→nth δ (i+j) ≠ .bad∧eX w F (fun _=>True) (aD pm j) (nth δ (i+j)) (ys.getD j undef))→xn w F pm (aB δ (zF i pm)) ys
 | [],ys,i,_,_=>by simp [zF,aB,xn]
 | k::pm,[],i,hl,_=>by simp at hl
 | k::pm,y::ys,i,hl,h=>by
  have ih:=MU pm ys (i+1) (by simpa using hl) (fun j hj hio=>by
   have:=h (j+1) (by simpa using hj) (by simpa [aD] using hio);rw [show i+1+j=i+(j+1) from by omega];simpa [aD] using this)
  cases hk:vd k with
  | true =>
   have h0:=h 0 (by simp) (by simpa [aD] using hk);simp only [zF,hk,if_true,aB,xn];exact⟨by simpa using h0.1,by simpa [aD] using h0.2,ih⟩
  | false=>simpa only [zF,hk,ajt,if_false,xn] using ih
theorem BP:∀(pm:List Kd) (i j:Nat),j<pm.length→vd (aD pm j)=true→i+j∈zF i pm
 | k::pm,i,0,_,h=>by
  simp only [aD] at h;simp [zF,h]
 | k::pm,i,j+1,hj,h=>by
  have ih:=BP pm (i+1) j (by simpa using hj) (by simpa [aD] using h);rw [show i+(j+1)=i+1+j from by omega];simp only [zF];split
  ·exact List.mem_cons_of_mem _ ih
  ·exact ih
theorem vO:∀(n:Nat) (l:List D) (s:Nat),l.length≤n→nth (vB n l) s=nth l s
 | 0,l,s,h=>by
  have:l=[]:=ajj (by omega);subst this;simp [vB]
 | n+1,[],s,_=>by
  cases s with
  | zero=>simp [nth]
  | succ s=>simp only [nth];rw [vO n [] s (by simp)]
 | n+1,d::l,s,h=>by
  cases s with
  | zero=>simp [nth]
  | succ s=>simp only [nth];exact vO n l s (by simpa using h)
theorem vY:∀(n:Nat) (l:List D),(vB n l).length=n
 | 0,_=>rfl
 | n+1,[]=>by simp [vB,vY n []]
 | n+1,_::l=>by simp [vB,vY n l]
def Yv (c:Cx) (fn:Func) (pm rm:List Kd):Bool :=
 (match fn.body with
  | some b=>eR c 0 b
  | none=>false)&&ai5 (lB c.K) fn.ntmps&&Ti pm c.K&&ni pm&&dJ c c.res rm&&decide (c.ios=zF 0 pm)
theorem xh:∀{pm:List Kd},ni pm=true→∀j,j<pm.length→(∃lv,aD pm j = .dat lv∧lv≠1)∨(∃z lv,aD pm j = .own z lv true∧lv≠1)∨∃n lv,aD pm j = .box n lv true∧lv≠1
 | m::pm,h,j,hj=>by
  obtain⟨h1,h2,h3⟩:=SY h;cases j with
  | succ j=>exact xh h1 j (by simpa using hj)
  | zero =>
   simp only [aD];cases m with
   | dat lv =>
    refine .inl ⟨lv,rfl,?_⟩
    simp only [ni] at h;split at h
    case h_2=>cases h
    rename_i e1 e2;intro e;subst e;simp at e1
   | own z lv io =>
    cases io
    ·simp [ni] at h
    ·exact .inr (.inl ⟨z,lv,rfl,h2 z lv rfl⟩)
   | box n lv io =>
    cases io
    ·simp [ni] at h
    ·exact .inr (.inr ⟨n,lv,rfl,h3 n lv rfl⟩)
   | _=>simp [ni] at h
theorem acD (hT:okT P c.T=true) (hS:∀f S,en c.S f=some S→au c.G P f S) (hm:P.follows .mixedOrders=true) {f:FuncId} {fn:Func} (hf:P.funcs[f]?=some fn) {pm rm:List Kd} (hok:Yv c fn pm rm=true) (hres:c.res=fn.results.toList)
  {ds rs us:List D} (hd:aX c fn ds=some (.ret rs us)) {args:Array Value} {w:World} {F:Nat→Prop} {ow:Nat→Option Nat} (hgl:gOk c.G w F) (ha:fB w F ow 0 pm ds args.toList) (hF:∀b,F b→b<w.heap.size∧ow b=none) (hO:∀b i,ow b=some i→b<w.heap.size) :
  Calls P f args w fun e w'=>∃v,e = .returned v∧∃F' R vs,v=lA vs∧CallPost {pm:=pm,rm:=rm,f:=aX c fn} args rs us w F ow F' R vs w':=by
 unfold Yv at hok;simp only [aiU,decide_eq_true_eq] at hok;obtain⟨⟨⟨⟨⟨hcode,hlenK⟩,hpre⟩,hpm⟩,hokr⟩,hios⟩:=hok;rw [bd,pD] at hlenK;obtain⟨hpl,hpn⟩:=Ce hpre;obtain⟨hdl,hal,hargs⟩:=BQ pm ds args.toList 0 ha;have hasz:args.size=pm.length:=by simpa using hal
 unfold aX at hd;cases hb:fn.body with
 | none=>rw [hb] at hd;cases hd
 | some b =>
  rw [hb] at hd hcode;simp only at hd hcode;refine calls_of_wp hf hb ?_
  have hav:∀s,s<pm.length→av ({tmps:=args++aji (fn.ntmps - args.size) undef,defers:=[]}:Act) s=args.toList.getD s undef:=fun s hs=>by
   have h1:s<args.size:=by omega
   simp only [av,aiY,aiX,ajl];rw [ajB h1]
  have hinit:Inv c w.heap.size (fun b=>ow b≠none) w F F (fun b=>(ow b).map fun i=>(i,0)) {tmps:=args++aji (fn.ntmps - args.size) undef,defers:=[]} w (vB fn.ntmps ds):=by
   refine⟨by simp;omega,by rw [vY,hlenK],rfl,fun s=>?_,fun b hb=>⟨(hF b hb).1,by simp [(hF b hb).2]⟩,fun b p hp=>?_,fun _ h=>h,fun _ h=>.inl h,ajp _,rfl,rfl,rfl,fun _ _ _=>rfl,hgl⟩
   ·unfold Gh
    rw [vO _ _ _ (by rw [hdl];omega)];by_cases hs:s<pm.length
    ·rw [hpn s hs,hav s hs]
     rcases hargs s hs with hbad | harg
     ·exact .inl hbad
     refine .inr ?_
     have hlv:∀lv,lv≠1→∀b,FB F 0 lv b→FB F w.heap.size lv b:=fun lv h1 b hb=>by
      match lv,h1 with
      | 0,_=>exact hb
      | _+2,_=>exact hb
     rcases xh hpm s hs with ⟨lv,hk,h1⟩ | ⟨z,lv,hk,h1⟩ | ⟨n,lv,hk,h1⟩
     ·rw [hk] at harg ⊢
      exact .inr (co (hlv lv h1) (fun _ _=>rfl) harg)
     ·rw [hk] at harg ⊢
      exact .inr (eH (hlv lv h1) (fun _ _=>rfl) (fun g _ hg=>⟨⟨by simp only [ajP] at hg;simp [hg],fun h=>by cases h⟩,rfl⟩) harg)
     ·rw [hk] at harg ⊢
      exact .inr (mz (hlv lv h1) (fun _ _=>rfl) (fun g _ hg=>⟨⟨by simp only [ajP] at hg;simp [hg],fun h=>by cases h⟩,rfl⟩) harg)
    ·refine .inl ?_
     rw [jk,aiX,ajk (by omega)];rfl
   ·obtain⟨i,hi,rfl⟩:=aiW.1 hp
    exact⟨hO b i hi,.inr (by rw [hi];simp)⟩
  refine lk hT hS hm b 0 hcode F _ _ w _ hinit (V:=av {tmps:=args++aji (fn.ntmps - args.size) undef,defers:=[]}) (fun _ _=>rfl) _ _ hd _ (fun e a' w' hp=>?_)
  have fin:kr c w.heap.size (fun b=>ow b≠none) w F (av {tmps:=args++aji (fn.ntmps - args.size) undef,defers:=[]}) (fun δ=>VD c δ some) (.ret rs us) a' w'→a'.defers=[]∧∃v,(results fn a'.tmps).run P w' = .ok v w'∧∃v',Ending.returned v = .returned v'∧∃F' R vs,v'=lA vs∧CallPost {pm:=pm,rm:=rm,f:=aX c fn} args rs us w F ow F' R vs w':=by
   rintro⟨⟨F',O',δ',hI',hk⟩,hV'⟩;obtain⟨rs',h1,h2,h3⟩:=hY hk;simp only [aiV,Out.ret.injEq] at h3;obtain⟨rfl,rfl⟩:=h3;obtain⟨vs,g1,g2,g3,g4⟩:=Cc (P:=P) hT hI' c.res rm rs' hokr h1;refine⟨hI'.df,lA vs,?_,_,rfl,F',fun b=>if w.heap.size≤b then(match O' b with
    | some (t,0)=>Dd c.res t 0
    | _=>none) else none,vs,rfl,?_⟩
   ·have hrun:(fn.results.mapM (sZ a'.tmps)).run P w' = .ok vs.toArray w':=by
     rw [Array.mapM_eq_mapM_toList,←hres];simp [g1]
    have hrw:results fn a'.tmps=(do
      let vs ←fn.results.mapM (sZ a'.tmps)
      pure (if h:vs.size=1 then vs[0] else .tuple vs)):=by
     unfold results;congr 1
    rw [hrw];simp only [Sem.run_bind,hrun,Result.andThen_ok,Sem.run_pure];congr 1
    rcases vs with _ | ⟨y,_ | ⟨y',vs⟩⟩
    ·simp [lA]
    ·simp [lA]
    ·simp [lA]
   ·refine⟨hI'.os,hI'.tape,hI'.output,hI'.bb,fun b hb ho=>hI'.keep b hb (by simp [ho]),hI'.f0,fun b hb=>⟨hI'.fn b hb,(hI'.fl b hb).1,by simp only [(hI'.fl b hb).2];split<;>rfl⟩,fun b j hj=>?_,g2,g3,fun j=>?_,?_⟩
    ·split at hj
     case isFalse=>cases hj
     rename_i hB;refine⟨hB,?_⟩
     split at hj
     ·rename_i t he;exact(hI'.ol b _ he).1
     ·cases hj
    ·refine oZ (fun hk g hg=>?_) (g4 j)
     obtain⟨z,lv,hk⟩:=hk;obtain⟨e1,t,e2,e3⟩:=hg;rw [if_pos e1];simp only [e3];have:=(rR c.res rm hokr j t 0 z lv hk e2).1;simpa using this
    ·rw [hios]
     refine MU pm args.toList 0 hal (fun j hj hio=>?_)
     rw [ajP];have hkj:=hpn j hj;have hbj:nth δ' j ≠ .bad:=by
      refine h2 _ ?_
      rw [hios,sa];exact List.mem_map_of_mem (by simpa using BP pm 0 j hj hio)
     have havj:av a' j=args.toList.getD j undef:=(hV' j (by rw [hkj];exact hio)).trans (hav j hj);have hlv:∀lv,lv≠1→∀b,FB F' w.heap.size lv b→FB F' 0 lv b:=fun lv h1 b hb=>by
      match lv,h1 with
      | 0,_=>exact hb
      | _+2,_=>exact hb
     refine⟨hbj,.inr ?_⟩
     rcases xh hpm j hj with ⟨lv,hk,h1⟩ | ⟨z,lv,hk,h1⟩ | ⟨n,lv,hk,h1⟩
     ·rw [hk] at hio;cases hio
     ·have h5:=hI'.own (hkj.trans hk) hbj
      rw [havj] at h5;rw [hk];exact eH (hlv lv h1) (fun _ _=>rfl) (fun _ _ _=>⟨trivial,rfl⟩) h5
     ·have h5:=hI'.box (hkj.trans hk) hbj
      rw [havj] at h5;rw [hk];exact mz (hlv lv h1) (fun _ _=>rfl) (fun _ _ _=>⟨trivial,rfl⟩) h5
  cases e with
  | normal=>exact fin hp
  | exit i =>
   obtain⟨⟨_,_,_,_,h⟩,_⟩:=hp;cases h
  | ret =>
   refine fin (ji hp fun δ F O _ h=>?_)
   obtain⟨rs',h1,h2,h3⟩:=hY h;exact Co h1 h2 h3
  | _=>exact hp.elim
theorem XB (hT:okT P c.T=true) (hS:∀f S,en c.S f=some S→au c.G P f S) (hm:P.follows .mixedOrders=true) {f:FuncId} {fn:Func} (hf:P.funcs[f]?=some fn) (hname:(fn.name=="runtime.NumGoroutine")=false) {pm rm:List Kd} (hok:Yv c fn pm rm=true) (hres:c.res=fn.results.toList) :
  au c.G P f {pm:=pm,rm:=rm,f:=aX c fn}:=by
 intro ds rs us hd args w F ow hgl ha hF hO o a next Q hn;have hbody:∃b,fn.body=some b:=by
  have hd':aX c fn ds=some (.ret rs us):=hd;unfold aX at hd';cases hb:fn.body with
  | none=>rw [hb] at hd';cases hd'
  | some b=>exact⟨b,rfl⟩
 obtain⟨b,hb⟩:=hbody;have hrun:(callFunc f args).run P w = .ok (.enter f args) w:=by
  have h1:¬fn.name="runtime.NumGoroutine":=by simpa using hname
  simp [callFunc,hf,h1,hb]
 rw [hrun,ajX];refine ajU (acD hT hS hm hf hok hres hd hgl ha hF hO) (fun e w' he=>?_)
 obtain⟨v,rfl,F',R,vs,h1,h2⟩:=he;exact hn v w' ⟨F',R,vs,h1,h2⟩
end
end Go.V

namespace Go.V
def sl (s:List D) (i:Nat):D:=nth s i
def ifN (b:Bool) (t e:Option Out):Option Out :=
 match b with
 | true=>t
 | false=>e
theorem al {P:Program} {G:List (Nat × (Obj→Prop))}:∀(f:Nat) (S:FS),en ([]:List (Nat × FS)) f=some S→au G P f S:=by
 intro f S h;cases h
theorem ab {P:Program} {G:List (Nat × (Obj→Prop))} {g:Nat} {S0:FS} {l:List (Nat × FS)} (h0:au G P g S0) (h:∀(f:Nat) (S:FS),en l f=some S→au G P f S):∀(f:Nat) (S:FS),en ((g,S0)::l) f=some S→au G P f S:=by
 intro f S hl;simp only [en] at hl;split at hl
 ·rename_i hb
  have:=bd.1 hb;subst this;cases hl;exact h0
 ·exact h f S hl
theorem aJ {P:Program} {G G':List (Nat × (Obj→Prop))} {f:Nat} {S:FS} (h:∀p∈G,p∈G') (hm:au G P f S):au G' P f S :=
 fun ds rs us hd args w F ow hg=>hm ds rs us hd args w F ow fun p hp=>hg p (h p hp)
open Classical in
def abd (R:Nat→List D→Option Out) (ds:List D):Option Out :=
 if h:∃n,(R n ds).isSome=true then R (ajd h) ds else none
theorem abv {R:Nat→List D→Option Out} {ds:List D} {r:Out} (h:abd R ds=some r):∃n,R n ds=some r:=by
 unfold abd at h;split at h
 ·exact⟨_,h⟩
 ·cases h
theorem afn {R:Nat→List D→Option Out} {ds:List D} {r:Out} (h:∀n o,R n ds=some o→o=r) (n:Nat) (hn:R n ds=some r):abd R ds=some r:=by
 unfold abd;have hx:∃n,(R n ds).isSome=true:=⟨n,by rw [hn];rfl⟩
 rw [dif_pos hx];obtain⟨o,ho⟩:=Option.isSome_iff_exists.1 (ai9 hx);rw [ho,h _ _ ho]
theorem Yy {P:Program} {G:List (Nat × (Obj→Prop))} {f:Nat} {S:FS} (h:∀ds,S.f ds=none):au G P f S:=by
 intro ds rs us hd;rw [h] at hd;cases hd
theorem abc {P:Program} {G:List (Nat × (Obj→Prop))} {f:Nat} {pm rm:List Kd} {R:Nat→List D→Option Out} (h:∀n,au G P f {pm:=pm,rm:=rm,f:=R n}):au G P f {pm:=pm,rm:=rm,f:=abd R}:=by
 intro ds rs us hd args w F ow hg ha hF hO o a next Q hq;obtain⟨n,hn⟩:=abv hd;refine h n ds rs us hn args w F ow hg ha hF hO o a next Q fun v w' hv=>?_
 obtain⟨F',R',vs,h1,h2⟩:=hv;exact hq v w' ⟨F',R',vs,h1,⟨h2.os,h2.tape,h2.output,h2.size,h2.keep,h2.f0,h2.fn,h2.rn,h2.len,h2.lenD,h2.res,h2.us⟩⟩
open Go.RowKit
section
variable {P:Program} {G:List (Nat × (Obj→Prop))}
theorem cd {f:FuncId} {S:FS} (he:∀args w,(callFunc f args).run P w = .ok (.enter f args) w)
  (h:∀ds rs us,S.f ds=some (.ret rs us)→∀(args:Array Value) (w:World) (F:Nat→Prop) (ow:Nat→Option Nat),gOk G w F→fB w F ow 0 S.pm ds args.toList→(∀b,F b→b<w.heap.size∧ow b=none)→(∀b i,ow b=some i→b<w.heap.size) →
   Calls P f args w fun e w'=>∃v,e = .returned v∧∃F' R vs,v=lA vs∧CallPost S args rs us w F ow F' R vs w'):au G P f S:=by
 intro ds rs us hd args w F ow hg ha hF hO o a next Q hn;rw [he,ajX];refine ajU (h ds rs us hd args w F ow hg ha hF hO) (fun e w' hv=>?_)
 obtain⟨v,rfl,F',R,vs,h1,h2⟩:=hv;exact hn v w' ⟨F',R,vs,h1,h2⟩
theorem SK {w:World} {F:Nat→Prop}:∀(ks:List Kd) (ys:List Value),(ks.all fun k=>!vd k)=true→ks.length=ys.length→xn w F ks [] ys
 | [],[],_,_=>trivial
 | k::ks,y::ys,h,hl=>by
  simp only [List.all_cons,aiU,ai4] at h;simp only [xn,h.1];exact SK ks ys h.2 (by simpa using hl)
 | [],_::_,_,hl=>by cases hl
 | _::_,[],_,hl=>by cases hl
theorem Ow {w:World} {F:Nat→Prop} {ow:Nat→Option Nat}:∀(ks:List Kd) (ds:List D) (ys:List Value) (i:Nat),fB w F ow i ks ds ys→ds.length=ks.length∧ys.length=ks.length
 | [],[],[],_,_=>⟨rfl,rfl⟩
 | k::ks,d::ds,y::ys,i,h=>by
  obtain⟨h1,h2⟩:=Ow ks ds ys (i+1) h.2;exact⟨by simp [h1],by simp [h2]⟩
 | [],_::_,_,_,h=>h.elim
 | [],[],_::_,_,h=>h.elim
 | _::_,[],_,_,h=>by cases ‹List Value›<;>exact h.elim
 | _::_,_::_,[],_,h=>h.elim
theorem ny {w:World} {F:Nat→Prop} {ow:Nat→Option Nat} {k:Kd} {ds:List D} {l:List Value} (h:fB w F ow 0 [k] ds l):∃d y,ds=[d]∧l=[y]∧eX w F (fun g=>ow g=some 0) k d y:=by
 match ds,l,h with
 | [d],[y],h=>exact⟨d,y,rfl,rfl,h.1⟩
 | [],l,h=>cases l<;>exact h.elim
 | d::d'::ds,l,h =>
  match l,h with
  | [],h=>exact h.elim
  | [y],h=>exact h.2.elim
  | y::y'::ys,h=>exact h.2.elim
 | [d],[],h=>exact h.elim
 | [d],y::y'::ys,h=>exact h.2.elim
theorem wU {w:World} {F:Nat→Prop} {ow:Nat→Option Nat} {k k':Kd} {ds:List D} {l:List Value} (h:fB w F ow 0 [k,k'] ds l) :
  ∃d y d' y',ds=[d,d']∧l=[y,y']∧eX w F (fun g=>ow g=some 0) k d y∧eX w F (fun g=>ow g=some 1) k' d' y':=by
 obtain⟨h1,h2⟩:=Ow _ _ _ _ h
 match ds,l,h1,h2,h with
 | [d,d'],[y,y'],_,_,h=>exact⟨d,y,d',y',rfl,rfl,h.1,h.2.1⟩
theorem Fk {w:World} {F own:Nat→Prop} {lv:Nat} {x y:Value} (h:eX w F own (.dat lv) (.v x) y):y=x∧flat x=true:=by
 rcases h with h | h
 ·cases h
 ·exact ct.1 h
theorem NW {S:FS} {args:Array Value} {rs:List D} {vs:List Value} {w w':World} {F:Nat→Prop} {ow:Nat→Option Nat} (R:Nat→Option Nat) (hB:Below w.heap.size w w') (hF:∀b,F b→b<w.heap.size∧ow b=none)
  (hR:∀b j,R b=some j→w.heap.size≤b∧b<w'.heap.size) (hio:(S.pm.all fun k=>!vd k)=true) (hl:S.pm.length=args.size) (h1:vs.length=S.rm.length) (h2:rs.length=S.rm.length)
  (hres:∀j,VB w' F w.heap.size (fun g=>R g=some j) (aD S.rm j) (nth rs j) (vs.getD j undef)):CallPost S args rs [] w F ow F R vs w' :=
 ⟨hB.os,hB.tape,hB.output,hB.size,fun b hb _=>hB.block b hb,fun _ h=>h,fun b hb=>⟨.inl hb,ajs (hF b hb).1 hB.size,by
  cases h:R b with
  | none=>rfl
  | some j=>exact absurd (hR b j h).1 (Nat.not_le.2 (hF b hb).1)⟩,hR,h1,h2,hres,SK _ _ hio (by simpa using hl)⟩
theorem fm {S:FS} {args:Array Value} {w w':World} {F:Nat→Prop} {ow:Nat→Option Nat} (hB:Below w.heap.size w w') (hF:∀b,F b→b<w.heap.size∧ow b=none) (hio:(S.pm.all fun k=>!vd k)=true) (hl:S.pm.length=args.size)
  (rs:List D) (vs:List Value) (hrm:S.rm=rs.map fun _=>.dat 0) (hv:vs.length=rs.length) (h:∀(j:Nat) (d:D),rs[j]?=some d→∃y:Value,vs[j]?=some y∧bU w' (fun _=>False) d y):CallPost S args rs [] w F ow F (fun _=>none) vs w':=by
 refine NW _ hB hF (fun b j h=>by cases h) hio hl (by rw [hrm,hv];simp) (by rw [hrm];simp) (fun j=>?_)
 rw [jk,aiX];cases hj:rs[j]? with
 | none=>exact .inl rfl
 | some d =>
  obtain⟨y,h1,h2⟩:=h j d hj;have hk:aD S.rm j = .dat 0:=by
   rw [hrm];clear hrm h hv h1 h2;induction rs generalizing j with
   | nil=>simp at hj
   | cons r rs ih =>
    cases j with
    | zero=>rfl
    | succ j=>exact ih j (by simpa using hj)
  refine .inr ?_
  rw [hk,aiX,h1];exact co (fun b hb=>hb.elim) (fun _ _=>rfl) h2
theorem PP {w:World} {F:Nat→Prop}:∀(l:List ByteArray),cm w F (l.map T) (l.map ajv)
 | []=>aZ.2 rfl
 | s::l=>ax.2 ⟨[.string s],l.map ajv,rfl,by simp only [RepC];exact⟨trivial,rfl⟩,PP l⟩
theorem OI {w':World} {F own:Nat→Prop} {A c e:Nat} {cur:Array Value} {l:List ByteArray} (hb:w'.heap[A]?=some (.cells cur e (0,0))) (hc:l.length≤c) (hs:c≤cur.size) (hl:∀(i:Nat) (u:Value),(l.map ajv)[i]?=some u→cur[i]?=some u) (ho:own A) :
  lL w' F own 1 (.arr 1 (l.map T)) (.slice (some ⟨A,0,none⟩) l.length c):=by
 refine⟨l.map T,rfl,fun x hx=>?_,.inr ⟨A,0,c,l.map ajv,cur,e,by simp,by simpa using hc,hb,by omega,PP l,fun i u hu=>by simpa using hl i u hu,ho⟩⟩
 obtain⟨s,_,rfl⟩:=List.mem_map.1 hx;rfl
end
end Go.V

namespace Go.V
open Go.RowKit Go.Shelf
section
variable {P:Program} {ρ:Ren} {G:List (Nat × (Obj→Prop))}
def GB (o:Obj):Prop:=∃e fr,o = .cells (ajQ.map fun z=>Value.int .u64 z).toArray e fr
def OB (g:Nat) (o:Obj):Prop:=∃m,∀w:World,w.heap[g]?=some o→w.cell? ⟨g,0,none⟩=some (.int .i64 m)
theorem Wn {w:World} {F:Nat→Prop} {g:Nat} (hg:gOk G w F) (hm:(g,OB g)∈G):∃m,w.cell? ⟨g,0,none⟩=some (.int .i64 m):=by
 obtain⟨_,o,ho,m,hc⟩:=hg _ hm;exact⟨m,hc w ho⟩
theorem aet {w:World} {g:Nat} {m:Int} (h:w.cell? ⟨g,0,none⟩=some (.int .i64 m)):∃o,w.heap[g]?=some o∧OB g o:=by
 cases ho:w.heap[g]? with
 | none=>simp [World.cell?,ho] at h
 | some o=>exact⟨o,rfl,m,fun w' hw'=>(World.cell?_of_block (w:=w) (hw'.trans ho.symm)).trans h⟩
theorem YX {w:World} {g:Nat} (hn:P.globalNamed "internal/strconv.uint64pow10"=some g) (h:ajR P w "internal/strconv.uint64pow10" .u64 ajQ):∃o,w.heap[g]?=some o∧GB o:=by
 simp only [ajR,ajY,hn,ai0] at h;split at h
 ·rename_i cs e fr ho
  cases h;exact⟨_,ho,e,fr,rfl⟩
 ·cases h
theorem aeC {w:World} {F:Nat→Prop} {g:Nat} (hg:gOk G w F) (hm:(g,GB)∈G) (hn:P.globalNamed "internal/strconv.uint64pow10"=some g):ajR P w "internal/strconv.uint64pow10" .u64 ajQ:=by
 obtain⟨_,o,ho,e,fr,rfl⟩:=hg _ hm;simp [ajR,ajY,hn,ho]
theorem SF {args:Array Value} {y y':Value} (h:args.toList=[y,y']):args=#[y,y']:=by
 apply Array.ext';rw [h]
theorem GX {args:Array Value} {y:Value} (h:args.toList=[y]):args=#[y]:=by
 apply Array.ext';rw [h]
def KP:List D→Option Out
 | [.v (.int .i64 n)]=>if -9223372036854775808≤n∧n≤9223372036854775807 then some (.ret [T ⟨(Lib.itoa n).toArray⟩] []) else none
 | _=>none
@[reducible] def acU:FS:={pm:=[.dat 0],rm:=[.dat 0],f:=KP}
theorem agN (L:Go.Proofs.LaysM.n171 P ρ) {f:Nat} (hf:ρ.f 171=f) {g:Nat} (hm:(g,GB)∈G) (hn:P.globalNamed "internal/strconv.uint64pow10"=some g):au G P f acU:=by
 subst hf;have he:∀args w,(callFunc (ρ.f 171) args).run P w = .ok (.enter (ρ.f 171) args) w:=ai8 L.f171 (by kernel_rfl) rfl;refine cd he fun ds rs us hd args w F ow hg ha hF _=>?_
 obtain⟨d,y,rfl,h2,h3⟩:=ny ha;replace hd:KP [d]=some (.ret rs us):=hd;unfold KP at hd;split at hd
 case h_2=>cases hd
 rename_i n e;cases e;split at hd
 case isFalse=>cases hd
 rename_i hr;cases hd;obtain⟨rfl,_⟩:=Fk h3;rw [GX h2];refine(Go.Proofs.Any.strconv_Itoa L n hr.1 hr.2 w (aeC hg hm hn)).mono ?_
 rintro e w' ⟨rfl,k,os,rfl⟩;refine⟨_,rfl,F,_,[_],rfl,fm (below_itoa w k os) hF rfl rfl [_] [_] rfl rfl fun j d hj=>?_⟩
 match j,hj with
 | 0,hj =>
  simp only [aiZ,aiV] at hj;subst hj;exact⟨_,rfl,dg rfl⟩
where
 below_itoa (w:World) (k:Nat) (os:Array Obj):Below w.heap.size w (ajS (w.drewN k) os) :=
  ⟨rfl,rfl,rfl,by simp [ajS,World.drewN],fun b hb=>by simp [ajS,World.drewN,ajB hb]⟩
def HP:List D→Option Out
 | [.v (.string s)]=>if s.size≤281474976710656 then(match Lib.atoiAll s.data.toList with
  | .ok v=>some (.ret [I v,.v .nilIface] [])
  | .range=>some (.ret [I (Lib.atoiSat s.data.toList),.ifc] [])
  | _=>some (.ret [I 0,.ifc] [])) else none
 | _=>none
@[reducible] def ac2:FS:={pm:=[.dat 0],rm:=[.dat 0,.dat 0],f:=HP}
def Lx (o:Obj):Prop:=∃v cs e fr,o = .cells cs e fr∧cs[0]?=some v∧(v = .nilIface∨∃te pe,v = .iface te pe)
theorem XU {w:World} {g:Nat} {name:String} {tp:TypeId} {p:Value} (hn:P.globalNamed name=some g) (h:w.var? P name=some #[.iface tp p]):∃o,w.heap[g]?=some o∧Lx o:=by
 simp only [ajY,hn,ai0] at h;split at h
 ·rename_i cs e fr ho
  cases h;exact⟨_,ho,.iface tp p,_,e,fr,rfl,rfl,.inr ⟨tp,p,rfl⟩⟩
 ·cases h
theorem aaD {w:World} {F:Nat→Prop} {g:Nat} (hg:gOk G w F) (hm:(g,Lx)∈G):∃v,w.cell? ⟨g,0,none⟩=some v∧(v = .nilIface∨∃te pe,v = .iface te pe):=by
 obtain⟨_,o,ho,v,cs,e,fr,rfl,hc,hv⟩:=hg _ hm;exact⟨v,by simp [World.cell?,ho,hc],hv⟩
theorem ahi (L:Go.Proofs.LaysC.n172 P ρ) {f:Nat} (hf:ρ.f 172=f) {g15 g16:Nat} (h15:ρ.g 15=g15) (h16:ρ.g 16=g16) (hs:(g15,Lx)∈G) (hr:(g16,Lx)∈G):au G P f ac2:=by
 subst hf;have he:∀args w,(callFunc (ρ.f 172) args).run P w = .ok (.enter (ρ.f 172) args) w:=ai8 L.f172 (by kernel_rfl) rfl;refine cd he fun ds rs us hd args w F ow hg ha hF _=>?_
 obtain⟨d,y,rfl,h2,h3⟩:=ny ha;subst h15 h16;replace hd:HP [d]=some (.ret rs us):=hd;unfold HP at hd;split at hd
 case h_2=>cases hd
 rename_i s e;cases e;split at hd
 case isFalse=>cases hd
 rename_i hz;obtain⟨rfl,_⟩:=Fk h3;rw [GX h2];split at hd
 ·rename_i v hv
  cases hd;refine(Go.Proofs.Any.strconv_Atoi_ok L s (by omega) v hv w).mono ?_
  rintro e w' ⟨rfl,hw⟩;refine⟨_,rfl,F,_,[_,_],rfl,fm ?_ hF rfl rfl [_,_] [_,_] rfl rfl fun j d hj=>?_⟩
  ·rcases hw with rfl | ⟨t,rfl⟩
   ·exact ajK _ _
   ·exact Go.Lib.bytesWorld_below w _ t
  ·match j,hj with
   | 0,hj=>simp only [aiZ,aiV] at hj;subst hj;exact⟨_,rfl,dg rfl⟩
   | 1,hj=>simp only [ai3,aiZ,aiV] at hj;subst hj;exact⟨_,rfl,dg rfl⟩
 ·rename_i hv
  cases hd;obtain⟨v,hc,hv'⟩:=aaD hg hr;refine(Go.Proofs.Any.strconv_Atoi_range L s hz hv v w hc hv').mono ?_
  rintro e w' ⟨N,rfl,_,_,hB⟩;refine⟨_,rfl,F,_,[_,_],rfl,fm hB hF rfl rfl [_,_] [_,_] rfl rfl fun j d hj=>?_⟩
  match j,hj with
  | 0,hj=>simp only [aiZ,aiV] at hj;subst hj;exact⟨_,rfl,dg rfl⟩
  | 1,hj=>simp only [ai3,aiZ,aiV] at hj;subst hj;exact⟨_,rfl,_,_,rfl⟩
 ·rename_i h1 h2
  cases hv:Lib.atoiAll s.data.toList with
  | ok v=>exact(h1 v hv).elim
  | range=>exact(h2 hv).elim
  | _ =>
   cases hd;obtain⟨v,hc,hv'⟩:=aaD hg hs;refine(Go.Proofs.Any.strconv_Atoi_syntax L s hz hv v w hc hv').mono ?_
   rintro e w' ⟨N,rfl,_,_,hB⟩;refine⟨_,rfl,F,_,[_,_],rfl,fm hB hF rfl rfl [_,_] [_,_] rfl rfl fun j d hj=>?_⟩
   match j,hj with
   | 0,hj=>simp only [aiZ,aiV] at hj;subst hj;exact⟨_,rfl,dg rfl⟩
   | 1,hj=>simp only [ai3,aiZ,aiV] at hj;subst hj;exact⟨_,rfl,_,_,rfl⟩
def kB:List D→Option Out
 | [.v (.string s),.v (.string p)]=>if s.size≤9223372036854775807 then some (.ret [B (Lib.hasSuffix s.data.toList p.data.toList)] []) else none
 | _=>none
@[reducible] def KR:FS:={pm:=[.dat 0,.dat 0],rm:=[.dat 0],f:=kB}
theorem WO (L:Go.Proofs.Lays.n100 P ρ) {f:Nat} (hf:ρ.f 100=f):au G P f KR:=by
 subst hf;have he:∀args w,(callFunc (ρ.f 100) args).run P w = .ok (.enter (ρ.f 100) args) w:=ai8 L.f100 (by kernel_rfl) rfl;refine cd he fun ds rs us hd args w F ow hg ha hF _=>?_
 obtain⟨d,y,d',y',rfl,h2,h3,h4⟩:=wU ha;replace hd:kB [d,d']=some (.ret rs us):=hd;unfold kB at hd;split at hd
 case h_2=>cases hd
 rename_i s p e;cases e;split at hd
 case isFalse=>cases hd
 rename_i hz;cases hd;obtain⟨rfl,_⟩:=Fk h3;obtain⟨rfl,_⟩:=Fk h4;rw [SF h2];refine(Go.Proofs.Any.strings_HasSuffix L s p w hz).mono ?_
 rintro e w' ⟨rfl,rfl⟩;refine⟨_,rfl,F,_,[_],rfl,fm (ajK _ _) hF rfl rfl [_] [_] rfl rfl fun j d hj=>?_⟩
 match j,hj with
 | 0,hj=>simp only [aiZ,aiV] at hj;subst hj;exact⟨_,rfl,dg rfl⟩
def kD:List D→Option Out
 | [.v (.string s),.v (.string p)]=>if s.size≤9223372036854775807 then some (.ret [T ⟨(Lib.trimSuffix s.data.toList p.data.toList).toArray⟩] []) else none
 | _=>none
@[reducible] def HE:FS:={pm:=[.dat 0,.dat 0],rm:=[.dat 0],f:=kD}
theorem Vj (L:Go.Proofs.Lays.n102 P ρ) {f:Nat} (hf:ρ.f 102=f):au G P f HE:=by
 subst hf;have he:∀args w,(callFunc (ρ.f 102) args).run P w = .ok (.enter (ρ.f 102) args) w:=ai8 L.f102 (by kernel_rfl) rfl;refine cd he fun ds rs us hd args w F ow hg ha hF _=>?_
 obtain⟨d,y,d',y',rfl,h2,h3,h4⟩:=wU ha;replace hd:kD [d,d']=some (.ret rs us):=hd;unfold kD at hd;split at hd
 case h_2=>cases hd
 rename_i s p e;cases e;split at hd
 case isFalse=>cases hd
 rename_i hz;cases hd;obtain⟨rfl,_⟩:=Fk h3;obtain⟨rfl,_⟩:=Fk h4;rw [SF h2];refine(Go.Proofs.Any.strings_TrimSuffix L s p w hz).mono ?_
 rintro e w' ⟨rfl,rfl⟩;refine⟨_,rfl,F,_,[_],rfl,fm (ajK _ _) hF rfl rfl [_] [_] rfl rfl fun j d hj=>?_⟩
 match j,hj with
 | 0,hj=>simp only [aiZ,aiV] at hj;subst hj;exact⟨_,rfl,dg rfl⟩
def TM:List D→Option Out
 | [.v (.string s),.v (.string p)]=>if s.size<4294967281 then some (.ret [T ⟨(Lib.cut s.data.toList p.data.toList).1.toArray⟩,T ⟨(Lib.cut s.data.toList p.data.toList).2.1.toArray⟩,B (Lib.cut s.data.toList p.data.toList).2.2] []) else none
 | _=>none
@[reducible] def agb:FS:={pm:=[.dat 0,.dat 0],rm:=[.dat 0,.dat 0,.dat 0],f:=TM}
theorem XY (w:World) (n:Nat):Below w.heap.size w (w.drewN n):=⟨rfl,rfl,rfl,ajp _,fun _ _=>rfl⟩
theorem aik (L:Go.Proofs.Lays.n145 P ρ) {f:Nat} (hf:ρ.f 145=f) {g1:Nat} (h1:ρ.g 1=g1) (hm:(g1,OB g1)∈G):au G P f agb:=by
 subst hf;have he:∀args w,(callFunc (ρ.f 145) args).run P w = .ok (.enter (ρ.f 145) args) w:=ai8 L.f145 (by kernel_rfl) rfl;refine cd he fun ds rs us hd args w F ow hg ha hF _=>?_
 obtain⟨d,y,d',y',rfl,h2,h3,h4⟩:=wU ha;replace hd:TM [d,d']=some (.ret rs us):=hd;unfold TM at hd;split at hd
 case h_2=>cases hd
 rename_i s p e;cases e;split at hd
 case isFalse=>cases hd
 rename_i hz;cases hd;obtain⟨rfl,_⟩:=Fk h3;obtain⟨rfl,_⟩:=Fk h4;rw [SF h2];subst h1;obtain⟨m,hc⟩:=Wn hg hm;refine(Go.Proofs.Any.strings_Cut L s p m w hz hc).mono ?_
 rintro e w' ⟨rfl,n,rfl⟩;refine⟨_,rfl,F,_,[_,_,_],rfl,fm (XY _ _) hF rfl rfl [_,_,_] [_,_,_] rfl rfl fun j d hj=>?_⟩
 match j,hj with
 | 0,hj=>simp only [aiZ,aiV] at hj;subst hj;exact⟨_,rfl,dg rfl⟩
 | 1,hj=>simp only [ai3,aiZ,aiV] at hj;subst hj;exact⟨_,rfl,dg rfl⟩
 | 2,hj=>simp only [ai3,aiZ,aiV] at hj;subst hj;exact⟨_,rfl,dg rfl⟩
theorem aa3 (w:World) (o:Obj):(w.alloc o).heap[w.heap.size]?=some o:=by simpa using heap_alloc_new w o
theorem Yt (w:World) (o:Obj):(w.alloc o).heap.size=w.heap.size+1:=by simp
def pG (s p:ByteArray):List ByteArray:=Lib.splitB p 0 (ajL s p) s
def Av:List D→Option Out
 | [.v (.string s),.v (.string p)]=>if s.size<4294967281∧1≤p.size then some (.ret [.arr 1 ((pG s p).map T)] []) else none
 | _=>none
@[reducible] def aad:FS:={pm:=[.dat 0,.dat 0],rm:=[.own 1 0 false],f:=Av}
theorem ae4 (L:Go.Proofs.LaysM.n146 P ρ) {f:Nat} (hf:ρ.f 146=f) {g1:Nat} (h1:ρ.g 1=g1) (hm:(g1,OB g1)∈G):au G P f aad:=by
 subst hf;have he:∀args w,(callFunc (ρ.f 146) args).run P w = .ok (.enter (ρ.f 146) args) w:=ai8 L.f146 (by kernel_rfl) rfl;refine cd he fun ds rs us hd args w F ow hg ha hF _=>?_
 obtain⟨d,y,d',y',rfl,h2,h3,h4⟩:=wU ha;replace hd:Av [d,d']=some (.ret rs us):=hd;unfold Av at hd;split at hd
 case h_2=>cases hd
 rename_i s p e;cases e;split at hd
 case isFalse=>cases hd
 rename_i hz;cases hd;obtain⟨rfl,_⟩:=Fk h3;obtain⟨rfl,_⟩:=Fk h4;rw [SF h2];subst h1;obtain⟨m,hc⟩:=Wn hg hm;refine(Go.Proofs.Any.strings_Split {L with} L.i9 s p m w hz.1 hc hz.2).mono ?_
 rintro e w' ⟨rfl,rfl⟩;have hlen:(pG s p).length=ajL s p+1:=splitOf_length s p hz.2;refine⟨_,rfl,F,fun b=>if b=w.heap.size then some 0 else none,[_],rfl,NW _ ((ajK _ w).alloc (ajp _) _) hF (fun b j hb=>?_) rfl rfl rfl rfl fun j=>?_⟩
 ·split at hb
  ·rename_i e;subst e;exact⟨ajp _,by rw [Yt];exact Nat.lt_succ_self _⟩
  ·cases hb
 ·match j with
  | 0 =>
   refine .inr ?_
   have:=OI (w':=w.alloc (.cells ((pG s p).map ajv).toArray (ρ.t 9))) (F:=FB F w.heap.size 0) (own:=fun g=>(if g=w.heap.size then some 0 else none)=some 0∧w.heap.size≤g) (A:=w.heap.size) (c:=ajL s p+1) (e:=ρ.t 9)
    (cur:=((pG s p).map ajv).toArray) (l:=pG s p) (aa3 _ _) (by omega) (by simp only [List.size_toArray,List.length_map];omega) (fun i u hu=>by rw [List.getElem?_toArray];exact hu) ⟨by simp,ajp _⟩
   rw [hlen] at this;exact this
  | j+1=>exact .inl rfl
where
 splitOf_length (s p:ByteArray) (hp:1≤p.size):(pG s p).length=ajL s p+1:=by
  exact Lib.splitB_all p hp 0 _ s rfl
end
end Go.V

end
