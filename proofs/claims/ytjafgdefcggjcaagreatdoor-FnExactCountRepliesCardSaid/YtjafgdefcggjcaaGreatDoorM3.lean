/-
  A part of the proof: contracts and plain forms of functions beneath the statement, made small by a program (names shortened, what is not needed left out).
-/
import Derived.Test.YtjafgdefcggjcaaGreatDoorRows
import Derived.Test.YtjafgdefcggjcaaGreatDoorTie
import Derived.Test.YtjafgdefcggjcaaGreatDoorCards
import Derived.Test.YtjafgdefcggjcaaGreatDoorM2
import Derived.Below
import Derived.Shelf.Strconv.Itoa3
import Derived.Shelf.Strconv.AtoiAll
import Derived.Lib.AtoiErrMem
import Derived.Shelf.Strings.Cut
import Derived.Shelf.Strings.SplitShaped
import Derived.Shelf.Strings.Prefix
import Derived.Shelf.Strings.OnBuilder
open Option renaming bind_eq_some_iff → aht, map_eq_some_iff → ahw, bind_some → ahA, getD_some → aig, map_some → aiw
open Bool renaming and_eq_true → ahu, not_eq_true' → ahE, or_eq_true → ah0, false_eq_true → ah3, not_false → aiA
open Option.some renaming injEq → ahv, inj → aiv
open List renaming getD_eq_getElem?_getD → ahx, getElem?_cons_zero → ahz, mem_cons → ahB, drop_zero → ahC, getElem?_cons_succ → ahD, snd_lt_of_mem_zipIdx → ahL, getElem?_eq_getElem → ahM, all_eq_true → ahO, getD_cons_zero → ahQ, map_cons → ahR, eq_nil_of_length_eq_zero → ahS, getElem?_eq_none → ahT, drop_eq_getElem_cons → ahZ, length_eq_one_iff → ah6, length_cons → ah7, mem_append_right → ah8, nil_append → ah9, getElem?_eq_some_iff → aic, cons_append → aid, length_take → aie, getElem?_take_of_lt → aif, mem_filter → aih, take_append_drop → aii, mapM_cons → aij, map_toArray → ait
open Array renaming getD_eq_getD_getElem? → ahy, getElem?_eq_getElem → ahG, getElem?_toList → ahU, getElem?_setIfInBounds → ahV, toArray_toList → ahW, getElem?_eq_some_iff → ahX, replicate → ah1, getElem?_append_left → aib
open Nat renaming beq → ahF, le_refl → ahY, lt_of_lt_of_le → ah2, le_trans → aia, zero_add → aip, ble → aiz
open List.cons renaming injEq → ahH
open Go.Proofs renaming enters_of → ahI
open Classical renaming choose_spec → ahJ, choose → ahN
open Go.Region renaming wanted → ahK, binds → ahP, ready → ah4
open Go.Value renaming string → ah5
open Go.RowKit.Below renaming refl → aik
open Go.Lib renaming countB → ail, pow10Tab → aiq, TabIs → air
open Go.Builtin renaming min2 → aim, max2 → ain
open Go.Oper renaming wp_mono → aio, upon_enter → aix
open Go.Sort renaming grow → ais
open Go.Calls renaming mono → aiu
open Go.World renaming var? → aiy
set_option linter.unusedSimpArgs false
set_option linter.unusedVariables false
noncomputable section
namespace Go.V
open Go.RowKit
section
variable {P:Program} {c:Cx} {B:Nat} {X:Nat→Prop} {w0:World} {F0 F:Nat→Prop} {O:Nat→Option (Nat × Nat)} {a:Act} {w:World} {δ:List D}
theorem rq {w w':World} {F F':Nat→Prop} {own own':Nat→Prop} {n:Nat} {d:D} {y:Value} (hF:∀b,F b→F' b) (hw:∀b,F b→w'.heap[b]?=w.heap[b]?)
  (ho:∀g,V.blk y=some g→own g→own' g∧w'.heap[g]?=w.heap[g]?) (h:Fv w F own n d y):Fv w' F' own' n d y:=by
 obtain⟨l,us,g,e,a1,rfl,a3,a4,a5,a6,a7⟩:=h
 exact⟨l,us,g,e,a1,rfl,(ho g rfl a7).2.trans a3,cB hF hw _ _ a4,a5,a6,(ho g rfl a7).1⟩
theorem Fv.blk {F:Nat→Prop} {own:Nat→Prop} {n:Nat} {d:D} {y:Value} (h:Fv w F own n d y):∀b,V.blk y=some b→own b∧b<w.heap.size:=by
 intro b hb
 obtain⟨l,us,g,e,a1,rfl,a3,a4,a5,a6,a7⟩:=h
 simp [V.blk] at hb
 subst hb
 exact⟨a7,(ahX.1 a3).1⟩
def BT:List Ag→Nat→Nat→Option Nat
 | [],_,_=>none
 | .io _ q::l,r,i=>if q=r then some i else BT l r (i+1)
 | .d _ _::l,r,i=>BT l r (i+1)
 | .bor _ _::l,r,i=>BT l r (i+1)
theorem yA:∀{l:List Ag} {r i j:Nat},BT l r i=some j→r∈fD l
 | .io _ q::l,r,i,j,h=>by
  simp only [BT] at h
  split at h
  ·rename_i e;subst e;simp [fD]
  ·simp [fD,yA h]
 | .d _ _::l,r,i,j,h=>by simpa [fD] using yA (l:=l) h
 | .bor _ _::l,r,i,j,h=>by simpa [fD] using yA (l:=l) h
theorem yZ:∀{l:List Ag} {r j:Nat},LF l j=some r→r∈fD l
 | .io _ q::l,r,0,h=>by simp [LF] at h;simp [fD,h]
 | .io _ q::l,r,j+1,h=>by simp only [fD,ahB];exact .inr (yZ (l:=l) h)
 | .d _ _::l,r,0,h=>by simp [LF] at h
 | .bor _ _::l,r,0,h=>by simp [LF] at h
 | .d _ _::l,r,j+1,h=>by simpa [fD] using yZ (l:=l) h
 | .bor _ _::l,r,j+1,h=>by simpa [fD] using yZ (l:=l) h
theorem zT {a:Nat} {l:List Nat} (h:nN (a::l)=true):a∉l∧nN l=true:=by
 simp only [nN,jl] at h
 split at h
 ·cases h
 ·rename_i h1
  exact⟨by simpa using h1,h⟩
theorem Mp:∀{l:List Ag} {r i j:Nat},nN (fD l)=true→LF l j=some r→BT l r i=some (i+j)
 | .io _ q::l,r,i,0,_,h=>by simp [LF] at h;simp [BT,h]
 | .io _ q::l,r,i,j+1,hn,h=>by
  obtain⟨h1,h2⟩:=zT hn
  have h3:=yZ (l:=l) h
  have hne:¬q=r:=fun e=>h1 (by rw [e];exact h3)
  simp only [BT]
  rw [if_neg hne,Mp (l:=l) h2 h]
  congr 1;omega
 | .d _ _::l,r,i,0,_,h=>by simp [LF] at h
 | .bor _ _::l,r,i,0,_,h=>by simp [LF] at h
 | .d _ _::l,r,i,j+1,hn,h=>by simp only [BT];rw [Mp (l:=l) hn h];congr 1;omega
 | .bor _ _::l,r,i,j+1,hn,h=>by simp only [BT];rw [Mp (l:=l) hn h];congr 1;omega
def WV (c:Cx) (a:Act) (δ:List D):List Ag→List Kd→List Operand→Prop
 | [],[],[]=>True
 | .io _ r::l,m::pm,x::xs=>(nth δ r ≠ .bad∧a.eval x=av a r∧((∃z lv io,m = .own z lv true∧aC c.K r = .own z lv io∧lv≠1)∨∃n lv io,m = .box n lv true∧aC c.K r = .box n lv io∧lv≠1))∧WV c a δ l pm xs
 | _::l,m::pm,_::xs=>ul m=false∧WV c a δ l pm xs
 | _,_,_=>False
theorem SK {m:Kd} {pm:List Kd} (h:mv (m::pm)=true):mv pm=true∧(∀z lv,m = .own z lv true→lv≠1)∧∀n lv,m = .box n lv true→lv≠1:=by
 cases m with
 | dat lv =>
  simp only [mv] at h
  split at h
  case h_2=>cases h
  exact⟨h,fun _ _ e=>(by cases e),fun _ _ e=>(by cases e)⟩
 | own z lv io =>
  cases io
  ·simp [mv] at h
  simp only [mv] at h
  split at h
  case h_2=>cases h
  rename_i h1 h2
  exact⟨h,fun _ l e=>by cases e;intro e;subst e;simp at h1,fun _ _ e=>(by cases e)⟩
 | box z lv io =>
  cases io
  ·simp [mv] at h
  simp only [mv] at h
  split at h
  case h_2=>cases h
  rename_i h1 h2
  exact⟨h,fun _ _ e=>(by cases e),fun _ l e=>by cases e;intro e;subst e;simp at h1⟩
 | _=>simp [mv] at h
theorem abH {K:List Kd} {x:Operand} {m:Kd} {t r:Nat} (h:yG K x m=some (.bor t r)):∃lv,m = .dat lv:=by
 cases m with
 | dat lv=>exact⟨lv,rfl⟩
 | own z lv io =>
  exfalso
  cases io
  ·simp [yG] at h
  ·simp only [yG] at h
   repeat (split at h<;>try cases h)
 | box z lv io =>
  exfalso
  cases io
  ·simp [yG] at h
  ·simp only [yG] at h
   repeat (split at h<;>try cases h)
 | _=>simp [yG] at h
theorem aec {K:List Kd} {x:Operand} {m:Kd} {t r:Nat} (h:yG K x m=some (.io t r)):x = .tmp t∧((∃z lv io,m = .own z lv true∧((t=r∧aC K t = .own z lv io)∨(aC K t = .via r∧aC K r = .own z lv io))) ∨
  ∃n lv io,m = .box n lv true∧((t=r∧aC K t = .box n lv io)∨(aC K t = .ref r∧aC K r = .box n lv io))):=by
 cases m with
 | dat lv =>
  exfalso
  simp only [yG] at h
  repeat (split at h<;>try cases h)
 | own z lv io =>
  cases io
  ·simp [yG] at h
  ·simp only [yG] at h
   split at h
   case h_2=>cases h
   split at h
   ·rename_i hk
    split at h
    case h_2=>cases h
    rename_i h1 h2
    rw [ba] at h1 h2
    cases h
    exact⟨rfl,.inl ⟨_,_,_,rfl,.inl ⟨rfl,by rw [hk,h1,h2]⟩⟩⟩
   ·rename_i hk
    split at h
    case h_2=>cases h
    rename_i hk2
    split at h
    case h_2=>cases h
    rename_i h1 h2
    rw [ba] at h1 h2
    cases h
    exact⟨rfl,.inl ⟨_,_,_,rfl,.inr ⟨hk,by rw [hk2,h1,h2]⟩⟩⟩
   ·cases h
 | box z lv io =>
  cases io
  ·simp [yG] at h
  ·simp only [yG] at h
   split at h
   case h_2=>cases h
   split at h
   ·rename_i hk
    split at h
    case h_2=>cases h
    rename_i h1 h2
    rw [ba] at h1 h2
    cases h
    exact⟨rfl,.inr ⟨_,_,_,rfl,.inl ⟨rfl,by rw [hk,h1,h2]⟩⟩⟩
   ·rename_i hk
    split at h
    case h_2=>cases h
    rename_i hk2
    split at h
    case h_2=>cases h
    rename_i h1 h2
    rw [ba] at h1 h2
    cases h
    exact⟨rfl,.inr ⟨_,_,_,rfl,.inr ⟨hk,by rw [hk2,h1,h2]⟩⟩⟩
   ·cases h
 | _=>simp [yG] at h
theorem Iz (hI:Inv c B X w0 F0 F O a w δ):∀(xs:List Operand) (pm:List Kd) (ags:List Ag) (ds:List D),nh c.K xs pm=some ags→mv pm=true→de ags (aA δ (gC ags))=some ds→WV c a δ ags pm xs
 | [],[],ags,ds,h,_,_=>by
  simp only [nh,ahv] at h
  subst h
  trivial
 | [],_::_,_,_,h,_,_=>by simp [nh] at h
 | _::_,[],_,_,h,_,_=>by simp [nh] at h
 | x::xs,m::pm,ags,ds,h,hpm,hd=>by
  simp only [nh] at h
  split at h
  case h_2=>cases h
  rename_i g l hg hl
  cases h
  obtain⟨hp1,hp2,hp3⟩:=SK hpm
  cases g with
  | d y chk =>
   have hnio:ul m=false:=by
    cases m with
    | own z lv io=>cases io<;>first | rfl | (simp only [yG] at hg;repeat (split at hg<;>try cases hg))
    | box z lv io=>cases io<;>first | rfl | (simp only [yG] at hg;repeat (split at hg<;>try cases hg))
    | _=>rfl
   have hd':∃ds',de l (aA δ (gC l))=some ds':=by
    cases y with
    | tmp t =>
     simp only [app,aA,de] at hd
     split at hd
     ·obtain⟨ds',h1,_⟩:=ahw.1 hd
      exact⟨ds',h1⟩
     ·obtain⟨i,_,hd⟩:=aht.1 hd
      obtain⟨ds',h1,_⟩:=ahw.1 hd
      exact⟨ds',h1⟩
    | const v =>
     simp only [gC,app,de] at hd
     obtain⟨ds',h1,_⟩:=ahw.1 hd
     exact⟨ds',h1⟩
    | func v =>
     simp only [gC,app,de] at hd
     obtain⟨ds',h1,_⟩:=ahw.1 hd
     exact⟨ds',h1⟩
    | global v=>simp [de] at hd
   obtain⟨ds',hd'⟩:=hd'
   exact⟨hnio,Iz hI xs pm l ds' hl hp1 hd'⟩
  | bor t r =>
   have hnio:ul m=false:=by
    obtain⟨lv,e⟩:=abH hg
    rw [e];rfl
   have hd':∃ds',de l (aA δ (gC l))=some ds':=by
    cases htr:ahF t r
    ·simp only [gC,htr,aA,de] at hd
     obtain⟨i,_,hd⟩:=aht.1 hd
     obtain⟨ds',h1,_⟩:=ahw.1 hd
     exact⟨ds',h1⟩
    ·simp only [gC,htr,aA,de] at hd
     obtain⟨ds',h1,_⟩:=ahw.1 hd
     exact⟨ds',h1⟩
   obtain⟨ds',hd'⟩:=hd'
   exact⟨hnio,Iz hI xs pm l ds' hl hp1 hd'⟩
  | io t r =>
   obtain⟨rfl,hk⟩:=aec hg
   have main:(nth δ r ≠ .bad∧(t=r∨nth δ t = .ref 0 0))∧∃ds',de l (aA δ (gC l))=some ds':=by
    cases htr:ahF t r
    ·simp only [gC,htr,aA,de] at hd
     obtain⟨i,hc,hd⟩:=aht.1 hd
     obtain⟨i',hc',hd⟩:=aht.1 hd
     obtain⟨ds',h1,_⟩:=ahw.1 hd
     obtain⟨hb,rfl⟩:=cD hc'
     unfold kS at hc
     split at hc
     case h_2=>cases hc
     rename_i hr0
     cases hc
     exact⟨⟨hb,.inr hr0⟩,ds',h1⟩
    ·have e:=ba.1 htr
     subst e
     simp only [gC,htr,aA,de] at hd
     obtain⟨i',hc',hd⟩:=aht.1 hd
     obtain⟨ds',h1,_⟩:=ahw.1 hd
     exact⟨⟨(cD hc').1,.inl rfl⟩,ds',h1⟩
   obtain⟨⟨hb,hre⟩,ds',hd'⟩:=main
   refine⟨⟨hb,?_,?_⟩,Iz hI xs pm l ds' hl hp1 hd'⟩
   ·rcases hre with e | hr0
    ·rw [e];rfl
    ·rcases hk with ⟨z,lv,io,_,h2⟩ | ⟨n,lv,io,_,h2⟩
     ·rcases h2 with ⟨e,_⟩ | ⟨h3,h4⟩
      ·rw [e];rfl
      ·exact(hI.via h3 (by rw [hr0];simp)).1
     ·rcases h2 with ⟨e,_⟩ | ⟨h3,h4⟩
      ·rw [e];rfl
      ·obtain⟨ii,ff,h5,_,h6⟩:=hI.ref h3 (by rw [hr0];simp)
       rw [hr0] at h5
       cases h5
       rw [h4] at h6
       obtain⟨g0,e1,e2⟩:=h6
       rw [dU,e1,e2]
   ·rcases hk with ⟨z,lv,io,h1,h2⟩ | ⟨n,lv,io,h1,h2⟩
    ·refine .inl ⟨z,lv,io,h1,?_,hp2 z lv h1⟩
     rcases h2 with ⟨e,h2⟩ | ⟨_,h2⟩
     ·rw [←e];exact h2
     ·exact h2
    ·refine .inr ⟨n,lv,io,h1,?_,hp3 n lv h1⟩
     rcases h2 with ⟨e,h2⟩ | ⟨_,h2⟩
     ·rw [←e];exact h2
     ·exact h2
def agC (w':World) (F':Nat→Prop) (k:Kd) (u:D) (y:Value):Prop :=
 u ≠ .bad∧match k with
  | .own z lv _=>lv≠1∧lj w' (FB F' 0 lv) (fun _=>True) z u y
  | .box n lv _=>lv≠1∧Fv w' (FB F' 0 lv) (fun _=>True) n u y
  | _=>False
theorem JR {w':World} {F':Nat→Prop}:∀(ags:List Ag) (pm:List Kd) (xs:List Operand) (us:List D),WV c a δ ags pm xs→wB w' F' pm us (xs.map a.eval) →
  us.length=(fD ags).length∧∀(m r:Nat),(fD ags)[m]?=some r→nth δ r ≠ .bad∧∃u:D,us[m]?=some u∧agC w' F' (aC c.K r) u (av a r)
 | [],[],[],us,_,hu=>by
  cases us with
  | nil=>simp [fD]
  | cons u us=>simp [wB] at hu
 | .io t r::l,m::pm,x::xs,us,h,hu=>by
  obtain⟨⟨h1,h2,h3⟩,h4⟩:=h
  simp only [ahR,wB] at hu
  have hio:ul m=true:=by rcases h3 with ⟨z,lv,io,rfl,_⟩ | ⟨n,lv,io,rfl,_⟩<;>rfl
  rw [if_pos hio] at hu
  cases us with
  | nil=>exact hu.elim
  | cons u us =>
   obtain⟨u1,u2,u3⟩:=hu
   obtain⟨g1,g2⟩:=JR l pm xs us h4 u3
   refine⟨by simp [fD,g1],fun j q hj=>?_⟩
   cases j with
   | zero =>
    simp only [fD,ahz,ahv] at hj
    subst hj
    refine⟨h1,u,rfl,u1,?_⟩
    rw [h2] at u2
    have u2:=u2.resolve_left u1
    rcases h3 with ⟨z,lv,io,rfl,hk,hlv⟩ | ⟨n,lv,io,rfl,hk,hlv⟩
    ·rw [hk];exact⟨hlv,u2⟩
    ·rw [hk];exact⟨hlv,u2⟩
   | succ j =>
    simp only [fD,ahD] at hj
    exact g2 j q hj
 | .d y chk::l,m::pm,x::xs,us,h,hu=>by
  obtain⟨h1,h2⟩:=h
  simp only [ahR,wB,h1] at hu
  exact JR l pm xs us h2 hu
 | .bor y chk::l,m::pm,x::xs,us,h,hu=>by
  obtain⟨h1,h2⟩:=h
  simp only [ahR,wB,h1] at hu
  exact JR l pm xs us h2 hu
 | [],[],_::_,_,h,_=>h.elim
 | [],_::_,_,_,h,_=>h.elim
 | .io _ _::_,[],_,_,h,_=>h.elim
 | .io _ _::_,_::_,[],_,h,_=>h.elim
 | .d _ _::_,[],_,_,h,_=>h.elim
 | .d _ _::_,_::_,[],_,h,_=>h.elim
 | .bor _ _::_,[],_,_,h,_=>h.elim
 | .bor _ _::_,_::_,[],_,h,_=>h.elim
theorem ZV (us:List D):∀(ios:List Nat) (j:Nat),j+ios.length≤us.length→Ek.go us j ios=(us.drop j).take ios.length
 | [],j,_=>by simp [Ek.go]
 | _::l,j,h=>by
  simp only [ah7] at h
  simp only [Ek.go]
  rw [ZV us l (j+1) (by omega)]
  have hj:j<us.length:=by omega
  rw [ahZ hj,ah7,List.take_succ_cons,iZ,ahx,ahM hj]
  rfl
theorem wH:∀(ss:List Nat) (ds δ:List D) (m s:Nat),nN ss=true→ss[m]?=some s→s<δ.length→nth (az δ ss ds) s=nth ds m
 | t::ss,[],δ,m,s,hn,hm,hl=>by
  rw [mM _ _ _ (List.mem_of_getElem? hm)]
 | t::ss,d::ds,δ,0,s,hn,hm,hl=>by
  obtain⟨h1,h2⟩:=zT hn
  simp at hm
  subst hm
  simp only [az]
  rw [aE _ _ _ _ h1,cI,if_pos hl]
 | t::ss,d::ds,δ,m+1,s,hn,hm,hl=>by
  obtain⟨h1,h2⟩:=zT hn
  simp only [az]
  rw [wH ss ds _ m s h2 (by simpa using hm) (by rw [iR];exact hl)]
theorem abo {d:Nat} {l:List Nat} (h1:oc d l=false) (h2:nN l=true):nN ([d]++l)=true:=by
 simp only [aid,ah9,nN,h1]
 exact h2
theorem Sn:∀{l m:List Nat},Og l m=true→∀x∈l,x∉m
 | a::l,m,h,x,hx=>by
  simp only [Og,jl] at h
  split at h
  ·cases h
  ·rename_i h1
   rcases ahB.1 hx with rfl | hx
   ·simpa using h1
   ·exact Sn h x hx
theorem afb {K:List Kd} {r:Nat} (h:en K r):r<K.length:=by
 by_cases hd:r<K.length
 ·exact hd
 ·exfalso
  have:∀(K:List Kd) (r:Nat),¬r<K.length→aC K r = .no:=by
   intro K
   induction K with
   | nil=>intro r _;rfl
   | cons k K ih =>
    intro r hr
    cases r with
    | zero=>simp at hr
    | succ r=>exact ih r (by simpa using hr)
  rw [en,this K r hd] at h
  exact h
theorem OH {m:Kd} {pm:List Kd} (h:io0 (m::pm)=true):io0 pm=true∧(∀z lv io,m = .own z lv io→lv=0)∧∀n lv io,m = .box n lv io→lv=0:=by
 cases m with
 | own z lv io =>
  simp only [io0] at h
  split at h
  case h_2=>cases h
  rename_i h0
  exact⟨h,fun _ _ _ e=>by cases e;exact ba.1 h0,fun _ _ _ e=>(by cases e)⟩
 | box z lv io =>
  simp only [io0] at h
  split at h
  case h_2=>cases h
  rename_i h0
  exact⟨h,fun _ _ _ e=>(by cases e),fun _ _ _ e=>by cases e;exact ba.1 h0⟩
 | _=>exact⟨by simpa only [io0] using h,fun _ _ _ e=>(by cases e),fun _ _ _ e=>(by cases e)⟩
theorem TQ:∀(ags:List Ag) (pm:List Kd) (xs:List Operand),WV c a δ ags pm xs→io0 pm=true→∀(m r:Nat),(fD ags)[m]?=some r→∀lv,((∃z io,aC c.K r = .own z lv io)∨∃n io,aC c.K r = .box n lv io)→lv=0
 | [],_,_,_,_,m,r,hm,_,_=>by simp [fD] at hm
 | .io t q::l,m::pm,x::xs,h,h0,j,r,hj,lv,hk=>by
  obtain⟨⟨_,_,h3⟩,h4⟩:=h
  obtain⟨g1,g2,g3⟩:=OH h0
  cases j with
  | zero =>
   simp only [fD,ahz,ahv] at hj
   subst hj
   rcases h3 with ⟨z,lv',io,rfl,hk',_⟩ | ⟨n,lv',io,rfl,hk',_⟩
   ·have:=g2 z lv' true rfl
    subst this
    rw [hk'] at hk
    rcases hk with ⟨_,_,e⟩ | ⟨_,_,e⟩<;>cases e
    rfl
   ·have:=g3 n lv' true rfl
    subst this
    rw [hk'] at hk
    rcases hk with ⟨_,_,e⟩ | ⟨_,_,e⟩<;>cases e
    rfl
  | succ j=>exact TQ l pm xs h4 g1 j r (by simpa [fD] using hj) lv hk
 | .d _ _::l,m::pm,x::xs,h,h0,j,r,hj,lv,hk=>TQ l pm xs h.2 (OH h0).1 j r (by simpa [fD] using hj) lv hk
 | .bor _ _::l,m::pm,x::xs,h,h0,j,r,hj,lv,hk=>TQ l pm xs h.2 (OH h0).1 j r (by simpa [fD] using hj) lv hk
 | .io _ _::_,[],_,h,_,_,_,_,_,_=>h.elim
 | .io _ _::_,_::_,[],h,_,_,_,_,_,_=>h.elim
 | .d _ _::_,[],_,h,_,_,_,_,_,_=>h.elim
 | .d _ _::_,_::_,[],h,_,_,_,_,_,_=>h.elim
 | .bor _ _::_,[],_,h,_,_,_,_,_,_=>h.elim
 | .bor _ _::_,_::_,[],h,_,_,_,_,_,_=>h.elim
theorem uR (hI:Inv c B X w0 F0 F O a w δ) {S:FS} {ags:List Ag} {xs:List Operand} {ds rs us:List D} {F':Nat→Prop} {R:Nat→Option Nat} {vs:List Value} {w':World} {v:Value} {dst:Option Nat} {x:List D}
  (hags:nh c.K xs S.pm=some ags) (hpm:mv S.pm=true) (hds:de ags (aA δ (gC ags))=some ds) (hnd:nN (fD ags)=true)
  (hbor:iM ags=[]∨(Az S.rm=true∧io0 S.pm=true))
  (hpost:CallPost S (xs.map a.eval).toArray rs us w (fun b=>F b∨∃r∈iM ags,O b=some (r,0)) (fun b=>match O b with
   | some (r,0)=>BT ags r 0
   | _=>none) F' R vs w')
  (hdx:(dst=none∧x=[])∨∃d y,dst=some d∧x=[y]∧oc d (fD ags)=false) (g:Nat→Option (Nat × Nat)) (hg:∀j p,g j=some p→∀d,dst=some d→p.1=d) (hgn:dst=none→∀j,g j=none)
  (hU:∀(F2:Nat→Prop) (O2:Nat→Option (Nat × Nat)),(∀lv b,(iM ags=[]∨lv≤1)→FB F' w.heap.size lv b→FB F2 B lv b)→(∀b j,R b=some j→O2 b=g j∧B≤b∧(g j=none→F2 b))→∀d y,dst=some d→x=[y]→d<δ.length→Ce c.K B F2 O2 (a.put dst v) w' d y) :
  ∃F2 O2,Inv c B X w0 F0 F2 O2 (a.put dst v) w' (az δ (dst.toList++(fD ags++bq c.K dst.toList)) (x++us)):=by
 have hB:=hI.bb
 have hioA:=Iz hI xs S.pm ags ds hags hpm hds
 obtain⟨hul,hun⟩:=JR (c:=c) (a:=a) (δ:=δ) ags S.pm xs us hioA (by simpa using hpost.us)
 have hkeep:∀b,b<w.heap.size→(∀p,O b=some p→p.1∉fD ags)→w'.heap[b]?=w.heap[b]?:=by
  intro b hb hp
  refine hpost.keep b hb ?_
  split
  ·rename_i r he
   cases h:BT ags r 0 with
   | none=>rfl
   | some j=>exact absurd (yA h) (hp _ he)
  ·rfl
 have hRn:∀b,b<w.heap.size→R b=none:=fun b hb=>by
  cases h:R b with
  | none=>rfl
  | some j=>have:=(hpost.rn b j h).1;omega
 let F2:Nat→Prop:=fun b=>F b∨(F' b∧w.heap.size≤b)∨∃j,R b=some j∧g j=none
 let O2:Nat→Option (Nat × Nat):=fun b=>match R b with
  | some j=>g j
  | none=>O b
 have hO2n:∀b,R b=none→O2 b=O b:=fun b h=>by simp only [O2,h]
 have hO2s:∀b j,R b=some j→O2 b=g j:=fun b j h=>by simp only [O2,h]
 have hOlt:∀b,w.heap.size≤b→O b=none:=fun b hb=>by
  cases h:O b with
  | none=>rfl
  | some p=>have:=(hI.ol b p h).1;omega
 have hlv:∀lv b,(iM ags=[]∨lv≤1)→FB F' w.heap.size lv b→FB F2 B lv b:=by
  intro lv b hbl hb
  match lv,hbl,hb with
  | 0,_,hb=>exact hb.elim
  | 1,_,hb=>exact⟨.inr (.inl hb),aia hB hb.2⟩
  | n+2,hbl,hb =>
   have he:iM ags=[]:=hbl.resolve_right (by omega)
   rcases(hpost.fn b hb).1 with h1 | h1
   ·rcases h1 with h1 | ⟨r,hr,_⟩
    ·exact .inl h1
    ·rw [he] at hr;cases hr
   ·exact .inr (.inl ⟨hb,h1⟩)
 have hnd2:nN (dst.toList++fD ags)=true:=by
  rcases hdx with ⟨rfl,_⟩ | ⟨d,y,rfl,_,hm⟩
  ·exact hnd
  ·exact abo hm hnd
 have hlen:(x++us).length=(dst.toList++fD ags).length:=by
  rcases hdx with ⟨rfl,rfl⟩ | ⟨d,y,rfl,rfl,_⟩<;>simp [hul]
 have hlt:∀r,en c.K r→r<δ.length:=fun r hr=>by
  rw [hI.ld]
  exact afb hr
 have hgetio:∀(m r:Nat),(fD ags)[m]?=some r→en c.K r→nth (az δ (dst.toList++fD ags) (x++us)) r=nth us m:=by
  intro m r hm hr
  rcases hdx with ⟨rfl,rfl⟩ | ⟨d,y,rfl,rfl,_⟩
  ·exact wH _ _ _ m r hnd (by simpa using hm) (hlt r hr)
  ·have:=wH (δ:=δ) ([d]++fD ags) ([y]++us) (m:=m+1) (s:=r) hnd2 (by simpa using hm) (hlt r hr)
   simpa [nth] using this
 have hrootIo:∀(m r:Nat),(fD ags)[m]?=some r→en c.K r:=by
  intro m r hm
  obtain⟨_,u,_,hn⟩:=hun m r hm
  obtain⟨_,hn⟩:=hn
  unfold en
  generalize aC c.K r=kk at hn
  cases kk<;>first | exact hn.elim | trivial
 refine⟨F2,O2,hI.many hlen (by cases dst<;>simp [Act.put]) (by cases dst<;>rfl) (fun s hs=>?_) (fun r hr _ hb=>?_) (fun s hs=>?_) (fun _ hb=>.inl hb) (fun b hb=>?_) (fun b p hp hm=>?_) (fun b hb=>?_) (fun b p hp=>?_) (fun b hb=>?_) hpost.size hpost.os hpost.tape hpost.output (fun b hb hx=>?_)⟩
 ·cases dst with
  | none=>rfl
  | some d=>exact ej fun e=>hs (by simp [e])
 ·obtain⟨m,hm⟩:=List.getElem?_of_mem hr
  obtain⟨_,u,hu,hn⟩:=hun m r hm
  rw [hgetio m r hm (hrootIo m r hm),iZ,ahx,hu]
  exact hn.1
 ·rcases List.mem_append.1 hs with hs | hs
  ·rcases hdx with ⟨rfl,_⟩ | ⟨d,y,rfl,rfl,_⟩
   ·cases hs
   ·have:s=d:=by simpa using hs
    subst this
    by_cases hsl:s<δ.length
    ·have e:=wH (δ:=δ) ([s]++fD ags) ([y]++us) (m:=0) (s:=s) hnd2 rfl hsl
     simp only [Option.toList_some] at e ⊢
     rw [e]
     exact hU F2 O2 hlv (fun b j hj=>⟨hO2s b j hj,aia hB (hpost.rn b j hj).1,fun hn=>.inr (.inr ⟨j,hj,hn⟩)⟩) s y rfl rfl hsl
    ·refine .inl ?_
     have:∀(l:List D) (n:Nat),¬n<l.length→nth l n = .bad:=fun l n h=>by
      rw [iZ,ahx,ahT (by omega)];rfl
     exact this _ _ (by rw [dI];exact hsl)
  ·have hs':=hs
   obtain⟨m,hm⟩:=List.getElem?_of_mem hs
   have hr:=hrootIo m s hm
   obtain⟨hb,u,hu,hn⟩:=hun m s hm
   rw [hgetio m s hm hr,iZ,ahx,hu]
   have hav:av (a.put dst v) s=av a s:=by
    cases dst with
    | none=>rfl
    | some d =>
     refine ej ?_
     rcases hdx with ⟨h,_⟩ | ⟨d',y,h,_,hm'⟩
     ·cases h
     ·cases h
      rintro rfl
      rw [jl] at hm'
      exact(of_decide_eq_false hm') hs'
   refine .inr ?_
   obtain⟨hn1,hn2⟩:=hn
   have hbl:∀lv,lv≠1→(iM ags=[]∨lv≤1)→∀b,FB F' 0 lv b→FB F2 B lv b:=by
    intro lv h1 h2 b hb
    refine hlv lv b h2 ?_
    match lv,h1 with
    | 0,_=>exact hb
    | n+2,_=>exact hb
   have hlv1:∀lv,(∃z io,aC c.K s = .own z lv io)∨(∃n io,aC c.K s = .box n lv io)→iM ags=[]∨lv≤1:=by
    intro lv hk
    rcases hbor with h | ⟨_,h0⟩
    ·exact .inl h
    ·right
     have:=TQ ags S.pm xs hioA h0 m s hm lv hk
     omega
   generalize hks:aC c.K s=kk at hn2
   cases kk with
   | own z lv io =>
    refine .inr ?_
    obtain⟨h1,h2⟩:=hn2
    rw [hav]
    have hown:=(hI.own hks hb).blk
    exact eW (hbl lv h1 (hlv1 lv (.inl ⟨z,io,hks⟩))) (fun _ _=>rfl) (fun b hbk _=>⟨⟨(hO2n b (hRn b (hown b hbk).2)).trans (hown b hbk).1.1,(hown b hbk).1.2⟩,rfl⟩) h2
   | box n lv io =>
    refine .inr ?_
    obtain⟨h1,h2⟩:=hn2
    rw [hav]
    have hown:=(hI.box hks hb).blk
    exact rq (hbl lv h1 (hlv1 lv (.inr ⟨n,io,hks⟩))) (fun _ _=>rfl) (fun b hbk _=>⟨⟨(hO2n b (hRn b (hown b hbk).2)).trans (hown b hbk).1.1,(hown b hbk).1.2⟩,rfl⟩) h2
   | _=>exact hn2.elim
 ·exact hkeep b (hI.fl b hb).1 fun p hp=>by rw [(hI.fl b hb).2] at hp;cases hp
 ·have hb:=(hI.ol b p hp).1
  exact⟨(hO2n b (hRn b hb)).trans hp,hkeep b hb fun q hq=>by rw [hp] at hq;cases hq;exact fun hm'=>hm (ah8 _ hm')⟩
 ·rcases hb with hb | hb | ⟨j,hj,hn⟩
  ·obtain⟨h1,h2⟩:=hI.fl b hb
   exact⟨ah2 h1 hpost.size,(hO2n b (hRn b h1)).trans h2⟩
  ·obtain⟨_,h1,h2⟩:=hpost.fn b hb.1
   exact⟨h1,(hO2n b h2).trans (hOlt b hb.2)⟩
  ·exact⟨(hpost.rn b j hj).2,(hO2s b j hj).trans hn⟩
 ·cases h:R b with
  | none =>
   rw [hO2n b h] at hp
   exact⟨ah2 (hI.ol b p hp).1 hpost.size,(hI.ol b p hp).2⟩
  | some j=>exact⟨(hpost.rn b j h).2,.inl (aia hB (hpost.rn b j h).1)⟩
 ·rcases hb with hb | hb | ⟨j,hj,_⟩
  ·exact .inl hb
  ·exact .inr (aia hB hb.2)
  ·exact .inr (aia hB (hpost.rn b j hj).1)
 ·refine hkeep b (ah2 hb hB) fun p hp=>?_
  rcases(hI.ol b p hp).2 with h1 | h1
  ·omega
  ·exact absurd h1 hx
theorem Wb:∀{ms:List Kd},Az ms=true→∀i lv,(aC ms i = .dat lv∨∃z io,aC ms i = .own z lv io)→lv≤1
 | [],_,i,lv,hk=>by simp [aC] at hk
 | m::ms,h,i,lv,hk=>by
  have:(∀l,m = .dat l→l≤1)∧(∀z l io,m = .own z l io→l≤1)∧Az ms=true:=by
   cases m with
   | dat a =>
    simp only [Az] at h
    split at h
    case h_2=>cases h
    rename_i e
    exact⟨fun l e'=>by cases e';exact cM.1 e,fun _ _ _ e=>(by cases e),h⟩
   | own z a io =>
    simp only [Az] at h
    split at h
    case h_2=>cases h
    rename_i e
    exact⟨fun _ e=>(by cases e),fun _ l _ e'=>by cases e';exact cM.1 e,h⟩
   | _=>simp [Az] at h
  obtain⟨h1,h2,h3⟩:=this
  cases i with
  | zero =>
   simp only [aC] at hk
   rcases hk with hk | ⟨z,io,hk⟩
   ·exact h1 lv hk
   ·exact h2 z lv io hk
  | succ i=>exact Wb h3 i lv hk
theorem Yi {o:Oper} {q:Call} {f:Nat} (ho:o.op = .call q) (hf:q.callee = .value (.func f)):(execOp a.eval o).run P w=(callFunc f (q.args.map a.eval)).run P w:=by
 simp [execOp,ho,resolve,hf,Deferred.ofValue,Act.eval,invoke]
theorem YG {o:Oper} {q:Call} {t f:Nat} {us:Array Value} (ho:o.op = .call q) (hf:q.callee = .value (.tmp t)) (hv:av a t = .func (.func f) #[] us):(execOp a.eval o).run P w=(callFunc f (q.args.map a.eval++us)).run P w:=by
 have hv':a.eval (.tmp t) = .func (.func f) #[] us:=hv
 simp [execOp,ho,resolve,hf,Deferred.ofValue,hv',invoke]
theorem CV {w:World} {F:Nat→Prop} {ow:Nat→Option Nat}:∀(pm pn:List Kd) (ds cs:List D) (ys us:List Value) (i:Nat),fG w F ow i pm ds ys→fG w F ow (i+pm.length) pn cs us→fG w F ow i (pm++pn) (ds++cs) (ys++us)
 | [],pn,[],cs,[],us,i,_,h=>by simpa using h
 | k::pm,pn,d::ds,cs,y::ys,us,i,h1,h2=>⟨h1.1,CV pm pn ds cs ys us (i+1) h1.2 (by rw [show i+1+pm.length=i+(k::pm).length by simp;omega];exact h2)⟩
 | [],_,_::_,_,_,_,_,h,_=>h.elim
 | [],_,[],_,_::_,_,_,h,_=>h.elim
 | _::_,_,[],_,_,_,_,h,_=>h.elim
 | _::_,_,_::_,_,[],_,_,h,_=>h.elim
theorem Sj {K:List Kd}:∀(xs:List Operand) (pm:List Kd) (ags:List Ag),nh K xs pm=some ags→pm.length=xs.length
 | [],[],_,_=>rfl
 | x::xs,m::ms,ags,h=>by
  simp only [nh] at h
  split at h
  ·rename_i h1 h2
   simp [Sj xs ms _ h2]
  ·cases h
 | [],_::_,_,h=>by simp [nh] at h
 | _::_,[],_,h=>by simp [nh] at h
theorem XS {α:Type}:∀(n:Nat) (l:List α),NS n l=l.take n
 | 0,l=>by simp [NS]
 | n+1,[]=>by simp [NS]
 | n+1,_::l=>by simp [NS,XS n l]
theorem ZQ {w:World} {F:Nat→Prop} {ow:Nat→Option Nat}:∀(pn:List Kd) (cs:List D) (us:List Value) (i:Nat),qS pn=true→cs.length=pn.length→cs.all D.single=true→bZ w F cs us→fG w F ow i pn cs us
 | [],[],us,i,_,_,_,h=>by
  rw [aV] at h
  subst h
  trivial
 | k::pn,d::cs,us,i,hk,hl,hs,h=>by
  obtain⟨v1,v2,rfl,h1,h2⟩:=aw.1 h
  simp only [List.all_cons,ahu] at hs
  obtain⟨y,rfl,_⟩:=lh d v1 hs.1 h1
  cases k with
  | dat lv =>
   simp only [qS] at hk
   split at hk
   case h_2=>cases hk
   rename_i e
   rw [ba] at e
   subst e
   exact⟨.inr ((mc hs.1).2 h1),ZQ pn cs v2 (i+1) hk (by simpa using hl) hs.2 h2⟩
  | _=>simp [qS] at hk
 | [],_::_,_,_,_,hl,_,_=>by simp at hl
 | _::_,[],_,_,_,hl,_,_=>by simp at hl
theorem Ov {w:World} {F:Nat→Prop}:∀(pm pn:List Kd) (us:List D) (ys zs:List Value),pm.length=ys.length→qS pn=true→wB w F (pm++pn) us (ys++zs)→wB w F pm us ys
 | [],pn,us,[],zs,_,hn,h=>by
  have:∀(pn:List Kd) (us:List D) (zs:List Value),qS pn=true→wB w F pn us zs→us=[]:=by
   intro pn
   induction pn with
   | nil =>
    intro us zs _ h
    cases us with
    | nil=>rfl
    | cons u us=>exact h.elim
   | cons k pn ih =>
    intro us zs hk h
    cases k with
    | dat lv =>
     cases zs with
     | nil=>cases us<;>exact h.elim
     | cons z zs =>
      simp only [wB,ul,ah3,if_false] at h
      simp only [qS] at hk
      split at hk
      ·exact ih us zs hk h
      ·cases hk
    | _=>simp [qS] at hk
  have e:=this pn us zs hn (by simpa using h)
  subst e
  trivial
 | k::pm,pn,us,y::ys,zs,hl,hn,h=>by
  simp only [aid,wB] at h ⊢
  split
  ·rename_i hk
   rw [if_pos hk] at h
   cases us with
   | nil=>exact h
   | cons u us=>exact⟨h.1,h.2.1,Ov pm pn us ys zs (by simpa using hl) hn h.2.2⟩
  ·rename_i hk
   rw [if_neg hk] at h
   exact Ov pm pn us ys zs (by simpa using hl) hn h
 | [],_,_,_::_,_,hl,_,_=>by simp at hl
 | _::_,_,_,[],_,hl,_,_=>by simp at hl
theorem abA (hS:∀f S,eX c.S f=some S→au c.G P f S) {o:Oper} {q:Call} {t f:Nat} {S:FS} (ho:o.op = .call q) (hf:q.callee = .value (.tmp t)) (hlk:eX c.S f=some S) {A:Ac} (hA:WF c o.dst t f S q.args.toList=some A) (hI:Inv c B X w0 F0 F O a w δ)
  {k:List D→Option Out} {r:Out} (hg:fI c A δ k=some r) (Q:Exit→Act→World→Prop):o.wp P a w (Next c B X w0 F0 k r) Q:=by
 have hM:=hS f S hlk
 unfold WF at hA
 split at hA
 case h_2=>cases hA
 rename_i d lt lr hd hkt hrm
 split at hA
 case h_2=>cases hA
 rename_i ags l hags hkd
 split at hA
 case h_2=>cases hA
 rename_i hlr hlt hpm hdat hio hbor
 cases hA
 rw [qG,XS] at hags hpm
 rw [qG,HM] at hdat
 rw [cM] at hlr hlt
 simp only [fI,aA] at hg
 obtain⟨caps,hc1,hg⟩:=aht.1 hg
 rw [lG] at hg
 obtain⟨ds,h1,hg⟩:=aht.1 hg
 simp only [ah9] at hg
 unfold ae at hg
 split at hg
 case h_2=>cases hg
 rename_i rs us h2
 unfold afm at hc1
 split at hc1
 case h_2=>cases hc1
 rename_i g0 l0 hclo
 split at hc1
 case isFalse=>cases hc1
 rename_i hcc
 cases hc1
 obtain⟨rfl,hcl,hcs⟩:=hcc
 have hbt:nth δ t ≠ .bad:=fun e=>by rw [e] at hclo;cases hclo
 have hst:=(hI.slot t).resolve_left hbt
 rw [hkt] at hst
 have hrep:=hst.resolve_left hbt
 rw [hclo] at hrep
 simp only [bP,RepC] at hrep
 obtain⟨uv,hav,hru⟩:=hrep
 simp only [ahH,and_true] at hav
 have hpmE:S.pm=S.pm.take q.args.toList.length++S.pm.drop q.args.toList.length:=(aii _ _).symm
 have hlenA:=Sj _ _ _ hags
 have hFB:∀b,FB F B lt b→F b:=hN
 have hargs:=Uq (F':=F) (ow:=fun _=>none) hI (fun _ h=>h) q.args.toList _ ags 0 ds hags hpm h1 (fun r hr b hb=>by rw [hbor] at hr;cases hr) (fun j r hj b hb=>by
  have:=yZ hj
  rw [hio] at this
  cases this)
 have hcaps:=ZQ (w:=w) (F:=F) (ow:=fun _=>none) (S.pm.drop q.args.toList.length) caps uv (0+(S.pm.take q.args.toList.length).length) hdat (by rw [hcl,qG,qG,HM]) hcs (cB hFB (fun _ _=>rfl) _ _ hru)
 have hall:=CV _ _ _ _ _ _ 0 hargs hcaps
 rw [←hpmE] at hall
 have he:=hM (ds++caps) rs us h2 ((q.args.toList.map a.eval).toArray++uv.toArray) w F (fun _=>none) hI.gl (by simpa using hall) (fun b hb=>⟨(hI.fl b hb).1,rfl⟩) (fun b i hb=>by cases hb) o a (Next c B X w0 F0 k r) Q (fun v w' hp=>?_)
 ·unfold Oper.wp
  rw [YG ho hf hav]
  have:q.args.map a.eval=(q.args.toList.map a.eval).toArray:=by rw [←ait,ahW]
  rw [this]
  exact he
 ·obtain⟨F',R,vs,hv,hp⟩:=hp
  have hpost:CallPost {pm:=S.pm.take q.args.toList.length,rm:=S.rm,f:=S.f} (q.args.toList.map a.eval).toArray rs us w (fun b=>F b∨∃r∈iM ags,O b=some (r,0)) (fun b=>match O b with
   | some (r,0)=>BT ags r 0
   | _=>none) F' R vs w':=by
   refine⟨hp.os,hp.tape,hp.output,hp.size,fun b hb _=>hp.keep b hb rfl,fun b hb=>?_,fun b hb=>⟨?_,(hp.fn b hb).2⟩,hp.rn,hp.len,hp.lenD,hp.res,?_⟩
   ·rcases hb with hb | ⟨r,hr,_⟩
    ·exact hp.f0 b hb
    ·rw [hbor] at hr;cases hr
   ·rcases(hp.fn b hb).1 with h | h
    ·exact .inl (.inl h)
    ·exact .inr h
   ·have hu:=hp.us
    rw [hpmE] at hu
    simp only [Array.toList_append] at hu
    exact Ov _ _ _ _ _ (by simpa using hlenA) hdat hu
  have hvl:=hp.len
  rw [hrm] at hvl
  obtain⟨y,rfl⟩:=ah6.1 hvl
  simp only [nT] at hv
  subst hv
  have hres:=hp.res 0
  rw [hrm] at hres
  simp only [aC,ahQ] at hres
  have hsz:d<δ.length→av (a.put (some d) v) d=v:=fun h=>ie (by rw [hI.la,←hI.ld];exact h)
  obtain⟨F2,O2,hI'⟩:=uR (S:={pm:=S.pm.take q.args.toList.length,rm:=S.rm,f:=S.f}) (v:=v) (dst:=some d) (x:=[nth rs 0]) hI hags hpm h1 (by simp [hio,nN]) (.inl hbor) hpost (.inr ⟨d,nth rs 0,rfl,rfl,by simp [hio,oc]⟩) (fun _=>none) (fun _ _ h=>by cases h) (fun _ _=>rfl) (fun F2 O2 h4 h5 d' y' e1 e2 h6=>by
   cases e1
   simp only [ahH,and_true] at e2
   subst e2
   by_cases hb:nth rs 0 = .bad
   ·exact .inl hb
   ·refine .inr ?_
    rw [hkd,hsz h6]
    exact .inr (ch (fun b hb=>pc hlr _ (h4 lr b (.inl hbor) hb)) (fun _ _=>rfl) (hres.resolve_left hb)))
  have hus:us=[]:=by
   have h3:=(JR (c:=c) (a:=a) (δ:=δ) ags _ q.args.toList us (Iz hI _ _ _ _ hags hpm h1) (by simpa using hpost.us)).1
   rw [hio] at h3
   exact ahS h3
  subst hus
  refine⟨F2,O2,_,by rw [hd];exact hI',?_⟩
  rw [hio]
  simpa using hg
theorem Yu (hS:∀f S,eX c.S f=some S→au c.G P f S) {o:Oper} {q:Call} {f:Nat} {S:FS} (ho:o.op = .call q) (hf:q.callee = .value (.func f)) (hlk:eX c.S f=some S) {A:Ac} (hA:Ek c o.dst S q.args.toList=some A) (hI:Inv c B X w0 F0 F O a w δ)
  {k:List D→Option Out} {r:Out} (hg:fI c A δ k=some r) (Q:Exit→Act→World→Prop):o.wp P a w (Next c B X w0 F0 k r) Q:=by
 have hM:=hS f S hlk
 unfold Ek at hA
 split at hA
 ·cases hA
 rename_i ags hags
 simp only at hA
 split at hA
 case h_2=>cases hA
 rename_i hokB hnd hpm
 have hbor:iM ags=[]∨(Az S.rm=true∧io0 S.pm=true∧Og (iM ags) (fD ags)=true):=by
  split at hokB
  ·rename_i e;exact .inl e
  ·split at hokB
   ·rename_i h1 h2;exact .inr ⟨h1,h2,hokB⟩
   ·cases hokB
 have hbor':iM ags=[]∨(Az S.rm=true∧io0 S.pm=true):=hbor.imp id fun h=>⟨h.1,h.2.1⟩
 have call:∀(ds rs us:List D),de ags (aA δ (gC ags))=some ds→S.f ds=some (.ret rs us)→(∀v w' F' R vs,v=nT vs→CallPost S (q.args.toList.map a.eval).toArray rs us w (fun b=>F b∨∃r∈iM ags,O b=some (r,0)) (fun b=>match O b with
   | some (r,0)=>BT ags r 0
   | _=>none) F' R vs w'→Next c B X w0 F0 k r (a.put o.dst v) w')→o.wp P a w (Next c B X w0 F0 k r) Q:=by
  intro ds rs us h1 h2 h3
  have hargs:=Uq (F':=fun b=>F b∨∃r∈iM ags,O b=some (r,0)) (ow:=fun b=>match O b with
   | some (r,0)=>BT ags r 0
   | _=>none) hI (fun _ h=>.inl h) q.args.toList S.pm ags 0 ds hags hpm h1 (fun r hr b hb=>.inr ⟨r,hr,hb⟩) (fun j r hj b hb=>by simp only [hb];rw [Mp hnd hj])
  have he:=hM ds rs us h2 (q.args.toList.map a.eval).toArray w _ _ (gT (fun _ h=>Or.inl h) (fun _ _=>rfl) hI.gl) (by simpa using hargs) (fun b hb=>?_) (fun b i hb=>?_) o a (Next c B X w0 F0 k r) Q (fun v w' hp=>?_)
  ·unfold Oper.wp
   rw [Yi ho hf]
   have:q.args.map a.eval=(q.args.toList.map a.eval).toArray:=by rw [←ait,ahW]
   rw [this]
   exact he
  ·rcases hb with hb | ⟨r',hr,hb⟩
   ·obtain⟨g1,g2⟩:=hI.fl b hb
    exact⟨g1,by simp only [g2]⟩
   ·refine⟨(hI.ol b _ hb).1,?_⟩
    simp only [hb]
    cases h:BT ags r' 0 with
    | none=>rfl
    | some j =>
     rcases hbor with h0 | ⟨_,_,h0⟩
     ·rw [h0] at hr;cases hr
     ·exact absurd (yA h) (Sn h0 r' hr)
  ·split at hb
   ·rename_i r' hr;exact(hI.ol b _ hr).1
   ·cases hb
  ·obtain⟨F',R,vs,h4,h5⟩:=hp
   exact h3 v w' F' R vs h4 h5
 have asm:∀(K:List D→List D→Option Out),kb [] ags (aA δ (gC ags)) (fun ds=>ae (S.f ds) K)=some r→∃ds rs us,de ags (aA δ (gC ags))=some ds∧S.f ds=some (.ret rs us)∧K rs us=some r:=by
  intro K h
  rw [lG] at h
  obtain⟨ds,h1,h2⟩:=aht.1 h
  simp only [ah9] at h2
  unfold ae at h2
  split at h2
  ·rename_i rs us h3
   exact⟨ds,rs,us,h1,h3,h2⟩
  ·cases h2
 have uslen:∀{ds rs us:List D} {F':Nat→Prop} {R:Nat→Option Nat} {vs:List Value} {w':World} {F1:Nat→Prop} {ow:Nat→Option Nat},de ags (aA δ (gC ags))=some ds→CallPost S (q.args.toList.map a.eval).toArray rs us w F1 ow F' R vs w'→Ek.outs us (fD ags)=us:=by
  intro ds rs us F' R vs w' F1 ow h1 h2
  have h3:=(JR (c:=c) (a:=a) (δ:=δ) ags S.pm q.args.toList us (Iz hI _ _ _ _ hags hpm h1) (by simpa using h2.us)).1
  unfold Ek.outs
  rw [ZV us _ 0 (by omega),ahC,←h3,List.take_length]
 have hlv0:∀i lv,(aC S.rm i = .dat lv∨∃z io,aC S.rm i = .own z lv io)→iM ags=[]∨lv≤1:=fun i lv hk=>hbor'.imp id fun h=>Wb h.1 i lv hk
 split at hA
 ·rename_i hd
  split at hA
  case h_2=>cases hA
  rename_i hrm
  cases hA
  obtain⟨ds,rs,us,h1,h2,h3⟩:=asm _ hg
  refine call ds rs us h1 h2 (fun v w' F' R vs hv hp=>?_)
  obtain⟨F2,O2,hI'⟩:=uR (v:=v) (dst:=none) (x:=[]) hI hags hpm h1 hnd hbor' hp (.inl ⟨rfl,rfl⟩) (fun _=>none) (fun _ _ h=>by cases h) (fun _ _=>rfl) (fun _ _ _ _ _ _ h=>by cases h)
  rw [uslen h1 hp] at h3
  exact⟨F2,O2,_,by rw [hd];exact hI',h3⟩
 ·rename_i d hd
  split at hA
  ·rename_i h1' h2' hrm
   cases hA
   obtain⟨ds,rs,us,h1,h2,h3⟩:=asm _ hg
   refine call ds rs us h1 h2 (fun v w' F' R vs hv hp=>?_)
   obtain⟨F2,O2,hI'⟩:=uR (v:=v) (dst:=some d) (x:=[.bad]) hI hags hpm h1 hnd hbor' hp (.inr ⟨d,.bad,rfl,rfl,h2'⟩) (fun _=>none) (fun _ _ h=>by cases h) (fun _ _=>rfl) (fun _ _ _ _ d y _ h _=>by
    simp only [ahH,and_true] at h
    exact .inl h.symm)
   rw [uslen h1 hp] at h3
   exact⟨F2,O2,_,by rw [hd];exact hI',h3⟩
  ·rename_i kd h1' h2' hrm
   cases hA
   obtain⟨ds,rs,us,h1,h2,h3⟩:=asm _ hg
   refine call ds rs us h1 h2 (fun v w' F' R vs hv hp=>?_)
   have hvl:=hp.len
   rw [hrm] at hvl
   obtain⟨y,rfl⟩:=ah6.1 hvl
   simp only [nT] at hv
   subst hv
   have hres:=hp.res 0
   rw [hrm] at hres
   simp only [aC,ahQ] at hres
   rw [hrm] at h1'
   have hlv:=hlv0 0
   rw [hrm] at hlv
   simp only [aC] at hlv
   have fin:∀(g:Nat→Option (Nat × Nat)),(∀j p,g j=some p→p.1=d)→(∀(F2:Nat→Prop) (O2:Nat→Option (Nat × Nat)),(∀lv b,(iM ags=[]∨lv≤1)→FB F' w.heap.size lv b→FB F2 B lv b)→(∀b j,R b=some j→O2 b=g j∧B≤b∧(g j=none→F2 b))→d<δ.length→Ce c.K B F2 O2 (a.put (some d) v) w' d (nth rs 0)) →
     Next c B X w0 F0 k r (a.put o.dst v) w':=by
    intro g hg' hU
    obtain⟨F2,O2,hI'⟩:=uR (v:=v) (dst:=some d) (x:=[nth rs 0]) hI hags hpm h1 hnd hbor' hp (.inr ⟨d,nth rs 0,rfl,rfl,h2'⟩) g (fun j p h d' e=>by cases e;exact hg' j p h) (fun h=>by cases h) (fun F2 O2 h4 h5 d' y' e1 e2 h6=>by
     cases e1
     simp only [ahH,and_true] at e2
     subst e2
     exact hU F2 O2 h4 h5 h6)
    rw [uslen h1 hp] at h3
    exact⟨F2,O2,_,by rw [hd];exact hI',h3⟩
   have hsz:d<δ.length→av (a.put (some d) v) d=v:=fun h=>ie (by rw [hI.la,←hI.ld];exact h)
   by_cases hb:nth rs 0 = .bad
   ·exact fin (fun _=>none) (fun _ _ h=>by cases h) (fun _ _ _ _ _=>.inl hb)
   have hres:=hres.resolve_left hb
   cases kd with
   | dat lv =>
    simp only [Wc] at h1'
    split at h1'
    case h_2=>cases h1'
    rename_i l hkd
    rw [cM] at h1'
    refine fin (fun _=>none) (fun _ _ h=>by cases h) (fun F2 O2 h4 h5 h6=>.inr ?_)
    rw [hkd,hsz h6]
    exact .inr (ch (fun b hb=>pc h1' _ (h4 lv b (hlv lv (.inl rfl)) hb)) (fun _ _=>rfl) hres)
   | own z lv io =>
    cases io
    case true =>
     simp only [Wc] at h1'
     split at h1'
     ·simp [iV] at h1'
     ·cases h1'
    simp only [Wc] at h1'
    have hlv':=hlv lv (.inr ⟨z,false,rfl⟩)
    rcases wT h1' with ⟨l,hkd,hle⟩ | ⟨l,hkd,h1l,hle⟩
    ·refine fin (fun _=>some (d,0)) (fun _ _ h=>by cases h;rfl) (fun F2 O2 h4 h5 h6=>.inr ?_)
     rw [hkd,hsz h6]
     exact .inr (eW (fun b hb=>pc hle _ (h4 lv b hlv' hb)) (fun _ _=>rfl) (fun b _ hb=>⟨⟨(h5 b 0 hb.1).1,fun _=>(h5 b 0 hb.1).2.1⟩,rfl⟩) hres)
    ·refine fin (fun _=>none) (fun _ _ h=>by cases h) (fun F2 O2 h4 h5 h6=>.inr ?_)
     rw [hkd,hsz h6]
     refine .inr (ch (fun b hb=>?_) (fun _ _=>rfl) (mL hres))
     rcases hb with hb | ⟨hb1,hb2⟩
     ·exact pc hle _ (h4 lv b hlv' hb)
     ·obtain⟨_,g2,g3⟩:=h5 b 0 hb1
      match l,h1l with
      | 1,_=>exact⟨g3 rfl,g2⟩
      | _+2,_=>exact g3 rfl
   | _=>exact hres.elim
  ·rename_i h1' h2' hn0 hn1
   cases hA
   obtain⟨ds,rs,us,h1,h2,h3⟩:=asm _ hg
   refine call ds rs us h1 h2 (fun v w' F' R vs hv hp=>?_)
   have hvl:=hp.len
   have hfit:∃ns,aC c.K d = .tup ns∧iV S.rm ns=true:=by
    unfold Wc at h1'
    split at h1'
    ·rename_i e;exact absurd e (hn1 _)
    ·rename_i e;exact absurd e (hn1 _)
    ·rename_i e;exact absurd e hn0
    ·split at h1'
     ·exact⟨_,‹_›,h1'⟩
     ·cases h1'
   obtain⟨ns,hkd,hsame⟩:=hfit
   have hv2:v = .tuple vs.toArray:=by
    rw [hv]
    unfold nT
    split
    ·rename_i y
     exfalso
     have:S.rm.length=1:=by rw [←hvl];rfl
     obtain⟨kk,e⟩:=ah6.1 this
     exact hn1 _ e
    ·rfl
   obtain⟨F2,O2,hI'⟩:=uR (v:=v) (dst:=some d) (x:=[.tup rs]) hI hags hpm h1 hnd hbor' hp (.inr ⟨d,.tup rs,rfl,rfl,h2'⟩) (fun j=>some (d,j+1)) (fun j p h d' e=>by cases e;cases h;rfl) (fun h=>by cases h) (fun F2 O2 h4 h5 d' y' e1 e2 h6=>by
    cases e1
    simp only [ahH,and_true] at e2
    subst e2
    refine .inr ?_
    rw [hkd,ie (by rw [hI.la,←hI.ld];exact h6),hv2]
    refine⟨rs,vs.toArray,rfl,rfl,fun i=>?_⟩
    obtain⟨e1,e2⟩:=JP hsame i
    rw [e1]
    have hgd:vs.toArray.getD i undef=vs.getD i undef:=by simp
    rw [hgd]
    rcases hp.res i with hb | hres
    ·exact .inl hb
    rcases e2 with e2 | ⟨lv,e2⟩ | ⟨z,lv,e2⟩
    ·rw [e2] at hres;exact hres.elim
    ·rw [e2] at hres ⊢
     exact .inr (ch (fun b hb=>h4 lv b (hlv0 i lv (.inl e2)) hb) (fun _ _=>rfl) hres)
    ·rw [e2] at hres ⊢
     exact .inr (eW (fun b hb=>h4 lv b (hlv0 i lv (.inr ⟨z,false,e2⟩)) hb) (fun _ _=>rfl) (fun b _ hb=>⟨⟨(h5 b i hb.1).1,fun _=>(h5 b i hb.1).2.1⟩,rfl⟩) hres))
   rw [uslen h1 hp] at h3
   exact⟨F2,O2,_,by rw [hd];exact hI',h3⟩
  ·cases hA
end
end Go.V

namespace Go.V
open Go.RowKit
section
variable {P:Program} {c:Cx}
theorem Ht {o:Oper} {q:Call} (ho:o.op = .call q) {bi:Builtin} (hq:q.callee = .builtin bi) (f:D→D→Option D) (g:Value→Value→Sem Value) (hbi:(bi = .min∧f=XE∧g=aim)∨(bi = .max∧f=Uf∧g=ain))
  {A:Ac} (hA:cF c o.dst q.args.toList 0 (Oi f)=some A) {B:Nat} {X:Nat→Prop} {w0:World} {F0 F:Nat→Prop} {O:Nat→Option (Nat × Nat)} {a:Act} {w:World} {δ:List D} (hI:Inv c B X w0 F0 F O a w δ) {k:List D→Option Out} {r:Out} (hg:fI c A δ k=some r) (Q:Exit→Act→World→Prop):o.wp P a w (Next c B X w0 F0 k r) Q:=by
 rcases hbi with ⟨rfl,rfl,rfl⟩ | ⟨rfl,rfl,rfl⟩
 ·refine Kq ho hq rfl (f:=XE) (g:=aim) (fun w G a b z x y ha hb h=>aer ha hb h) (fun x rest v he hr=>?_) hA hI hg Q
  simp [builtin,Builtin.min_,he,hr]
 ·refine Kq ho hq rfl (f:=Uf) (g:=ain) (fun w G a b z x y ha hb h=>aeH ha hb h) (fun x rest v he hr=>?_) hA hI hg Q
  simp [builtin,Builtin.max_,he,hr]
theorem aby (hT:okT P c.T=true) (hS:∀f S,eX c.S f=some S→au c.G P f S) (o:Oper):nk P c o:=by
 intro A hA B X w0 F0 F O a w δ hI k r hg Q
 have hA0:=hA
 unfold du at hA
 split at hA
 case h_1 x ho=>exact VZ (.inl ho) hA hI hg Q
 case h_2 x ho=>exact VZ (.inr ho) hA hI hg Q
 case h_3 q x y ho=>exact YR ho A hA0 B X w0 F0 F O a w δ hI k r hg Q
 case h_4 t ho=>exact Xv hT ho A hA0 B X w0 F0 F O a w δ hI k r hg Q
 case h_5 t x ho=>exact aaC ho A hA0 B X w0 F0 F O a w δ hI k r hg Q
 case h_6 t ps ho=>exact Wf hT ho A hA0 B X w0 F0 F O a w δ hI k r hg Q
 case h_7 t n ps ho=>exact JC hT ho A hA0 B X w0 F0 F O a w δ hI k r hg Q
 case h_8 t p ho=>exact YY hT ho A hA0 B X w0 F0 F O a w δ hI k r hg Q
 case h_9 t p x ho=>exact VD hT ho A hA0 B X w0 F0 F O a w δ hI k r hg Q
 case h_10 x ho=>exact OZ ho A hA0 B X w0 F0 F O a w δ hI k r hg Q
 case h_11 op t x y _ ho=>exact Xe hT ho A hA0 B X w0 F0 F O a w δ hI k r hg Q
 case h_12 op t x ho=>exact Ze ho A hA0 B X w0 F0 F O a w δ hI k r hg Q
 case h_13 s t x ho=>exact Qg hT ho A hA0 B X w0 F0 F O a w δ hI k r hg Q
 case h_14 f u v ho=>exact MY ho A hA0 B X w0 F0 F O a w δ hI k r hg Q
 case h_15 t n m ho=>exact LV hT ho A hA0 B X w0 F0 F O a w δ hI k r hg Q
 case h_16 t x lo hi ho =>
  have hA1:=aO hA
  clear hA
  obtain⟨i,hi',hA⟩:=hA1
  have main:∀(hsl:i.str=false→qR i=true),Wr c o.dst i x lo hi=some A→o.wp P a w (Next c B X w0 F0 k r) Q:=by
   intro hsl hA
   have hA2:=hA
   unfold Wr at hA2
   split at hA2
   case h_2=>cases hA2
   rename_i q
   split at hA2
   ·rename_i lv hk;exact Lh hT ho hi' hsl hk hA hI hg Q
   ·exact xz hT ho hi' hsl hA2 hI hg Q
   ·exact xz hT ho hi' hsl hA2 hI hg Q
   ·cases hA2
  split at hA
  ·rename_i h1 h2;exact main (fun _=>h1) hA
  ·rename_i h1 h2;exact main (fun h=>by rw [h] at h2;cases h2) hA
  ·cases hA
 case h_17 t x f ho=>exact Lt hT ho A hA0 B X w0 F0 F O a w δ hI k r hg Q
 case h_18 t x f ho=>exact XG hT ho A hA0 B X w0 F0 F O a w δ hI k r hg Q
 case h_19 t x i ho=>exact LK hT ho A hA0 B X w0 F0 F O a w δ hI k r hg Q
 case h_20 t x i ho=>exact WL hT ho A hA0 B X w0 F0 F O a w δ hI k r hg Q
 case h_21 x i ho=>exact Qt ho A hA0 B X w0 F0 F O a w δ hI k r hg Q
 case h_22 q ho =>
  unfold aa5 at hA
  split at hA
  ·rename_i x t hq h1 h2
   have hA1:=aO hA
   clear hA
   obtain⟨i,hi,hA⟩:=hA1
   have eq:q={callee:=.builtin .len,args:=#[x],argTypes:=#[t]}:=by
    obtain⟨cl,ar,ty⟩:=q
    simp only at hq h1 h2
    subst hq
    congr
    ·rw [←ahW (xs:=ar),h1]
    ·rw [←ahW (xs:=ty),h2]
   rw [eq] at ho
   split at hA
   ·rename_i g1 g2
    exact NE hT ho hi (fun _=>g1) (fun h=>by cases h) hA hI hg Q
   ·rename_i g1 g2
    exact NE hT ho hi (fun h=>by cases h) (fun _=>g2) hA hI hg Q
   ·cases hA
  ·rename_i s x t u hq h1 h2
   split at hA
   case h_2=>cases hA
   rename_i htu
   rw [ba] at htu
   subst htu
   have hA1:=aO hA
   clear hA
   obtain⟨i,hi,hA⟩:=hA1
   have hA1:=aO hA
   clear hA
   obtain⟨e,he,hA⟩:=hA1
   split at hA
   case h_2=>cases hA
   rename_i hsl
   exact Tu hT ho hq h1 h2 hi he hsl hA hI hg Q
  ·rename_i hq;exact Ht ho hq XE aim (.inl ⟨rfl,rfl,rfl⟩) hA hI hg Q
  ·rename_i hq;exact Ht ho hq Uf ain (.inr ⟨rfl,rfl,rfl⟩) hA hI hg Q
  ·rename_i f hq
   split at hA
   case h_2=>cases hA
   rename_i S hlk
   exact Yu hS ho hq hlk hA hI hg Q
  ·rename_i t hq
   split at hA
   case h_2=>cases hA
   rename_i f hC
   split at hA
   case h_2=>cases hA
   rename_i S hlk
   exact abA hS ho hq hlk hA hI hg Q
  ·cases hA
 case h_23=>cases hA
def Nt (n:Nat) (f:(List D→Option Out)→Option Out):Prop:=∃o:Option (List D),(∀k,f k=o.bind k)∧∀l,o=some l→l.length=n
def pi:Ac→Prop
 | .one _ _ _=>True
 | .many _ hw cw fn=>∀is,Nt (hw++cw).length (fn is)
theorem kN {n:Nat} {l:List D} (h:l.length=n):Nt n (fun k=>k l):=⟨some l,fun _=>rfl,fun l' e=>by cases e;exact h⟩
theorem tI {n:Nat}:Nt n (fun _=>none):=⟨none,fun _=>rfl,fun _ e=>by cases e⟩
theorem iu {n:Nat} {X:Option D} {f:D→(List D→Option Out)→Option Out} (h:∀y,Nt n (f y)):Nt n (fun k=>X.bind fun y=>f y k):=by
 cases X with
 | none=>exact tI
 | some y=>exact h y
theorem acR {n:Nat} {X:Option (List D)} {f:List D→(List D→Option Out)→Option Out} (h:∀y,Nt n (f y)):Nt n (fun k=>X.bind fun y=>f y k):=by
 cases X with
 | none=>exact tI
 | some y=>exact h y
theorem Ar {n:Nat} {is:List D} {i:Nat} {f:D→(List D→Option Out)→Option Out} (h:∀y,Nt n (f y)):Nt n (fun k=>iB is i fun y=>f y k):=by
 simp only [fT]
 exact h _
theorem acF {n q r:Nat} {is:List D} {f:D→D→List D→(List D→Option Out)→Option Out} (h:∀b p is,Nt n (f b p is)):Nt n (fun k=>goP q r is fun b p is=>f b p is k):=by
 unfold goP
 cases ahF q r
 ·rcases is with _ | ⟨p,_ | ⟨b,is⟩⟩
  ·exact tI
  ·exact tI
  ·exact h _ _ _
 ·cases is with
  | nil=>exact tI
  | cons b is=>exact h _ _ _
theorem abR {n m:Nat} {chk:Bool} {b p y:D} {f:D→(List D→Option Out)→Option Out} (h:∀y,Nt n (f y)):Nt n (fun k=>stK chk m b p y fun b=>f b k):=by
 unfold stK
 cases chk
 ·exact iu h
 ·exact iu fun _=>iu h
theorem UR {n:Nat} {rd:List Nat} {is:List D} {f:D→(List D→Option Out)→Option Out} (h:∀y,Nt n (f y)):Nt n (fun k=>nj rd is fun y=>f y k):=by
 unfold nj
 rcases rd with _ | ⟨a,_ | ⟨b,rd⟩⟩
 ·exact h _
 ·exact Ar h
 ·exact Ar fun p=>Ar fun x=>iu h
theorem acd {n:Nat} {ags:List Ag} {is:List D} {f:List D→(List D→Option Out)→Option Out} (h:∀y,Nt n (f y)):Nt n (fun k=>kb [] ags is fun y=>f y k):=by
 simp only [lG,ah9]
 cases de ags is with
 | none=>exact tI
 | some y=>exact h y
theorem ZT {n:Nat} {r:Option Out} {f:List D→List D→(List D→Option Out)→Option Out} (h:∀y z,Nt n (f y z)):Nt n (fun k=>ae r fun y z=>f y z k):=by
 unfold ae
 split
 ·exact h _ _
 ·exact tI
theorem co {dst:Option Nat} {xs:List Operand} {lv:Nat} {h:List D→Option D} {A:Ac} (hA:cF c dst xs lv h=some A):pi A:=by
 unfold cF at hA
 repeat' (split at hA)
 all_goals first | (cases hA;done) | (cases hA;trivial)
theorem abC {rd:List Nat} {d lv l:Nat} {h:List D→Option D} {A:Ac} (hA:aes (fun h=>Ac.one rd d h) (Sl lv l h)=some A):pi A:=by
 unfold Sl at hA
 repeat' (split at hA)
 all_goals first | (cases hA;done) | (cases hA;trivial)
theorem Xp {dst:Option Nat} {x:Operand} {t:Nat} {A:Ac} (hA:XV c dst x t=some A):pi A:=by
 unfold XV at hA
 repeat' (split at hA)
 all_goals first
  | (cases hA;done)
  | exact co hA
  | (cases hA;trivial)
  | (cases hA;exact fun is=>Ar fun x=>kN rfl)
  | (cases hA;exact fun is=>Ar fun p=>Ar fun x=>iu fun y=>kN rfl)
  | (cases hA;exact fun is=>kN rfl)
  | (obtain⟨i,_,hA⟩:=aO hA;exact co hA)
theorem adL {dst:Option Nat} {i:TI} {p:Operand} {A:Ac} (hA:ae5 c dst i p=some A):pi A:=by
 unfold ae5 at hA
 repeat' (split at hA)
 all_goals first | (cases hA;done) | exact co hA | exact abC hA
theorem adb {i:TI} {p x:Operand} {A:Ac} (hA:ac5 c i p x=some A):pi A:=by
 have main:∀q r lv,XZ c i q r lv x=some A→pi A:=by
  intro q r lv hA
  unfold XZ at hA
  repeat' (split at hA)
  all_goals first
   | (cases hA;done)
   | (cases hA;exact fun is=>acF fun b p is=>Ar fun y=>abR fun b=>kN rfl)
   | (cases hA;exact fun is=>acF fun b p is=>abR fun b=>kN rfl)
 unfold ac5 at hA
 repeat' (split at hA)
 all_goals first | (cases hA;done) | exact main _ _ _ hA
theorem adO {dst:Option Nat} {i:TI} {f:Nat} {p:Operand} {A:Ac} (hA:ae6 c dst i f p=some A):pi A:=by
 unfold ae6 at hA
 repeat' (split at hA)
 all_goals first | (cases hA;done) | exact co hA | (cases hA;trivial)
theorem adC {dst:Option Nat} {i:TI} {x y:Operand} {A:Ac} (hA:ad3 c dst i x y=some A):pi A:=by
 unfold ad3 at hA
 repeat' (split at hA)
 all_goals first | (cases hA;done) | exact co hA | (cases hA;trivial)
theorem adt {dst:Option Nat} {i:TI} {n:Nat} {ps:List (Nat × Operand)} {A:Ac} (hA:ae2 c dst i n ps=some A):pi A:=by
 unfold ae2 at hA
 simp only at hA
 repeat' (split at hA)
 all_goals first | (cases hA;done) | (cases hA;exact fun is=>iu fun y=>kN rfl)
theorem ado {n:Nat} {chk:Bool} {b:D} {f:D→(List D→Option Out)→Option Out} (h:∀y,Nt n (f y)):Nt n (fun k=>Zu chk b fun b=>f b k):=by
 cases chk
 ·exact h b
 ·exact iu h
theorem adr {dst:Option Nat} {i:TI} {x y:Operand} {A:Ac} (hA:adz c dst i x y=some A):pi A:=by
 have main:∀d chk rs rx os,aaY c d i chk rs rx os=some A→pi A:=by
  intro d chk rs rx os hA
  unfold aaY at hA
  repeat' (split at hA)
  all_goals first
   | (cases hA;done)
   | (cases hA;exact fun is=>UR fun a=>UR fun b=>ado fun b=>iu fun y=>kN rfl)
   | (cases hA;exact fun is=>UR fun b=>ado fun b=>iu fun y=>kN rfl)
 unfold adz at hA
 repeat' (split at hA)
 all_goals first
  | (cases hA;done)
  | exact main _ _ _ _ _ hA
theorem acN {dst:Option Nat} {str:Bool} {x:Operand} {A:Ac} (hA:abq c dst str x=some A):pi A:=by
 unfold abq at hA
 repeat' (split at hA)
 all_goals first | (cases hA;done) | exact co hA | (cases hA;trivial)
theorem acQ {dst:Option Nat} {i:TI} {x:Operand} {lo hi:Option Operand} {A:Ac} (hA:Wr c dst i x lo hi=some A):pi A:=by
 have own:SG c dst i x lo hi=some A→pi A:=by
  intro hA
  unfold SG at hA
  repeat' (split at hA)
  all_goals first | (cases hA;done) | (cases hA;exact fun is=>UR fun a=>iu fun y=>kN rfl)
 unfold Wr at hA
 repeat' (split at hA)
 all_goals first | (cases hA;done) | exact co hA | exact own hA
theorem acq {dst:Option Nat} {i e:TI} {x y:Operand} {A:Ac} (hA:aeC c dst i e x y=some A):pi A:=by
 unfold aeC at hA
 repeat' (split at hA)
 all_goals first | (cases hA;done) | (cases hA;exact fun is=>iu fun y=>kN rfl)
theorem adZ {dst:Option Nat} {i:TI} {x:Operand} {A:Ac} (hA:afd c dst i x=some A):pi A:=by
 unfold afd at hA
 repeat' (split at hA)
 all_goals first | (cases hA;done) | (cases hA;exact fun is=>iu fun y=>kN rfl) | (cases hA;exact fun is=>iu fun y=>iu fun y=>kN rfl)
theorem abe {dst:Option Nat} {t f:Nat} {S:FS} {xs:List Operand} {A:Ac} (hA:WF c dst t f S xs=some A):pi A:=by
  unfold WF at hA
  repeat' (split at hA)
  all_goals first
    | (cases hA;done)
    | (cases hA;exact fun is=>by
        cases is with
        | nil=>exact tI
        | cons cl is=>exact acR fun caps=>acd fun ds=>ZT fun rs us=>kN rfl)
theorem acb {dst:Option Nat} {i:TI} {A:Ac} (hA:aeU c dst i=some A):pi A:=by
 unfold aeU at hA
 repeat' (split at hA)
 all_goals first | (cases hA;done) | (cases hA;exact fun is=>kN rfl)
theorem adM {dst:Option Nat} {x:Operand} {i:Nat} {A:Ac} (hA:ael c dst x i=some A):pi A:=by
 unfold ael at hA
 repeat' (split at hA)
 all_goals first | (cases hA;done) | (cases hA;trivial) | (cases hA;exact fun is=>Ar fun t=>iu fun y=>kN rfl)
theorem Xi (us:List D):∀(ios:List Nat) (j:Nat),(Ek.go us j ios).length=ios.length
 | [],_=>rfl
 | _::l,j=>by simp [Ek.go,Xi us l]
theorem acJ {dst:Option Nat} {S:FS} {xs:List Operand} {A:Ac} (hA:Ek c dst S xs=some A):pi A:=by
 unfold Ek at hA
 split at hA
 ·cases hA
 simp only at hA
 split at hA
 case h_2=>cases hA
 repeat' (split at hA)
 all_goals first
  | (cases hA;done)
  | (cases hA;exact fun is=>acd fun ds=>ZT fun rs us=>kN (by simp [Ek.outs,Xi]))
theorem adn {dst:Option Nat} {i j:TI} {x:Operand} {A:Ac} (hA:ad4 c dst i j x=some A):pi A:=by
 unfold ad4 at hA
 repeat' (split at hA)
 all_goals first | (cases hA;done) | exact co hA | (cases hA;trivial)
theorem adF {dst:Option Nat} {i:TI} {x y:Operand} {A:Ac} (hA:aex c dst i x y=some A):pi A:=by
 unfold aex at hA
 repeat' (split at hA)
 all_goals first | (cases hA;done) | exact co hA | (obtain⟨i,_,hA⟩:=aO hA;exact co hA)
theorem adJ {dst:Option Nat} {i:TI} {ps:List (Nat × Operand)} {A:Ac} (hA:ad2 c dst i ps=some A):pi A:=by
 unfold ad2 at hA
 simp only at hA
 repeat' (split at hA)
 all_goals first | (cases hA;done) | exact co hA
theorem abZ {dst:Option Nat} {x:Operand} {A:Ac} (hA:aeE c dst x=some A):pi A:=by
 unfold aeE at hA
 repeat' (split at hA)
 all_goals first | (cases hA;done) | exact co hA | (cases hA;trivial)
theorem abM {dst:Option Nat} {q:Call} {A:Ac} (hA:aa5 c dst q=some A):pi A:=by
 unfold aa5 at hA
 split at hA
 ·obtain⟨i,_,hA⟩:=aO hA
  split at hA<;>first | exact acN hA | cases hA
 ·split at hA
  ·obtain⟨i,_,hA⟩:=aO hA
   obtain⟨e,_,hA⟩:=aO hA
   split at hA<;>first | exact adr hA | cases hA
  ·cases hA
 ·exact co hA
 ·exact co hA
 ·split at hA<;>first | exact acJ hA | cases hA
 ·repeat' (split at hA)
  all_goals first | exact abe hA | cases hA
 ·cases hA
theorem Se {o:Oper} {A:Ac} (hA:du c o=some A):pi A:=by
 unfold du at hA
 split at hA
 case h_1=>exact Xp hA
 case h_2=>exact Xp hA
 case h_3=>exact co hA
 case h_4=>obtain⟨i,_,hA⟩:=aO hA;exact acb hA
 case h_5=>obtain⟨i,_,hA⟩:=aO hA;exact adZ hA
 case h_6=>obtain⟨i,_,hA⟩:=aO hA;exact adJ hA
 case h_7 =>
  obtain⟨i,_,hA⟩:=aO hA
  obtain⟨e,_,hA⟩:=aO hA
  split at hA<;>first | exact adt hA | cases hA
 case h_8=>obtain⟨i,_,hA⟩:=aO hA;exact adL hA
 case h_9 =>
  split at hA
  ·obtain⟨i,_,hA⟩:=aO hA;exact adb hA
  ·cases hA
 case h_10=>exact abZ hA
 case h_11 =>
  obtain⟨i,_,hA⟩:=aO hA
  split at hA
  ·exact co hA
  ·split at hA<;>exact co hA
 case h_12=>exact co hA
 case h_13 =>
  obtain⟨i,_,hA⟩:=aO hA
  obtain⟨e,_,hA⟩:=aO hA
  exact adn hA
 case h_14=>split at hA<;>first | exact co hA | cases hA
 case h_15 =>
  obtain⟨i,_,hA⟩:=aO hA
  obtain⟨e,_,hA⟩:=aO hA
  split at hA<;>first | exact acq hA | cases hA
 case h_16 =>
  obtain⟨i,_,hA⟩:=aO hA
  split at hA<;>first | exact acQ hA | cases hA
 case h_17=>obtain⟨i,_,hA⟩:=aO hA;exact adO hA
 case h_18 =>
  obtain⟨i,_,hA⟩:=aO hA
  split at hA<;>first | exact co hA | cases hA
 case h_19=>obtain⟨i,_,hA⟩:=aO hA;exact adC hA
 case h_20=>obtain⟨i,_,hA⟩:=aO hA;exact adF hA
 case h_21=>exact adM hA
 case h_22=>exact abM hA
 case h_23=>cases hA
end
end Go.V

namespace Go.V
open Go.RowKit
def YP:Kd→Bool
 | .via _=>false
 | .ref _=>false
 | _=>true
def acv (c:Cx) (ops:List Oper) (o:Oper):Bool :=
 (match o.dst with
  | some d=>!ul (aC c.K d)
  | none=>true) &&
 (match o.guard with
  | none=>true
  | some (j,_)=>(match OS ops j with
    | some g=>(match aC c.K g with
     | .dat _=>true
     | _=>false)
    | none=>false) &&
   (match du c o with
    | some (.one _ d _)=>(match o.dst with
     | some d'=>ahF d' d
     | none=>false)
    | some (.many _ hw cw _)=>(hw++cw).all (fun s=>YP (aC c.K s))&&(match o.dst with
     | some d=>oc d hw
     | none=>true)
    | none=>true))
def IoV (c:Cx) (V:Nat→Value) (a:Act):Prop:=∀s,ul (aC c.K s)=true→av a s=V s
theorem acf {P:Program} {o:Oper} {a:Act} {next:Act→World→Prop} {Q:Exit→Act→World→Prop}:∀{res:Result Go.Next},o.upon P a next Q res→o.upon P a (fun a' w'=>next a' w'∧∀s,o.dst≠some s→av a' s=av a s) Q res:=by
 have key:∀(df:List Deferred) (v:Value) (s:Nat),o.dst≠some s→av (({a with defers:=df}:Act).put o.dst v) s=av a s:=by
  intro df v s hs
  cases hd:o.dst with
  | none=>rfl
  | some d =>
   have:s≠d:=fun e=>hs (by rw [hd,e])
   exact(ej this).trans rfl
 have key0:∀(v:Value) (s:Nat),o.dst≠some s→av (a.put o.dst v) s=av a s:=fun v s hs=>key a.defers v s hs
 intro res h
 cases res with
 | ok n w' =>
  cases n<;>simp only [Oper.upon] at h ⊢ <;>
   first
    | exact⟨h,key0 _⟩
    | exact⟨h,key _ _⟩
    | exact aiu h (fun e w'' he=>by cases e<;>first | exact⟨he,key0 _⟩ | exact he)
    | exact Rows.mono h (fun _ _ he=>⟨he,key0 _⟩)
 | halt x w'=>cases x<;>simp only [Oper.upon] at h ⊢<;>exact h
section
variable {P:Program} {c:Cx} {B:Nat} {X:Nat→Prop} {w0:World} {F0 F:Nat→Prop} {O:Nat→Option (Nat × Nat)} {a:Act} {w:World} {δ:List D}
theorem we:∀(ss:List Nat) (l:List D) (j:Nat),j+ss.length=l.length→fit l j ss=l.drop j
 | [],l,j,h=>by simp [fit,List.drop_eq_nil_of_le (show l.length≤j by simp at h;omega)]
 | s::ss,l,j,h=>by
  simp only [ah7] at h
  have hj:j<l.length:=by omega
  simp only [fit]
  rw [we ss l (j+1) (by omega),ahZ hj,iZ,ahx,ahM hj]
  rfl
def IP (K:List Kd) (dst:Option Nat) (δ:List D) (s:Nat):D :=
 match dst with
 | some d=>if oc s (d::hP d K 0) then Gk (aC K s) else nth δ s
 | none=>nth δ s
theorem Ij (K:List Kd) (dst:Option Nat) (δ:List D):∀(ss:List Nat) (k:List D→Option Out),VN K δ dst ss k=k (ss.map (IP K dst δ))
 | [],k=>by simp [VN]
 | s::ss,k=>by
  cases dst with
  | none=>simp only [VN,IP,fT,ahR];exact Ij K none δ ss _
  | some d =>
   simp only [VN,ahR]
   cases h:oc s (d::hP d K 0)
   ·simp only [fT]
    rw [Ij K (some d) δ ss]
    simp only [IP,h,ah3,if_false]
   ·simp only
    rw [Ij K (some d) δ ss]
    simp only [IP,h,if_true]
theorem tz (f:Nat→D):∀(ss:List Nat) (δ:List D) (s:Nat),nth (az δ ss (ss.map f)) s=if s∈ss then(if s<δ.length then f s else .bad) else nth δ s
 | [],δ,s=>by simp [az]
 | t::ss,δ,s=>by
  simp only [ahR,az]
  rw [tz f ss (iL δ t (f t)) s,iR]
  by_cases hs:s∈ss
  ·simp [hs]
  ·by_cases ht:s=t
   ·subst ht
    simp only [hs,if_false,ahB,true_or,if_true]
    exact cI _ _ _
   ·simp only [hs,if_false,ahB,ht,or_self]
    exact fe _ _ _ _ ht
theorem YA {δ:List D} {s:Nat} (h:nth δ s ≠ .bad):s<δ.length:=by
 by_cases hl:s<δ.length
 ·exact hl
 ·exfalso
  rw [iZ,ahx,ahT (by omega)] at h
  exact h rfl
theorem aeR {s:Nat} (hs:s<a.tmps.size):Ce c.K B F O (a.put (some s) undef) w s (Gk (aC c.K s)):=by
 have hav:av (a.put (some s) undef) s=undef:=by
  simp [av,Act.put,hs]
 unfold Gk
 split
 ·rename_i lv hk
  refine .inr ?_
  simp only [hk]
  refine .inr ?_
  rw [hav]
  exact⟨rfl,rfl⟩
 ·exact .inl rfl
theorem Inv.pass_over (h:Inv c B X w0 F0 F O a w δ) {dst:Option Nat} {hw cw:List Nat} (hk:∀s∈hw++cw,YP (aC c.K s)=true) (hd:∀d,dst=some d→d∈hw) :
  Inv c B X w0 F0 F O (a.put dst undef) w (az δ (hw++(cw++bq c.K hw)) ((hw++cw).map (IP c.K dst δ))):=by
 have hav:∀s,dst≠some s→av (a.put dst undef) s=av a s:=by
  intro s hs
  cases dst with
  | none=>rfl
  | some d=>exact ej fun e=>hs (by rw [e])
 have hnd:∀s,YP (aC c.K s)=true→∀d,s∉hP d c.K 0:=fun s hs d hm=>by
  rcases AQ hm with e | e<;>rw [e] at hs<;>cases hs
 refine h.many (by simp) (by cases dst<;>simp [Act.put]) (by cases dst<;>rfl) (fun s hs=>hav s fun e=>hs (hd s e)) (fun r hr hn hb=>?_) (fun s hs=>?_) (fun _ hb=>hb) (fun _ _=>rfl) (fun _ _ hp _=>⟨hp,rfl⟩) h.fl h.ol (fun _ hb=>.inl hb) (ahY _) rfl rfl rfl (fun _ _ _=>rfl)
 ·rw [tz,if_pos (ah8 _ hr),if_pos (YA hb)]
  unfold IP
  split
  ·rename_i d
   rw [if_neg]
   ·exact hb
   ·rw [jl]
    simp only [decide_eq_true_eq,ahB,not_or]
    exact⟨fun e=>hn (e ▸ hd d rfl),hnd r (hk r (ah8 _ hr)) d⟩
  ·exact hb
 ·rw [tz,if_pos hs]
  split
  case isFalse=>exact .inl rfl
  rename_i hsl
  have keep:dst≠some s→Ce c.K B F O (a.put dst undef) w s (nth δ s):=by
   intro hne
   rcases h.slot s with hb | hb
   ·exact .inl hb
   ·refine .inr ?_
    have hks:=hk s hs
    rw [hav s hne]
    generalize aC c.K s=kk at hks hb
    cases kk<;>first | exact hb | cases hks
  unfold IP
  split
  ·rename_i d
   split
   ·rename_i hm
    rw [jl] at hm
    simp only [decide_eq_true_eq,ahB] at hm
    rcases hm with rfl | hm
    ·exact aeR (by rw [h.la,←h.ld];exact hsl)
    ·rcases AQ hm with e | e<;>(rw [e];exact .inl rfl)
   ·rename_i hm
    rw [jl] at hm
    simp only [decide_eq_true_eq,ahB,not_or] at hm
    exact keep fun e=>hm.1 (by cases e;rfl)
  ·exact keep (by simp)
def rdS (c:Cx) (ops:List Oper) (o:Oper):List Nat :=
 match du c o with
 | none=>[]
 | some A=>match o.guard with
  | none=>afC A
  | some (j,_)=>match OS ops j with
   | none=>[]
   | some g=>match A with
    | .one rd _ _=>g::rd
    | .many rd hw cw _=>g::(rd++(hw++cw))
def wrS (c:Cx) (o:Oper):List Nat :=
 match du c o with
 | none=>[]
 | some (.one _ d _)=>d::hP d c.K 0
 | some (.many _ hw cw _)=>hw++(cw++bq c.K hw)
theorem qQ {δ δ':List D}:∀{ss:List Nat},(∀s∈ss,nth δ s=nth δ' s)→aA δ ss=aA δ' ss
 | [],_=>rfl
 | s::ss,h=>by
  simp only [aA]
  rw [h s (by simp),qQ fun t ht=>h t (by simp [ht])]
theorem Sm {δ δ':List D}:∀{ss:List Nat},aA δ ss=aA δ' ss→∀s∈ss,nth δ s=nth δ' s
 | t::ss,h,s,hs=>by
  simp only [aA,ahH] at h
  rcases ahB.1 hs with rfl | hs
  ·exact h.1
  ·exact Sm h.2 s hs
theorem AR (c:Cx) (ops:List Oper) (o:Oper):∃φ:List D→Option (List D),(∀δ k,eC c ops o δ k=(φ δ).bind fun l=>k (az δ (wrS c o) l))∧∀δ δ',aA δ (rdS c ops o)=aA δ' (rdS c ops o)→φ δ=φ δ':=by
 unfold eC rdS wrS
 cases hA:du c o with
 | none=>exact⟨fun _=>none,fun _ _=>rfl,fun _ _ _=>rfl⟩
 | some A =>
  have hn:=Se hA
  cases hgd:o.guard with
  | none =>
   cases A with
   | one rd d h =>
    refine⟨fun δ=>(h (aA δ rd)).map fun z=>[z],fun δ k=>?_,fun δ δ' e=>by simp only [afC] at e;simp only [e]⟩
    simp only [cO]
    cases h (aA δ rd) with
    | none=>rfl
    | some z=>exact cT _ _ _ _
   | many rd hw cw fn =>
    refine⟨fun δ=>ahN (hn (aA δ rd)),fun δ k=>?_,fun δ δ' e=>by simp only [afC] at e;simp only [e]⟩
    simp only [cO,cT,ri]
    exact(ahJ (hn (aA δ rd))).1 _
  | some jp =>
   obtain⟨j,pol⟩:=jp
   simp only
   cases hg:OS ops j with
   | none=>exact⟨fun _=>none,fun _ _=>rfl,fun _ _ _=>rfl⟩
   | some g =>
    cases A with
    | one rd d h =>
     refine⟨fun δ=>(aj (Gk (aC c.K d)) (nth δ g) pol (h (aA δ rd))).map fun z=>[z],fun δ k=>?_,fun δ δ' e=>by simp only [aA,ahH] at e;simp only [e.1,e.2]⟩
     simp only [cO,fT]
     cases aj (Gk (aC c.K d)) (nth δ g) pol (h (aA δ rd)) with
     | none=>rfl
     | some z=>exact cT _ _ _ _
    | many rd hw cw fn =>
     refine⟨fun δ=>match nth δ g with
      | .v (.bool b)=>if b=pol then ahN (hn (aA δ rd)) else some ((hw++cw).map (IP c.K o.dst δ))
      | .tup _=>some ((hw++cw).map (IP c.K o.dst δ))
      | _=>none,fun δ k=>?_,fun δ δ' e=>?_⟩
     ·simp only [cO,cT,fT,ri,Ij]
      unfold cR
      split
      ·rename_i b hb
       rw [hb]
       simp only
       split
       ·obtain⟨h1,h2⟩:=ahJ (hn (aA δ rd))
        rw [h1]
        cases hc:ahN (hn (aA δ rd)) with
        | none=>rfl
        | some l =>
         have hl:=h2 l hc
         simp only [ahA]
         rw [we _ l 0 (by omega),ahC,we _ l 0 (by omega),ahC]
       ·simp only [ahA]
        rw [we _ _ 0 (by simp),ahC]
      ·rename_i l hb
       rw [hb]
       simp only [ahA]
       rw [we _ _ 0 (by simp),ahC]
      ·rename_i hb hb'
       split
       ·rename_i b hb2;exact absurd hb2 (hb b)
       ·rename_i l hb2;exact absurd hb2 (hb' l)
       ·rfl
     ·simp only [aA,ahH,li] at e
      have e2:=List.append_inj e.2 (by rw [sb,sb])
      have e3:∀s∈hw++cw,nth δ s=nth δ' s:=Sm (by rw [li,li];exact e2.2)
      have e4:(hw++cw).map (IP c.K o.dst δ)=(hw++cw).map (IP c.K o.dst δ'):=by
       refine List.map_congr_left fun s hs=>?_
       unfold IP
       rw [e3 s hs]
      simp only [e.1,e2.1,e4]
def mQ (c:Cx) (B:Nat) (X:Nat→Prop) (w0:World) (F0:Nat→Prop) (V:Nat→Value) (k:List D→Option Out) (r:Out) (a:Act) (w:World):Prop :=
 Next c B X w0 F0 k r a w∧IoV c V a
theorem OM (hT:okT P c.T=true) (hS:∀f S,eX c.S f=some S→au c.G P f S) {ops:Array Oper} {o:Oper} (hok:acv c ops.toList o=true) {V:Nat→Value} (hI:Inv c B X w0 F0 F O a w δ) (hV:IoV c V a) {k:List D→Option Out} {r:Out}
  (hg:eC c ops.toList o δ k=some r) (Q:Exit→Act→World→Prop) :
  if ahK o (yielded ops a.tmps) then o.wp P a w (mQ c B X w0 F0 V k r) Q else mQ c B X w0 F0 V k r (a.put o.dst undef) w:=by
 unfold acv at hok
 simp only [ahu] at hok
 obtain⟨hdst,hgd⟩:=hok
 have hio:∀s,ul (aC c.K s)=true→o.dst≠some s:=fun s hs e=>by
  rw [e] at hdst
  simp only at hdst
  rw [hs] at hdst
  cases hdst
 have lift:∀(A:Ac),du c o=some A→fI c A δ k=some r→o.wp P a w (mQ c B X w0 F0 V k r) Q:=by
  intro A hA hgo
  have h:=aby hT hS o A hA B X w0 F0 F O a w δ hI k r hgo Q
  unfold Oper.wp at h ⊢
  refine aio (P:=P) (o:=o) (a:=a) (w:=w) (K:=fun a' w'=>Next c B X w0 F0 k r a' w'∧∀s,o.dst≠some s→av a' s=av a s) (fun a' w' hn=>⟨hn.1,fun s hs=>(hn.2 s (hio s hs)).trans (hV s hs)⟩) ?_
  exact acf h
 have skipV:IoV c V (a.put o.dst undef):=by
  intro s hs
  cases hd:o.dst with
  | none=>exact hV s hs
  | some d=>exact(ej (fun e=>hio s hs (by rw [hd,e]))).trans (hV s hs)
 unfold eC at hg
 cases hA:du c o with
 | none=>rw [hA] at hg;cases hg
 | some A =>
  rw [hA] at hg
  simp only at hg
  cases hgu:o.guard with
  | none =>
   rw [hgu] at hg
   rw [if_pos (by simp [ahK,hgu])]
   refine lift A hA ?_
   cases A with
   | one rd d h =>
    simp only [cO] at hg
    obtain⟨z,h1,h2⟩:=aht.1 hg
    rw [cT] at h2
    simp only [fI,h1,ahA]
    exact h2
   | many rd hw cw fn =>
    simp only [cO,cT,ri] at hg
    exact hg
  | some jp =>
   obtain⟨j,pol⟩:=jp
   rw [hgu] at hg
   rw [hgu,hA] at hgd
   simp only [ahu] at hgd
   simp only at hg
   cases hgs:OS ops.toList j with
   | none=>rw [hgs] at hg;cases hg
   | some g =>
    rw [hgs] at hg hgd
    simp only at hgd
    obtain⟨hkd,hck⟩:=hgd
    have hyield:∀b,nth δ g = .v (.bool b)→yielded ops a.tmps j=some b:=by
     intro b hb
     obtain⟨lv,hk⟩:∃lv,aC c.K g = .dat lv:=by
      split at hkd
      ·exact⟨_,‹_›⟩
      ·cases hkd
     have hr:=hI.dat hk
     rw [hb] at hr
     obtain⟨hv,_⟩:=bI hr
     have hlt:g<a.tmps.size:=by
      rw [hI.la,←hI.ld]
      exact YA (by rw [hb];simp)
     have hg1:a.tmps[g]?=some (.bool b):=by
      rw [av,ahy,ahG hlt] at hv
      rw [ahG hlt]
      simpa using hv
     unfold OS at hgs
     rw [Gl,ahU] at hgs
     unfold yielded
     cases ho:ops[j]? with
     | none=>rw [ho] at hgs;cases hgs
     | some oj =>
      rw [ho] at hgs
      simp only at hgs
      simp [hgs,hg1]
    have hyT:∀l,nth δ g = .tup l→yielded ops a.tmps j=none:=by
     intro l hb
     obtain⟨lv,hk⟩:∃lv,aC c.K g = .dat lv:=by
      split at hkd
      ·exact⟨_,‹_›⟩
      ·cases hkd
     have hr:=hI.dat hk
     rw [hb] at hr
     have hv:av a g = .tuple #[]:=(hr.rep (by simp)).2
     unfold yielded
     rw [OS,Gl,ahU] at hgs
     cases ho:ops[j]? with
     | none=>simp
     | some oj =>
      rw [ho] at hgs
      simp only at hgs
      simp only [ahA,hgs]
      cases hx:a.tmps[g]? with
      | none=>rfl
      | some x =>
       have:x = .tuple #[]:=by
        rw [←hv,av,ahy,hx]
        rfl
       subst this
       rfl
    cases A with
    | one rd d h =>
     simp only [fT,cO] at hg
     obtain⟨z,h1,h2⟩:=aht.1 hg
     rw [cT] at h2
     unfold aj at h1
     have skip:z=Gk (aC c.K d)→mQ c B X w0 F0 V k r (a.put o.dst undef) w:=by
      rintro rfl
      refine⟨⟨F,O,_,?_,h2⟩,skipV⟩
      simp only at hck
      split at hck
      ·rename_i d' hd'
       rw [ba] at hck
       subst hck
       rw [hd']
       refine hI.put ?_
       unfold Gk Td
       split
       ·rename_i hkk
        refine .inr ?_
        rw [hkk]
        exact⟨rfl,rfl⟩
       ·exact .inl rfl
      ·cases hck
     split at h1
     case h_3=>cases h1
     case h_2 =>
      rename_i l hb
      have hy:=hyT l hb
      rw [if_neg (by simp [ahK,hgu,hy])]
      exact skip (by cases h1;rfl)
     rename_i b hb
     have hy:=hyield b hb
     split at h1
     ·rename_i hbp
      rw [if_pos (by simp [ahK,hgu,hy,hbp])]
      exact lift _ hA (by simp only [fI,h1,ahA];exact h2)
     ·rename_i hbp
      rw [if_neg (by simp [ahK,hgu,hy,hbp])]
      exact skip (by cases h1;rfl)
    | many rd hw cw fn =>
     simp only [fT,cO,Ij,ri,cT] at hg
     unfold cR at hg
     have skip:k (az δ (hw++(cw++bq c.K hw)) (fit ((hw++cw).map (IP c.K o.dst δ)) 0 (hw++cw)))=some r→mQ c B X w0 F0 V k r (a.put o.dst undef) w:=by
      intro hg
      rw [we _ _ 0 (by simp),ahC] at hg
      simp only [ahu,ahO] at hck
      refine⟨⟨F,O,_,hI.pass_over hck.1 (fun d hd=>?_),hg⟩,skipV⟩
      have h3:=hck.2
      rw [hd] at h3
      simp only [jl,decide_eq_true_eq] at h3
      exact h3
     split at hg
     case h_3=>cases hg
     case h_2 =>
      rename_i l hb
      have hy:=hyT l hb
      rw [if_neg (by simp [ahK,hgu,hy])]
      exact skip hg
     rename_i b hb
     have hy:=hyield b hb
     obtain⟨φ,hφ,hlen⟩:=Se hA (aA δ rd)
     split at hg
     ·rename_i hbp
      rw [if_pos (by simp [ahK,hgu,hy,hbp])]
      refine lift _ hA ?_
      simp only [fI]
      rw [hφ] at hg ⊢
      cases hp:φ with
      | none=>rw [hp] at hg;cases hg
      | some l =>
       rw [hp] at hg
       have hl:=hlen l hp
       simp only [ahA] at hg ⊢
       rw [we _ l 0 (by omega),ahC,we _ l 0 (by omega),ahC] at hg
       exact hg
     ·rename_i hbp
      rw [if_neg (by simp [ahK,hgu,hy,hbp])]
      exact skip hg
theorem PF (hT:okT P c.T=true) (hS:∀f S,eX c.S f=some S→au c.G P f S) {ops:Array Oper} {V:Nat→Value} {Q:Exit→Act→World→Prop} {k:List D→Option Out} {r:Out} (hQ:∀a w,mQ c B X w0 F0 V k r a w→Q .normal a w) :
  ∀(l:List Oper),(∀o∈l,acv c ops.toList o=true)→∀(F:Nat→Prop) (O:Nat→Option (Nat × Nat)) (a:Act) (w:World) (δ:List D),Inv c B X w0 F0 F O a w δ→IoV c V a→nS c ops.toList l δ k=some r→wpList P ops Q l a w
 | [],_,F,O,a,w,δ,hI,hV,hg=>hQ a w ⟨⟨F,O,δ,hI,hg⟩,hV⟩
 | o::l,hok,F,O,a,w,δ,hI,hV,hg=>by
  simp only [nS] at hg
  have h:=OM hT hS (hok o (by simp)) hI hV hg Q
  have ih:∀a w,mQ c B X w0 F0 V (fun δ'=>nS c ops.toList l δ' k) r a w→wpList P ops Q l a w:=by
   rintro a w ⟨⟨F',O',δ',hI',hk'⟩,hV'⟩
   exact PF hT hS hQ l (fun o' ho'=>hok o' (by simp [ho'])) F' O' a w δ' hI' hV' hk'
  unfold wpList
  split
  ·rename_i hw
   rw [if_pos hw] at h
   exact .inl (aio ih h)
  ·rename_i hw
   rw [if_neg hw] at h
   exact ih _ _ h
end
end Go.V

namespace Go.V
open Go.RowKit
def Aa (x y:List Nat):Bool:=x.all fun s=>!oc s y
def YB (c:Cx) (ops:List Oper) (x y:Oper):Bool:=Aa (rdS c ops x) (wrS c y)&&Aa (wrS c x) (rdS c ops y)&&Aa (wrS c x) (wrS c y)
def Tt (c:Cx) (x y:Oper):Bool :=
 match x.guard,y.guard,x.op,x.dst,y.op,y.dst with
 | none,none,.move (.tmp t),some d,.store _ (.tmp q) (.tmp s),none =>
  (match aC c.K t,aC c.K d,aC c.K q,aC c.K s with
   | .own _ _ _,.via r,.ref r',.dat _=>ahF r t&&ahF r' t && !ahF q t&&Aa (d::hP d c.K 0) [q,t,s]
   | _,_,_,_=>false)
 | _,_,_,_,_,_=>false
def abU (c:Cx) (x y:Oper):Bool :=
 match x.guard,y.guard,x.op,y.op,y.dst with
 | none,none,.call q,.move (.tmp t),some d =>
  (match aC c.K t,aC c.K d,q.callee with
   | .box _ _ _,.ref r',.value (.func f)=>(match eX c.S f with
    | some S=>(match nh c.K q.args.toList S.pm with
     | some ags=>ahF r' t&&oc t (fD ags)
     | none=>false)
    | none=>false)
   | _,_,_=>false)
 | _,_,_,_,_=>false
def Za (c:Cx) (ops:List Oper) (x y:Oper):Bool:=abU c x y&&Aa (rdS c ops x) (wrS c y)&&Aa (wrS c x) (wrS c y)
def St (c:Cx) (ops:List Oper) (x y:Oper):Bool:=YB c ops x y||Tt c x y||Tt c y x||Za c ops x y
def bef (ops:List Oper) (j:Nat):Nat→Oper→Bool
 | 0,_=>false
 | n+1,o=>o.after.toList.any fun e=>ahP .any e&&(ahF e.on j||match Xu ops e.on with
  | some q=>bef ops j n q
  | none=>false)
def adx (c:Cx) (ops:List Oper):Bool :=
 ops.zipIdx.all fun p=>(p.1.after.toList.all fun e=>!ahP .any e||decide (e.on<p.2))&&(ops.take p.2).zipIdx.all fun q=>St c ops q.1 p.1||bef ops q.2 3 p.1
def uq (K:List Kd) (hl:List Nat):Bool :=
 hl.all fun s=>match aC K s with
  | .via r=>oc r hl
  | .ref r=>oc r hl
  | _=>true
def iY (c:Cx):Nat→Code→Bool
 | _,.skip=>true
 | _,.region _ ops d=>ops.toList.all (acv c ops.toList)&&(!d||adx c ops.toList)
 | b,.seq x y=>iY c b x&&iY c b y
 | b,.cond x t e=>aiz (fU c.K x) 2&&iY c b t&&iY c b e
 | _,.block id x=>iY c id x
 | b,.loop x=>iY c b x&&(match eX c.H b with
  | some (hl,xl)=>uq c.K hl&&uq c.K xl
  | none=>false)
 | _,.exit _=>true
 | _,.ret=>true
 | _,_=>false
section
variable {P:Program} {c:Cx} {B:Nat} {X:Nat→Prop} {w0:World} {F0 F:Nat→Prop} {O:Nat→Option (Nat × Nat)} {a:Act} {w:World} {δ:List D}
def YL (c:Cx) (δ:List D) (k:Out→Option Out):Option Out:=tX c δ c.res fun rs=>AA δ c.ios fun us=>usK us (k (.ret rs us))
def abb (c:Cx) (B:Nat) (X:Nat→Prop) (w0:World) (F0:Nat→Prop) (V:Nat→Value) (k:Out→Option Out) (r:Out):Exit→Act→World→Prop
 | .normal,a,w=>mQ c B X w0 F0 V (fun δ=>k (.nrm δ)) r a w
 | .exit id,a,w=>mQ c B X w0 F0 V (fun δ=>k (.ext id δ)) r a w
 | .ret,a,w=>mQ c B X w0 F0 V (fun δ=>YL c δ k) r a w
 | _,_,_=>False
theorem qY {x y:List Nat} (h:Aa x y=true):∀s∈x,s∉y:=by
 intro s hs
 unfold Aa at h
 rw [ahO] at h
 simpa [jl] using h s hs
theorem aeV {δ δ':List D} (h:δ.length=δ'.length) (hn:∀s,nth δ s=nth δ' s):δ=δ':=by
 refine List.ext_getElem h fun i h1 h2=>?_
 have:=hn i
 rw [iZ,iZ,ahx,ahx,ahM h1,ahM h2] at this
 exact this
theorem wW:∀(ss:List Nat) (l δ δ':List D),δ.length=δ'.length→∀s∈ss,nth (az δ ss l) s=nth (az δ' ss l) s
 | t::ss,l,δ,δ',hl,s,hs=>by
  cases l with
  | nil=>rw [mM _ _ _ hs,mM _ _ _ hs]
  | cons d l =>
   simp only [az]
   by_cases hm:s∈ss
   ·exact wW ss l _ _ (by rw [iR,iR,hl]) s hm
   ·have:s=t:=by simpa [hm] using hs
    subst this
    rw [aE _ _ _ _ hm,aE _ _ _ _ hm,cI,cI,hl]
theorem wV {A C:List Nat} {l m δ:List D} (h:∀s∈A,s∉C):az (az δ A l) C m=az (az δ C m) A l:=by
 refine aeV (by simp only [dI]) fun s=>?_
 by_cases hA:s∈A
 ·rw [aE _ _ _ _ (h s hA)]
  exact wW A l _ _ (by rw [dI]) s hA
 ·by_cases hC:s∈C
  ·rw [aE A _ _ _ hA]
   exact(wW C m _ _ (by rw [dI]) s hC)
  ·rw [aE _ _ _ _ hC,aE _ _ _ _ hA,aE _ _ _ _ hA,aE _ _ _ _ hC]
theorem Wd {n:Nat} {o p x z:D} (h:stD n o p x=some z):o ≠ .bad∧z ≠ .bad:=by
 unfold stD at h
 split at h
 ·split at h
  ·split at h
   ·cases h;exact⟨by simp,by simp⟩
   ·cases h
  ·cases h
 ·split at h
  ·cases h;exact⟨by simp,by simp⟩
  ·cases h
 ·cases h
theorem OW (chk:Bool) (n:Nat) (b p y:D):∃E:Option D,(∀k:D→Option Out,stK chk n b p y k=E.bind k)∧∀z,E=some z→b ≠ .bad∧z ≠ .bad:=by
 cases chk
 ·exact⟨stD n b p y,fun _=>rfl,fun z hz=>Wd hz⟩
 ·refine⟨(aL y).bind fun y=>stD n b p y,fun k=>by simp only [stK,Option.bind_assoc],fun z hz=>?_⟩
  obtain⟨y',_,h⟩:=aht.1 hz
  exact Wd h
theorem aal {ops:List Oper} {x y:Oper} (h:Tt c x y=true) (δ:List D) (k:List D→Option Out):eC c ops x δ (fun δ=>eC c ops y δ k)=eC c ops y δ (fun δ=>eC c ops x δ k):=by
 unfold Tt at h
 split at h
 case h_2=>cases h
 rename_i t d ty q s hxg hyg hxo hxd hyo hyd
 split at h
 case h_2=>cases h
 rename_i z lv io r0 r lv' hkt hkd hkq hks
 simp only [ahu,ahE] at h
 obtain⟨⟨⟨h1,h2⟩,h3⟩,h4⟩:=h
 have e1:=ba.1 h1
 have e2:=ba.1 h2
 subst e1
 subst e2
 have hx:∀(δ:List D) (k:List D→Option Out),eC c ops x δ k=(aa (nth δ r) (.ref 0 0)).bind fun z=>k (az δ (d::hP d c.K 0) [z]):=by
  intro δ k
  have hA:du c x=some (.one [r] d fun is=>(jD fun x=>aa x (.ref 0 0)) is):=by
   simp only [du,hxo,hxd,XV,hkt,hkd,Nat.beq_refl]
  simp only [eC,hA,hxg]
  rw [cO]
  show(aa (nth δ r) (.ref 0 0)).bind (fun z=>eN δ (d::hP d c.K 0) [z] k)=_
  exact congrArg _ (funext fun z=>cT _ _ _ _)
 have hy:∃E:D→D→D→Option D,(∀(δ:List D) (k:List D→Option Out),eC c ops y δ k=(E (nth δ r) (nth δ q) (nth δ s)).bind fun b=>k (az δ [r] [b]))∧∀a b e z,E a b e=some z→a ≠ .bad∧z ≠ .bad:=by
  cases hT:eX c.T ty with
  | none =>
   refine⟨fun _ _ _=>none,fun δ k=>?_,fun _ _ _ _ h=>by cases h⟩
   have hA:du c y=none:=by simp only [du,hyo,hyd,iq,hT]
   simp only [eC,hA]
   rfl
  | some i =>
   have act:∀chk:Bool,du c y=some (.many [q,r,s] [] [r] fun is k=>goP q r is fun b p is=>iB is 0 fun y=>stK chk i.n b p y fun b=>k [b]) →
     ∃E:D→D→D→Option D,(∀(δ:List D) (k:List D→Option Out),eC c ops y δ k=(E (nth δ r) (nth δ q) (nth δ s)).bind fun b=>k (az δ [r] [b]))∧∀a b e z,E a b e=some z→a ≠ .bad∧z ≠ .bad:=by
    intro chk hA
    refine⟨fun a b e=>ahN (OW chk i.n a b e),fun δ k=>?_,fun a b e z h=>(ahJ (OW chk i.n a b e)).2 z h⟩
    simp only [eC,hA,hyg]
    rw [cO]
    simp only [goP,h3,aA]
    show stK chk i.n (nth δ r) (nth δ q) (nth δ s) (fun b=>eN δ [r] [b] k)=_
    rw [(ahJ (OW chk i.n (nth δ r) (nth δ q) (nth δ s))).1]
    exact congrArg _ (funext fun b=>cT _ _ _ _)
   have hst:du c y=XZ c i q r (fM c.K r) (.tmp s):=by
    simp only [du,hyo,hyd,iq,hT,ac5,hkq]
   unfold XZ at hst
   simp only [hks] at hst
   split at hst
   ·exact act false (by rw [hst];simp only [rdP,h3])
   ·exact act true (by rw [hst];simp only [rdP,h3])
   ·refine⟨fun _ _ _=>none,fun δ k=>?_,fun _ _ _ _ h=>by cases h⟩
    simp only [eC,hst]
    rfl
 obtain⟨E,hE,hEl⟩:=hy
 have ap:=fun s hs=>qY h4 s hs
 have hnq:∀m:List D,∀v∈[q,r,s],nth (az δ (d::hP d c.K 0) m) v=nth δ v:=fun m v hv=>aE _ _ _ _ fun hm=>ap v hm hv
 simp only [hx,hE,hnq _ q (by simp),hnq _ r (by simp),hnq _ s (by simp)]
 cases hb:E (nth δ r) (nth δ q) (nth δ s) with
 | none=>cases aa (nth δ r) (.ref 0 0)<;>rfl
 | some b =>
  obtain⟨g1,g2⟩:=hEl _ _ _ _ hb
  have hlive:∀a:D,a ≠ .bad→aa a (.ref 0 0)=some (.ref 0 0):=fun a ha=>by cases a<;>first | exact absurd rfl ha | rfl
  have hr:nth (az δ [r] [b]) r=b:=by
   simp only [az]
   rw [cI,if_pos]
   by_cases hl:r<δ.length
   ·exact hl
   ·exfalso
    rw [iZ,ahx,ahT (by omega)] at g1
    exact g1 rfl
  simp only [hlive _ g1,hr,hlive _ g2,ahA]
  rw [wV (A:=d::hP d c.K 0) (C:=[r])]
  intro v hv hv'
  exact ap v hv (by simp at hv';simp [hv'])
theorem Ys {ops:List Oper} {x y:Oper} (h:YB c ops x y=true) (δ:List D) (k:List D→Option Out):eC c ops x δ (fun δ=>eC c ops y δ k)=eC c ops y δ (fun δ=>eC c ops x δ k):=by
 unfold YB at h
 simp only [ahu] at h
 obtain⟨⟨h1,h2⟩,h3⟩:=h
 obtain⟨φ,hφ,hφr⟩:=AR c ops x
 obtain⟨ψ,hψ,hψr⟩:=AR c ops y
 have e1:∀l,ψ (az δ (wrS c x) l)=ψ δ:=fun l=>hψr _ _ (qQ fun s hs=>aE _ _ _ _ fun hm=>qY h2 s hm hs)
 have e2:∀l,φ (az δ (wrS c y) l)=φ δ:=fun l=>hφr _ _ (qQ fun s hs=>aE _ _ _ _ (qY h1 s hs))
 simp only [hφ,hψ,e1,e2]
 cases φ δ with
 | none=>cases ψ δ<;>rfl
 | some l =>
  cases ψ δ with
  | none=>rfl
  | some m =>
   simp only [ahA]
   rw [wV (qY h3)]
theorem AW {δ:List D}:∀(ags:List Ag) (ds:List D),de ags (aA δ (gC ags))=some ds→∀t∈fD ags,nth δ t ≠ .bad
 | [],_,_,t,ht=>by simp [fD] at ht
 | .d x chk::l,ds,h,t,ht=>by
  have ih:=AW (δ:=δ) l
  simp only [fD] at ht
  cases x with
  | tmp u =>
   simp only [aA] at h
   cases chk
   ·simp only [de] at h
    obtain⟨z,hz,_⟩:=ahw.1 h
    exact ih z hz t ht
   ·simp only [de] at h
    obtain⟨i,_,h⟩:=aht.1 h
    obtain⟨z,hz,_⟩:=ahw.1 h
    exact ih z hz t ht
  | const v =>
   simp only [de] at h
   obtain⟨z,hz,_⟩:=ahw.1 h
   exact ih z hz t ht
  | func f =>
   simp only [de] at h
   obtain⟨z,hz,_⟩:=ahw.1 h
   exact ih z hz t ht
  | global g=>simp [de] at h
 | .bor u r::l,ds,h,t,ht=>by
  have ih:=AW (δ:=δ) l
  simp only [fD] at ht
  cases hb:ahF u r
  ·simp only [gC,hb,aA,de] at h
   obtain⟨i,_,h⟩:=aht.1 h
   obtain⟨z,hz,_⟩:=ahw.1 h
   exact ih z hz t ht
  ·simp only [gC,hb,aA,de] at h
   obtain⟨z,hz,_⟩:=ahw.1 h
   exact ih z hz t ht
 | .io u r::l,ds,h,t,ht=>by
  have ih:=AW (δ:=δ) l
  simp only [fD,ahB] at ht
  have lv:∀x y z:D,aa x y=some z→x ≠ .bad:=fun x y z hz e=>by subst e;cases hz
  cases hb:ahF u r
  ·simp only [gC,hb,aA,de] at h
   obtain⟨i,hi,h⟩:=aht.1 h
   obtain⟨i',hi',h⟩:=aht.1 h
   obtain⟨z,hz,_⟩:=ahw.1 h
   have e:i=nth δ r:=by
    unfold kS at hi
    split at hi
    ·exact(aiv hi).symm
    ·cases hi
   rcases ht with rfl | ht
   ·rw [←e];exact lv _ _ _ hi'
   ·exact ih z hz t ht
  ·simp only [gC,hb,aA,de] at h
   obtain⟨i',hi',h⟩:=aht.1 h
   obtain⟨z,hz,_⟩:=ahw.1 h
   have e:=ba.1 hb
   rcases ht with rfl | ht
   ·rw [←e];exact lv _ _ _ hi'
   ·exact ih z hz t ht
theorem aeM {ops:List Oper} {x y:Oper} (h:Za c ops x y=true) (δ:List D) (k:List D→Option Out) (r:Out) (hs:eC c ops x δ (fun δ=>eC c ops y δ k)=some r):eC c ops y δ (fun δ=>eC c ops x δ k)=some r:=by
 unfold Za at h
 simp only [ahu] at h
 obtain⟨⟨h1,h2⟩,h3⟩:=h
 unfold abU at h1
 split at h1
 case h_2=>cases h1
 rename_i q t d hxg hyg hxo hyo hyd
 split at h1
 case h_2=>cases h1
 rename_i n lv io r' f hkt hkd hqc
 split at h1
 case h_2=>cases h1
 rename_i S hS
 split at h1
 case h_2=>cases h1
 rename_i ags hags
 simp only [ahu] at h1
 obtain⟨h4,h5⟩:=h1
 have e4:=ba.1 h4
 subst e4
 have hyA:du c y=some (.one [r'] d fun is=>(jD fun x=>aa x (.ref 0 0)) is):=by
  simp only [du,hyo,hyd,XV,hkt,hkd,Nat.beq_refl]
 have hw:wrS c y=d::hP d c.K 0:=by
  unfold wrS
  rw [hyA]
 have hy:∀(δ:List D) (k:List D→Option Out),eC c ops y δ k=(aa (nth δ r') (.ref 0 0)).bind fun z=>k (az δ (d::hP d c.K 0) [z]):=by
  intro δ k
  simp only [eC,hyA,hyg]
  rw [cO]
  show(aa (nth δ r') (.ref 0 0)).bind (fun z=>eN δ (d::hP d c.K 0) [z] k)=_
  exact congrArg _ (funext fun z=>cT _ _ _ _)
 have live:∀(δ:List D) (K:List D→Option Out) (r:Out),eC c ops x δ K=some r→nth δ r' ≠ .bad:=by
  intro δ K r hr
  have hm:r'∈fD ags:=by simpa [jl] using h5
  have fin:∀K':List D→Option Out,kb [] ags (aA δ (gC ags)) K'=some r→nth δ r' ≠ .bad:=by
   intro K' h
   rw [lG] at h
   obtain⟨ds,hds,_⟩:=aht.1 h
   exact AW ags ds hds r' hm
  have hA:du c x=aa5 c x.dst q:=by simp only [du,hxo]
  have hcl:∀A,du c x=some A→Ek c x.dst S q.args.toList=some A:=by
   intro A h
   rw [hA] at h
   unfold aa5 at h
   rw [hqc] at h
   simp only [hS] at h
   exact h
  cases hAc:du c x with
  | none=>simp only [eC,hAc] at hr;cases hr
  | some A =>
   have hA2:=hcl A hAc
   unfold Ek at hA2
   simp only [hags] at hA2
   simp only [eC,hAc,hxg] at hr
   repeat' split at hA2
   all_goals first
    | (cases hA2;done)
    | (cases hA2;simp only [cO] at hr;exact fin _ hr)
    | skip
 have l1:=live δ _ r hs
 obtain⟨φ,hφ,hφr⟩:=AR c ops x
 rw [hw] at h2 h3
 have e2:∀l,φ (az δ (d::hP d c.K 0) l)=φ δ:=fun l=>hφr _ _ (qQ fun s hs=>aE _ _ _ _ (qY h2 s hs))
 have hlive:∀a:D,a ≠ .bad→aa a (.ref 0 0)=some (.ref 0 0):=fun a ha=>by cases a<;>first | exact absurd rfl ha | rfl
 simp only [hφ,hy,e2] at hs ⊢
 rw [hlive _ l1]
 cases hp:φ δ with
 | none=>rw [hp] at hs;cases hs
 | some l =>
  rw [hp] at hs
  simp only [ahA] at hs ⊢
  obtain⟨z,hz,hk⟩:=aht.1 hs
  have ez:z = .ref 0 0:=by
   unfold aa at hz
   split at hz
   ·cases hz
   ·exact(aiv hz).symm
  subst ez
  rw [wV (qY h3)] at hk
  exact hk
theorem aa7 {ops:List Oper} {x y:Oper} (h:St c ops x y=true) (δ:List D) (k:List D→Option Out) (r:Out) (hs:eC c ops x δ (fun δ=>eC c ops y δ k)=some r):eC c ops y δ (fun δ=>eC c ops x δ k)=some r:=by
 unfold St at h
 simp only [ah0] at h
 rcases h with ((h | h) | h) | h
 ·exact(Ys h δ k).symm.trans hs
 ·exact(aal h δ k).symm.trans hs
 ·exact(aal h δ k).trans hs
 ·exact aeM h δ k r hs
theorem aaz {ops:List Oper} {o:Oper} {k k':List D→Option Out} {δ:List D} {r:Out} (hk:∀δ,k δ=some r→k' δ=some r) (h:eC c ops o δ k=some r):eC c ops o δ k'=some r:=by
 obtain⟨φ,hφ,_⟩:=AR c ops o
 rw [hφ] at h ⊢
 obtain⟨l,hl,h⟩:=aht.1 h
 rw [hl]
 exact hk _ h
theorem It {ops:List Oper} {o:Oper} {k:List D→Option Out} {r:Out}:∀(pre post:List Oper) (δ:List D),(∀q∈pre,St c ops q o=true)→nS c ops (pre++o::post) δ k=some r→eC c ops o δ (fun δ=>nS c ops (pre++post) δ k)=some r
 | [],post,δ,_,h=>h
 | q::pre,post,δ,h,hr=>by
  simp only [aid,nS] at hr ⊢
  exact aa7 (h q (by simp)) δ _ r (aaz (fun δ' h'=>It pre post δ' (fun q' hq'=>h q' (by simp [hq'])) h') hr)
def left (ops:List Oper) (listed:Array Bool):List Oper:=(ops.zipIdx.filter fun p=>!listed.getD p.2 true).map (·.1)
theorem Inv.drawn (h:Inv c B X w0 F0 F O a w δ) (n:Nat):Inv c B X w0 F0 F O a {w with drawn:=n} δ :=
 h.step (w':={w with drawn:=n}) (fun _=>False) rfl rfl rfl (fun _ _=>⟨rfl,.inl rfl⟩) (fun _ hb=>hb) (fun _ _=>rfl) (fun _ _ hp _=>⟨hp,rfl⟩) (fun _ _ _ hv hb=>⟨rfl,(h.root hv hb).2⟩) (fun _ hf=>hf.elim) h.fl h.ol (fun _ hb=>.inl hb) (ahY _) rfl rfl rfl (fun _ _ _=>rfl)
theorem Ng {l:List Oper} {i:Nat} {o:Oper} (h:l[i]?=some o):l.zipIdx=(l.take i).zipIdx++(o,i)::(l.drop (i+1)).zipIdx (i+1):=by
 have hi:i<l.length:=(aic.1 h).1
 have e:l=l.take i++(o::l.drop (i+1)):=by
  have h1:l[i]=o:=(aic.1 h).2
  conv=>lhs;rw [←aii i l,ahZ hi,h1]
 conv=>lhs;rw [e]
 rw [List.zipIdx_append,List.zipIdx_cons]
 have:(l.take i).length=i:=by rw [aie];omega
 simp [this]
theorem Nl {l:List Oper} {listed:Array Bool} {i:Nat} {o:Oper} (h:l[i]?=some o) (hn:listed.getD i true=false) (hsz:i<listed.size) :
  left l listed=(((l.take i).zipIdx.filter fun p=>!listed.getD p.2 true).map (·.1))++o::((((l.drop (i+1)).zipIdx (i+1)).filter fun p=>!listed.getD p.2 true).map (·.1)) ∧
  left l (listed.setIfInBounds i true)=(((l.take i).zipIdx.filter fun p=>!listed.getD p.2 true).map (·.1))++((((l.drop (i+1)).zipIdx (i+1)).filter fun p=>!listed.getD p.2 true).map (·.1)):=by
 have hne:∀j,j≠i→(listed.setIfInBounds i true).getD j true=listed.getD j true:=fun j hj=>by
  simp only [ahy,ahV,Ne.symm hj,if_false]
 have hi:(listed.setIfInBounds i true).getD i true=true:=by
  simp [ahy,hsz]
 unfold left
 rw [Ng h]
 simp only [List.filter_append,List.map_append,List.filter_cons,hn,hi,aiA,Bool.not_true,if_true,ah3,if_false,ahR]
 refine⟨trivial,?_⟩
 congr 2
 ·refine List.filter_congr fun p hp=>?_
  have:=ahL hp
  rw [aie] at this
  rw [hne p.2 (by omega)]
 ·refine List.filter_congr fun p hp=>?_
  have:=List.le_snd_of_mem_zipIdx hp
  rw [hne p.2 (by omega)]
def Cl (ops:Array Oper) (listed:Array Bool):Prop:=∀(m:Nat) (q:Oper),ops[m]?=some q→listed.getD m false=true→∀e∈q.after,ahP .any e=true→listed.getD e.on false=true
theorem NG {ops:Array Oper} {listed:Array Bool} (hc:Cl ops listed) {j:Nat}:∀(n:Nat) (o:Oper),(∀e∈o.after,ahP .any e=true→listed.getD e.on false=true)→bef ops.toList j n o=true→listed.getD j false=true
 | 0,_,_,h=>by simp [bef] at h
 | n+1,o,ho,h=>by
  simp only [bef,List.any_eq_true,ahu,ah0] at h
  obtain⟨e,he,hb,h⟩:=h
  have hl:=ho e (by simpa using he) hb
  rcases h with h | h
  ·rw [←ba.1 h]
   exact hl
  ·split at h
   ·rename_i q hq
    rw [Gl,ahU] at hq
    exact NG hc n q (hc e.on q hq hl) h
   ·cases h
theorem PB {listed:Array Bool} {i x:Nat} (h:listed.getD x false=true):(listed.setIfInBounds i true).getD x false=true:=by
 rw [ahy] at h ⊢
 rw [ahV]
 split
 ·split<;>rename_i h1 h2
  ·rfl
  ·subst h1
   rw [Array.getElem?_eq_none (by omega)] at h
   cases h
 ·exact h
theorem af0 {ops:Array Oper} {listed:Array Bool} (hc:Cl ops listed) {i:Nat} {o:Oper} (ho:ops[i]?=some o) (hed:∀e∈o.after,ahP .any e=true→listed.getD e.on false=true):Cl ops (listed.setIfInBounds i true):=by
 intro m q hq hm e he hb
 by_cases hmi:m=i
 ·subst hmi
  rw [ho] at hq
  cases hq
  exact PB (hed e he hb)
 ·refine PB (hc m q hq ?_ e he hb)
  rw [ahy,ahV,if_neg (fun e=>hmi e.symm)] at hm
  rw [ahy]
  exact hm
theorem aa9 (hT:okT P c.T=true) (hS:∀f S,eX c.S f=some S→au c.G P f S) {ops:Array Oper} (hany:adx c ops.toList=true) (hm:P.follows .mixedOrders=true) {V:Nat→Value} {Q:Exit→Act→World→Prop} {k:List D→Option Out} {r:Out} (hQ:∀a w,mQ c B X w0 F0 V k r a w→Q .normal a w)
  (hok:∀o∈ops.toList,acv c ops.toList o=true) (hI:Inv c B X w0 F0 F O a w δ) (hV:IoV c V a) (hg:nS c ops.toList ops.toList δ k=some r) (id:Nat):(Code.region id ops true).wp P Q a w:=by
 refine wp_region_any hm ?_
 have hedge:∀(i:Nat) (o:Oper),ops[i]?=some o→(∀e∈o.after,ahP .any e=true→e.on<i)∧∀(j:Nat) (q:Oper),j<i→ops[j]?=some q→bef ops.toList j 3 o=true∨St c ops.toList q o=true:=by
  intro i o ho
  have h0:=hany
  unfold adx at h0
  rw [ahO] at h0
  have hl:ops.toList[i]?=some o:=by simpa using ho
  have h1:=h0 (o,i) (by rw [Ng hl];simp)
  simp only [ahu,ah0,ahE,decide_eq_true_eq,ahO] at h1
  refine⟨fun e he hb=>(h1.1 e (by simpa using he)).resolve_left (by rw [hb];simp),fun j q hj hq=>?_⟩
  have hq':(ops.toList.take i)[j]?=some q:=by
   rw [aif hj];simpa using hq
  exact(h1.2 (q,j) (by rw [Ng hq'];simp)).symm
 have main:∀(fuel:Nat) (listed:Array Bool) (F:Nat→Prop) (O:Nat→Option (Nat × Nat)) (a:Act) (w:World) (δ:List D),listed.size=ops.size→Cl ops listed→(left ops.toList listed).length≤fuel→Inv c B X w0 F0 F O a w δ→IoV c V a →
   nS c ops.toList (left ops.toList listed) δ k=some r→wpAny P .any ops Q fuel listed a w:=by
  intro fuel
  have ready_mem:∀(listed:Array Bool) (i:Nat),i∈ah4 .any ops listed→∃o,ops[i]?=some o∧listed.getD i true=false∧∀e∈o.after,ahP .any e=true→listed.getD e.on false=true:=by
   intro listed i hi
   unfold ah4 at hi
   rw [aih] at hi
   obtain⟨hr,hi⟩:=hi
   simp only [ahu,ahE] at hi
   cases ho:ops[i]? with
   | none=>rw [ho] at hi;simp at hi
   | some o =>
    rw [ho] at hi
    simp only [aiw,aig,Array.all_eq_true_iff_forall_mem,ah0,ahE] at hi
    exact⟨o,rfl,hi.1,fun e he hb=>(hi.2 e he).resolve_left (by rw [hb];simp)⟩
  have empty:∀(listed:Array Bool),listed.size=ops.size→ah4 .any ops listed=[]→left ops.toList listed=[]:=by
   intro listed hsz hr
   have all:∀i,i<ops.size→listed.getD i true=true:=by
    intro i
    induction i using Nat.strongRecOn with
    | _ i ih =>
     intro hi
     cases hl:listed.getD i true with
     | true=>rfl
     | false =>
      exfalso
      have ho:ops[i]?=some ops[i]:=ahG hi
      have hmem:i∈ah4 .any ops listed:=by
       unfold ah4
       rw [aih]
       refine⟨List.mem_range.2 hi,?_⟩
       rw [hl,ho]
       simp only [aiA,Bool.true_and,aiw,aig,Array.all_eq_true_iff_forall_mem,ah0]
       intro e he
       cases hb:ahP .any e
       ·exact .inl rfl
       right
       have h1:=(hedge i _ ho).1 e he hb
       have h2:=ih e.on h1 (by omega)
       have h3:e.on<listed.size:=by omega
       rw [ahy,ahG h3] at h2 ⊢
       exact h2
      rw [hr] at hmem
      cases hmem
   unfold left
   rw [List.map_eq_nil_iff,List.filter_eq_nil_iff]
   rintro⟨o,i⟩ hp
   have hi:=ahL hp
   simp only [ahE,Bool.not_eq_false]
   exact all i (by simpa using hi)
  induction fuel with
  | zero =>
   intro listed F O a w δ hsz hcl hl hI hV hg
   have h0:left ops.toList listed=[]:=ahS (by omega)
   rw [h0] at hg
   refine⟨?_,hQ a w ⟨⟨F,O,δ,hI,hg⟩,hV⟩⟩
   cases hr:ah4 .any ops listed with
   | nil=>rfl
   | cons i rest =>
    exfalso
    obtain⟨o,ho,hn,_⟩:=ready_mem listed i (by rw [hr];simp)
    have hi:i<ops.size:=(ahX.1 ho).1
    have:=(Nl (l:=ops.toList) (by simpa using ho) hn (by omega)).1
    rw [h0] at this
    simp at this
  | succ fuel ihf =>
   intro listed F O a w δ hsz hcl hl hI hV hg
   refine⟨fun hr=>?_,fun i hi=>?_⟩
   ·rw [empty listed hsz hr] at hg
    exact hQ a w ⟨⟨F,O,δ,hI,hg⟩,hV⟩
   ·obtain⟨o,ho,hn,hed⟩:=ready_mem listed i hi
    have hilt:i<ops.size:=(ahX.1 ho).1
    obtain⟨e1,e2⟩:=Nl (l:=ops.toList) (by simpa using ho) hn (by omega)
    rw [e1] at hg hl
    have hfront:∀q∈(((ops.toList.take i).zipIdx.filter fun p=>!listed.getD p.2 true).map (·.1)),St c ops.toList q o=true:=by
     intro q hq
     ·simp only [List.mem_map,aih] at hq
      obtain⟨⟨q',j⟩,⟨hm1,hm2⟩,rfl⟩:=hq
      have hj:=ahL hm1
      rw [aie] at hj
      have hget:ops[j]?=some q':=by
       have:=List.mem_zipIdx_iff_getElem?.1 hm1
       simp only at this
       rw [aif (by omega)] at this
       simpa using this
      rcases(hedge i o ho).2 j q' (by omega) hget with hbf | h
      ·exfalso
       have h3:=NG hcl 3 o hed hbf
       simp only [ahE] at hm2
       have hjlt:j<listed.size:=by omega
       rw [ahy,ahG hjlt] at h3 hm2
       simp only [aig] at h3 hm2
       rw [h3] at hm2
       cases hm2
      ·exact h
    ·replace hg:=It _ _ _ hfront hg
     rw [←e2] at hg
     have h:=OM hT hS (ops:=ops) (hok o (by simpa using Array.mem_of_getElem? ho)) hI hV hg Q
     have ih:∀a w,mQ c B X w0 F0 V (fun δ'=>nS c ops.toList (left ops.toList (listed.setIfInBounds i true)) δ' k) r a w→wpAny P .any ops Q fuel (listed.setIfInBounds i true) a w:=by
      rintro a w ⟨⟨F',O',δ',hI',hk'⟩,hV'⟩
      exact ihf _ F' O' a w δ' (by simpa using hsz) (af0 hcl ho hed) (by rw [e2];simp only [List.length_append,ah7] at hl ⊢;omega) hI' hV' hk'
     unfold wpOp
     rw [ho]
     simp only
     split
     ·rename_i hw
      rw [if_pos hw] at h
      exact .inl (aio ih h)
     ·rename_i hw
      rw [if_neg hw] at h
      exact ih _ _ h
 have hleft:left ops.toList (ah1 ops.size false)=ops.toList:=by
  unfold left
  rw [List.filter_eq_self.2]
  ·simp
  ·rintro⟨o,i⟩ hp
   have hi:=ahL hp
   have hi':i<ops.size:=by simpa using hi
   simp [ahy,hi']
 refine main ops.size _ F O a _ δ (by simp) (fun m q _ hm=>?_) ?_ (hI.drawn _) hV ?_
 ·rw [ahy,Array.getElem?_replicate] at hm
  split at hm<;>cases hm
 ·rw [hleft];simp
 ·rw [hleft];exact hg
theorem mA:∀(l:List ResultVar) (δ:List D) (k:List D→Option Out),tX c δ l k=(tX c δ l fun rs=>some (.nrm rs)).bind fun o=>match o with
  | .nrm rs=>k rs
  | _=>none
 | [],δ,k=>rfl
 | .tmp t::l,δ,k=>by
  simp only [tX,fT]
  rw [mA l δ fun rs=>k (nth δ t::rs),mA l δ fun rs=>some (.nrm (nth δ t::rs))]
  cases h:tX c δ l fun rs=>some (.nrm rs) with
  | none=>rfl
  | some o=>cases o<;>rfl
 | .cell s t::l,δ,k=>by
  simp only [tX]
  split
  ·rename_i i _
   simp only [fT]
   cases bf i.agg i.n 0 (nth δ s) with
   | none=>rfl
   | some y =>
    simp only [ahA]
    rw [mA l δ fun rs=>k (y::rs),mA l δ fun rs=>some (.nrm (y::rs))]
    cases h:tX c δ l fun rs=>some (.nrm rs) with
    | none=>rfl
    | some o=>cases o<;>rfl
  ·rfl
theorem GS:∀{us:List D} {o:Option Out} {r:Out},usK us o=some r↔(∀u∈us,u ≠ .bad)∧o=some r
 | [],o,r=>by simp [usK]
 | u::us,o,r=>by
  simp only [usK,aht,ahB,forall_eq_or_imp]
  constructor
  ·rintro⟨y,h1,h2⟩
   obtain⟨h3,h4⟩:=GS.1 h2
   exact⟨⟨(cD h1).1,h3⟩,h4⟩
  ·rintro⟨⟨h1,h2⟩,h3⟩
   refine⟨u,?_,GS.2 ⟨h2,h3⟩⟩
   cases u<;>first | rfl | exact absurd rfl h1
theorem mI {δ:List D} {k:Out→Option Out} {r:Out} (h:YL c δ k=some r):∃rs,tX c δ c.res (fun rs=>some (.nrm rs))=some (.nrm rs)∧(∀u∈aA δ c.ios,u ≠ .bad)∧k (.ret rs (aA δ c.ios))=some r:=by
 unfold YL at h
 simp only [cO] at h
 rw [mA] at h
 cases hh:tX c δ c.res fun rs=>some (.nrm rs) with
 | none=>rw [hh] at h;cases h
 | some o =>
  rw [hh] at h
  cases o with
  | nrm rs =>
   simp only [ahA] at h
   obtain⟨h1,h2⟩:=GS.1 h
   exact⟨rs,rfl,h1,h2⟩
  | ext i δ=>cases h
  | ret x y=>cases h
theorem Mo {δ:List D} {k:Out→Option Out} {r:Out} {rs:List D} (h1:tX c δ c.res (fun rs=>some (.nrm rs))=some (.nrm rs)) (h2:∀u∈aA δ c.ios,u ≠ .bad) (hk:k (.ret rs (aA δ c.ios))=some r):YL c δ k=some r:=by
 unfold YL
 simp only [cO]
 rw [mA,h1]
 simp only [ahA]
 exact GS.2 ⟨h2,hk⟩
def carry (n:Nat) (hl:List Nat) (δ:List D):List D:=az (PC n) hl (aA δ hl)
theorem HG:∀n,PC n=List.replicate n .bad
 | 0=>rfl
 | n+1=>by simp [PC,HG n,List.replicate_succ]
theorem adI (n s:Nat):nth (PC n) s = .bad:=by
 rw [iZ,HG,ahx,List.getElem?_replicate]
 split<;>rfl
theorem wO (n:Nat) (hl:List Nat) (δ:List D) (k:List D→Option Out):oH n hl (aA δ hl) k=k (carry n hl δ):=by
 unfold oH carry
 rw [cT,we _ _ 0 (by rw [sb];omega),ahC]
theorem wk (δ:List D):∀(l:List Nat),aA δ l=l.map (nth δ)
 | []=>rfl
 | _::l=>by simp [aA,wk δ l]
theorem Jl {hl:List Nat} {δ:List D} (s:Nat):nth (carry δ.length hl δ) s=if s∈hl then nth δ s else .bad:=by
 unfold carry
 rw [wk,tz]
 have hlen:(PC δ.length).length=δ.length:=by rw [HG];simp
 rw [hlen,adI]
 split
 ·split
  ·rfl
  ·rename_i h
   by_cases hb:nth δ s = .bad
   ·exact hb.symm
   ·exact absurd (YA hb) h
 ·rfl
theorem Inv.carry (h:Inv c B X w0 F0 F O a w δ) {hl:List Nat} (hk:uq c.K hl=true):Inv c B X w0 F0 F O a w (carry (oi c.K) hl δ):=by
 have e:oi c.K=δ.length:=by rw [qG,h.ld]
 rw [e]
 refine h.forget ?_ (fun s=>?_) (fun s r hv hb=>?_)
 ·unfold V.carry;rw [dI,HG];simp
 ·rw [Jl]
  split
  ·exact .inl rfl
  ·exact .inr rfl
 ·rw [Jl] at hb
  split at hb
  case isFalse=>exact absurd rfl hb
  rename_i hs
  unfold uq at hk
  rw [ahO] at hk
  have hks:=hk s hs
  have hr:r∈hl:=by
   rcases hv with e | e<;>rw [e] at hks<;>simpa [jl] using hks
  rw [Jl,if_pos hr]
  exact(h.root hv hb).2
theorem nL {V:Nat→Value} {k k':List D→Option Out} {r r':Out} (h:mQ c B X w0 F0 V k r a w) (hk:∀δ F O,Inv c B X w0 F0 F O a w δ→k δ=some r→k' δ=some r'):mQ c B X w0 F0 V k' r' a w:=by
 obtain⟨⟨F,O,δ,h1,h2⟩,h3⟩:=h
 exact⟨⟨F,O,δ,h1,hk δ F O h1 h2⟩,h3⟩
theorem KT {V:Nat→Value} {b:Code} {bid:Nat} {hl xl:List Nat} (h1:uq c.K hl=true) (h2:uq c.K xl=true)
  (ih:∀(F:Nat→Prop) (O:Nat→Option (Nat × Nat)) (a:Act) (w:World) (δ:List D),Inv c B X w0 F0 F O a w δ→IoV c V a→∀(k:Out→Option Out) (r:Out),den c bid b δ k=some r→∀Q,(∀e a w,abb c B X w0 F0 V k r e a w→Q e a w)→b.wp P Q a w)
  {k:Out→Option Out} {r:Out} {Q:Exit→Act→World→Prop} (hQ:∀e a w,abb c B X w0 F0 V k r e a w→Q e a w) {o:Out}
  (ho:bY o (fun i s=>oH (oi c.K) xl s fun δ=>k (.ext i δ)) (fun x y=>k (.ret x y))=some r):∀(n:Nat) (F:Nat→Prop) (O:Nat→Option (Nat × Nat)) (a:Act) (w:World) (δ:List D),Inv c B X w0 F0 F O a w δ→IoV c V a →
  iter (fun s=>oH (oi c.K) hl s fun δ=>den c bid b δ (dL hl xl)) n (aA δ hl)=some o→Code.rounds P b Q n a w
 | 0,_,_,_,_,_,_,_,h=>by cases h
 | n+1,F,O,a,w,δ,hI,hV,h=>by
  simp only [iter,wO] at h
  rw [rounds_succ]
  have hI':=hI.carry h1
  cases hb:den c bid b (carry (oi c.K) hl δ) (dL hl xl) with
  | none=>rw [hb] at h;cases h
  | some ob =>
   rw [hb] at h
   refine ih F O a w _ hI' hV _ ob hb _ (fun e a' w' hp=>?_)
   cases ob with
   | nrm s' =>
    simp only at h
    cases e with
    | normal =>
     obtain⟨⟨F',O',δ',g1,g2⟩,g3⟩:=hp
     simp only [dL,cO,ahv,Out.nrm.injEq] at g2
     rw [←g2] at h
     exact KT h1 h2 ih hQ ho n F' O' a' w' δ' g1 g3 h
    | exit i =>
     obtain⟨⟨F',O',δ',g1,g2⟩,g3⟩:=hp
     simp [dL,cO] at g2
    | ret =>
     obtain⟨⟨F',O',δ',g1,g2⟩,g3⟩:=hp
     obtain⟨rs,_,_,g4⟩:=mI g2
     simp [dL] at g4
    | _=>exact hp.elim
   | ext i l =>
    simp only [ahv] at h
    subst h
    cases e with
    | normal =>
     obtain⟨⟨F',O',δ',g1,g2⟩,g3⟩:=hp
     simp [dL,cO] at g2
    | exit j =>
     obtain⟨⟨F',O',δ',g1,g2⟩,g3⟩:=hp
     simp only [dL,cO,ahv,Out.ext.injEq] at g2
     obtain⟨rfl,rfl⟩:=g2
     simp only [bY,wO] at ho
     exact hQ (.exit j) _ _ ⟨⟨F',O',_,g1.carry h2,ho⟩,g3⟩
    | ret =>
     obtain⟨⟨F',O',δ',g1,g2⟩,g3⟩:=hp
     obtain⟨rs,_,_,g4⟩:=mI g2
     simp [dL] at g4
    | _=>exact hp.elim
   | ret x y =>
    simp only [ahv] at h
    subst h
    cases e with
    | normal =>
     obtain⟨⟨F',O',δ',g1,g2⟩,g3⟩:=hp
     simp [dL,cO] at g2
    | exit j =>
     obtain⟨⟨F',O',δ',g1,g2⟩,g3⟩:=hp
     simp [dL,cO] at g2
    | ret =>
     obtain⟨⟨F',O',δ',g1,g2⟩,g3⟩:=hp
     obtain⟨rs,g5,g6,g4⟩:=mI g2
     simp only [dL,ahv,Out.ret.injEq] at g4
     obtain⟨rfl,rfl⟩:=g4
     exact hQ .ret _ _ ⟨⟨F',O',δ',g1,Mo g5 g6 ho⟩,g3⟩
    | _=>exact hp.elim
theorem kC (hT:okT P c.T=true) (hS:∀f S,eX c.S f=some S→au c.G P f S) (hm:P.follows .mixedOrders=true) {V:Nat→Value}:∀(b:Code) (bid:Nat),iY c bid b=true→∀(F:Nat→Prop) (O:Nat→Option (Nat × Nat)) (a:Act) (w:World) (δ:List D),
  Inv c B X w0 F0 F O a w δ→IoV c V a→∀(k:Out→Option Out) (r:Out),den c bid b δ k=some r→∀Q,(∀e a w,abb c B X w0 F0 V k r e a w→Q e a w)→b.wp P Q a w
 | .skip,bid,_,F,O,a,w,δ,hI,hV,k,r,hg,Q,hQ=>wp_skip (hQ _ _ _ ⟨⟨F,O,δ,hI,hg⟩,hV⟩)
 | .region id ops d,bid,hok,F,O,a,w,δ,hI,hV,k,r,hg,Q,hQ=>by
  simp only [iY,ahu,ahO] at hok
  have hq:∀a w,mQ c B X w0 F0 V (fun δ=>k (.nrm δ)) r a w→Q .normal a w:=fun a w h=>hQ _ _ _ h
  cases d
  ·exact wp_region_list (PF hT hS hq ops.toList hok.1 F O a w δ hI hV hg)
  ·exact aa9 hT hS (by simpa using hok.2) hm hq hok.1 hI hV hg id
 | .seq x y,bid,hok,F,O,a,w,δ,hI,hV,k,r,hg,Q,hQ=>by
  simp only [iY,ahu] at hok
  refine wp_seq (kC hT hS hm x bid hok.1 F O a w δ hI hV _ r hg _ (fun e a' w' hp=>?_))
  cases e with
  | normal =>
   obtain⟨⟨F',O',δ',hI',hk'⟩,hV'⟩:=hp
   exact kC hT hS hm y bid hok.2 F' O' a' w' δ' hI' hV' k r hk' Q hQ
  | exit id=>exact hQ _ _ _ hp
  | ret=>exact hQ _ _ _ hp
  | _=>exact hp.elim
 | .cond x t e,bid,hok,F,O,a,w,δ,hI,hV,k,r,hg,Q,hQ=>by
  simp only [iY,ahu] at hok
  obtain⟨⟨hlv,hok1⟩,hok2⟩:=hok
  have hop:=hI.opd (cM.1 hlv)
  have key:ifD (opD δ x) (den c bid t δ k) (den c bid e δ k)=some r:=by
   simp only [den] at hg
   cases x with
   | tmp s=>simpa only [opC,fT,opD] using hg
   | const v=>simpa only [opC,opD] using hg
   | func f=>simpa only [opC,opD] using hg
   | global g=>simp [opC] at hg
  unfold ifD at key
  split at key
  ·rename_i hd
   rw [hd] at hop
   exact wp_cond_true (bI hop).1 (kC hT hS hm t bid hok1 F O a w δ hI hV k r key Q hQ)
  ·rename_i hd
   rw [hd] at hop
   exact wp_cond_false (bI hop).1 (kC hT hS hm e bid hok2 F O a w δ hI hV k r key Q hQ)
  ·cases key
 | .block id b,bid,hok,F,O,a,w,δ,hI,hV,k,r,hg,Q,hQ=>by
  simp only [iY] at hok
  refine wp_block (kC hT hS hm b id hok F O a w δ hI hV _ r hg _ (fun e a' w' hp=>?_))
  cases e with
  | normal=>exact hQ .normal _ _ hp
  | exit i =>
   simp only [Exit.inBlock]
   have hp':mQ c B X w0 F0 V (fun δ=>WN id (.ext i δ) k) r a' w':=hp
   split
   ·rename_i hi
    refine hQ .normal _ _ (nL hp' fun δ F O _ h=>?_)
    simp only [WN] at h
    rw [ba.2 (by simpa using hi)] at h
    exact h
   ·rename_i hi
    refine hQ (.exit i) _ _ (nL hp' fun δ F O _ h=>?_)
    simp only [WN] at h
    cases hb:ahF i id
    ·rw [hb] at h;exact h
    ·exact absurd (by simpa using ba.1 hb) hi
  | ret=>exact hQ .ret _ _ hp
  | _=>exact hp.elim
 | .loop b,bid,hok,F,O,a,w,δ,hI,hV,k,r,hg,Q,hQ=>by
  simp only [iY,ahu] at hok
  obtain⟨hok1,hok2⟩:=hok
  simp only [den] at hg
  cases hH:eX c.H bid with
  | none=>rw [hH] at hg;cases hg
  | some hx =>
   obtain⟨hl,xl⟩:=hx
   rw [hH] at hg hok2
   simp only [ahu] at hok2
   simp only [cO] at hg
   obtain⟨o',h1,h2⟩:=aht.1 hg
   unfold aX at h1
   split at h1
   case isFalse=>cases h1
   rename_i hex
   refine wp_loop_rounds (ahN hex) ?_
   refine KT (hl:=hl) (xl:=xl) hok2.1 hok2.2 (fun F O a w δ hI hV k r hg Q hQ=>kC hT hS hm b bid hok1 F O a w δ hI hV k r hg Q hQ) hQ h2 _ F O a w δ hI hV h1
 | .exit id,bid,_,F,O,a,w,δ,hI,hV,k,r,hg,Q,hQ=>wp_exit (hQ _ _ _ ⟨⟨F,O,δ,hI,hg⟩,hV⟩)
 | .ret,bid,_,F,O,a,w,δ,hI,hV,k,r,hg,Q,hQ=>wp_ret (hQ _ _ _ ⟨⟨F,O,δ,hI,hg⟩,hV⟩)
 | .label _,_,hok,_,_,_,_,_,_,_,_,_,_,_,_=>by simp [iY] at hok
 | .goto _,_,hok,_,_,_,_,_,_,_,_,_,_,_,_=>by simp [iY] at hok
 | .scope _,_,hok,_,_,_,_,_,_,_,_,_,_,_,_=>by simp [iY] at hok
end
end Go.V

namespace Go.V
open Go.RowKit
def Es:List ResultVar→List Nat
 | []=>[]
 | .tmp t::l=>t::Es l
 | .cell _ _::l=>Es l
def dn (c:Cx):List ResultVar→List Kd→Bool
 | [],[]=>true
 | .tmp t::l,.dat lv::m=>(match aC c.K t with
  | .dat l'=>aiz l' lv
  | _=>false)&&dn c l m
 | .tmp t::l,.own z lv false::m=>(match aC c.K t with
  | .own z' l' false=>ahF z' z&&aiz l' lv
  | _=>false) && !oc t (Es l)&&dn c l m
 | .cell s t::l,.dat lv::m=>(match aC c.K s with
  | .box _ l' _=>aiz l' lv
  | _=>false)&&(eX c.T t).isSome&&dn c l m
 | _,_=>false
def yX:Nat→List Kd→List Nat
 | _,[]=>[]
 | i,k::ks=>if ul k then i::yX (i+1) ks else yX (i+1) ks
def eqK:Kd→Kd→Bool
 | .dat a,.dat b=>ahF a b
 | .own a b io,.own a' b' io'=>ahF a a'&&ahF b b'&&io==io'
 | .box a b io,.box a' b' io'=>ahF a a'&&ahF b b'&&io==io'
 | _,_=>false
def Sp:List Kd→List Kd→Bool
 | [],_=>true
 | k::ks,l::ls=>eqK k l&&Sp ks ls
 | _,_=>false
section
variable {P:Program} {c:Cx} {B:Nat} {X:Nat→Prop} {w0:World} {F0 F:Nat→Prop} {O:Nat→Option (Nat × Nat)} {a:Act} {w:World} {δ:List D}
def wJ (tmps:Array Value):ResultVar→Sem Value
 | .tmp t=>pure (tmps.getD t undef)
 | .cell a t=>do loadVar t (←asAddr (tmps.getD a undef))
theorem agh {k l:Kd} (h:eqK k l=true):k=l:=by
 unfold eqK at h
 split at h
 ·rw [ba] at h;rw [h]
 ·simp only [ahu,ba,beq_iff_eq] at h
  obtain⟨⟨rfl,rfl⟩,rfl⟩:=h;rfl
 ·simp only [ahu,ba,beq_iff_eq] at h
  obtain⟨⟨rfl,rfl⟩,rfl⟩:=h;rfl
 ·cases h
theorem JY:∀{ks ls:List Kd},Sp ks ls=true→ks.length≤ls.length∧∀(i:Nat),i<ks.length→aC ls i=aC ks i
 | [],_,_=>⟨by simp,by simp⟩
 | k::ks,l::ls,h=>by
  simp only [Sp,ahu] at h
  obtain⟨h1,h2⟩:=JY h.2
  refine⟨by simp;exact h1,fun i hi=>?_⟩
  cases i with
  | zero=>simp only [aC];exact(agh h.1).symm
  | succ i=>simp only [aC];exact h2 i (by simpa using hi)
 | _::_,[],h=>by simp [Sp] at h
def afD (B:Nat) (O:Nat→Option (Nat × Nat)) (res:List ResultVar) (j:Nat) (g:Nat):Prop:=B≤g∧∃t,res[j]?=some (.tmp t)∧O g=some (t,0)
theorem sw {w:World} {F:Nat→Prop} {B:Nat} {own own':Nat→Prop} {k:Kd} {d:D} {y:Value} (ho:(∃z lv,k = .own z lv false)→∀g,own g→own' g) (h:Wj w F B own k d y):Wj w F B own' k d y:=by
 rcases h with h | h
 ·exact .inl h
 ·refine .inr ?_
  cases k with
  | own z lv io =>
   cases io
   ·exact h.own fun _ _ hg=>⟨ho ⟨z,lv,rfl⟩ _ hg.1,hg.2⟩
   ·exact h
  | _=>exact h
theorem Hz (hT:okT P c.T=true) (hI:Inv c B X w0 F0 F O a w δ):∀(res:List ResultVar) (rm:List Kd) (rs:List D),dn c res rm=true→tX c δ res (fun rs=>some (.nrm rs))=some (.nrm rs) →
  ∃vs:List Value,(res.mapM (wJ a.tmps)).run P w = .ok vs w∧vs.length=rm.length∧rs.length=rm.length∧∀j,Wj w F B (afD B O res j) (aC rm j) (nth rs j) (vs.getD j undef)
 | [],[],rs,_,h=>by
  simp only [tX,ahv,Out.nrm.injEq] at h
  subst h
  exact⟨[],by simp,rfl,rfl,fun j=>.inl (by simp [nth])⟩
 | .tmp t::l,.dat lv::m,rs,hok,h=>by
  simp only [dn,ahu] at hok
  simp only [tX,fT] at h
  rw [mA] at h
  obtain⟨o,h1,h2⟩:=aht.1 h
  split at h2
  case h_2=>cases h2
  rename_i rs'
  simp only [ahv,Out.nrm.injEq] at h2
  subst h2
  obtain⟨vs,g1,g2,g3,g4⟩:=Hz hT hI l m rs' hok.2 h1
  refine⟨a.tmps.getD t undef::vs,by simp [aij,wJ,g1],by simp [g2],by simp [g3],fun j=>?_⟩
  cases j with
  | zero =>
   simp only [aC,nth,ahQ]
   have hk:=hok.1
   split at hk
   case h_2=>cases hk
   rename_i l' hkt
   exact(ku (cM.1 hk) (hI.dat hkt))
  | succ j =>
   refine sw (fun _ g hg=>?_) (g4 j)
   obtain⟨e1,t',e2,e3⟩:=hg
   exact⟨e1,t',by simpa using e2,e3⟩
 | .tmp t::l,.own z lv false::m,rs,hok,h=>by
  simp only [dn,ahu] at hok
  simp only [tX,fT] at h
  rw [mA] at h
  obtain⟨o,h1,h2⟩:=aht.1 h
  split at h2
  case h_2=>cases h2
  rename_i rs'
  simp only [ahv,Out.nrm.injEq] at h2
  subst h2
  obtain⟨vs,g1,g2,g3,g4⟩:=Hz hT hI l m rs' hok.2 h1
  refine⟨a.tmps.getD t undef::vs,by simp [aij,wJ,g1],by simp [g2],by simp [g3],fun j=>?_⟩
  cases j with
  | zero =>
   simp only [aC,nth,ahQ]
   have hk:=hok.1.1
   split at hk
   case h_2=>cases hk
   rename_i z' l' hkt
   simp only [ahu,ba,cM] at hk
   obtain⟨rfl,hle⟩:=hk
   by_cases hb:nth δ t = .bad
   ·exact .inl hb
   ·exact .inr (eW (pc hle) (fun _ _=>rfl) (fun g _ hg=>⟨⟨⟨hg.2 rfl,t,rfl,hg.1⟩,hg.2 rfl⟩,rfl⟩) (hI.own hkt hb))
  | succ j =>
   refine sw (fun _ g hg=>?_) (g4 j)
   obtain⟨e1,t',e2,e3⟩:=hg
   exact⟨e1,t',by simpa using e2,e3⟩
 | .cell s t::l,.dat lv::m,rs,hok,h=>by
  simp only [dn,ahu] at hok
  simp only [tX] at h
  split at h
  case h_2=>cases h
  rename_i i hi
  simp only [fT] at h
  obtain⟨y,hy,h⟩:=aht.1 h
  rw [mA] at h
  obtain⟨o,h1,h2⟩:=aht.1 h
  split at h2
  case h_2=>cases h2
  rename_i rs'
  simp only [ahv,Out.nrm.injEq] at h2
  subst h2
  obtain⟨vs,g1,g2,g3,g4⟩:=Hz hT hI l m rs' hok.2 h1
  have hk:=hok.1.1
  split at hk
  case h_2=>cases hk
  rename_i n l' io hks
  rw [cM] at hk
  have hb:nth δ s ≠ .bad:=by
   intro e
   rw [e] at hy
   simp [bf] at hy
  obtain⟨mm,us,g,e,hd',a1,a2,a3,a4,a5,a6⟩:=hI.box hks hb
  rw [hd'] at hy
  simp only [bf,ahC] at hy
  have hcell:cH w g 0 us:=uI a2 (fun i u hu=>by simpa using hu)
  obtain⟨v,hv,hr⟩:=Ik (P:=P) (tok hT hi) a3 a4 hcell hy
  have hv':(wJ a.tmps (.cell s t)).run P w = .ok v w:=by
   have e1:a.tmps.getD s undef = .pointer (some ⟨g,0,none⟩):=a1
   simp only [wJ,e1]
   simpa [Instr.loadAt,Instr.sureAddr,asAddr] using hv
  refine⟨v::vs,by simp [aij,hv',g1],by simp [g2],by simp [g3],fun j=>?_⟩
  cases j with
  | zero =>
   simp only [aC,nth,ahQ]
   exact .inr (ch (pc hk) (fun _ _=>rfl) hr)
  | succ j =>
   refine sw (fun _ g hg=>?_) (g4 j)
   obtain⟨e1,t',e2,e3⟩:=hg
   exact⟨e1,t',by simpa using e2,e3⟩
 | [],_::_,_,hok,_=>by simp [dn] at hok
 | .tmp _::_,[],_,hok,_=>by simp [dn] at hok
 | .cell _ _::_,[],_,hok,_=>by simp [dn] at hok
 | .tmp _::_,.own _ _ true::_,_,hok,_=>by simp [dn] at hok
 | .tmp _::_,.box _ _ _::_,_,hok,_=>by simp [dn] at hok
 | .tmp _::_,.via _::_,_,hok,_=>by simp [dn] at hok
 | .tmp _::_,.ref _::_,_,hok,_=>by simp [dn] at hok
 | .tmp _::_,.tup _::_,_,hok,_=>by simp [dn] at hok
 | .tmp _::_,.no::_,_,hok,_=>by simp [dn] at hok
 | .cell _ _::_,.own _ _ _::_,_,hok,_=>by simp [dn] at hok
 | .cell _ _::_,.box _ _ _::_,_,hok,_=>by simp [dn] at hok
 | .cell _ _::_,.via _::_,_,hok,_=>by simp [dn] at hok
 | .cell _ _::_,.ref _::_,_,hok,_=>by simp [dn] at hok
 | .cell _ _::_,.tup _::_,_,hok,_=>by simp [dn] at hok
 | .cell _ _::_,.no::_,_,hok,_=>by simp [dn] at hok
def FL:List ResultVar→Nat→Nat→Option Nat
 | [],_,_=>none
 | .tmp t::l,s,j=>if t=s then some j else FL l s (j+1)
 | .cell _ _::l,s,j=>FL l s (j+1)
theorem EB:∀{res:List ResultVar} {j t:Nat},res[j]?=some (.tmp t)→t∈Es res
 | .tmp s::l,0,t,h=>by simp at h;simp [Es,h]
 | .cell _ _::l,0,t,h=>by simp at h
 | .tmp s::l,j+1,t,h=>by simp only [Es,ahB];exact .inr (EB (by simpa using h))
 | .cell _ _::l,j+1,t,h=>by simp only [Es];exact EB (by simpa using h)
theorem va:∀(res:List ResultVar) (rm:List Kd),dn c res rm=true→∀(j t i:Nat) (z lv:Nat),aC rm j = .own z lv false→res[j]?=some (.tmp t)→FL res t i=some (i+j)∧∃z' l',aC c.K t = .own z' l' false
 | [],[],_,j,t,i,z,lv,h,_=>by simp [aC] at h
 | .tmp s::l,.dat lv'::m,hok,j,t,i,z,lv,h,hj=>by
  simp only [dn,ahu] at hok
  cases j with
  | zero=>simp [aC] at h
  | succ j =>
   obtain⟨h1,h2⟩:=va l m hok.2 j t (i+1) z lv (by simpa [aC] using h) (by simpa using hj)
   refine⟨?_,h2⟩
   simp only [FL]
   rw [if_neg,h1]
   ·congr 1;omega
   ·rintro rfl
    obtain⟨z',l',hk⟩:=h2
    rw [hk] at hok
    cases hok.1
 | .tmp s::l,.own z0 lv0 false::m,hok,j,t,i,z,lv,h,hj=>by
  simp only [dn,ahu] at hok
  cases j with
  | zero =>
   simp at hj
   subst hj
   refine⟨by simp [FL],?_⟩
   have hk:=hok.1.1
   split at hk
   ·exact⟨_,_,‹_›⟩
   ·cases hk
  | succ j =>
   obtain⟨h1,h2⟩:=va l m hok.2 j t (i+1) z lv (by simpa [aC] using h) (by simpa using hj)
   refine⟨?_,h2⟩
   simp only [FL]
   rw [if_neg,h1]
   ·congr 1;omega
   ·rintro rfl
    have hm:=hok.1.2
    rw [jl] at hm
    simp only [ahE,decide_eq_false_iff_not] at hm
    exact hm (EB (by simpa using hj))
 | .cell s s'::l,.dat lv'::m,hok,j,t,i,z,lv,h,hj=>by
  simp only [dn,ahu] at hok
  cases j with
  | zero=>simp [aC] at h
  | succ j =>
   obtain⟨h1,h2⟩:=va l m hok.2 j t (i+1) z lv (by simpa [aC] using h) (by simpa using hj)
   refine⟨?_,h2⟩
   simp only [FL]
   rw [h1]
   congr 1;omega
 | [],_::_,hok,_,_,_,_,_,_,_=>by simp [dn] at hok
 | .tmp _::_,[],hok,_,_,_,_,_,_,_=>by simp [dn] at hok
 | .cell _ _::_,[],hok,_,_,_,_,_,_,_=>by simp [dn] at hok
 | .tmp _::_,.own _ _ true::_,hok,_,_,_,_,_,_,_=>by simp [dn] at hok
 | .tmp _::_,.box _ _ _::_,hok,_,_,_,_,_,_,_=>by simp [dn] at hok
 | .tmp _::_,.via _::_,hok,_,_,_,_,_,_,_=>by simp [dn] at hok
 | .tmp _::_,.ref _::_,hok,_,_,_,_,_,_,_=>by simp [dn] at hok
 | .tmp _::_,.tup _::_,hok,_,_,_,_,_,_,_=>by simp [dn] at hok
 | .tmp _::_,.no::_,hok,_,_,_,_,_,_,_=>by simp [dn] at hok
 | .cell _ _::_,.own _ _ _::_,hok,_,_,_,_,_,_,_=>by simp [dn] at hok
 | .cell _ _::_,.box _ _ _::_,hok,_,_,_,_,_,_,_=>by simp [dn] at hok
 | .cell _ _::_,.via _::_,hok,_,_,_,_,_,_,_=>by simp [dn] at hok
 | .cell _ _::_,.ref _::_,hok,_,_,_,_,_,_,_=>by simp [dn] at hok
 | .cell _ _::_,.tup _::_,hok,_,_,_,_,_,_,_=>by simp [dn] at hok
 | .cell _ _::_,.no::_,hok,_,_,_,_,_,_,_=>by simp [dn] at hok
theorem IC {w:World} {F:Nat→Prop} {ow:Nat→Option Nat}:∀(pm:List Kd) (ds:List D) (ys:List Value) (i:Nat),fG w F ow i pm ds ys→ds.length=pm.length∧ys.length=pm.length∧∀(j:Nat),j<pm.length→eD w F (fun g=>ow g=some (i+j)) (aC pm j) (nth ds j) (ys.getD j undef)
 | [],[],[],_,_=>⟨rfl,rfl,fun j h=>by simp at h⟩
 | k::pm,d::ds,y::ys,i,h=>by
  obtain⟨h1,h2⟩:=h
  obtain⟨g1,g2,g3⟩:=IC pm ds ys (i+1) h2
  refine⟨by simp [g1],by simp [g2],fun j hj=>?_⟩
  cases j with
  | zero=>exact h1
  | succ j =>
   have:=g3 j (by simpa using hj)
   simp only [aC,nth,List.getD_cons_succ]
   rw [show i+(j+1)=i+1+j from by omega]
   exact this
 | [],[],_::_,_,h=>h.elim
 | [],_::_,_,_,h=>h.elim
 | _::_,[],_,_,h=>h.elim
 | _::_,_::_,[],_,h=>h.elim
theorem Vs {w:World} {F:Nat→Prop} {δ:List D}:∀(pm:List Kd) (ys:List Value) (i:Nat),ys.length=pm.length→(∀(j:Nat),j<pm.length→ul (aC pm j)=true→nth δ (i+j) ≠ .bad∧eD w F (fun _=>True) (aC pm j) (nth δ (i+j)) (ys.getD j undef))→wB w F pm (aA δ (yX i pm)) ys
 | [],ys,i,_,_=>by simp [yX,aA,wB]
 | k::pm,[],i,hl,_=>by simp at hl
 | k::pm,y::ys,i,hl,h=>by
  have ih:=Vs pm ys (i+1) (by simpa using hl) (fun j hj hio=>by
   have:=h (j+1) (by simpa using hj) (by simpa [aC] using hio)
   rw [show i+1+j=i+(j+1) from by omega]
   simpa [aC] using this)
  cases hk:ul k with
  | true =>
   have h0:=h 0 (by simp) (by simpa [aC] using hk)
   simp only [yX,hk,if_true,aA,wB]
   exact⟨by simpa using h0.1,by simpa [aC] using h0.2,ih⟩
  | false=>simpa only [yX,hk,ah3,if_false,wB] using ih
theorem JZ:∀(pm:List Kd) (i j:Nat),j<pm.length→ul (aC pm j)=true→i+j∈yX i pm
 | k::pm,i,0,_,h=>by
  simp only [aC] at h
  simp [yX,h]
 | k::pm,i,j+1,hj,h=>by
  have ih:=JZ pm (i+1) j (by simpa using hj) (by simpa [aC] using h)
  rw [show i+(j+1)=i+1+j from by omega]
  simp only [yX]
  split
  ·exact List.mem_cons_of_mem _ ih
  ·exact ih
theorem Bf:∀(n:Nat) (l:List D) (s:Nat),l.length≤n→nth (AL n l) s=nth l s
 | 0,l,s,h=>by
  have:l=[]:=ahS (by omega)
  subst this
  simp [AL]
 | n+1,[],s,_=>by
  cases s with
  | zero=>simp [nth]
  | succ s=>simp only [nth];rw [Bf n [] s (by simp)]
 | n+1,d::l,s,h=>by
  cases s with
  | zero=>simp [nth]
  | succ s=>simp only [nth];exact Bf n l s (by simpa using h)
theorem AU:∀(n:Nat) (l:List D),(AL n l).length=n
 | 0,_=>rfl
 | n+1,[]=>by simp [AL,AU n []]
 | n+1,_::l=>by simp [AL,AU n l]
def aeW (c:Cx) (fn:Func) (pm rm:List Kd):Bool :=
 (match fn.body with
  | some b=>iY c 0 b
  | none=>false)&&ahF (oi c.K) fn.ntmps&&Sp pm c.K&&mv pm&&dn c c.res rm&&decide (c.ios=yX 0 pm)
theorem FF:∀{pm:List Kd},mv pm=true→∀j,j<pm.length→(∃lv,aC pm j = .dat lv∧lv≠1)∨(∃z lv,aC pm j = .own z lv true∧lv≠1)∨∃n lv,aC pm j = .box n lv true∧lv≠1
 | m::pm,h,j,hj=>by
  obtain⟨h1,h2,h3⟩:=SK h
  cases j with
  | succ j=>exact FF h1 j (by simpa using hj)
  | zero =>
   simp only [aC]
   cases m with
   | dat lv =>
    refine .inl ⟨lv,rfl,?_⟩
    simp only [mv] at h
    split at h
    case h_2=>cases h
    rename_i e1 e2
    intro e;subst e;simp at e1
   | own z lv io =>
    cases io
    ·simp [mv] at h
    ·exact .inr (.inl ⟨z,lv,rfl,h2 z lv rfl⟩)
   | box n lv io =>
    cases io
    ·simp [mv] at h
    ·exact .inr (.inr ⟨n,lv,rfl,h3 n lv rfl⟩)
   | _=>simp [mv] at h
theorem adi (hT:okT P c.T=true) (hS:∀f S,eX c.S f=some S→au c.G P f S) (hm:P.follows .mixedOrders=true) {f:FuncId} {fn:Func} (hf:P.funcs[f]?=some fn) {pm rm:List Kd} (hok:aeW c fn pm rm=true) (hres:c.res=fn.results.toList)
  {ds rs us:List D} (hd:aS c fn ds=some (.ret rs us)) {args:Array Value} {w:World} {F:Nat→Prop} {ow:Nat→Option Nat} (hgl:gOk c.G w F) (ha:fG w F ow 0 pm ds args.toList) (hF:∀b,F b→b<w.heap.size∧ow b=none) (hO:∀b i,ow b=some i→b<w.heap.size) :
  Calls P f args w fun e w'=>∃v,e = .returned v∧∃F' R vs,v=nT vs∧CallPost {pm:=pm,rm:=rm,f:=aS c fn} args rs us w F ow F' R vs w':=by
 unfold aeW at hok
 simp only [ahu,decide_eq_true_eq] at hok
 obtain⟨⟨⟨⟨⟨hcode,hlenK⟩,hpre⟩,hpm⟩,hokr⟩,hios⟩:=hok
 rw [ba,qG] at hlenK
 obtain⟨hpl,hpn⟩:=JY hpre
 obtain⟨hdl,hal,hargs⟩:=IC pm ds args.toList 0 ha
 have hasz:args.size=pm.length:=by simpa using hal
 unfold aS at hd
 cases hb:fn.body with
 | none=>rw [hb] at hd;cases hd
 | some b =>
  rw [hb] at hd hcode
  simp only at hd hcode
  refine calls_of_wp hf hb ?_
  have hav:∀s,s<pm.length→av ({tmps:=args++ah1 (fn.ntmps - args.size) undef,defers:=[]}:Act) s=args.toList.getD s undef:=fun s hs=>by
   have h1:s<args.size:=by omega
   simp only [av,ahy,ahx,ahU]
   rw [aib h1]
  have hinit:Inv c w.heap.size (fun b=>ow b≠none) w F F (fun b=>(ow b).map fun i=>(i,0)) {tmps:=args++ah1 (fn.ntmps - args.size) undef,defers:=[]} w (AL fn.ntmps ds):=by
   refine⟨by simp;omega,by rw [AU,hlenK],rfl,fun s=>?_,fun b hb=>⟨(hF b hb).1,by simp [(hF b hb).2]⟩,fun b p hp=>?_,fun _ h=>h,fun _ h=>.inl h,ahY _,rfl,rfl,rfl,fun _ _ _=>rfl,hgl⟩
   ·unfold IZ
    rw [Bf _ _ _ (by rw [hdl];omega)]
    by_cases hs:s<pm.length
    ·rw [hpn s hs,hav s hs]
     rcases hargs s hs with hbad | harg
     ·exact .inl hbad
     refine .inr ?_
     have hlv:∀lv,lv≠1→∀b,FB F 0 lv b→FB F w.heap.size lv b:=fun lv h1 b hb=>by
      match lv,h1 with
      | 0,_=>exact hb
      | _+2,_=>exact hb
     rcases FF hpm s hs with ⟨lv,hk,h1⟩ | ⟨z,lv,hk,h1⟩ | ⟨n,lv,hk,h1⟩
     ·rw [hk] at harg ⊢
      exact .inr (ch (hlv lv h1) (fun _ _=>rfl) harg)
     ·rw [hk] at harg ⊢
      exact .inr (eW (hlv lv h1) (fun _ _=>rfl) (fun g _ hg=>⟨⟨by simp only [aip] at hg;simp [hg],fun h=>by cases h⟩,rfl⟩) harg)
     ·rw [hk] at harg ⊢
      exact .inr (rq (hlv lv h1) (fun _ _=>rfl) (fun g _ hg=>⟨⟨by simp only [aip] at hg;simp [hg],fun h=>by cases h⟩,rfl⟩) harg)
    ·refine .inl ?_
     rw [iZ,ahx,ahT (by omega)]
     rfl
   ·obtain⟨i,hi,rfl⟩:=ahw.1 hp
    exact⟨hO b i hi,.inr (by rw [hi];simp)⟩
  refine kC hT hS hm b 0 hcode F _ _ w _ hinit (V:=av {tmps:=args++ah1 (fn.ntmps - args.size) undef,defers:=[]}) (fun _ _=>rfl) _ _ hd _ (fun e a' w' hp=>?_)
  have fin:mQ c w.heap.size (fun b=>ow b≠none) w F (av {tmps:=args++ah1 (fn.ntmps - args.size) undef,defers:=[]}) (fun δ=>YL c δ some) (.ret rs us) a' w'→a'.defers=[]∧∃v,(results fn a'.tmps).run P w' = .ok v w'∧∃v',Ending.returned v = .returned v'∧∃F' R vs,v'=nT vs∧CallPost {pm:=pm,rm:=rm,f:=aS c fn} args rs us w F ow F' R vs w':=by
   rintro⟨⟨F',O',δ',hI',hk⟩,hV'⟩
   obtain⟨rs',h1,h2,h3⟩:=mI hk
   simp only [ahv,Out.ret.injEq] at h3
   obtain⟨rfl,rfl⟩:=h3
   obtain⟨vs,g1,g2,g3,g4⟩:=Hz (P:=P) hT hI' c.res rm rs' hokr h1
   refine⟨hI'.df,nT vs,?_,_,rfl,F',fun b=>if w.heap.size≤b then(match O' b with
    | some (t,0)=>FL c.res t 0
    | _=>none) else none,vs,rfl,?_⟩
   ·have hrun:(fn.results.mapM (wJ a'.tmps)).run P w' = .ok vs.toArray w':=by
     rw [Array.mapM_eq_mapM_toList,←hres]
     simp [g1]
    have hrw:results fn a'.tmps=(do
      let vs ←fn.results.mapM (wJ a'.tmps)
      pure (if h:vs.size=1 then vs[0] else .tuple vs)):=by
     unfold results
     congr 1
    rw [hrw]
    simp only [Sem.run_bind,hrun,Result.andThen_ok,Sem.run_pure]
    congr 1
    rcases vs with _ | ⟨y,_ | ⟨y',vs⟩⟩
    ·simp [nT]
    ·simp [nT]
    ·simp [nT]
   ·refine⟨hI'.os,hI'.tape,hI'.output,hI'.bb,fun b hb ho=>hI'.keep b hb (by simp [ho]),hI'.f0,fun b hb=>⟨hI'.fn b hb,(hI'.fl b hb).1,by simp only [(hI'.fl b hb).2];split<;>rfl⟩,fun b j hj=>?_,g2,g3,fun j=>?_,?_⟩
    ·split at hj
     case isFalse=>cases hj
     rename_i hB
     refine⟨hB,?_⟩
     split at hj
     ·rename_i t he;exact(hI'.ol b _ he).1
     ·cases hj
    ·refine sw (fun hk g hg=>?_) (g4 j)
     obtain⟨z,lv,hk⟩:=hk
     obtain⟨e1,t,e2,e3⟩:=hg
     rw [if_pos e1]
     simp only [e3]
     have:=(va c.res rm hokr j t 0 z lv hk e2).1
     simpa using this
    ·rw [hios]
     refine Vs pm args.toList 0 hal (fun j hj hio=>?_)
     rw [aip]
     have hkj:=hpn j hj
     have hbj:nth δ' j ≠ .bad:=by
      refine h2 _ ?_
      rw [hios,wk]
      exact List.mem_map_of_mem (by simpa using JZ pm 0 j hj hio)
     have havj:av a' j=args.toList.getD j undef:=(hV' j (by rw [hkj];exact hio)).trans (hav j hj)
     have hlv:∀lv,lv≠1→∀b,FB F' w.heap.size lv b→FB F' 0 lv b:=fun lv h1 b hb=>by
      match lv,h1 with
      | 0,_=>exact hb
      | _+2,_=>exact hb
     refine⟨hbj,.inr ?_⟩
     rcases FF hpm j hj with ⟨lv,hk,h1⟩ | ⟨z,lv,hk,h1⟩ | ⟨n,lv,hk,h1⟩
     ·rw [hk] at hio;cases hio
     ·have h5:=hI'.own (hkj.trans hk) hbj
      rw [havj] at h5
      rw [hk]
      exact eW (hlv lv h1) (fun _ _=>rfl) (fun _ _ _=>⟨trivial,rfl⟩) h5
     ·have h5:=hI'.box (hkj.trans hk) hbj
      rw [havj] at h5
      rw [hk]
      exact rq (hlv lv h1) (fun _ _=>rfl) (fun _ _ _=>⟨trivial,rfl⟩) h5
  cases e with
  | normal=>exact fin hp
  | exit i =>
   obtain⟨⟨_,_,_,_,h⟩,_⟩:=hp
   cases h
  | ret =>
   refine fin (nL hp fun δ F O _ h=>?_)
   obtain⟨rs',h1,h2,h3⟩:=mI h
   exact Mo h1 h2 h3
  | _=>exact hp.elim
theorem XF (hT:okT P c.T=true) (hS:∀f S,eX c.S f=some S→au c.G P f S) (hm:P.follows .mixedOrders=true) {f:FuncId} {fn:Func} (hf:P.funcs[f]?=some fn) (hname:(fn.name=="runtime.NumGoroutine")=false) {pm rm:List Kd} (hok:aeW c fn pm rm=true) (hres:c.res=fn.results.toList) :
  au c.G P f {pm:=pm,rm:=rm,f:=aS c fn}:=by
 intro ds rs us hd args w F ow hgl ha hF hO o a next Q hn
 have hbody:∃b,fn.body=some b:=by
  have hd':aS c fn ds=some (.ret rs us):=hd
  unfold aS at hd'
  cases hb:fn.body with
  | none=>rw [hb] at hd';cases hd'
  | some b=>exact⟨b,rfl⟩
 obtain⟨b,hb⟩:=hbody
 have hrun:(callFunc f args).run P w = .ok (.enter f args) w:=by
  have h1:¬fn.name="runtime.NumGoroutine":=by simpa using hname
  simp [callFunc,hf,h1,hb]
 rw [hrun,aix]
 refine aiu (adi hT hS hm hf hok hres hd hgl ha hF hO) (fun e w' he=>?_)
 obtain⟨v,rfl,F',R,vs,h1,h2⟩:=he
 exact hn v w' ⟨F',R,vs,h1,h2⟩
end
end Go.V

namespace Go.V
def sl (s:List D) (i:Nat):D:=nth s i
def ifN (b:Bool) (t e:Option Out):Option Out :=
 match b with
 | true=>t
 | false=>e
theorem al {P:Program} {G:List (Nat × (Obj→Prop))}:∀(f:Nat) (S:FS),eX ([]:List (Nat × FS)) f=some S→au G P f S:=by
 intro f S h
 cases h
theorem ab {P:Program} {G:List (Nat × (Obj→Prop))} {g:Nat} {S0:FS} {l:List (Nat × FS)} (h0:au G P g S0) (h:∀(f:Nat) (S:FS),eX l f=some S→au G P f S):∀(f:Nat) (S:FS),eX ((g,S0)::l) f=some S→au G P f S:=by
 intro f S hl
 simp only [eX] at hl
 split at hl
 ·rename_i hb
  have:=ba.1 hb
  subst this
  cases hl
  exact h0
 ·exact h f S hl
theorem aI {P:Program} {G G':List (Nat × (Obj→Prop))} {f:Nat} {S:FS} (h:∀p∈G,p∈G') (hm:au G P f S):au G' P f S :=
 fun ds rs us hd args w F ow hg=>hm ds rs us hd args w F ow fun p hp=>hg p (h p hp)
open Classical in
def aaL (R:Nat→List D→Option Out) (ds:List D):Option Out :=
 if h:∃n,(R n ds).isSome=true then R (ahN h) ds else none
theorem aa0 {R:Nat→List D→Option Out} {ds:List D} {r:Out} (h:aaL R ds=some r):∃n,R n ds=some r:=by
 unfold aaL at h
 split at h
 ·exact⟨_,h⟩
 ·cases h
theorem aeJ {R:Nat→List D→Option Out} {ds:List D} {r:Out} (h:∀n o,R n ds=some o→o=r) (n:Nat) (hn:R n ds=some r):aaL R ds=some r:=by
 unfold aaL
 have hx:∃n,(R n ds).isSome=true:=⟨n,by rw [hn];rfl⟩
 rw [dif_pos hx]
 obtain⟨o,ho⟩:=Option.isSome_iff_exists.1 (ahJ hx)
 rw [ho,h _ _ ho]
theorem Yd {P:Program} {G:List (Nat × (Obj→Prop))} {f:Nat} {S:FS} (h:∀ds,S.f ds=none):au G P f S:=by
 intro ds rs us hd
 rw [h] at hd
 cases hd
theorem abr {P:Program} {G:List (Nat × (Obj→Prop))} {f:Nat} {pm rm:List Kd} {R:Nat→List D→Option Out} (h:∀n,au G P f {pm:=pm,rm:=rm,f:=R n}):au G P f {pm:=pm,rm:=rm,f:=aaL R}:=by
 intro ds rs us hd args w F ow hg ha hF hO o a next Q hq
 obtain⟨n,hn⟩:=aa0 hd
 refine h n ds rs us hn args w F ow hg ha hF hO o a next Q fun v w' hv=>?_
 obtain⟨F',R',vs,h1,h2⟩:=hv
 exact hq v w' ⟨F',R',vs,h1,⟨h2.os,h2.tape,h2.output,h2.size,h2.keep,h2.f0,h2.fn,h2.rn,h2.len,h2.lenD,h2.res,h2.us⟩⟩
end Go.V

namespace Go.V
open Go.RowKit
section
variable {P:Program} {G:List (Nat × (Obj→Prop))}
theorem bT {f:FuncId} {S:FS} (he:∀args w,(callFunc f args).run P w = .ok (.enter f args) w)
  (h:∀ds rs us,S.f ds=some (.ret rs us)→∀(args:Array Value) (w:World) (F:Nat→Prop) (ow:Nat→Option Nat),gOk G w F→fG w F ow 0 S.pm ds args.toList→(∀b,F b→b<w.heap.size∧ow b=none)→(∀b i,ow b=some i→b<w.heap.size) →
   Calls P f args w fun e w'=>∃v,e = .returned v∧∃F' R vs,v=nT vs∧CallPost S args rs us w F ow F' R vs w'):au G P f S:=by
 intro ds rs us hd args w F ow hg ha hF hO o a next Q hn
 rw [he,aix]
 refine aiu (h ds rs us hd args w F ow hg ha hF hO) (fun e w' hv=>?_)
 obtain⟨v,rfl,F',R,vs,h1,h2⟩:=hv
 exact hn v w' ⟨F',R,vs,h1,h2⟩
theorem SV {w:World} {F:Nat→Prop}:∀(ks:List Kd) (ys:List Value),(ks.all fun k=>!ul k)=true→ks.length=ys.length→wB w F ks [] ys
 | [],[],_,_=>trivial
 | k::ks,y::ys,h,hl=>by
  simp only [List.all_cons,ahu,ahE] at h
  simp only [wB,h.1]
  exact SV ks ys h.2 (by simpa using hl)
 | [],_::_,_,hl=>by cases hl
 | _::_,[],_,hl=>by cases hl
theorem Nm {w:World} {F:Nat→Prop} {ow:Nat→Option Nat}:∀(ks:List Kd) (ds:List D) (ys:List Value) (i:Nat),fG w F ow i ks ds ys→ds.length=ks.length∧ys.length=ks.length
 | [],[],[],_,_=>⟨rfl,rfl⟩
 | k::ks,d::ds,y::ys,i,h=>by
  obtain⟨h1,h2⟩:=Nm ks ds ys (i+1) h.2
  exact⟨by simp [h1],by simp [h2]⟩
 | [],_::_,_,_,h=>h.elim
 | [],[],_::_,_,h=>h.elim
 | _::_,[],_,_,h=>by cases ‹List Value›<;>exact h.elim
 | _::_,_::_,[],_,h=>h.elim
theorem mX {w:World} {F:Nat→Prop} {ow:Nat→Option Nat} {k:Kd} {ds:List D} {l:List Value} (h:fG w F ow 0 [k] ds l):∃d y,ds=[d]∧l=[y]∧eD w F (fun g=>ow g=some 0) k d y:=by
 match ds,l,h with
 | [d],[y],h=>exact⟨d,y,rfl,rfl,h.1⟩
 | [],l,h=>cases l<;>exact h.elim
 | d::d'::ds,l,h =>
  match l,h with
  | [],h=>exact h.elim
  | [y],h=>exact h.2.elim
  | y::y'::ys,h=>exact h.2.elim
 | [d],[],h=>exact h.elim
 | [d],y::y'::ys,h=>exact h.2.elim
theorem uD {w:World} {F:Nat→Prop} {ow:Nat→Option Nat} {k k':Kd} {ds:List D} {l:List Value} (h:fG w F ow 0 [k,k'] ds l) :
  ∃d y d' y',ds=[d,d']∧l=[y,y']∧eD w F (fun g=>ow g=some 0) k d y∧eD w F (fun g=>ow g=some 1) k' d' y':=by
 obtain⟨h1,h2⟩:=Nm _ _ _ _ h
 match ds,l,h1,h2,h with
 | [d,d'],[y,y'],_,_,h=>exact⟨d,y,d',y',rfl,rfl,h.1,h.2.1⟩
theorem El {w:World} {F own:Nat→Prop} {lv:Nat} {x y:Value} (h:eD w F own (.dat lv) (.v x) y):y=x∧flat x=true:=by
 rcases h with h | h
 ·cases h
 ·exact cb.1 h
theorem NV {S:FS} {args:Array Value} {rs:List D} {vs:List Value} {w w':World} {F:Nat→Prop} {ow:Nat→Option Nat} (R:Nat→Option Nat) (hB:Below w.heap.size w w') (hF:∀b,F b→b<w.heap.size∧ow b=none)
  (hR:∀b j,R b=some j→w.heap.size≤b∧b<w'.heap.size) (hio:(S.pm.all fun k=>!ul k)=true) (hl:S.pm.length=args.size) (h1:vs.length=S.rm.length) (h2:rs.length=S.rm.length)
  (hres:∀j,Wj w' F w.heap.size (fun g=>R g=some j) (aC S.rm j) (nth rs j) (vs.getD j undef)):CallPost S args rs [] w F ow F R vs w' :=
 ⟨hB.os,hB.tape,hB.output,hB.size,fun b hb _=>hB.block b hb,fun _ h=>h,fun b hb=>⟨.inl hb,ah2 (hF b hb).1 hB.size,by
  cases h:R b with
  | none=>rfl
  | some j=>exact absurd (hR b j h).1 (Nat.not_le.2 (hF b hb).1)⟩,hR,h1,h2,hres,SV _ _ hio (by simpa using hl)⟩
theorem eQ {S:FS} {args:Array Value} {w w':World} {F:Nat→Prop} {ow:Nat→Option Nat} (hB:Below w.heap.size w w') (hF:∀b,F b→b<w.heap.size∧ow b=none) (hio:(S.pm.all fun k=>!ul k)=true) (hl:S.pm.length=args.size)
  (rs:List D) (vs:List Value) (hrm:S.rm=rs.map fun _=>.dat 0) (hv:vs.length=rs.length) (h:∀(j:Nat) (d:D),rs[j]?=some d→∃y:Value,vs[j]?=some y∧bP w' (fun _=>False) d y):CallPost S args rs [] w F ow F (fun _=>none) vs w':=by
 refine NV _ hB hF (fun b j h=>by cases h) hio hl (by rw [hrm,hv];simp) (by rw [hrm];simp) (fun j=>?_)
 rw [iZ,ahx]
 cases hj:rs[j]? with
 | none=>exact .inl rfl
 | some d =>
  obtain⟨y,h1,h2⟩:=h j d hj
  have hk:aC S.rm j = .dat 0:=by
   rw [hrm]
   clear hrm h hv h1 h2
   induction rs generalizing j with
   | nil=>simp at hj
   | cons r rs ih =>
    cases j with
    | zero=>rfl
    | succ j=>exact ih j (by simpa using hj)
  refine .inr ?_
  rw [hk,ahx,h1]
  exact ch (fun b hb=>hb.elim) (fun _ _=>rfl) h2
theorem Pn {w:World} {F:Nat→Prop}:∀(l:List ByteArray),bZ w F (l.map T) (l.map ah5)
 | []=>aV.2 rfl
 | s::l=>aw.2 ⟨[.string s],l.map ah5,rfl,by simp only [RepC];exact⟨trivial,rfl⟩,Pn l⟩
theorem On {w':World} {F own:Nat→Prop} {A c e:Nat} {cur:Array Value} {l:List ByteArray} (hb:w'.heap[A]?=some (.cells cur e (0,0))) (hc:l.length≤c) (hs:c≤cur.size) (hl:∀(i:Nat) (u:Value),(l.map ah5)[i]?=some u→cur[i]?=some u) (ho:own A) :
  lj w' F own 1 (.arr 1 (l.map T)) (.slice (some ⟨A,0,none⟩) l.length c):=by
 refine⟨l.map T,rfl,fun x hx=>?_,.inr ⟨A,0,c,l.map ah5,cur,e,by simp,by simpa using hc,hb,by omega,Pn l,fun i u hu=>by simpa using hl i u hu,ho⟩⟩
 obtain⟨s,_,rfl⟩:=List.mem_map.1 hx
 rfl
end
end Go.V

namespace Go.V
open Go.RowKit Go.Shelf
section
variable {P:Program} {ρ:Ren} {G:List (Nat × (Obj→Prop))}
def Iu (o:Obj):Prop:=∃e fr,o = .cells (aiq.map fun z=>Value.int .u64 z).toArray e fr
def NR (g:Nat) (o:Obj):Prop:=∃m,∀w:World,w.heap[g]?=some o→w.cell? ⟨g,0,none⟩=some (.int .i64 m)
theorem VA {w:World} {F:Nat→Prop} {g:Nat} (hg:gOk G w F) (hm:(g,NR g)∈G):∃m,w.cell? ⟨g,0,none⟩=some (.int .i64 m):=by
 obtain⟨_,o,ho,m,hc⟩:=hg _ hm
 exact⟨m,hc w ho⟩
theorem ac8 {w:World} {g:Nat} {m:Int} (h:w.cell? ⟨g,0,none⟩=some (.int .i64 m)):∃o,w.heap[g]?=some o∧NR g o:=by
 cases ho:w.heap[g]? with
 | none=>simp [World.cell?,ho] at h
 | some o=>exact⟨o,rfl,m,fun w' hw'=>(World.cell?_of_block (w:=w) (hw'.trans ho.symm)).trans h⟩
theorem Zi {w:World} {g:Nat} (hn:P.globalNamed "internal/strconv.uint64pow10"=some g) (h:air P w "internal/strconv.uint64pow10" .u64 aiq):∃o,w.heap[g]?=some o∧Iu o:=by
 simp only [air,aiy,hn,ahA] at h
 split at h
 ·rename_i cs e fr ho
  cases h
  exact⟨_,ho,e,fr,rfl⟩
 ·cases h
theorem aeP {w:World} {F:Nat→Prop} {g:Nat} (hg:gOk G w F) (hm:(g,Iu)∈G) (hn:P.globalNamed "internal/strconv.uint64pow10"=some g):air P w "internal/strconv.uint64pow10" .u64 aiq:=by
 obtain⟨_,o,ho,e,fr,rfl⟩:=hg _ hm
 simp [air,aiy,hn,ho]
theorem SI {args:Array Value} {y y':Value} (h:args.toList=[y,y']):args=#[y,y']:=by
 apply Array.ext'
 rw [h]
theorem FK {args:Array Value} {y:Value} (h:args.toList=[y]):args=#[y]:=by
 apply Array.ext'
 rw [h]
def Kz:List D→Option Out
 | [.v (.int .i64 n)]=>if -9223372036854775808≤n∧n≤9223372036854775807 then some (.ret [T ⟨(Lib.itoa n).toArray⟩] []) else none
 | _=>none
@[reducible] def adk:FS:={pm:=[.dat 0],rm:=[.dat 0],f:=Kz}
theorem af8 (L:Go.Proofs.LaysM.n171 P ρ) {f:Nat} (hf:ρ.f 171=f) {g:Nat} (hm:(g,Iu)∈G) (hn:P.globalNamed "internal/strconv.uint64pow10"=some g):au G P f adk:=by
 subst hf
 have he:∀args w,(callFunc (ρ.f 171) args).run P w = .ok (.enter (ρ.f 171) args) w:=ahI L.f171 (by kernel_rfl) rfl
 refine bT he fun ds rs us hd args w F ow hg ha hF _=>?_
 obtain⟨d,y,rfl,h2,h3⟩:=mX ha
 replace hd:Kz [d]=some (.ret rs us):=hd
 unfold Kz at hd
 split at hd
 case h_2=>cases hd
 rename_i n e
 cases e
 split at hd
 case isFalse=>cases hd
 rename_i hr
 cases hd
 obtain⟨rfl,_⟩:=El h3
 rw [FK h2]
 refine(Go.Proofs.Any.strconv_Itoa L n hr.1 hr.2 w (aeP hg hm hn)).mono ?_
 rintro e w' ⟨rfl,k,os,rfl⟩
 refine⟨_,rfl,F,_,[_],rfl,eQ (below_itoa w k os) hF rfl rfl [_] [_] rfl rfl fun j d hj=>?_⟩
 match j,hj with
 | 0,hj =>
  simp only [ahz,ahv] at hj
  subst hj
  exact⟨_,rfl,cU rfl⟩
where
 below_itoa (w:World) (k:Nat) (os:Array Obj):Below w.heap.size w (ais (w.drewN k) os) :=
  ⟨rfl,rfl,rfl,by simp [ais,World.drewN],fun b hb=>by simp [ais,World.drewN,aib hb]⟩
def FE:List D→Option Out
 | [.v (.string s)]=>if s.size≤281474976710656 then(match Lib.atoiAll s.data.toList with
  | .ok v=>some (.ret [I v,.v .nilIface] [])
  | .range=>some (.ret [I (Lib.atoiSat s.data.toList),.ifc] [])
  | _=>some (.ret [I 0,.ifc] [])) else none
 | _=>none
@[reducible] def adc:FS:={pm:=[.dat 0],rm:=[.dat 0,.dat 0],f:=FE}
def KH (o:Obj):Prop:=∃v cs e fr,o = .cells cs e fr∧cs[0]?=some v∧(v = .nilIface∨∃te pe,v = .iface te pe)
theorem VI {w:World} {g:Nat} {name:String} {tp:TypeId} {p:Value} (hn:P.globalNamed name=some g) (h:w.var? P name=some #[.iface tp p]):∃o,w.heap[g]?=some o∧KH o:=by
 simp only [aiy,hn,ahA] at h
 split at h
 ·rename_i cs e fr ho
  cases h
  exact⟨_,ho,.iface tp p,_,e,fr,rfl,rfl,.inr ⟨tp,p,rfl⟩⟩
 ·cases h
theorem aav {w:World} {F:Nat→Prop} {g:Nat} (hg:gOk G w F) (hm:(g,KH)∈G):∃v,w.cell? ⟨g,0,none⟩=some v∧(v = .nilIface∨∃te pe,v = .iface te pe):=by
 obtain⟨_,o,ho,v,cs,e,fr,rfl,hc,hv⟩:=hg _ hm
 exact⟨v,by simp [World.cell?,ho,hc],hv⟩
theorem ago (L:Go.Proofs.LaysC.n172 P ρ) {f:Nat} (hf:ρ.f 172=f) {g15 g16:Nat} (h15:ρ.g 15=g15) (h16:ρ.g 16=g16) (hs:(g15,KH)∈G) (hr:(g16,KH)∈G):au G P f adc:=by
 subst hf
 have he:∀args w,(callFunc (ρ.f 172) args).run P w = .ok (.enter (ρ.f 172) args) w:=ahI L.f172 (by kernel_rfl) rfl
 refine bT he fun ds rs us hd args w F ow hg ha hF _=>?_
 obtain⟨d,y,rfl,h2,h3⟩:=mX ha
 subst h15 h16
 replace hd:FE [d]=some (.ret rs us):=hd
 unfold FE at hd
 split at hd
 case h_2=>cases hd
 rename_i s e
 cases e
 split at hd
 case isFalse=>cases hd
 rename_i hz
 obtain⟨rfl,_⟩:=El h3
 rw [FK h2]
 split at hd
 ·rename_i v hv
  cases hd
  refine(Go.Proofs.Any.strconv_Atoi_ok L s (by omega) v hv w).mono ?_
  rintro e w' ⟨rfl,hw⟩
  refine⟨_,rfl,F,_,[_,_],rfl,eQ ?_ hF rfl rfl [_,_] [_,_] rfl rfl fun j d hj=>?_⟩
  ·rcases hw with rfl | ⟨t,rfl⟩
   ·exact aik _ _
   ·exact Go.Lib.bytesWorld_below w _ t
  ·match j,hj with
   | 0,hj=>simp only [ahz,ahv] at hj;subst hj;exact⟨_,rfl,cU rfl⟩
   | 1,hj=>simp only [ahD,ahz,ahv] at hj;subst hj;exact⟨_,rfl,cU rfl⟩
 ·rename_i hv
  cases hd
  obtain⟨v,hc,hv'⟩:=aav hg hr
  refine(Go.Proofs.Any.strconv_Atoi_range L s hz hv v w hc hv').mono ?_
  rintro e w' ⟨N,rfl,_,_,hB⟩
  refine⟨_,rfl,F,_,[_,_],rfl,eQ hB hF rfl rfl [_,_] [_,_] rfl rfl fun j d hj=>?_⟩
  match j,hj with
  | 0,hj=>simp only [ahz,ahv] at hj;subst hj;exact⟨_,rfl,cU rfl⟩
  | 1,hj=>simp only [ahD,ahz,ahv] at hj;subst hj;exact⟨_,rfl,_,_,rfl⟩
 ·rename_i h1 h2
  cases hv:Lib.atoiAll s.data.toList with
  | ok v=>exact(h1 v hv).elim
  | range=>exact(h2 hv).elim
  | _ =>
   cases hd
   obtain⟨v,hc,hv'⟩:=aav hg hs
   refine(Go.Proofs.Any.strconv_Atoi_syntax L s hz hv v w hc hv').mono ?_
   rintro e w' ⟨N,rfl,_,_,hB⟩
   refine⟨_,rfl,F,_,[_,_],rfl,eQ hB hF rfl rfl [_,_] [_,_] rfl rfl fun j d hj=>?_⟩
   match j,hj with
   | 0,hj=>simp only [ahz,ahv] at hj;subst hj;exact⟨_,rfl,cU rfl⟩
   | 1,hj=>simp only [ahD,ahz,ahv] at hj;subst hj;exact⟨_,rfl,_,_,rfl⟩
def jX:List D→Option Out
 | [.v (.string s),.v (.string p)]=>if s.size≤9223372036854775807 then some (.ret [B (Lib.hasSuffix s.data.toList p.data.toList)] []) else none
 | _=>none
@[reducible] def KP:FS:={pm:=[.dat 0,.dat 0],rm:=[.dat 0],f:=jX}
theorem Wg (L:Go.Proofs.Lays.n100 P ρ) {f:Nat} (hf:ρ.f 100=f):au G P f KP:=by
 subst hf
 have he:∀args w,(callFunc (ρ.f 100) args).run P w = .ok (.enter (ρ.f 100) args) w:=ahI L.f100 (by kernel_rfl) rfl
 refine bT he fun ds rs us hd args w F ow hg ha hF _=>?_
 obtain⟨d,y,d',y',rfl,h2,h3,h4⟩:=uD ha
 replace hd:jX [d,d']=some (.ret rs us):=hd
 unfold jX at hd
 split at hd
 case h_2=>cases hd
 rename_i s p e
 cases e
 split at hd
 case isFalse=>cases hd
 rename_i hz
 cases hd
 obtain⟨rfl,_⟩:=El h3
 obtain⟨rfl,_⟩:=El h4
 rw [SI h2]
 refine(Go.Proofs.Any.strings_HasSuffix L s p w hz).mono ?_
 rintro e w' ⟨rfl,rfl⟩
 refine⟨_,rfl,F,_,[_],rfl,eQ (aik _ _) hF rfl rfl [_] [_] rfl rfl fun j d hj=>?_⟩
 match j,hj with
 | 0,hj=>simp only [ahz,ahv] at hj;subst hj;exact⟨_,rfl,cU rfl⟩
def jJ:List D→Option Out
 | [.v (.string s),.v (.string p)]=>if s.size≤9223372036854775807 then some (.ret [T ⟨(Lib.trimSuffix s.data.toList p.data.toList).toArray⟩] []) else none
 | _=>none
@[reducible] def HT:FS:={pm:=[.dat 0,.dat 0],rm:=[.dat 0],f:=jJ}
theorem Uo (L:Go.Proofs.Lays.n102 P ρ) {f:Nat} (hf:ρ.f 102=f):au G P f HT:=by
 subst hf
 have he:∀args w,(callFunc (ρ.f 102) args).run P w = .ok (.enter (ρ.f 102) args) w:=ahI L.f102 (by kernel_rfl) rfl
 refine bT he fun ds rs us hd args w F ow hg ha hF _=>?_
 obtain⟨d,y,d',y',rfl,h2,h3,h4⟩:=uD ha
 replace hd:jJ [d,d']=some (.ret rs us):=hd
 unfold jJ at hd
 split at hd
 case h_2=>cases hd
 rename_i s p e
 cases e
 split at hd
 case isFalse=>cases hd
 rename_i hz
 cases hd
 obtain⟨rfl,_⟩:=El h3
 obtain⟨rfl,_⟩:=El h4
 rw [SI h2]
 refine(Go.Proofs.Any.strings_TrimSuffix L s p w hz).mono ?_
 rintro e w' ⟨rfl,rfl⟩
 refine⟨_,rfl,F,_,[_],rfl,eQ (aik _ _) hF rfl rfl [_] [_] rfl rfl fun j d hj=>?_⟩
 match j,hj with
 | 0,hj=>simp only [ahz,ahv] at hj;subst hj;exact⟨_,rfl,cU rfl⟩
def Ty:List D→Option Out
 | [.v (.string s),.v (.string p)]=>if s.size<4294967281 then some (.ret [T ⟨(Lib.cut s.data.toList p.data.toList).1.toArray⟩,T ⟨(Lib.cut s.data.toList p.data.toList).2.1.toArray⟩,B (Lib.cut s.data.toList p.data.toList).2.2] []) else none
 | _=>none
@[reducible] def afy:FS:={pm:=[.dat 0,.dat 0],rm:=[.dat 0,.dat 0,.dat 0],f:=Ty}
theorem XP (w:World) (n:Nat):Below w.heap.size w (w.drewN n):=⟨rfl,rfl,rfl,ahY _,fun _ _=>rfl⟩
theorem agF (L:Go.Proofs.Lays.n145 P ρ) {f:Nat} (hf:ρ.f 145=f) {g1:Nat} (h1:ρ.g 1=g1) (hm:(g1,NR g1)∈G):au G P f afy:=by
 subst hf
 have he:∀args w,(callFunc (ρ.f 145) args).run P w = .ok (.enter (ρ.f 145) args) w:=ahI L.f145 (by kernel_rfl) rfl
 refine bT he fun ds rs us hd args w F ow hg ha hF _=>?_
 obtain⟨d,y,d',y',rfl,h2,h3,h4⟩:=uD ha
 replace hd:Ty [d,d']=some (.ret rs us):=hd
 unfold Ty at hd
 split at hd
 case h_2=>cases hd
 rename_i s p e
 cases e
 split at hd
 case isFalse=>cases hd
 rename_i hz
 cases hd
 obtain⟨rfl,_⟩:=El h3
 obtain⟨rfl,_⟩:=El h4
 rw [SI h2]
 subst h1
 obtain⟨m,hc⟩:=VA hg hm
 refine(Go.Proofs.Any.strings_Cut L s p m w hz hc).mono ?_
 rintro e w' ⟨rfl,n,rfl⟩
 refine⟨_,rfl,F,_,[_,_,_],rfl,eQ (XP _ _) hF rfl rfl [_,_,_] [_,_,_] rfl rfl fun j d hj=>?_⟩
 match j,hj with
 | 0,hj=>simp only [ahz,ahv] at hj;subst hj;exact⟨_,rfl,cU rfl⟩
 | 1,hj=>simp only [ahD,ahz,ahv] at hj;subst hj;exact⟨_,rfl,cU rfl⟩
 | 2,hj=>simp only [ahD,ahz,ahv] at hj;subst hj;exact⟨_,rfl,cU rfl⟩
theorem aaU (w:World) (o:Obj):(w.alloc o).heap[w.heap.size]?=some o:=by simpa using heap_alloc_new w o
theorem Zr (w:World) (o:Obj):(w.alloc o).heap.size=w.heap.size+1:=by simp
def oF (s p:ByteArray):List ByteArray:=Lib.splitB p 0 (ail s p) s
def yu:List D→Option Out
 | [.v (.string s),.v (.string p)]=>if s.size<4294967281∧1≤p.size then some (.ret [.arr 1 ((oF s p).map T)] []) else none
 | _=>none
@[reducible] def aaw:FS:={pm:=[.dat 0,.dat 0],rm:=[.own 1 0 false],f:=yu}
theorem ad1 (L:Go.Proofs.LaysM.n146 P ρ) {f:Nat} (hf:ρ.f 146=f) {g1:Nat} (h1:ρ.g 1=g1) (hm:(g1,NR g1)∈G):au G P f aaw:=by
 subst hf
 have he:∀args w,(callFunc (ρ.f 146) args).run P w = .ok (.enter (ρ.f 146) args) w:=ahI L.f146 (by kernel_rfl) rfl
 refine bT he fun ds rs us hd args w F ow hg ha hF _=>?_
 obtain⟨d,y,d',y',rfl,h2,h3,h4⟩:=uD ha
 replace hd:yu [d,d']=some (.ret rs us):=hd
 unfold yu at hd
 split at hd
 case h_2=>cases hd
 rename_i s p e
 cases e
 split at hd
 case isFalse=>cases hd
 rename_i hz
 cases hd
 obtain⟨rfl,_⟩:=El h3
 obtain⟨rfl,_⟩:=El h4
 rw [SI h2]
 subst h1
 obtain⟨m,hc⟩:=VA hg hm
 refine(Go.Proofs.Any.strings_Split {L with} L.i9 s p m w hz.1 hc hz.2).mono ?_
 rintro e w' ⟨rfl,rfl⟩
 have hlen:(oF s p).length=ail s p+1:=splitOf_length s p hz.2
 refine⟨_,rfl,F,fun b=>if b=w.heap.size then some 0 else none,[_],rfl,NV _ ((aik _ w).alloc (ahY _) _) hF (fun b j hb=>?_) rfl rfl rfl rfl fun j=>?_⟩
 ·split at hb
  ·rename_i e;subst e;exact⟨ahY _,by rw [Zr];exact Nat.lt_succ_self _⟩
  ·cases hb
 ·match j with
  | 0 =>
   refine .inr ?_
   have:=On (w':=w.alloc (.cells ((oF s p).map ah5).toArray (ρ.t 9))) (F:=FB F w.heap.size 0) (own:=fun g=>(if g=w.heap.size then some 0 else none)=some 0∧w.heap.size≤g) (A:=w.heap.size) (c:=ail s p+1) (e:=ρ.t 9)
    (cur:=((oF s p).map ah5).toArray) (l:=oF s p) (aaU _ _) (by omega) (by simp only [List.size_toArray,List.length_map];omega) (fun i u hu=>by rw [List.getElem?_toArray];exact hu) ⟨by simp,ahY _⟩
   rw [hlen] at this
   exact this
  | j+1=>exact .inl rfl
where
 splitOf_length (s p:ByteArray) (hp:1≤p.size):(oF s p).length=ail s p+1:=by
  exact Lib.splitB_all p hp 0 _ s rfl
end
end Go.V

end
