/-
  A part of the proof: contracts and plain forms of functions beneath the statement, made small by a program (names shortened, what is not needed left out).
-/
import Derived.Test.YtkcojipciiakdaaRows
import Derived.Test.YtkcojipciiakdaaM2
import Derived.ProofKit
import Derived.ChangeArms
open Option renaming bind_eq_some_iff → Ji, map_eq_some_iff → Jk, bind_some → Jo, getD_some → Ke, map_some → Kt
open Bool renaming and_eq_true → Jj, false_eq_true → Jq, not_eq_true' → Jx, or_eq_true → JD, not_false → Kw
open Array renaming getD_eq_getD_getElem? → Jl, getElem?_eq_getElem → Jv, replicate → JE, getElem?_toList → JI, getElem?_setIfInBounds → JJ, toArray_toList → JK, getElem?_eq_some_iff → JM
open List renaming getD_eq_getElem?_getD → Jm, getElem?_eq_getElem → Jp, drop_zero → Jr, mem_cons → Jt, all_eq_true → Ju, getD_cons_zero → Jy, snd_lt_of_mem_zipIdx → JA, map_cons → JC, eq_nil_of_length_eq_zero → JF, getElem?_eq_none → JG, drop_eq_getElem_cons → JO, getElem?_eq_some_iff → JP, length_eq_one_iff → JR, length_cons → JS, mem_append_right → JT, nil_append → JU, mem_append → JW, cons_append → Ka, length_take → Kb, getElem?_take_of_lt → Kc, getElem?_cons_zero → Kf, mem_filter → Kg, take_append_drop → Kh, mapM_cons → Ki, filter_congr → Kp, map_toArray → Kq, take_length → Kr
open Option.some renaming injEq → Jn, inj → Ks
open Nat renaming beq → Js, le_trans → JV, le_refl → JY, lt_of_lt_of_le → JZ, zero_add → Kn, ble → Kv
open List.cons renaming injEq → Jw
open Go.Region renaming wanted → Jz, binds → JB, ready → JQ
open Classical renaming choose_spec → JH, choose → JL
open Go.DataW renaming TrodAll → JN
open Go.Value renaming okWide → JX
open Go.Calls renaming mono → Kj
open Go.Builtin renaming min2 → Kk, max2 → Kl
open Go.Oper renaming wp_mono → Km, upon_enter → Ku
open Go.Act renaming put → Ko
set_option maxRecDepth 100000
set_option linter.unusedSimpArgs false
set_option linter.unusedVariables false
noncomputable section
namespace Go.V
open Go.RowKit
section
variable {P:Program} {c:Cx} {B:Nat} {X:Nat→Prop} {w0:World} {F0 F:Nat→Prop} {O:Nat→Option (Nat × Nat)} {a:Act} {w:World} {δ:List D}
theorem gC {w w':World} {F F':Nat→Prop} {own own':Nat→Prop} {n:Nat} {d:D} {y:Value} (hF:∀b,F b→F' b) (hw:∀b,F b→w'.heap[b]?=w.heap[b]?)
  (ho:∀g,V.blk y=some g→own g→own' g∧w'.heap[g]?=w.heap[g]?) (h:tw w F own n d y):tw w' F' own' n d y:=by
 obtain⟨l,us,g,e,a1,rfl,a3,a4,a5,a6,a7⟩:=h;exact⟨l,us,g,e,a1,rfl,(ho g rfl a7).2.trans a3,bm hF hw _ _ a4,a5,a6,(ho g rfl a7).1⟩
theorem tw.blk {F:Nat→Prop} {own:Nat→Prop} {n:Nat} {d:D} {y:Value} (h:tw w F own n d y):∀b,V.blk y=some b→own b∧b<w.heap.size:=by
 intro b hb;obtain⟨l,us,g,e,a1,rfl,a3,a4,a5,a6,a7⟩:=h;simp [V.blk] at hb;subst hb;exact⟨a7,(JM.1 a3).1⟩
def px:List Ag→Nat→Nat→Option Nat
 | [],_,_=>none
 | .io _ q::l,r,i=>if q=r then some i else px l r (i+1)
 | .d _ _::l,r,i=>px l r (i+1)
 | .bor _ _::l,r,i=>px l r (i+1)
theorem nT:∀{l:List Ag} {r i j:Nat},px l r i=some j→r∈dz l
 | .io _ q::l,r,i,j,h=>by
  simp only [px] at h;split at h
  ·rename_i e;subst e;simp [dz]
  ·simp [dz,nT h]
 | .d _ _::l,r,i,j,h=>by simpa [dz] using nT (l:=l) h
 | .bor _ _::l,r,i,j,h=>by simpa [dz] using nT (l:=l) h
theorem oC:∀{l:List Ag} {r j:Nat},tS l j=some r→r∈dz l
 | .io _ q::l,r,0,h=>by simp [tS] at h;simp [dz,h]
 | .io _ q::l,r,j+1,h=>by simp only [dz,Jt];exact .inr (oC (l:=l) h)
 | .d _ _::l,r,0,h=>by simp [tS] at h
 | .bor _ _::l,r,0,h=>by simp [tS] at h
 | .d _ _::l,r,j+1,h=>by simpa [dz] using oC (l:=l) h
 | .bor _ _::l,r,j+1,h=>by simpa [dz] using oC (l:=l) h
theorem oh {a:Nat} {l:List Nat} (h:iN (a::l)=true):a∉l∧iN l=true:=by
 simp only [iN,gq] at h;split at h
 ·cases h
 ·rename_i h1
  exact⟨by simpa using h1,h⟩
theorem ul:∀{l:List Ag} {r i j:Nat},iN (dz l)=true→tS l j=some r→px l r i=some (i+j)
 | .io _ q::l,r,i,0,_,h=>by simp [tS] at h;simp [px,h]
 | .io _ q::l,r,i,j+1,hn,h=>by
  obtain⟨h1,h2⟩:=oh hn;have h3:=oC (l:=l) h;have hne:¬q=r:=fun e=>h1 (by rw [e];exact h3)
  simp only [px];rw [if_neg hne,ul (l:=l) h2 h];congr 1;omega
 | .d _ _::l,r,i,0,_,h=>by simp [tS] at h
 | .bor _ _::l,r,i,0,_,h=>by simp [tS] at h
 | .d _ _::l,r,i,j+1,hn,h=>by simp only [px];rw [ul (l:=l) hn h];congr 1;omega
 | .bor _ _::l,r,i,j+1,hn,h=>by simp only [px];rw [ul (l:=l) hn h];congr 1;omega
def zW (c:Cx) (a:Act) (δ:List D):List Ag→List Kd→List Operand→Prop
 | [],[],[]=>True
 | .io _ r::l,m::pm,x::xs=>(nth δ r ≠ .bad∧a.eval x=av a r∧((∃z lv io,m = .own z lv true∧ao c.K r = .own z lv io∧lv≠1)∨∃n lv io,m = .box n lv true∧ao c.K r = .box n lv io∧lv≠1))∧zW c a δ l pm xs
 | _::l,m::pm,_::xs=>lE m=false∧zW c a δ l pm xs
 | _,_,_=>False
theorem xt {m:Kd} {pm:List Kd} (h:ir (m::pm)=true):ir pm=true∧(∀z lv,m = .own z lv true→lv≠1)∧∀n lv,m = .box n lv true→lv≠1:=by
 cases m with
 | dat lv =>
  simp only [ir] at h;split at h
  case h_2=>cases h
  exact⟨h,fun _ _ e=>(by cases e),fun _ _ e=>(by cases e)⟩
 | own z lv io =>
  cases io
  ·simp [ir] at h
  simp only [ir] at h;split at h
  case h_2=>cases h
  rename_i h1 h2;exact⟨h,fun _ l e=>by cases e;intro e;subst e;simp at h1,fun _ _ e=>(by cases e)⟩
 | box z lv io =>
  cases io
  ·simp [ir] at h
  simp only [ir] at h;split at h
  case h_2=>cases h
  rename_i h1 h2;exact⟨h,fun _ _ e=>(by cases e),fun _ l e=>by cases e;intro e;subst e;simp at h1⟩
 | _=>simp [ir] at h
theorem Dx {K:List Kd} {x:Operand} {m:Kd} {t r:Nat} (h:og K x m=some (.bor t r)):∃lv,m = .dat lv:=by
 cases m with
 | dat lv=>exact⟨lv,rfl⟩
 | own z lv io =>
  exfalso;cases io
  ·simp [og] at h
  ·simp only [og] at h
   repeat (split at h<;>try cases h)
 | box z lv io =>
  exfalso;cases io
  ·simp [og] at h
  ·simp only [og] at h
   repeat (split at h<;>try cases h)
 | _=>simp [og] at h
theorem GK {K:List Kd} {x:Operand} {m:Kd} {t r:Nat} (h:og K x m=some (.io t r)):x = .tmp t∧((∃z lv io,m = .own z lv true∧((t=r∧ao K t = .own z lv io)∨(ao K t = .via r∧ao K r = .own z lv io))) ∨
  ∃n lv io,m = .box n lv true∧((t=r∧ao K t = .box n lv io)∨(ao K t = .ref r∧ao K r = .box n lv io))):=by
 cases m with
 | dat lv =>
  exfalso;simp only [og] at h
  repeat (split at h<;>try cases h)
 | own z lv io =>
  cases io
  ·simp [og] at h
  ·simp only [og] at h
   split at h
   case h_2=>cases h
   split at h
   ·rename_i hk
    split at h
    case h_2=>cases h
    rename_i h1 h2;rw [aQ] at h1 h2;cases h;exact⟨rfl,.inl ⟨_,_,_,rfl,.inl ⟨rfl,by rw [hk,h1,h2]⟩⟩⟩
   ·rename_i hk
    split at h
    case h_2=>cases h
    rename_i hk2;split at h
    case h_2=>cases h
    rename_i h1 h2;rw [aQ] at h1 h2;cases h;exact⟨rfl,.inl ⟨_,_,_,rfl,.inr ⟨hk,by rw [hk2,h1,h2]⟩⟩⟩
   ·cases h
 | box z lv io =>
  cases io
  ·simp [og] at h
  ·simp only [og] at h
   split at h
   case h_2=>cases h
   split at h
   ·rename_i hk
    split at h
    case h_2=>cases h
    rename_i h1 h2;rw [aQ] at h1 h2;cases h;exact⟨rfl,.inr ⟨_,_,_,rfl,.inl ⟨rfl,by rw [hk,h1,h2]⟩⟩⟩
   ·rename_i hk
    split at h
    case h_2=>cases h
    rename_i hk2;split at h
    case h_2=>cases h
    rename_i h1 h2;rw [aQ] at h1 h2;cases h;exact⟨rfl,.inr ⟨_,_,_,rfl,.inr ⟨hk,by rw [hk2,h1,h2]⟩⟩⟩
   ·cases h
 | _=>simp [og] at h
theorem sQ (hI:Inv c B X w0 F0 F O a w δ):∀(xs:List Operand) (pm:List Kd) (ags:List Ag) (ds:List D),gW c.K xs pm=some ags→ir pm=true→co ags (ak δ (dZ ags))=some ds→zW c a δ ags pm xs
 | [],[],ags,ds,h,_,_=>by
  simp only [gW,Jn] at h;subst h;trivial
 | [],_::_,_,_,h,_,_=>by simp [gW] at h
 | _::_,[],_,_,h,_,_=>by simp [gW] at h
 | x::xs,m::pm,ags,ds,h,hpm,hd=>by
  simp only [gW] at h;split at h
  case h_2=>cases h
  rename_i g l hg hl;cases h;obtain⟨hp1,hp2,hp3⟩:=xt hpm;cases g with
  | d y chk =>
   have hnio:lE m=false:=by
    cases m with
    | own z lv io=>cases io<;>first | rfl | (simp only [og] at hg;repeat (split at hg<;>try cases hg))
    | box z lv io=>cases io<;>first | rfl | (simp only [og] at hg;repeat (split at hg<;>try cases hg))
    | _=>rfl
   have hd':∃ds',co l (ak δ (dZ l))=some ds':=by
    cases y with
    | tmp t =>
     simp only [app,ak,co] at hd;split at hd
     ·obtain⟨ds',h1,_⟩:=Jk.1 hd
      exact⟨ds',h1⟩
     ·obtain⟨i,_,hd⟩:=Ji.1 hd
      obtain⟨ds',h1,_⟩:=Jk.1 hd;exact⟨ds',h1⟩
    | const v =>
     simp only [dZ,app,co] at hd;obtain⟨ds',h1,_⟩:=Jk.1 hd;exact⟨ds',h1⟩
    | func v =>
     simp only [dZ,app,co] at hd;obtain⟨ds',h1,_⟩:=Jk.1 hd;exact⟨ds',h1⟩
    | global v=>simp [co] at hd
   obtain⟨ds',hd'⟩:=hd';exact⟨hnio,sQ hI xs pm l ds' hl hp1 hd'⟩
  | bor t r =>
   have hnio:lE m=false:=by
    obtain⟨lv,e⟩:=Dx hg;rw [e];rfl
   have hd':∃ds',co l (ak δ (dZ l))=some ds':=by
    cases htr:Js t r
    ·simp only [dZ,htr,ak,co] at hd
     obtain⟨i,_,hd⟩:=Ji.1 hd;obtain⟨ds',h1,_⟩:=Jk.1 hd;exact⟨ds',h1⟩
    ·simp only [dZ,htr,ak,co] at hd
     obtain⟨ds',h1,_⟩:=Jk.1 hd;exact⟨ds',h1⟩
   obtain⟨ds',hd'⟩:=hd';exact⟨hnio,sQ hI xs pm l ds' hl hp1 hd'⟩
  | io t r =>
   obtain⟨rfl,hk⟩:=GK hg;have main:(nth δ r ≠ .bad∧(t=r∨nth δ t = .ref 0 0))∧∃ds',co l (ak δ (dZ l))=some ds':=by
    cases htr:Js t r
    ·simp only [dZ,htr,ak,co] at hd
     obtain⟨i,hc,hd⟩:=Ji.1 hd;obtain⟨i',hc',hd⟩:=Ji.1 hd;obtain⟨ds',h1,_⟩:=Jk.1 hd;obtain⟨hb,rfl⟩:=bS hc';unfold cQ at hc;split at hc
     case h_2=>cases hc
     rename_i hr0;cases hc;exact⟨⟨hb,.inr hr0⟩,ds',h1⟩
    ·have e:=aQ.1 htr
     subst e;simp only [dZ,htr,ak,co] at hd;obtain⟨i',hc',hd⟩:=Ji.1 hd;obtain⟨ds',h1,_⟩:=Jk.1 hd;exact⟨⟨(bS hc').1,.inl rfl⟩,ds',h1⟩
   obtain⟨⟨hb,hre⟩,ds',hd'⟩:=main;refine⟨⟨hb,?_,?_⟩,sQ hI xs pm l ds' hl hp1 hd'⟩
   ·rcases hre with e | hr0
    ·rw [e];rfl
    ·rcases hk with ⟨z,lv,io,_,h2⟩ | ⟨n,lv,io,_,h2⟩
     ·rcases h2 with ⟨e,_⟩ | ⟨h3,h4⟩
      ·rw [e];rfl
      ·exact(hI.via h3 (by rw [hr0];simp)).1
     ·rcases h2 with ⟨e,_⟩ | ⟨h3,h4⟩
      ·rw [e];rfl
      ·obtain⟨ii,ff,h5,_,h6⟩:=hI.ref h3 (by rw [hr0];simp)
       rw [hr0] at h5;cases h5;rw [h4] at h6;obtain⟨g0,e1,e2⟩:=h6;rw [cI,e1,e2]
   ·rcases hk with ⟨z,lv,io,h1,h2⟩ | ⟨n,lv,io,h1,h2⟩
    ·refine .inl ⟨z,lv,io,h1,?_,hp2 z lv h1⟩
     rcases h2 with ⟨e,h2⟩ | ⟨_,h2⟩
     ·rw [←e];exact h2
     ·exact h2
    ·refine .inr ⟨n,lv,io,h1,?_,hp3 n lv h1⟩
     rcases h2 with ⟨e,h2⟩ | ⟨_,h2⟩
     ·rw [←e];exact h2
     ·exact h2
def Iv (w':World) (F':Nat→Prop) (k:Kd) (u:D) (y:Value):Prop :=
 u ≠ .bad∧match k with
  | .own z lv _=>lv≠1∧bv w' (FB F' 0 lv) (fun _=>True) z u y
  | .box n lv _=>lv≠1∧tw w' (FB F' 0 lv) (fun _=>True) n u y
  | _=>False
theorem th {w':World} {F':Nat→Prop}:∀(ags:List Ag) (pm:List Kd) (xs:List Operand) (us:List D),zW c a δ ags pm xs→lK w' F' pm us (xs.map a.eval) →
  us.length=(dz ags).length∧∀(m r:Nat),(dz ags)[m]?=some r→nth δ r ≠ .bad∧∃u:D,us[m]?=some u∧Iv w' F' (ao c.K r) u (av a r)
 | [],[],[],us,_,hu=>by
  cases us with
  | nil=>simp [dz]
  | cons u us=>simp [lK] at hu
 | .io t r::l,m::pm,x::xs,us,h,hu=>by
  obtain⟨⟨h1,h2,h3⟩,h4⟩:=h;simp only [JC,lK] at hu;have hio:lE m=true:=by rcases h3 with ⟨z,lv,io,rfl,_⟩ | ⟨n,lv,io,rfl,_⟩<;>rfl
  rw [if_pos hio] at hu;cases us with
  | nil=>exact hu.elim
  | cons u us =>
   obtain⟨u1,u2,u3⟩:=hu;obtain⟨g1,g2⟩:=th l pm xs us h4 u3;refine⟨by simp [dz,g1],fun j q hj=>?_⟩
   cases j with
   | zero =>
    simp only [dz,Kf,Jn] at hj;subst hj;refine⟨h1,u,rfl,u1,?_⟩
    rw [h2] at u2;have u2:=u2.resolve_left u1;rcases h3 with ⟨z,lv,io,rfl,hk,hlv⟩ | ⟨n,lv,io,rfl,hk,hlv⟩
    ·rw [hk];exact⟨hlv,u2⟩
    ·rw [hk];exact⟨hlv,u2⟩
   | succ j =>
    simp only [dz,List.getElem?_cons_succ] at hj;exact g2 j q hj
 | .d y chk::l,m::pm,x::xs,us,h,hu=>by
  obtain⟨h1,h2⟩:=h;simp only [JC,lK,h1] at hu;exact th l pm xs us h2 hu
 | .bor y chk::l,m::pm,x::xs,us,h,hu=>by
  obtain⟨h1,h2⟩:=h;simp only [JC,lK,h1] at hu;exact th l pm xs us h2 hu
 | [],[],_::_,_,h,_=>h.elim
 | [],_::_,_,_,h,_=>h.elim
 | .io _ _::_,[],_,_,h,_=>h.elim
 | .io _ _::_,_::_,[],_,h,_=>h.elim
 | .d _ _::_,[],_,_,h,_=>h.elim
 | .d _ _::_,_::_,[],_,h,_=>h.elim
 | .bor _ _::_,[],_,_,h,_=>h.elim
 | .bor _ _::_,_::_,[],_,h,_=>h.elim
theorem BZ (us:List D):∀(ios:List Nat) (j:Nat),j+ios.length≤us.length→qH.go us j ios=(us.drop j).take ios.length
 | [],j,_=>by simp [qH.go]
 | _::l,j,h=>by
  simp only [JS] at h;simp only [qH.go];rw [BZ us l (j+1) (by omega)];have hj:j<us.length:=by omega
  rw [JO hj,JS,List.take_succ_cons,fO,Jm,Jp hj];rfl
theorem mM:∀(ss:List Nat) (ds δ:List D) (m s:Nat),iN ss=true→ss[m]?=some s→s<δ.length→nth (al δ ss ds) s=nth ds m
 | t::ss,[],δ,m,s,hn,hm,hl=>by
  rw [jv _ _ _ (List.mem_of_getElem? hm)]
 | t::ss,d::ds,δ,0,s,hn,hm,hl=>by
  obtain⟨h1,h2⟩:=oh hn;simp at hm;subst hm;simp only [al];rw [aw _ _ _ _ h1,bZ,if_pos hl]
 | t::ss,d::ds,δ,m+1,s,hn,hm,hl=>by
  obtain⟨h1,h2⟩:=oh hn;simp only [al];rw [mM ss ds _ m s h2 (by simpa using hm) (by rw [fR];exact hl)]
theorem CF {d:Nat} {l:List Nat} (h1:lM d l=false) (h2:iN l=true):iN ([d]++l)=true:=by
 simp only [Ka,JU,iN,h1];exact h2
theorem xG:∀{l m:List Nat},vh l m=true→∀x∈l,x∉m
 | a::l,m,h,x,hx=>by
  simp only [vh,gq] at h;split at h
  ·cases h
  ·rename_i h1
   rcases Jt.1 hx with rfl | hx
   ·simpa using h1
   ·exact xG h x hx
theorem FU {K:List Kd} {r:Nat} (h:dX K r):r<K.length:=by
 by_cases hd:r<K.length
 ·exact hd
 ·exfalso
  have:∀(K:List Kd) (r:Nat),¬r<K.length→ao K r = .no:=by
   intro K;induction K with
   | nil=>intro r _;rfl
   | cons k K ih =>
    intro r hr;cases r with
    | zero=>simp at hr
    | succ r=>exact ih r (by simpa using hr)
  rw [dX,this K r hd] at h;exact h
theorem uF {m:Kd} {pm:List Kd} (h:io0 (m::pm)=true):io0 pm=true∧(∀z lv io,m = .own z lv io→lv=0)∧∀n lv io,m = .box n lv io→lv=0:=by
 cases m with
 | own z lv io =>
  simp only [io0] at h;split at h
  case h_2=>cases h
  rename_i h0;exact⟨h,fun _ _ _ e=>by cases e;exact aQ.1 h0,fun _ _ _ e=>(by cases e)⟩
 | box z lv io =>
  simp only [io0] at h;split at h
  case h_2=>cases h
  rename_i h0;exact⟨h,fun _ _ _ e=>(by cases e),fun _ _ _ e=>by cases e;exact aQ.1 h0⟩
 | _=>exact⟨by simpa only [io0] using h,fun _ _ _ e=>(by cases e),fun _ _ _ e=>(by cases e)⟩
theorem yX:∀(ags:List Ag) (pm:List Kd) (xs:List Operand),zW c a δ ags pm xs→io0 pm=true→∀(m r:Nat),(dz ags)[m]?=some r→∀lv,((∃z io,ao c.K r = .own z lv io)∨∃n io,ao c.K r = .box n lv io)→lv=0
 | [],_,_,_,_,m,r,hm,_,_=>by simp [dz] at hm
 | .io t q::l,m::pm,x::xs,h,h0,j,r,hj,lv,hk=>by
  obtain⟨⟨_,_,h3⟩,h4⟩:=h;obtain⟨g1,g2,g3⟩:=uF h0;cases j with
  | zero =>
   simp only [dz,Kf,Jn] at hj;subst hj;rcases h3 with ⟨z,lv',io,rfl,hk',_⟩ | ⟨n,lv',io,rfl,hk',_⟩
   ·have:=g2 z lv' true rfl
    subst this;rw [hk'] at hk;rcases hk with ⟨_,_,e⟩ | ⟨_,_,e⟩<;>cases e;rfl
   ·have:=g3 n lv' true rfl
    subst this;rw [hk'] at hk;rcases hk with ⟨_,_,e⟩ | ⟨_,_,e⟩<;>cases e;rfl
  | succ j=>exact yX l pm xs h4 g1 j r (by simpa [dz] using hj) lv hk
 | .d _ _::l,m::pm,x::xs,h,h0,j,r,hj,lv,hk=>yX l pm xs h.2 (uF h0).1 j r (by simpa [dz] using hj) lv hk
 | .bor _ _::l,m::pm,x::xs,h,h0,j,r,hj,lv,hk=>yX l pm xs h.2 (uF h0).1 j r (by simpa [dz] using hj) lv hk
 | .io _ _::_,[],_,h,_,_,_,_,_,_=>h.elim
 | .io _ _::_,_::_,[],h,_,_,_,_,_,_=>h.elim
 | .d _ _::_,[],_,h,_,_,_,_,_,_=>h.elim
 | .d _ _::_,_::_,[],h,_,_,_,_,_,_=>h.elim
 | .bor _ _::_,[],_,h,_,_,_,_,_,_=>h.elim
 | .bor _ _::_,_::_,[],h,_,_,_,_,_,_=>h.elim
theorem lZ (hI:Inv c B X w0 F0 F O a w δ) {S:FS} {ags:List Ag} {xs:List Operand} {ds rs us:List D} {F':Nat→Prop} {R:Nat→Option Nat} {vs:List Value} {w':World} {v:Value} {dst:Option Nat} {x:List D}
  (hags:gW c.K xs S.pm=some ags) (hpm:ir S.pm=true) (hds:co ags (ak δ (dZ ags))=some ds) (hnd:iN (dz ags)=true)
  (hbor:fg ags=[]∨(oe S.rm=true∧io0 S.pm=true))
  (hpost:CallPost S (xs.map a.eval).toArray rs us w (fun b=>F b∨∃r∈fg ags,O b=some (r,0)) (fun b=>match O b with
   | some (r,0)=>px ags r 0
   | _=>none) F' R vs w')
  (hdx:(dst=none∧x=[])∨∃d y,dst=some d∧x=[y]∧lM d (dz ags)=false) (g:Nat→Option (Nat × Nat)) (hg:∀j p,g j=some p→∀d,dst=some d→p.1=d) (hgn:dst=none→∀j,g j=none)
  (hU:∀(F2:Nat→Prop) (O2:Nat→Option (Nat × Nat)),(∀lv b,(fg ags=[]∨lv≤1)→FB F' w.heap.size lv b→FB F2 B lv b)→(∀b j,R b=some j→O2 b=g j∧B≤b∧(g j=none→F2 b))→∀d y,dst=some d→x=[y]→d<δ.length→qn c.K B F2 O2 (a.put dst v) w' d y) :
  ∃F2 O2,Inv c B X w0 F0 F2 O2 (a.put dst v) w' (al δ (dst.toList++(dz ags++bE c.K dst.toList)) (x++us)):=by
 have hB:=hI.bb;have hioA:=sQ hI xs S.pm ags ds hags hpm hds;obtain⟨hul,hun⟩:=th (c:=c) (a:=a) (δ:=δ) ags S.pm xs us hioA (by simpa using hpost.us);have hkeep:∀b,b<w.heap.size→(∀p,O b=some p→p.1∉dz ags)→w'.heap[b]?=w.heap[b]?:=by
  intro b hb hp;refine hpost.keep b hb ?_
  split
  ·rename_i r he
   cases h:px ags r 0 with
   | none=>rfl
   | some j=>exact absurd (nT h) (hp _ he)
  ·rfl
 have hRn:∀b,b<w.heap.size→R b=none:=fun b hb=>by
  cases h:R b with
  | none=>rfl
  | some j=>have:=(hpost.rn b j h).1;omega
 let F2:Nat→Prop:=fun b=>F b∨(F' b∧w.heap.size≤b)∨∃j,R b=some j∧g j=none
 let O2:Nat→Option (Nat × Nat):=fun b=>match R b with
  | some j=>g j
  | none=>O b
 have hO2n:∀b,R b=none→O2 b=O b:=fun b h=>by simp only [O2,h]
 have hO2s:∀b j,R b=some j→O2 b=g j:=fun b j h=>by simp only [O2,h]
 have hOlt:∀b,w.heap.size≤b→O b=none:=fun b hb=>by
  cases h:O b with
  | none=>rfl
  | some p=>have:=(hI.ol b p h).1;omega
 have hlv:∀lv b,(fg ags=[]∨lv≤1)→FB F' w.heap.size lv b→FB F2 B lv b:=by
  intro lv b hbl hb
  match lv,hbl,hb with
  | 0,_,hb=>exact hb.elim
  | 1,_,hb=>exact⟨.inr (.inl hb),JV hB hb.2⟩
  | n+2,hbl,hb =>
   have he:fg ags=[]:=hbl.resolve_right (by omega);rcases(hpost.fn b hb).1 with h1 | h1
   ·rcases h1 with h1 | ⟨r,hr,_⟩
    ·exact .inl h1
    ·rw [he] at hr;cases hr
   ·exact .inr (.inl ⟨hb,h1⟩)
 have hnd2:iN (dst.toList++dz ags)=true:=by
  rcases hdx with ⟨rfl,_⟩ | ⟨d,y,rfl,_,hm⟩
  ·exact hnd
  ·exact CF hm hnd
 have hlen:(x++us).length=(dst.toList++dz ags).length:=by
  rcases hdx with ⟨rfl,rfl⟩ | ⟨d,y,rfl,rfl,_⟩<;>simp [hul]
 have hlt:∀r,dX c.K r→r<δ.length:=fun r hr=>by
  rw [hI.ld];exact FU hr
 have hgetio:∀(m r:Nat),(dz ags)[m]?=some r→dX c.K r→nth (al δ (dst.toList++dz ags) (x++us)) r=nth us m:=by
  intro m r hm hr;rcases hdx with ⟨rfl,rfl⟩ | ⟨d,y,rfl,rfl,_⟩
  ·exact mM _ _ _ m r hnd (by simpa using hm) (hlt r hr)
  ·have:=mM (δ:=δ) ([d]++dz ags) ([y]++us) (m:=m+1) (s:=r) hnd2 (by simpa using hm) (hlt r hr)
   simpa [nth] using this
 have hrootIo:∀(m r:Nat),(dz ags)[m]?=some r→dX c.K r:=by
  intro m r hm;obtain⟨_,u,_,hn⟩:=hun m r hm;obtain⟨_,hn⟩:=hn;unfold dX;generalize ao c.K r=kk at hn;cases kk<;>first | exact hn.elim | trivial
 refine⟨F2,O2,hI.many hlen (by cases dst<;>simp [Ko]) (by cases dst<;>rfl) (fun s hs=>?_) (fun r hr _ hb=>?_) (fun s hs=>?_) (fun _ hb=>.inl hb) (fun b hb=>?_) (fun b p hp hm=>?_) (fun b hb=>?_) (fun b p hp=>?_) (fun b hb=>?_) hpost.size hpost.os hpost.tape hpost.output (fun b hb hx=>?_)⟩
 ·cases dst with
  | none=>rfl
  | some d=>exact cK fun e=>hs (by simp [e])
 ·obtain⟨m,hm⟩:=List.getElem?_of_mem hr
  obtain⟨_,u,hu,hn⟩:=hun m r hm;rw [hgetio m r hm (hrootIo m r hm),fO,Jm,hu];exact hn.1
 ·rcases JW.1 hs with hs | hs
  ·rcases hdx with ⟨rfl,_⟩ | ⟨d,y,rfl,rfl,_⟩
   ·cases hs
   ·have:s=d:=by simpa using hs
    subst this;by_cases hsl:s<δ.length
    ·have e:=mM (δ:=δ) ([s]++dz ags) ([y]++us) (m:=0) (s:=s) hnd2 rfl hsl
     simp only [Option.toList_some] at e ⊢;rw [e];exact hU F2 O2 hlv (fun b j hj=>⟨hO2s b j hj,JV hB (hpost.rn b j hj).1,fun hn=>.inr (.inr ⟨j,hj,hn⟩)⟩) s y rfl rfl hsl
    ·refine .inl ?_
     have:∀(l:List D) (n:Nat),¬n<l.length→nth l n = .bad:=fun l n h=>by
      rw [fO,Jm,JG (by omega)];rfl
     exact this _ _ (by rw [de];exact hsl)
  ·have hs':=hs
   obtain⟨m,hm⟩:=List.getElem?_of_mem hs;have hr:=hrootIo m s hm;obtain⟨hb,u,hu,hn⟩:=hun m s hm;rw [hgetio m s hm hr,fO,Jm,hu];have hav:av (a.put dst v) s=av a s:=by
    cases dst with
    | none=>rfl
    | some d =>
     refine cK ?_
     rcases hdx with ⟨h,_⟩ | ⟨d',y,h,_,hm'⟩
     ·cases h
     ·cases h
      rintro rfl;rw [gq] at hm';exact(of_decide_eq_false hm') hs'
   refine .inr ?_
   obtain⟨hn1,hn2⟩:=hn;have hbl:∀lv,lv≠1→(fg ags=[]∨lv≤1)→∀b,FB F' 0 lv b→FB F2 B lv b:=by
    intro lv h1 h2 b hb;refine hlv lv b h2 ?_
    match lv,h1 with
    | 0,_=>exact hb
    | n+2,_=>exact hb
   have hlv1:∀lv,(∃z io,ao c.K s = .own z lv io)∨(∃n io,ao c.K s = .box n lv io)→fg ags=[]∨lv≤1:=by
    intro lv hk;rcases hbor with h | ⟨_,h0⟩
    ·exact .inl h
    ·right
     have:=yX ags S.pm xs hioA h0 m s hm lv hk;omega
   generalize hks:ao c.K s=kk at hn2;cases kk with
   | own z lv io =>
    refine .inr ?_
    obtain⟨h1,h2⟩:=hn2;rw [hav];have hown:=(hI.own hks hb).blk;exact cV (hbl lv h1 (hlv1 lv (.inl ⟨z,io,hks⟩))) (fun _ _=>rfl) (fun b hbk _=>⟨⟨(hO2n b (hRn b (hown b hbk).2)).trans (hown b hbk).1.1,(hown b hbk).1.2⟩,rfl⟩) h2
   | box n lv io =>
    refine .inr ?_
    obtain⟨h1,h2⟩:=hn2;rw [hav];have hown:=(hI.box hks hb).blk;exact gC (hbl lv h1 (hlv1 lv (.inr ⟨n,io,hks⟩))) (fun _ _=>rfl) (fun b hbk _=>⟨⟨(hO2n b (hRn b (hown b hbk).2)).trans (hown b hbk).1.1,(hown b hbk).1.2⟩,rfl⟩) h2
   | _=>exact hn2.elim
 ·exact hkeep b (hI.fl b hb).1 fun p hp=>by rw [(hI.fl b hb).2] at hp;cases hp
 ·have hb:=(hI.ol b p hp).1
  exact⟨(hO2n b (hRn b hb)).trans hp,hkeep b hb fun q hq=>by rw [hp] at hq;cases hq;exact fun hm'=>hm (JT _ hm')⟩
 ·rcases hb with hb | hb | ⟨j,hj,hn⟩
  ·obtain⟨h1,h2⟩:=hI.fl b hb
   exact⟨JZ h1 hpost.size,(hO2n b (hRn b h1)).trans h2⟩
  ·obtain⟨_,h1,h2⟩:=hpost.fn b hb.1
   exact⟨h1,(hO2n b h2).trans (hOlt b hb.2)⟩
  ·exact⟨(hpost.rn b j hj).2,(hO2s b j hj).trans hn⟩
 ·cases h:R b with
  | none =>
   rw [hO2n b h] at hp;exact⟨JZ (hI.ol b p hp).1 hpost.size,(hI.ol b p hp).2⟩
  | some j=>exact⟨(hpost.rn b j h).2,.inl (JV hB (hpost.rn b j h).1)⟩
 ·rcases hb with hb | hb | ⟨j,hj,_⟩
  ·exact .inl hb
  ·exact .inr (JV hB hb.2)
  ·exact .inr (JV hB (hpost.rn b j hj).1)
 ·refine hkeep b (JZ hb hB) fun p hp=>?_
  rcases(hI.ol b p hp).2 with h1 | h1
  ·omega
  ·exact absurd h1 hx
theorem AV:∀{ms:List Kd},oe ms=true→∀i lv,(ao ms i = .dat lv∨∃z io,ao ms i = .own z lv io)→lv≤1
 | [],_,i,lv,hk=>by simp [ao] at hk
 | m::ms,h,i,lv,hk=>by
  have:(∀l,m = .dat l→l≤1)∧(∀z l io,m = .own z l io→l≤1)∧oe ms=true:=by
   cases m with
   | dat a =>
    simp only [oe] at h;split at h
    case h_2=>cases h
    rename_i e;exact⟨fun l e'=>by cases e';exact bX.1 e,fun _ _ _ e=>(by cases e),h⟩
   | own z a io =>
    simp only [oe] at h;split at h
    case h_2=>cases h
    rename_i e;exact⟨fun _ e=>(by cases e),fun _ l _ e'=>by cases e';exact bX.1 e,h⟩
   | _=>simp [oe] at h
  obtain⟨h1,h2,h3⟩:=this;cases i with
  | zero =>
   simp only [ao] at hk;rcases hk with hk | ⟨z,io,hk⟩
   ·exact h1 lv hk
   ·exact h2 z lv io hk
  | succ i=>exact AV h3 i lv hk
theorem BF {o:Oper} {q:Call} {f:Nat} (ho:o.op = .call q) (hf:q.callee = .value (.func f)):(execOp a.eval o).run P w=(callFunc f (q.args.map a.eval)).run P w:=by
 simp [execOp,ho,resolve,hf,Deferred.ofValue,Act.eval,invoke]
theorem BH {o:Oper} {q:Call} {t f:Nat} {us:Array Value} (ho:o.op = .call q) (hf:q.callee = .value (.tmp t)) (hv:av a t = .func (.func f) #[] us):(execOp a.eval o).run P w=(callFunc f (q.args.map a.eval++us)).run P w:=by
 have hv':a.eval (.tmp t) = .func (.func f) #[] us:=hv;simp [execOp,ho,resolve,hf,Deferred.ofValue,hv',invoke]
theorem pA {w:World} {F:Nat→Prop} {ow:Nat→Option Nat}:∀(pm pn:List Kd) (ds cs:List D) (ys us:List Value) (i:Nat),dA w F ow i pm ds ys→dA w F ow (i+pm.length) pn cs us→dA w F ow i (pm++pn) (ds++cs) (ys++us)
 | [],pn,[],cs,[],us,i,_,h=>by simpa using h
 | k::pm,pn,d::ds,cs,y::ys,us,i,h1,h2=>⟨h1.1,pA pm pn ds cs ys us (i+1) h1.2 (by rw [show i+1+pm.length=i+(k::pm).length by simp;omega];exact h2)⟩
 | [],_,_::_,_,_,_,_,h,_=>h.elim
 | [],_,[],_,_::_,_,_,h,_=>h.elim
 | _::_,_,[],_,_,_,_,h,_=>h.elim
 | _::_,_,_::_,_,[],_,_,h,_=>h.elim
theorem xU {K:List Kd}:∀(xs:List Operand) (pm:List Kd) (ags:List Ag),gW K xs pm=some ags→pm.length=xs.length
 | [],[],_,_=>rfl
 | x::xs,m::ms,ags,h=>by
  simp only [gW] at h;split at h
  ·rename_i h1 h2
   simp [xU xs ms _ h2]
  ·cases h
 | [],_::_,_,h=>by simp [gW] at h
 | _::_,[],_,h=>by simp [gW] at h
theorem zH {α:Type}:∀(n:Nat) (l:List α),vk n l=l.take n
 | 0,l=>by simp [vk]
 | n+1,[]=>by simp [vk]
 | n+1,_::l=>by simp [vk,zH n l]
theorem Cj {w:World} {F:Nat→Prop} {ow:Nat→Option Nat}:∀(pn:List Kd) (cs:List D) (us:List Value) (i:Nat),jP pn=true→cs.length=pn.length→cs.all D.single=true→bF w F cs us→dA w F ow i pn cs us
 | [],[],us,i,_,_,_,h=>by
  rw [aP] at h;subst h;trivial
 | k::pn,d::cs,us,i,hk,hl,hs,h=>by
  obtain⟨v1,v2,rfl,h1,h2⟩:=aA.1 h;simp only [List.all_cons,Jj] at hs;obtain⟨y,rfl,_⟩:=ju d v1 hs.1 h1;cases k with
  | dat lv =>
   simp only [jP] at hk;split at hk
   case h_2=>cases hk
   rename_i e;rw [aQ] at e;subst e;exact⟨.inr ((gL hs.1).2 h1),Cj pn cs v2 (i+1) hk (by simpa using hl) hs.2 h2⟩
  | _=>simp [jP] at hk
 | [],_::_,_,_,_,hl,_,_=>by simp at hl
 | _::_,[],_,_,_,hl,_,_=>by simp at hl
theorem vb {w:World} {F:Nat→Prop}:∀(pm pn:List Kd) (us:List D) (ys zs:List Value),pm.length=ys.length→jP pn=true→lK w F (pm++pn) us (ys++zs)→lK w F pm us ys
 | [],pn,us,[],zs,_,hn,h=>by
  have:∀(pn:List Kd) (us:List D) (zs:List Value),jP pn=true→lK w F pn us zs→us=[]:=by
   intro pn;induction pn with
   | nil =>
    intro us zs _ h;cases us with
    | nil=>rfl
    | cons u us=>exact h.elim
   | cons k pn ih =>
    intro us zs hk h;cases k with
    | dat lv =>
     cases zs with
     | nil=>cases us<;>exact h.elim
     | cons z zs =>
      simp only [lK,lE,Jq,if_false] at h;simp only [jP] at hk;split at hk
      ·exact ih us zs hk h
      ·cases hk
    | _=>simp [jP] at hk
  have e:=this pn us zs hn (by simpa using h);subst e;trivial
 | k::pm,pn,us,y::ys,zs,hl,hn,h=>by
  simp only [Ka,lK] at h ⊢;split
  ·rename_i hk
   rw [if_pos hk] at h;cases us with
   | nil=>exact h
   | cons u us=>exact⟨h.1,h.2.1,vb pm pn us ys zs (by simpa using hl) hn h.2.2⟩
  ·rename_i hk
   rw [if_neg hk] at h;exact vb pm pn us ys zs (by simpa using hl) hn h
 | [],_,_,_::_,_,hl,_,_=>by simp at hl
 | _::_,_,_,[],_,hl,_,_=>by simp at hl
theorem Dk (hS:∀f S,dj c.S f=some S→aM c.G P f S) {o:Oper} {q:Call} {t f:Nat} {S:FS} (ho:o.op = .call q) (hf:q.callee = .value (.tmp t)) (hlk:dj c.S f=some S) {A:Ac} (hA:zT c o.dst t f S q.args.toList=some A) (hI:Inv c B X w0 F0 F O a w δ)
  {k:List D→Option Out} {r:Out} (hg:dF c A δ k=some r) (Q:Exit→Act→World→Prop):o.wp P a w (Next c B X w0 F0 k r) Q:=by
 have hM:=hS f S hlk;unfold zT at hA;split at hA
 case h_2=>cases hA
 rename_i d lt lr hd hkt hrm;split at hA
 case h_2=>cases hA
 rename_i ags l hags hkd;split at hA
 case h_2=>cases hA
 rename_i hlr hlt hpm hdat hio hbor;cases hA;rw [jQ,zH] at hags hpm;rw [jQ,rQ] at hdat;rw [bX] at hlr hlt;simp only [dF,ak] at hg;obtain⟨caps,hc1,hg⟩:=Ji.1 hg;rw [gp] at hg;obtain⟨ds,h1,hg⟩:=Ji.1 hg;simp only [JU] at hg;unfold aq at hg;split at hg
 case h_2=>cases hg
 rename_i rs us h2;unfold Hc at hc1;split at hc1
 case h_2=>cases hc1
 rename_i g0 l0 hclo;split at hc1
 case isFalse=>cases hc1
 rename_i hcc;cases hc1;obtain⟨rfl,hcl,hcs⟩:=hcc;have hbt:nth δ t ≠ .bad:=fun e=>by rw [e] at hclo;cases hclo
 have hst:=(hI.slot t).resolve_left hbt;rw [hkt] at hst;have hrep:=hst.resolve_left hbt;rw [hclo] at hrep;simp only [aU,RepC] at hrep;obtain⟨uv,hav,hru⟩:=hrep;simp only [Jw,and_true] at hav;have hpmE:S.pm=S.pm.take q.args.toList.length++S.pm.drop q.args.toList.length:=(Kh _ _).symm;have hlenA:=xU _ _ _ hags;have hFB:∀b,FB F B lt b→F b:=dJ;have hargs:=yM (F':=F) (ow:=fun _=>none) hI (fun _ h=>h) q.args.toList _ ags 0 ds hags hpm h1 (fun r hr b hb=>by rw [hbor] at hr;cases hr) (fun j r hj b hb=>by
  have:=oC hj;rw [hio] at this;cases this)
 have hcaps:=Cj (w:=w) (F:=F) (ow:=fun _=>none) (S.pm.drop q.args.toList.length) caps uv (0+(S.pm.take q.args.toList.length).length) hdat (by rw [hcl,jQ,jQ,rQ]) hcs (bm hFB (fun _ _=>rfl) _ _ hru);have hall:=pA _ _ _ _ _ _ 0 hargs hcaps;rw [←hpmE] at hall;have he:=hM (ds++caps) rs us h2 ((q.args.toList.map a.eval).toArray++uv.toArray) w F (fun _=>none) hI.gl (by simpa using hall) (fun b hb=>⟨(hI.fl b hb).1,rfl⟩) (fun b i hb=>by cases hb) o a (Next c B X w0 F0 k r) Q (fun v w' hp=>?_)
 ·unfold Oper.wp
  rw [BH ho hf hav];have:q.args.map a.eval=(q.args.toList.map a.eval).toArray:=by rw [←Kq,JK]
  rw [this];exact he
 ·obtain⟨F',R,vs,hv,hp⟩:=hp
  have hpost:CallPost {pm:=S.pm.take q.args.toList.length,rm:=S.rm,f:=S.f} (q.args.toList.map a.eval).toArray rs us w (fun b=>F b∨∃r∈fg ags,O b=some (r,0)) (fun b=>match O b with
   | some (r,0)=>px ags r 0
   | _=>none) F' R vs w':=by
   refine⟨hp.os,hp.tape,hp.output,hp.size,fun b hb _=>hp.keep b hb rfl,fun b hb=>?_,fun b hb=>⟨?_,(hp.fn b hb).2⟩,hp.rn,hp.len,hp.lenD,hp.res,?_⟩
   ·rcases hb with hb | ⟨r,hr,_⟩
    ·exact hp.f0 b hb
    ·rw [hbor] at hr;cases hr
   ·rcases(hp.fn b hb).1 with h | h
    ·exact .inl (.inl h)
    ·exact .inr h
   ·have hu:=hp.us
    rw [hpmE] at hu;simp only [Array.toList_append] at hu;exact vb _ _ _ _ _ (by simpa using hlenA) hdat hu
  have hvl:=hp.len;rw [hrm] at hvl;obtain⟨y,rfl⟩:=JR.1 hvl;simp only [jB] at hv;subst hv;have hres:=hp.res 0;rw [hrm] at hres;simp only [ao,Jy] at hres;have hsz:d<δ.length→av (a.put (some d) v) d=v:=fun h=>en (by rw [hI.la,←hI.ld];exact h)
  obtain⟨F2,O2,hI'⟩:=lZ (S:={pm:=S.pm.take q.args.toList.length,rm:=S.rm,f:=S.f}) (v:=v) (dst:=some d) (x:=[nth rs 0]) hI hags hpm h1 (by simp [hio,iN]) (.inl hbor) hpost (.inr ⟨d,nth rs 0,rfl,rfl,by simp [hio,lM]⟩) (fun _=>none) (fun _ _ h=>by cases h) (fun _ _=>rfl) (fun F2 O2 h4 h5 d' y' e1 e2 h6=>by
   cases e1;simp only [Jw,and_true] at e2;subst e2;by_cases hb:nth rs 0 = .bad
   ·exact .inl hb
   ·refine .inr ?_
    rw [hkd,hsz h6];exact .inr (aS (fun b hb=>jK hlr _ (h4 lr b (.inl hbor) hb)) (fun _ _=>rfl) (hres.resolve_left hb)))
  have hus:us=[]:=by
   have h3:=(th (c:=c) (a:=a) (δ:=δ) ags _ q.args.toList us (sQ hI _ _ _ _ hags hpm h1) (by simpa using hpost.us)).1;rw [hio] at h3;exact JF h3
  subst hus;refine⟨F2,O2,_,by rw [hd];exact hI',?_⟩
  rw [hio];simpa using hg
theorem BU (hS:∀f S,dj c.S f=some S→aM c.G P f S) {o:Oper} {q:Call} {f:Nat} {S:FS} (ho:o.op = .call q) (hf:q.callee = .value (.func f)) (hlk:dj c.S f=some S) {A:Ac} (hA:qH c o.dst S q.args.toList=some A) (hI:Inv c B X w0 F0 F O a w δ)
  {k:List D→Option Out} {r:Out} (hg:dF c A δ k=some r) (Q:Exit→Act→World→Prop):o.wp P a w (Next c B X w0 F0 k r) Q:=by
 have hM:=hS f S hlk;unfold qH at hA;split at hA
 ·cases hA
 rename_i ags hags;simp only at hA;split at hA
 case h_2=>cases hA
 rename_i hokB hnd hpm;have hbor:fg ags=[]∨(oe S.rm=true∧io0 S.pm=true∧vh (fg ags) (dz ags)=true):=by
  split at hokB
  ·rename_i e;exact .inl e
  ·split at hokB
   ·rename_i h1 h2;exact .inr ⟨h1,h2,hokB⟩
   ·cases hokB
 have hbor':fg ags=[]∨(oe S.rm=true∧io0 S.pm=true):=hbor.imp id fun h=>⟨h.1,h.2.1⟩
 have call:∀(ds rs us:List D),co ags (ak δ (dZ ags))=some ds→S.f ds=some (.ret rs us)→(∀v w' F' R vs,v=jB vs→CallPost S (q.args.toList.map a.eval).toArray rs us w (fun b=>F b∨∃r∈fg ags,O b=some (r,0)) (fun b=>match O b with
   | some (r,0)=>px ags r 0
   | _=>none) F' R vs w'→Next c B X w0 F0 k r (a.put o.dst v) w')→o.wp P a w (Next c B X w0 F0 k r) Q:=by
  intro ds rs us h1 h2 h3;have hargs:=yM (F':=fun b=>F b∨∃r∈fg ags,O b=some (r,0)) (ow:=fun b=>match O b with
   | some (r,0)=>px ags r 0
   | _=>none) hI (fun _ h=>.inl h) q.args.toList S.pm ags 0 ds hags hpm h1 (fun r hr b hb=>.inr ⟨r,hr,hb⟩) (fun j r hj b hb=>by simp only [hb];rw [ul hnd hj])
  have he:=hM ds rs us h2 (q.args.toList.map a.eval).toArray w _ _ (Az (fun _ h=>Or.inl h) (fun _ _=>rfl) hI.gl) (by simpa using hargs) (fun b hb=>?_) (fun b i hb=>?_) o a (Next c B X w0 F0 k r) Q (fun v w' hp=>?_)
  ·unfold Oper.wp
   rw [BF ho hf];have:q.args.map a.eval=(q.args.toList.map a.eval).toArray:=by rw [←Kq,JK]
   rw [this];exact he
  ·rcases hb with hb | ⟨r',hr,hb⟩
   ·obtain⟨g1,g2⟩:=hI.fl b hb
    exact⟨g1,by simp only [g2]⟩
   ·refine⟨(hI.ol b _ hb).1,?_⟩
    simp only [hb];cases h:px ags r' 0 with
    | none=>rfl
    | some j =>
     rcases hbor with h0 | ⟨_,_,h0⟩
     ·rw [h0] at hr;cases hr
     ·exact absurd (nT h) (xG h0 r' hr)
  ·split at hb
   ·rename_i r' hr;exact(hI.ol b _ hr).1
   ·cases hb
  ·obtain⟨F',R,vs,h4,h5⟩:=hp
   exact h3 v w' F' R vs h4 h5
 have asm:∀(K:List D→List D→Option Out),fU [] ags (ak δ (dZ ags)) (fun ds=>aq (S.f ds) K)=some r→∃ds rs us,co ags (ak δ (dZ ags))=some ds∧S.f ds=some (.ret rs us)∧K rs us=some r:=by
  intro K h;rw [gp] at h;obtain⟨ds,h1,h2⟩:=Ji.1 h;simp only [JU] at h2;unfold aq at h2;split at h2
  ·rename_i rs us h3
   exact⟨ds,rs,us,h1,h3,h2⟩
  ·cases h2
 have uslen:∀{ds rs us:List D} {F':Nat→Prop} {R:Nat→Option Nat} {vs:List Value} {w':World} {F1:Nat→Prop} {ow:Nat→Option Nat},co ags (ak δ (dZ ags))=some ds→CallPost S (q.args.toList.map a.eval).toArray rs us w F1 ow F' R vs w'→qH.outs us (dz ags)=us:=by
  intro ds rs us F' R vs w' F1 ow h1 h2;have h3:=(th (c:=c) (a:=a) (δ:=δ) ags S.pm q.args.toList us (sQ hI _ _ _ _ hags hpm h1) (by simpa using h2.us)).1;unfold qH.outs;rw [BZ us _ 0 (by omega),Jr,←h3,Kr]
 have hlv0:∀i lv,(ao S.rm i = .dat lv∨∃z io,ao S.rm i = .own z lv io)→fg ags=[]∨lv≤1:=fun i lv hk=>hbor'.imp id fun h=>AV h.1 i lv hk
 split at hA
 ·rename_i hd
  split at hA
  case h_2=>cases hA
  rename_i hrm;cases hA;obtain⟨ds,rs,us,h1,h2,h3⟩:=asm _ hg;refine call ds rs us h1 h2 (fun v w' F' R vs hv hp=>?_)
  obtain⟨F2,O2,hI'⟩:=lZ (v:=v) (dst:=none) (x:=[]) hI hags hpm h1 hnd hbor' hp (.inl ⟨rfl,rfl⟩) (fun _=>none) (fun _ _ h=>by cases h) (fun _ _=>rfl) (fun _ _ _ _ _ _ h=>by cases h);rw [uslen h1 hp] at h3;exact⟨F2,O2,_,by rw [hd];exact hI',h3⟩
 ·rename_i d hd
  split at hA
  ·rename_i h1' h2' hrm
   cases hA;obtain⟨ds,rs,us,h1,h2,h3⟩:=asm _ hg;refine call ds rs us h1 h2 (fun v w' F' R vs hv hp=>?_)
   obtain⟨F2,O2,hI'⟩:=lZ (v:=v) (dst:=some d) (x:=[.bad]) hI hags hpm h1 hnd hbor' hp (.inr ⟨d,.bad,rfl,rfl,h2'⟩) (fun _=>none) (fun _ _ h=>by cases h) (fun _ _=>rfl) (fun _ _ _ _ d y _ h _=>by
    simp only [Jw,and_true] at h;exact .inl h.symm)
   rw [uslen h1 hp] at h3;exact⟨F2,O2,_,by rw [hd];exact hI',h3⟩
  ·rename_i kd h1' h2' hrm
   cases hA;obtain⟨ds,rs,us,h1,h2,h3⟩:=asm _ hg;refine call ds rs us h1 h2 (fun v w' F' R vs hv hp=>?_)
   have hvl:=hp.len;rw [hrm] at hvl;obtain⟨y,rfl⟩:=JR.1 hvl;simp only [jB] at hv;subst hv;have hres:=hp.res 0;rw [hrm] at hres;simp only [ao,Jy] at hres;rw [hrm] at h1';have hlv:=hlv0 0;rw [hrm] at hlv;simp only [ao] at hlv;have fin:∀(g:Nat→Option (Nat × Nat)),(∀j p,g j=some p→p.1=d)→(∀(F2:Nat→Prop) (O2:Nat→Option (Nat × Nat)),(∀lv b,(fg ags=[]∨lv≤1)→FB F' w.heap.size lv b→FB F2 B lv b)→(∀b j,R b=some j→O2 b=g j∧B≤b∧(g j=none→F2 b))→d<δ.length→qn c.K B F2 O2 (a.put (some d) v) w' d (nth rs 0)) →
     Next c B X w0 F0 k r (a.put o.dst v) w':=by
    intro g hg' hU;obtain⟨F2,O2,hI'⟩:=lZ (v:=v) (dst:=some d) (x:=[nth rs 0]) hI hags hpm h1 hnd hbor' hp (.inr ⟨d,nth rs 0,rfl,rfl,h2'⟩) g (fun j p h d' e=>by cases e;exact hg' j p h) (fun h=>by cases h) (fun F2 O2 h4 h5 d' y' e1 e2 h6=>by
     cases e1;simp only [Jw,and_true] at e2;subst e2;exact hU F2 O2 h4 h5 h6)
    rw [uslen h1 hp] at h3;exact⟨F2,O2,_,by rw [hd];exact hI',h3⟩
   have hsz:d<δ.length→av (a.put (some d) v) d=v:=fun h=>en (by rw [hI.la,←hI.ld];exact h)
   by_cases hb:nth rs 0 = .bad
   ·exact fin (fun _=>none) (fun _ _ h=>by cases h) (fun _ _ _ _ _=>.inl hb)
   have hres:=hres.resolve_left hb;cases kd with
   | dat lv =>
    simp only [AJ] at h1';split at h1'
    case h_2=>cases h1'
    rename_i l hkd;rw [bX] at h1';refine fin (fun _=>none) (fun _ _ h=>by cases h) (fun F2 O2 h4 h5 h6=>.inr ?_)
    rw [hkd,hsz h6];exact .inr (aS (fun b hb=>jK h1' _ (h4 lv b (hlv lv (.inl rfl)) hb)) (fun _ _=>rfl) hres)
   | own z lv io =>
    cases io
    case true =>
     simp only [AJ] at h1';split at h1'
     ·simp [fk] at h1'
     ·cases h1'
    simp only [AJ] at h1';have hlv':=hlv lv (.inr ⟨z,false,rfl⟩);rcases mL h1' with ⟨l,hkd,hle⟩ | ⟨l,hkd,h1l,hle⟩
    ·refine fin (fun _=>some (d,0)) (fun _ _ h=>by cases h;rfl) (fun F2 O2 h4 h5 h6=>.inr ?_)
     rw [hkd,hsz h6];exact .inr (cV (fun b hb=>jK hle _ (h4 lv b hlv' hb)) (fun _ _=>rfl) (fun b _ hb=>⟨⟨(h5 b 0 hb.1).1,fun _=>(h5 b 0 hb.1).2.1⟩,rfl⟩) hres)
    ·refine fin (fun _=>none) (fun _ _ h=>by cases h) (fun F2 O2 h4 h5 h6=>.inr ?_)
     rw [hkd,hsz h6];refine .inr (aS (fun b hb=>?_) (fun _ _=>rfl) (jy hres))
     rcases hb with hb | ⟨hb1,hb2⟩
     ·exact jK hle _ (h4 lv b hlv' hb)
     ·obtain⟨_,g2,g3⟩:=h5 b 0 hb1
      match l,h1l with
      | 1,_=>exact⟨g3 rfl,g2⟩
      | _+2,_=>exact g3 rfl
   | _=>exact hres.elim
  ·rename_i h1' h2' hn0 hn1
   cases hA;obtain⟨ds,rs,us,h1,h2,h3⟩:=asm _ hg;refine call ds rs us h1 h2 (fun v w' F' R vs hv hp=>?_)
   have hvl:=hp.len;have hfit:∃ns,ao c.K d = .tup ns∧fk S.rm ns=true:=by
    unfold AJ at h1';split at h1'
    ·rename_i e;exact absurd e (hn1 _)
    ·rename_i e;exact absurd e (hn1 _)
    ·rename_i e;exact absurd e hn0
    ·split at h1'
     ·exact⟨_,‹_›,h1'⟩
     ·cases h1'
   obtain⟨ns,hkd,hsame⟩:=hfit;have hv2:v = .tuple vs.toArray:=by
    rw [hv];unfold jB;split
    ·rename_i y
     exfalso;have:S.rm.length=1:=by rw [←hvl];rfl
     obtain⟨kk,e⟩:=JR.1 this;exact hn1 _ e
    ·rfl
   obtain⟨F2,O2,hI'⟩:=lZ (v:=v) (dst:=some d) (x:=[.tup rs]) hI hags hpm h1 hnd hbor' hp (.inr ⟨d,.tup rs,rfl,rfl,h2'⟩) (fun j=>some (d,j+1)) (fun j p h d' e=>by cases e;cases h;rfl) (fun h=>by cases h) (fun F2 O2 h4 h5 d' y' e1 e2 h6=>by
    cases e1;simp only [Jw,and_true] at e2;subst e2;refine .inr ?_
    rw [hkd,en (by rw [hI.la,←hI.ld];exact h6),hv2];refine⟨rs,vs.toArray,rfl,rfl,fun i=>?_⟩
    obtain⟨e1,e2⟩:=tb hsame i;rw [e1];have hgd:vs.toArray.getD i undef=vs.getD i undef:=by simp
    rw [hgd];rcases hp.res i with hb | hres
    ·exact .inl hb
    rcases e2 with e2 | ⟨lv,e2⟩ | ⟨z,lv,e2⟩
    ·rw [e2] at hres;exact hres.elim
    ·rw [e2] at hres ⊢
     exact .inr (aS (fun b hb=>h4 lv b (hlv0 i lv (.inl e2)) hb) (fun _ _=>rfl) hres)
    ·rw [e2] at hres ⊢
     exact .inr (cV (fun b hb=>h4 lv b (hlv0 i lv (.inr ⟨z,false,e2⟩)) hb) (fun _ _=>rfl) (fun b _ hb=>⟨⟨(h5 b i hb.1).1,fun _=>(h5 b i hb.1).2.1⟩,rfl⟩) hres))
   rw [uslen h1 hp] at h3;exact⟨F2,O2,_,by rw [hd];exact hI',h3⟩
  ·cases hA
end
end Go.V

namespace Go.V
open Go.RowKit
section
variable {P:Program} {c:Cx}
theorem sc {o:Oper} {q:Call} (ho:o.op = .call q) {bi:Builtin} (hq:q.callee = .builtin bi) (f:D→D→Option D) (g:Value→Value→Sem Value) (hbi:(bi = .min∧f=CG∧g=Kk)∨(bi = .max∧f=Dg∧g=Kl))
  {A:Ac} (hA:bT c o.dst q.args.toList 0 (vj f)=some A) {B:Nat} {X:Nat→Prop} {w0:World} {F0 F:Nat→Prop} {O:Nat→Option (Nat × Nat)} {a:Act} {w:World} {δ:List D} (hI:Inv c B X w0 F0 F O a w δ) {k:List D→Option Out} {r:Out} (hg:dF c A δ k=some r) (Q:Exit→Act→World→Prop):o.wp P a w (Next c B X w0 F0 k r) Q:=by
 rcases hbi with ⟨rfl,rfl,rfl⟩ | ⟨rfl,rfl,rfl⟩
 ·refine tG ho hq rfl (f:=CG) (g:=Kk) (fun w G a b z x y ha hb h=>Gb ha hb h) (fun x rest v he hr=>?_) hA hI hg Q
  simp [builtin,Builtin.min_,he,hr]
 ·refine tG ho hq rfl (f:=Dg) (g:=Kl) (fun w G a b z x y ha hb h=>Gq ha hb h) (fun x rest v he hr=>?_) hA hI hg Q
  simp [builtin,Builtin.max_,he,hr]
theorem Da (hT:okT P c.T=true) (hS:∀f S,dj c.S f=some S→aM c.G P f S) (o:Oper):gZ P c o:=by
 intro A hA B X w0 F0 F O a w δ hI k r hg Q;have hA0:=hA;unfold cC at hA;split at hA
 case h_1 x ho=>exact Al (.inl ho) hA hI hg Q
 case h_2 x ho=>exact Al (.inr ho) hA hI hg Q
 case h_3 q x y ho=>exact BG ho A hA0 B X w0 F0 F O a w δ hI k r hg Q
 case h_4 t ho=>exact zy hT ho A hA0 B X w0 F0 F O a w δ hI k r hg Q
 case h_5 t x ho=>exact CE ho A hA0 B X w0 F0 F O a w δ hI k r hg Q
 case h_6 t ps ho=>exact AP hT ho A hA0 B X w0 F0 F O a w δ hI k r hg Q
 case h_7 t n ps ho=>exact sX hT ho A hA0 B X w0 F0 F O a w δ hI k r hg Q
 case h_8 t p ho=>exact Bf hT ho A hA0 B X w0 F0 F O a w δ hI k r hg Q
 case h_9 t p x ho=>exact zI hT ho A hA0 B X w0 F0 F O a w δ hI k r hg Q
 case h_10 x ho=>exact vK ho A hA0 B X w0 F0 F O a w δ hI k r hg Q
 case h_11 op t x y _ ho=>exact AR hT ho A hA0 B X w0 F0 F O a w δ hI k r hg Q
 case h_12 op t x ho=>exact Bb ho A hA0 B X w0 F0 F O a w δ hI k r hg Q
 case h_13 s t x ho=>exact wz hT ho A hA0 B X w0 F0 F O a w δ hI k r hg Q
 case h_14 f u v ho=>exact uI ho A hA0 B X w0 F0 F O a w δ hI k r hg Q
 case h_15 t n m ho=>exact uc hT ho A hA0 B X w0 F0 F O a w δ hI k r hg Q
 case h_16 t x lo hi ho =>
  have hA1:=aE hA;clear hA;obtain⟨i,hi',hA⟩:=hA1;have main:∀(hsl:i.str=false→jT i=true),AO c o.dst i x lo hi=some A→o.wp P a w (Next c B X w0 F0 k r) Q:=by
   intro hsl hA;have hA2:=hA;unfold AO at hA2;split at hA2
   case h_2=>cases hA2
   rename_i q;split at hA2
   ·rename_i lv hk;exact tV hT ho hi' hsl hk hA hI hg Q
   ·exact ng hT ho hi' hsl hA2 hI hg Q
   ·exact ng hT ho hi' hsl hA2 hI hg Q
   ·cases hA2
  split at hA
  ·rename_i h1 h2;exact main (fun _=>h1) hA
  ·rename_i h1 h2;exact main (fun h=>by rw [h] at h2;cases h2) hA
  ·cases hA
 case h_17 t x f ho=>exact tO hT ho A hA0 B X w0 F0 F O a w δ hI k r hg Q
 case h_18 t x f ho=>exact zV hT ho A hA0 B X w0 F0 F O a w δ hI k r hg Q
 case h_19 t x i ho=>exact tX hT ho A hA0 B X w0 F0 F O a w δ hI k r hg Q
 case h_20 t x i ho=>exact yZ hT ho A hA0 B X w0 F0 F O a w δ hI k r hg Q
 case h_21 x i ho=>exact xp ho A hA0 B X w0 F0 F O a w δ hI k r hg Q
 case h_22 q ho =>
  unfold CI at hA;split at hA
  ·rename_i x t hq h1 h2
   have hA1:=aE hA;clear hA;obtain⟨i,hi,hA⟩:=hA1;have eq:q={callee:=.builtin .len,args:=#[x],argTypes:=#[t]}:=by
    obtain⟨cl,ar,ty⟩:=q;simp only at hq h1 h2;subst hq;congr
    ·rw [←JK (xs:=ar),h1]
    ·rw [←JK (xs:=ty),h2]
   rw [eq] at ho;split at hA
   ·rename_i g1 g2
    exact vd hT ho hi (fun _=>g1) (fun h=>by cases h) hA hI hg Q
   ·rename_i g1 g2
    exact vd hT ho hi (fun h=>by cases h) (fun _=>g2) hA hI hg Q
   ·cases hA
  ·rename_i s x t u hq h1 h2
   split at hA
   case h_2=>cases hA
   rename_i htu;rw [aQ] at htu;subst htu;have hA1:=aE hA;clear hA;obtain⟨i,hi,hA⟩:=hA1;have hA1:=aE hA;clear hA;obtain⟨e,he,hA⟩:=hA1;split at hA
   case h_2=>cases hA
   rename_i hsl;exact yW hT ho hq h1 h2 hi he hsl hA hI hg Q
  ·rename_i hq;exact sc ho hq CG Kk (.inl ⟨rfl,rfl,rfl⟩) hA hI hg Q
  ·rename_i hq;exact sc ho hq Dg Kl (.inr ⟨rfl,rfl,rfl⟩) hA hI hg Q
  ·rename_i f hq
   split at hA
   case h_2=>cases hA
   rename_i S hlk;exact BU hS ho hq hlk hA hI hg Q
  ·rename_i t hq
   split at hA
   case h_2=>cases hA
   rename_i f hC;split at hA
   case h_2=>cases hA
   rename_i S hlk;exact Dk hS ho hq hlk hA hI hg Q
  ·cases hA
 case h_23=>cases hA
def Nt (n:Nat) (f:(List D→Option Out)→Option Out):Prop:=∃o:Option (List D),(∀k,f k=o.bind k)∧∀l,o=some l→l.length=n
def jl:Ac→Prop
 | .one _ _ _=>True
 | .many _ hw cw fn=>∀is,Nt (hw++cw).length (fn is)
theorem fZ {n:Nat} {l:List D} (h:l.length=n):Nt n (fun k=>k l):=⟨some l,fun _=>rfl,fun l' e=>by cases e;exact h⟩
theorem kU {n:Nat}:Nt n (fun _=>none):=⟨none,fun _=>rfl,fun _ e=>by cases e⟩
theorem eU {n:Nat} {X:Option D} {f:D→(List D→Option Out)→Option Out} (h:∀y,Nt n (f y)):Nt n (fun k=>X.bind fun y=>f y k):=by
 cases X with
 | none=>exact kU
 | some y=>exact h y
theorem EO {n:Nat} {X:Option (List D)} {f:List D→(List D→Option Out)→Option Out} (h:∀y,Nt n (f y)):Nt n (fun k=>X.bind fun y=>f y k):=by
 cases X with
 | none=>exact kU
 | some y=>exact h y
theorem oG {n:Nat} {is:List D} {i:Nat} {f:D→(List D→Option Out)→Option Out} (h:∀y,Nt n (f y)):Nt n (fun k=>fr is i fun y=>f y k):=by
 simp only [dT];exact h _
theorem DF {n q r:Nat} {is:List D} {f:D→D→List D→(List D→Option Out)→Option Out} (h:∀b p is,Nt n (f b p is)):Nt n (fun k=>goP q r is fun b p is=>f b p is k):=by
 unfold goP;cases Js q r
 ·rcases is with _ | ⟨p,_ | ⟨b,is⟩⟩
  ·exact kU
  ·exact kU
  ·exact h _ _ _
 ·cases is with
  | nil=>exact kU
  | cons b is=>exact h _ _ _
theorem DZ {n m:Nat} {chk:Bool} {b p y:D} {f:D→(List D→Option Out)→Option Out} (h:∀y,Nt n (f y)):Nt n (fun k=>stK chk m b p y fun b=>f b k):=by
 unfold stK;cases chk
 ·exact eU h
 ·exact eU fun _=>eU h
theorem yu {n:Nat} {rd:List Nat} {is:List D} {f:D→(List D→Option Out)→Option Out} (h:∀y,Nt n (f y)):Nt n (fun k=>il rd is fun y=>f y k):=by
 unfold il;rcases rd with _ | ⟨a,_ | ⟨b,rd⟩⟩
 ·exact h _
 ·exact oG h
 ·exact oG fun p=>oG fun x=>eU h
theorem EI {n:Nat} {ags:List Ag} {is:List D} {f:List D→(List D→Option Out)→Option Out} (h:∀y,Nt n (f y)):Nt n (fun k=>fU [] ags is fun y=>f y k):=by
 simp only [gp,JU];cases co ags is with
 | none=>exact kU
 | some y=>exact h y
theorem Cp {n:Nat} {r:Option Out} {f:List D→List D→(List D→Option Out)→Option Out} (h:∀y z,Nt n (f y z)):Nt n (fun k=>aq r fun y z=>f y z k):=by
 unfold aq;split
 ·exact h _ _
 ·exact kU
theorem bJ {dst:Option Nat} {xs:List Operand} {lv:Nat} {h:List D→Option D} {A:Ac} (hA:bT c dst xs lv h=some A):jl A:=by
 unfold bT at hA
 repeat' (split at hA)
 all_goals first | (cases hA;done) | (cases hA;trivial)
theorem CJ {rd:List Nat} {d lv l:Nat} {h:List D→Option D} {A:Ac} (hA:Gy (fun h=>Ac.one rd d h) (xR lv l h)=some A):jl A:=by
 unfold xR at hA
 repeat' (split at hA)
 all_goals first | (cases hA;done) | (cases hA;trivial)
theorem zQ {dst:Option Nat} {x:Operand} {t:Nat} {A:Ac} (hA:zB c dst x t=some A):jl A:=by
 unfold zB at hA
 repeat' (split at hA)
 all_goals first
  | (cases hA;done)
  | exact bJ hA
  | (cases hA;trivial)
  | (cases hA;exact fun is=>oG fun x=>fZ rfl)
  | (cases hA;exact fun is=>oG fun p=>oG fun x=>eU fun y=>fZ rfl)
  | (cases hA;exact fun is=>fZ rfl)
  | (obtain⟨i,_,hA⟩:=aE hA;exact bJ hA)
theorem Fi {dst:Option Nat} {i:TI} {p:Operand} {A:Ac} (hA:Gf c dst i p=some A):jl A:=by
 unfold Gf at hA
 repeat' (split at hA)
 all_goals first | (cases hA;done) | exact bJ hA | exact CJ hA
theorem DK {i:TI} {p x:Operand} {A:Ac} (hA:Ej c i p x=some A):jl A:=by
 have main:∀q r lv,zZ c i q r lv x=some A→jl A:=by
  intro q r lv hA;unfold zZ at hA
  repeat' (split at hA)
  all_goals first
   | (cases hA;done)
   | (cases hA;exact fun is=>DF fun b p is=>oG fun y=>DZ fun b=>fZ rfl)
   | (cases hA;exact fun is=>DF fun b p is=>DZ fun b=>fZ rfl)
 unfold Ej at hA
 repeat' (split at hA)
 all_goals first | (cases hA;done) | exact main _ _ _ hA
theorem Ep {dst:Option Nat} {i:TI} {f:Nat} {p:Operand} {A:Ac} (hA:Gr c dst i f p=some A):jl A:=by
 unfold Gr at hA
 repeat' (split at hA)
 all_goals first | (cases hA;done) | exact bJ hA | (cases hA;trivial)
theorem Dz {dst:Option Nat} {i:TI} {x y:Operand} {A:Ac} (hA:GQ c dst i x y=some A):jl A:=by
 unfold GQ at hA
 repeat' (split at hA)
 all_goals first | (cases hA;done) | exact bJ hA | (cases hA;trivial)
theorem Fl {dst:Option Nat} {i:TI} {n:Nat} {ps:List (Nat × Operand)} {A:Ac} (hA:FZ c dst i n ps=some A):jl A:=by
 unfold FZ at hA;simp only at hA
 repeat' (split at hA)
 all_goals first | (cases hA;done) | (cases hA;exact fun is=>eU fun y=>fZ rfl)
theorem Fo {n:Nat} {chk:Bool} {b:D} {f:D→(List D→Option Out)→Option Out} (h:∀y,Nt n (f y)):Nt n (fun k=>BS chk b fun b=>f b k):=by
 cases chk
 ·exact h b
 ·exact eU h
theorem EW {dst:Option Nat} {i:TI} {x y:Operand} {A:Ac} (hA:Fk c dst i x y=some A):jl A:=by
 have main:∀d chk rs rx os,Ds c d i chk rs rx os=some A→jl A:=by
  intro d chk rs rx os hA;unfold Ds at hA
  repeat' (split at hA)
  all_goals first
   | (cases hA;done)
   | (cases hA;exact fun is=>yu fun a=>yu fun b=>Fo fun b=>eU fun y=>fZ rfl)
   | (cases hA;exact fun is=>yu fun b=>Fo fun b=>eU fun y=>fZ rfl)
 unfold Fk at hA
 repeat' (split at hA)
 all_goals first
  | (cases hA;done)
  | exact main _ _ _ _ _ hA
theorem ED {dst:Option Nat} {str:Bool} {x:Operand} {A:Ac} (hA:CU c dst str x=some A):jl A:=by
 unfold CU at hA
 repeat' (split at hA)
 all_goals first | (cases hA;done) | exact bJ hA | (cases hA;trivial)
theorem EG {dst:Option Nat} {i:TI} {x:Operand} {lo hi:Option Operand} {A:Ac} (hA:AO c dst i x lo hi=some A):jl A:=by
 have own:xE c dst i x lo hi=some A→jl A:=by
  intro hA;unfold xE at hA
  repeat' (split at hA)
  all_goals first | (cases hA;done) | (cases hA;exact fun is=>yu fun a=>eU fun y=>fZ rfl)
 unfold AO at hA
 repeat' (split at hA)
 all_goals first | (cases hA;done) | exact bJ hA | exact own hA
theorem Ff {dst:Option Nat} {i e:TI} {x y:Operand} {A:Ac} (hA:Gu c dst i e x y=some A):jl A:=by
 unfold Gu at hA
 repeat' (split at hA)
 all_goals first | (cases hA;done) | (cases hA;exact fun is=>eU fun y=>fZ rfl)
theorem Fy {dst:Option Nat} {i:TI} {x:Operand} {A:Ac} (hA:GI c dst i x=some A):jl A:=by
 unfold GI at hA
 repeat' (split at hA)
 all_goals first | (cases hA;done) | (cases hA;exact fun is=>eU fun y=>fZ rfl) | (cases hA;exact fun is=>eU fun y=>eU fun y=>fZ rfl)
theorem Dq {dst:Option Nat} {t f:Nat} {S:FS} {xs:List Operand} {A:Ac} (hA:zT c dst t f S xs=some A):jl A:=by
  unfold zT at hA
  repeat' (split at hA)
  all_goals first
    | (cases hA;done)
    | (cases hA;exact fun is=>by
        cases is with
        | nil=>exact kU
        | cons cl is=>exact EO fun caps=>EI fun ds=>Cp fun rs us=>fZ rfl)
theorem DU {dst:Option Nat} {i:TI} {A:Ac} (hA:Ge c dst i=some A):jl A:=by
 unfold Ge at hA
 repeat' (split at hA)
 all_goals first | (cases hA;done) | (cases hA;exact fun is=>fZ rfl)
theorem DY {dst:Option Nat} {x:Operand} {i:Nat} {A:Ac} (hA:GS c dst x i=some A):jl A:=by
 unfold GS at hA
 repeat' (split at hA)
 all_goals first | (cases hA;done) | (cases hA;trivial) | (cases hA;exact fun is=>oG fun t=>eU fun y=>fZ rfl)
theorem Ah (us:List D):∀(ios:List Nat) (j:Nat),(qH.go us j ios).length=ios.length
 | [],_=>rfl
 | _::l,j=>by simp [qH.go,Ah us l]
theorem Es {dst:Option Nat} {S:FS} {xs:List Operand} {A:Ac} (hA:qH c dst S xs=some A):jl A:=by
 unfold qH at hA;split at hA
 ·cases hA
 simp only at hA;split at hA
 case h_2=>cases hA
 repeat' (split at hA)
 all_goals first
  | (cases hA;done)
  | (cases hA;exact fun is=>EI fun ds=>Cp fun rs us=>fZ (by simp [qH.outs,Ah]))
theorem DB {dst:Option Nat} {i j:TI} {x:Operand} {A:Ac} (hA:Gv c dst i j x=some A):jl A:=by
 unfold Gv at hA
 repeat' (split at hA)
 all_goals first | (cases hA;done) | exact bJ hA | (cases hA;trivial)
theorem Dw {dst:Option Nat} {i:TI} {x y:Operand} {A:Ac} (hA:FW c dst i x y=some A):jl A:=by
 unfold FW at hA
 repeat' (split at hA)
 all_goals first | (cases hA;done) | exact bJ hA | (obtain⟨i,_,hA⟩:=aE hA;exact bJ hA)
theorem ES {dst:Option Nat} {i:TI} {ps:List (Nat × Operand)} {A:Ac} (hA:Gt c dst i ps=some A):jl A:=by
 unfold Gt at hA;simp only at hA
 repeat' (split at hA)
 all_goals first | (cases hA;done) | exact bJ hA
theorem Eo {dst:Option Nat} {x:Operand} {A:Ac} (hA:Gl c dst x=some A):jl A:=by
 unfold Gl at hA
 repeat' (split at hA)
 all_goals first | (cases hA;done) | exact bJ hA | (cases hA;trivial)
theorem Fb {dst:Option Nat} {q:Call} {A:Ac} (hA:CI c dst q=some A):jl A:=by
 unfold CI at hA;split at hA
 ·obtain⟨i,_,hA⟩:=aE hA
  split at hA<;>first | exact ED hA | cases hA
 ·split at hA
  ·obtain⟨i,_,hA⟩:=aE hA
   obtain⟨e,_,hA⟩:=aE hA;split at hA<;>first | exact EW hA | cases hA
  ·cases hA
 ·exact bJ hA
 ·exact bJ hA
 ·split at hA<;>first | exact Es hA | cases hA
 ·repeat' (split at hA)
  all_goals first | exact Dq hA | cases hA
 ·cases hA
theorem xP {o:Oper} {A:Ac} (hA:cC c o=some A):jl A:=by
 unfold cC at hA;split at hA
 case h_1=>exact zQ hA
 case h_2=>exact zQ hA
 case h_3=>exact bJ hA
 case h_4=>obtain⟨i,_,hA⟩:=aE hA;exact DU hA
 case h_5=>obtain⟨i,_,hA⟩:=aE hA;exact Fy hA
 case h_6=>obtain⟨i,_,hA⟩:=aE hA;exact ES hA
 case h_7 =>
  obtain⟨i,_,hA⟩:=aE hA;obtain⟨e,_,hA⟩:=aE hA;split at hA<;>first | exact Fl hA | cases hA
 case h_8=>obtain⟨i,_,hA⟩:=aE hA;exact Fi hA
 case h_9 =>
  split at hA
  ·obtain⟨i,_,hA⟩:=aE hA;exact DK hA
  ·cases hA
 case h_10=>exact Eo hA
 case h_11 =>
  obtain⟨i,_,hA⟩:=aE hA;split at hA
  ·exact bJ hA
  ·split at hA<;>exact bJ hA
 case h_12=>exact bJ hA
 case h_13 =>
  obtain⟨i,_,hA⟩:=aE hA;obtain⟨e,_,hA⟩:=aE hA;exact DB hA
 case h_14=>split at hA<;>first | exact bJ hA | cases hA
 case h_15 =>
  obtain⟨i,_,hA⟩:=aE hA;obtain⟨e,_,hA⟩:=aE hA;split at hA<;>first | exact Ff hA | cases hA
 case h_16 =>
  obtain⟨i,_,hA⟩:=aE hA;split at hA<;>first | exact EG hA | cases hA
 case h_17=>obtain⟨i,_,hA⟩:=aE hA;exact Ep hA
 case h_18 =>
  obtain⟨i,_,hA⟩:=aE hA;split at hA<;>first | exact bJ hA | cases hA
 case h_19=>obtain⟨i,_,hA⟩:=aE hA;exact Dz hA
 case h_20=>obtain⟨i,_,hA⟩:=aE hA;exact Dw hA
 case h_21=>exact DY hA
 case h_22=>exact Fb hA
 case h_23=>cases hA
end
end Go.V

namespace Go.V
open Go.RowKit
def Bs:Kd→Bool
 | .via _=>false
 | .ref _=>false
 | _=>true
def Df (c:Cx) (ops:List Oper) (o:Oper):Bool :=
 (match o.dst with
  | some d=>!lE (ao c.K d)
  | none=>true) &&
 (match o.guard with
  | none=>true
  | some (j,_)=>(match vP ops j with
    | some g=>(match ao c.K g with
     | .dat _=>true
     | _=>false)
    | none=>false) &&
   (match cC c o with
    | some (.one _ d _)=>(match o.dst with
     | some d'=>Js d' d
     | none=>false)
    | some (.many _ hw cw _)=>(hw++cw).all (fun s=>Bs (ao c.K s))&&(match o.dst with
     | some d=>lM d hw
     | none=>true)
    | none=>true))
def IoV (c:Cx) (V:Nat→Value) (a:Act):Prop:=∀s,lE (ao c.K s)=true→av a s=V s
theorem DR {P:Program} {o:Oper} {a:Act} {next:Act→World→Prop} {Q:Exit→Act→World→Prop}:∀{res:Result Go.Next},o.upon P a next Q res→o.upon P a (fun a' w'=>next a' w'∧∀s,o.dst≠some s→av a' s=av a s) Q res:=by
 have key:∀(df:List Deferred) (v:Value) (s:Nat),o.dst≠some s→av (({a with defers:=df}:Act).put o.dst v) s=av a s:=by
  intro df v s hs;cases hd:o.dst with
  | none=>rfl
  | some d =>
   have:s≠d:=fun e=>hs (by rw [hd,e])
   exact(cK this).trans rfl
 have key0:∀(v:Value) (s:Nat),o.dst≠some s→av (a.put o.dst v) s=av a s:=fun v s hs=>key a.defers v s hs
 intro res h;cases res with
 | ok n w' =>
  cases n<;>simp only [Oper.upon] at h ⊢ <;>
   first
    | exact⟨h,key0 _⟩
    | exact⟨h,key _ _⟩
    | exact Kj h (fun e w'' he=>by cases e<;>first | exact⟨he,key0 _⟩ | exact he)
    | exact Rows.mono h (fun _ _ he=>⟨he,key0 _⟩)
 | halt x w'=>cases x<;>simp only [Oper.upon] at h ⊢<;>exact h
section
variable {P:Program} {c:Cx} {B:Nat} {X:Nat→Prop} {w0:World} {F0 F:Nat→Prop} {O:Nat→Option (Nat × Nat)} {a:Act} {w:World} {δ:List D}
theorem mx:∀(ss:List Nat) (l:List D) (j:Nat),j+ss.length=l.length→fit l j ss=l.drop j
 | [],l,j,h=>by simp [fit,List.drop_eq_nil_of_le (show l.length≤j by simp at h;omega)]
 | s::ss,l,j,h=>by
  simp only [JS] at h;have hj:j<l.length:=by omega
  simp only [fit];rw [mx ss l (j+1) (by omega),JO hj,fO,Jm,Jp hj];rfl
def tt (K:List Kd) (dst:Option Nat) (δ:List D) (s:Nat):D :=
 match dst with
 | some d=>if lM s (d::eB d K 0) then sn (ao K s) else nth δ s
 | none=>nth δ s
theorem rc (K:List Kd) (dst:Option Nat) (δ:List D):∀(ss:List Nat) (k:List D→Option Out),AK K δ dst ss k=k (ss.map (tt K dst δ))
 | [],k=>by simp [AK]
 | s::ss,k=>by
  cases dst with
  | none=>simp only [AK,tt,dT,JC];exact rc K none δ ss _
  | some d =>
   simp only [AK,JC];cases h:lM s (d::eB d K 0)
   ·simp only [dT]
    rw [rc K (some d) δ ss];simp only [tt,h,Jq,if_false]
   ·simp only
    rw [rc K (some d) δ ss];simp only [tt,h,if_true]
theorem lf (f:Nat→D):∀(ss:List Nat) (δ:List D) (s:Nat),nth (al δ ss (ss.map f)) s=if s∈ss then(if s<δ.length then f s else .bad) else nth δ s
 | [],δ,s=>by simp [al]
 | t::ss,δ,s=>by
  simp only [JC,al];rw [lf f ss (fd δ t (f t)) s,fR];by_cases hs:s∈ss
  ·simp [hs]
  ·by_cases ht:s=t
   ·subst ht
    simp only [hs,if_false,Jt,true_or,if_true];exact bZ _ _ _
   ·simp only [hs,if_false,Jt,ht,or_self]
    exact dr _ _ _ _ ht
theorem Bu {δ:List D} {s:Nat} (h:nth δ s ≠ .bad):s<δ.length:=by
 by_cases hl:s<δ.length
 ·exact hl
 ·exfalso
  rw [fO,Jm,JG (by omega)] at h;exact h rfl
theorem Gx {s:Nat} (hs:s<a.tmps.size):qn c.K B F O (a.put (some s) undef) w s (sn (ao c.K s)):=by
 have hav:av (a.put (some s) undef) s=undef:=by
  simp [av,Ko,hs]
 unfold sn;split
 ·rename_i lv hk
  refine .inr ?_
  simp only [hk];refine .inr ?_
  rw [hav];exact⟨rfl,rfl⟩
 ·exact .inl rfl
theorem Inv.pass_over (h:Inv c B X w0 F0 F O a w δ) {dst:Option Nat} {hw cw:List Nat} (hk:∀s∈hw++cw,Bs (ao c.K s)=true) (hd:∀d,dst=some d→d∈hw) :
  Inv c B X w0 F0 F O (a.put dst undef) w (al δ (hw++(cw++bE c.K hw)) ((hw++cw).map (tt c.K dst δ))):=by
 have hav:∀s,dst≠some s→av (a.put dst undef) s=av a s:=by
  intro s hs;cases dst with
  | none=>rfl
  | some d=>exact cK fun e=>hs (by rw [e])
 have hnd:∀s,Bs (ao c.K s)=true→∀d,s∉eB d c.K 0:=fun s hs d hm=>by
  rcases oT hm with e | e<;>rw [e] at hs<;>cases hs
 refine h.many (by simp) (by cases dst<;>simp [Ko]) (by cases dst<;>rfl) (fun s hs=>hav s fun e=>hs (hd s e)) (fun r hr hn hb=>?_) (fun s hs=>?_) (fun _ hb=>hb) (fun _ _=>rfl) (fun _ _ hp _=>⟨hp,rfl⟩) h.fl h.ol (fun _ hb=>.inl hb) (JY _) rfl rfl rfl (fun _ _ _=>rfl)
 ·rw [lf,if_pos (JT _ hr),if_pos (Bu hb)]
  unfold tt;split
  ·rename_i d
   rw [if_neg]
   ·exact hb
   ·rw [gq]
    simp only [decide_eq_true_eq,Jt,not_or];exact⟨fun e=>hn (e ▸ hd d rfl),hnd r (hk r (JT _ hr)) d⟩
  ·exact hb
 ·rw [lf,if_pos hs]
  split
  case isFalse=>exact .inl rfl
  rename_i hsl;have keep:dst≠some s→qn c.K B F O (a.put dst undef) w s (nth δ s):=by
   intro hne;rcases h.slot s with hb | hb
   ·exact .inl hb
   ·refine .inr ?_
    have hks:=hk s hs;rw [hav s hne];generalize ao c.K s=kk at hks hb;cases kk<;>first | exact hb | cases hks
  unfold tt;split
  ·rename_i d
   split
   ·rename_i hm
    rw [gq] at hm;simp only [decide_eq_true_eq,Jt] at hm;rcases hm with rfl | hm
    ·exact Gx (by rw [h.la,←h.ld];exact hsl)
    ·rcases oT hm with e | e<;>(rw [e];exact .inl rfl)
   ·rename_i hm
    rw [gq] at hm;simp only [decide_eq_true_eq,Jt,not_or] at hm;exact keep fun e=>hm.1 (by cases e;rfl)
  ·exact keep (by simp)
def rdS (c:Cx) (ops:List Oper) (o:Oper):List Nat :=
 match cC c o with
 | none=>[]
 | some A=>match o.guard with
  | none=>Hh A
  | some (j,_)=>match vP ops j with
   | none=>[]
   | some g=>match A with
    | .one rd _ _=>g::rd
    | .many rd hw cw _=>g::(rd++(hw++cw))
def wrS (c:Cx) (o:Oper):List Nat :=
 match cC c o with
 | none=>[]
 | some (.one _ d _)=>d::eB d c.K 0
 | some (.many _ hw cw _)=>hw++(cw++bE c.K hw)
theorem jV {δ δ':List D}:∀{ss:List Nat},(∀s∈ss,nth δ s=nth δ' s)→ak δ ss=ak δ' ss
 | [],_=>rfl
 | s::ss,h=>by
  simp only [ak];rw [h s (by simp),jV fun t ht=>h t (by simp [ht])]
theorem xJ {δ δ':List D}:∀{ss:List Nat},ak δ ss=ak δ' ss→∀s∈ss,nth δ s=nth δ' s
 | t::ss,h,s,hs=>by
  simp only [ak,Jw] at h;rcases Jt.1 hs with rfl | hs
  ·exact h.1
  ·exact xJ h.2 s hs
theorem pb (c:Cx) (ops:List Oper) (o:Oper):∃φ:List D→Option (List D),(∀δ k,cX c ops o δ k=(φ δ).bind fun l=>k (al δ (wrS c o) l))∧∀δ δ',ak δ (rdS c ops o)=ak δ' (rdS c ops o)→φ δ=φ δ':=by
 unfold cX rdS wrS;cases hA:cC c o with
 | none=>exact⟨fun _=>none,fun _ _=>rfl,fun _ _ _=>rfl⟩
 | some A =>
  have hn:=xP hA;cases hgd:o.guard with
  | none =>
   cases A with
   | one rd d h =>
    refine⟨fun δ=>(h (ak δ rd)).map fun z=>[z],fun δ k=>?_,fun δ δ' e=>by simp only [Hh] at e;simp only [e]⟩
    simp only [bU];cases h (ak δ rd) with
    | none=>rfl
    | some z=>exact ct _ _ _ _
   | many rd hw cw fn =>
    refine⟨fun δ=>JL (hn (ak δ rd)),fun δ k=>?_,fun δ δ' e=>by simp only [Hh] at e;simp only [e]⟩
    simp only [bU,ct,kq];exact(JH (hn (ak δ rd))).1 _
  | some jp =>
   obtain⟨j,pol⟩:=jp;simp only;cases hg:vP ops j with
   | none=>exact⟨fun _=>none,fun _ _=>rfl,fun _ _ _=>rfl⟩
   | some g =>
    cases A with
    | one rd d h =>
     refine⟨fun δ=>(af (sn (ao c.K d)) (nth δ g) pol (h (ak δ rd))).map fun z=>[z],fun δ k=>?_,fun δ δ' e=>by simp only [ak,Jw] at e;simp only [e.1,e.2]⟩
     simp only [bU,dT];cases af (sn (ao c.K d)) (nth δ g) pol (h (ak δ rd)) with
     | none=>rfl
     | some z=>exact ct _ _ _ _
    | many rd hw cw fn =>
     refine⟨fun δ=>match nth δ g with
      | .v (.bool b)=>if b=pol then JL (hn (ak δ rd)) else some ((hw++cw).map (tt c.K o.dst δ))
      | .tup _=>some ((hw++cw).map (tt c.K o.dst δ))
      | _=>none,fun δ k=>?_,fun δ δ' e=>?_⟩
     ·simp only [bU,ct,dT,kq,rc]
      unfold dD;split
      ·rename_i b hb
       rw [hb];simp only;split
       ·obtain⟨h1,h2⟩:=JH (hn (ak δ rd))
        rw [h1];cases hc:JL (hn (ak δ rd)) with
        | none=>rfl
        | some l =>
         have hl:=h2 l hc;simp only [Jo];rw [mx _ l 0 (by omega),Jr,mx _ l 0 (by omega),Jr]
       ·simp only [Jo]
        rw [mx _ _ 0 (by simp),Jr]
      ·rename_i l hb
       rw [hb];simp only [Jo];rw [mx _ _ 0 (by simp),Jr]
      ·rename_i hb hb'
       split
       ·rename_i b hb2;exact absurd hb2 (hb b)
       ·rename_i l hb2;exact absurd hb2 (hb' l)
       ·rfl
     ·simp only [ak,Jw,gf] at e
      have e2:=List.append_inj e.2 (by rw [kD,kD]);have e3:∀s∈hw++cw,nth δ s=nth δ' s:=xJ (by rw [gf,gf];exact e2.2);have e4:(hw++cw).map (tt c.K o.dst δ)=(hw++cw).map (tt c.K o.dst δ'):=by
       refine List.map_congr_left fun s hs=>?_
       unfold tt;rw [e3 s hs]
      simp only [e.1,e2.1,e4]
def gd (c:Cx) (B:Nat) (X:Nat→Prop) (w0:World) (F0:Nat→Prop) (V:Nat→Value) (k:List D→Option Out) (r:Out) (a:Act) (w:World):Prop :=
 Next c B X w0 F0 k r a w∧IoV c V a
theorem wl (hT:okT P c.T=true) (hS:∀f S,dj c.S f=some S→aM c.G P f S) {ops:Array Oper} {o:Oper} (hok:Df c ops.toList o=true) {V:Nat→Value} (hI:Inv c B X w0 F0 F O a w δ) (hV:IoV c V a) {k:List D→Option Out} {r:Out}
  (hg:cX c ops.toList o δ k=some r) (Q:Exit→Act→World→Prop) :
  if Jz o (yielded ops a.tmps) then o.wp P a w (gd c B X w0 F0 V k r) Q else gd c B X w0 F0 V k r (a.put o.dst undef) w:=by
 unfold Df at hok;simp only [Jj] at hok;obtain⟨hdst,hgd⟩:=hok;have hio:∀s,lE (ao c.K s)=true→o.dst≠some s:=fun s hs e=>by
  rw [e] at hdst;simp only at hdst;rw [hs] at hdst;cases hdst
 have lift:∀(A:Ac),cC c o=some A→dF c A δ k=some r→o.wp P a w (gd c B X w0 F0 V k r) Q:=by
  intro A hA hgo;have h:=Da hT hS o A hA B X w0 F0 F O a w δ hI k r hgo Q;unfold Oper.wp at h ⊢;refine Km (P:=P) (o:=o) (a:=a) (w:=w) (K:=fun a' w'=>Next c B X w0 F0 k r a' w'∧∀s,o.dst≠some s→av a' s=av a s) (fun a' w' hn=>⟨hn.1,fun s hs=>(hn.2 s (hio s hs)).trans (hV s hs)⟩) ?_
  exact DR h
 have skipV:IoV c V (a.put o.dst undef):=by
  intro s hs;cases hd:o.dst with
  | none=>exact hV s hs
  | some d=>exact(cK (fun e=>hio s hs (by rw [hd,e]))).trans (hV s hs)
 unfold cX at hg;cases hA:cC c o with
 | none=>rw [hA] at hg;cases hg
 | some A =>
  rw [hA] at hg;simp only at hg;cases hgu:o.guard with
  | none =>
   rw [hgu] at hg;rw [if_pos (by simp [Jz,hgu])];refine lift A hA ?_
   cases A with
   | one rd d h =>
    simp only [bU] at hg;obtain⟨z,h1,h2⟩:=Ji.1 hg;rw [ct] at h2;simp only [dF,h1,Jo];exact h2
   | many rd hw cw fn =>
    simp only [bU,ct,kq] at hg;exact hg
  | some jp =>
   obtain⟨j,pol⟩:=jp;rw [hgu] at hg;rw [hgu,hA] at hgd;simp only [Jj] at hgd;simp only at hg;cases hgs:vP ops.toList j with
   | none=>rw [hgs] at hg;cases hg
   | some g =>
    rw [hgs] at hg hgd;simp only at hgd;obtain⟨hkd,hck⟩:=hgd;have hyield:∀b,nth δ g = .v (.bool b)→yielded ops a.tmps j=some b:=by
     intro b hb;obtain⟨lv,hk⟩:∃lv,ao c.K g = .dat lv:=by
      split at hkd
      ·exact⟨_,‹_›⟩
      ·cases hkd
     have hr:=hI.dat hk;rw [hb] at hr;obtain⟨hv,_⟩:=br hr;have hlt:g<a.tmps.size:=by
      rw [hI.la,←hI.ld];exact Bu (by rw [hb];simp)
     have hg1:a.tmps[g]?=some (.bool b):=by
      rw [av,Jl,Jv hlt] at hv;rw [Jv hlt];simpa using hv
     unfold vP at hgs;rw [rJ,JI] at hgs;unfold yielded;cases ho:ops[j]? with
     | none=>rw [ho] at hgs;cases hgs
     | some oj =>
      rw [ho] at hgs;simp only at hgs;simp [hgs,hg1]
    have hyT:∀l,nth δ g = .tup l→yielded ops a.tmps j=none:=by
     intro l hb;obtain⟨lv,hk⟩:∃lv,ao c.K g = .dat lv:=by
      split at hkd
      ·exact⟨_,‹_›⟩
      ·cases hkd
     have hr:=hI.dat hk;rw [hb] at hr;have hv:av a g = .tuple #[]:=(hr.rep (by simp)).2;unfold yielded;rw [vP,rJ,JI] at hgs;cases ho:ops[j]? with
     | none=>simp
     | some oj =>
      rw [ho] at hgs;simp only at hgs;simp only [Jo,hgs];cases hx:a.tmps[g]? with
      | none=>rfl
      | some x =>
       have:x = .tuple #[]:=by
        rw [←hv,av,Jl,hx];rfl
       subst this;rfl
    cases A with
    | one rd d h =>
     simp only [dT,bU] at hg;obtain⟨z,h1,h2⟩:=Ji.1 hg;rw [ct] at h2;unfold af at h1;have skip:z=sn (ao c.K d)→gd c B X w0 F0 V k r (a.put o.dst undef) w:=by
      rintro rfl;refine⟨⟨F,O,_,?_,h2⟩,skipV⟩
      simp only at hck;split at hck
      ·rename_i d' hd'
       rw [aQ] at hck;subst hck;rw [hd'];refine hI.put ?_
       unfold sn xy;split
       ·rename_i hkk
        refine .inr ?_
        rw [hkk];exact⟨rfl,rfl⟩
       ·exact .inl rfl
      ·cases hck
     split at h1
     case h_3=>cases h1
     case h_2 =>
      rename_i l hb;have hy:=hyT l hb;rw [if_neg (by simp [Jz,hgu,hy])];exact skip (by cases h1;rfl)
     rename_i b hb;have hy:=hyield b hb;split at h1
     ·rename_i hbp
      rw [if_pos (by simp [Jz,hgu,hy,hbp])];exact lift _ hA (by simp only [dF,h1,Jo];exact h2)
     ·rename_i hbp
      rw [if_neg (by simp [Jz,hgu,hy,hbp])];exact skip (by cases h1;rfl)
    | many rd hw cw fn =>
     simp only [dT,bU,rc,kq,ct] at hg;unfold dD at hg;have skip:k (al δ (hw++(cw++bE c.K hw)) (fit ((hw++cw).map (tt c.K o.dst δ)) 0 (hw++cw)))=some r→gd c B X w0 F0 V k r (a.put o.dst undef) w:=by
      intro hg;rw [mx _ _ 0 (by simp),Jr] at hg;simp only [Jj,Ju] at hck;refine⟨⟨F,O,_,hI.pass_over hck.1 (fun d hd=>?_),hg⟩,skipV⟩
      have h3:=hck.2;rw [hd] at h3;simp only [gq,decide_eq_true_eq] at h3;exact h3
     split at hg
     case h_3=>cases hg
     case h_2 =>
      rename_i l hb;have hy:=hyT l hb;rw [if_neg (by simp [Jz,hgu,hy])];exact skip hg
     rename_i b hb;have hy:=hyield b hb;obtain⟨φ,hφ,hlen⟩:=xP hA (ak δ rd);split at hg
     ·rename_i hbp
      rw [if_pos (by simp [Jz,hgu,hy,hbp])];refine lift _ hA ?_
      simp only [dF];rw [hφ] at hg ⊢;cases hp:φ with
      | none=>rw [hp] at hg;cases hg
      | some l =>
       rw [hp] at hg;have hl:=hlen l hp;simp only [Jo] at hg ⊢;rw [mx _ l 0 (by omega),Jr,mx _ l 0 (by omega),Jr] at hg;exact hg
     ·rename_i hbp
      rw [if_neg (by simp [Jz,hgu,hy,hbp])];exact skip hg
theorem qs (hT:okT P c.T=true) (hS:∀f S,dj c.S f=some S→aM c.G P f S) {ops:Array Oper} {V:Nat→Value} {Q:Exit→Act→World→Prop} {k:List D→Option Out} {r:Out} (hQ:∀a w,gd c B X w0 F0 V k r a w→Q .normal a w) :
  ∀(l:List Oper),(∀o∈l,Df c ops.toList o=true)→∀(F:Nat→Prop) (O:Nat→Option (Nat × Nat)) (a:Act) (w:World) (δ:List D),Inv c B X w0 F0 F O a w δ→IoV c V a→iR c ops.toList l δ k=some r→wpList P ops Q l a w
 | [],_,F,O,a,w,δ,hI,hV,hg=>hQ a w ⟨⟨F,O,δ,hI,hg⟩,hV⟩
 | o::l,hok,F,O,a,w,δ,hI,hV,hg=>by
  simp only [iR] at hg;have h:=wl hT hS (hok o (by simp)) hI hV hg Q;have ih:∀a w,gd c B X w0 F0 V (fun δ'=>iR c ops.toList l δ' k) r a w→wpList P ops Q l a w:=by
   rintro a w ⟨⟨F',O',δ',hI',hk'⟩,hV'⟩;exact qs hT hS hQ l (fun o' ho'=>hok o' (by simp [ho'])) F' O' a w δ' hI' hV' hk'
  unfold wpList;split
  ·rename_i hw
   rw [if_pos hw] at h;exact .inl (Km ih h)
  ·rename_i hw
   rw [if_neg hw] at h;exact ih _ _ h
end
end Go.V

namespace Go.V
open Go.RowKit
def nD (x y:List Nat):Bool:=x.all fun s=>!lM s y
def Bp (c:Cx) (ops:List Oper) (x y:Oper):Bool:=nD (rdS c ops x) (wrS c y)&&nD (wrS c x) (rdS c ops y)&&nD (wrS c x) (wrS c y)
def yA (c:Cx) (x y:Oper):Bool :=
 match x.guard,y.guard,x.op,x.dst,y.op,y.dst with
 | none,none,.move (.tmp t),some d,.store _ (.tmp q) (.tmp s),none =>
  (match ao c.K t,ao c.K d,ao c.K q,ao c.K s with
   | .own _ _ _,.via r,.ref r',.dat _=>Js r t&&Js r' t && !Js q t&&nD (d::eB d c.K 0) [q,t,s]
   | _,_,_,_=>false)
 | _,_,_,_,_,_=>false
def DD (c:Cx) (x y:Oper):Bool :=
 match x.guard,y.guard,x.op,y.op,y.dst with
 | none,none,.call q,.move (.tmp t),some d =>
  (match ao c.K t,ao c.K d,q.callee with
   | .box _ _ _,.ref r',.value (.func f)=>(match dj c.S f with
    | some S=>(match gW c.K q.args.toList S.pm with
     | some ags=>Js r' t&&lM t (dz ags)
     | none=>false)
    | none=>false)
   | _,_,_=>false)
 | _,_,_,_,_=>false
def BD (c:Cx) (ops:List Oper) (x y:Oper):Bool:=DD c x y&&nD (rdS c ops x) (wrS c y)&&nD (wrS c x) (wrS c y)
def xX (c:Cx) (ops:List Oper) (x y:Oper):Bool:=Bp c ops x y||yA c x y||yA c y x||BD c ops x y
def bef (ops:List Oper) (j:Nat):Nat→Oper→Bool
 | 0,_=>false
 | n+1,o=>o.after.toList.any fun e=>JB .any e&&(Js e.on j||match AB ops e.on with
  | some q=>bef ops j n q
  | none=>false)
def Ct (c:Cx) (ops:List Oper):Bool :=
 ops.zipIdx.all fun p=>(p.1.after.toList.all fun e=>!JB .any e||decide (e.on<p.2))&&(ops.take p.2).zipIdx.all fun q=>xX c ops q.1 p.1||bef ops q.2 3 p.1
def lk (K:List Kd) (hl:List Nat):Bool :=
 hl.all fun s=>match ao K s with
  | .via r=>lM r hl
  | .ref r=>lM r hl
  | _=>true
def dp (c:Cx):Nat→Code→Bool
 | _,.skip=>true
 | _,.region _ ops d=>ops.toList.all (Df c ops.toList)&&(!d||Ct c ops.toList)
 | b,.seq x y=>dp c b x&&dp c b y
 | b,.cond x t e=>Kv (dL c.K x) 2&&dp c b t&&dp c b e
 | _,.block id x=>dp c id x
 | b,.loop x=>dp c b x&&(match dj c.H b with
  | some (hl,xl)=>lk c.K hl&&lk c.K xl
  | none=>false)
 | _,.exit _=>true
 | _,.ret=>true
 | _,_=>false
section
variable {P:Program} {c:Cx} {B:Nat} {X:Nat→Prop} {w0:World} {F0 F:Nat→Prop} {O:Nat→Option (Nat × Nat)} {a:Act} {w:World} {δ:List D}
def Bj (c:Cx) (δ:List D) (k:Out→Option Out):Option Out:=ll c δ c.res fun rs=>nk δ c.ios fun us=>usK us (k (.ret rs us))
def CX (c:Cx) (B:Nat) (X:Nat→Prop) (w0:World) (F0:Nat→Prop) (V:Nat→Value) (k:Out→Option Out) (r:Out):Exit→Act→World→Prop
 | .normal,a,w=>gd c B X w0 F0 V (fun δ=>k (.nrm δ)) r a w
 | .exit id,a,w=>gd c B X w0 F0 V (fun δ=>k (.ext id δ)) r a w
 | .ret,a,w=>gd c B X w0 F0 V (fun δ=>Bj c δ k) r a w
 | _,_,_=>False
theorem kb {x y:List Nat} (h:nD x y=true):∀s∈x,s∉y:=by
 intro s hs;unfold nD at h;rw [Ju] at h;simpa [gq] using h s hs
theorem FK {δ δ':List D} (h:δ.length=δ'.length) (hn:∀s,nth δ s=nth δ' s):δ=δ':=by
 refine List.ext_getElem h fun i h1 h2=>?_
 have:=hn i;rw [fO,fO,Jm,Jm,Jp h1,Jp h2] at this;exact this
theorem mB:∀(ss:List Nat) (l δ δ':List D),δ.length=δ'.length→∀s∈ss,nth (al δ ss l) s=nth (al δ' ss l) s
 | t::ss,l,δ,δ',hl,s,hs=>by
  cases l with
  | nil=>rw [jv _ _ _ hs,jv _ _ _ hs]
  | cons d l =>
   simp only [al];by_cases hm:s∈ss
   ·exact mB ss l _ _ (by rw [fR,fR,hl]) s hm
   ·have:s=t:=by simpa [hm] using hs
    subst this;rw [aw _ _ _ _ hm,aw _ _ _ _ hm,bZ,bZ,hl]
theorem mN {A C:List Nat} {l m δ:List D} (h:∀s∈A,s∉C):al (al δ A l) C m=al (al δ C m) A l:=by
 refine FK (by simp only [de]) fun s=>?_
 by_cases hA:s∈A
 ·rw [aw _ _ _ _ (h s hA)]
  exact mB A l _ _ (by rw [de]) s hA
 ·by_cases hC:s∈C
  ·rw [aw A _ _ _ hA]
   exact(mB C m _ _ (by rw [de]) s hC)
  ·rw [aw _ _ _ _ hC,aw _ _ _ _ hA,aw _ _ _ _ hA,aw _ _ _ _ hC]
theorem yY {n:Nat} {o p x z:D} (h:stD n o p x=some z):o ≠ .bad∧z ≠ .bad:=by
 unfold stD at h;split at h
 ·split at h
  ·split at h
   ·cases h;exact⟨by simp,by simp⟩
   ·cases h
  ·cases h
 ·split at h
  ·cases h;exact⟨by simp,by simp⟩
  ·cases h
 ·cases h
theorem uU (chk:Bool) (n:Nat) (b p y:D):∃E:Option D,(∀k:D→Option Out,stK chk n b p y k=E.bind k)∧∀z,E=some z→b ≠ .bad∧z ≠ .bad:=by
 cases chk
 ·exact⟨stD n b p y,fun _=>rfl,fun z hz=>yY hz⟩
 ·refine⟨(bw y).bind fun y=>stD n b p y,fun k=>by simp only [stK,Option.bind_assoc],fun z hz=>?_⟩
  obtain⟨y',_,h⟩:=Ji.1 hz;exact yY h
theorem Cb {ops:List Oper} {x y:Oper} (h:yA c x y=true) (δ:List D) (k:List D→Option Out):cX c ops x δ (fun δ=>cX c ops y δ k)=cX c ops y δ (fun δ=>cX c ops x δ k):=by
 unfold yA at h;split at h
 case h_2=>cases h
 rename_i t d ty q s hxg hyg hxo hxd hyo hyd;split at h
 case h_2=>cases h
 rename_i z lv io r0 r lv' hkt hkd hkq hks;simp only [Jj,Jx] at h;obtain⟨⟨⟨h1,h2⟩,h3⟩,h4⟩:=h;have e1:=aQ.1 h1;have e2:=aQ.1 h2;subst e1;subst e2;have hx:∀(δ:List D) (k:List D→Option Out),cX c ops x δ k=(ab (nth δ r) (.ref 0 0)).bind fun z=>k (al δ (d::eB d c.K 0) [z]):=by
  intro δ k;have hA:cC c x=some (.one [r] d fun is=>(fy fun x=>ab x (.ref 0 0)) is):=by
   simp only [cC,hxo,hxd,zB,hkt,hkd,Nat.beq_refl]
  simp only [cX,hA,hxg];rw [bU];show(ab (nth δ r) (.ref 0 0)).bind (fun z=>dP δ (d::eB d c.K 0) [z] k)=_
  exact congrArg _ (funext fun z=>ct _ _ _ _)
 have hy:∃E:D→D→D→Option D,(∀(δ:List D) (k:List D→Option Out),cX c ops y δ k=(E (nth δ r) (nth δ q) (nth δ s)).bind fun b=>k (al δ [r] [b]))∧∀a b e z,E a b e=some z→a ≠ .bad∧z ≠ .bad:=by
  cases hT:dj c.T ty with
  | none =>
   refine⟨fun _ _ _=>none,fun δ k=>?_,fun _ _ _ _ h=>by cases h⟩
   have hA:cC c y=none:=by simp only [cC,hyo,hyd,eF,hT]
   simp only [cX,hA];rfl
  | some i =>
   have act:∀chk:Bool,cC c y=some (.many [q,r,s] [] [r] fun is k=>goP q r is fun b p is=>fr is 0 fun y=>stK chk i.n b p y fun b=>k [b]) →
     ∃E:D→D→D→Option D,(∀(δ:List D) (k:List D→Option Out),cX c ops y δ k=(E (nth δ r) (nth δ q) (nth δ s)).bind fun b=>k (al δ [r] [b]))∧∀a b e z,E a b e=some z→a ≠ .bad∧z ≠ .bad:=by
    intro chk hA;refine⟨fun a b e=>JL (uU chk i.n a b e),fun δ k=>?_,fun a b e z h=>(JH (uU chk i.n a b e)).2 z h⟩
    simp only [cX,hA,hyg];rw [bU];simp only [goP,h3,ak];show stK chk i.n (nth δ r) (nth δ q) (nth δ s) (fun b=>dP δ [r] [b] k)=_
    rw [(JH (uU chk i.n (nth δ r) (nth δ q) (nth δ s))).1];exact congrArg _ (funext fun b=>ct _ _ _ _)
   have hst:cC c y=zZ c i q r (fi c.K r) (.tmp s):=by
    simp only [cC,hyo,hyd,eF,hT,Ej,hkq]
   unfold zZ at hst;simp only [hks] at hst;split at hst
   ·exact act false (by rw [hst];simp only [rdP,h3])
   ·exact act true (by rw [hst];simp only [rdP,h3])
   ·refine⟨fun _ _ _=>none,fun δ k=>?_,fun _ _ _ _ h=>by cases h⟩
    simp only [cX,hst];rfl
 obtain⟨E,hE,hEl⟩:=hy;have ap:=fun s hs=>kb h4 s hs
 have hnq:∀m:List D,∀v∈[q,r,s],nth (al δ (d::eB d c.K 0) m) v=nth δ v:=fun m v hv=>aw _ _ _ _ fun hm=>ap v hm hv
 simp only [hx,hE,hnq _ q (by simp),hnq _ r (by simp),hnq _ s (by simp)];cases hb:E (nth δ r) (nth δ q) (nth δ s) with
 | none=>cases ab (nth δ r) (.ref 0 0)<;>rfl
 | some b =>
  obtain⟨g1,g2⟩:=hEl _ _ _ _ hb;have hlive:∀a:D,a ≠ .bad→ab a (.ref 0 0)=some (.ref 0 0):=fun a ha=>by cases a<;>first | exact absurd rfl ha | rfl
  have hr:nth (al δ [r] [b]) r=b:=by
   simp only [al];rw [bZ,if_pos];by_cases hl:r<δ.length
   ·exact hl
   ·exfalso
    rw [fO,Jm,JG (by omega)] at g1;exact g1 rfl
  simp only [hlive _ g1,hr,hlive _ g2,Jo];rw [mN (A:=d::eB d c.K 0) (C:=[r])];intro v hv hv';exact ap v hv (by simp at hv';simp [hv'])
theorem Bi {ops:List Oper} {x y:Oper} (h:Bp c ops x y=true) (δ:List D) (k:List D→Option Out):cX c ops x δ (fun δ=>cX c ops y δ k)=cX c ops y δ (fun δ=>cX c ops x δ k):=by
 unfold Bp at h;simp only [Jj] at h;obtain⟨⟨h1,h2⟩,h3⟩:=h;obtain⟨φ,hφ,hφr⟩:=pb c ops x;obtain⟨ψ,hψ,hψr⟩:=pb c ops y;have e1:∀l,ψ (al δ (wrS c x) l)=ψ δ:=fun l=>hψr _ _ (jV fun s hs=>aw _ _ _ _ fun hm=>kb h2 s hm hs)
 have e2:∀l,φ (al δ (wrS c y) l)=φ δ:=fun l=>hφr _ _ (jV fun s hs=>aw _ _ _ _ (kb h1 s hs))
 simp only [hφ,hψ,e1,e2];cases φ δ with
 | none=>cases ψ δ<;>rfl
 | some l =>
  cases ψ δ with
  | none=>rfl
  | some m =>
   simp only [Jo];rw [mN (kb h3)]
theorem oQ {δ:List D}:∀(ags:List Ag) (ds:List D),co ags (ak δ (dZ ags))=some ds→∀t∈dz ags,nth δ t ≠ .bad
 | [],_,_,t,ht=>by simp [dz] at ht
 | .d x chk::l,ds,h,t,ht=>by
  have ih:=oQ (δ:=δ) l;simp only [dz] at ht;cases x with
  | tmp u =>
   simp only [ak] at h;cases chk
   ·simp only [co] at h
    obtain⟨z,hz,_⟩:=Jk.1 h;exact ih z hz t ht
   ·simp only [co] at h
    obtain⟨i,_,h⟩:=Ji.1 h;obtain⟨z,hz,_⟩:=Jk.1 h;exact ih z hz t ht
  | const v =>
   simp only [co] at h;obtain⟨z,hz,_⟩:=Jk.1 h;exact ih z hz t ht
  | func f =>
   simp only [co] at h;obtain⟨z,hz,_⟩:=Jk.1 h;exact ih z hz t ht
  | global g=>simp [co] at h
 | .bor u r::l,ds,h,t,ht=>by
  have ih:=oQ (δ:=δ) l;simp only [dz] at ht;cases hb:Js u r
  ·simp only [dZ,hb,ak,co] at h
   obtain⟨i,_,h⟩:=Ji.1 h;obtain⟨z,hz,_⟩:=Jk.1 h;exact ih z hz t ht
  ·simp only [dZ,hb,ak,co] at h
   obtain⟨z,hz,_⟩:=Jk.1 h;exact ih z hz t ht
 | .io u r::l,ds,h,t,ht=>by
  have ih:=oQ (δ:=δ) l;simp only [dz,Jt] at ht;have lv:∀x y z:D,ab x y=some z→x ≠ .bad:=fun x y z hz e=>by subst e;cases hz
  cases hb:Js u r
  ·simp only [dZ,hb,ak,co] at h
   obtain⟨i,hi,h⟩:=Ji.1 h;obtain⟨i',hi',h⟩:=Ji.1 h;obtain⟨z,hz,_⟩:=Jk.1 h;have e:i=nth δ r:=by
    unfold cQ at hi;split at hi
    ·exact(Ks hi).symm
    ·cases hi
   rcases ht with rfl | ht
   ·rw [←e];exact lv _ _ _ hi'
   ·exact ih z hz t ht
  ·simp only [dZ,hb,ak,co] at h
   obtain⟨i',hi',h⟩:=Ji.1 h;obtain⟨z,hz,_⟩:=Jk.1 h;have e:=aQ.1 hb;rcases ht with rfl | ht
   ·rw [←e];exact lv _ _ _ hi'
   ·exact ih z hz t ht
theorem Gz {ops:List Oper} {x y:Oper} (h:BD c ops x y=true) (δ:List D) (k:List D→Option Out) (r:Out) (hs:cX c ops x δ (fun δ=>cX c ops y δ k)=some r):cX c ops y δ (fun δ=>cX c ops x δ k)=some r:=by
 unfold BD at h;simp only [Jj] at h;obtain⟨⟨h1,h2⟩,h3⟩:=h;unfold DD at h1;split at h1
 case h_2=>cases h1
 rename_i q t d hxg hyg hxo hyo hyd;split at h1
 case h_2=>cases h1
 rename_i n lv io r' f hkt hkd hqc;split at h1
 case h_2=>cases h1
 rename_i S hS;split at h1
 case h_2=>cases h1
 rename_i ags hags;simp only [Jj] at h1;obtain⟨h4,h5⟩:=h1;have e4:=aQ.1 h4;subst e4;have hyA:cC c y=some (.one [r'] d fun is=>(fy fun x=>ab x (.ref 0 0)) is):=by
  simp only [cC,hyo,hyd,zB,hkt,hkd,Nat.beq_refl]
 have hw:wrS c y=d::eB d c.K 0:=by
  unfold wrS;rw [hyA]
 have hy:∀(δ:List D) (k:List D→Option Out),cX c ops y δ k=(ab (nth δ r') (.ref 0 0)).bind fun z=>k (al δ (d::eB d c.K 0) [z]):=by
  intro δ k;simp only [cX,hyA,hyg];rw [bU];show(ab (nth δ r') (.ref 0 0)).bind (fun z=>dP δ (d::eB d c.K 0) [z] k)=_
  exact congrArg _ (funext fun z=>ct _ _ _ _)
 have live:∀(δ:List D) (K:List D→Option Out) (r:Out),cX c ops x δ K=some r→nth δ r' ≠ .bad:=by
  intro δ K r hr;have hm:r'∈dz ags:=by simpa [gq] using h5
  have fin:∀K':List D→Option Out,fU [] ags (ak δ (dZ ags)) K'=some r→nth δ r' ≠ .bad:=by
   intro K' h;rw [gp] at h;obtain⟨ds,hds,_⟩:=Ji.1 h;exact oQ ags ds hds r' hm
  have hA:cC c x=CI c x.dst q:=by simp only [cC,hxo]
  have hcl:∀A,cC c x=some A→qH c x.dst S q.args.toList=some A:=by
   intro A h;rw [hA] at h;unfold CI at h;rw [hqc] at h;simp only [hS] at h;exact h
  cases hAc:cC c x with
  | none=>simp only [cX,hAc] at hr;cases hr
  | some A =>
   have hA2:=hcl A hAc;unfold qH at hA2;simp only [hags] at hA2;simp only [cX,hAc,hxg] at hr
   repeat' split at hA2
   all_goals first
    | (cases hA2;done)
    | (cases hA2;simp only [bU] at hr;exact fin _ hr)
    | skip
 have l1:=live δ _ r hs;obtain⟨φ,hφ,hφr⟩:=pb c ops x;rw [hw] at h2 h3;have e2:∀l,φ (al δ (d::eB d c.K 0) l)=φ δ:=fun l=>hφr _ _ (jV fun s hs=>aw _ _ _ _ (kb h2 s hs))
 have hlive:∀a:D,a ≠ .bad→ab a (.ref 0 0)=some (.ref 0 0):=fun a ha=>by cases a<;>first | exact absurd rfl ha | rfl
 simp only [hφ,hy,e2] at hs ⊢;rw [hlive _ l1];cases hp:φ δ with
 | none=>rw [hp] at hs;cases hs
 | some l =>
  rw [hp] at hs;simp only [Jo] at hs ⊢;obtain⟨z,hz,hk⟩:=Ji.1 hs;have ez:z = .ref 0 0:=by
   unfold ab at hz;split at hz
   ·cases hz
   ·exact(Ks hz).symm
  subst ez;rw [mN (kb h3)] at hk;exact hk
theorem Dt {ops:List Oper} {x y:Oper} (h:xX c ops x y=true) (δ:List D) (k:List D→Option Out) (r:Out) (hs:cX c ops x δ (fun δ=>cX c ops y δ k)=some r):cX c ops y δ (fun δ=>cX c ops x δ k)=some r:=by
 unfold xX at h;simp only [JD] at h;rcases h with ((h | h) | h) | h
 ·exact(Bi h δ k).symm.trans hs
 ·exact(Cb h δ k).symm.trans hs
 ·exact(Cb h δ k).trans hs
 ·exact Gz h δ k r hs
theorem Db {ops:List Oper} {o:Oper} {k k':List D→Option Out} {δ:List D} {r:Out} (hk:∀δ,k δ=some r→k' δ=some r) (h:cX c ops o δ k=some r):cX c ops o δ k'=some r:=by
 obtain⟨φ,hφ,_⟩:=pb c ops o;rw [hφ] at h ⊢;obtain⟨l,hl,h⟩:=Ji.1 h;rw [hl];exact hk _ h
theorem rl {ops:List Oper} {o:Oper} {k:List D→Option Out} {r:Out}:∀(pre post:List Oper) (δ:List D),(∀q∈pre,xX c ops q o=true)→iR c ops (pre++o::post) δ k=some r→cX c ops o δ (fun δ=>iR c ops (pre++post) δ k)=some r
 | [],post,δ,_,h=>h
 | q::pre,post,δ,h,hr=>by
  simp only [Ka,iR] at hr ⊢;exact Dt (h q (by simp)) δ _ r (Db (fun δ' h'=>rl pre post δ' (fun q' hq'=>h q' (by simp [hq'])) h') hr)
def left (ops:List Oper) (listed:Array Bool):List Oper:=(ops.zipIdx.filter fun p=>!listed.getD p.2 true).map (·.1)
theorem Inv.drawn (h:Inv c B X w0 F0 F O a w δ) (n:Nat):Inv c B X w0 F0 F O a {w with drawn:=n} δ :=
 h.step (w':={w with drawn:=n}) (fun _=>False) rfl rfl rfl (fun _ _=>⟨rfl,.inl rfl⟩) (fun _ hb=>hb) (fun _ _=>rfl) (fun _ _ hp _=>⟨hp,rfl⟩) (fun _ _ _ hv hb=>⟨rfl,(h.root hv hb).2⟩) (fun _ hf=>hf.elim) h.fl h.ol (fun _ hb=>.inl hb) (JY _) rfl rfl rfl (fun _ _ _=>rfl)
theorem vW {l:List Oper} {i:Nat} {o:Oper} (h:l[i]?=some o):l.zipIdx=(l.take i).zipIdx++(o,i)::(l.drop (i+1)).zipIdx (i+1):=by
 have hi:i<l.length:=(JP.1 h).1;have e:l=l.take i++(o::l.drop (i+1)):=by
  have h1:l[i]=o:=(JP.1 h).2
  conv=>lhs;rw [←Kh i l,JO hi,h1]
 conv=>lhs;rw [e]
 rw [List.zipIdx_append,List.zipIdx_cons];have:(l.take i).length=i:=by rw [Kb];omega
 simp [this]
theorem vQ {l:List Oper} {listed:Array Bool} {i:Nat} {o:Oper} (h:l[i]?=some o) (hn:listed.getD i true=false) (hsz:i<listed.size) :
  left l listed=(((l.take i).zipIdx.filter fun p=>!listed.getD p.2 true).map (·.1))++o::((((l.drop (i+1)).zipIdx (i+1)).filter fun p=>!listed.getD p.2 true).map (·.1)) ∧
  left l (listed.setIfInBounds i true)=(((l.take i).zipIdx.filter fun p=>!listed.getD p.2 true).map (·.1))++((((l.drop (i+1)).zipIdx (i+1)).filter fun p=>!listed.getD p.2 true).map (·.1)):=by
 have hne:∀j,j≠i→(listed.setIfInBounds i true).getD j true=listed.getD j true:=fun j hj=>by
  simp only [Jl,JJ,Ne.symm hj,if_false]
 have hi:(listed.setIfInBounds i true).getD i true=true:=by
  simp [Jl,hsz]
 unfold left;rw [vW h];simp only [List.filter_append,List.map_append,List.filter_cons,hn,hi,Kw,Bool.not_true,if_true,Jq,if_false,JC];refine⟨trivial,?_⟩
 congr 2
 ·refine Kp fun p hp=>?_
  have:=JA hp;rw [Kb] at this;rw [hne p.2 (by omega)]
 ·refine Kp fun p hp=>?_
  have:=List.le_snd_of_mem_zipIdx hp;rw [hne p.2 (by omega)]
def Cl (ops:Array Oper) (listed:Array Bool):Prop:=∀(m:Nat) (q:Oper),ops[m]?=some q→listed.getD m false=true→∀e∈q.after,JB .any e=true→listed.getD e.on false=true
theorem vc {ops:Array Oper} {listed:Array Bool} (hc:Cl ops listed) {j:Nat}:∀(n:Nat) (o:Oper),(∀e∈o.after,JB .any e=true→listed.getD e.on false=true)→bef ops.toList j n o=true→listed.getD j false=true
 | 0,_,_,h=>by simp [bef] at h
 | n+1,o,ho,h=>by
  simp only [bef,List.any_eq_true,Jj,JD] at h;obtain⟨e,he,hb,h⟩:=h;have hl:=ho e (by simpa using he) hb;rcases h with h | h
  ·rw [←aQ.1 h]
   exact hl
  ·split at h
   ·rename_i q hq
    rw [rJ,JI] at hq;exact vc hc n q (hc e.on q hq hl) h
   ·cases h
theorem uV {listed:Array Bool} {i x:Nat} (h:listed.getD x false=true):(listed.setIfInBounds i true).getD x false=true:=by
 rw [Jl] at h ⊢;rw [JJ];split
 ·split<;>rename_i h1 h2
  ·rfl
  ·subst h1
   rw [Array.getElem?_eq_none (by omega)] at h;cases h
 ·exact h
theorem HM {ops:Array Oper} {listed:Array Bool} (hc:Cl ops listed) {i:Nat} {o:Oper} (ho:ops[i]?=some o) (hed:∀e∈o.after,JB .any e=true→listed.getD e.on false=true):Cl ops (listed.setIfInBounds i true):=by
 intro m q hq hm e he hb;by_cases hmi:m=i
 ·subst hmi
  rw [ho] at hq;cases hq;exact uV (hed e he hb)
 ·refine uV (hc m q hq ?_ e he hb)
  rw [Jl,JJ,if_neg (fun e=>hmi e.symm)] at hm;rw [Jl];exact hm
theorem BE (hT:okT P c.T=true) (hS:∀f S,dj c.S f=some S→aM c.G P f S) {ops:Array Oper} (hany:Ct c ops.toList=true) {V:Nat→Value} {Q:Exit→Act→World→Prop} {k:List D→Option Out} {r:Out} (hQ:∀a w,gd c B X w0 F0 V k r a w→Q .normal a w)
  (hok:∀o∈ops.toList,Df c ops.toList o=true) (hI:Inv c B X w0 F0 F O a w δ) (hV:IoV c V a) (hg:iR c ops.toList ops.toList δ k=some r):wpAny P .any ops Q ops.size (JE ops.size false) a {w with drawn:=w.drawn+1}:=by
 have hedge:∀(i:Nat) (o:Oper),ops[i]?=some o→(∀e∈o.after,JB .any e=true→e.on<i)∧∀(j:Nat) (q:Oper),j<i→ops[j]?=some q→bef ops.toList j 3 o=true∨xX c ops.toList q o=true:=by
  intro i o ho;have h0:=hany;unfold Ct at h0;rw [Ju] at h0;have hl:ops.toList[i]?=some o:=by simpa using ho
  have h1:=h0 (o,i) (by rw [vW hl];simp);simp only [Jj,JD,Jx,decide_eq_true_eq,Ju] at h1;refine⟨fun e he hb=>(h1.1 e (by simpa using he)).resolve_left (by rw [hb];simp),fun j q hj hq=>?_⟩
  have hq':(ops.toList.take i)[j]?=some q:=by
   rw [Kc hj];simpa using hq
  exact(h1.2 (q,j) (by rw [vW hq'];simp)).symm
 have main:∀(fuel:Nat) (listed:Array Bool) (F:Nat→Prop) (O:Nat→Option (Nat × Nat)) (a:Act) (w:World) (δ:List D),listed.size=ops.size→Cl ops listed→(left ops.toList listed).length≤fuel→Inv c B X w0 F0 F O a w δ→IoV c V a →
   iR c ops.toList (left ops.toList listed) δ k=some r→wpAny P .any ops Q fuel listed a w:=by
  intro fuel;have ready_mem:∀(listed:Array Bool) (i:Nat),i∈JQ .any ops listed→∃o,ops[i]?=some o∧listed.getD i true=false∧∀e∈o.after,JB .any e=true→listed.getD e.on false=true:=by
   intro listed i hi;unfold JQ at hi;rw [Kg] at hi;obtain⟨hr,hi⟩:=hi;simp only [Jj,Jx] at hi;cases ho:ops[i]? with
   | none=>rw [ho] at hi;simp at hi
   | some o =>
    rw [ho] at hi;simp only [Kt,Ke,Array.all_eq_true_iff_forall_mem,JD,Jx] at hi;exact⟨o,rfl,hi.1,fun e he hb=>(hi.2 e he).resolve_left (by rw [hb];simp)⟩
  have empty:∀(listed:Array Bool),listed.size=ops.size→JQ .any ops listed=[]→left ops.toList listed=[]:=by
   intro listed hsz hr;have all:∀i,i<ops.size→listed.getD i true=true:=by
    intro i;induction i using Nat.strongRecOn with
    | _ i ih =>
     intro hi;cases hl:listed.getD i true with
     | true=>rfl
     | false =>
      exfalso;have ho:ops[i]?=some ops[i]:=Jv hi;have hmem:i∈JQ .any ops listed:=by
       unfold JQ;rw [Kg];refine⟨List.mem_range.2 hi,?_⟩
       rw [hl,ho];simp only [Kw,Bool.true_and,Kt,Ke,Array.all_eq_true_iff_forall_mem,JD];intro e he;cases hb:JB .any e
       ·exact .inl rfl
       right
       have h1:=(hedge i _ ho).1 e he hb;have h2:=ih e.on h1 (by omega);have h3:e.on<listed.size:=by omega
       rw [Jl,Jv h3] at h2 ⊢;exact h2
      rw [hr] at hmem;cases hmem
   unfold left;rw [List.map_eq_nil_iff,List.filter_eq_nil_iff];rintro⟨o,i⟩ hp;have hi:=JA hp;simp only [Jx,Bool.not_eq_false];exact all i (by simpa using hi)
  induction fuel with
  | zero =>
   intro listed F O a w δ hsz hcl hl hI hV hg;have h0:left ops.toList listed=[]:=JF (by omega);rw [h0] at hg;refine⟨?_,hQ a w ⟨⟨F,O,δ,hI,hg⟩,hV⟩⟩
   cases hr:JQ .any ops listed with
   | nil=>rfl
   | cons i rest =>
    exfalso;obtain⟨o,ho,hn,_⟩:=ready_mem listed i (by rw [hr];simp);have hi:i<ops.size:=(JM.1 ho).1;have:=(vQ (l:=ops.toList) (by simpa using ho) hn (by omega)).1;rw [h0] at this;simp at this
  | succ fuel ihf =>
   intro listed F O a w δ hsz hcl hl hI hV hg;refine⟨fun hr=>?_,fun i hi=>?_⟩
   ·rw [empty listed hsz hr] at hg
    exact hQ a w ⟨⟨F,O,δ,hI,hg⟩,hV⟩
   ·obtain⟨o,ho,hn,hed⟩:=ready_mem listed i hi
    have hilt:i<ops.size:=(JM.1 ho).1;obtain⟨e1,e2⟩:=vQ (l:=ops.toList) (by simpa using ho) hn (by omega);rw [e1] at hg hl;have hfront:∀q∈(((ops.toList.take i).zipIdx.filter fun p=>!listed.getD p.2 true).map (·.1)),xX c ops.toList q o=true:=by
     intro q hq
     ·simp only [List.mem_map,Kg] at hq
      obtain⟨⟨q',j⟩,⟨hm1,hm2⟩,rfl⟩:=hq;have hj:=JA hm1;rw [Kb] at hj;have hget:ops[j]?=some q':=by
       have:=List.mem_zipIdx_iff_getElem?.1 hm1;simp only at this;rw [Kc (by omega)] at this;simpa using this
      rcases(hedge i o ho).2 j q' (by omega) hget with hbf | h
      ·exfalso
       have h3:=vc hcl 3 o hed hbf;simp only [Jx] at hm2;have hjlt:j<listed.size:=by omega
       rw [Jl,Jv hjlt] at h3 hm2;simp only [Ke] at h3 hm2;rw [h3] at hm2;cases hm2
      ·exact h
    ·replace hg:=rl _ _ _ hfront hg
     rw [←e2] at hg;have h:=wl hT hS (ops:=ops) (hok o (by simpa using Array.mem_of_getElem? ho)) hI hV hg Q;have ih:∀a w,gd c B X w0 F0 V (fun δ'=>iR c ops.toList (left ops.toList (listed.setIfInBounds i true)) δ' k) r a w→wpAny P .any ops Q fuel (listed.setIfInBounds i true) a w:=by
      rintro a w ⟨⟨F',O',δ',hI',hk'⟩,hV'⟩;exact ihf _ F' O' a w δ' (by simpa using hsz) (HM hcl ho hed) (by rw [e2];simp only [List.length_append,JS] at hl ⊢;omega) hI' hV' hk'
     unfold wpOp;rw [ho];simp only;split
     ·rename_i hw
      rw [if_pos hw] at h;exact .inl (Km ih h)
     ·rename_i hw
      rw [if_neg hw] at h;exact ih _ _ h
 have hleft:left ops.toList (JE ops.size false)=ops.toList:=by
  unfold left;rw [List.filter_eq_self.2]
  ·simp
  ·rintro⟨o,i⟩ hp
   have hi:=JA hp;have hi':i<ops.size:=by simpa using hi
   simp [Jl,hi']
 refine main ops.size _ F O a _ δ (by simp) (fun m q _ hm=>?_) ?_ (hI.drawn _) hV ?_
 ·rw [Jl,Array.getElem?_replicate] at hm
  split at hm<;>cases hm
 ·rw [hleft];simp
 ·rw [hleft];exact hg
theorem xO (hT:okT P c.T=true) (hS:∀f S,dj c.S f=some S→aM c.G P f S) {ops:Array Oper} (hany:Ct c ops.toList=true) (hm:P.follows .mixedOrders=true) {V:Nat→Value} {Q:Exit→Act→World→Prop} {k:List D→Option Out} {r:Out} (hQ:∀a w,gd c B X w0 F0 V k r a w→Q .normal a w)
  (hok:∀o∈ops.toList,Df c ops.toList o=true) (hI:Inv c B X w0 F0 F O a w δ) (hV:IoV c V a) (hg:iR c ops.toList ops.toList δ k=some r) (id:Nat):(Code.region id ops true).wp P Q a w:=wp_region_any hm (BE hT hS hany hQ hok hI hV hg)
theorem iz:∀(l:List ResultVar) (δ:List D) (k:List D→Option Out),ll c δ l k=(ll c δ l fun rs=>some (.nrm rs)).bind fun o=>match o with
  | .nrm rs=>k rs
  | _=>none
 | [],δ,k=>rfl
 | .tmp t::l,δ,k=>by
  simp only [ll,dT];rw [iz l δ fun rs=>k (nth δ t::rs),iz l δ fun rs=>some (.nrm (nth δ t::rs))];cases h:ll c δ l fun rs=>some (.nrm rs) with
  | none=>rfl
  | some o=>cases o<;>rfl
 | .cell s t::l,δ,k=>by
  simp only [ll];split
  ·rename_i i _
   simp only [dT];cases bM i.agg i.n 0 (nth δ s) with
   | none=>rfl
   | some y =>
    simp only [Jo];rw [iz l δ fun rs=>k (y::rs),iz l δ fun rs=>some (.nrm (y::rs))];cases h:ll c δ l fun rs=>some (.nrm rs) with
    | none=>rfl
    | some o=>cases o<;>rfl
  ·rfl
theorem rb:∀{us:List D} {o:Option Out} {r:Out},usK us o=some r↔(∀u∈us,u ≠ .bad)∧o=some r
 | [],o,r=>by simp [usK]
 | u::us,o,r=>by
  simp only [usK,Ji,Jt,forall_eq_or_imp];constructor
  ·rintro⟨y,h1,h2⟩
   obtain⟨h3,h4⟩:=rb.1 h2;exact⟨⟨(bS h1).1,h3⟩,h4⟩
  ·rintro⟨⟨h1,h2⟩,h3⟩
   refine⟨u,?_,rb.2 ⟨h2,h3⟩⟩
   cases u<;>first | rfl | exact absurd rfl h1
theorem je {δ:List D} {k:Out→Option Out} {r:Out} (h:Bj c δ k=some r):∃rs,ll c δ c.res (fun rs=>some (.nrm rs))=some (.nrm rs)∧(∀u∈ak δ c.ios,u ≠ .bad)∧k (.ret rs (ak δ c.ios))=some r:=by
 unfold Bj at h;simp only [bU] at h;rw [iz] at h;cases hh:ll c δ c.res fun rs=>some (.nrm rs) with
 | none=>rw [hh] at h;cases h
 | some o =>
  rw [hh] at h;cases o with
  | nrm rs =>
   simp only [Jo] at h;obtain⟨h1,h2⟩:=rb.1 h;exact⟨rs,rfl,h1,h2⟩
  | ext i δ=>cases h
  | ret x y=>cases h
theorem um {δ:List D} {k:Out→Option Out} {r:Out} {rs:List D} (h1:ll c δ c.res (fun rs=>some (.nrm rs))=some (.nrm rs)) (h2:∀u∈ak δ c.ios,u ≠ .bad) (hk:k (.ret rs (ak δ c.ios))=some r):Bj c δ k=some r:=by
 unfold Bj;simp only [bU];rw [iz,h1];simp only [Jo];exact rb.2 ⟨h2,hk⟩
def carry (n:Nat) (hl:List Nat) (δ:List D):List D:=al (vZ n) hl (ak δ hl)
theorem rU:∀n,vZ n=List.replicate n .bad
 | 0=>rfl
 | n+1=>by simp [vZ,rU n,List.replicate_succ]
theorem DW (n s:Nat):nth (vZ n) s = .bad:=by
 rw [fO,rU,Jm,List.getElem?_replicate];split<;>rfl
theorem kB (n:Nat) (hl:List Nat) (δ:List D) (k:List D→Option Out):ic n hl (ak δ hl) k=k (carry n hl δ):=by
 unfold ic carry;rw [ct,mx _ _ 0 (by rw [kD];omega),Jr]
theorem my (δ:List D):∀(l:List Nat),ak δ l=l.map (nth δ)
 | []=>rfl
 | _::l=>by simp [ak,my δ l]
theorem sV {hl:List Nat} {δ:List D} (s:Nat):nth (carry δ.length hl δ) s=if s∈hl then nth δ s else .bad:=by
 unfold carry;rw [my,lf];have hlen:(vZ δ.length).length=δ.length:=by rw [rU];simp
 rw [hlen,DW];split
 ·split
  ·rfl
  ·rename_i h
   by_cases hb:nth δ s = .bad
   ·exact hb.symm
   ·exact absurd (Bu hb) h
 ·rfl
theorem Inv.carry (h:Inv c B X w0 F0 F O a w δ) {hl:List Nat} (hk:lk c.K hl=true):Inv c B X w0 F0 F O a w (carry (iQ c.K) hl δ):=by
 have e:iQ c.K=δ.length:=by rw [jQ,h.ld]
 rw [e];refine h.forget ?_ (fun s=>?_) (fun s r hv hb=>?_)
 ·unfold V.carry;rw [de,rU];simp
 ·rw [sV]
  split
  ·exact .inl rfl
  ·exact .inr rfl
 ·rw [sV] at hb
  split at hb
  case isFalse=>exact absurd rfl hb
  rename_i hs;unfold lk at hk;rw [Ju] at hk;have hks:=hk s hs;have hr:r∈hl:=by
   rcases hv with e | e<;>rw [e] at hks<;>simpa [gq] using hks
  rw [sV,if_pos hr];exact(h.root hv hb).2
theorem iF {V:Nat→Value} {k k':List D→Option Out} {r r':Out} (h:gd c B X w0 F0 V k r a w) (hk:∀δ F O,Inv c B X w0 F0 F O a w δ→k δ=some r→k' δ=some r'):gd c B X w0 F0 V k' r' a w:=by
 obtain⟨⟨F,O,δ,h1,h2⟩,h3⟩:=h;exact⟨⟨F,O,δ,h1,hk δ F O h1 h2⟩,h3⟩
theorem tN {V:Nat→Value} {b:Code} {bid:Nat} {hl xl:List Nat} (h1:lk c.K hl=true) (h2:lk c.K xl=true)
  (ih:∀(F:Nat→Prop) (O:Nat→Option (Nat × Nat)) (a:Act) (w:World) (δ:List D),Inv c B X w0 F0 F O a w δ→IoV c V a→∀(k:Out→Option Out) (r:Out),den c bid b δ k=some r→∀Q,(∀e a w,CX c B X w0 F0 V k r e a w→Q e a w)→b.wp P Q a w)
  {k:Out→Option Out} {r:Out} {Q:Exit→Act→World→Prop} (hQ:∀e a w,CX c B X w0 F0 V k r e a w→Q e a w) {o:Out}
  (ho:dH o (fun i s=>ic (iQ c.K) xl s fun δ=>k (.ext i δ)) (fun x y=>k (.ret x y))=some r):∀(n:Nat) (F:Nat→Prop) (O:Nat→Option (Nat × Nat)) (a:Act) (w:World) (δ:List D),Inv c B X w0 F0 F O a w δ→IoV c V a →
  iter (fun s=>ic (iQ c.K) hl s fun δ=>den c bid b δ (cG hl xl)) n (ak δ hl)=some o→Code.rounds P b Q n a w
 | 0,_,_,_,_,_,_,_,h=>by cases h
 | n+1,F,O,a,w,δ,hI,hV,h=>by
  simp only [iter,kB] at h;rw [rounds_succ];have hI':=hI.carry h1;cases hb:den c bid b (carry (iQ c.K) hl δ) (cG hl xl) with
  | none=>rw [hb] at h;cases h
  | some ob =>
   rw [hb] at h;refine ih F O a w _ hI' hV _ ob hb _ (fun e a' w' hp=>?_)
   cases ob with
   | nrm s' =>
    simp only at h;cases e with
    | normal =>
     obtain⟨⟨F',O',δ',g1,g2⟩,g3⟩:=hp;simp only [cG,bU,Jn,Out.nrm.injEq] at g2;rw [←g2] at h;exact tN h1 h2 ih hQ ho n F' O' a' w' δ' g1 g3 h
    | exit i =>
     obtain⟨⟨F',O',δ',g1,g2⟩,g3⟩:=hp;simp [cG,bU] at g2
    | ret =>
     obtain⟨⟨F',O',δ',g1,g2⟩,g3⟩:=hp;obtain⟨rs,_,_,g4⟩:=je g2;simp [cG] at g4
    | _=>exact hp.elim
   | ext i l =>
    simp only [Jn] at h;subst h;cases e with
    | normal =>
     obtain⟨⟨F',O',δ',g1,g2⟩,g3⟩:=hp;simp [cG,bU] at g2
    | exit j =>
     obtain⟨⟨F',O',δ',g1,g2⟩,g3⟩:=hp;simp only [cG,bU,Jn,Out.ext.injEq] at g2;obtain⟨rfl,rfl⟩:=g2;simp only [dH,kB] at ho;exact hQ (.exit j) _ _ ⟨⟨F',O',_,g1.carry h2,ho⟩,g3⟩
    | ret =>
     obtain⟨⟨F',O',δ',g1,g2⟩,g3⟩:=hp;obtain⟨rs,_,_,g4⟩:=je g2;simp [cG] at g4
    | _=>exact hp.elim
   | ret x y =>
    simp only [Jn] at h;subst h;cases e with
    | normal =>
     obtain⟨⟨F',O',δ',g1,g2⟩,g3⟩:=hp;simp [cG,bU] at g2
    | exit j =>
     obtain⟨⟨F',O',δ',g1,g2⟩,g3⟩:=hp;simp [cG,bU] at g2
    | ret =>
     obtain⟨⟨F',O',δ',g1,g2⟩,g3⟩:=hp;obtain⟨rs,g5,g6,g4⟩:=je g2;simp only [cG,Jn,Out.ret.injEq] at g4;obtain⟨rfl,rfl⟩:=g4;exact hQ .ret _ _ ⟨⟨F',O',δ',g1,um g5 g6 ho⟩,g3⟩
    | _=>exact hp.elim
theorem iM (hT:okT P c.T=true) (hS:∀f S,dj c.S f=some S→aM c.G P f S) (hm:P.follows .mixedOrders=true) {V:Nat→Value}:∀(b:Code) (bid:Nat),dp c bid b=true→∀(F:Nat→Prop) (O:Nat→Option (Nat × Nat)) (a:Act) (w:World) (δ:List D),
  Inv c B X w0 F0 F O a w δ→IoV c V a→∀(k:Out→Option Out) (r:Out),den c bid b δ k=some r→∀Q,(∀e a w,CX c B X w0 F0 V k r e a w→Q e a w)→b.wp P Q a w
 | .skip,bid,_,F,O,a,w,δ,hI,hV,k,r,hg,Q,hQ=>wp_skip (hQ _ _ _ ⟨⟨F,O,δ,hI,hg⟩,hV⟩)
 | .region id ops d,bid,hok,F,O,a,w,δ,hI,hV,k,r,hg,Q,hQ=>by
  simp only [dp,Jj,Ju] at hok;have hq:∀a w,gd c B X w0 F0 V (fun δ=>k (.nrm δ)) r a w→Q .normal a w:=fun a w h=>hQ _ _ _ h
  cases d
  ·exact wp_region_list (qs hT hS hq ops.toList hok.1 F O a w δ hI hV hg)
  ·exact xO hT hS (by simpa using hok.2) hm hq hok.1 hI hV hg id
 | .seq x y,bid,hok,F,O,a,w,δ,hI,hV,k,r,hg,Q,hQ=>by
  simp only [dp,Jj] at hok;refine wp_seq (iM hT hS hm x bid hok.1 F O a w δ hI hV _ r hg _ (fun e a' w' hp=>?_))
  cases e with
  | normal =>
   obtain⟨⟨F',O',δ',hI',hk'⟩,hV'⟩:=hp;exact iM hT hS hm y bid hok.2 F' O' a' w' δ' hI' hV' k r hk' Q hQ
  | exit id=>exact hQ _ _ _ hp
  | ret=>exact hQ _ _ _ hp
  | _=>exact hp.elim
 | .cond x t e,bid,hok,F,O,a,w,δ,hI,hV,k,r,hg,Q,hQ=>by
  simp only [dp,Jj] at hok;obtain⟨⟨hlv,hok1⟩,hok2⟩:=hok;have hop:=hI.opd (bX.1 hlv);have key:ifD (opD δ x) (den c bid t δ k) (den c bid e δ k)=some r:=by
   simp only [den] at hg;cases x with
   | tmp s=>simpa only [opC,dT,opD] using hg
   | const v=>simpa only [opC,opD] using hg
   | func f=>simpa only [opC,opD] using hg
   | global g=>simp [opC] at hg
  unfold ifD at key;split at key
  ·rename_i hd
   rw [hd] at hop;exact wp_cond_true (br hop).1 (iM hT hS hm t bid hok1 F O a w δ hI hV k r key Q hQ)
  ·rename_i hd
   rw [hd] at hop;exact wp_cond_false (br hop).1 (iM hT hS hm e bid hok2 F O a w δ hI hV k r key Q hQ)
  ·cases key
 | .block id b,bid,hok,F,O,a,w,δ,hI,hV,k,r,hg,Q,hQ=>by
  simp only [dp] at hok;refine wp_block (iM hT hS hm b id hok F O a w δ hI hV _ r hg _ (fun e a' w' hp=>?_))
  cases e with
  | normal=>exact hQ .normal _ _ hp
  | exit i =>
   simp only [Exit.inBlock];have hp':gd c B X w0 F0 V (fun δ=>At id (.ext i δ) k) r a' w':=hp;split
   ·rename_i hi
    refine hQ .normal _ _ (iF hp' fun δ F O _ h=>?_)
    simp only [At] at h;rw [aQ.2 (by simpa using hi)] at h;exact h
   ·rename_i hi
    refine hQ (.exit i) _ _ (iF hp' fun δ F O _ h=>?_)
    simp only [At] at h;cases hb:Js i id
    ·rw [hb] at h;exact h
    ·exact absurd (by simpa using aQ.1 hb) hi
  | ret=>exact hQ .ret _ _ hp
  | _=>exact hp.elim
 | .loop b,bid,hok,F,O,a,w,δ,hI,hV,k,r,hg,Q,hQ=>by
  simp only [dp,Jj] at hok;obtain⟨hok1,hok2⟩:=hok;simp only [den] at hg;cases hH:dj c.H bid with
  | none=>rw [hH] at hg;cases hg
  | some hx =>
   obtain⟨hl,xl⟩:=hx;rw [hH] at hg hok2;simp only [Jj] at hok2;simp only [bU] at hg;obtain⟨o',h1,h2⟩:=Ji.1 hg;unfold bD at h1;split at h1
   case isFalse=>cases h1
   rename_i hex;refine wp_loop_rounds (JL hex) ?_
   refine tN (hl:=hl) (xl:=xl) hok2.1 hok2.2 (fun F O a w δ hI hV k r hg Q hQ=>iM hT hS hm b bid hok1 F O a w δ hI hV k r hg Q hQ) hQ h2 _ F O a w δ hI hV h1
 | .exit id,bid,_,F,O,a,w,δ,hI,hV,k,r,hg,Q,hQ=>wp_exit (hQ _ _ _ ⟨⟨F,O,δ,hI,hg⟩,hV⟩)
 | .ret,bid,_,F,O,a,w,δ,hI,hV,k,r,hg,Q,hQ=>wp_ret (hQ _ _ _ ⟨⟨F,O,δ,hI,hg⟩,hV⟩)
 | .label _,_,hok,_,_,_,_,_,_,_,_,_,_,_,_=>by simp [dp] at hok
 | .goto _,_,hok,_,_,_,_,_,_,_,_,_,_,_,_=>by simp [dp] at hok
 | .scope _,_,hok,_,_,_,_,_,_,_,_,_,_,_,_=>by simp [dp] at hok
end
end Go.V

namespace Go.V
open Go.RowKit
def qA:List ResultVar→List Nat
 | []=>[]
 | .tmp t::l=>t::qA l
 | .cell _ _::l=>qA l
def cB (c:Cx):List ResultVar→List Kd→Bool
 | [],[]=>true
 | .tmp t::l,.dat lv::m=>(match ao c.K t with
  | .dat l'=>Kv l' lv
  | _=>false)&&cB c l m
 | .tmp t::l,.own z lv false::m=>(match ao c.K t with
  | .own z' l' false=>Js z' z&&Kv l' lv
  | _=>false) && !lM t (qA l)&&cB c l m
 | .cell s t::l,.dat lv::m=>(match ao c.K s with
  | .box _ l' _=>Kv l' lv
  | _=>false)&&(dj c.T t).isSome&&cB c l m
 | _,_=>false
def pB:Nat→List Kd→List Nat
 | _,[]=>[]
 | i,k::ks=>if lE k then i::pB (i+1) ks else pB (i+1) ks
def eqK:Kd→Kd→Bool
 | .dat a,.dat b=>Js a b
 | .own a b io,.own a' b' io'=>Js a a'&&Js b b'&&io==io'
 | .box a b io,.box a' b' io'=>Js a a'&&Js b b'&&io==io'
 | _,_=>false
def zS:List Kd→List Kd→Bool
 | [],_=>true
 | k::ks,l::ls=>eqK k l&&zS ks ls
 | _,_=>false
section
variable {P:Program} {c:Cx} {B:Nat} {X:Nat→Prop} {w0:World} {F0 F:Nat→Prop} {O:Nat→Option (Nat × Nat)} {a:Act} {w:World} {δ:List D}
def mP (tmps:Array Value):ResultVar→Sem Value
 | .tmp t=>pure (tmps.getD t undef)
 | .cell a t=>do loadVar t (←asAddr (tmps.getD a undef))
theorem HE {k l:Kd} (h:eqK k l=true):k=l:=by
 unfold eqK at h;split at h
 ·rw [aQ] at h;rw [h]
 ·simp only [Jj,aQ,beq_iff_eq] at h
  obtain⟨⟨rfl,rfl⟩,rfl⟩:=h;rfl
 ·simp only [Jj,aQ,beq_iff_eq] at h
  obtain⟨⟨rfl,rfl⟩,rfl⟩:=h;rfl
 ·cases h
theorem sM:∀{ks ls:List Kd},zS ks ls=true→ks.length≤ls.length∧∀(i:Nat),i<ks.length→ao ls i=ao ks i
 | [],_,_=>⟨by simp,by simp⟩
 | k::ks,l::ls,h=>by
  simp only [zS,Jj] at h;obtain⟨h1,h2⟩:=sM h.2;refine⟨by simp;exact h1,fun i hi=>?_⟩
  cases i with
  | zero=>simp only [ao];exact(HE h.1).symm
  | succ i=>simp only [ao];exact h2 i (by simpa using hi)
 | _::_,[],h=>by simp [zS] at h
def Hk (B:Nat) (O:Nat→Option (Nat × Nat)) (res:List ResultVar) (j:Nat) (g:Nat):Prop:=B≤g∧∃t,res[j]?=some (.tmp t)∧O g=some (t,0)
theorem ku {w:World} {F:Nat→Prop} {B:Nat} {own own':Nat→Prop} {k:Kd} {d:D} {y:Value} (ho:(∃z lv,k = .own z lv false)→∀g,own g→own' g) (h:xS w F B own k d y):xS w F B own' k d y:=by
 rcases h with h | h
 ·exact .inl h
 ·refine .inr ?_
  cases k with
  | own z lv io =>
   cases io
   ·exact h.own fun _ _ hg=>⟨ho ⟨z,lv,rfl⟩ _ hg.1,hg.2⟩
   ·exact h
  | _=>exact h
theorem sv (hT:okT P c.T=true) (hI:Inv c B X w0 F0 F O a w δ):∀(res:List ResultVar) (rm:List Kd) (rs:List D),cB c res rm=true→ll c δ res (fun rs=>some (.nrm rs))=some (.nrm rs) →
  ∃vs:List Value,(res.mapM (mP a.tmps)).run P w = .ok vs w∧vs.length=rm.length∧rs.length=rm.length∧∀j,xS w F B (Hk B O res j) (ao rm j) (nth rs j) (vs.getD j undef)
 | [],[],rs,_,h=>by
  simp only [ll,Jn,Out.nrm.injEq] at h;subst h;exact⟨[],by simp,rfl,rfl,fun j=>.inl (by simp [nth])⟩
 | .tmp t::l,.dat lv::m,rs,hok,h=>by
  simp only [cB,Jj] at hok;simp only [ll,dT] at h;rw [iz] at h;obtain⟨o,h1,h2⟩:=Ji.1 h;split at h2
  case h_2=>cases h2
  rename_i rs';simp only [Jn,Out.nrm.injEq] at h2;subst h2;obtain⟨vs,g1,g2,g3,g4⟩:=sv hT hI l m rs' hok.2 h1;refine⟨a.tmps.getD t undef::vs,by simp [Ki,mP,g1],by simp [g2],by simp [g3],fun j=>?_⟩
  cases j with
  | zero =>
   simp only [ao,nth,Jy];have hk:=hok.1;split at hk
   case h_2=>cases hk
   rename_i l' hkt;exact(fT (bX.1 hk) (hI.dat hkt))
  | succ j =>
   refine ku (fun _ g hg=>?_) (g4 j)
   obtain⟨e1,t',e2,e3⟩:=hg;exact⟨e1,t',by simpa using e2,e3⟩
 | .tmp t::l,.own z lv false::m,rs,hok,h=>by
  simp only [cB,Jj] at hok;simp only [ll,dT] at h;rw [iz] at h;obtain⟨o,h1,h2⟩:=Ji.1 h;split at h2
  case h_2=>cases h2
  rename_i rs';simp only [Jn,Out.nrm.injEq] at h2;subst h2;obtain⟨vs,g1,g2,g3,g4⟩:=sv hT hI l m rs' hok.2 h1;refine⟨a.tmps.getD t undef::vs,by simp [Ki,mP,g1],by simp [g2],by simp [g3],fun j=>?_⟩
  cases j with
  | zero =>
   simp only [ao,nth,Jy];have hk:=hok.1.1;split at hk
   case h_2=>cases hk
   rename_i z' l' hkt;simp only [Jj,aQ,bX] at hk;obtain⟨rfl,hle⟩:=hk;by_cases hb:nth δ t = .bad
   ·exact .inl hb
   ·exact .inr (cV (jK hle) (fun _ _=>rfl) (fun g _ hg=>⟨⟨⟨hg.2 rfl,t,rfl,hg.1⟩,hg.2 rfl⟩,rfl⟩) (hI.own hkt hb))
  | succ j =>
   refine ku (fun _ g hg=>?_) (g4 j)
   obtain⟨e1,t',e2,e3⟩:=hg;exact⟨e1,t',by simpa using e2,e3⟩
 | .cell s t::l,.dat lv::m,rs,hok,h=>by
  simp only [cB,Jj] at hok;simp only [ll] at h;split at h
  case h_2=>cases h
  rename_i i hi;simp only [dT] at h;obtain⟨y,hy,h⟩:=Ji.1 h;rw [iz] at h;obtain⟨o,h1,h2⟩:=Ji.1 h;split at h2
  case h_2=>cases h2
  rename_i rs';simp only [Jn,Out.nrm.injEq] at h2;subst h2;obtain⟨vs,g1,g2,g3,g4⟩:=sv hT hI l m rs' hok.2 h1;have hk:=hok.1.1;split at hk
  case h_2=>cases hk
  rename_i n l' io hks;rw [bX] at hk;have hb:nth δ s ≠ .bad:=by
   intro e;rw [e] at hy;simp [bM] at hy
  obtain⟨mm,us,g,e,hd',a1,a2,a3,a4,a5,a6⟩:=hI.box hks hb;rw [hd'] at hy;simp only [bM,Jr] at hy;have hcell:cP w g 0 us:=lX a2 (fun i u hu=>by simpa using hu);obtain⟨v,hv,hr⟩:=rG (P:=P) (tok hT hi) a3 a4 hcell hy;have hv':(mP a.tmps (.cell s t)).run P w = .ok v w:=by
   have e1:a.tmps.getD s undef = .pointer (some ⟨g,0,none⟩):=a1;simp only [mP,e1];simpa [Instr.loadAt,Instr.sureAddr,asAddr] using hv
  refine⟨v::vs,by simp [Ki,hv',g1],by simp [g2],by simp [g3],fun j=>?_⟩
  cases j with
  | zero =>
   simp only [ao,nth,Jy];exact .inr (aS (jK hk) (fun _ _=>rfl) hr)
  | succ j =>
   refine ku (fun _ g hg=>?_) (g4 j)
   obtain⟨e1,t',e2,e3⟩:=hg;exact⟨e1,t',by simpa using e2,e3⟩
 | [],_::_,_,hok,_=>by simp [cB] at hok
 | .tmp _::_,[],_,hok,_=>by simp [cB] at hok
 | .cell _ _::_,[],_,hok,_=>by simp [cB] at hok
 | .tmp _::_,.own _ _ true::_,_,hok,_=>by simp [cB] at hok
 | .tmp _::_,.box _ _ _::_,_,hok,_=>by simp [cB] at hok
 | .tmp _::_,.via _::_,_,hok,_=>by simp [cB] at hok
 | .tmp _::_,.ref _::_,_,hok,_=>by simp [cB] at hok
 | .tmp _::_,.tup _::_,_,hok,_=>by simp [cB] at hok
 | .tmp _::_,.no::_,_,hok,_=>by simp [cB] at hok
 | .cell _ _::_,.own _ _ _::_,_,hok,_=>by simp [cB] at hok
 | .cell _ _::_,.box _ _ _::_,_,hok,_=>by simp [cB] at hok
 | .cell _ _::_,.via _::_,_,hok,_=>by simp [cB] at hok
 | .cell _ _::_,.ref _::_,_,hok,_=>by simp [cB] at hok
 | .cell _ _::_,.tup _::_,_,hok,_=>by simp [cB] at hok
 | .cell _ _::_,.no::_,_,hok,_=>by simp [cB] at hok
def rT:List ResultVar→Nat→Nat→Option Nat
 | [],_,_=>none
 | .tmp t::l,s,j=>if t=s then some j else rT l s (j+1)
 | .cell _ _::l,s,j=>rT l s (j+1)
theorem qz:∀{res:List ResultVar} {j t:Nat},res[j]?=some (.tmp t)→t∈qA res
 | .tmp s::l,0,t,h=>by simp at h;simp [qA,h]
 | .cell _ _::l,0,t,h=>by simp at h
 | .tmp s::l,j+1,t,h=>by simp only [qA,Jt];exact .inr (qz (by simpa using h))
 | .cell _ _::l,j+1,t,h=>by simp only [qA];exact qz (by simpa using h)
theorem mp:∀(res:List ResultVar) (rm:List Kd),cB c res rm=true→∀(j t i:Nat) (z lv:Nat),ao rm j = .own z lv false→res[j]?=some (.tmp t)→rT res t i=some (i+j)∧∃z' l',ao c.K t = .own z' l' false
 | [],[],_,j,t,i,z,lv,h,_=>by simp [ao] at h
 | .tmp s::l,.dat lv'::m,hok,j,t,i,z,lv,h,hj=>by
  simp only [cB,Jj] at hok;cases j with
  | zero=>simp [ao] at h
  | succ j =>
   obtain⟨h1,h2⟩:=mp l m hok.2 j t (i+1) z lv (by simpa [ao] using h) (by simpa using hj);refine⟨?_,h2⟩
   simp only [rT];rw [if_neg,h1]
   ·congr 1;omega
   ·rintro rfl
    obtain⟨z',l',hk⟩:=h2;rw [hk] at hok;cases hok.1
 | .tmp s::l,.own z0 lv0 false::m,hok,j,t,i,z,lv,h,hj=>by
  simp only [cB,Jj] at hok;cases j with
  | zero =>
   simp at hj;subst hj;refine⟨by simp [rT],?_⟩
   have hk:=hok.1.1;split at hk
   ·exact⟨_,_,‹_›⟩
   ·cases hk
  | succ j =>
   obtain⟨h1,h2⟩:=mp l m hok.2 j t (i+1) z lv (by simpa [ao] using h) (by simpa using hj);refine⟨?_,h2⟩
   simp only [rT];rw [if_neg,h1]
   ·congr 1;omega
   ·rintro rfl
    have hm:=hok.1.2;rw [gq] at hm;simp only [Jx,decide_eq_false_iff_not] at hm;exact hm (qz (by simpa using hj))
 | .cell s s'::l,.dat lv'::m,hok,j,t,i,z,lv,h,hj=>by
  simp only [cB,Jj] at hok;cases j with
  | zero=>simp [ao] at h
  | succ j =>
   obtain⟨h1,h2⟩:=mp l m hok.2 j t (i+1) z lv (by simpa [ao] using h) (by simpa using hj);refine⟨?_,h2⟩
   simp only [rT];rw [h1];congr 1;omega
 | [],_::_,hok,_,_,_,_,_,_,_=>by simp [cB] at hok
 | .tmp _::_,[],hok,_,_,_,_,_,_,_=>by simp [cB] at hok
 | .cell _ _::_,[],hok,_,_,_,_,_,_,_=>by simp [cB] at hok
 | .tmp _::_,.own _ _ true::_,hok,_,_,_,_,_,_,_=>by simp [cB] at hok
 | .tmp _::_,.box _ _ _::_,hok,_,_,_,_,_,_,_=>by simp [cB] at hok
 | .tmp _::_,.via _::_,hok,_,_,_,_,_,_,_=>by simp [cB] at hok
 | .tmp _::_,.ref _::_,hok,_,_,_,_,_,_,_=>by simp [cB] at hok
 | .tmp _::_,.tup _::_,hok,_,_,_,_,_,_,_=>by simp [cB] at hok
 | .tmp _::_,.no::_,hok,_,_,_,_,_,_,_=>by simp [cB] at hok
 | .cell _ _::_,.own _ _ _::_,hok,_,_,_,_,_,_,_=>by simp [cB] at hok
 | .cell _ _::_,.box _ _ _::_,hok,_,_,_,_,_,_,_=>by simp [cB] at hok
 | .cell _ _::_,.via _::_,hok,_,_,_,_,_,_,_=>by simp [cB] at hok
 | .cell _ _::_,.ref _::_,hok,_,_,_,_,_,_,_=>by simp [cB] at hok
 | .cell _ _::_,.tup _::_,hok,_,_,_,_,_,_,_=>by simp [cB] at hok
 | .cell _ _::_,.no::_,hok,_,_,_,_,_,_,_=>by simp [cB] at hok
theorem sL {w:World} {F:Nat→Prop} {ow:Nat→Option Nat}:∀(pm:List Kd) (ds:List D) (ys:List Value) (i:Nat),dA w F ow i pm ds ys→ds.length=pm.length∧ys.length=pm.length∧∀(j:Nat),j<pm.length→eo w F (fun g=>ow g=some (i+j)) (ao pm j) (nth ds j) (ys.getD j undef)
 | [],[],[],_,_=>⟨rfl,rfl,fun j h=>by simp at h⟩
 | k::pm,d::ds,y::ys,i,h=>by
  obtain⟨h1,h2⟩:=h;obtain⟨g1,g2,g3⟩:=sL pm ds ys (i+1) h2;refine⟨by simp [g1],by simp [g2],fun j hj=>?_⟩
  cases j with
  | zero=>exact h1
  | succ j =>
   have:=g3 j (by simpa using hj);simp only [ao,nth,List.getD_cons_succ];rw [show i+(j+1)=i+1+j from by omega];exact this
 | [],[],_::_,_,h=>h.elim
 | [],_::_,_,_,h=>h.elim
 | _::_,[],_,_,h=>h.elim
 | _::_,_::_,[],_,h=>h.elim
theorem yk {w:World} {F:Nat→Prop} {δ:List D}:∀(pm:List Kd) (ys:List Value) (i:Nat),ys.length=pm.length→(∀(j:Nat),j<pm.length→lE (ao pm j)=true→nth δ (i+j) ≠ .bad∧eo w F (fun _=>True) (ao pm j) (nth δ (i+j)) (ys.getD j undef))→lK w F pm (ak δ (pB i pm)) ys
 | [],ys,i,_,_=>by simp [pB,ak,lK]
 | k::pm,[],i,hl,_=>by simp at hl
 | k::pm,y::ys,i,hl,h=>by
  have ih:=yk pm ys (i+1) (by simpa using hl) (fun j hj hio=>by
   have:=h (j+1) (by simpa using hj) (by simpa [ao] using hio);rw [show i+1+j=i+(j+1) from by omega];simpa [ao] using this)
  cases hk:lE k with
  | true =>
   have h0:=h 0 (by simp) (by simpa [ao] using hk);simp only [pB,hk,if_true,ak,lK];exact⟨by simpa using h0.1,by simpa [ao] using h0.2,ih⟩
  | false=>simpa only [pB,hk,Jq,if_false,lK] using ih
theorem tv:∀(pm:List Kd) (i j:Nat),j<pm.length→lE (ao pm j)=true→i+j∈pB i pm
 | k::pm,i,0,_,h=>by
  simp only [ao] at h;simp [pB,h]
 | k::pm,i,j+1,hj,h=>by
  have ih:=tv pm (i+1) j (by simpa using hj) (by simpa [ao] using h);rw [show i+(j+1)=i+1+j from by omega];simp only [pB];split
  ·exact List.mem_cons_of_mem _ ih
  ·exact ih
theorem oP:∀(n:Nat) (l:List D) (s:Nat),l.length≤n→nth (oa n l) s=nth l s
 | 0,l,s,h=>by
  have:l=[]:=JF (by omega);subst this;simp [oa]
 | n+1,[],s,_=>by
  cases s with
  | zero=>simp [nth]
  | succ s=>simp only [nth];rw [oP n [] s (by simp)]
 | n+1,d::l,s,h=>by
  cases s with
  | zero=>simp [nth]
  | succ s=>simp only [nth];exact oP n l s (by simpa using h)
theorem pe:∀(n:Nat) (l:List D),(oa n l).length=n
 | 0,_=>rfl
 | n+1,[]=>by simp [oa,pe n []]
 | n+1,_::l=>by simp [oa,pe n l]
def BI (c:Cx) (fn:Func) (pm rm:List Kd):Bool :=
 (match fn.body with
  | some b=>dp c 0 b
  | none=>false)&&Js (iQ c.K) fn.ntmps&&zS pm c.K&&ir pm&&cB c c.res rm&&decide (c.ios=pB 0 pm)
theorem rE:∀{pm:List Kd},ir pm=true→∀j,j<pm.length→(∃lv,ao pm j = .dat lv∧lv≠1)∨(∃z lv,ao pm j = .own z lv true∧lv≠1)∨∃n lv,ao pm j = .box n lv true∧lv≠1
 | m::pm,h,j,hj=>by
  obtain⟨h1,h2,h3⟩:=xt h;cases j with
  | succ j=>exact rE h1 j (by simpa using hj)
  | zero =>
   simp only [ao];cases m with
   | dat lv =>
    refine .inl ⟨lv,rfl,?_⟩
    simp only [ir] at h;split at h
    case h_2=>cases h
    rename_i e1 e2;intro e;subst e;simp at e1
   | own z lv io =>
    cases io
    ·simp [ir] at h
    ·exact .inr (.inl ⟨z,lv,rfl,h2 z lv rfl⟩)
   | box n lv io =>
    cases io
    ·simp [ir] at h
    ·exact .inr (.inr ⟨n,lv,rfl,h3 n lv rfl⟩)
   | _=>simp [ir] at h
theorem DQ (hT:okT P c.T=true) (hS:∀f S,dj c.S f=some S→aM c.G P f S) (hm:P.follows .mixedOrders=true) {f:FuncId} {fn:Func} (hf:P.funcs[f]?=some fn) {pm rm:List Kd} (hok:BI c fn pm rm=true) (hres:c.res=fn.results.toList)
  {ds rs us:List D} (hd:cj c fn ds=some (.ret rs us)) {args:Array Value} {w:World} {F:Nat→Prop} {ow:Nat→Option Nat} (hgl:gOk c.G w F) (ha:dA w F ow 0 pm ds args.toList) (hF:∀b,F b→b<w.heap.size∧ow b=none) (hO:∀b i,ow b=some i→b<w.heap.size) :
  Calls P f args w fun e w'=>∃v,e = .returned v∧∃F' R vs,v=jB vs∧CallPost {pm:=pm,rm:=rm,f:=cj c fn} args rs us w F ow F' R vs w':=by
 unfold BI at hok;simp only [Jj,decide_eq_true_eq] at hok;obtain⟨⟨⟨⟨⟨hcode,hlenK⟩,hpre⟩,hpm⟩,hokr⟩,hios⟩:=hok;rw [aQ,jQ] at hlenK;obtain⟨hpl,hpn⟩:=sM hpre;obtain⟨hdl,hal,hargs⟩:=sL pm ds args.toList 0 ha;have hasz:args.size=pm.length:=by simpa using hal
 unfold cj at hd;cases hb:fn.body with
 | none=>rw [hb] at hd;cases hd
 | some b =>
  rw [hb] at hd hcode;simp only at hd hcode;refine calls_of_wp hf hb ?_
  have hav:∀s,s<pm.length→av ({tmps:=args++JE (fn.ntmps - args.size) undef,defers:=[]}:Act) s=args.toList.getD s undef:=fun s hs=>by
   have h1:s<args.size:=by omega
   simp only [av,Jl,Jm,JI];rw [Array.getElem?_append_left h1]
  have hinit:Inv c w.heap.size (fun b=>ow b≠none) w F F (fun b=>(ow b).map fun i=>(i,0)) {tmps:=args++JE (fn.ntmps - args.size) undef,defers:=[]} w (oa fn.ntmps ds):=by
   refine⟨by simp;omega,by rw [pe,hlenK],rfl,fun s=>?_,fun b hb=>⟨(hF b hb).1,by simp [(hF b hb).2]⟩,fun b p hp=>?_,fun _ h=>h,fun _ h=>.inl h,JY _,rfl,rfl,rfl,fun _ _ _=>rfl,hgl⟩
   ·unfold te
    rw [oP _ _ _ (by rw [hdl];omega)];by_cases hs:s<pm.length
    ·rw [hpn s hs,hav s hs]
     rcases hargs s hs with hbad | harg
     ·exact .inl hbad
     refine .inr ?_
     have hlv:∀lv,lv≠1→∀b,FB F 0 lv b→FB F w.heap.size lv b:=fun lv h1 b hb=>by
      match lv,h1 with
      | 0,_=>exact hb
      | _+2,_=>exact hb
     rcases rE hpm s hs with ⟨lv,hk,h1⟩ | ⟨z,lv,hk,h1⟩ | ⟨n,lv,hk,h1⟩
     ·rw [hk] at harg ⊢
      exact .inr (aS (hlv lv h1) (fun _ _=>rfl) harg)
     ·rw [hk] at harg ⊢
      exact .inr (cV (hlv lv h1) (fun _ _=>rfl) (fun g _ hg=>⟨⟨by simp only [Kn] at hg;simp [hg],fun h=>by cases h⟩,rfl⟩) harg)
     ·rw [hk] at harg ⊢
      exact .inr (gC (hlv lv h1) (fun _ _=>rfl) (fun g _ hg=>⟨⟨by simp only [Kn] at hg;simp [hg],fun h=>by cases h⟩,rfl⟩) harg)
    ·refine .inl ?_
     rw [fO,Jm,JG (by omega)];rfl
   ·obtain⟨i,hi,rfl⟩:=Jk.1 hp
    exact⟨hO b i hi,.inr (by rw [hi];simp)⟩
  refine iM hT hS hm b 0 hcode F _ _ w _ hinit (V:=av {tmps:=args++JE (fn.ntmps - args.size) undef,defers:=[]}) (fun _ _=>rfl) _ _ hd _ (fun e a' w' hp=>?_)
  have fin:gd c w.heap.size (fun b=>ow b≠none) w F (av {tmps:=args++JE (fn.ntmps - args.size) undef,defers:=[]}) (fun δ=>Bj c δ some) (.ret rs us) a' w'→a'.defers=[]∧∃v,(results fn a'.tmps).run P w' = .ok v w'∧∃v',Ending.returned v = .returned v'∧∃F' R vs,v'=jB vs∧CallPost {pm:=pm,rm:=rm,f:=cj c fn} args rs us w F ow F' R vs w':=by
   rintro⟨⟨F',O',δ',hI',hk⟩,hV'⟩;obtain⟨rs',h1,h2,h3⟩:=je hk;simp only [Jn,Out.ret.injEq] at h3;obtain⟨rfl,rfl⟩:=h3;obtain⟨vs,g1,g2,g3,g4⟩:=sv (P:=P) hT hI' c.res rm rs' hokr h1;refine⟨hI'.df,jB vs,?_,_,rfl,F',fun b=>if w.heap.size≤b then(match O' b with
    | some (t,0)=>rT c.res t 0
    | _=>none) else none,vs,rfl,?_⟩
   ·have hrun:(fn.results.mapM (mP a'.tmps)).run P w' = .ok vs.toArray w':=by
     rw [Array.mapM_eq_mapM_toList,←hres];simp [g1]
    have hrw:results fn a'.tmps=(do
      let vs ←fn.results.mapM (mP a'.tmps)
      pure (if h:vs.size=1 then vs[0] else .tuple vs)):=by
     unfold results;congr 1
    rw [hrw];simp only [Sem.run_bind,hrun,Result.andThen_ok,Sem.run_pure];congr 1
    rcases vs with _ | ⟨y,_ | ⟨y',vs⟩⟩
    ·simp [jB]
    ·simp [jB]
    ·simp [jB]
   ·refine⟨hI'.os,hI'.tape,hI'.output,hI'.bb,fun b hb ho=>hI'.keep b hb (by simp [ho]),hI'.f0,fun b hb=>⟨hI'.fn b hb,(hI'.fl b hb).1,by simp only [(hI'.fl b hb).2];split<;>rfl⟩,fun b j hj=>?_,g2,g3,fun j=>?_,?_⟩
    ·split at hj
     case isFalse=>cases hj
     rename_i hB;refine⟨hB,?_⟩
     split at hj
     ·rename_i t he;exact(hI'.ol b _ he).1
     ·cases hj
    ·refine ku (fun hk g hg=>?_) (g4 j)
     obtain⟨z,lv,hk⟩:=hk;obtain⟨e1,t,e2,e3⟩:=hg;rw [if_pos e1];simp only [e3];have:=(mp c.res rm hokr j t 0 z lv hk e2).1;simpa using this
    ·rw [hios]
     refine yk pm args.toList 0 hal (fun j hj hio=>?_)
     rw [Kn];have hkj:=hpn j hj;have hbj:nth δ' j ≠ .bad:=by
      refine h2 _ ?_
      rw [hios,my];exact List.mem_map_of_mem (by simpa using tv pm 0 j hj hio)
     have havj:av a' j=args.toList.getD j undef:=(hV' j (by rw [hkj];exact hio)).trans (hav j hj);have hlv:∀lv,lv≠1→∀b,FB F' w.heap.size lv b→FB F' 0 lv b:=fun lv h1 b hb=>by
      match lv,h1 with
      | 0,_=>exact hb
      | _+2,_=>exact hb
     refine⟨hbj,.inr ?_⟩
     rcases rE hpm j hj with ⟨lv,hk,h1⟩ | ⟨z,lv,hk,h1⟩ | ⟨n,lv,hk,h1⟩
     ·rw [hk] at hio;cases hio
     ·have h5:=hI'.own (hkj.trans hk) hbj
      rw [havj] at h5;rw [hk];exact cV (hlv lv h1) (fun _ _=>rfl) (fun _ _ _=>⟨trivial,rfl⟩) h5
     ·have h5:=hI'.box (hkj.trans hk) hbj
      rw [havj] at h5;rw [hk];exact gC (hlv lv h1) (fun _ _=>rfl) (fun _ _ _=>⟨trivial,rfl⟩) h5
  cases e with
  | normal=>exact fin hp
  | exit i =>
   obtain⟨⟨_,_,_,_,h⟩,_⟩:=hp;cases h
  | ret =>
   refine fin (iF hp fun δ F O _ h=>?_)
   obtain⟨rs',h1,h2,h3⟩:=je h;exact um h1 h2 h3
  | _=>exact hp.elim
theorem Fw (hT:okT P c.T=true) (hS:∀f S,dj c.S f=some S→aM c.G P f S) (hm:P.follows .mixedOrders=true) {f:FuncId} {fn:Func} (hf:P.funcs[f]?=some fn) (hname:(fn.name== "runtime.NumGoroutine")=false) {pm rm:List Kd} (hok:BI c fn pm rm=true) (hres:c.res=fn.results.toList) :
  aM c.G P f {pm:=pm,rm:=rm,f:=cj c fn}:=by
 intro ds rs us hd args w F ow hgl ha hF hO o a next Q hn
 have hbody:∃b,fn.body=some b:=by
  have hd':cj c fn ds=some (.ret rs us):=hd;unfold cj at hd';cases hb:fn.body with
  | none=>rw [hb] at hd';cases hd'
  | some b=>exact⟨b,rfl⟩
 obtain⟨b,hb⟩:=hbody;have hrun:(callFunc f args).run P w = .ok (.enter f args) w:=by
  have h1:¬fn.name= "runtime.NumGoroutine":=by simpa using hname
  simp [callFunc,hf,h1,hb]
 rw [hrun,Ku];refine Kj (DQ hT hS hm hf hok hres hd hgl ha hF hO) (fun e w' he=>?_)
 obtain⟨v,rfl,F',R,vs,h1,h2⟩:=he;exact hn v w' ⟨F',R,vs,h1,h2⟩
end
end Go.V

namespace Go.V
def sl (s:List D) (i:Nat):D:=nth s i
def ifN (b:Bool) (t e:Option Out):Option Out :=
 match b with
 | true=>t
 | false=>e
theorem aK {P:Program} {G:List (Nat × (Obj→Prop))}:∀(f:Nat) (S:FS),dj ([]:List (Nat × FS)) f=some S→aM G P f S:=by
 intro f S h;cases h
theorem aj {P:Program} {G:List (Nat × (Obj→Prop))} {g:Nat} {S0:FS} {l:List (Nat × FS)} (h0:aM G P g S0) (h:∀(f:Nat) (S:FS),dj l f=some S→aM G P f S):∀(f:Nat) (S:FS),dj ((g,S0)::l) f=some S→aM G P f S:=by
 intro f S hl;simp only [dj] at hl;split at hl
 ·rename_i hb
  have:=aQ.1 hb;subst this;cases hl;exact h0
 ·exact h f S hl
open Go.RowKit
section
variable {P:Program} {c:Cx} {B:Nat} {X:Nat→Prop} {w0:World} {F0 F:Nat→Prop} {O:Nat→Option (Nat × Nat)} {a:Act} {w:World} {δ:List D} {fz:List Nat}
end
end Go.V

namespace Go.V
open Go.RowKit
section
variable {P:Program} {c:Cx} {B:Nat} {X:Nat→Prop} {w0:World} {F0 F:Nat→Prop} {O:Nat→Option (Nat × Nat)} {a:Act} {w:World} {δ:List D} {fz:List Nat}
end
end Go.V

namespace Go.V
open Go.RowKit Go.WideShapes Go.ChangeShapes
mutual
inductive Sh where
 | int (k:IntKind)
 | bool
 | str
 | sl (e:Sh)
 | st (l:ShL)
inductive ShL where
 | nil
 | cons (h:Sh) (t:ShL)
end
mutual
def Sh.size:Sh→Nat
 | .int _=>1
 | .bool=>1
 | .str=>1
 | .sl _=>1
 | .st l=>l.size
def ShL.size:ShL→Nat
 | .nil=>0
 | .cons h t=>h.size+t.size
end
def Sh.isSt:Sh→Bool
 | .st _=>true
 | _=>false
mutual
def Sh.flat:Sh→Bool
 | .int _=>true
 | .bool=>true
 | .str=>true
 | .sl _=>false
 | .st l=>l.flat
def ShL.flat:ShL→Bool
 | .nil=>true
 | .cons h t=>h.flat&&t.flat
end
def wrap (ag:Bool) (m:List D):D:=if ag then .agg m else nth m 0
mutual
def Sh.Is:Sh→List D→Prop
 | .int k,l=>∃n,l=[.v (.int k n)]∧k.min≤n∧n≤k.max
 | .bool,l=>∃b,l=[B b]
 | .str,l=>∃s,l=[T s]∧s.size≤maxLen
 | .sl e,l=>∃ds,l=[.arr e.size ds]∧ds.length≤maxLen∧∀d∈ds,∃m,e.Is m∧d=wrap e.isSt m
 | .st fs,l=>fs.Is l
def ShL.Is:ShL→List D→Prop
 | .nil,l=>l=[]
 | .cons h t,l=>∃a b,l=a++b∧h.Is a∧t.Is b
end
mutual
def Sh.ok (P:Program):Sh→TypeId→Bool
 | .int k,t=>match P.underlying t with
  | some (.int k')=>decide (k'=k)
  | _=>false
 | .bool,t=>match P.underlying t with
  | some .bool=>true
  | _=>false
 | .str,t=>match P.underlying t with
  | some .string=>true
  | _=>false
 | .sl e,t=>match P.underlying t with
  | some (.slice u)=>e.ok P u&&decide (P.cellsOf u=e.size)&&decide (0<e.size)
  | _=>false
 | .st l,t=>match P.underlying t with
  | some (.struct fs)=>l.ok P 0 fs.toList&&decide (P.cellsOf t=l.size)
  | _=>false
def ShL.ok (P:Program):ShL→Nat→List Field→Bool
 | .nil,_,[]=>true
 | .cons h t,off,f::fs=>decide (f.offset=off)&&h.ok P f.type&&decide (P.cellsOf f.type=h.size)&&t.ok P (off+h.size) fs
 | _,_,_=>false
end
section
variable {H:Type} {enc:TypeId × Value→H} {P:Program} {W:World}
theorem Sh.len_one {sh:Sh} (h:sh.isSt=false):sh.size=1:=by
 cases sh<;>simp_all [Sh.isSt,Sh.size]
theorem Fs {a:Addr} {n:Nat} {vs:List Value} (h:W.cells? 0 a n=some vs):vs.length=n∧∀i u,vs[i]?=some u→W.cell? (a.add i)=some u:=by
 simp only [World.cells?,Nat.zero_le,if_true] at h;have hl:=mapM_some_length h;rw [List.length_range] at hl;refine⟨hl,fun i u hu=>?_⟩
 have hi:i<n:=by
  rw [←hl];exact(JP.1 hu).1
 rw [mapM_some_get h i i (by simp [hi]),hu]
theorem FP (a:Addr) (i j:Nat):(a.add i).add j=a.add (i+j):=by
 unfold Addr.add;by_cases hi:i=0<;>by_cases hj:j=0<;>simp [hi,hj,Nat.add_assoc]
theorem Dr {a:Addr} {u:Value} (h:W.cell? a=some u):a.spot=none∧a.block<W.heap.size:=by
 unfold World.cell? at h;split at h
 case h_2=>cases h
 rename_i hb;split at h
 ·cases h
 rename_i hs;refine⟨by simpa using hs,?_⟩
 rcases Nat.lt_or_ge a.block W.heap.size with h' | h'
 ·exact h'
 ·rw [Array.getElem?_eq_none h'] at hb;cases hb
theorem jq {F:Nat→Prop} {d:D} {vs:List Value}:bF W F [d] vs↔RepC W F d vs:=by
 rw [aA];constructor
 ·rintro⟨v1,v2,rfl,h1,h2⟩
  rw [aP.1 h2,List.append_nil];exact h1
 ·intro h
  exact⟨vs,[],by simp,h,aP.2 rfl⟩
theorem CQ {F:Nat→Prop} {sh:Sh} {L:List D} {vs:List Value} (hr:bF W F L vs) (hs:L.all D.single=true) (hl:L.length=sh.size):RepC W F (wrap sh.isSt L) vs∧(wrap sh.isSt L).width=sh.size:=by
 cases hb:sh.isSt
 ·have h1:=Sh.len_one hb
  match L,hl.trans h1 with
  | [d],_ =>
   simp only [wrap,Jq,if_false,nth];refine⟨jq.1 hr,?_⟩
   rw [h1];exact(dN (by simpa using hs)).1
 ·simp only [wrap,if_true]
  refine⟨by rw [RepC];exact⟨hr,hs⟩,?_⟩
  simpa [D.width,D.cells] using hl
mutual
theorem Sh.opened:∀(sh:Sh) (t:TypeId) (fuel:Nat) (cs:List Value) (x:DataW H × List MemPlace),sh.ok P t=true→DataW.trod enc P W 0 (fun _=>true) true fuel t cs=some x →
  ∃L,sh.Is L∧bF W (·<W.heap.size) L cs∧L.all D.single=true∧L.length=sh.size
 | .int k,t,fuel,cs,x,hok,h=>by
  simp only [Sh.ok] at hok;split at hok
  case h_2=>cases hok
  rename_i k' hu;have hk:=of_decide_eq_true hok;subst hk;obtain⟨n,rfl,-,hw⟩:=DataW.trod_int hu h;simp only [Lit.wf,Jj,decide_eq_true_eq] at hw;refine⟨[.v (.int k' n)],⟨n,rfl,hw⟩,jq.2 ?_,rfl,rfl⟩
  simp [RepC,V.flat]
 | .bool,t,fuel,cs,x,hok,h=>by
  simp only [Sh.ok] at hok;split at hok
  case h_2=>cases hok
  rename_i hu;obtain⟨n,rfl,-⟩:=DataW.trod_bool hu h;refine⟨[B n],⟨n,rfl⟩,jq.2 ?_,rfl,rfl⟩
  simp [RepC,V.flat]
 | .str,t,fuel,cs,x,hok,h=>by
  simp only [Sh.ok] at hok;split at hok
  case h_2=>cases hok
  rename_i hu;obtain⟨s,rfl,-,hw⟩:=DataW.trod_string hu h;refine⟨[T s],⟨s,rfl,hw⟩,jq.2 ?_,rfl,rfl⟩
  simp [RepC,V.flat]
 | .sl e,t,fuel,cs,x,hok,h=>by
  simp only [Sh.ok] at hok;split at hok
  case h_2=>cases hok
  rename_i u hu;simp only [Jj,decide_eq_true_eq] at hok;obtain⟨⟨hok,hz⟩,hpos⟩:=hok;rcases DataW.trod_slice hu h with ⟨rfl,-⟩ | ⟨a,len,cap,elems,rest,n,rfl,rfl,-,-,hle,hcap,hlen,hel,-⟩
  ·refine⟨[.arr e.size []],⟨[],rfl,by simp,by simp⟩,jq.2 ?_,rfl,rfl⟩
   rw [RepC];exact⟨none,0,[],rfl,JY _,aP.2 rfl,by simp,by simp⟩
  ·have key:∀k,k≤len→∃ds us,ds.length=k∧us.length=k*e.size∧bF W (·<W.heap.size) ds us∧(∀d∈ds,d.width=e.size)∧(∀d∈ds,∃m,e.Is m∧d=wrap e.isSt m)∧∀i v,us[i]?=some v→W.cell? (a.add i)=some v:=by
    intro k;induction k with
    | zero=>exact fun _=>⟨[],[],rfl,by simp,aP.2 rfl,by simp,by simp,by simp⟩
    | succ k ih =>
     intro hk;obtain⟨ds,us,h1,h2,h3,h4,h5,h6⟩:=ih (by omega);have hi:=hel k (by omega);rw [Jp (by omega)] at hi;obtain⟨vs,hc,hd⟩:=Ji.1 hi;obtain⟨L,g1,g2,g3,g4⟩:=Sh.opened e u n vs _ hok hd;obtain⟨g5,g6⟩:=Fs hc;obtain⟨g7,g8⟩:=CQ g2 g3 g4;rw [hz] at g5 g6;refine⟨ds++[wrap e.isSt L],us++vs,by simp [h1],by simp [h2,g5,Nat.succ_mul],(cM _ _ _).2 ⟨us,vs,rfl,h3,jq.2 g7⟩,?_,?_,fun i v hv=>?_⟩
     ·intro d hd
      rcases JW.1 hd with hd | hd
      ·exact h4 d hd
      ·simp at hd;subst hd;exact g8
     ·intro d hd
      rcases JW.1 hd with hd | hd
      ·exact h5 d hd
      ·simp at hd;subst hd;exact⟨L,g1,rfl⟩
     ·rcases Nat.lt_or_ge i us.length with hlt | hge
      ·rw [List.getElem?_append_left hlt] at hv
       exact h6 i v hv
      ·rw [List.getElem?_append_right hge] at hv
       have:=g6 _ v hv;rw [FP,←h2] at this;rw [show us.length+(i - us.length)=i from by omega] at this;exact this
   obtain⟨ds,us,h1,h2,h3,h4,h5,h6⟩:=key len (JY _);refine⟨[.arr e.size ds],⟨ds,rfl,by omega,h5⟩,jq.2 ?_,rfl,rfl⟩
   rw [RepC];refine⟨some a,cap,us,by rw [h1],by omega,h3,h4,fun hne=>?_⟩
   have hpl:0<us.length:=by
    rw [h2,←h1];exact Nat.mul_pos (List.length_pos_iff.2 hne) hpos
   have h0:=h6 0 _ (Jp hpl);have ha0:a.add 0=a:=by simp [Addr.add]
   rw [ha0] at h0;obtain⟨hsp,hbl⟩:=Dr h0;have ea:a=⟨a.block,a.off,none⟩:=by
    rw [←hsp]
   refine⟨a.block,a.off,by rw [←ea],hbl,fun i v hv=>?_⟩
   have:=h6 i v hv;unfold Addr.add at this;split at this
   ·rename_i hi0
    subst hi0;rw [Nat.add_zero,←ea];exact this
   ·rw [←hsp]
    rw [hsp];exact this
 | .st l,t,fuel,cs,x,hok,h=>by
  simp only [Sh.ok] at hok;split at hok
  case h_2=>cases hok
  rename_i fs hu;simp only [Jj,decide_eq_true_eq] at hok;obtain⟨xs,n,rfl,-,hlen,hxl,hf⟩:=DataW.trod_struct hu h;obtain⟨L,g1,g2,g3,g4⟩:=ShL.opened l 0 fs.toList n cs hok.1 (fun f hf'=>by
   obtain⟨i,hi,he⟩:=List.mem_iff_getElem.1 hf';have:=hf i f (by rw [←he];simp at hi ⊢);rw [Jp (by simp at hi;omega)] at this;exact⟨_,this⟩)
  rw [Jr,←hok.2,←hlen,Kr] at g2;exact⟨L,g1,g2,g3,g4⟩
theorem ShL.opened:∀(l:ShL) (off:Nat) (fs:List Field) (fuel:Nat) (cs:List Value),l.ok P off fs=true→(∀f∈fs,∃x,DataW.trod enc P W 0 (fun _=>true) true fuel f.type ((cs.drop f.offset).take (P.cellsOf f.type))=some x) →
  ∃L,l.Is L∧bF W (·<W.heap.size) L ((cs.drop off).take l.size)∧L.all D.single=true∧L.length=l.size
 | .nil,off,[],fuel,cs,hok,h=>⟨[],rfl,by simp [ShL.size,aP],rfl,rfl⟩
 | .nil,off,_::_,fuel,cs,hok,h=>by simp [ShL.ok] at hok
 | .cons a t,off,[],fuel,cs,hok,h=>by simp [ShL.ok] at hok
 | .cons a t,off,f::fs,fuel,cs,hok,h=>by
  simp only [ShL.ok,Jj,decide_eq_true_eq] at hok;obtain⟨⟨⟨h1,h2⟩,h3⟩,h4⟩:=hok;obtain⟨x,hx⟩:=h f (by simp);obtain⟨L,g1,g2,g3,g4⟩:=Sh.opened a f.type fuel _ x h2 hx;obtain⟨M,k1,k2,k3,k4⟩:=ShL.opened t (off+a.size) fs fuel cs h4 (fun f hf=>h f (by simp [hf]));refine⟨L++M,⟨L,M,rfl,g1,k1⟩,(cM _ _ _).2 ⟨_,_,?_,g2,k2⟩,by simp [g3,k3],by simp [ShL.size,g4,k4]⟩
  rw [h1,h3,ShL.size,←List.drop_drop,←List.take_add]
end
def yQ:D→Bool
 | .v _=>true
 | _=>false
theorem FV {L:List D} (h:L.all yQ=true):(D.agg L).isV=true:=by
 simp only [D.isV];refine Ju.2 fun d hd=>?_
 have:=Ju.1 h d hd;cases d<;>simp_all [yQ]
mutual
theorem Sh.isV_of:∀(sh:Sh) (L:List D),sh.flat=true→sh.Is L→L.all yQ=true
 | .int k,L,_,h=>by obtain⟨n,rfl,_⟩:=h;rfl
 | .bool,L,_,h=>by obtain⟨n,rfl⟩:=h;rfl
 | .str,L,_,h=>by obtain⟨n,rfl,_⟩:=h;rfl
 | .sl _,L,h,_=>by simp [Sh.flat] at h
 | .st l,L,h,hl=>ShL.isV_of l L (by simpa [Sh.flat] using h) hl
theorem ShL.isV_of:∀(sh:ShL) (L:List D),sh.flat=true→sh.Is L→L.all yQ=true
 | .nil,L,_,h=>by cases h;rfl
 | .cons a t,L,h,hl=>by
  obtain⟨x,y,rfl,h1,h2⟩:=hl;simp only [ShL.flat,Jj] at h;rw [List.all_append,Sh.isV_of a x h.1 h1,ShL.isV_of t y h.2 h2];rfl
end
def Sh.IsV (sh:Sh) (d:D):Prop:=∃m,sh.Is m∧d=wrap sh.isSt m
theorem Sh.arg {sh:Sh} {t:TypeId} {v:Value} {d:DataW H} {ps:List MemPlace} {base:Nat} (hok:sh.ok P t=true) (hv:JX P W .any base t v) (h:DataW.Trod enc P W 0 (fun _=>true) true t v d ps) :
  ∃x,sh.IsV x∧aU W (·<W.heap.size) x v∧(sh.flat=true→x.isV=true):=by
 obtain⟨fuel,h⟩:=h;obtain⟨L,h1,h2,h3,h4⟩:=Sh.opened sh t fuel _ _ hok h;refine⟨_,⟨L,h1,rfl⟩,?_,fun hf=>?_⟩
 ·cases hb:sh.isSt
  ·have h1':=Sh.len_one hb
   have hone:v.cells.toList=[v]:=by
    cases sh<;>simp only [Sh.isSt,Bool.true_eq_false] at hb<;>simp only [Sh.ok] at hok<;>split at hok<;>rename_i hu
    ·obtain⟨n,rfl⟩:=okWide_int hu hv;rfl
    ·cases hok
    ·obtain⟨n,rfl⟩:=okWide_bool hu hv;rfl
    ·cases hok
    ·obtain⟨n,rfl⟩:=okWide_string hu hv;rfl
    ·cases hok
    ·obtain⟨_,_,_,rfl⟩:=okWide_slice hu hv;rfl
    ·cases hok
   match L,h4.trans h1' with
   | [e],_ =>
    simp only [wrap,Jq,if_false,nth];have hs:e.single=true:=by simpa using h3
    rw [hone] at h2;exact(gL hs).2 (jq.1 h2)
  ·simp only [wrap,if_true]
   have:∃cs,v = .agg cs:=by
    cases sh<;>simp only [Sh.isSt,Jq] at hb;simp only [Sh.ok] at hok;split at hok
    case h_2=>cases hok
    rename_i hu;simp only [JX,hu] at hv;obtain⟨cs,h,_⟩:=hv;exact⟨cs,h⟩
   obtain⟨cs,rfl⟩:=this;refine⟨cs.toList,by simp,?_⟩
   rw [RepC];exact⟨by simpa [Value.cells] using h2,h3⟩
 ·have:=Sh.isV_of sh L hf h1
  cases hb:sh.isSt
  ·match L,h4.trans (Sh.len_one hb) with
   | [e],_ =>
    simp only [wrap,Jq,if_false,nth];cases e<;>simp [yQ] at this;rfl
  ·simp only [wrap,if_true]
   exact FV this
theorem Hi {k:IntKind} {x:D} (h:(Sh.int k).IsV x):∃n,x = .v (.int k n)∧k.min≤n∧n≤k.max:=by
 obtain⟨_,⟨n,rfl,h⟩,rfl⟩:=h;exact⟨n,rfl,h⟩
theorem HT {e:Sh} {x:D} (h:(Sh.sl e).IsV x):∃ds,x = .arr e.size ds∧ds.length≤maxLen∧∀d∈ds,e.IsV d:=by
 obtain⟨_,⟨n,rfl,h,h'⟩,rfl⟩:=h;exact⟨n,rfl,h,h'⟩
def tE (P:Program):List Sh→List TypeId→List Kd→Bool
 | [],[],[]=>true
 | sh::shs,t::ts,.dat lv::ks=>sh.ok P t&&(Js lv 2||(Js lv 0&&sh.flat))&&tE P shs ts ks
 | _,_,_=>false
def Ak:List Sh→List D→Prop
 | [],[]=>True
 | sh::shs,d::ds=>sh.IsV d∧Ak shs ds
 | _,_=>False
theorem GF {a b:Sh} {ds:List D} (h:Ak [a,b] ds):∃x y,ds=[x,y]∧a.IsV x∧b.IsV y:=by
 match ds,h with
 | [x,y],⟨h1,h2,_⟩=>exact⟨x,y,rfl,h1,h2⟩
theorem BV {base:Nat}:∀(shs:List Sh) (ts:List TypeId) (ks:List Kd) (vs:List Value) (ds:List (DataW H)) (ps:List MemPlace) (i:Nat),tE P shs ts ks=true→JN enc P W 0 (fun _=>true) true ts vs ds ps →
  (∀(j:Nat) t v,ts[j]?=some t→vs[j]?=some v→JX P W .any base t v)→∃xs,Ak shs xs∧dA W (·<W.heap.size) (fun _=>none) i ks xs vs
 | [],[],[],[],_,_,_,_,_,_=>⟨[],trivial,trivial⟩
 | [],[],[],_::_,[],_,_,_,h,_=>h.elim
 | [],[],[],_::_,_::_,_,_,_,h,_=>h.elim
 | sh::shs,t::ts,k::ks,[],[],_,_,_,h,_=>h.elim
 | sh::shs,t::ts,k::ks,[],_::_,_,_,_,h,_=>h.elim
 | sh::shs,t::ts,k::ks,_::_,[],_,_,_,h,_=>h.elim
 | sh::shs,t::ts,k::ks,v::vs,d::ds,ps,i,hok,h,hv=>by
  cases k<;>simp only [tE,Jq] at hok;rename_i lv;simp only [Jj,JD] at hok;obtain⟨⟨hok1,hlv⟩,hok2⟩:=hok;obtain⟨p,q,h1,h2,rfl⟩:=h;obtain⟨x,g1,g2,g3⟩:=Sh.arg hok1 (hv 0 t v rfl rfl) h1;obtain⟨xs,k1,k2⟩:=BV shs ts ks vs ds q (i+1) hok2 h2 (fun j t v ht hv'=>hv (j+1) t v ht hv');refine⟨x::xs,⟨g1,k1⟩,.inr ?_,k2⟩
  rcases hlv with h' | ⟨h',hf⟩
  ·rw [aQ] at h'
   subst h';exact g2
  ·exact ml (g3 hf) g2
 | [],[],_::_,_,_,_,_,hok,_,_=>by simp [tE] at hok
 | [],_::_,_,_,_,_,_,hok,_,_=>by simp [tE] at hok
 | _::_,[],_,_,_,_,_,hok,_,_=>by simp [tE] at hok
 | _::_,_::_,[],_,_,_,_,hok,_,_=>by simp [tE] at hok
theorem qm {W':World} (hl:laidOutB P=true):∀(ts:List TypeId) (vs:List Value) (ds:List (DataW H)) (ps:List MemPlace),(ts.all fun t=>P.readableRec t&&decide (t<P.types.size))=true →
  JN enc P W 0 (fun _=>true) true ts vs ds ps→Below W.heap.size W W'→(∀x∈ps,x.block<W.heap.size)→∀sp:Nat→Bool,(∀x∈ps,sp x.block=true)→JN enc P W' 0 sp true ts vs ds ps
 | [],[],[],_,_,h,_,_,_,_=>h
 | [],_::_,[],_,_,h,_,_,_,_=>h.elim
 | [],[],_::_,_,_,h,_,_,_,_=>h.elim
 | [],_::_,_::_,_,_,h,_,_,_,_=>h.elim
 | _::_,[],[],_,_,h,_,_,_,_=>h.elim
 | _::_,[],_::_,_,_,h,_,_,_,_=>h.elim
 | _::_,_::_,[],_,_,h,_,_,_,_=>h.elim
 | t::ts,v::vs,d::ds,ps,hr,h,hb,hlt,sp,hsp=>by
  obtain⟨p,q,h1,h2,rfl⟩:=h;simp only [List.all_cons,Jj,decide_eq_true_eq] at hr;refine⟨p,q,?_,qm hl ts vs ds q hr.2 h2 hb (fun x hx=>hlt x (by simp [hx])) sp (fun x hx=>hsp x (by simp [hx])),rfl⟩
  exact WideElems.Trod_stays hl hr.1.1 hr.1.2 h1 (fun x hx=>hb.same (hlt x (by simp [hx]))) (fun x hx=>hsp x (by simp [hx]))
end
section
variable {H:Type} {enc:TypeId × Value→H} {P:Program}
theorem wK {f:Func} {s:ChangeSpec} {apart fresh handsOn again:Bool} {W W':World} {args:Array Value} {v:Value} {ds gs:List (DataW H)} {before pa pv:List MemPlace}
  (hW:DataW.Whole enc P f.params.toList s.vars apart W args.toList ds gs before)
  (hres:∀(b:Nat) (sp:Nat→Bool) (hd:Bool),JN enc P W' b sp hd f.resultTypes.toList (v.resultList f.resultTypes.size) (s.fn H (ds++gs)).results [])
  (hargs:∀sp:Nat→Bool,(∀p∈before,sp p.block=true)→JN enc P W' 0 sp true f.params.toList args.toList (s.fn H (ds++gs)).args pa)
  (hvars:∀sp:Nat→Bool,(∀p∈before,sp p.block=true)→DataW.TrodVars enc P W' sp s.vars (s.fn H (ds++gs)).vars pv)
  (hps:before=pa++pv) (hb:Below W.heap.size W W')
  (hok:∀(j:Nat) (t:TypeId) (r:Value),f.resultTypes[j]?=some t→(v.resultList f.resultTypes.size)[j]?=some r→JX P W' .any 0 t r) :
  s.post enc P f apart fresh handsOn again W args v W':=by
 have hlt:∀p∈before,p.block<W.heap.size:=fun p hp=>hW.lt p hp
 have hold:∀p∈before,(fun b=>decide (b<W.heap.size)) p.block=true:=fun p hp=>by simpa using hlt p hp
 refine⟨ds,gs,before,[],pa,pv,hW,hres _ _ _,hargs _ hold,hvars _ hold,World.keptBut_mono (fun p hp=>⟨hp,?_⟩) (hb.frame (·∈before)),fun _=>?_⟩
 ·rw [hps,JW] at hp
  exact Or.inr hp
 ·obtain⟨_,_,_,_,_,hz,hn⟩:=hW
  refine⟨hok,_,_,([]++pa)++pv,⟨[]++pa,pv,trodAll_append (hargs _ (fun _ _=>rfl)) (hres _ _ _),hvars _ (fun _ _=>rfl),rfl,?_,?_⟩,?_⟩
  ·intro b off hp
   have hin:MemPlace.cell b off∈before:=by rw [hps];simpa using hp
   rw [hb.frozen (hlt _ hin)];exact hz b off hin
  ·intro ha
   have:=hn ha;rw [hps] at this;simpa using this
  ·intro p hp _
   rw [hps];simpa using hp
theorem uG {G:List (Nat × (Obj→Prop))} {f:FuncId} {S:FS} (hm:aM G P f S) {fn:Func} (hf:P.funcs[f]?=some fn) (hname:(fn.name== "runtime.NumGoroutine")=false) (hb:fn.body.isSome=true) {ds rs us:List D} (hd:S.f ds=some (.ret rs us)) {args:Array Value} {w:World} {F:Nat→Prop} {ow:Nat→Option Nat}
  (hgl:gOk G w F) (ha:dA w F ow 0 S.pm ds args.toList) (hF:∀b,F b→b<w.heap.size∧ow b=none) (hO:∀b i,ow b=some i→b<w.heap.size) :
  Calls P f args w fun e w'=>∃v,e = .returned v∧∃F' R vs,v=jB vs∧CallPost S args rs us w F ow F' R vs w':=by
 obtain⟨b,hb⟩:=Option.isSome_iff_exists.1 hb;have h1:¬fn.name= "runtime.NumGoroutine":=by simpa using hname
 have hrun:(callFunc f args).run P w = .ok (.enter f args) w:=by simp [callFunc,hf,h1,hb]
 have h2:=hm ds rs us hd args w F ow hgl ha hF hO {(default:Oper) with dst:=some 0} {tmps:=#[undef],defers:=[]} (fun a w'=>∃F' R vs,a.tmps.getD 0 undef=jB vs∧CallPost S args rs us w F ow F' R vs w') (fun _ _ _=>False) (fun v w' h=>by
  obtain⟨F',R,vs,rfl,h⟩:=h;exact⟨F',R,vs,by simp [Ko],h⟩)
 rw [hrun,Ku] at h2;refine Kj h2 fun e w' he=>?_
 cases e with
 | returned v =>
  obtain⟨F',R,vs,h3,h4⟩:=he;exact⟨v,rfl,F',R,vs,by simpa [Ko] using h3,h4⟩
 | panicked c=>exact he.elim
 | outgrown=>obtain⟨_,_,h⟩:=he;exact h.elim
theorem ET {G:List (Nat × (Obj→Prop))} {f:FuncId} {S:FS} (hm:aM G P f S) {fn:Func} (hf:P.funcs[f]?=some fn) (hname:(fn.name== "runtime.NumGoroutine")=false) (hbd:fn.body.isSome=true) (shs:List Sh) {rt:TypeId}
  (hl:laidOutB P=true) (hsh:tE P shs fn.params.toList S.pm=true) (hrd:(fn.params.toList.all fun t=>P.readableRec t&&decide (t<P.types.size))=true)
  (hrm:S.rm=[.dat 0]) (hrt:fn.resultTypes=#[rt]) (hbool:P.underlying rt=some .bool)
  (hd:∀ds,Ak shs ds→S.f ds=some (.ret [B true] [])) {s:ChangeSpec} (hvars:s.vars=[])
  (hs:∀ds:List (DataW H),ds.length=fn.params.size→s.fn H (ds++[])={results:=[.lit (.bool true)],args:=ds})
  {W:World} {base:Nat} {args:Array Value} {ds gs:List (DataW H)} {before:List MemPlace}
  (hval:∀(j:Nat) t v,fn.params[j]?=some t→args[j]?=some v→JX P W .any base t v) (hW:DataW.Whole enc P fn.params.toList s.vars false W args.toList ds gs before) (hgl:gOk G W fun b=>b<W.heap.size) {fresh handsOn again:Bool} :
  Calls P f args W fun e W'=>∃v,e = .returned v∧s.post enc P fn false fresh handsOn again W args v W':=by
 have hW':=hW;have hlt:∀p∈before,p.block<W.heap.size:=fun p hp=>hW.lt p hp
 obtain⟨p,q,hA,hV,rfl,hfz,hnd⟩:=hW;rw [hvars] at hV;have hgs:gs=[]∧q=[]:=by
  cases gs with
  | nil=>exact⟨rfl,hV⟩
  | cons _ _=>exact hV.elim
 obtain⟨rfl,rfl⟩:=hgs;obtain⟨xs,h1,h2⟩:=BV (base:=base) shs fn.params.toList S.pm args.toList ds p 0 hsh hA (fun j t v ht hv=>hval j t v (by simpa using ht) (by simpa using hv));refine Kj (uG hm hf hname hbd (hd xs h1) hgl h2 (fun b hb=>⟨hb,rfl⟩) (fun b i hi=>by cases hi)) fun e W' he=>?_
 obtain⟨v,rfl,F',R,vs,rfl,hp⟩:=he;refine⟨_,rfl,?_⟩
 have hlen:ds.length=fn.params.size:=by
  have:∀(ts:List TypeId) (vs:List Value) (ds:List (DataW H)) (ps:List MemPlace),JN enc P W 0 (fun _=>true) true ts vs ds ps→ds.length=ts.length:=by
   intro ts;induction ts with
   | nil =>
    intro vs ds ps h;cases ds with
    | nil=>rfl
    | cons _ _=>cases vs<;>exact h.elim
   | cons t ts ih =>
    intro vs ds ps h;cases vs with
    | nil=>exact h.elim
    | cons v vs =>
     cases ds with
     | nil=>exact h.elim
     | cons d ds =>
      obtain⟨_,_,_,h2,_⟩:=h;simp [ih _ _ _ h2]
  simpa using this _ _ _ _ hA
 have hB:Below W.heap.size W W':=⟨hp.os,hp.tape,hp.output,hp.size,fun b hb=>hp.keep b hb rfl⟩
 have hres:jB vs = .bool true:=by
  have hl1:=hp.len;rw [hrm] at hl1
  match vs,hl1 with
  | [y],_ =>
   have h0:=hp.res 0;rw [hrm] at h0;simp only [ao,nth,Jy] at h0;rcases h0 with h0 | h0
   ·cases h0
   ·exact(eG.1 h0).1
 rw [hres];have hsd:=hs ds hlen;refine wK (pa:=p) (pv:=[]) hW' (fun b sp hd'=>?_) (fun sp hsp=>?_) (fun sp _=>?_) rfl hB ?_
 ·rw [hsd,hrt]
  exact trodAll_mk1 (shut_bool hbool true)
 ·rw [hsd]
  exact qm hl _ _ _ _ hrd hA hB (fun x hx=>hlt x (by simp [hx])) sp (fun x hx=>hsp x (by simp [hx]))
 ·rw [hsd,hvars]
  rfl
 ·exact ok_one hrt rfl (okWide_bool_mk hbool true)
end
end Go.V

end
