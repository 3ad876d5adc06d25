/-
  A part of the proof: contracts and plain forms of functions beneath the statement, made small by a program (names shortened, what is not needed left out).
-/
import Derived.Test.YtioabeglbjlndaaGreatDoorRows
import Derived.Test.YtioabeglbjlndaaGreatDoorTie
import Derived.Test.YtioabeglbjlndaaGreatDoorCards
import Derived.Test.YtioabeglbjlndaaGreatDoorM3
import Derived.Below
import Derived.Shelf.Strconv.Itoa3
import Derived.Shelf.Strconv.AtoiAll
import Derived.Lib.AtoiErrMem
import Derived.Shelf.Strings.Cut
import Derived.Shelf.Strings.SplitShaped
import Derived.Shelf.Strings.Prefix
import Derived.Shelf.Strings.OnBuilder
import Derived.Shelf.Strings.FieldsFuncGrows
import Derived.Shelf.Strings.Replace
import Derived.Shelf.Strings.Search3
import Derived.Shelf.Strings.SlTrimAscii
import Derived.ProofKit
import Derived.ChangeArms
import Derived.Stop.LaidErr
import Derived.Deep.DeepHandedRow
import Derived.Deep.DeepWitnessRowRef
import Derived.LaidMore
import Derived.MakeChecks
import Derived.Shelf.Vars
open Bool renaming and_eq_true → EU, false_eq_true → EZ, not_eq_true' → FC, not_false → Gb
open Option.some renaming injEq → EV
open List renaming getElem?_cons_zero → EW, getElem?_eq_some_iff → EX, getD_eq_getElem?_getD → EY, getElem?_eq_getElem → Fe, getD_cons_zero → Ff, mem_append → Fk, getElem?_cons_succ → Ft, mem_cons → Fz, all_eq_true → FF, not_mem_nil → FG, mapM_cons → FI, drop_zero → FJ, getElem?_eq_none → FL, mem_append_left → FO, all_cons → FP, mem_map_of_mem → FQ, length_map → FY, replicate → Ga
open Option renaming bind_eq_some_iff → Fa, isSome_iff_exists → Fm, bind_some → FE, map_eq_some_iff → FH
open Array renaming replicate → Fb, getElem?_append_left → Fg, getD_eq_getD_getElem? → Fy, getElem?_eq_some_iff → FA, getElem?_toList → FK
open Go.Proofs renaming enters_of → Fc
open Go.DataW renaming TrodAll → Fh
open Nat renaming le_refl → Fi, zero_add → Fl, beq → Fr, mul → Fs, lt_of_lt_of_le → FR, add → Gc
open Go.Oper renaming upon_enter → Fj
open Go.Value renaming string → Fo, okWide → Fx, int → Gd
open Go.Lib renaming pow10Tab → Fp, TabIs → Fv, countB → FN
open Go.Shelf renaming Ren → Fq
open Classical renaming choose → Fu, choose_spec → FM
open Go.Calls renaming mono → Fw
open Int renaming toNat_natCast → FD
open Go.Sort renaming grow → FT
open Go.Result renaming andThen_ok → FU
open Go.World renaming cell? → FV, var? → FW
open Go.RowKit.Below renaming refl → FX
open Go.Act renaming put → FZ
open Go.IntKind renaming i32 → Ge
set_option maxRecDepth 100000
set_option linter.unusedSimpArgs false
set_option linter.unusedVariables false
noncomputable section
namespace Go.V
open Go.RowKit
set_option maxRecDepth 100000
def nF:List ResultVar→List Nat
 | []=>[]
 | .tmp t::l=>t::nF l
 | .cell _ _::l=>nF l
def bf (c:Cx):List ResultVar→List Kd→Bool
 | [],[]=>true
 | .tmp t::l,.dat lv::m=>(match ah c.K t with
  | .dat l'=>Nat.ble l' lv
  | _=>false)&&bf c l m
 | .tmp t::l,.own z lv false::m=>(match ah c.K t with
  | .own z' l' false=>Fr z' z&&Nat.ble l' lv
  | _=>false) && !jD t (nF l)&&bf c l m
 | .cell s t::l,.dat lv::m=>(match ah c.K s with
  | .box _ l' _=>Nat.ble l' lv
  | _=>false)&&(cb c.T t).isSome&&bf c l m
 | _,_=>false
def mR:Nat→List Kd→List Nat
 | _,[]=>[]
 | i,k::ks=>if mL k then i::mR (i+1) ks else mR (i+1) ks
def eqK:Kd→Kd→Bool
 | .dat a,.dat b=>Fr a b
 | .own a b io,.own a' b' io'=>Fr a a'&&Fr b b'&&io==io'
 | .box a b io,.box a' b' io'=>Fr a a'&&Fr b b'&&io==io'
 | _,_=>false
def vK:List Kd→List Kd→Bool
 | [],_=>true
 | k::ks,l::ls=>eqK k l&&vK ks ls
 | _,_=>false
section
variable {P:Program} {c:Cx} {B:Nat} {X:Nat→Prop} {w0:World} {F0 F:Nat→Prop} {O:Nat→Option (Nat × Nat)} {a:Act} {w:World} {δ:List D}
def kL (tmps:Array Value):ResultVar→Sem Value
 | .tmp t=>pure (tmps.getD t undef)
 | .cell a t=>do loadVar t (←asAddr (tmps.getD a undef))
theorem DT {k l:Kd} (h:eqK k l=true):k=l:=by
 unfold eqK at h;split at h
 ·rw [aq] at h;rw [h]
 ·simp only [EU,aq,beq_iff_eq] at h
  obtain⟨⟨rfl,rfl⟩,rfl⟩:=h;rfl
 ·simp only [EU,aq,beq_iff_eq] at h
  obtain⟨⟨rfl,rfl⟩,rfl⟩:=h;rfl
 ·cases h
theorem pB:∀{ks ls:List Kd},vK ks ls=true→ks.length≤ls.length∧∀(i:Nat),i<ks.length→ah ls i=ah ks i
 | [],_,_=>⟨by simp,by simp⟩
 | k::ks,l::ls,h=>by
  simp only [vK,EU] at h;obtain⟨h1,h2⟩:=pB h.2;refine⟨by simp;exact h1,fun i hi=>?_⟩
  cases i with
  | zero=>simp only [ah];exact(DT h.1).symm
  | succ i=>simp only [ah];exact h2 i (by simpa using hi)
 | _::_,[],h=>by simp [vK] at h
def DC (B:Nat) (O:Nat→Option (Nat × Nat)) (res:List ResultVar) (j:Nat) (g:Nat):Prop:=B≤g∧∃t,res[j]?=some (.tmp t)∧O g=some (t,0)
theorem ip {w:World} {F:Nat→Prop} {B:Nat} {own own':Nat→Prop} {k:Kd} {d:D} {y:Value} (ho:(∃z lv,k = .own z lv false)→∀g,own g→own' g) (h:wG w F B own k d y):wG w F B own' k d y:=by
 rcases h with h | h
 ·exact .inl h
 ·refine .inr ?_
  cases k with
  | own z lv io =>
   cases io
   ·exact h.own fun _ _ hg=>⟨ho ⟨z,lv,rfl⟩ _ hg.1,hg.2⟩
   ·exact h
  | _=>exact h
theorem pc (hT:okT P c.T=true) (hI:Inv c B X w0 F0 F O a w δ):∀(res:List ResultVar) (rm:List Kd) (rs:List D),bf c res rm=true→jk c δ res (fun rs=>some (.nrm rs))=some (.nrm rs) →
  ∃vs:List Value,(res.mapM (kL a.tmps)).run P w = .ok vs w∧vs.length=rm.length∧rs.length=rm.length∧∀j,wG w F B (DC B O res j) (ah rm j) (nth rs j) (vs.getD j undef)
 | [],[],rs,_,h=>by
  simp only [jk,EV,Out.nrm.injEq] at h;subst h;exact⟨[],by simp,rfl,rfl,fun j=>.inl (by simp [nth])⟩
 | .tmp t::l,.dat lv::m,rs,hok,h=>by
  simp only [bf,EU] at hok;simp only [jk,cK] at h;rw [fF] at h;obtain⟨o,h1,h2⟩:=Fa.1 h;split at h2
  case h_2=>cases h2
  rename_i rs';simp only [EV,Out.nrm.injEq] at h2;subst h2;obtain⟨vs,g1,g2,g3,g4⟩:=pc hT hI l m rs' hok.2 h1;refine⟨a.tmps.getD t undef::vs,by simp [FI,kL,g1],by simp [g2],by simp [g3],fun j=>?_⟩
  cases j with
  | zero =>
   simp only [ah,nth,Ff];have hk:=hok.1;split at hk
   case h_2=>cases hk
   rename_i l' hkt;exact(ej (aM.1 hk) (hI.dat hkt))
  | succ j =>
   refine ip (fun _ g hg=>?_) (g4 j)
   obtain⟨e1,t',e2,e3⟩:=hg;exact⟨e1,t',by simpa using e2,e3⟩
 | .tmp t::l,.own z lv false::m,rs,hok,h=>by
  simp only [bf,EU] at hok;simp only [jk,cK] at h;rw [fF] at h;obtain⟨o,h1,h2⟩:=Fa.1 h;split at h2
  case h_2=>cases h2
  rename_i rs';simp only [EV,Out.nrm.injEq] at h2;subst h2;obtain⟨vs,g1,g2,g3,g4⟩:=pc hT hI l m rs' hok.2 h1;refine⟨a.tmps.getD t undef::vs,by simp [FI,kL,g1],by simp [g2],by simp [g3],fun j=>?_⟩
  cases j with
  | zero =>
   simp only [ah,nth,Ff];have hk:=hok.1.1;split at hk
   case h_2=>cases hk
   rename_i z' l' hkt;simp only [EU,aq,aM] at hk;obtain⟨rfl,hle⟩:=hk;by_cases hb:nth δ t = .bad
   ·exact .inl hb
   ·exact .inr (cm (gN hle) (fun _ _=>rfl) (fun g _ hg=>⟨⟨⟨hg.2 rfl,t,rfl,hg.1⟩,hg.2 rfl⟩,rfl⟩) (hI.own hkt hb))
  | succ j =>
   refine ip (fun _ g hg=>?_) (g4 j)
   obtain⟨e1,t',e2,e3⟩:=hg;exact⟨e1,t',by simpa using e2,e3⟩
 | .cell s t::l,.dat lv::m,rs,hok,h=>by
  simp only [bf,EU] at hok;simp only [jk] at h;split at h
  case h_2=>cases h
  rename_i i hi;simp only [cK] at h;obtain⟨y,hy,h⟩:=Fa.1 h;rw [fF] at h;obtain⟨o,h1,h2⟩:=Fa.1 h;split at h2
  case h_2=>cases h2
  rename_i rs';simp only [EV,Out.nrm.injEq] at h2;subst h2;obtain⟨vs,g1,g2,g3,g4⟩:=pc hT hI l m rs' hok.2 h1;have hk:=hok.1.1;split at hk
  case h_2=>cases hk
  rename_i n l' io hks;rw [aM] at hk;have hb:nth δ s ≠ .bad:=by
   intro e;rw [e] at hy;simp [fS] at hy
  obtain⟨mm,us,g,e,hd',a1,a2,a3,a4,a5,a6⟩:=hI.box hks hb;rw [hd'] at hy;simp only [fS,FJ] at hy;have hcell:bN w g 0 us:=jM a2 (fun i u hu=>by simpa using hu);obtain⟨v,hv,hr⟩:=oG (P:=P) (tok hT hi) a3 a4 hcell hy;have hv':(kL a.tmps (.cell s t)).run P w = .ok v w:=by
   have e1:a.tmps.getD s undef = .pointer (some ⟨g,0,none⟩):=a1;simp only [kL,e1];simpa [Instr.loadAt,Instr.sureAddr,asAddr] using hv
  refine⟨v::vs,by simp [FI,hv',g1],by simp [g2],by simp [g3],fun j=>?_⟩
  cases j with
  | zero =>
   simp only [ah,nth,Ff];exact .inr (bc (gN hk) (fun _ _=>rfl) hr)
  | succ j =>
   refine ip (fun _ g hg=>?_) (g4 j)
   obtain⟨e1,t',e2,e3⟩:=hg;exact⟨e1,t',by simpa using e2,e3⟩
 | [],_::_,_,hok,_=>by simp [bf] at hok
 | .tmp _::_,[],_,hok,_=>by simp [bf] at hok
 | .cell _ _::_,[],_,hok,_=>by simp [bf] at hok
 | .tmp _::_,.own _ _ true::_,_,hok,_=>by simp [bf] at hok
 | .tmp _::_,.box _ _ _::_,_,hok,_=>by simp [bf] at hok
 | .tmp _::_,.via _::_,_,hok,_=>by simp [bf] at hok
 | .tmp _::_,.ref _::_,_,hok,_=>by simp [bf] at hok
 | .tmp _::_,.tup _::_,_,hok,_=>by simp [bf] at hok
 | .tmp _::_,.no::_,_,hok,_=>by simp [bf] at hok
 | .tmp _::_,.itr::_,_,hok,_=>by simp [bf] at hok
 | .tmp _::_,.mpo::_,_,hok,_=>by simp [bf] at hok
 | .cell _ _::_,.own _ _ _::_,_,hok,_=>by simp [bf] at hok
 | .cell _ _::_,.box _ _ _::_,_,hok,_=>by simp [bf] at hok
 | .cell _ _::_,.via _::_,_,hok,_=>by simp [bf] at hok
 | .cell _ _::_,.ref _::_,_,hok,_=>by simp [bf] at hok
 | .cell _ _::_,.tup _::_,_,hok,_=>by simp [bf] at hok
 | .cell _ _::_,.no::_,_,hok,_=>by simp [bf] at hok
 | .cell _ _::_,.itr::_,_,hok,_=>by simp [bf] at hok
 | .cell _ _::_,.mpo::_,_,hok,_=>by simp [bf] at hok
def oT:List ResultVar→Nat→Nat→Option Nat
 | [],_,_=>none
 | .tmp t::l,s,j=>if t=s then some j else oT l s (j+1)
 | .cell _ _::l,s,j=>oT l s (j+1)
theorem nE:∀{res:List ResultVar} {j t:Nat},res[j]?=some (.tmp t)→t∈nF res
 | .tmp s::l,0,t,h=>by simp at h;simp [nF,h]
 | .cell _ _::l,0,t,h=>by simp at h
 | .tmp s::l,j+1,t,h=>by simp only [nF,Fz];exact .inr (nE (by simpa using h))
 | .cell _ _::l,j+1,t,h=>by simp only [nF];exact nE (by simpa using h)
theorem kh:∀(res:List ResultVar) (rm:List Kd),bf c res rm=true→∀(j t i:Nat) (z lv:Nat),ah rm j = .own z lv false→res[j]?=some (.tmp t)→oT res t i=some (i+j)∧∃z' l',ah c.K t = .own z' l' false
 | [],[],_,j,t,i,z,lv,h,_=>by simp [ah] at h
 | .tmp s::l,.dat lv'::m,hok,j,t,i,z,lv,h,hj=>by
  simp only [bf,EU] at hok;cases j with
  | zero=>simp [ah] at h
  | succ j =>
   obtain⟨h1,h2⟩:=kh l m hok.2 j t (i+1) z lv (by simpa [ah] using h) (by simpa using hj);refine⟨?_,h2⟩
   simp only [oT];rw [if_neg,h1]
   ·congr 1;omega
   ·rintro rfl
    obtain⟨z',l',hk⟩:=h2;rw [hk] at hok;cases hok.1
 | .tmp s::l,.own z0 lv0 false::m,hok,j,t,i,z,lv,h,hj=>by
  simp only [bf,EU] at hok;cases j with
  | zero =>
   simp at hj;subst hj;refine⟨by simp [oT],?_⟩
   have hk:=hok.1.1;split at hk
   ·exact⟨_,_,‹_›⟩
   ·cases hk
  | succ j =>
   obtain⟨h1,h2⟩:=kh l m hok.2 j t (i+1) z lv (by simpa [ah] using h) (by simpa using hj);refine⟨?_,h2⟩
   simp only [oT];rw [if_neg,h1]
   ·congr 1;omega
   ·rintro rfl
    have hm:=hok.1.2;rw [eJ] at hm;simp only [FC,decide_eq_false_iff_not] at hm;exact hm (nE (by simpa using hj))
 | .cell s s'::l,.dat lv'::m,hok,j,t,i,z,lv,h,hj=>by
  simp only [bf,EU] at hok;cases j with
  | zero=>simp [ah] at h
  | succ j =>
   obtain⟨h1,h2⟩:=kh l m hok.2 j t (i+1) z lv (by simpa [ah] using h) (by simpa using hj);refine⟨?_,h2⟩
   simp only [oT];rw [h1];congr 1;omega
 | [],_::_,hok,_,_,_,_,_,_,_=>by simp [bf] at hok
 | .tmp _::_,[],hok,_,_,_,_,_,_,_=>by simp [bf] at hok
 | .cell _ _::_,[],hok,_,_,_,_,_,_,_=>by simp [bf] at hok
 | .tmp _::_,.own _ _ true::_,hok,_,_,_,_,_,_,_=>by simp [bf] at hok
 | .tmp _::_,.box _ _ _::_,hok,_,_,_,_,_,_,_=>by simp [bf] at hok
 | .tmp _::_,.via _::_,hok,_,_,_,_,_,_,_=>by simp [bf] at hok
 | .tmp _::_,.ref _::_,hok,_,_,_,_,_,_,_=>by simp [bf] at hok
 | .tmp _::_,.tup _::_,hok,_,_,_,_,_,_,_=>by simp [bf] at hok
 | .tmp _::_,.no::_,hok,_,_,_,_,_,_,_=>by simp [bf] at hok
 | .tmp _::_,.itr::_,hok,_,_,_,_,_,_,_=>by simp [bf] at hok
 | .tmp _::_,.mpo::_,hok,_,_,_,_,_,_,_=>by simp [bf] at hok
 | .cell _ _::_,.own _ _ _::_,hok,_,_,_,_,_,_,_=>by simp [bf] at hok
 | .cell _ _::_,.box _ _ _::_,hok,_,_,_,_,_,_,_=>by simp [bf] at hok
 | .cell _ _::_,.via _::_,hok,_,_,_,_,_,_,_=>by simp [bf] at hok
 | .cell _ _::_,.ref _::_,hok,_,_,_,_,_,_,_=>by simp [bf] at hok
 | .cell _ _::_,.tup _::_,hok,_,_,_,_,_,_,_=>by simp [bf] at hok
 | .cell _ _::_,.no::_,hok,_,_,_,_,_,_,_=>by simp [bf] at hok
 | .cell _ _::_,.itr::_,hok,_,_,_,_,_,_,_=>by simp [bf] at hok
 | .cell _ _::_,.mpo::_,hok,_,_,_,_,_,_,_=>by simp [bf] at hok
theorem pA {w:World} {F:Nat→Prop} {ow:Nat→Option Nat}:∀(pm:List Kd) (ds:List D) (ys:List Value) (i:Nat),dV w F ow i pm ds ys→ds.length=pm.length∧ys.length=pm.length∧∀(j:Nat),j<pm.length→kS w F (fun g=>ow g=some (i+j)) (ah pm j) (nth ds j) (ys.getD j undef)
 | [],[],[],_,_=>⟨rfl,rfl,fun j h=>by simp at h⟩
 | k::pm,d::ds,y::ys,i,h=>by
  obtain⟨h1,h2⟩:=h;obtain⟨g1,g2,g3⟩:=pA pm ds ys (i+1) h2;refine⟨by simp [g1],by simp [g2],fun j hj=>?_⟩
  cases j with
  | zero=>exact h1
  | succ j =>
   have:=g3 j (by simpa using hj);simp only [ah,nth,List.getD_cons_succ];rw [show i+(j+1)=i+1+j from by omega];exact this
 | [],[],_::_,_,h=>h.elim
 | [],_::_,_,_,h=>h.elim
 | _::_,[],_,_,h=>h.elim
 | _::_,_::_,[],_,h=>h.elim
theorem uN {w:World} {F:Nat→Prop} {δ:List D}:∀(pm:List Kd) (ys:List Value) (i:Nat),ys.length=pm.length→(∀(j:Nat),j<pm.length→mL (ah pm j)=true→nth δ (i+j) ≠ .bad∧kS w F (fun _=>True) (ah pm j) (nth δ (i+j)) (ys.getD j undef))→kp w F pm (ae δ (mR i pm)) ys
 | [],ys,i,_,_=>by simp [mR,ae,kp]
 | k::pm,[],i,hl,_=>by simp at hl
 | k::pm,y::ys,i,hl,h=>by
  have ih:=uN pm ys (i+1) (by simpa using hl) (fun j hj hio=>by
   have:=h (j+1) (by simpa using hj) (by simpa [ah] using hio);rw [show i+1+j=i+(j+1) from by omega];simpa [ah] using this)
  cases hk:mL k with
  | true =>
   have h0:=h 0 (by simp) (by simpa [ah] using hk);simp only [mR,hk,if_true,ae,kp];exact⟨by simpa using h0.1,by simpa [ah] using h0.2,ih⟩
  | false=>simpa only [mR,hk,EZ,if_false,kp] using ih
theorem ql:∀(pm:List Kd) (i j:Nat),j<pm.length→mL (ah pm j)=true→i+j∈mR i pm
 | k::pm,i,0,_,h=>by
  simp only [ah] at h;simp [mR,h]
 | k::pm,i,j+1,hj,h=>by
  have ih:=ql pm (i+1) j (by simpa using hj) (by simpa [ah] using h);rw [show i+(j+1)=i+1+j from by omega];simp only [mR];split
  ·exact List.mem_cons_of_mem _ ih
  ·exact ih
theorem mj:∀(n:Nat) (l:List D) (s:Nat),l.length≤n→nth (lT n l) s=nth l s
 | 0,l,s,h=>by
  have:l=[]:=List.eq_nil_of_length_eq_zero (by omega);subst this;simp [lT]
 | n+1,[],s,_=>by
  cases s with
  | zero=>simp [nth]
  | succ s=>simp only [nth];rw [mj n [] s (by simp)]
 | n+1,d::l,s,h=>by
  cases s with
  | zero=>simp [nth]
  | succ s=>simp only [nth];exact mj n l s (by simpa using h)
theorem mC:∀(n:Nat) (l:List D),(lT n l).length=n
 | 0,_=>rfl
 | n+1,[]=>by simp [lT,mC n []]
 | n+1,_::l=>by simp [lT,mC n l]
def xB (c:Cx) (fn:Func) (pm rm:List Kd):Bool :=
 (match fn.body with
  | some b=>cj c 0 b
  | none=>false)&&Fr (fU c.K) fn.ntmps&&vK pm c.K&&fD pm&&bf c c.res rm&&decide (c.ios=mR 0 pm)
theorem oD:∀{pm:List Kd},fD pm=true→∀j,j<pm.length→(∃lv,ah pm j = .dat lv∧lv≠1)∨(∃z lv,ah pm j = .own z lv true∧lv≠1)∨∃n lv,ah pm j = .box n lv true∧lv≠1
 | m::pm,h,j,hj=>by
  obtain⟨h1,h2,h3⟩:=ub h;cases j with
  | succ j=>exact oD h1 j (by simpa using hj)
  | zero =>
   simp only [ah];cases m with
   | dat lv =>
    refine .inl ⟨lv,rfl,?_⟩
    simp only [fD] at h;split at h
    case h_2=>cases h
    rename_i e1 e2;intro e;subst e;simp at e1
   | own z lv io =>
    cases io
    ·simp [fD] at h
    ·exact .inr (.inl ⟨z,lv,rfl,h2 z lv rfl⟩)
   | box n lv io =>
    cases io
    ·simp [fD] at h
    ·exact .inr (.inr ⟨n,lv,rfl,h3 n lv rfl⟩)
   | _=>simp [fD] at h
theorem Ao (hT:okT P c.T=true) (hS:∀f S,cb c.S f=some S→ao c.G P f S) (hm:P.follows .mixedOrders=true) {f:FuncId} {fn:Func} (hf:P.funcs[f]?=some fn) {pm rm:List Kd} (hok:xB c fn pm rm=true) (hres:c.res=fn.results.toList)
  {ds rs us:List D} (hd:bE c fn ds=some (.ret rs us)) {args:Array Value} {w:World} {F:Nat→Prop} {ow:Nat→Option Nat} (hgl:gOk c.G w F) (ha:dV w F ow 0 pm ds args.toList) (hF:∀b,F b→b<w.heap.size∧ow b=none) (hO:∀b i,ow b=some i→b<w.heap.size) :
  Calls P f args w fun e w'=>∃v,e = .returned v∧∃F' R vs,v=gU vs∧CallPost {pm:=pm,rm:=rm,f:=bE c fn} args rs us w F ow F' R vs w':=by
 unfold xB at hok;simp only [EU,decide_eq_true_eq] at hok;obtain⟨⟨⟨⟨⟨hcode,hlenK⟩,hpre⟩,hpm⟩,hokr⟩,hios⟩:=hok;rw [aq,gT] at hlenK;obtain⟨hpl,hpn⟩:=pB hpre;obtain⟨hdl,hal,hargs⟩:=pA pm ds args.toList 0 ha;have hasz:args.size=pm.length:=by simpa using hal
 unfold bE at hd;cases hb:fn.body with
 | none=>rw [hb] at hd;cases hd
 | some b =>
  rw [hb] at hd hcode;simp only at hd hcode;refine calls_of_wp hf hb ?_
  have hav:∀s,s<pm.length→av ({tmps:=args++Fb (fn.ntmps - args.size) undef,defers:=[]}:Act) s=args.toList.getD s undef:=fun s hs=>by
   have h1:s<args.size:=by omega
   simp only [av,Fy,EY,FK];rw [Fg h1]
  have hinit:Inv c w.heap.size (fun b=>ow b≠none) w F F (fun b=>(ow b).map fun i=>(i,0)) {tmps:=args++Fb (fn.ntmps - args.size) undef,defers:=[]} w (lT fn.ntmps ds):=by
   refine⟨by simp;omega,by rw [mC,hlenK],rfl,fun s=>?_,fun b hb=>⟨(hF b hb).1,by simp [(hF b hb).2]⟩,fun b p hp=>?_,fun _ h=>h,fun _ h=>.inl h,Fi _,rfl,rfl,rfl,fun _ _ _=>rfl,hgl⟩
   ·unfold pR
    rw [mj _ _ _ (by rw [hdl];omega)];by_cases hs:s<pm.length
    ·rw [hpn s hs,hav s hs]
     rcases hargs s hs with hbad | harg
     ·exact .inl hbad
     refine .inr ?_
     have hlv:∀lv,lv≠1→∀b,FB F 0 lv b→FB F w.heap.size lv b:=fun lv h1 b hb=>by
      match lv,h1 with
      | 0,_=>exact hb
      | _+2,_=>exact hb
     rcases oD hpm s hs with ⟨lv,hk,h1⟩ | ⟨z,lv,hk,h1⟩ | ⟨n,lv,hk,h1⟩
     ·rw [hk] at harg ⊢
      exact .inr (bc (hlv lv h1) (fun _ _=>rfl) harg)
     ·rw [hk] at harg ⊢
      exact .inr (cm (hlv lv h1) (fun _ _=>rfl) (fun g _ hg=>⟨⟨by simp only [Fl] at hg;simp [hg],fun h=>by cases h⟩,rfl⟩) harg)
     ·rw [hk] at harg ⊢
      exact .inr (iA (hlv lv h1) (fun _ _=>rfl) (fun g _ hg=>⟨⟨by simp only [Fl] at hg;simp [hg],fun h=>by cases h⟩,rfl⟩) harg)
    ·refine .inl ?_
     rw [cM,EY,FL (by omega)];rfl
   ·obtain⟨i,hi,rfl⟩:=FH.1 hp
    exact⟨hO b i hi,.inr (by rw [hi];simp)⟩
  refine fQ hT hS hm b 0 hcode F _ _ w _ hinit (V:=av {tmps:=args++Fb (fn.ntmps - args.size) undef,defers:=[]}) (fun _ _=>rfl) _ _ hd _ (fun e a' w' hp=>?_)
  have fin:eD c w.heap.size (fun b=>ow b≠none) w F (av {tmps:=args++Fb (fn.ntmps - args.size) undef,defers:=[]}) (fun δ=>xd c δ some) (.ret rs us) a' w'→a'.defers=[]∧∃v,(results fn a'.tmps).run P w' = .ok v w'∧∃v',Ending.returned v = .returned v'∧∃F' R vs,v'=gU vs∧CallPost {pm:=pm,rm:=rm,f:=bE c fn} args rs us w F ow F' R vs w':=by
   rintro⟨⟨F',O',δ',hI',hk⟩,hV'⟩;obtain⟨rs',h1,h2,h3⟩:=gn hk;simp only [EV,Out.ret.injEq] at h3;obtain⟨rfl,rfl⟩:=h3;obtain⟨vs,g1,g2,g3,g4⟩:=pc (P:=P) hT hI' c.res rm rs' hokr h1;refine⟨hI'.df,gU vs,?_,_,rfl,F',fun b=>if w.heap.size≤b then(match O' b with
    | some (t,0)=>oT c.res t 0
    | _=>none) else none,vs,rfl,?_⟩
   ·have hrun:(fn.results.mapM (kL a'.tmps)).run P w' = .ok vs.toArray w':=by
     rw [Array.mapM_eq_mapM_toList,←hres];simp [g1]
    have hrw:results fn a'.tmps=(do
      let vs ←fn.results.mapM (kL a'.tmps)
      pure (if h:vs.size=1 then vs[0] else .tuple vs)):=by
     unfold results;congr 1
    rw [hrw];simp only [Sem.run_bind,hrun,FU,Sem.run_pure];congr 1
    rcases vs with _ | ⟨y,_ | ⟨y',vs⟩⟩
    ·simp [gU]
    ·simp [gU]
    ·simp [gU]
   ·refine⟨hI'.os,hI'.tape,hI'.output,hI'.bb,fun b hb ho=>hI'.keep b hb (by simp [ho]),hI'.f0,fun b hb=>⟨hI'.fn b hb,(hI'.fl b hb).1,by simp only [(hI'.fl b hb).2];split<;>rfl⟩,fun b j hj=>?_,g2,g3,fun j=>?_,?_⟩
    ·split at hj
     case isFalse=>cases hj
     rename_i hB;refine⟨hB,?_⟩
     split at hj
     ·rename_i t he;exact(hI'.ol b _ he).1
     ·cases hj
    ·refine ip (fun hk g hg=>?_) (g4 j)
     obtain⟨z,lv,hk⟩:=hk;obtain⟨e1,t,e2,e3⟩:=hg;rw [if_pos e1];simp only [e3];have:=(kh c.res rm hokr j t 0 z lv hk e2).1;simpa using this
    ·rw [hios]
     refine uN pm args.toList 0 hal (fun j hj hio=>?_)
     rw [Fl];have hkj:=hpn j hj;have hbj:nth δ' j ≠ .bad:=by
      refine h2 _ ?_
      rw [hios,kx];exact FQ (by simpa using ql pm 0 j hj hio)
     have havj:av a' j=args.toList.getD j undef:=(hV' j (by rw [hkj];exact hio)).trans (hav j hj);have hlv:∀lv,lv≠1→∀b,FB F' w.heap.size lv b→FB F' 0 lv b:=fun lv h1 b hb=>by
      match lv,h1 with
      | 0,_=>exact hb
      | _+2,_=>exact hb
     refine⟨hbj,.inr ?_⟩
     rcases oD hpm j hj with ⟨lv,hk,h1⟩ | ⟨z,lv,hk,h1⟩ | ⟨n,lv,hk,h1⟩
     ·rw [hk] at hio;cases hio
     ·have h5:=hI'.own (hkj.trans hk) hbj
      rw [havj] at h5;rw [hk];exact cm (hlv lv h1) (fun _ _=>rfl) (fun _ _ _=>⟨trivial,rfl⟩) h5
     ·have h5:=hI'.box (hkj.trans hk) hbj
      rw [havj] at h5;rw [hk];exact iA (hlv lv h1) (fun _ _=>rfl) (fun _ _ _=>⟨trivial,rfl⟩) h5
  cases e with
  | normal=>exact fin hp
  | exit i =>
   obtain⟨⟨_,_,_,_,h⟩,_⟩:=hp;cases h
  | ret =>
   refine fin (fM hp fun δ F O _ h=>?_)
   obtain⟨rs',h1,h2,h3⟩:=gn h;exact rq h1 h2 h3
  | _=>exact hp.elim
theorem wQ (hT:okT P c.T=true) (hS:∀f S,cb c.S f=some S→ao c.G P f S) (hm:P.follows .mixedOrders=true) {f:FuncId} {fn:Func} (hf:P.funcs[f]?=some fn) (hname:(fn.name=="runtime.NumGoroutine")=false) {pm rm:List Kd} (hok:xB c fn pm rm=true) (hres:c.res=fn.results.toList) :
  ao c.G P f {pm:=pm,rm:=rm,f:=bE c fn}:=by
 intro ds rs us hd args w F ow hgl ha hF hO o a next Q hn
 have hbody:∃b,fn.body=some b:=by
  have hd':bE c fn ds=some (.ret rs us):=hd;unfold bE at hd';cases hb:fn.body with
  | none=>rw [hb] at hd';cases hd'
  | some b=>exact⟨b,rfl⟩
 obtain⟨b,hb⟩:=hbody;have hrun:(callFunc f args).run P w = .ok (.enter f args) w:=by
  have h1:¬fn.name="runtime.NumGoroutine":=by simpa using hname
  simp [callFunc,hf,h1,hb]
 rw [hrun,Fj];refine Fw (Ao hT hS hm hf hok hres hd hgl ha hF hO) (fun e w' he=>?_)
 obtain⟨v,rfl,F',R,vs,h1,h2⟩:=he;exact hn v w' ⟨F',R,vs,h1,h2⟩
end
end Go.V

namespace Go.V
set_option maxRecDepth 100000
def sl (s:List D) (i:Nat):D:=nth s i
def ifN (b:Bool) (t e:Option Out):Option Out :=
 match b with
 | true=>t
 | false=>e
theorem ax {P:Program} {G:List (Nat × (Obj→Prop))}:∀(f:Nat) (S:FS),cb ([]:List (Nat × FS)) f=some S→ao G P f S:=by
 intro f S h;cases h
theorem ab {P:Program} {G:List (Nat × (Obj→Prop))} {g:Nat} {S0:FS} {l:List (Nat × FS)} (h0:ao G P g S0) (h:∀(f:Nat) (S:FS),cb l f=some S→ao G P f S):∀(f:Nat) (S:FS),cb ((g,S0)::l) f=some S→ao G P f S:=by
 intro f S hl;simp only [cb] at hl;split at hl
 ·rename_i hb
  have:=aq.1 hb;subst this;cases hl;exact h0
 ·exact h f S hl
theorem aC {P:Program} {G G':List (Nat × (Obj→Prop))} {f:Nat} {S:FS} (h:∀p∈G,p∈G') (hm:ao G P f S):ao G' P f S :=
 fun ds rs us hd args w F ow hg=>hm ds rs us hd args w F ow fun p hp=>hg p (h p hp)
open Classical in
def yw (R:Nat→List D→Option Out) (ds:List D):Option Out :=
 if h:∃n,(R n ds).isSome=true then R (Fu h) ds else none
theorem yX {R:Nat→List D→Option Out} {ds:List D} {r:Out} (h:yw R ds=some r):∃n,R n ds=some r:=by
 unfold yw at h;split at h
 ·exact⟨_,h⟩
 ·cases h
theorem Ck {R:Nat→List D→Option Out} {ds:List D} {r:Out} (h:∀n o,R n ds=some o→o=r) (n:Nat) (hn:R n ds=some r):yw R ds=some r:=by
 unfold yw;have hx:∃n,(R n ds).isSome=true:=⟨n,by rw [hn];rfl⟩
 rw [dif_pos hx];obtain⟨o,ho⟩:=Fm.1 (FM hx);rw [ho,h _ _ ho]
theorem xg {P:Program} {G:List (Nat × (Obj→Prop))} {f:Nat} {S:FS} (h:∀ds,S.f ds=none):ao G P f S:=by
 intro ds rs us hd;rw [h] at hd;cases hd
theorem zA {P:Program} {G:List (Nat × (Obj→Prop))} {f:Nat} {pm rm:List Kd} {R:Nat→List D→Option Out} (h:∀n,ao G P f {pm:=pm,rm:=rm,f:=R n}):ao G P f {pm:=pm,rm:=rm,f:=yw R}:=by
 intro ds rs us hd args w F ow hg ha hF hO o a next Q hq
 obtain⟨n,hn⟩:=yX hd;refine h n ds rs us hn args w F ow hg ha hF hO o a next Q fun v w' hv=>?_
 obtain⟨F',R',vs,h1,h2⟩:=hv;exact hq v w' ⟨F',R',vs,h1,⟨h2.os,h2.tape,h2.output,h2.size,h2.keep,h2.f0,h2.fn,h2.rn,h2.len,h2.lenD,h2.res,h2.us⟩⟩
open Go.RowKit
set_option maxRecDepth 100000
section
variable {P:Program} {G:List (Nat × (Obj→Prop))}
theorem dv {f:FuncId} {S:FS} (he:∀args w,(callFunc f args).run P w = .ok (.enter f args) w)
  (h:∀ds rs us,S.f ds=some (.ret rs us)→∀(args:Array Value) (w:World) (F:Nat→Prop) (ow:Nat→Option Nat),gOk G w F→dV w F ow 0 S.pm ds args.toList→(∀b,F b→b<w.heap.size∧ow b=none)→(∀b i,ow b=some i→b<w.heap.size) →
   Calls P f args w fun e w'=>∃v,e = .returned v∧∃F' R vs,v=gU vs∧CallPost S args rs us w F ow F' R vs w'):ao G P f S:=by
 intro ds rs us hd args w F ow hg ha hF hO o a next Q hn
 rw [he,Fj];refine Fw (h ds rs us hd args w F ow hg ha hF hO) (fun e w' hv=>?_)
 obtain⟨v,rfl,F',R,vs,h1,h2⟩:=hv;exact hn v w' ⟨F',R,vs,h1,h2⟩
theorem ut {w:World} {F:Nat→Prop}:∀(ks:List Kd) (ys:List Value),(ks.all fun k=>!mL k)=true→ks.length=ys.length→kp w F ks [] ys
 | [],[],_,_=>trivial
 | k::ks,y::ys,h,hl=>by
  simp only [FP,EU,FC] at h;simp only [kp,h.1];exact ut ks ys h.2 (by simpa using hl)
 | [],_::_,_,hl=>by cases hl
 | _::_,[],_,hl=>by cases hl
theorem rR {w:World} {F:Nat→Prop} {ow:Nat→Option Nat}:∀(ks:List Kd) (ds:List D) (ys:List Value) (i:Nat),dV w F ow i ks ds ys→ds.length=ks.length∧ys.length=ks.length
 | [],[],[],_,_=>⟨rfl,rfl⟩
 | k::ks,d::ds,y::ys,i,h=>by
  obtain⟨h1,h2⟩:=rR ks ds ys (i+1) h.2;exact⟨by simp [h1],by simp [h2]⟩
 | [],_::_,_,_,h=>h.elim
 | [],[],_::_,_,h=>h.elim
 | _::_,[],_,_,h=>by cases ‹List Value›<;>exact h.elim
 | _::_,_::_,[],_,h=>h.elim
theorem vP {w:World} {F:Nat→Prop} {ow:Nat→Option Nat} {k:Kd} {ds:List D} {l:List Value} (h:dV w F ow 0 [k] ds l):∃d y,ds=[d]∧l=[y]∧kS w F (fun g=>ow g=some 0) k d y:=by
 match ds,l,h with
 | [d],[y],h=>exact⟨d,y,rfl,rfl,h.1⟩
 | [],l,h=>cases l<;>exact h.elim
 | d::d'::ds,l,h =>
  match l,h with
  | [],h=>exact h.elim
  | [y],h=>exact h.2.elim
  | y::y'::ys,h=>exact h.2.elim
 | [d],[],h=>exact h.elim
 | [d],y::y'::ys,h=>exact h.2.elim
theorem oq {w:World} {F:Nat→Prop} {ow:Nat→Option Nat} {k k':Kd} {ds:List D} {l:List Value} (h:dV w F ow 0 [k,k'] ds l) :
  ∃d y d' y',ds=[d,d']∧l=[y,y']∧kS w F (fun g=>ow g=some 0) k d y∧kS w F (fun g=>ow g=some 1) k' d' y':=by
 obtain⟨h1,h2⟩:=rR _ _ _ _ h
 match ds,l,h1,h2,h with
 | [d,d'],[y,y'],_,_,h=>exact⟨d,y,d',y',rfl,rfl,h.1,h.2.1⟩
theorem uZ {w:World} {F own:Nat→Prop} {lv:Nat} {x y:Value} (h:kS w F own (.dat lv) (.v x) y):y=x∧flat x=true:=by
 rcases h with h | h
 ·cases h
 ·exact ko.1 h
theorem ta {S:FS} {args:Array Value} {rs:List D} {vs:List Value} {w w':World} {F:Nat→Prop} {ow:Nat→Option Nat} (R:Nat→Option Nat) (hB:Below w.heap.size w w') (hF:∀b,F b→b<w.heap.size∧ow b=none)
  (hR:∀b j,R b=some j→w.heap.size≤b∧b<w'.heap.size) (hio:(S.pm.all fun k=>!mL k)=true) (hl:S.pm.length=args.size) (h1:vs.length=S.rm.length) (h2:rs.length=S.rm.length)
  (hres:∀j,wG w' F w.heap.size (fun g=>R g=some j) (ah S.rm j) (nth rs j) (vs.getD j undef)):CallPost S args rs [] w F ow F R vs w' :=
 ⟨hB.os,hB.tape,hB.output,hB.size,fun b hb _=>hB.block b hb,fun _ h=>h,fun b hb=>⟨.inl hb,FR (hF b hb).1 hB.size,by
  cases h:R b with
  | none=>rfl
  | some j=>exact absurd (hR b j h).1 (Nat.not_le.2 (hF b hb).1)⟩,hR,h1,h2,hres,ut _ _ hio (by simpa using hl)⟩
theorem ib {S:FS} {args:Array Value} {w w':World} {F:Nat→Prop} {ow:Nat→Option Nat} (hB:Below w.heap.size w w') (hF:∀b,F b→b<w.heap.size∧ow b=none) (hio:(S.pm.all fun k=>!mL k)=true) (hl:S.pm.length=args.size)
  (rs:List D) (vs:List Value) (hrm:S.rm=rs.map fun _=>.dat 0) (hv:vs.length=rs.length) (h:∀(j:Nat) (d:D),rs[j]?=some d→∃y:Value,vs[j]?=some y∧bp w' (fun _=>False) d y):CallPost S args rs [] w F ow F (fun _=>none) vs w':=by
 refine ta _ hB hF (fun b j h=>by cases h) hio hl (by rw [hrm,hv];simp) (by rw [hrm];simp) (fun j=>?_)
 rw [cM,EY];cases hj:rs[j]? with
 | none=>exact .inl rfl
 | some d =>
  obtain⟨y,h1,h2⟩:=h j d hj;have hk:ah S.rm j = .dat 0:=by
   rw [hrm];clear hrm h hv h1 h2;induction rs generalizing j with
   | nil=>simp at hj
   | cons r rs ih =>
    cases j with
    | zero=>rfl
    | succ j=>exact ih j (by simpa using hj)
  refine .inr ?_
  rw [hk,EY,h1];exact bc (fun b hb=>hb.elim) (fun _ _=>rfl) h2
theorem tf {w:World} {F:Nat→Prop}:∀(l:List ByteArray),aY w F (l.map T) (l.map Fo)
 | []=>aD.2 rfl
 | s::l=>au.2 ⟨[.string s],l.map Fo,rfl,by simp only [RepC];exact⟨trivial,rfl⟩,tf l⟩
theorem rP {w':World} {F own:Nat→Prop} {A c e:Nat} {cur:Array Value} {l:List ByteArray} (hb:w'.heap[A]?=some (.cells cur e (0,0))) (hc:l.length≤c) (hs:c≤cur.size) (hl:∀(i:Nat) (u:Value),(l.map Fo)[i]?=some u→cur[i]?=some u) (ho:own A) :
  fd w' F own 1 (.arr 1 (l.map T)) (.slice (some ⟨A,0,none⟩) l.length c):=by
 refine⟨l.map T,rfl,fun x hx=>?_,.inr ⟨A,0,c,l.map Fo,cur,e,by simp,by simpa using hc,hb,by omega,tf l,fun i u hu=>by simpa using hl i u hu,ho⟩⟩
 obtain⟨s,_,rfl⟩:=List.mem_map.1 hx;rfl
end
end Go.V

namespace Go.V
open Go.RowKit Go.Shelf
set_option maxRecDepth 100000
section
variable {P:Program} {ρ:Ren} {G:List (Nat × (Obj→Prop))}
def pd (o:Obj):Prop:=∃e fr,o = .cells (Fp.map fun z=>Gd .u64 z).toArray e fr
def sB (g:Nat) (o:Obj):Prop:=∃m,∀w:World,w.heap[g]?=some o→w.cell? ⟨g,0,none⟩=some (.int .i64 m)
theorem wl {w:World} {F:Nat→Prop} {g:Nat} (hg:gOk G w F) (hm:(g,sB g)∈G):∃m,w.cell? ⟨g,0,none⟩=some (.int .i64 m):=by
 obtain⟨_,o,ho,m,hc⟩:=hg _ hm;exact⟨m,hc w ho⟩
theorem zW {w:World} {g:Nat} {m:Int} (h:w.cell? ⟨g,0,none⟩=some (.int .i64 m)):∃o,w.heap[g]?=some o∧sB g o:=by
 cases ho:w.heap[g]? with
 | none=>simp [FV,ho] at h
 | some o=>exact⟨o,rfl,m,fun w' hw'=>(World.cell?_of_block (w:=w) (hw'.trans ho.symm)).trans h⟩
theorem xy {w:World} {g:Nat} (hn:P.globalNamed "internal/strconv.uint64pow10"=some g) (h:Fv P w "internal/strconv.uint64pow10" .u64 Fp):∃o,w.heap[g]?=some o∧pd o:=by
 simp only [Fv,FW,hn,FE] at h;split at h
 ·rename_i cs e fr ho
  cases h;exact⟨_,ho,e,fr,rfl⟩
 ·cases h
theorem CY {w:World} {F:Nat→Prop} {g:Nat} (hg:gOk G w F) (hm:(g,pd)∈G) (hn:P.globalNamed "internal/strconv.uint64pow10"=some g):Fv P w "internal/strconv.uint64pow10" .u64 Fp:=by
 obtain⟨_,o,ho,e,fr,rfl⟩:=hg _ hm;simp [Fv,FW,hn,ho]
theorem ym {args:Array Value} {y y':Value} (h:args.toList=[y,y']):args=#[y,y']:=by
 apply Array.ext';rw [h]
theorem Dq {args:Array Value} {y:Value} (h:args.toList=[y]):args=#[y]:=by
 apply Array.ext';rw [h]
def uy:List D→Option Out
 | [.v (.int .i64 n)]=>if -9223372036854775808≤n∧n≤9223372036854775807 then some (.ret [T ⟨(Lib.itoa n).toArray⟩] []) else none
 | _=>none
@[reducible] def BF:FS:={pm:=[.dat 0],rm:=[.dat 0],f:=uy}
theorem DD (L:Go.Proofs.LaysM.n171 P ρ) {f:Nat} (hf:ρ.f 171=f) {g:Nat} (hm:(g,pd)∈G) (hn:P.globalNamed "internal/strconv.uint64pow10"=some g):ao G P f BF:=by
 subst hf;have he:∀args w,(callFunc (ρ.f 171) args).run P w = .ok (.enter (ρ.f 171) args) w:=Fc L.f171 (by kernel_rfl) rfl;refine dv he fun ds rs us hd args w F ow hg ha hF _=>?_
 obtain⟨d,y,rfl,h2,h3⟩:=vP ha;replace hd:uy [d]=some (.ret rs us):=hd;unfold uy at hd;split at hd
 case h_2=>cases hd
 rename_i n e;cases e;split at hd
 case isFalse=>cases hd
 rename_i hr;cases hd;obtain⟨rfl,_⟩:=uZ h3;rw [Dq h2];refine(Go.Proofs.Any.strconv_Itoa L n hr.1 hr.2 w (CY hg hm hn)).mono ?_
 rintro e w' ⟨rfl,k,os,rfl⟩;refine⟨_,rfl,F,_,[_],rfl,ib (below_itoa w k os) hF rfl rfl [_] [_] rfl rfl fun j d hj=>?_⟩
 match j,hj with
 | 0,hj =>
  simp only [EW,EV] at hj;subst hj;exact⟨_,rfl,aU rfl⟩
where
 below_itoa (w:World) (k:Nat) (os:Array Obj):Below w.heap.size w (FT (w.drewN k) os) :=
  ⟨rfl,rfl,rfl,by simp [FT,World.drewN],fun b hb=>by simp [FT,World.drewN,Fg hb]⟩
def ux:List D→Option Out
 | [.v (.string s)]=>if s.size≤281474976710656 then(match Lib.atoiAll s.data.toList with
  | .ok v=>some (.ret [I v,.v .nilIface] [])
  | .range=>some (.ret [I (Lib.atoiSat s.data.toList),.ifc] [])
  | _=>some (.ret [I 0,.ifc] [])) else none
 | _=>none
@[reducible] def zZ:FS:={pm:=[.dat 0],rm:=[.dat 0,.dat 0],f:=ux}
def qt (o:Obj):Prop:=∃v cs e fr,o = .cells cs e fr∧cs[0]?=some v∧(v = .nilIface∨∃te pe,v = .iface te pe)
theorem wR {w:World} {g:Nat} {name:String} {tp:TypeId} {p:Value} (hn:P.globalNamed name=some g) (h:w.var? P name=some #[.iface tp p]):∃o,w.heap[g]?=some o∧qt o:=by
 simp only [FW,hn,FE] at h;split at h
 ·rename_i cs e fr ho
  cases h;exact⟨_,ho,.iface tp p,_,e,fr,rfl,rfl,.inr ⟨tp,p,rfl⟩⟩
 ·cases h
theorem xL {w:World} {F:Nat→Prop} {g:Nat} (hg:gOk G w F) (hm:(g,qt)∈G):∃v,w.cell? ⟨g,0,none⟩=some v∧(v = .nilIface∨∃te pe,v = .iface te pe):=by
 obtain⟨_,o,ho,v,cs,e,fr,rfl,hc,hv⟩:=hg _ hm;exact⟨v,by simp [FV,ho,hc],hv⟩
theorem DB (L:Go.Proofs.LaysC.n172 P ρ) {f:Nat} (hf:ρ.f 172=f) {g15 g16:Nat} (h15:ρ.g 15=g15) (h16:ρ.g 16=g16) (hs:(g15,qt)∈G) (hr:(g16,qt)∈G):ao G P f zZ:=by
 subst hf;have he:∀args w,(callFunc (ρ.f 172) args).run P w = .ok (.enter (ρ.f 172) args) w:=Fc L.f172 (by kernel_rfl) rfl;refine dv he fun ds rs us hd args w F ow hg ha hF _=>?_
 obtain⟨d,y,rfl,h2,h3⟩:=vP ha;subst h15 h16;replace hd:ux [d]=some (.ret rs us):=hd;unfold ux at hd;split at hd
 case h_2=>cases hd
 rename_i s e;cases e;split at hd
 case isFalse=>cases hd
 rename_i hz;obtain⟨rfl,_⟩:=uZ h3;rw [Dq h2];split at hd
 ·rename_i v hv
  cases hd;refine(Go.Proofs.Any.strconv_Atoi_ok L s (by omega) v hv w).mono ?_
  rintro e w' ⟨rfl,hw⟩;refine⟨_,rfl,F,_,[_,_],rfl,ib ?_ hF rfl rfl [_,_] [_,_] rfl rfl fun j d hj=>?_⟩
  ·rcases hw with rfl | ⟨t,rfl⟩
   ·exact FX _ _
   ·exact Go.Lib.bytesWorld_below w _ t
  ·match j,hj with
   | 0,hj=>simp only [EW,EV] at hj;subst hj;exact⟨_,rfl,aU rfl⟩
   | 1,hj=>simp only [Ft,EW,EV] at hj;subst hj;exact⟨_,rfl,aU rfl⟩
 ·rename_i hv
  cases hd;obtain⟨v,hc,hv'⟩:=xL hg hr;refine(Go.Proofs.Any.strconv_Atoi_range L s hz hv v w hc hv').mono ?_
  rintro e w' ⟨N,rfl,_,_,hB⟩;refine⟨_,rfl,F,_,[_,_],rfl,ib hB hF rfl rfl [_,_] [_,_] rfl rfl fun j d hj=>?_⟩
  match j,hj with
  | 0,hj=>simp only [EW,EV] at hj;subst hj;exact⟨_,rfl,aU rfl⟩
  | 1,hj=>simp only [Ft,EW,EV] at hj;subst hj;exact⟨_,rfl,_,_,rfl⟩
 ·rename_i h1 h2
  cases hv:Lib.atoiAll s.data.toList with
  | ok v=>exact(h1 v hv).elim
  | range=>exact(h2 hv).elim
  | _ =>
   cases hd;obtain⟨v,hc,hv'⟩:=xL hg hs;refine(Go.Proofs.Any.strconv_Atoi_syntax L s hz hv v w hc hv').mono ?_
   rintro e w' ⟨N,rfl,_,_,hB⟩;refine⟨_,rfl,F,_,[_,_],rfl,ib hB hF rfl rfl [_,_] [_,_] rfl rfl fun j d hj=>?_⟩
   match j,hj with
   | 0,hj=>simp only [EW,EV] at hj;subst hj;exact⟨_,rfl,aU rfl⟩
   | 1,hj=>simp only [Ft,EW,EV] at hj;subst hj;exact⟨_,rfl,_,_,rfl⟩
theorem zI (w:World) (o:Obj):(w.alloc o).heap[w.heap.size]?=some o:=by simpa using heap_alloc_new w o
theorem xC (w:World) (o:Obj):(w.alloc o).heap.size=w.heap.size+1:=by simp
def gg (s p:ByteArray):List ByteArray:=Lib.splitB p 0 (FN s p) s
def pF:List D→Option Out
 | [.v (.string s),.v (.string p)]=>if s.size<4294967281∧1≤p.size then some (.ret [.arr 1 ((gg s p).map T)] []) else none
 | _=>none
@[reducible] def yd:FS:={pm:=[.dat 0,.dat 0],rm:=[.own 1 0 false],f:=pF}
theorem Dg (L:Go.Proofs.LaysM.n146 P ρ) {f:Nat} (hf:ρ.f 146=f) {g1:Nat} (h1:ρ.g 1=g1) (hm:(g1,sB g1)∈G):ao G P f yd:=by
 subst hf;have he:∀args w,(callFunc (ρ.f 146) args).run P w = .ok (.enter (ρ.f 146) args) w:=Fc L.f146 (by kernel_rfl) rfl;refine dv he fun ds rs us hd args w F ow hg ha hF _=>?_
 obtain⟨d,y,d',y',rfl,h2,h3,h4⟩:=oq ha;replace hd:pF [d,d']=some (.ret rs us):=hd;unfold pF at hd;split at hd
 case h_2=>cases hd
 rename_i s p e;cases e;split at hd
 case isFalse=>cases hd
 rename_i hz;cases hd;obtain⟨rfl,_⟩:=uZ h3;obtain⟨rfl,_⟩:=uZ h4;rw [ym h2];subst h1;obtain⟨m,hc⟩:=wl hg hm;refine(Go.Proofs.Any.strings_Split {L with} L.i9 s p m w hz.1 hc hz.2).mono ?_
 rintro e w' ⟨rfl,rfl⟩;have hlen:(gg s p).length=FN s p+1:=splitOf_length s p hz.2;refine⟨_,rfl,F,fun b=>if b=w.heap.size then some 0 else none,[_],rfl,ta _ ((FX _ w).alloc (Fi _) _) hF (fun b j hb=>?_) rfl rfl rfl rfl fun j=>?_⟩
 ·split at hb
  ·rename_i e;subst e;exact⟨Fi _,by rw [xC];exact Nat.lt_succ_self _⟩
  ·cases hb
 ·match j with
  | 0 =>
   refine .inr ?_
   have:=rP (w':=w.alloc (.cells ((gg s p).map Fo).toArray (ρ.t 9))) (F:=FB F w.heap.size 0) (own:=fun g=>(if g=w.heap.size then some 0 else none)=some 0∧w.heap.size≤g) (A:=w.heap.size) (c:=FN s p+1) (e:=ρ.t 9)
    (cur:=((gg s p).map Fo).toArray) (l:=gg s p) (zI _ _) (by omega) (by simp only [List.size_toArray,FY];omega) (fun i u hu=>by rw [List.getElem?_toArray];exact hu) ⟨by simp,Fi _⟩
   rw [hlen] at this;exact this
  | j+1=>exact .inl rfl
where
 splitOf_length (s p:ByteArray) (hp:1≤p.size):(gg s p).length=FN s p+1:=by
  exact Lib.splitB_all p hp 0 _ s rfl
end
end Go.V

namespace Go.V
open Go.RowKit Go.Shelf
set_option maxRecDepth 100000
section
variable {P:Program} {ρ:Ren} {G:List (Nat × (Obj→Prop))}
theorem qE {f:FuncId} {S:FS} (he:∀args w,(callFunc f args).run P w = .ok (.enter f args) w) (hm:ao G P f S) {ds rs us:List D} (hd:S.f ds=some (.ret rs us)) {args:Array Value} {w:World} {F:Nat→Prop} {ow:Nat→Option Nat}
  (hgl:gOk G w F) (ha:dV w F ow 0 S.pm ds args.toList) (hF:∀b,F b→b<w.heap.size∧ow b=none) (hO:∀b i,ow b=some i→b<w.heap.size) :
  Calls P f args w fun e w'=>∃v,e = .returned v∧∃F' R vs,v=gU vs∧CallPost S args rs us w F ow F' R vs w':=by
 have h2:=hm ds rs us hd args w F ow hgl ha hF hO {(default:Oper) with dst:=some 0} {tmps:=#[undef],defers:=[]} (fun a w'=>∃F' R vs,a.tmps.getD 0 undef=gU vs∧CallPost S args rs us w F ow F' R vs w') (fun _ _ _=>False) (fun v w' h=>by
  obtain⟨F',R,vs,rfl,h⟩:=h;exact⟨F',R,vs,by simp [FZ],h⟩)
 rw [he,Fj] at h2;refine Fw h2 fun e w' he=>?_
 cases e with
 | returned v =>
  obtain⟨F',R,vs,h3,h4⟩:=he;exact⟨v,rfl,F',R,vs,by simpa [FZ] using h3,h4⟩
 | panicked c=>exact he.elim
 | outgrown=>obtain⟨_,_,h⟩:=he;exact h.elim
def fb (k:Nat) (p:Nat→Bool):List D→Option Out
 | [.v (.string s),.clo k' []]=>if k'=k∧s.size≤4294967296 then some (.ret [.arr 1 ((Lib.goFieldsP p s).map T)] []) else none
 | _=>none
@[reducible] def oF (k:Nat) (p:Nat→Bool):FS:={pm:=[.dat 0,.dat 2],rm:=[.own 1 0 false],f:=fb k p}
theorem uU (L:Go.Proofs.Lays.n229 P ρ) {f:Nat} (hf:ρ.f 229=f) {k:Nat} {Sk:FS} (ek:∀args w,(callFunc k args).run P w = .ok (.enter k args) w) (Mk:ao G P k Sk) {p:Nat→Bool} (hpm:Sk.pm=[.dat 0]) (hrm:Sk.rm=[.dat 0])
  (hp:∀x:Nat,x≤1114111→Sk.f [.v (.int .i32 x)]=some (.ret [B (p x)] []))
  (hi154:(P.info? (ρ.t 154)).map (fun i=>(i.zero,i.size,i.bytes))=some (some (.agg #[.int .i64 0,.int .i64 0]),2,16))
  (hi9:(P.info? (ρ.t 9)).map (fun i=>(i.zero,i.size,i.bytes))=some (some (.string ⟨#[]⟩),1,16)):ao G P f (oF k p):=by
 subst hf;have he:∀args w,(callFunc (ρ.f 229) args).run P w = .ok (.enter (ρ.f 229) args) w:=Fc L.f229 (by kernel_rfl) rfl;refine dv he fun ds rs us hd args w F ow hg ha hF _=>?_
 obtain⟨d,y,d',y',rfl,h2,h3,h4⟩:=oq ha;replace hd:fb k p [d,d']=some (.ret rs us):=hd;unfold fb at hd;split at hd
 case h_2=>cases hd
 rename_i s k' e;cases e;split at hd
 case isFalse=>cases hd
 rename_i hz;obtain⟨rfl,hz⟩:=hz;cases hd;obtain⟨rfl,_⟩:=uZ h3;rcases h4 with h4 | h4
 ·cases h4
 simp only [bp,RepC] at h4;obtain⟨us,hy,hr⟩:=h4;rw [aD.1 hr] at hy;simp only [List.cons.injEq,and_true] at hy;subst hy;rw [ym h2];have hpred:Go.Proofs.PredGrows P k' #[] p w:=by
  intro W x hx hB;refine(qE ek Mk (hp x hx) (args:=#[Go.Proofs.encR x]++#[]) (w:=W) (F:=F) (ow:=fun _=>none) (sN (fun _ h=>h) (fun b hb=>hB.block b (hF b hb).1) hg) ?_ (fun b hb=>⟨FR (hF b hb).1 hB.size,rfl⟩) (fun b i h=>by cases h)).mono ?_
  ·rw [hpm]
   exact⟨.inr (ko.2 ⟨rfl,rfl⟩),trivial⟩
  ·rintro e w' ⟨v,rfl,F',R,vs,rfl,hpost⟩
   have hl:=hpost.len;rw [hrm] at hl;obtain⟨u,rfl⟩:=List.length_eq_one_iff.1 hl;have h0:=hpost.res 0;rw [hrm] at h0;simp only [ah,nth,Ff] at h0;rcases h0 with h0 | h0
   ·cases h0
   exact⟨by rw [gU,(ko.1 h0).1],⟨hpost.os,hpost.tape,hpost.output,hpost.size,fun b hb=>hpost.keep b hb rfl⟩⟩
 refine(Go.Proofs.Any.strings_FieldsFunc_grows L k' #[] ek p s w hz hpred hi154 hi9).mono ?_
 rintro e w' ⟨A,rfl,hA,hown,hB⟩;obtain⟨_,hown⟩:=hown;rcases hown with ⟨h,_⟩ | ⟨g,cap,cur,h5,h6,h7,h8,_,h10,h11⟩
 ·cases h
 cases h5;refine⟨_,rfl,F,fun b=>if b=A then some 0 else none,[_],rfl,ta _ hB hF (fun b j hb=>?_) rfl rfl rfl rfl fun j=>?_⟩
 ·split at hb
  ·rename_i e;subst e;exact⟨hA,(FA.1 h7).1⟩
  ·cases hb
 ·match j with
  | 0 =>
   refine .inr (rP (A:=A) h7 h8 (by omega) (fun i u hu=>?_) ⟨by simp,hA⟩)
   rw [←h11,List.getElem?_take] at hu;split at hu
   ·simpa using hu
   ·cases hu
  | j+1=>exact .inl rfl
end
end Go.V

namespace Go.V
open Go.RowKit Go.Shelf
set_option maxRecDepth 100000
section
variable {P:Program} {ρ:Ren} {G:List (Nat × (Obj→Prop))}
def hZ:List D→Option Out
 | [.v (.string s),.v (.string p)]=>if s.size<4294967281 then some (.ret [B (Lib.contains s.data.toList p.data.toList)] []) else none
 | _=>none
@[reducible] def sO:FS:={pm:=[.dat 0,.dat 0],rm:=[.dat 0],f:=hZ}
theorem xK (L:Go.Proofs.Lays.n144 P ρ) {f:Nat} (hf:ρ.f 144=f) {g1:Nat} (h1:ρ.g 1=g1) (hm:(g1,sB g1)∈G):ao G P f sO:=by
 subst hf;have he:∀args w,(callFunc (ρ.f 144) args).run P w = .ok (.enter (ρ.f 144) args) w:=Fc L.f144 (by kernel_rfl) rfl;refine dv he fun ds rs us hd args w F ow hg ha hF _=>?_
 obtain⟨d,y,d',y',rfl,h2,h3,h4⟩:=oq ha;replace hd:hZ [d,d']=some (.ret rs us):=hd;unfold hZ at hd;split at hd
 case h_2=>cases hd
 rename_i s p e;cases e;split at hd
 case isFalse=>cases hd
 rename_i hz;cases hd;obtain⟨rfl,_⟩:=uZ h3;obtain⟨rfl,_⟩:=uZ h4;rw [ym h2];subst h1;obtain⟨m,hc⟩:=wl hg hm;refine(Go.Proofs.Any.strings_Contains L s p m w hz hc).mono ?_
 rintro e w' ⟨rfl,rfl⟩;refine⟨_,rfl,F,_,[_],rfl,ib (FX _ _) hF rfl rfl [_] [_] rfl rfl fun j d hj=>?_⟩
 match j,hj with
 | 0,hj=>simp only [EW,EV] at hj;subst hj;exact⟨_,rfl,aU rfl⟩
end
end Go.V

namespace Go.V
open Go.RowKit Go.Shelf
set_option maxRecDepth 100000
section
variable {P:Program} {ρ:Ren} {G:List (Nat × (Obj→Prop))}
def jr (s p:ByteArray):ByteArray:=⟨(Lib.trimRightS s.data.toList p.data.toList).toArray⟩
def fO:List D→Option Out
 | [.v (.string s),.v (.string p)]=>if s.size≤9223372036854775807∧p.size<4294967281∧(p.data.toList.all fun b=>decide (b.toNat<128))=true then some (.ret [T (jr s p)] []) else none
 | _=>none
@[reducible] def qp:FS:={pm:=[.dat 0,.dat 0],rm:=[.dat 0],f:=fO}
theorem wT (L:Go.Proofs.Lays.n162 P ρ) (h116:(P.info? (ρ.t 116)).map (fun i=>(i.zero,i.size))=some (some (.agg (Fb 256 (.bool false))),256)) {f:Nat} (hf:ρ.f 162=f):ao G P f qp:=by
 subst hf;have he:∀args w,(callFunc (ρ.f 162) args).run P w = .ok (.enter (ρ.f 162) args) w:=Fc L.f162 (by kernel_rfl) rfl;refine dv he fun ds rs us hd args w F ow hg ha hF _=>?_
 obtain⟨d,y,d',y',rfl,h2,h3,h4⟩:=oq ha;replace hd:fO [d,d']=some (.ret rs us):=hd;unfold fO at hd;split at hd
 case h_2=>cases hd
 rename_i s p e;cases e;split at hd
 case isFalse=>cases hd
 rename_i hz;cases hd;obtain⟨rfl,_⟩:=uZ h3;obtain⟨rfl,_⟩:=uZ h4;rw [ym h2];refine(Go.Proofs.Any.strings_TrimRight_laid L h116 s p w hz.1 hz.2.1 (Go.Proofs.ascii_of_all hz.2.2)).mono ?_
 rintro e w' ⟨rfl,hB⟩;refine⟨_,rfl,F,_,[_],rfl,ib hB hF rfl rfl [_] [_] rfl rfl fun j d hj=>?_⟩
 match j,hj with
 | 0,hj=>simp only [EW,EV] at hj;subst hj;exact⟨_,rfl,aU rfl⟩
end
end Go.V

namespace Go.Proofs
open Go.Shelf
def Tryz.lays162_ren:Fq:=⟨fun | 162=>37 | 232=>55 | 227=>56 | 234=>57 | 236=>58 | 228=>72 | 271=>73 | 151=>74 | 120=>82 | 197=>80 | 152=>83 | 260=>97 | 137=>98 | 119=>99 | 224=>91 | 225=>90 | 217=>89 | 266=>103 | n=>n,fun | 9=>9 | 4=>4 | 3=>3 | 5=>5 | 117=>76 | 116=>75 | 0=>0 | 124=>79 | 21=>21 | 105=>92 | 46=>99 | 119=>127 | 139=>130 | 138=>129 | n=>n,fun | 3=>4 | 4=>5 | n=>n⟩
theorem Tryz.lays162:Go.Proofs.Lays.n162 Tryz.prog Tryz.lays162_ren:={
 mixed:=by kernel_rfl
 f119:=Tryz.func99.trans (congrArg some (by kernel_rfl))
 f120:=Tryz.func82.trans (congrArg some (by kernel_rfl))
 f137:=Tryz.func98.trans (congrArg some (by kernel_rfl))
 f151:=Tryz.func74.trans (congrArg some (by kernel_rfl))
 f152:=Tryz.func83.trans (congrArg some (by kernel_rfl))
 f162:=Tryz.func37.trans (congrArg some (by kernel_rfl))
 f197:=Tryz.func80.trans (congrArg some (by kernel_rfl))
 f217:=Tryz.func89.trans (congrArg some (by kernel_rfl))
 f224:=Tryz.func91.trans (congrArg some (by kernel_rfl))
 f225:=Tryz.func90.trans (congrArg some (by kernel_rfl))
 f227:=Tryz.func56.trans (congrArg some (by kernel_rfl))
 f228:=Tryz.func72.trans (congrArg some (by kernel_rfl))
 f232:=Tryz.func55.trans (congrArg some (by kernel_rfl))
 f234:=Tryz.func57.trans (congrArg some (by kernel_rfl))
 f236:=Tryz.func58.trans (congrArg some (by kernel_rfl))
 f260:=Tryz.func97.trans (congrArg some (by kernel_rfl))
 f266:=Tryz.func103.trans (congrArg some (by kernel_rfl))
 f271:=Tryz.func73.trans (congrArg some (by kernel_rfl))
 t0:=Tryz.underlying0
 a0:=Tryz.isAgg0
 z0:=Tryz.sizeOf0
 v0:=Tryz.zeroValue0
 t3:=Tryz.underlying3
 a3:=Tryz.isAgg3
 z3:=Tryz.sizeOf3
 v3:=Tryz.zeroValue3
 t4:=Tryz.underlying4
 a4:=Tryz.isAgg4
 z4:=Tryz.sizeOf4
 v4:=Tryz.zeroValue4
 t5:=Tryz.underlying5
 a5:=Tryz.isAgg5
 z5:=Tryz.sizeOf5
 v5:=Tryz.zeroValue5
 t9:=Tryz.underlying9
 a9:=Tryz.isAgg9
 z9:=Tryz.sizeOf9
 v9:=Tryz.zeroValue9
 t21:=Tryz.underlying21
 a21:=Tryz.isAgg21
 z21:=Tryz.sizeOf21
 v21:=Tryz.zeroValue21
 t46:=Tryz.underlying99
 a46:=Tryz.isAgg99
 z46:=Tryz.sizeOf99
 v46:=Tryz.zeroValue99
 t105:=Tryz.underlying92
 a105:=Tryz.isAgg92
 z105:=Tryz.sizeOf92
 v105:=Tryz.zeroValue92
 t116:=Tryz.underlying75
 a116:=Tryz.isAgg75
 z116:=Tryz.sizeOf75
 t117:=Tryz.underlying76
 a117:=Tryz.isAgg76
 z117:=Tryz.sizeOf76
 v117:=Tryz.zeroValue76
 t119:=Tryz.underlying127
 a119:=Tryz.isAgg127
 z119:=Tryz.sizeOf127
 t124:=Tryz.underlying79
 a124:=Tryz.isAgg79
 z124:=Tryz.sizeOf79
 v124:=Tryz.zeroValue79
 t138:=Tryz.underlying129
 a138:=Tryz.isAgg129
 z138:=Tryz.sizeOf129
 v138:=Tryz.zeroValue129
 t139:=Tryz.underlying130
 a139:=Tryz.isAgg130
 z139:=Tryz.sizeOf130
 v139:=Tryz.zeroValue130
 g3:=by kernel_rfl
 g4:=by kernel_rfl}
def Tryz.laysM171_ren:Fq:=⟨fun | 171=>51 | 243=>69 | 246=>78 | 283=>93 | 284=>94 | 285=>95 | 286=>96 | 129=>106 | 317=>105 | 318=>107 | 319=>108 | 320=>109 | 337=>112 | 338=>113 | n=>n,fun | 3=>3 | 9=>9 | 2=>2 | 4=>4 | 171=>109 | 0=>0 | 53=>49 | 37=>22 | 5=>5 | 173=>112 | 212=>124 | 51=>120 | 20=>20 | 213=>125 | 46=>99 | 232=>137 | 233=>138 | n=>n,fun | 17=>3 | 18=>6 | 19=>7 | n=>n⟩
theorem Tryz.laysM171:Go.Proofs.LaysM.n171 Tryz.prog Tryz.laysM171_ren:={
 mixed:=by kernel_rfl
 f129:=Tryz.func106.trans (congrArg some (by kernel_rfl))
 f171:=Tryz.func51.trans (congrArg some (by kernel_rfl))
 f243:=Tryz.func69.trans (congrArg some (by kernel_rfl))
 f246:=Tryz.func78.trans (congrArg some (by kernel_rfl))
 f283:=Tryz.func93.trans (congrArg some (by kernel_rfl))
 f284:=Tryz.func94.trans (congrArg some (by kernel_rfl))
 f285:=Tryz.func95.trans (congrArg some (by kernel_rfl))
 f286:=Tryz.func96.trans (congrArg some (by kernel_rfl))
 f317:=Tryz.func105.trans (congrArg some (by kernel_rfl))
 f318:=Tryz.func107.trans (congrArg some (by kernel_rfl))
 f319:=Tryz.func108.trans (congrArg some (by kernel_rfl))
 f320:=Tryz.func109.trans (congrArg some (by kernel_rfl))
 f337:=Tryz.func112.trans (congrArg some (by kernel_rfl))
 f338:=Tryz.func113.trans (congrArg some (by kernel_rfl))
 t0:=Tryz.underlying0
 a0:=Tryz.isAgg0
 z0:=Tryz.sizeOf0
 v0:=Tryz.zeroValue0
 t2:=Tryz.underlying2
 a2:=Tryz.isAgg2
 z2:=Tryz.sizeOf2
 v2:=Tryz.zeroValue2
 t3:=Tryz.underlying3
 a3:=Tryz.isAgg3
 z3:=Tryz.sizeOf3
 v3:=Tryz.zeroValue3
 t4:=Tryz.underlying4
 a4:=Tryz.isAgg4
 z4:=Tryz.sizeOf4
 v4:=Tryz.zeroValue4
 t5:=Tryz.underlying5
 a5:=Tryz.isAgg5
 z5:=Tryz.sizeOf5
 v5:=Tryz.zeroValue5
 t9:=Tryz.underlying9
 a9:=Tryz.isAgg9
 z9:=Tryz.sizeOf9
 v9:=Tryz.zeroValue9
 t20:=Tryz.underlying20
 a20:=Tryz.isAgg20
 z20:=Tryz.sizeOf20
 v20:=Tryz.zeroValue20
 t37:=Tryz.underlying22
 a37:=Tryz.isAgg22
 z37:=Tryz.sizeOf22
 v37:=Tryz.zeroValue22
 t46:=Tryz.underlying99
 a46:=Tryz.isAgg99
 z46:=Tryz.sizeOf99
 v46:=Tryz.zeroValue99
 t51:=Tryz.underlying120
 a51:=Tryz.isAgg120
 z51:=Tryz.sizeOf120
 v51:=Tryz.zeroValue120
 t53:=Tryz.underlying49
 a53:=Tryz.isAgg49
 z53:=Tryz.sizeOf49
 v53:=Tryz.zeroValue49
 t171:=Tryz.underlying109
 a171:=Tryz.isAgg109
 z171:=Tryz.sizeOf109
 v171:=Tryz.zeroValue109
 t173:=Tryz.underlying112
 a173:=Tryz.isAgg112
 z173:=Tryz.sizeOf112
 v173:=Tryz.zeroValue112
 t212:=Tryz.underlying124
 a212:=Tryz.isAgg124
 z212:=Tryz.sizeOf124
 v212:=Tryz.zeroValue124
 t213:=Tryz.underlying125
 a213:=Tryz.isAgg125
 z213:=Tryz.sizeOf125
 t232:=Tryz.underlying137
 a232:=Tryz.isAgg137
 z232:=Tryz.sizeOf137
 v232:=Tryz.zeroValue137
 t233:=Tryz.underlying138
 a233:=Tryz.isAgg138
 z233:=Tryz.sizeOf138
 v233:=Tryz.zeroValue138
 g17:=by kernel_rfl
 g18:=by kernel_rfl
 g19:=by kernel_rfl
 i0:=by kernel_rfl
 i2:=by kernel_rfl
 i3:=by kernel_rfl
 i4:=by kernel_rfl
 i5:=by kernel_rfl
 i9:=by kernel_rfl
 i20:=by kernel_rfl
 i37:=by kernel_rfl
 i46:=by kernel_rfl
 i51:=by kernel_rfl
 i53:=by kernel_rfl
 i171:=by kernel_rfl
 i173:=by kernel_rfl
 i212:=by kernel_rfl
 i232:=by kernel_rfl
 i233:=by kernel_rfl
 m17:=by kernel_rfl
 m18:=by kernel_rfl
 m19:=by kernel_rfl}
def Tryz.laysC172_ren:Fq:=⟨fun | 172=>61 | 244=>75 | 245=>76 | 247=>84 | 279=>85 | 280=>86 | 281=>87 | 282=>88 | 287=>100 | 316=>101 | 171=>51 | 205=>102 | 321=>110 | 322=>111 | 243=>69 | 246=>78 | 283=>93 | 284=>94 | 285=>95 | 286=>96 | 129=>106 | 317=>105 | 318=>107 | 319=>108 | 320=>109 | 337=>112 | 338=>113 | n=>n,fun | 9=>9 | 3=>3 | 75=>83 | 76=>84 | 4=>4 | 5=>5 | 167=>103 | 37=>22 | 0=>0 | 85=>104 | 2=>2 | 168=>106 | 53=>49 | 175=>114 | 46=>99 | 210=>118 | 127=>132 | 145=>135 | 143=>133 | 21=>21 | 171=>109 | 173=>112 | 212=>124 | 51=>120 | 20=>20 | 213=>125 | 232=>137 | 233=>138 | 80=>87 | n=>n,fun | 15=>1 | 16=>2 | 17=>3 | 18=>6 | 19=>7 | n=>n⟩
theorem Tryz.laysC172:Go.Proofs.LaysC.n172 Tryz.prog Tryz.laysC172_ren:={
 mixed:=by kernel_rfl
 f129:=Tryz.func106.trans (congrArg some (by kernel_rfl))
 f171:=Tryz.func51.trans (congrArg some (by kernel_rfl))
 f172:=Tryz.func61.trans (congrArg some (by kernel_rfl))
 f205:=Tryz.func102.trans (congrArg some (by kernel_rfl))
 f243:=Tryz.func69.trans (congrArg some (by kernel_rfl))
 f244:=Tryz.func75.trans (congrArg some (by kernel_rfl))
 f245:=Tryz.func76.trans (congrArg some (by kernel_rfl))
 f246:=Tryz.func78.trans (congrArg some (by kernel_rfl))
 f247:=Tryz.func84.trans (congrArg some (by kernel_rfl))
 f279:=Tryz.func85.trans (congrArg some (by kernel_rfl))
 f280:=Tryz.func86.trans (congrArg some (by kernel_rfl))
 f281:=Tryz.func87.trans (congrArg some (by kernel_rfl))
 f282:=Tryz.func88.trans (congrArg some (by kernel_rfl))
 f283:=Tryz.func93.trans (congrArg some (by kernel_rfl))
 f284:=Tryz.func94.trans (congrArg some (by kernel_rfl))
 f285:=Tryz.func95.trans (congrArg some (by kernel_rfl))
 f286:=Tryz.func96.trans (congrArg some (by kernel_rfl))
 f287:=Tryz.func100.trans (congrArg some (by kernel_rfl))
 f316:=Tryz.func101.trans (congrArg some (by kernel_rfl))
 f317:=Tryz.func105.trans (congrArg some (by kernel_rfl))
 f318:=Tryz.func107.trans (congrArg some (by kernel_rfl))
 f319:=Tryz.func108.trans (congrArg some (by kernel_rfl))
 f320:=Tryz.func109.trans (congrArg some (by kernel_rfl))
 f321:=Tryz.func110.trans (congrArg some (by kernel_rfl))
 f322:=Tryz.func111.trans (congrArg some (by kernel_rfl))
 f337:=Tryz.func112.trans (congrArg some (by kernel_rfl))
 f338:=Tryz.func113.trans (congrArg some (by kernel_rfl))
 t0:=Tryz.underlying0
 a0:=Tryz.isAgg0
 z0:=Tryz.sizeOf0
 v0:=Tryz.zeroValue0
 t2:=Tryz.underlying2
 a2:=Tryz.isAgg2
 z2:=Tryz.sizeOf2
 v2:=Tryz.zeroValue2
 t3:=Tryz.underlying3
 a3:=Tryz.isAgg3
 z3:=Tryz.sizeOf3
 v3:=Tryz.zeroValue3
 t4:=Tryz.underlying4
 a4:=Tryz.isAgg4
 z4:=Tryz.sizeOf4
 v4:=Tryz.zeroValue4
 t5:=Tryz.underlying5
 a5:=Tryz.isAgg5
 z5:=Tryz.sizeOf5
 v5:=Tryz.zeroValue5
 t9:=Tryz.underlying9
 a9:=Tryz.isAgg9
 z9:=Tryz.sizeOf9
 v9:=Tryz.zeroValue9
 t20:=Tryz.underlying20
 a20:=Tryz.isAgg20
 z20:=Tryz.sizeOf20
 v20:=Tryz.zeroValue20
 t21:=Tryz.underlying21
 a21:=Tryz.isAgg21
 z21:=Tryz.sizeOf21
 v21:=Tryz.zeroValue21
 t37:=Tryz.underlying22
 a37:=Tryz.isAgg22
 z37:=Tryz.sizeOf22
 v37:=Tryz.zeroValue22
 t46:=Tryz.underlying99
 a46:=Tryz.isAgg99
 z46:=Tryz.sizeOf99
 v46:=Tryz.zeroValue99
 t51:=Tryz.underlying120
 a51:=Tryz.isAgg120
 z51:=Tryz.sizeOf120
 v51:=Tryz.zeroValue120
 t53:=Tryz.underlying49
 a53:=Tryz.isAgg49
 z53:=Tryz.sizeOf49
 v53:=Tryz.zeroValue49
 t75:=Tryz.underlying83
 a75:=Tryz.isAgg83
 z75:=Tryz.sizeOf83
 v75:=Tryz.zeroValue83
 t76:=Tryz.underlying84
 a76:=Tryz.isAgg84
 z76:=Tryz.sizeOf84
 v76:=Tryz.zeroValue84
 t85:=Tryz.underlying104
 a85:=Tryz.isAgg104
 z85:=Tryz.sizeOf104
 v85:=Tryz.zeroValue104
 t127:=Tryz.underlying132
 a127:=Tryz.isAgg132
 z127:=Tryz.sizeOf132
 v127:=Tryz.zeroValue132
 t143:=Tryz.underlying133
 a143:=Tryz.isAgg133
 z143:=Tryz.sizeOf133
 v143:=Tryz.zeroValue133
 t145:=Tryz.underlying135
 a145:=Tryz.isAgg135
 z145:=Tryz.sizeOf135
 v145:=Tryz.zeroValue135
 t167:=Tryz.underlying103
 a167:=Tryz.isAgg103
 z167:=Tryz.sizeOf103
 v167:=Tryz.zeroValue103
 t168:=Tryz.underlying106
 a168:=Tryz.isAgg106
 z168:=Tryz.sizeOf106
 v168:=Tryz.zeroValue106
 t171:=Tryz.underlying109
 a171:=Tryz.isAgg109
 z171:=Tryz.sizeOf109
 v171:=Tryz.zeroValue109
 t173:=Tryz.underlying112
 a173:=Tryz.isAgg112
 z173:=Tryz.sizeOf112
 v173:=Tryz.zeroValue112
 t175:=Tryz.underlying114
 a175:=Tryz.isAgg114
 z175:=Tryz.sizeOf114
 v175:=Tryz.zeroValue114
 t210:=Tryz.underlying118
 a210:=Tryz.isAgg118
 z210:=Tryz.sizeOf118
 v210:=Tryz.zeroValue118
 t212:=Tryz.underlying124
 a212:=Tryz.isAgg124
 z212:=Tryz.sizeOf124
 v212:=Tryz.zeroValue124
 t213:=Tryz.underlying125
 a213:=Tryz.isAgg125
 z213:=Tryz.sizeOf125
 t232:=Tryz.underlying137
 a232:=Tryz.isAgg137
 z232:=Tryz.sizeOf137
 v232:=Tryz.zeroValue137
 t233:=Tryz.underlying138
 a233:=Tryz.isAgg138
 z233:=Tryz.sizeOf138
 v233:=Tryz.zeroValue138
 g15:=by kernel_rfl
 g16:=by kernel_rfl
 g17:=by kernel_rfl
 g18:=by kernel_rfl
 g19:=by kernel_rfl
 t80:=Tryz.underlying87
 a80:=Tryz.isAgg87
 z80:=Tryz.sizeOf87
 v80:=Tryz.zeroValue87
 i0:=by kernel_rfl
 i2:=by kernel_rfl
 i3:=by kernel_rfl
 i4:=by kernel_rfl
 i5:=by kernel_rfl
 i9:=by kernel_rfl
 i20:=by kernel_rfl
 i21:=by kernel_rfl
 i37:=by kernel_rfl
 i46:=by kernel_rfl
 i51:=by kernel_rfl
 i53:=by kernel_rfl
 i75:=by kernel_rfl
 i76:=by kernel_rfl
 i80:=by kernel_rfl
 i85:=by kernel_rfl
 i127:=by kernel_rfl
 i143:=by kernel_rfl
 i145:=by kernel_rfl
 i167:=by kernel_rfl
 i168:=by kernel_rfl
 i171:=by kernel_rfl
 i173:=by kernel_rfl
 i175:=by kernel_rfl
 i210:=by kernel_rfl
 i212:=by kernel_rfl
 i232:=by kernel_rfl
 i233:=by kernel_rfl
 m15:=by kernel_rfl
 m16:=by kernel_rfl
 m17:=by kernel_rfl
 m18:=by kernel_rfl
 m19:=by kernel_rfl
 c0:=by kernel_rfl
 c2:=by kernel_rfl
 c3:=by kernel_rfl
 c4:=by kernel_rfl
 c5:=by kernel_rfl
 c9:=by kernel_rfl
 c20:=by kernel_rfl
 c21:=by kernel_rfl
 c37:=by kernel_rfl
 c46:=by kernel_rfl
 c51:=by kernel_rfl
 c53:=by kernel_rfl
 c75:=by kernel_rfl
 c76:=by kernel_rfl
 c80:=by kernel_rfl
 c85:=by kernel_rfl
 c127:=by kernel_rfl
 c143:=by kernel_rfl
 c145:=by kernel_rfl
 c167:=by kernel_rfl
 c168:=by kernel_rfl
 c171:=by kernel_rfl
 c173:=by kernel_rfl
 c175:=by kernel_rfl
 c210:=by kernel_rfl
 c212:=by kernel_rfl
 c213:=by kernel_rfl
 c232:=by kernel_rfl
 c233:=by kernel_rfl}
def Tryz.lays144_ren:Fq:=⟨fun | 144=>41 | 143=>66 | 219=>77 | 217=>89 | 225=>90 | 224=>91 | 267=>92 | 266=>103 | 314=>104 | n=>n,fun | 9=>9 | 4=>4 | 3=>3 | 5=>5 | 46=>99 | 146=>121 | 51=>120 | n=>n,fun | 1=>0 | n=>n⟩
theorem Tryz.lays144:Go.Proofs.Lays.n144 Tryz.prog Tryz.lays144_ren:={
 mixed:=by kernel_rfl
 f143:=Tryz.func66.trans (congrArg some (by kernel_rfl))
 f144:=Tryz.func41.trans (congrArg some (by kernel_rfl))
 f217:=Tryz.func89.trans (congrArg some (by kernel_rfl))
 f219:=Tryz.func77.trans (congrArg some (by kernel_rfl))
 f224:=Tryz.func91.trans (congrArg some (by kernel_rfl))
 f225:=Tryz.func90.trans (congrArg some (by kernel_rfl))
 f266:=Tryz.func103.trans (congrArg some (by kernel_rfl))
 f267:=Tryz.func92.trans (congrArg some (by kernel_rfl))
 f314:=Tryz.func104.trans (congrArg some (by kernel_rfl))
 t3:=Tryz.underlying3
 a3:=Tryz.isAgg3
 z3:=Tryz.sizeOf3
 v3:=Tryz.zeroValue3
 t4:=Tryz.underlying4
 a4:=Tryz.isAgg4
 z4:=Tryz.sizeOf4
 v4:=Tryz.zeroValue4
 t5:=Tryz.underlying5
 a5:=Tryz.isAgg5
 z5:=Tryz.sizeOf5
 v5:=Tryz.zeroValue5
 t9:=Tryz.underlying9
 a9:=Tryz.isAgg9
 z9:=Tryz.sizeOf9
 v9:=Tryz.zeroValue9
 t46:=Tryz.underlying99
 a46:=Tryz.isAgg99
 z46:=Tryz.sizeOf99
 v46:=Tryz.zeroValue99
 t51:=Tryz.underlying120
 a51:=Tryz.isAgg120
 z51:=Tryz.sizeOf120
 v51:=Tryz.zeroValue120
 t146:=Tryz.underlying121
 a146:=Tryz.isAgg121
 z146:=Tryz.sizeOf121
 v146:=Tryz.zeroValue121
 g1:=by kernel_rfl}
def Tryz.laysM146_ren:Fq:=⟨fun | 146=>36 | 221=>54 | 268=>70 | 138=>71 | 143=>66 | 195=>79 | 197=>80 | 218=>81 | 219=>77 | 260=>97 | 217=>89 | 225=>90 | 224=>91 | 267=>92 | 266=>103 | 314=>104 | n=>n,fun | 9=>9 | 31=>37 | 3=>3 | 4=>4 | 0=>0 | 105=>92 | 21=>21 | 5=>5 | 46=>99 | 119=>127 | 139=>130 | 138=>129 | 146=>121 | 51=>120 | n=>n,fun | 1=>0 | 3=>4 | 4=>5 | n=>n⟩
theorem Tryz.laysM146:Go.Proofs.LaysM.n146 Tryz.prog Tryz.laysM146_ren:={
 mixed:=by kernel_rfl
 f138:=Tryz.func71.trans (congrArg some (by kernel_rfl))
 f143:=Tryz.func66.trans (congrArg some (by kernel_rfl))
 f146:=Tryz.func36.trans (congrArg some (by kernel_rfl))
 f195:=Tryz.func79.trans (congrArg some (by kernel_rfl))
 f197:=Tryz.func80.trans (congrArg some (by kernel_rfl))
 f217:=Tryz.func89.trans (congrArg some (by kernel_rfl))
 f218:=Tryz.func81.trans (congrArg some (by kernel_rfl))
 f219:=Tryz.func77.trans (congrArg some (by kernel_rfl))
 f221:=Tryz.func54.trans (congrArg some (by kernel_rfl))
 f224:=Tryz.func91.trans (congrArg some (by kernel_rfl))
 f225:=Tryz.func90.trans (congrArg some (by kernel_rfl))
 f260:=Tryz.func97.trans (congrArg some (by kernel_rfl))
 f266:=Tryz.func103.trans (congrArg some (by kernel_rfl))
 f267:=Tryz.func92.trans (congrArg some (by kernel_rfl))
 f268:=Tryz.func70.trans (congrArg some (by kernel_rfl))
 f314:=Tryz.func104.trans (congrArg some (by kernel_rfl))
 t0:=Tryz.underlying0
 a0:=Tryz.isAgg0
 z0:=Tryz.sizeOf0
 v0:=Tryz.zeroValue0
 t3:=Tryz.underlying3
 a3:=Tryz.isAgg3
 z3:=Tryz.sizeOf3
 v3:=Tryz.zeroValue3
 t4:=Tryz.underlying4
 a4:=Tryz.isAgg4
 z4:=Tryz.sizeOf4
 v4:=Tryz.zeroValue4
 t5:=Tryz.underlying5
 a5:=Tryz.isAgg5
 z5:=Tryz.sizeOf5
 v5:=Tryz.zeroValue5
 t9:=Tryz.underlying9
 a9:=Tryz.isAgg9
 z9:=Tryz.sizeOf9
 v9:=Tryz.zeroValue9
 t21:=Tryz.underlying21
 a21:=Tryz.isAgg21
 z21:=Tryz.sizeOf21
 v21:=Tryz.zeroValue21
 t31:=Tryz.underlying37
 a31:=Tryz.isAgg37
 z31:=Tryz.sizeOf37
 v31:=Tryz.zeroValue37
 t46:=Tryz.underlying99
 a46:=Tryz.isAgg99
 z46:=Tryz.sizeOf99
 v46:=Tryz.zeroValue99
 t51:=Tryz.underlying120
 a51:=Tryz.isAgg120
 z51:=Tryz.sizeOf120
 v51:=Tryz.zeroValue120
 t105:=Tryz.underlying92
 a105:=Tryz.isAgg92
 z105:=Tryz.sizeOf92
 v105:=Tryz.zeroValue92
 t119:=Tryz.underlying127
 a119:=Tryz.isAgg127
 z119:=Tryz.sizeOf127
 t138:=Tryz.underlying129
 a138:=Tryz.isAgg129
 z138:=Tryz.sizeOf129
 v138:=Tryz.zeroValue129
 t139:=Tryz.underlying130
 a139:=Tryz.isAgg130
 z139:=Tryz.sizeOf130
 v139:=Tryz.zeroValue130
 t146:=Tryz.underlying121
 a146:=Tryz.isAgg121
 z146:=Tryz.sizeOf121
 v146:=Tryz.zeroValue121
 g1:=by kernel_rfl
 g3:=by kernel_rfl
 g4:=by kernel_rfl
 i0:=by kernel_rfl
 i3:=by kernel_rfl
 i4:=by kernel_rfl
 i5:=by kernel_rfl
 i9:=by kernel_rfl
 i21:=by kernel_rfl
 i31:=by kernel_rfl
 i46:=by kernel_rfl
 i51:=by kernel_rfl
 i105:=by kernel_rfl
 i138:=by kernel_rfl
 i139:=by kernel_rfl
 i146:=by kernel_rfl
 m1:=by kernel_rfl
 s1_3:=fun w h=>Go.Proofs.cell_of_shapedOpen_int (zero:=#[.int .i64 0]) (t:=3) h (of_decide_eq_true (by kernel_rfl)) (by kernel_rfl) rfl (by kernel_rfl) (by kernel_rfl) Tryz.underlying3
 m3:=by kernel_rfl
 m4:=by kernel_rfl}
def Tryz.lays229_ren:Fq:=⟨fun | 229=>59 | n=>n,fun | 9=>9 | 40=>81 | 31=>37 | 152=>95 | 3=>3 | 0=>0 | 4=>4 | 21=>21 | 154=>97 | n=>n,fun | n=>n⟩
theorem Tryz.lays229:Go.Proofs.Lays.n229 Tryz.prog Tryz.lays229_ren:={
 mixed:=by kernel_rfl
 f229:=Tryz.func59.trans (congrArg some (by kernel_rfl))
 t0:=Tryz.underlying0
 a0:=Tryz.isAgg0
 z0:=Tryz.sizeOf0
 v0:=Tryz.zeroValue0
 t3:=Tryz.underlying3
 a3:=Tryz.isAgg3
 z3:=Tryz.sizeOf3
 v3:=Tryz.zeroValue3
 t4:=Tryz.underlying4
 a4:=Tryz.isAgg4
 z4:=Tryz.sizeOf4
 v4:=Tryz.zeroValue4
 t9:=Tryz.underlying9
 a9:=Tryz.isAgg9
 z9:=Tryz.sizeOf9
 v9:=Tryz.zeroValue9
 t21:=Tryz.underlying21
 a21:=Tryz.isAgg21
 z21:=Tryz.sizeOf21
 v21:=Tryz.zeroValue21
 t31:=Tryz.underlying37
 a31:=Tryz.isAgg37
 z31:=Tryz.sizeOf37
 v31:=Tryz.zeroValue37
 t40:=Tryz.underlying81
 a40:=Tryz.isAgg81
 z40:=Tryz.sizeOf81
 v40:=Tryz.zeroValue81
 t152:=Tryz.underlying95
 a152:=Tryz.isAgg95
 z152:=Tryz.sizeOf95
 v152:=Tryz.zeroValue95
 t154:=Tryz.underlying97
 a154:=Tryz.isAgg97
 z154:=Tryz.sizeOf97
 v154:=Tryz.zeroValue97}
end Go.Proofs
namespace Go.Proofs.YtioabeglbjlndaaGreatDoor
open Go Go.V Go.Shelf
set_option maxRecDepth 100000
def gl0:List (Nat × (Obj→Prop)):=[(0,sB 0)]
def gl1:List (Nat × (Obj→Prop)):=gl0++[(3,pd)]
def gl2:List (Nat × (Obj→Prop)):=gl1++[(1,qt),(2,qt)]
theorem Ex:∀p∈gl0,p∈gl1:=fun _ hp=>FO _ hp
theorem Eb:∀p∈gl1,p∈gl2:=fun _ hp=>FO _ hp
theorem iw:∀p∈gl0,p∈gl2:=fun p hp=>Eb p (Ex p hp)
@[reducible] def lQ:FS:=BF
theorem sF:ao gl1 Tryz.prog 51 lQ:=DD Tryz.laysM171 (by kernel_rfl) (show(3,pd)∈gl1 by simp [gl0,gl1]) (by kernel_rfl)
@[reducible] def lF:FS:=zZ
theorem rX:ao gl2 Tryz.prog 61 lF:=DB Tryz.laysC172 (by kernel_rfl) (by kernel_rfl) (by kernel_rfl) (show(1,qt)∈gl2 by simp [gl0,gl1,gl2]) (show(2,qt)∈gl2 by simp [gl0,gl1,gl2])
@[reducible] def kW:FS:=yd
theorem qI:ao gl0 Tryz.prog 36 kW:=Dg Tryz.laysM146 (by kernel_rfl) (by kernel_rfl) (show(0,sB 0)∈gl0 by simp [gl0])
@[reducible] def im:FS:=sO
theorem ny:ao gl0 Tryz.prog 41 im:=xK Tryz.lays144 (by kernel_rfl) (by kernel_rfl) (show(0,sB 0)∈gl0 by simp [gl0])
@[reducible] def gR:FS:=qp
theorem mG:ao gl0 Tryz.prog 37 gR:=wT Tryz.lays162 (by kernel_rfl) (by kernel_rfl)
end Go.Proofs.YtioabeglbjlndaaGreatDoor

namespace Go.V
open Go.RowKit Go.WideShapes Go.ChangeShapes
set_option maxRecDepth 100000
mutual
inductive Sh where
 | int (k:IntKind)
 | bool
 | str
 | sl (e:Sh)
 | st (l:ShL)
inductive ShL where
 | nil
 | cons (h:Sh) (t:ShL)
end
mutual
def Sh.size:Sh→Nat
 | .int _=>1
 | .bool=>1
 | .str=>1
 | .sl _=>1
 | .st l=>l.size
def ShL.size:ShL→Nat
 | .nil=>0
 | .cons h t=>h.size+t.size
end
def Sh.isSt:Sh→Bool
 | .st _=>true
 | _=>false
mutual
def Sh.flat:Sh→Bool
 | .int _=>true
 | .bool=>true
 | .str=>true
 | .sl _=>false
 | .st l=>l.flat
def ShL.flat:ShL→Bool
 | .nil=>true
 | .cons h t=>h.flat&&t.flat
end
def wrap (ag:Bool) (m:List D):D:=if ag then .agg m else nth m 0
mutual
def Sh.Is:Sh→List D→Prop
 | .int k,l=>∃n,l=[.v (.int k n)]∧k.min≤n∧n≤k.max
 | .bool,l=>∃b,l=[B b]
 | .str,l=>∃s,l=[T s]∧s.size≤maxLen
 | .sl e,l=>∃ds,l=[.arr e.size ds]∧ds.length≤maxLen∧∀d∈ds,∃m,e.Is m∧d=wrap e.isSt m
 | .st fs,l=>fs.Is l
def ShL.Is:ShL→List D→Prop
 | .nil,l=>l=[]
 | .cons h t,l=>∃a b,l=a++b∧h.Is a∧t.Is b
end
mutual
def Sh.ok (P:Program):Sh→TypeId→Bool
 | .int k,t=>match P.underlying t with
  | some (.int k')=>decide (k'=k)
  | _=>false
 | .bool,t=>match P.underlying t with
  | some .bool=>true
  | _=>false
 | .str,t=>match P.underlying t with
  | some .string=>true
  | _=>false
 | .sl e,t=>match P.underlying t with
  | some (.slice u)=>e.ok P u&&decide (P.cellsOf u=e.size)&&decide (0<e.size)
  | _=>false
 | .st l,t=>match P.underlying t with
  | some (.struct fs)=>l.ok P 0 fs.toList&&decide (P.cellsOf t=l.size)
  | _=>false
def ShL.ok (P:Program):ShL→Nat→List Field→Bool
 | .nil,_,[]=>true
 | .cons h t,off,f::fs=>decide (f.offset=off)&&h.ok P f.type&&decide (P.cellsOf f.type=h.size)&&t.ok P (off+h.size) fs
 | _,_,_=>false
end
section
variable {H:Type} {enc:TypeId × Value→H} {P:Program} {W:World}
theorem Sh.len_one {sh:Sh} (h:sh.isSt=false):sh.size=1:=by
 cases sh<;>simp_all [Sh.isSt,Sh.size]
theorem BA {a:Addr} {n:Nat} {vs:List Value} (h:W.cells? 0 a n=some vs):vs.length=n∧∀i u,vs[i]?=some u→W.cell? (a.add i)=some u:=by
 simp only [World.cells?,Nat.zero_le,if_true] at h;have hl:=mapM_some_length h;rw [List.length_range] at hl;refine⟨hl,fun i u hu=>?_⟩
 have hi:i<n:=by
  rw [←hl];exact(EX.1 hu).1
 rw [mapM_some_get h i i (by simp [hi]),hu]
theorem Cb (a:Addr) (i j:Nat):(a.add i).add j=a.add (i+j):=by
 unfold Addr.add;by_cases hi:i=0<;>by_cases hj:j=0<;>simp [hi,hj,Nat.add_assoc]
theorem zM {a:Addr} {u:Value} (h:W.cell? a=some u):a.spot=none∧a.block<W.heap.size:=by
 unfold FV at h;split at h
 case h_2=>cases h
 rename_i hb;split at h
 ·cases h
 rename_i hs;refine⟨by simpa using hs,?_⟩
 rcases Nat.lt_or_ge a.block W.heap.size with h' | h'
 ·exact h'
 ·rw [Array.getElem?_eq_none h'] at hb;cases hb
theorem gA {F:Nat→Prop} {d:D} {vs:List Value}:aY W F [d] vs↔RepC W F d vs:=by
 rw [au];constructor
 ·rintro⟨v1,v2,rfl,h1,h2⟩
  rw [aD.1 h2,List.append_nil];exact h1
 ·intro h
  exact⟨vs,[],by simp,h,aD.2 rfl⟩
theorem yL {F:Nat→Prop} {sh:Sh} {L:List D} {vs:List Value} (hr:aY W F L vs) (hs:L.all D.single=true) (hl:L.length=sh.size):RepC W F (wrap sh.isSt L) vs∧(wrap sh.isSt L).width=sh.size:=by
 cases hb:sh.isSt
 ·have h1:=Sh.len_one hb
  match L,hl.trans h1 with
  | [d],_ =>
   simp only [wrap,EZ,if_false,nth];refine⟨gA.1 hr,?_⟩
   rw [h1];exact(cQ (by simpa using hs)).1
 ·simp only [wrap,if_true]
  refine⟨by rw [RepC];exact⟨hr,hs⟩,?_⟩
  simpa [D.width,D.cells] using hl
mutual
theorem Sh.opened:∀(sh:Sh) (t:TypeId) (fuel:Nat) (cs:List Value) (x:DataW H × List MemPlace),sh.ok P t=true→DataW.trod enc P W 0 (fun _=>true) true fuel t cs=some x →
  ∃L,sh.Is L∧aY W (·<W.heap.size) L cs∧L.all D.single=true∧L.length=sh.size
 | .int k,t,fuel,cs,x,hok,h=>by
  simp only [Sh.ok] at hok;split at hok
  case h_2=>cases hok
  rename_i k' hu;have hk:=of_decide_eq_true hok;subst hk;obtain⟨n,rfl,-,hw⟩:=DataW.trod_int hu h;simp only [Lit.wf,EU,decide_eq_true_eq] at hw;refine⟨[.v (.int k' n)],⟨n,rfl,hw⟩,gA.2 ?_,rfl,rfl⟩
  simp [RepC,V.flat]
 | .bool,t,fuel,cs,x,hok,h=>by
  simp only [Sh.ok] at hok;split at hok
  case h_2=>cases hok
  rename_i hu;obtain⟨n,rfl,-⟩:=DataW.trod_bool hu h;refine⟨[B n],⟨n,rfl⟩,gA.2 ?_,rfl,rfl⟩
  simp [RepC,V.flat]
 | .str,t,fuel,cs,x,hok,h=>by
  simp only [Sh.ok] at hok;split at hok
  case h_2=>cases hok
  rename_i hu;obtain⟨s,rfl,-,hw⟩:=DataW.trod_string hu h;refine⟨[T s],⟨s,rfl,hw⟩,gA.2 ?_,rfl,rfl⟩
  simp [RepC,V.flat]
 | .sl e,t,fuel,cs,x,hok,h=>by
  simp only [Sh.ok] at hok;split at hok
  case h_2=>cases hok
  rename_i u hu;simp only [EU,decide_eq_true_eq] at hok;obtain⟨⟨hok,hz⟩,hpos⟩:=hok;rcases DataW.trod_slice hu h with ⟨rfl,-⟩ | ⟨a,len,cap,elems,rest,n,rfl,rfl,-,-,hle,hcap,hlen,hel,-⟩
  ·refine⟨[.arr e.size []],⟨[],rfl,by simp,by simp⟩,gA.2 ?_,rfl,rfl⟩
   rw [RepC];exact⟨none,0,[],rfl,Fi _,aD.2 rfl,by simp,by simp⟩
  ·have key:∀k,k≤len→∃ds us,ds.length=k∧us.length=k*e.size∧aY W (·<W.heap.size) ds us∧(∀d∈ds,d.width=e.size)∧(∀d∈ds,∃m,e.Is m∧d=wrap e.isSt m)∧∀i v,us[i]?=some v→W.cell? (a.add i)=some v:=by
    intro k;induction k with
    | zero=>exact fun _=>⟨[],[],rfl,by simp,aD.2 rfl,by simp,by simp,by simp⟩
    | succ k ih =>
     intro hk;obtain⟨ds,us,h1,h2,h3,h4,h5,h6⟩:=ih (by omega);have hi:=hel k (by omega);rw [Fe (by omega)] at hi;obtain⟨vs,hc,hd⟩:=Fa.1 hi;obtain⟨L,g1,g2,g3,g4⟩:=Sh.opened e u n vs _ hok hd;obtain⟨g5,g6⟩:=BA hc;obtain⟨g7,g8⟩:=yL g2 g3 g4;rw [hz] at g5 g6;refine⟨ds++[wrap e.isSt L],us++vs,by simp [h1],by simp [h2,g5,Nat.succ_mul],(bX _ _ _).2 ⟨us,vs,rfl,h3,gA.2 g7⟩,?_,?_,fun i v hv=>?_⟩
     ·intro d hd
      rcases Fk.1 hd with hd | hd
      ·exact h4 d hd
      ·simp at hd;subst hd;exact g8
     ·intro d hd
      rcases Fk.1 hd with hd | hd
      ·exact h5 d hd
      ·simp at hd;subst hd;exact⟨L,g1,rfl⟩
     ·rcases Nat.lt_or_ge i us.length with hlt | hge
      ·rw [List.getElem?_append_left hlt] at hv
       exact h6 i v hv
      ·rw [List.getElem?_append_right hge] at hv
       have:=g6 _ v hv;rw [Cb,←h2] at this;rw [show us.length+(i - us.length)=i from by omega] at this;exact this
   obtain⟨ds,us,h1,h2,h3,h4,h5,h6⟩:=key len (Fi _);refine⟨[.arr e.size ds],⟨ds,rfl,by omega,h5⟩,gA.2 ?_,rfl,rfl⟩
   rw [RepC];refine⟨some a,cap,us,by rw [h1],by omega,h3,h4,fun hne=>?_⟩
   have hpl:0<us.length:=by
    rw [h2,←h1];exact Nat.mul_pos (List.length_pos_iff.2 hne) hpos
   have h0:=h6 0 _ (Fe hpl);have ha0:a.add 0=a:=by simp [Addr.add]
   rw [ha0] at h0;obtain⟨hsp,hbl⟩:=zM h0;have ea:a=⟨a.block,a.off,none⟩:=by
    rw [←hsp]
   refine⟨a.block,a.off,by rw [←ea],hbl,fun i v hv=>?_⟩
   have:=h6 i v hv;unfold Addr.add at this;split at this
   ·rename_i hi0
    subst hi0;rw [Nat.add_zero,←ea];exact this
   ·rw [←hsp]
    rw [hsp];exact this
 | .st l,t,fuel,cs,x,hok,h=>by
  simp only [Sh.ok] at hok;split at hok
  case h_2=>cases hok
  rename_i fs hu;simp only [EU,decide_eq_true_eq] at hok;obtain⟨xs,n,rfl,-,hlen,hxl,hf⟩:=DataW.trod_struct hu h;obtain⟨L,g1,g2,g3,g4⟩:=ShL.opened l 0 fs.toList n cs hok.1 (fun f hf'=>by
   obtain⟨i,hi,he⟩:=List.mem_iff_getElem.1 hf';have:=hf i f (by rw [←he];simp at hi ⊢);rw [Fe (by simp at hi;omega)] at this;exact⟨_,this⟩)
  rw [FJ,←hok.2,←hlen,List.take_length] at g2;exact⟨L,g1,g2,g3,g4⟩
theorem ShL.opened:∀(l:ShL) (off:Nat) (fs:List Field) (fuel:Nat) (cs:List Value),l.ok P off fs=true→(∀f∈fs,∃x,DataW.trod enc P W 0 (fun _=>true) true fuel f.type ((cs.drop f.offset).take (P.cellsOf f.type))=some x) →
  ∃L,l.Is L∧aY W (·<W.heap.size) L ((cs.drop off).take l.size)∧L.all D.single=true∧L.length=l.size
 | .nil,off,[],fuel,cs,hok,h=>⟨[],rfl,by simp [ShL.size,aD],rfl,rfl⟩
 | .nil,off,_::_,fuel,cs,hok,h=>by simp [ShL.ok] at hok
 | .cons a t,off,[],fuel,cs,hok,h=>by simp [ShL.ok] at hok
 | .cons a t,off,f::fs,fuel,cs,hok,h=>by
  simp only [ShL.ok,EU,decide_eq_true_eq] at hok;obtain⟨⟨⟨h1,h2⟩,h3⟩,h4⟩:=hok;obtain⟨x,hx⟩:=h f (by simp);obtain⟨L,g1,g2,g3,g4⟩:=Sh.opened a f.type fuel _ x h2 hx;obtain⟨M,k1,k2,k3,k4⟩:=ShL.opened t (off+a.size) fs fuel cs h4 (fun f hf=>h f (by simp [hf]));refine⟨L++M,⟨L,M,rfl,g1,k1⟩,(bX _ _ _).2 ⟨_,_,?_,g2,k2⟩,by simp [g3,k3],by simp [ShL.size,g4,k4]⟩
  rw [h1,h3,ShL.size,←List.drop_drop,←List.take_add]
end
def vi:D→Bool
 | .v _=>true
 | _=>false
theorem Ch {L:List D} (h:L.all vi=true):(D.agg L).isV=true:=by
 simp only [D.isV];refine FF.2 fun d hd=>?_
 have:=FF.1 h d hd;cases d<;>simp_all [vi]
mutual
theorem Sh.isV_of:∀(sh:Sh) (L:List D),sh.flat=true→sh.Is L→L.all vi=true
 | .int k,L,_,h=>by obtain⟨n,rfl,_⟩:=h;rfl
 | .bool,L,_,h=>by obtain⟨n,rfl⟩:=h;rfl
 | .str,L,_,h=>by obtain⟨n,rfl,_⟩:=h;rfl
 | .sl _,L,h,_=>by simp [Sh.flat] at h
 | .st l,L,h,hl=>ShL.isV_of l L (by simpa [Sh.flat] using h) hl
theorem ShL.isV_of:∀(sh:ShL) (L:List D),sh.flat=true→sh.Is L→L.all vi=true
 | .nil,L,_,h=>by cases h;rfl
 | .cons a t,L,h,hl=>by
  obtain⟨x,y,rfl,h1,h2⟩:=hl;simp only [ShL.flat,EU] at h;rw [List.all_append,Sh.isV_of a x h.1 h1,ShL.isV_of t y h.2 h2];rfl
end
def Sh.IsV (sh:Sh) (d:D):Prop:=∃m,sh.Is m∧d=wrap sh.isSt m
theorem Sh.arg {sh:Sh} {t:TypeId} {v:Value} {d:DataW H} {ps:List MemPlace} {base:Nat} (hok:sh.ok P t=true) (hv:Fx P W .any base t v) (h:DataW.Trod enc P W 0 (fun _=>true) true t v d ps) :
  ∃x,sh.IsV x∧bp W (·<W.heap.size) x v∧(sh.flat=true→x.isV=true):=by
 obtain⟨fuel,h⟩:=h;obtain⟨L,h1,h2,h3,h4⟩:=Sh.opened sh t fuel _ _ hok h;refine⟨_,⟨L,h1,rfl⟩,?_,fun hf=>?_⟩
 ·cases hb:sh.isSt
  ·have h1':=Sh.len_one hb
   have hone:v.cells.toList=[v]:=by
    cases sh<;>simp only [Sh.isSt,Bool.true_eq_false] at hb<;>simp only [Sh.ok] at hok<;>split at hok<;>rename_i hu
    ·obtain⟨n,rfl⟩:=okWide_int hu hv;rfl
    ·cases hok
    ·obtain⟨n,rfl⟩:=okWide_bool hu hv;rfl
    ·cases hok
    ·obtain⟨n,rfl⟩:=okWide_string hu hv;rfl
    ·cases hok
    ·obtain⟨_,_,_,rfl⟩:=okWide_slice hu hv;rfl
    ·cases hok
   match L,h4.trans h1' with
   | [e],_ =>
    simp only [wrap,EZ,if_false,nth];have hs:e.single=true:=by simpa using h3
    rw [hone] at h2;exact(fc hs).2 (gA.1 h2)
  ·simp only [wrap,if_true]
   have:∃cs,v = .agg cs:=by
    cases sh<;>simp only [Sh.isSt,EZ] at hb;simp only [Sh.ok] at hok;split at hok
    case h_2=>cases hok
    rename_i hu;simp only [Fx,hu] at hv;obtain⟨cs,h,_⟩:=hv;exact⟨cs,h⟩
   obtain⟨cs,rfl⟩:=this;refine⟨cs.toList,by simp,?_⟩
   rw [RepC];exact⟨by simpa [Value.cells] using h2,h3⟩
 ·have:=Sh.isV_of sh L hf h1
  cases hb:sh.isSt
  ·match L,h4.trans (Sh.len_one hb) with
   | [e],_ =>
    simp only [wrap,EZ,if_false,nth];cases e<;>simp [vi] at this;rfl
  ·simp only [wrap,if_true]
   exact Ch this
theorem Dy {k:IntKind} {x:D} (h:(Sh.int k).IsV x):∃n,x = .v (.int k n)∧k.min≤n∧n≤k.max:=by
 obtain⟨_,⟨n,rfl,h⟩,rfl⟩:=h;exact⟨n,rfl,h⟩
theorem Ej {e:Sh} {x:D} (h:(Sh.sl e).IsV x):∃ds,x = .arr e.size ds∧ds.length≤maxLen∧∀d∈ds,e.IsV d:=by
 obtain⟨_,⟨n,rfl,h,h'⟩,rfl⟩:=h;exact⟨n,rfl,h,h'⟩
def qr (P:Program):List Sh→List TypeId→List Kd→Bool
 | [],[],[]=>true
 | sh::shs,t::ts,.dat lv::ks=>sh.ok P t&&(Fr lv 2||(Fr lv 0&&sh.flat))&&qr P shs ts ks
 | _,_,_=>false
def wd:List Sh→List D→Prop
 | [],[]=>True
 | sh::shs,d::ds=>sh.IsV d∧wd shs ds
 | _,_=>False
theorem Db {a b:Sh} {ds:List D} (h:wd [a,b] ds):∃x y,ds=[x,y]∧a.IsV x∧b.IsV y:=by
 match ds,h with
 | [x,y],⟨h1,h2,_⟩=>exact⟨x,y,rfl,h1,h2⟩
theorem xM {base:Nat}:∀(shs:List Sh) (ts:List TypeId) (ks:List Kd) (vs:List Value) (ds:List (DataW H)) (ps:List MemPlace) (i:Nat),qr P shs ts ks=true→Fh enc P W 0 (fun _=>true) true ts vs ds ps →
  (∀(j:Nat) t v,ts[j]?=some t→vs[j]?=some v→Fx P W .any base t v)→∃xs,wd shs xs∧dV W (·<W.heap.size) (fun _=>none) i ks xs vs
 | [],[],[],[],_,_,_,_,_,_=>⟨[],trivial,trivial⟩
 | [],[],[],_::_,[],_,_,_,h,_=>h.elim
 | [],[],[],_::_,_::_,_,_,_,h,_=>h.elim
 | sh::shs,t::ts,k::ks,[],[],_,_,_,h,_=>h.elim
 | sh::shs,t::ts,k::ks,[],_::_,_,_,_,h,_=>h.elim
 | sh::shs,t::ts,k::ks,_::_,[],_,_,_,h,_=>h.elim
 | sh::shs,t::ts,k::ks,v::vs,d::ds,ps,i,hok,h,hv=>by
  cases k<;>simp only [qr,EZ] at hok;rename_i lv;simp only [EU,Bool.or_eq_true] at hok;obtain⟨⟨hok1,hlv⟩,hok2⟩:=hok;obtain⟨p,q,h1,h2,rfl⟩:=h;obtain⟨x,g1,g2,g3⟩:=Sh.arg hok1 (hv 0 t v rfl rfl) h1;obtain⟨xs,k1,k2⟩:=xM shs ts ks vs ds q (i+1) hok2 h2 (fun j t v ht hv'=>hv (j+1) t v ht hv');refine⟨x::xs,⟨g1,k1⟩,.inr ?_,k2⟩
  rcases hlv with h' | ⟨h',hf⟩
  ·rw [aq] at h'
   subst h';exact g2
  ·exact kc (g3 hf) g2
 | [],[],_::_,_,_,_,_,hok,_,_=>by simp [qr] at hok
 | [],_::_,_,_,_,_,_,hok,_,_=>by simp [qr] at hok
 | _::_,[],_,_,_,_,_,hok,_,_=>by simp [qr] at hok
 | _::_,_::_,[],_,_,_,_,hok,_,_=>by simp [qr] at hok
theorem nu {W':World} (hl:laidOutB P=true):∀(ts:List TypeId) (vs:List Value) (ds:List (DataW H)) (ps:List MemPlace),(ts.all fun t=>P.readableRec t&&decide (t<P.types.size))=true →
  Fh enc P W 0 (fun _=>true) true ts vs ds ps→Below W.heap.size W W'→(∀x∈ps,x.block<W.heap.size)→∀sp:Nat→Bool,(∀x∈ps,sp x.block=true)→Fh enc P W' 0 sp true ts vs ds ps
 | [],[],[],_,_,h,_,_,_,_=>h
 | [],_::_,[],_,_,h,_,_,_,_=>h.elim
 | [],[],_::_,_,_,h,_,_,_,_=>h.elim
 | [],_::_,_::_,_,_,h,_,_,_,_=>h.elim
 | _::_,[],[],_,_,h,_,_,_,_=>h.elim
 | _::_,[],_::_,_,_,h,_,_,_,_=>h.elim
 | _::_,_::_,[],_,_,h,_,_,_,_=>h.elim
 | t::ts,v::vs,d::ds,ps,hr,h,hb,hlt,sp,hsp=>by
  obtain⟨p,q,h1,h2,rfl⟩:=h;simp only [FP,EU,decide_eq_true_eq] at hr;refine⟨p,q,?_,nu hl ts vs ds q hr.2 h2 hb (fun x hx=>hlt x (by simp [hx])) sp (fun x hx=>hsp x (by simp [hx])),rfl⟩
  exact WideElems.Trod_stays hl hr.1.1 hr.1.2 h1 (fun x hx=>hb.same (hlt x (by simp [hx]))) (fun x hx=>hsp x (by simp [hx]))
end
section
variable {H:Type} {enc:TypeId × Value→H} {P:Program}
theorem tw {f:Func} {s:ChangeSpec} {apart fresh handsOn again:Bool} {W W':World} {args:Array Value} {v:Value} {ds gs:List (DataW H)} {before pa pv:List MemPlace}
  (hW:DataW.Whole enc P f.params.toList s.vars apart W args.toList ds gs before)
  (hres:∀(b:Nat) (sp:Nat→Bool) (hd:Bool),Fh enc P W' b sp hd f.resultTypes.toList (v.resultList f.resultTypes.size) (s.fn H (ds++gs)).results [])
  (hargs:∀sp:Nat→Bool,(∀p∈before,sp p.block=true)→Fh enc P W' 0 sp true f.params.toList args.toList (s.fn H (ds++gs)).args pa)
  (hvars:∀sp:Nat→Bool,(∀p∈before,sp p.block=true)→DataW.TrodVars enc P W' sp s.vars (s.fn H (ds++gs)).vars pv)
  (hps:before=pa++pv) (hb:Below W.heap.size W W')
  (hok:∀(j:Nat) (t:TypeId) (r:Value),f.resultTypes[j]?=some t→(v.resultList f.resultTypes.size)[j]?=some r→Fx P W' .any 0 t r) :
  s.post enc P f apart fresh handsOn again W args v W':=by
 have hlt:∀p∈before,p.block<W.heap.size:=fun p hp=>hW.lt p hp
 have hold:∀p∈before,(fun b=>decide (b<W.heap.size)) p.block=true:=fun p hp=>by simpa using hlt p hp
 refine⟨ds,gs,before,[],pa,pv,hW,hres _ _ _,hargs _ hold,hvars _ hold,World.keptBut_mono (fun p hp=>⟨hp,?_⟩) (hb.frame (·∈before)),fun _=>?_⟩
 ·rw [hps,Fk] at hp
  exact Or.inr hp
 ·obtain⟨_,_,_,_,_,hz,hn⟩:=hW
  refine⟨hok,_,_,([]++pa)++pv,⟨[]++pa,pv,trodAll_append (hargs _ (fun _ _=>rfl)) (hres _ _ _),hvars _ (fun _ _=>rfl),rfl,?_,?_⟩,?_⟩
  ·intro b off hp
   have hin:MemPlace.cell b off∈before:=by rw [hps];simpa using hp
   rw [hb.frozen (hlt _ hin)];exact hz b off hin
  ·intro ha
   have:=hn ha;rw [hps] at this;simpa using this
  ·intro p hp _
   rw [hps];simpa using hp
theorem rJ {G:List (Nat × (Obj→Prop))} {f:FuncId} {S:FS} (hm:ao G P f S) {fn:Func} (hf:P.funcs[f]?=some fn) (hname:(fn.name=="runtime.NumGoroutine")=false) (hb:fn.body.isSome=true) {ds rs us:List D} (hd:S.f ds=some (.ret rs us)) {args:Array Value} {w:World} {F:Nat→Prop} {ow:Nat→Option Nat}
  (hgl:gOk G w F) (ha:dV w F ow 0 S.pm ds args.toList) (hF:∀b,F b→b<w.heap.size∧ow b=none) (hO:∀b i,ow b=some i→b<w.heap.size) :
  Calls P f args w fun e w'=>∃v,e = .returned v∧∃F' R vs,v=gU vs∧CallPost S args rs us w F ow F' R vs w':=by
 obtain⟨b,hb⟩:=Fm.1 hb;have h1:¬fn.name="runtime.NumGoroutine":=by simpa using hname
 have hrun:(callFunc f args).run P w = .ok (.enter f args) w:=by simp [callFunc,hf,h1,hb]
 have h2:=hm ds rs us hd args w F ow hgl ha hF hO {(default:Oper) with dst:=some 0} {tmps:=#[undef],defers:=[]} (fun a w'=>∃F' R vs,a.tmps.getD 0 undef=gU vs∧CallPost S args rs us w F ow F' R vs w') (fun _ _ _=>False) (fun v w' h=>by
  obtain⟨F',R,vs,rfl,h⟩:=h;exact⟨F',R,vs,by simp [FZ],h⟩)
 rw [hrun,Fj] at h2;refine Fw h2 fun e w' he=>?_
 cases e with
 | returned v =>
  obtain⟨F',R,vs,h3,h4⟩:=he;exact⟨v,rfl,F',R,vs,by simpa [FZ] using h3,h4⟩
 | panicked c=>exact he.elim
 | outgrown=>obtain⟨_,_,h⟩:=he;exact h.elim
theorem Bi {G:List (Nat × (Obj→Prop))} {f:FuncId} {S:FS} (hm:ao G P f S) {fn:Func} (hf:P.funcs[f]?=some fn) (hname:(fn.name=="runtime.NumGoroutine")=false) (hbd:fn.body.isSome=true) (shs:List Sh) {rt:TypeId}
  (hl:laidOutB P=true) (hsh:qr P shs fn.params.toList S.pm=true) (hrd:(fn.params.toList.all fun t=>P.readableRec t&&decide (t<P.types.size))=true)
  (hrm:S.rm=[.dat 0]) (hrt:fn.resultTypes=#[rt]) (hbool:P.underlying rt=some .bool)
  (hd:∀ds,wd shs ds→S.f ds=some (.ret [B true] [])) {s:ChangeSpec} (hvars:s.vars=[])
  (hs:∀ds:List (DataW H),ds.length=fn.params.size→s.fn H (ds++[])={results:=[.lit (.bool true)],args:=ds})
  {W:World} {base:Nat} {args:Array Value} {ds gs:List (DataW H)} {before:List MemPlace}
  (hval:∀(j:Nat) t v,fn.params[j]?=some t→args[j]?=some v→Fx P W .any base t v) (hW:DataW.Whole enc P fn.params.toList s.vars false W args.toList ds gs before) (hgl:gOk G W fun b=>b<W.heap.size) {fresh handsOn again:Bool} :
  Calls P f args W fun e W'=>∃v,e = .returned v∧s.post enc P fn false fresh handsOn again W args v W':=by
 have hW':=hW;have hlt:∀p∈before,p.block<W.heap.size:=fun p hp=>hW.lt p hp
 obtain⟨p,q,hA,hV,rfl,hfz,hnd⟩:=hW;rw [hvars] at hV;have hgs:gs=[]∧q=[]:=by
  cases gs with
  | nil=>exact⟨rfl,hV⟩
  | cons _ _=>exact hV.elim
 obtain⟨rfl,rfl⟩:=hgs;obtain⟨xs,h1,h2⟩:=xM (base:=base) shs fn.params.toList S.pm args.toList ds p 0 hsh hA (fun j t v ht hv=>hval j t v (by simpa using ht) (by simpa using hv));refine Fw (rJ hm hf hname hbd (hd xs h1) hgl h2 (fun b hb=>⟨hb,rfl⟩) (fun b i hi=>by cases hi)) fun e W' he=>?_
 obtain⟨v,rfl,F',R,vs,rfl,hp⟩:=he;refine⟨_,rfl,?_⟩
 have hlen:ds.length=fn.params.size:=by
  have:∀(ts:List TypeId) (vs:List Value) (ds:List (DataW H)) (ps:List MemPlace),Fh enc P W 0 (fun _=>true) true ts vs ds ps→ds.length=ts.length:=by
   intro ts;induction ts with
   | nil =>
    intro vs ds ps h;cases ds with
    | nil=>rfl
    | cons _ _=>cases vs<;>exact h.elim
   | cons t ts ih =>
    intro vs ds ps h;cases vs with
    | nil=>exact h.elim
    | cons v vs =>
     cases ds with
     | nil=>exact h.elim
     | cons d ds =>
      obtain⟨_,_,_,h2,_⟩:=h;simp [ih _ _ _ h2]
  simpa using this _ _ _ _ hA
 have hB:Below W.heap.size W W':=⟨hp.os,hp.tape,hp.output,hp.size,fun b hb=>hp.keep b hb rfl⟩
 have hres:gU vs = .bool true:=by
  have hl1:=hp.len;rw [hrm] at hl1
  match vs,hl1 with
  | [y],_ =>
   have h0:=hp.res 0;rw [hrm] at h0;simp only [ah,nth,Ff] at h0;rcases h0 with h0 | h0
   ·cases h0
   ·exact(ko.1 h0).1
 rw [hres];have hsd:=hs ds hlen;refine tw (pa:=p) (pv:=[]) hW' (fun b sp hd'=>?_) (fun sp hsp=>?_) (fun sp _=>?_) rfl hB ?_
 ·rw [hsd,hrt]
  exact trodAll_mk1 (shut_bool hbool true)
 ·rw [hsd]
  exact nu hl _ _ _ _ hrd hA hB (fun x hx=>hlt x (by simp [hx])) sp (fun x hx=>hsp x (by simp [hx]))
 ·rw [hsd,hvars]
  rfl
 ·exact ok_one hrt rfl (okWide_bool_mk hbool true)
end
end Go.V

namespace Go.Proofs.YtioabeglbjlndaaGreatDoor
open Go Go.V Go.RowKit Go.WideShapes Go.ChangeShapes
set_option maxRecDepth 100000
theorem own:ownKnob Tryz.prog.godebug=none:=by kernel_rfl
theorem CJ:laidOutB Tryz.prog=true:=by kernel_rfl
theorem kD {w:World} {g:Nat} {p:Obj→Prop} (h:∃o,w.heap[g]?=some o∧p o):g<w.heap.size∧∃o,w.heap[g]?=some o∧p o:=by
 obtain⟨o,ho,hp⟩:=h;exact⟨(FA.1 ho).1,o,ho,hp⟩
theorem Du {W:World} (hsh:W.ShapedOpen Tryz.prog):gOk gl0 W fun b=>b<W.heap.size:=by
 intro p hp;simp only [gl0,Fz,FG,or_false] at hp;subst hp;obtain⟨m,hm⟩:=Go.Proofs.cell_of_shapedOpen_int (g:=0) (zero:=#[.int .i64 0]) (t:=3) hsh (of_decide_eq_true (by kernel_rfl)) (by kernel_rfl) rfl (by kernel_rfl) (by kernel_rfl) Tryz.underlying3;exact kD (zW hm)
theorem EG:Tryz.prog.globalNamed "internal/strconv.uint64pow10"=some 3:=by kernel_rfl
theorem DF {W:World} {rest:List (String × DataW Unit)} (h:laidMet Tryz.prog (("internal/strconv.uint64pow10",Rows.laid_internal_strconv_uint64pow10)::rest) W):Fv Tryz.prog W "internal/strconv.uint64pow10" .u64 Fp :=
 Lib.tabIs_of_head (rest:=rest) EG (by kernel_rfl) Tryz.underlying124 Tryz.underlying49 (by kernel_rfl) (by kernel_rfl) h
theorem Dz {W:World} (hsh:W.ShapedOpen Tryz.prog) (hp:Fv Tryz.prog W "internal/strconv.uint64pow10" .u64 Fp):gOk gl1 W fun b=>b<W.heap.size:=by
 intro p hq;rcases Fk.1 hq with hq | hq
 ·exact Du hsh p hq
 ·simp only [Fz,FG,or_false] at hq
  subst hq;exact kD (xy EG hp)
theorem gES:Tryz.prog.globalNamed "strconv.ErrSyntax"=some 1:=by kernel_rfl
theorem gER:Tryz.prog.globalNamed "strconv.ErrRange"=some 2:=by kernel_rfl
theorem Em:"*"++"errors.errorString"="*errors.errorString":=by decide
theorem yo (u:TypeId) (h:Tryz.prog.typeName? 3 u=some "*errors.errorString"):u=133 :=
 typeName_ptr_named (nm:="errors.errorString") (by rw [Em];kernel_rfl) (by kernel_rfl) (by decide) u (by rw [Em];exact h)
theorem Eu {W:World} {rest:List (String × DataW Unit)} (h:laidMet Tryz.prog (("strconv.ErrSyntax",Rows.laid_strconv_ErrSyntax)::rest) W):∃tp p,W.var? Tryz.prog "strconv.ErrSyntax"=some #[.iface tp p]:=by
 obtain⟨a0,s0,hv0,-,-,-⟩:=laid_sentinel h gES (by kernel_rfl) Tryz.underlying83 yo Tryz.underlying133 Tryz.underlying135 rfl rfl Tryz.underlying9 (by kernel_rfl) (by kernel_rfl);exact⟨_,_,hv0⟩
theorem EF {W:World} {rest:List (String × DataW Unit)} (h:laidMet Tryz.prog (("strconv.ErrRange",Rows.laid_strconv_ErrRange)::rest) W):∃tp p,W.var? Tryz.prog "strconv.ErrRange"=some #[.iface tp p]:=by
 obtain⟨a0,s0,hv0,-,-,-⟩:=laid_sentinel h gER (by kernel_rfl) Tryz.underlying83 yo Tryz.underlying133 Tryz.underlying135 rfl rfl Tryz.underlying9 (by kernel_rfl) (by kernel_rfl);exact⟨_,_,hv0⟩
theorem DA {W:World} (hsh:W.ShapedOpen Tryz.prog) (hp:Fv Tryz.prog W "internal/strconv.uint64pow10" .u64 Fp) (hs:∃tp p,W.var? Tryz.prog "strconv.ErrSyntax"=some #[.iface tp p]) (hr:∃tp p,W.var? Tryz.prog "strconv.ErrRange"=some #[.iface tp p]) :
  gOk gl2 W fun b=>b<W.heap.size:=by
 intro p hq;rcases Fk.1 hq with hq | hq
 ·exact Dz hsh hp p hq
 ·simp only [Fz,FG,or_false] at hq
  obtain⟨_,_,hs⟩:=hs;obtain⟨_,_,hr⟩:=hr;rcases hq with rfl | rfl
  ·exact kD (wR gES hs)
  ·exact kD (wR gER hr)
end Go.Proofs.YtioabeglbjlndaaGreatDoor

namespace Go.Proofs.YtioabeglbjlndaaGreatDoor
open Go.V
set_option maxRecDepth 100000
theorem ju:Tryz.prog.follows .mixedOrders=true:=by kernel_rfl
theorem aE {c:Cx} {S:FS} {f:FuncId} {fn:Func} (hS:∀f S,cb c.S f=some S→ao c.G Tryz.prog f S) (hf:Tryz.prog.funcs[f]?=some fn) (hres:c.res=fn.results.toList) (hF:S.f=bE c fn)
  (hb:(okT Tryz.prog c.T&&(!(fn.name=="runtime.NumGoroutine")&&xB c fn S.pm S.rm))=true):ao c.G Tryz.prog f S:=by
 obtain⟨pm,rm,g⟩:=S;cases hF;simp only [EU,FC] at hb;exact wQ hb.1 hS ju hf hb.2.1 hb.2.2 hres
@[reducible] def DZ:TI:={n:=1,zero:=[.v (.int .i32 0)],ik:=some .i32}
@[reducible] def iu:Cx:={K:=[Y,.no,Y,Y,Y,Y,Y,Y,Y],T:=[(21,DZ)],S:=[],H:=[],res:=[.tmp 2],ios:=[],G:=gl0}
def dI:List D→Option Out:=bE iu Tryz.f60
@[reducible] def nI:FS:={pm:=[Y],rm:=[Y],f:=dI}
theorem nH:ao gl0 Tryz.prog 60 nI:=aE (c:=iu) ax Tryz.func60 rfl rfl (by kernel_rfl)
open Go Go.V
set_option maxRecDepth 100000
theorem nW (x0:D):dI [x0]=((bin .lss false [] x0 (.v (Gd Ge 48))).bind fun z=>(aj (.tup []) z false (some x0)).bind fun c=>(aj (.tup []) z false (bin .gtr false [] c (.v (Gd Ge 57)))).bind fun d=>(aG z (B true) d).bind fun z=>some (.ret [z] [])):=by kernel_rfl
end Go.Proofs.YtioabeglbjlndaaGreatDoor

namespace Go.V
set_option maxRecDepth 100000
section
variable {k:IntKind} {a b:Int} {bl:Bool} {eq:List Nat}
@[simp] theorem dn:bin .add bl eq (.v (.int k a)) (.v (.int k b))=some (.v (.int k (k.wrap (a+b)))):=by simp [bin,eS]
@[simp] theorem mA:bin .sub bl eq (.v (.int k a)) (.v (.int k b))=some (.v (.int k (k.wrap (a - b)))):=by simp [bin,eS]
@[simp] theorem uR:bin .mul bl eq (.v (.int k a)) (.v (.int k b))=some (.v (.int k (k.wrap (a*b)))):=by simp [bin,eS]
@[simp] theorem vh:bin .quo bl eq (.v (.int k a)) (.v (.int k b))=if b=0 then none else some (.v (.int k (k.wrap (a.tdiv b)))):=by simp [bin,eS]
@[simp] theorem xO:bin .rem bl eq (.v (.int k a)) (.v (.int k b))=if b=0 then none else some (.v (.int k (a.tmod b))):=by simp [bin,eS]
@[simp] theorem cW:bin .lss bl eq (.v (.int k a)) (.v (.int k b))=some (B (decide (a<b))):=by simp [bin,eS]
@[simp] theorem yk:bin .leq bl eq (.v (.int k a)) (.v (.int k b))=some (B (decide (a≤b))):=by simp [bin,eS]
@[simp] theorem gV:bin .gtr bl eq (.v (.int k a)) (.v (.int k b))=some (B (decide (b<a))):=by simp [bin,eS]
@[simp] theorem yn:bin .geq bl eq (.v (.int k a)) (.v (.int k b))=some (B (decide (b≤a))):=by simp [bin,eS]
@[simp] theorem jg:bin .eql bl eq (.v (.int k a)) (.v (.int k b))=some (B (decide (a=b))):=by
 have:(a==b)=decide (a=b):=rfl;simp [bin,eS,this]
@[simp] theorem uL:bin .neq bl eq (.v (.int k a)) (.v (.int k b))=some (B (!decide (a=b))):=by
 have:(a != b) = !decide (a=b):=rfl;simp [bin,eS,this]
@[simp] theorem En {a b:Bool}:bin .eql true eq (B a) (B b)=some (B (a==b)):=by simp [bin]
@[simp] theorem wD {a b:Bool}:bin .neq true eq (B a) (B b)=some (B !(a==b)):=by simp [bin]
@[simp] theorem pg {a b:ByteArray}:bin .add bl eq (T a) (T b)=if a.size+b.size≤1152921504606846976 then some (T (a++b)) else none:=by simp [bin,lO]
@[simp] theorem oZ {a b:ByteArray}:bin .eql bl eq (T a) (T b)=some (B (decide (a=b))):=by
 have:(a.toList==b.toList)=decide (a=b):=by
  rw [Bool.eq_iff_iff,beq_iff_eq,decide_eq_true_eq];constructor
  ·intro h
   have h1:∀s:ByteArray,s.toList=s.data.toList:=fun s=>by simp [ByteArray.toList_eq]
   rw [h1,h1] at h;cases a;cases b;simp at h;simp [h]
  ·rintro rfl;rfl
 simp [bin,lO,this]
@[simp] theorem km {a b:ByteArray}:bin .neq bl eq (T a) (T b)=some (B (!decide (a=b))):=by
 have h:=oZ (a:=a) (b:=b) (bl:=bl) (eq:=eq);simp only [bin,lO,EV,D.v.injEq,Value.bool.injEq] at h ⊢;rw [h]
@[simp] theorem sd {b:Bool}:un .not (B b)=some (B !b):=rfl
@[simp] theorem EQ:un .neg (.v (.int k a))=some (.v (.int k (k.wrap (-a)))):=by simp [un]
theorem aw (h1 : -9223372036854775808≤a) (h2:a<9223372036854775808):IntKind.i64.wrap a=a:=by
 simp [IntKind.wrap,IntKind.bits,IntKind.signed];split<;>omega
end
@[simp] theorem dJ {c:Bool} {t e:Option Out}:ifD (B c) t e=if c=true then t else e:=by cases c<;>rfl
@[simp] theorem rQ {c:Bool} {t e:Option Out}:ifN c t e=if c=true then t else e:=by cases c<;>rfl
@[simp] theorem nT {v:D} {c:Bool} {r:Option D}:aj v (B c) true r=if c=true then r else some v:=by cases c<;>rfl
@[simp] theorem nB {v:D} {c:Bool} {r:Option D}:aj v (B c) false r=if c=true then some v else r:=by cases c<;>rfl
@[simp] theorem vc {v:D} {p:Bool} {l:List D} {r:Option D}:aj v (.tup l) p r=some v:=rfl
@[simp] theorem yq {p:Bool} {l:List D} {r:Option Out} {alt:List D} {k:List D→Option Out}:cu (.tup l) p r alt k=k alt:=rfl
def DM (r:Option Out) (k:List D→Option Out):Option Out :=
 match r with
 | some (.nrm l)=>k l
 | _=>none
@[simp] theorem mu {l:List D} {k:List D→Option Out}:DM (some (.nrm l)) k=k l:=rfl
@[simp] theorem yr {c:Bool} {r:Option Out} {alt:List D} {k:List D→Option Out}:cu (B c) true r alt k=if c=true then DM r k else k alt:=by cases c<;>rfl
@[simp] theorem rv {c:Bool} {r:Option Out} {alt:List D} {k:List D→Option Out}:cu (B c) false r alt k=if c=true then k alt else DM r k:=by cases c<;>rfl
@[simp] theorem fx {c:Bool} {a b:D}:aG (B c) a b=some (if c=true then a else b):=by cases c<;>rfl
@[simp] theorem be {rs us:List D} {k:List D→List D→Option Out}:ai (some (.ret rs us)) k=k rs us:=rfl
@[simp] theorem iD {i:Nat} {s:List D} {x:Nat→List D→Option Out} {r:List D→List D→Option Out}:dk (.ext i s) x r=x i s:=rfl
@[simp] theorem jO {a b:List D} {x:Nat→List D→Option Out} {r:List D→List D→Option Out}:dk (.ret a b) x r=r a b:=rfl
@[simp] theorem EJ {v:Value} {x:D}:aa (.v v) x=some x:=rfl
@[simp] theorem uc {z:Nat} {l:List D} {x:D}:aa (.arr z l) x=some x:=rfl
@[simp] theorem bQ {l:List D} {x:D}:aa (.agg l) x=some x:=rfl
@[simp] theorem uE {i f:Nat} {x:D}:aa (.ref i f) x=some x:=rfl
@[simp] theorem Eg {l:List D} {x:D}:aa (.tup l) x=some x:=rfl
@[simp] theorem pt {z:Nat} {l:List D}:lenD false (.arr z l)=some (I l.length):=rfl
@[simp] theorem cG {s:ByteArray}:lenD true (T s)=some (I s.size):=rfl
@[simp] theorem aN {a:D} {l:List D}:sl (a::l) 0=a:=rfl
@[simp] theorem bJ {a:D} {l:List D} {n:Nat}:sl (a::l) (n+1)=sl l n:=rfl
@[simp] theorem Ep {ag:Bool} {n off:Nat} {l:List D}:fS ag n off (.agg l)=bv ag n (l.drop off):=rfl
@[simp] theorem pk {ag:Bool} {n:Nat} {l:List D}:ldD ag n (.ptr l)=bv ag n l:=rfl
@[simp] theorem wz {off:Nat} {l:List D}:tH off (.ptr l)=some (.ptr (l.drop off)):=rfl
@[simp] theorem EL {n:Nat} {l:List D}:bv true n l=if n≤l.length then some (.agg (l.take n)) else none:=rfl
@[simp] theorem oP {n:Nat} {a:D} {l:List D}:bv false n (a::l)=some a:=rfl
@[simp] theorem yj {l:List D} {i f:Nat}:atD (.agg l) (.ref i f)=some (l.drop f):=rfl
@[simp] theorem EK {z:Nat} {l:List D} {i f:Nat}:atD (.arr z l) (.ref i f)=(l[i]?).map fun d=>d.cells.drop f:=rfl
@[simp] theorem tc {off i f:Nat}:cH off (.ref i f)=some (.ref i (f+off)):=rfl
@[simp] theorem uu {z:Nat} {l:List D} {k:IntKind} {i:Nat}:bF z (.arr z l) (.v (.int k (i:Int)))=(l[i]?).map D.cells:=by simp [bF]
@[simp] theorem wj {z:Nat} {l:List D} {k:IntKind} {i:Nat}:qf z (.arr z l) (.v (.int k (i:Int)))=if i<l.length then some (.ref i 0) else none:=by simp [qf]
@[simp] theorem Dm {l:List D}:(D.agg l).cells=l:=rfl
@[simp] theorem Ee {v:Value}:(D.v v).cells=[.v v]:=rfl
@[simp] theorem Dl {z:Nat} {l:List D}:(D.arr z l).cells=[.arr z l]:=rfl
@[simp] theorem rK {v:Value}:bT (.v v)=some (.v v):=rfl
@[simp] theorem Eo {l:List D}:bT (.agg l)=if l.all vi=true then some (.agg l) else none:=by
 have:(D.agg l).isV=l.all vi:=by
  simp only [D.isV];congr 1
 simp [bT,this]
@[simp] theorem ER {v:Value}:vi (.v v)=true:=rfl
@[simp] theorem Ez {z:Nat} {l:List D}:vi (.arr z l)=false:=rfl
@[simp] theorem Ek {v:Value}:(D.v v).single=true:=rfl
@[simp] theorem DI {z:Nat} {l:List D}:(D.arr z l).single=true:=rfl
@[simp] theorem Eh {l:List D}:(D.agg l).width=l.length:=rfl
@[simp] theorem EH {v:Value}:(D.v v).width=1:=rfl
@[simp] theorem Ed {z:Nat} {l:List D}:(D.arr z l).width=1:=rfl
@[simp] theorem EM {n:Nat} {x:D}:kv n x=if x.cells.length=n∧x.cells.all D.single=true then some (.agg x.cells) else none:=rfl
@[simp] theorem EI {n i f:Nat} {l:List D} {x:D}:stD n (.agg l) (.ref i f) x=if x.cells.length=n∧f+n≤l.length∧x.cells.all D.single=true then some (.agg (bY l f x.cells)) else none:=rfl
@[simp] theorem Dt {l:List D} {f:Nat} {vs:List D}:bY l f vs=l.take f++vs++l.drop (f+vs.length):=rfl
@[simp] theorem Ef {l:List D} {i:Nat}:aL (.tup l) i=match l[i]? with
  | some .bad=>none
  | some (.tup _)=>none
  | r=>r:=rfl
@[simp] theorem DQ {l:List D} {i:Nat}:eT (.tup l) i = .tup (l.set i .bad):=rfl
@[simp] theorem hN {x:D}:bL (.ref 0 0) x=some x:=rfl
@[simp] theorem oS {z eb:Nat} {l m:List D}:eR z eb (.arr z l) (.arr z m)=if (l.length+m.length)*eb≤140737488355328∧l.length+m.length≤1152921504606846976 then some (.arr z (l++m)) else none:=by simp [eR]
@[simp] theorem DP {z:Nat} {l:List D} {k:IntKind} {i:Nat}:bF z (.arr z l) (.v (.int k ((i:Int)+1)))=(l[i+1]?).map D.cells:=uu (i:=i+1)
@[simp] theorem DY {z:Nat} {l:List D} {k:IntKind}:bF z (.arr z l) (.v (.int k 0))=(l[0]?).map D.cells:=uu (i:=0)
@[simp] theorem Ev {z eb:Nat} {x:D} {k k':IntKind} {n m:Nat}:Cc z eb x (.v (.int k (n:Int))) (.v (.int k' (m:Int)))=if n≤m∧m*eb≤140737488355328∧m≤140737488355328 then some (.arr z (Ga n x)) else none:=by
 have h:((n:Int)≤m∧(m:Int)*(eb:Int)≤140737488355328∧(m:Int)≤140737488355328)↔(n≤m∧m*eb≤140737488355328∧m≤140737488355328):=by
  rw [←Int.natCast_mul];omega
 simp only [Cc,Int.natCast_nonneg,true_and,h,FD]
theorem Bd {z i:Nat} {L:List D} {v w:Value} (h:L[i]?=some (.v w)):stD 1 (.arr z L) (.ref i 0) (.v v)=some (.arr z (L.set i (.v v))):=by
 simp [stD,h,D.ofCells]
def Do {β:Type} (f:β→D) (z:D) (l:List β) (i:Nat):List D:=(l.take i).map f++Ga (l.length - i) z
section
variable {β:Type} {f:β→D} {z:D} {l:List β} {i:Nat}
@[simp] theorem Da (h:i≤l.length):(Do f z l i).length=l.length:=by simp [Do];omega
end
theorem wn {z i f:Nat} {L c:List D} {v:Value} (h:L[i]?=some (.agg c)) (hf:f<c.length):stD 1 (.arr z L) (.ref i f) (.v v)=some (.arr z (L.set i (.agg (bY c f [.v v])))):=by
 have h2:(D.v v).cells=[.v v]:=rfl;have h3:f+1≤c.length:=hf;simp [stD,h,h2,h3,D.ofCells]
def Dr {β:Type} (g:Nat→D) (f:β→D) (l:List β) (i:Nat):List D:=(List.range i).map g++(l.drop i).map f
section
variable {β:Type} {g:Nat→D} {f:β→D} {l:List β} {i:Nat}
@[simp] theorem BQ (h:i≤l.length):(Dr g f l i).length=l.length:=by simp [Dr];omega
end
theorem jC {z:Nat}:aA z []=some (.arr z []):=rfl
@[simp] theorem oE {β:Type} {z:Nat} {l:List β} {f:β→D} (h:∀x,(f x).isV=true):fg (.arr z (l.map f))=some (.arr z (l.map f)):=by
 have:(l.map f).all D.isV=true:=by simp [h]
 simp only [fg,this,if_true]
theorem xF {z i j:Nat} {l:List D} {k k':IntKind} (h1:i≤j) (h2:j≤l.length):bZ false z (.arr z l) (.v (.int k (i:Int))) (.v (.int k' (j:Int)))=some (.arr z ((l.take j).drop i)):=by
 simp only [bZ,FD,true_and];rw [if_pos];omega
theorem we {z i:Nat} {l:List D} {k:IntKind} (h:i≤l.length):bS false z (.arr z l) (.v (.int k (i:Int)))=some (.arr z (l.drop i)):=by
 simp only [bS,FD,true_and];rw [if_pos];omega
@[simp] theorem ET {p:Prop} [Decidable p] {a b:Bool}:(if p then D.v (.bool a) else D.v (.bool b))=D.v (.bool (if p then a else b)):=by split<;>rfl
theorem pX {body:List D→Option Out}:∀(n:Nat) (s:List D) (o:Out),iter body n s=some o→∀m,n≤m→iter body m s=some o
 | 0,_,_,h,_,_=>by simp [iter] at h
 | n+1,s,o,h,m,hm=>by
  obtain⟨m,rfl⟩:∃q,m=q+1:=⟨m - 1,by omega⟩
  simp only [iter] at h ⊢;split at h
  ·rename_i s' hb
   exact pX n s' o h m (by omega)
  ·exact h
theorem BE {body:List D→Option Out} {s:List D} {o:Out} (n:Nat) (h:iter body n s=some o):aS body s=some o:=by
 have hex:∃n,(iter body n s).isSome=true:=⟨n,by rw [h];rfl⟩
 unfold aS;rw [dif_pos hex];obtain⟨o',ho⟩:=Fm.1 (FM hex);rw [ho];have h1:=pX _ _ _ ho (max n (Fu hex)) (by omega);have h2:=pX _ _ _ h (max n (Fu hex)) (by omega);rw [h1] at h2;exact h2
inductive Runs (body:List D→Option Out):List D→Out→Prop where
 | ext {s:List D} {i:Nat} {δ:List D}:body s=some (.ext i δ)→Runs body s (.ext i δ)
 | ret {s:List D} {rs us:List D}:body s=some (.ret rs us)→Runs body s (.ret rs us)
 | nrm {s s':List D} {o:Out}:body s=some (.nrm s')→Runs body s' o→Runs body s o
theorem Runs.iter {body:List D→Option Out} {s:List D} {o:Out} (h:Runs body s o):∃n,V.iter body n s=some o:=by
 induction h with
 | ext h=>exact⟨1,by simp [V.iter,h]⟩
 | ret h=>exact⟨1,by simp [V.iter,h]⟩
 | nrm h _ ih =>
  obtain⟨n,hn⟩:=ih;exact⟨n+1,by simp [V.iter,h,hn]⟩
theorem Runs.loop {body:List D→Option Out} {s:List D} {o:Out} (h:Runs body s o):aS body s=some o:=by
 obtain⟨n,hn⟩:=h.iter;exact BE n hn
def goL {α β:Type} (g:Nat→β→α→α ⊕ Out) (fin:α→Out):Nat→List β→α→Out
 | _,[],a=>fin a
 | i,x::l,a=>match g i x a with
  | .inl a'=>goL g fin (i+1) l a'
  | .inr o=>o
def Out.ends:Out→Bool
 | .nrm _=>false
 | _=>true
theorem Runs.one {body:List D→Option Out} {s:List D} {o:Out} (h:body s=some o) (ho:o.ends=true):Runs body s o:=by
 cases o with
 | nrm _=>simp [Out.ends] at ho
 | ext _ _=>exact .ext h
 | ret _ _=>exact .ret h
theorem Runs.list {α β:Type} {body:List D→Option Out} (l:List β) (st:Nat→α→List D) (Inv:Nat→α→Prop) (g:Nat→β→α→α ⊕ Out) (fin:α→Out)
  (hs:∀i x a,l[i]?=some x→Inv i a→match g i x a with
   | .inl a'=>body (st i a)=some (.nrm (st (i+1) a'))∧Inv (i+1) a'
   | .inr o=>body (st i a)=some o∧o.ends=true)
  (he:∀a,Inv l.length a→body (st l.length a)=some (fin a)∧(fin a).ends=true) (a:α) (h0:Inv 0 a):Runs body (st 0 a) (goL g fin 0 l a):=by
 have key:∀(n i:Nat) (a:α),i+n=l.length→Inv i a→Runs body (st i a) (goL g fin i (l.drop i) a):=by
  intro n;induction n with
  | zero =>
   intro i a hi hI;have:i=l.length:=by omega
   subst this;rw [List.drop_length];exact Runs.one (he a hI).1 (he a hI).2
  | succ n ih =>
   intro i a hi hI;have hlt:i<l.length:=by omega
   rw [List.drop_eq_getElem_cons hlt];have h:=hs i l[i] a (Fe hlt) hI;simp only [goL];split at h
   ·exact .nrm h.1 (ih (i+1) _ (by omega) h.2)
   ·exact Runs.one h.1 h.2
 simpa using key l.length 0 a (by omega) h0
theorem mD {α β:Type} {body:List D→Option Out} (l:List β) (st:Nat→α→List D) (Inv:Nat→α→Prop) (g:Nat→β→α→α ⊕ Out) (fin:α→Out)
  (hs:∀i x a,l[i]?=some x→Inv i a→match g i x a with
   | .inl a'=>body (st i a)=some (.nrm (st (i+1) a'))∧Inv (i+1) a'
   | .inr o=>body (st i a)=some o∧o.ends=true)
  (he:∀a,Inv l.length a→body (st l.length a)=some (fin a)∧(fin a).ends=true) (a:α) (h0:Inv 0 a) {s0:List D} (h:s0=st 0 a):aS body s0=some (goL g fin 0 l a):=by
 rw [h];exact(Runs.list l st Inv g fin hs he a h0).loop
theorem oO {body:List D→Option Out} (n:Nat) (st:Nat→List D) (o:Out) (hs:∀i,i<n→body (st i)=some (.nrm (st (i+1)))) (he:body (st n)=some o) (ho:o.ends=true) {s0:List D} (h:s0=st 0):aS body s0=some o:=by
 rw [h];have key:∀(m i:Nat),i+m=n→Runs body (st i) o:=by
  intro m;induction m with
  | zero =>
   intro i hi;have:i=n:=by omega
   subst this;exact Runs.one he ho
  | succ m ih=>exact fun i hi=>.nrm (hs i (by omega)) (ih (i+1) (by omega))
 exact(key n 0 (by omega)).loop
def jU {β:Type} (p:Nat→β→Bool):Nat→List β→Bool
 | _,[]=>true
 | i,x::l=>p i x&&jU p (i+1) l
theorem lS {β:Type} {body:List D→Option Out} (l:List β) (st:Nat→List D) (p:Nat→β→Bool) (o1 o2:Out) (hs:∀(i:Nat) (hi:i<l.length),body (st i)=some (if p i l[i]=true then .nrm (st (i+1)) else o1)) (he:body (st l.length)=some o2)
  (h1:o1.ends=true) (h2:o2.ends=true) {s0:List D} (h:s0=st 0):aS body s0=some (if jU p 0 l=true then o2 else o1):=by
 have e:∀(m:List β) (i:Nat),goL (fun i x (_:Unit)=>if p i x=true then .inl () else .inr o1) (fun _=>o2) i m ()=if jU p i m=true then o2 else o1:=by
  intro m;induction m with
  | nil=>intro i;simp [goL,jU]
  | cons x m ih =>
   intro i;simp only [goL,jU];by_cases hp:p i x=true
   ·simp [hp,ih]
   ·simp [hp]
 rw [←e];refine mD l (fun i _=>st i) (fun _ _=>True) _ _ (fun i x a hx _=>?_) (fun _ _=>⟨he,h2⟩) () trivial h
 have hi:i<l.length:=(EX.1 hx).1;have hxe:l[i]=x:=(EX.1 hx).2;have:=hs i hi;rw [hxe] at this;by_cases hp:p i x=true
 ·simpa [hp] using this
 ·simpa [hp,h1] using this
theorem ie {α β:Type} {body:List D→Option Out} (l:List β) (st:Nat→α→List D) (f:α→β→α) (fin:α→Out) (a:α) (hs:∀(i:Nat) (a:α) (hi:i<l.length),body (st i a)=some (.nrm (st (i+1) (f a l[i])))) (he:∀a,body (st l.length a)=some (fin a))
  (h1:∀a,(fin a).ends=true) {s0:List D} (h:s0=st 0 a):aS body s0=some (fin (l.foldl f a)):=by
 have e:∀(m:List β) (i:Nat) (a:α),goL (fun _ x a=>.inl (f a x)) fin i m a=fin (m.foldl f a):=by
  intro m;induction m with
  | nil=>intro i a;rfl
  | cons x m ih=>intro i a;simp only [goL,List.foldl_cons];exact ih (i+1) (f a x)
 rw [←e l 0 a];exact mD l st (fun _ _=>True) (fun _ x a=>.inl (f a x)) _ (fun i x a hx _=>⟨by
  have hi:i<l.length:=(EX.1 hx).1;have hxe:l[i]=x:=(EX.1 hx).2;rw [←hxe];exact hs i a hi,trivial⟩) (fun a _=>⟨he a,h1 a⟩) a trivial h
def jV {α β:Type} (f:Nat→α→β→α):Nat→List β→α→α
 | _,[],a=>a
 | i,x::l,a=>jV f (i+1) l (f i a x)
theorem nS {α β:Type} {body:List D→Option Out} (l:List β) (st:Nat→α→List D) (Inv:Nat→α→Prop) (f:Nat→α→β→α) (fin:α→Out) (a:α) (hs:∀(i:Nat) (a:α) (hi:i<l.length),Inv i a→body (st i a)=some (.nrm (st (i+1) (f i a l[i])))∧Inv (i+1) (f i a l[i]))
  (he:∀a,Inv l.length a→body (st l.length a)=some (fin a)) (h1:∀a,(fin a).ends=true) (h0:Inv 0 a) {s0:List D} (h:s0=st 0 a):aS body s0=some (fin (jV f 0 l a)):=by
 have e:∀(m:List β) (i:Nat) (a:α),goL (fun i x a=>.inl (f i a x)) fin i m a=fin (jV f i m a):=by
  intro m;induction m with
  | nil=>intro i a;rfl
  | cons x m ih=>intro i a;simp only [goL,jV];exact ih (i+1) (f i a x)
 rw [←e l 0 a];refine mD l st Inv (fun i x a=>.inl (f i a x)) _ (fun i x a hx hI=>?_) (fun a hI=>⟨he a hI,h1 a⟩) a h0 h
 have hi:i<l.length:=(EX.1 hx).1;have hxe:l[i]=x:=(EX.1 hx).2;rw [←hxe];exact hs i a hi hI
theorem aX {body:List D→Option Out} {s0:List D} {K:Out→Option Out} {r:Option Out} (o:Out) (h:aS body s0=some o) (hk:K o=r):(aS body s0).bind K=r:=by
 rw [h];exact hk
theorem Cd {α:Type} {body:List D→Option Out} (st:α→List D) (Inv:α→Prop) (μ:α→Nat) (Q:α→Out→Prop)
  (hs:∀a,Inv a→(∃a',body (st a)=some (.nrm (st a'))∧Inv a'∧μ a'<μ a∧∀o,Q a' o→Q a o)∨∃o,body (st a)=some o∧o.ends=true∧Q a o) (a:α) (h:Inv a) {s0:List D} (h0:s0=st a):∃o,aS body s0=some o∧Q a o:=by
 rw [h0];have key:∀(n:Nat) (a:α),μ a<n→Inv a→∃o,Runs body (st a) o∧Q a o:=by
  intro n;induction n with
  | zero=>exact fun a h=>by omega
  | succ n ih =>
   intro a hn hI;rcases hs a hI with ⟨a',h1,h2,h3,h4⟩ | ⟨o,h1,h2,h3⟩
   ·obtain⟨o,h5,h6⟩:=ih a' (by omega) h2
    exact⟨o,.nrm h1 h5,h4 o h6⟩
   ·exact⟨o,Runs.one h1 h2,h3⟩
 obtain⟨o,h1,h2⟩:=key (μ a+1) a (by omega) h;exact⟨o,h1.loop,h2⟩
theorem cn {α:Type} {body:List D→Option Out} {K:Out→Option Out} (R:Option Out→Prop) (st:α→List D) (Inv:α→Prop) (μ:α→Nat) (Q:Out→Prop)
  (hs:∀a,Inv a→(∃a',body (st a)=some (.nrm (st a'))∧Inv a'∧μ a'<μ a)∨∃o,body (st a)=some o∧o.ends=true∧Q o) (a:α) (h:Inv a) {s0:List D} (h0:s0=st a) (hk:∀o,Q o→R (K o)):R ((aS body s0).bind K):=by
 obtain⟨o,h1,h2⟩:=Cd st Inv μ (fun _ o=>Q o) (fun a ha=>by
  rcases hs a ha with ⟨a',g1,g2,g3⟩ | h
  ·exact .inl ⟨a',g1,g2,g3,fun _ h=>h⟩
  ·exact .inr h) a h h0
 rw [h1];exact hk o h2
theorem an:(type_of% @aN)∧(type_of% @bJ)∧(type_of% @bQ)∧(type_of% @uE)∧(type_of% @uc)∧(type_of% @hN)∧(∀{α β:Type} (a:α) (f:α→Option β),(some a).bind f=f a)∧(∀{α β:Type} (a:α) (f:α→β),(some a).map f=some (f a))∧(type_of% @be)∧(type_of% @nT)∧(type_of% @nB)∧(type_of% @vc)∧(type_of% @yr)∧(type_of% @rv)∧(type_of% @yq)∧(type_of% @mu)∧(type_of% @fx)∧(type_of% @dJ)∧(type_of% @rQ)∧(∀{α:Type} {_h:Decidable True} (t e:α),(if True then t else e)=t)∧(∀{α:Type} {_h:Decidable False} (t e:α),(if False then t else e)=e)∧(type_of% @EZ)∧(type_of% @sd)∧(type_of% @Bool.not_true)∧(type_of% @Gb)∧(type_of% @decide_true)∧(type_of% @decide_false)∧(type_of% @and_self)∧(type_of% @iD)∧(type_of% @Nat.beq_refl)∧(type_of% @cW)∧(type_of% @gV)∧(type_of% @yk)∧(type_of% @yn)∧(type_of% @jg)∧(type_of% @uL)∧(type_of% @dn)∧(type_of% @mA)∧(type_of% @uR)∧(type_of% @pt)∧(type_of% @cG)∧(∀{α β:Type} {l:List α} (f:α→β),(l.map f).length=l.length)∧(type_of% @pk)∧(type_of% @oP)∧(type_of% @rK)∧(type_of% @wz)∧(∀{α:Type} {l:List α},l.drop 0=l)∧(∀{α:Type} {a:α} {l:List α} {i:Nat},(a::l).drop (i+1)=l.drop i)∧(type_of% @yj)∧(type_of% @jC) :=
 ⟨@aN,⟨@bJ,⟨@bQ,⟨@uE,⟨@uc,⟨@hN,⟨@FE,⟨@Option.map_some,⟨@be,⟨@nT,⟨@nB,⟨@vc,⟨@yr,⟨@rv,⟨@yq,⟨@mu,⟨@fx,⟨@dJ,⟨@rQ,⟨@if_true,⟨@if_false,⟨@EZ,⟨@sd,⟨@Bool.not_true,⟨@Gb,⟨@decide_true,⟨@decide_false,⟨@and_self,⟨@iD,⟨@Nat.beq_refl,⟨@cW,⟨@gV,⟨@yk,⟨@yn,⟨@jg,⟨@uL,⟨@dn,⟨@mA,⟨@uR,⟨@pt,⟨@cG,⟨@FY,⟨@pk,⟨@oP,⟨@rK,⟨@wz,⟨@FJ,⟨@List.drop_succ_cons,⟨@yj,@jC⟩⟩⟩⟩⟩⟩⟩⟩⟩⟩⟩⟩⟩⟩⟩⟩⟩⟩⟩⟩⟩⟩⟩⟩⟩⟩⟩⟩⟩⟩⟩⟩⟩⟩⟩⟩⟩⟩⟩⟩⟩⟩⟩⟩⟩⟩⟩⟩⟩
end Go.V

namespace Go.Proofs.YtioabeglbjlndaaGreatDoor
open Go Go.V
set_option maxRecDepth 100000
theorem nD (x:Int):dI [.v (.int .i32 x)]=some (.ret [B (decide (x<48)||decide (57<x))] []):=by
 rw [nW];by_cases h:x<48<;>simp [h]
def ka (x:Nat):Bool:=decide (x<48)||decide (57<x)
@[reducible] def gw:FS:=oF 60 ka
theorem lE:ao gl0 Tryz.prog 59 gw :=
 uU Tryz.lays229 (by kernel_rfl) (Fc Tryz.func60 (by kernel_rfl) rfl) nH rfl rfl
  (fun x _=>by
   show dI _=_
   rw [nD];have h1:((x:Int)<48)↔x<48:=by omega
   have h2:((57:Int)<x)↔57<x:=by omega
   simp only [ka,h1,h2]) (by kernel_rfl) (by kernel_rfl)
end Go.Proofs.YtioabeglbjlndaaGreatDoor

namespace Go.V
open Go.RowKit
set_option maxRecDepth 100000
section
variable {P:Program} {c:Cx} {B:Nat} {X:Nat→Prop} {w0:World} {F0 F:Nat→Prop} {O:Nat→Option (Nat × Nat)} {a:Act} {w:World} {δ:List D} {fz:List Nat}
end
end Go.V

namespace Go.V
open Go.RowKit
set_option maxRecDepth 100000
section
variable {P:Program} {c:Cx} {B:Nat} {X:Nat→Prop} {w0:World} {F0 F:Nat→Prop} {O:Nat→Option (Nat × Nat)} {a:Act} {w:World} {δ:List D} {fz:List Nat}
end
end Go.V

namespace Go.V
open Go.RowKit
set_option maxRecDepth 100000
def wi (f:(List D→Option Out)→Option Out) (k:List D→Option Out):Option Out:=f k
@[reducible] def lw (c:Cx) (J:List (Nat × List Nat)):Nat→Nat→Code→List D→(Out→Option Out)→Option Out
 | _,_,.skip,δ,k=>k (.nrm δ)
 | _,_,.region _ ops _,δ,k=>fV c ops.toList ops.toList δ fun δ'=>k (.nrm δ')
 | p,bid,.seq a b,δ,k=>match cb J p with
  | none=>lw c J (Fs 2 p) bid a δ fun o=>CA o (fun δ'=>lw c J (Gc (Fs 2 p) 1) bid b δ' k) k
  | some hl=>wi (fun j=>lw c J (Fs 2 p) bid a δ fun o=>CA o (fun δ'=>lj δ' hl fun s=>j s) k) (fun s=>fw (fU c.K) hl s fun δ'=>lw c J (Gc (Fs 2 p) 1) bid b δ' k)
 | p,bid,.cond x t e,δ,k=>opC δ x fun q=>ifD q (lw c J (Fs 2 p) bid t δ k) (lw c J (Gc (Fs 2 p) 1) bid e δ k)
 | p,_,.block id b,δ,k=>lw c J (Fs 2 p) id b δ fun o=>wm id o k
 | p,bid,.loop b,δ,k=>match cb c.H bid with
  | none=>none
  | some (hl,xl) =>
   lj δ hl fun s=>(aS (fun s=>fw (fU c.K) hl s fun δ=>lw c J (Fs 2 p) bid b δ (bD hl xl)) s).bind fun o =>
    dk o (fun i s=>fw (fU c.K) xl s fun δ=>k (.ext i δ)) (fun a b=>k (.ret a b))
 | _,_,.exit id,δ,k=>k (.ext id δ)
 | _,_,.ret,δ,k=>jk c δ c.res fun rs=>lj δ c.ios fun us=>usK us (k (.ret rs us))
 | _,_,_,_,_=>none
@[reducible] def qy (c:Cx) (J:List (Nat × List Nat)) (fn:Func) (ds:List D):Option Out :=
 match fn.body with
 | none=>none
 | some b=>lw c J 1 0 b (lT fn.ntmps ds) fun o=>match o with
  | .nrm δ=>jk c δ c.res fun rs=>lj δ c.ios fun us=>usK us (some (.ret rs us))
  | .ext _ _=>none
  | .ret rs us=>some (.ret rs us)
def okJ (c:Cx) (J:List (Nat × List Nat)):Bool:=J.all fun p=>jj c.K p.2
theorem zY {c:Cx}:∀{J:List (Nat × List Nat)} {p:Nat} {hl:List Nat},okJ c J=true→cb J p=some hl→jj c.K hl=true
 | [],_,_,_,h=>by cases h
 | (q,l)::J,p,hl,hJ,h=>by
  unfold okJ at hJ;rw [FP,EU] at hJ;simp only [cb] at h;split at h
  ·cases h
   exact hJ.1
  ·exact zY (J:=J) hJ.2 h
section
variable {P:Program} {c:Cx} {B:Nat} {X:Nat→Prop} {w0:World} {F0 F:Nat→Prop} {O:Nat→Option (Nat × Nat)} {a:Act} {w:World} {δ:List D}
theorem pr {V:Nat→Value} {J:List (Nat × List Nat)} {p:Nat} {b:Code} {bid:Nat} {hl xl:List Nat} (h1:jj c.K hl=true) (h2:jj c.K xl=true)
  (ih:∀(F:Nat→Prop) (O:Nat→Option (Nat × Nat)) (a:Act) (w:World) (δ:List D),Inv c B X w0 F0 F O a w δ→IoV c V a→∀(k:Out→Option Out) (r:Out),lw c J p bid b δ k=some r→∀Q,(∀e a w,yT c B X w0 F0 V k r e a w→Q e a w)→b.wp P Q a w)
  {k:Out→Option Out} {r:Out} {Q:Exit→Act→World→Prop} (hQ:∀e a w,yT c B X w0 F0 V k r e a w→Q e a w) {o:Out}
  (ho:dk o (fun i s=>fw (fU c.K) xl s fun δ=>k (.ext i δ)) (fun x y=>k (.ret x y))=some r):∀(n:Nat) (F:Nat→Prop) (O:Nat→Option (Nat × Nat)) (a:Act) (w:World) (δ:List D),Inv c B X w0 F0 F O a w δ→IoV c V a →
  iter (fun s=>fw (fU c.K) hl s fun δ=>lw c J p bid b δ (bD hl xl)) n (ae δ hl)=some o→Code.rounds P b Q n a w
 | 0,_,_,_,_,_,_,_,h=>by cases h
 | n+1,F,O,a,w,δ,hI,hV,h=>by
  simp only [iter,iI] at h;rw [rounds_succ];have hI':=hI.carry h1;cases hb:lw c J p bid b (carry (fU c.K) hl δ) (bD hl xl) with
  | none=>rw [hb] at h;cases h
  | some ob =>
   rw [hb] at h;refine ih F O a w _ hI' hV _ ob hb _ (fun e a' w' hp=>?_)
   cases ob with
   | nrm s' =>
    simp only at h;cases e with
    | normal =>
     obtain⟨⟨F',O',δ',g1,g2⟩,g3⟩:=hp;simp only [bD,ba,EV,Out.nrm.injEq] at g2;rw [←g2] at h;exact pr h1 h2 ih hQ ho n F' O' a' w' δ' g1 g3 h
    | exit i =>
     obtain⟨⟨F',O',δ',g1,g2⟩,g3⟩:=hp;simp [bD,ba] at g2
    | ret =>
     obtain⟨⟨F',O',δ',g1,g2⟩,g3⟩:=hp;obtain⟨rs,_,_,g4⟩:=gn g2;simp [bD] at g4
    | _=>exact hp.elim
   | ext i l =>
    simp only [EV] at h;subst h;cases e with
    | normal =>
     obtain⟨⟨F',O',δ',g1,g2⟩,g3⟩:=hp;simp [bD,ba] at g2
    | exit j =>
     obtain⟨⟨F',O',δ',g1,g2⟩,g3⟩:=hp;simp only [bD,ba,EV,Out.ext.injEq] at g2;obtain⟨rfl,rfl⟩:=g2;simp only [dk,iI] at ho;exact hQ (.exit j) _ _ ⟨⟨F',O',_,g1.carry h2,ho⟩,g3⟩
    | ret =>
     obtain⟨⟨F',O',δ',g1,g2⟩,g3⟩:=hp;obtain⟨rs,_,_,g4⟩:=gn g2;simp [bD] at g4
    | _=>exact hp.elim
   | ret x y =>
    simp only [EV] at h;subst h;cases e with
    | normal =>
     obtain⟨⟨F',O',δ',g1,g2⟩,g3⟩:=hp;simp [bD,ba] at g2
    | exit j =>
     obtain⟨⟨F',O',δ',g1,g2⟩,g3⟩:=hp;simp [bD,ba] at g2
    | ret =>
     obtain⟨⟨F',O',δ',g1,g2⟩,g3⟩:=hp;obtain⟨rs,g5,g6,g4⟩:=gn g2;simp only [bD,EV,Out.ret.injEq] at g4;obtain⟨rfl,rfl⟩:=g4;exact hQ .ret _ _ ⟨⟨F',O',δ',g1,rq g5 g6 ho⟩,g3⟩
    | _=>exact hp.elim
theorem dH (hT:okT P c.T=true) (hS:∀f S,cb c.S f=some S→ao c.G P f S) (hm:P.follows .mixedOrders=true) {V:Nat→Value} {J:List (Nat × List Nat)} (hJ:okJ c J=true):∀(b:Code) (p bid:Nat),cj c bid b=true→∀(F:Nat→Prop) (O:Nat→Option (Nat × Nat)) (a:Act) (w:World) (δ:List D),
  Inv c B X w0 F0 F O a w δ→IoV c V a→∀(k:Out→Option Out) (r:Out),lw c J p bid b δ k=some r→∀Q,(∀e a w,yT c B X w0 F0 V k r e a w→Q e a w)→b.wp P Q a w
 | .skip,p,bid,_,F,O,a,w,δ,hI,hV,k,r,hg,Q,hQ=>wp_skip (hQ _ _ _ ⟨⟨F,O,δ,hI,hg⟩,hV⟩)
 | .region id ops d,p,bid,hok,F,O,a,w,δ,hI,hV,k,r,hg,Q,hQ=>by
  simp only [cj,EU,FF] at hok;have hq:∀a w,eD c B X w0 F0 V (fun δ=>k (.nrm δ)) r a w→Q .normal a w:=fun a w h=>hQ _ _ _ h
  cases d
  ·exact wp_region_list (nz hT hS hq ops.toList hok.1 F O a w δ hI hV hg)
  ·exact uw hT hS (by simpa using hok.2) hm hq hok.1 hI hV hg id
 | .seq x y,p,bid,hok,F,O,a,w,δ,hI,hV,k,r,hg,Q,hQ=>by
  simp only [cj,EU] at hok;simp only [lw] at hg;cases hH:cb J p with
  | none =>
   rw [hH] at hg;refine wp_seq (dH hT hS hm hJ x _ bid hok.1 F O a w δ hI hV _ r hg _ (fun e a' w' hp=>?_))
   cases e with
   | normal =>
    obtain⟨⟨F',O',δ',hI',hk'⟩,hV'⟩:=hp;exact dH hT hS hm hJ y _ bid hok.2 F' O' a' w' δ' hI' hV' k r hk' Q hQ
   | exit id=>exact hQ _ _ _ hp
   | ret=>exact hQ _ _ _ hp
   | _=>exact hp.elim
  | some hl =>
   rw [hH] at hg;simp only [wi] at hg;have hlive:=zY hJ hH;refine wp_seq (dH hT hS hm hJ x _ bid hok.1 F O a w δ hI hV _ r hg _ (fun e a' w' hp=>?_))
   cases e with
   | normal =>
    obtain⟨⟨F',O',δ',hI',hk'⟩,hV'⟩:=hp;simp only [CA,ba,iI] at hk';exact dH hT hS hm hJ y _ bid hok.2 F' O' a' w' _ (hI'.carry hlive) hV' k r hk' Q hQ
   | exit id=>exact hQ _ _ _ hp
   | ret=>exact hQ _ _ _ hp
   | _=>exact hp.elim
 | .cond x t e,p,bid,hok,F,O,a,w,δ,hI,hV,k,r,hg,Q,hQ=>by
  simp only [cj,EU] at hok;obtain⟨⟨hlv,hok1⟩,hok2⟩:=hok;have hop:=hI.opd (aM.1 hlv);have key:ifD (opD δ x) (lw c J (Fs 2 p) bid t δ k) (lw c J (Gc (Fs 2 p) 1) bid e δ k)=some r:=by
   simp only [lw] at hg;cases x with
   | tmp s=>simpa only [opC,cK,opD] using hg
   | const v=>simpa only [opC,opD] using hg
   | func f=>simpa only [opC,opD] using hg
   | global g=>simp [opC] at hg
  unfold ifD at key;split at key
  ·rename_i hd
   rw [hd] at hop;exact wp_cond_true (ay hop).1 (dH hT hS hm hJ t _ bid hok1 F O a w δ hI hV k r key Q hQ)
  ·rename_i hd
   rw [hd] at hop;exact wp_cond_false (ay hop).1 (dH hT hS hm hJ e _ bid hok2 F O a w δ hI hV k r key Q hQ)
  ·cases key
 | .block id b,p,bid,hok,F,O,a,w,δ,hI,hV,k,r,hg,Q,hQ=>by
  simp only [cj] at hok;refine wp_block (dH hT hS hm hJ b _ id hok F O a w δ hI hV _ r hg _ (fun e a' w' hp=>?_))
  cases e with
  | normal=>exact hQ .normal _ _ hp
  | exit i =>
   simp only [Exit.inBlock];have hp':eD c B X w0 F0 V (fun δ=>wm id (.ext i δ) k) r a' w':=hp;split
   ·rename_i hi
    refine hQ .normal _ _ (fM hp' fun δ F O _ h=>?_)
    simp only [wm] at h;rw [aq.2 (by simpa using hi)] at h;exact h
   ·rename_i hi
    refine hQ (.exit i) _ _ (fM hp' fun δ F O _ h=>?_)
    simp only [wm] at h;cases hb:Fr i id
    ·rw [hb] at h;exact h
    ·exact absurd (by simpa using aq.1 hb) hi
  | ret=>exact hQ .ret _ _ hp
  | _=>exact hp.elim
 | .loop b,p,bid,hok,F,O,a,w,δ,hI,hV,k,r,hg,Q,hQ=>by
  simp only [cj,EU] at hok;obtain⟨hok1,hok2⟩:=hok;simp only [lw] at hg;cases hH:cb c.H bid with
  | none=>rw [hH] at hg;cases hg
  | some hx =>
   obtain⟨hl,xl⟩:=hx;rw [hH] at hg hok2;simp only [EU] at hok2;simp only [ba] at hg;obtain⟨o',h1,h2⟩:=Fa.1 hg;unfold aS at h1;split at h1
   case isFalse=>cases h1
   rename_i hex;refine wp_loop_rounds (Fu hex) ?_
   refine pr (hl:=hl) (xl:=xl) hok2.1 hok2.2 (fun F O a w δ hI hV k r hg Q hQ=>dH hT hS hm hJ b _ bid hok1 F O a w δ hI hV k r hg Q hQ) hQ h2 _ F O a w δ hI hV h1
 | .exit id,p,bid,_,F,O,a,w,δ,hI,hV,k,r,hg,Q,hQ=>wp_exit (hQ _ _ _ ⟨⟨F,O,δ,hI,hg⟩,hV⟩)
 | .ret,p,bid,_,F,O,a,w,δ,hI,hV,k,r,hg,Q,hQ=>wp_ret (hQ _ _ _ ⟨⟨F,O,δ,hI,hg⟩,hV⟩)
 | .label _,_,_,hok,_,_,_,_,_,_,_,_,_,_,_,_=>by simp [cj] at hok
 | .goto _,_,_,hok,_,_,_,_,_,_,_,_,_,_,_,_=>by simp [cj] at hok
 | .scope _,_,_,hok,_,_,_,_,_,_,_,_,_,_,_,_=>by simp [cj] at hok
theorem yI (hT:okT P c.T=true) (hS:∀f S,cb c.S f=some S→ao c.G P f S) (hm:P.follows .mixedOrders=true) {J:List (Nat × List Nat)} (hJ:okJ c J=true) {f:FuncId} {fn:Func} (hf:P.funcs[f]?=some fn) {pm rm:List Kd} (hok:xB c fn pm rm=true) (hres:c.res=fn.results.toList)
  {ds rs us:List D} (hd:qy c J fn ds=some (.ret rs us)) {args:Array Value} {w:World} {F:Nat→Prop} {ow:Nat→Option Nat} (hgl:gOk c.G w F) (ha:dV w F ow 0 pm ds args.toList) (hF:∀b,F b→b<w.heap.size∧ow b=none) (hO:∀b i,ow b=some i→b<w.heap.size) :
  Calls P f args w fun e w'=>∃v,e = .returned v∧∃F' R vs,v=gU vs∧CallPost {pm:=pm,rm:=rm,f:=qy c J fn} args rs us w F ow F' R vs w':=by
 unfold xB at hok;simp only [EU,decide_eq_true_eq] at hok;obtain⟨⟨⟨⟨⟨hcode,hlenK⟩,hpre⟩,hpm⟩,hokr⟩,hios⟩:=hok;rw [aq,gT] at hlenK;obtain⟨hpl,hpn⟩:=pB hpre;obtain⟨hdl,hal,hargs⟩:=pA pm ds args.toList 0 ha;have hasz:args.size=pm.length:=by simpa using hal
 unfold qy at hd;cases hb:fn.body with
 | none=>rw [hb] at hd;cases hd
 | some b =>
  rw [hb] at hd hcode;simp only at hd hcode;refine calls_of_wp hf hb ?_
  have hav:∀s,s<pm.length→av ({tmps:=args++Fb (fn.ntmps - args.size) undef,defers:=[]}:Act) s=args.toList.getD s undef:=fun s hs=>by
   have h1:s<args.size:=by omega
   simp only [av,Fy,EY,FK];rw [Fg h1]
  have hinit:Inv c w.heap.size (fun b=>ow b≠none) w F F (fun b=>(ow b).map fun i=>(i,0)) {tmps:=args++Fb (fn.ntmps - args.size) undef,defers:=[]} w (lT fn.ntmps ds):=by
   refine⟨by simp;omega,by rw [mC,hlenK],rfl,fun s=>?_,fun b hb=>⟨(hF b hb).1,by simp [(hF b hb).2]⟩,fun b p hp=>?_,fun _ h=>h,fun _ h=>.inl h,Fi _,rfl,rfl,rfl,fun _ _ _=>rfl,hgl⟩
   ·unfold pR
    rw [mj _ _ _ (by rw [hdl];omega)];by_cases hs:s<pm.length
    ·rw [hpn s hs,hav s hs]
     rcases hargs s hs with hbad | harg
     ·exact .inl hbad
     refine .inr ?_
     have hlv:∀lv,lv≠1→∀b,FB F 0 lv b→FB F w.heap.size lv b:=fun lv h1 b hb=>by
      match lv,h1 with
      | 0,_=>exact hb
      | _+2,_=>exact hb
     rcases oD hpm s hs with ⟨lv,hk,h1⟩ | ⟨z,lv,hk,h1⟩ | ⟨n,lv,hk,h1⟩
     ·rw [hk] at harg ⊢
      exact .inr (bc (hlv lv h1) (fun _ _=>rfl) harg)
     ·rw [hk] at harg ⊢
      exact .inr (cm (hlv lv h1) (fun _ _=>rfl) (fun g _ hg=>⟨⟨by simp only [Fl] at hg;simp [hg],fun h=>by cases h⟩,rfl⟩) harg)
     ·rw [hk] at harg ⊢
      exact .inr (iA (hlv lv h1) (fun _ _=>rfl) (fun g _ hg=>⟨⟨by simp only [Fl] at hg;simp [hg],fun h=>by cases h⟩,rfl⟩) harg)
    ·refine .inl ?_
     rw [cM,EY,FL (by omega)];rfl
   ·obtain⟨i,hi,rfl⟩:=FH.1 hp
    exact⟨hO b i hi,.inr (by rw [hi];simp)⟩
  refine dH hT hS hm hJ b 1 0 hcode F _ _ w _ hinit (V:=av {tmps:=args++Fb (fn.ntmps - args.size) undef,defers:=[]}) (fun _ _=>rfl) _ _ hd _ (fun e a' w' hp=>?_)
  have fin:eD c w.heap.size (fun b=>ow b≠none) w F (av {tmps:=args++Fb (fn.ntmps - args.size) undef,defers:=[]}) (fun δ=>xd c δ some) (.ret rs us) a' w'→a'.defers=[]∧∃v,(results fn a'.tmps).run P w' = .ok v w'∧∃v',Ending.returned v = .returned v'∧∃F' R vs,v'=gU vs∧CallPost {pm:=pm,rm:=rm,f:=qy c J fn} args rs us w F ow F' R vs w':=by
   rintro⟨⟨F',O',δ',hI',hk⟩,hV'⟩;obtain⟨rs',h1,h2,h3⟩:=gn hk;simp only [EV,Out.ret.injEq] at h3;obtain⟨rfl,rfl⟩:=h3;obtain⟨vs,g1,g2,g3,g4⟩:=pc (P:=P) hT hI' c.res rm rs' hokr h1;refine⟨hI'.df,gU vs,?_,_,rfl,F',fun b=>if w.heap.size≤b then(match O' b with
    | some (t,0)=>oT c.res t 0
    | _=>none) else none,vs,rfl,?_⟩
   ·have hrun:(fn.results.mapM (kL a'.tmps)).run P w' = .ok vs.toArray w':=by
     rw [Array.mapM_eq_mapM_toList,←hres];simp [g1]
    have hrw:results fn a'.tmps=(do
      let vs ←fn.results.mapM (kL a'.tmps)
      pure (if h:vs.size=1 then vs[0] else .tuple vs)):=by
     unfold results;congr 1
    rw [hrw];simp only [Sem.run_bind,hrun,FU,Sem.run_pure];congr 1
    rcases vs with _ | ⟨y,_ | ⟨y',vs⟩⟩
    ·simp [gU]
    ·simp [gU]
    ·simp [gU]
   ·refine⟨hI'.os,hI'.tape,hI'.output,hI'.bb,fun b hb ho=>hI'.keep b hb (by simp [ho]),hI'.f0,fun b hb=>⟨hI'.fn b hb,(hI'.fl b hb).1,by simp only [(hI'.fl b hb).2];split<;>rfl⟩,fun b j hj=>?_,g2,g3,fun j=>?_,?_⟩
    ·split at hj
     case isFalse=>cases hj
     rename_i hB;refine⟨hB,?_⟩
     split at hj
     ·rename_i t he;exact(hI'.ol b _ he).1
     ·cases hj
    ·refine ip (fun hk g hg=>?_) (g4 j)
     obtain⟨z,lv,hk⟩:=hk;obtain⟨e1,t,e2,e3⟩:=hg;rw [if_pos e1];simp only [e3];have:=(kh c.res rm hokr j t 0 z lv hk e2).1;simpa using this
    ·rw [hios]
     refine uN pm args.toList 0 hal (fun j hj hio=>?_)
     rw [Fl];have hkj:=hpn j hj;have hbj:nth δ' j ≠ .bad:=by
      refine h2 _ ?_
      rw [hios,kx];exact FQ (by simpa using ql pm 0 j hj hio)
     have havj:av a' j=args.toList.getD j undef:=(hV' j (by rw [hkj];exact hio)).trans (hav j hj);have hlv:∀lv,lv≠1→∀b,FB F' w.heap.size lv b→FB F' 0 lv b:=fun lv h1 b hb=>by
      match lv,h1 with
      | 0,_=>exact hb
      | _+2,_=>exact hb
     refine⟨hbj,.inr ?_⟩
     rcases oD hpm j hj with ⟨lv,hk,h1⟩ | ⟨z,lv,hk,h1⟩ | ⟨n,lv,hk,h1⟩
     ·rw [hk] at hio;cases hio
     ·have h5:=hI'.own (hkj.trans hk) hbj
      rw [havj] at h5;rw [hk];exact cm (hlv lv h1) (fun _ _=>rfl) (fun _ _ _=>⟨trivial,rfl⟩) h5
     ·have h5:=hI'.box (hkj.trans hk) hbj
      rw [havj] at h5;rw [hk];exact iA (hlv lv h1) (fun _ _=>rfl) (fun _ _ _=>⟨trivial,rfl⟩) h5
  cases e with
  | normal=>exact fin hp
  | exit i =>
   obtain⟨⟨_,_,_,_,h⟩,_⟩:=hp;cases h
  | ret =>
   refine fin (fM hp fun δ F O _ h=>?_)
   obtain⟨rs',h1,h2,h3⟩:=gn h;exact rq h1 h2 h3
  | _=>exact hp.elim
theorem zG (hT:okT P c.T=true) (hS:∀f S,cb c.S f=some S→ao c.G P f S) (hm:P.follows .mixedOrders=true) {J:List (Nat × List Nat)} (hJ:okJ c J=true) {f:FuncId} {fn:Func} (hf:P.funcs[f]?=some fn) (hname:(fn.name=="runtime.NumGoroutine")=false) {pm rm:List Kd} (hok:xB c fn pm rm=true) (hres:c.res=fn.results.toList) :
  ao c.G P f {pm:=pm,rm:=rm,f:=qy c J fn}:=by
 intro ds rs us hd args w F ow hgl ha hF hO o a next Q hn
 have hbody:∃b,fn.body=some b:=by
  have hd':qy c J fn ds=some (.ret rs us):=hd;unfold qy at hd';cases hb:fn.body with
  | none=>rw [hb] at hd';cases hd'
  | some b=>exact⟨b,rfl⟩
 obtain⟨b,hb⟩:=hbody;have hrun:(callFunc f args).run P w = .ok (.enter f args) w:=by
  have h1:¬fn.name="runtime.NumGoroutine":=by simpa using hname
  simp [callFunc,hf,h1,hb]
 rw [hrun,Fj];refine Fw (yI hT hS hm hJ hf hok hres hd hgl ha hF hO) (fun e w' he=>?_)
 obtain⟨v,rfl,F',R,vs,h1,h2⟩:=he;exact hn v w' ⟨F',R,vs,h1,h2⟩
end
theorem vx {f:(List D→Option Out)→Option Out} {k:List D→Option Out} {r:Option Out} (p:List D→Prop) (hk:∀s,p s→k s=r) (hf:∀j:List D→Option Out,(∀s,p s→j s=r)→f j=r):wi f k=r:=hf k hk
end Go.V

end
