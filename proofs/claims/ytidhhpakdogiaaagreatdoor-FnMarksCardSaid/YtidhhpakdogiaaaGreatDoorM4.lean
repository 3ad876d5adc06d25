/-
  A part of the proof: contracts and plain forms of functions beneath the statement, made small by a program (names shortened, what is not needed left out).
-/
import Derived.Test.YtidhhpakdogiaaaGreatDoorRows
import Derived.Test.YtidhhpakdogiaaaGreatDoorTie
import Derived.Test.YtidhhpakdogiaaaGreatDoorCards
import Derived.Test.YtidhhpakdogiaaaGreatDoorM3
import Derived.Below
import Derived.Shelf.Strconv.Itoa3
import Derived.Shelf.Strconv.AtoiAll
import Derived.Lib.AtoiErrMem
import Derived.Shelf.Strings.Cut
import Derived.Shelf.Strings.SplitShaped
import Derived.Shelf.Strings.Prefix
import Derived.Shelf.Strings.OnBuilder
import Derived.Shelf.Strings.FieldsFuncGrows
import Derived.Shelf.Strings.IndexAnyAll
import Derived.Shelf.Strings.SlTrimAscii
import Derived.Shelf.Small.Strs
import Derived.Shelf.GgSortMore.Stable
import Derived.ProofKit
import Derived.ChangeArms
import Derived.Stop.LaidErr
import Derived.Deep.DeepHandedRow
import Derived.Deep.DeepWitnessRowRef
import Derived.LaidMore
import Derived.MakeChecks
import Derived.Shelf.Vars
open Bool renaming and_eq_true → GK, false_eq_true → GO, not_eq_true' → Hn, not_false → HM
open Option.some renaming injEq → GL
open List renaming getElem?_cons_zero → GM, getD_eq_getElem?_getD → GN, getElem?_eq_some_iff → GR, getElem?_eq_getElem → GT, getD_cons_zero → GU, mem_append → GY, getElem?_cons_succ → Hf, mem_cons → Hl, all_eq_true → Hq, not_mem_nil → Hr, mapM_cons → Hu, drop_zero → Hv, getElem?_eq_none → Hx, mem_append_left → Hz, all_cons → HA, mem_map_of_mem → HB, replicate → HL
open Option renaming bind_eq_some_iff → GP, isSome_iff_exists → Ha, bind_some → Hp, map_eq_some_iff → Ht
open Array renaming replicate → GQ, getElem?_append_left → GV, getD_eq_getD_getElem? → Hk, getElem?_eq_some_iff → Hm, getElem?_toList → Hw
open Go.Proofs renaming enters_of → GS
open Go.DataW renaming TrodAll → GW
open Go.Oper renaming upon_enter → GX
open Nat renaming zero_add → GZ, beq → Hd, mul → He, le_refl → Hs, lt_of_lt_of_le → HC, add → HN
open Go.Lib renaming pow10Tab → Hb, TabIs → Hh
open Go.Shelf renaming Ren → Hc
open Classical renaming choose → Hg, choose_spec → Hy
open Go.Calls renaming mono → Hi
open Go.Value renaming okWide → Hj, string → Ho, int → HP
open Go.Sort renaming grow → HD
open Go.Result renaming andThen_ok → HE
open Int renaming toNat_natCast → HF
open Go.World renaming cell? → HG, var? → HJ
open Go.Ending renaming returned → HH
open Go.Act renaming put → HK
set_option maxRecDepth 100000
set_option linter.unusedSimpArgs false
set_option linter.unusedVariables false
noncomputable section
namespace Go.V
open Go.RowKit
set_option maxRecDepth 100000
def oE:List ResultVar→List Nat
 | []=>[]
 | .tmp t::l=>t::oE l
 | .cell _ _::l=>oE l
def bo (c:Cx):List ResultVar→List Kd→Bool
 | [],[]=>true
 | .tmp t::l,.dat lv::m=>(match ak c.K t with
  | .dat l'=>Nat.ble l' lv
  | _=>false)&&bo c l m
 | .tmp t::l,.own z lv false::m=>(match ak c.K t with
  | .own z' l' false=>Hd z' z&&Nat.ble l' lv
  | _=>false) && !jZ t (oE l)&&bo c l m
 | .cell s t::l,.dat lv::m=>(match ak c.K s with
  | .box _ l' _=>Nat.ble l' lv
  | _=>false)&&(ci c.T t).isSome&&bo c l m
 | _,_=>false
def nK:Nat→List Kd→List Nat
 | _,[]=>[]
 | i,k::ks=>if nC k then i::nK (i+1) ks else nK (i+1) ks
def eqK:Kd→Kd→Bool
 | .dat a,.dat b=>Hd a b
 | .own a b io,.own a' b' io'=>Hd a a'&&Hd b b'&&io==io'
 | .box a b io,.box a' b' io'=>Hd a a'&&Hd b b'&&io==io'
 | _,_=>false
def xe:List Kd→List Kd→Bool
 | [],_=>true
 | k::ks,l::ls=>eqK k l&&xe ks ls
 | _,_=>false
section
variable {P:Program} {c:Cx} {B:Nat} {X:Nat→Prop} {w0:World} {F0 F:Nat→Prop} {O:Nat→Option (Nat × Nat)} {a:Act} {w:World} {δ:List D}
def lq (tmps:Array Value):ResultVar→Sem Value
 | .tmp t=>pure (tmps.getD t undef)
 | .cell a t=>do loadVar t (←asAddr (tmps.getD a undef))
theorem FG {k l:Kd} (h:eqK k l=true):k=l:=by
 unfold eqK at h;split at h
 ·rw [ay] at h;rw [h]
 ·simp only [GK,ay,beq_iff_eq] at h
  obtain⟨⟨rfl,rfl⟩,rfl⟩:=h;rfl
 ·simp only [GK,ay,beq_iff_eq] at h
  obtain⟨⟨rfl,rfl⟩,rfl⟩:=h;rfl
 ·cases h
theorem qq:∀{ks ls:List Kd},xe ks ls=true→ks.length≤ls.length∧∀(i:Nat),i<ks.length→ak ls i=ak ks i
 | [],_,_=>⟨by simp,by simp⟩
 | k::ks,l::ls,h=>by
  simp only [xe,GK] at h;obtain⟨h1,h2⟩:=qq h.2;refine⟨by simp;exact h1,fun i hi=>?_⟩
  cases i with
  | zero=>simp only [ak];exact(FG h.1).symm
  | succ i=>simp only [ak];exact h2 i (by simpa using hi)
 | _::_,[],h=>by simp [xe] at h
def Fm (B:Nat) (O:Nat→Option (Nat × Nat)) (res:List ResultVar) (j:Nat) (g:Nat):Prop:=B≤g∧∃t,res[j]?=some (.tmp t)∧O g=some (t,0)
theorem iT {w:World} {F:Nat→Prop} {B:Nat} {own own':Nat→Prop} {k:Kd} {d:D} {y:Value} (ho:(∃z lv,k = .own z lv false)→∀g,own g→own' g) (h:ya w F B own k d y):ya w F B own' k d y:=by
 rcases h with h | h
 ·exact .inl h
 ·refine .inr ?_
  cases k with
  | own z lv io =>
   cases io
   ·exact h.own fun _ _ hg=>⟨ho ⟨z,lv,rfl⟩ _ hg.1,hg.2⟩
   ·exact h
  | _=>exact h
theorem qa (hT:okT P c.T=true) (hI:Inv c B X w0 F0 F O a w δ):∀(res:List ResultVar) (rm:List Kd) (rs:List D),bo c res rm=true→eB c δ res (fun rs=>some (.nrm rs))=some (.nrm rs) →
  ∃vs:List Value,(res.mapM (lq a.tmps)).run P w = .ok vs w∧vs.length=rm.length∧rs.length=rm.length∧∀j,ya w F B (Fm B O res j) (ak rm j) (nth rs j) (vs.getD j undef)
 | [],[],rs,_,h=>by
  simp only [eB,GL,Out.nrm.injEq] at h;subst h;exact⟨[],by simp,rfl,rfl,fun j=>.inl (by simp [nth])⟩
 | .tmp t::l,.dat lv::m,rs,hok,h=>by
  simp only [bo,GK] at hok;simp only [eB,cG] at h;rw [fS] at h;obtain⟨o,h1,h2⟩:=GP.1 h;split at h2
  case h_2=>cases h2
  rename_i rs';simp only [GL,Out.nrm.injEq] at h2;subst h2;obtain⟨vs,g1,g2,g3,g4⟩:=qa hT hI l m rs' hok.2 h1;refine⟨a.tmps.getD t undef::vs,by simp [Hu,lq,g1],by simp [g2],by simp [g3],fun j=>?_⟩
  cases j with
  | zero =>
   simp only [ak,nth,GU];have hk:=hok.1;split at hk
   case h_2=>cases hk
   rename_i l' hkt;exact(eC (aS.1 hk) (hI.dat hkt))
  | succ j =>
   refine iT (fun _ g hg=>?_) (g4 j)
   obtain⟨e1,t',e2,e3⟩:=hg;exact⟨e1,t',by simpa using e2,e3⟩
 | .tmp t::l,.own z lv false::m,rs,hok,h=>by
  simp only [bo,GK] at hok;simp only [eB,cG] at h;rw [fS] at h;obtain⟨o,h1,h2⟩:=GP.1 h;split at h2
  case h_2=>cases h2
  rename_i rs';simp only [GL,Out.nrm.injEq] at h2;subst h2;obtain⟨vs,g1,g2,g3,g4⟩:=qa hT hI l m rs' hok.2 h1;refine⟨a.tmps.getD t undef::vs,by simp [Hu,lq,g1],by simp [g2],by simp [g3],fun j=>?_⟩
  cases j with
  | zero =>
   simp only [ak,nth,GU];have hk:=hok.1.1;split at hk
   case h_2=>cases hk
   rename_i z' l' hkt;simp only [GK,ay,aS] at hk;obtain⟨rfl,hle⟩:=hk;by_cases hb:nth δ t = .bad
   ·exact .inl hb
   ·exact .inr (cy (hP hle) (fun _ _=>rfl) (fun g _ hg=>⟨⟨⟨hg.2 rfl,t,rfl,hg.1⟩,hg.2 rfl⟩,rfl⟩) (hI.own hkt hb))
  | succ j =>
   refine iT (fun _ g hg=>?_) (g4 j)
   obtain⟨e1,t',e2,e3⟩:=hg;exact⟨e1,t',by simpa using e2,e3⟩
 | .cell s t::l,.dat lv::m,rs,hok,h=>by
  simp only [bo,GK] at hok;simp only [eB] at h;split at h
  case h_2=>cases h
  rename_i i hi;simp only [cG] at h;obtain⟨y,hy,h⟩:=GP.1 h;rw [fS] at h;obtain⟨o,h1,h2⟩:=GP.1 h;split at h2
  case h_2=>cases h2
  rename_i rs';simp only [GL,Out.nrm.injEq] at h2;subst h2;obtain⟨vs,g1,g2,g3,g4⟩:=qa hT hI l m rs' hok.2 h1;have hk:=hok.1.1;split at hk
  case h_2=>cases hk
  rename_i n l' io hks;rw [aS] at hk;have hb:nth δ s ≠ .bad:=by
   intro e;rw [e] at hy;simp [aX] at hy
  obtain⟨mm,us,g,e,hd',a1,a2,a3,a4,a5,a6⟩:=hI.box hks hb;rw [hd'] at hy;simp only [aX,Hv] at hy;have hcell:bz w g 0 us:=ki a2 (fun i u hu=>by simpa using hu);obtain⟨v,hv,hr⟩:=pC (P:=P) (tok hT hi) a3 a4 hcell hy;have hv':(lq a.tmps (.cell s t)).run P w = .ok v w:=by
   have e1:a.tmps.getD s undef = .pointer (some ⟨g,0,none⟩):=a1;simp only [lq,e1];simpa [Instr.loadAt,Instr.sureAddr,asAddr] using hv
  refine⟨v::vs,by simp [Hu,hv',g1],by simp [g2],by simp [g3],fun j=>?_⟩
  cases j with
  | zero =>
   simp only [ak,nth,GU];exact .inr (aZ (hP hk) (fun _ _=>rfl) hr)
  | succ j =>
   refine iT (fun _ g hg=>?_) (g4 j)
   obtain⟨e1,t',e2,e3⟩:=hg;exact⟨e1,t',by simpa using e2,e3⟩
 | [],_::_,_,hok,_=>by simp [bo] at hok
 | .tmp _::_,[],_,hok,_=>by simp [bo] at hok
 | .cell _ _::_,[],_,hok,_=>by simp [bo] at hok
 | .tmp _::_,.own _ _ true::_,_,hok,_=>by simp [bo] at hok
 | .tmp _::_,.box _ _ _::_,_,hok,_=>by simp [bo] at hok
 | .tmp _::_,.via _::_,_,hok,_=>by simp [bo] at hok
 | .tmp _::_,.ref _::_,_,hok,_=>by simp [bo] at hok
 | .tmp _::_,.tup _::_,_,hok,_=>by simp [bo] at hok
 | .tmp _::_,.no::_,_,hok,_=>by simp [bo] at hok
 | .tmp _::_,.itr::_,_,hok,_=>by simp [bo] at hok
 | .tmp _::_,.mpo::_,_,hok,_=>by simp [bo] at hok
 | .cell _ _::_,.own _ _ _::_,_,hok,_=>by simp [bo] at hok
 | .cell _ _::_,.box _ _ _::_,_,hok,_=>by simp [bo] at hok
 | .cell _ _::_,.via _::_,_,hok,_=>by simp [bo] at hok
 | .cell _ _::_,.ref _::_,_,hok,_=>by simp [bo] at hok
 | .cell _ _::_,.tup _::_,_,hok,_=>by simp [bo] at hok
 | .cell _ _::_,.no::_,_,hok,_=>by simp [bo] at hok
 | .cell _ _::_,.itr::_,_,hok,_=>by simp [bo] at hok
 | .cell _ _::_,.mpo::_,_,hok,_=>by simp [bo] at hok
def pQ:List ResultVar→Nat→Nat→Option Nat
 | [],_,_=>none
 | .tmp t::l,s,j=>if t=s then some j else pQ l s (j+1)
 | .cell _ _::l,s,j=>pQ l s (j+1)
theorem oD:∀{res:List ResultVar} {j t:Nat},res[j]?=some (.tmp t)→t∈oE res
 | .tmp s::l,0,t,h=>by simp at h;simp [oE,h]
 | .cell _ _::l,0,t,h=>by simp at h
 | .tmp s::l,j+1,t,h=>by simp only [oE,Hl];exact .inr (oD (by simpa using h))
 | .cell _ _::l,j+1,t,h=>by simp only [oE];exact oD (by simpa using h)
theorem kL:∀(res:List ResultVar) (rm:List Kd),bo c res rm=true→∀(j t i:Nat) (z lv:Nat),ak rm j = .own z lv false→res[j]?=some (.tmp t)→pQ res t i=some (i+j)∧∃z' l',ak c.K t = .own z' l' false
 | [],[],_,j,t,i,z,lv,h,_=>by simp [ak] at h
 | .tmp s::l,.dat lv'::m,hok,j,t,i,z,lv,h,hj=>by
  simp only [bo,GK] at hok;cases j with
  | zero=>simp [ak] at h
  | succ j =>
   obtain⟨h1,h2⟩:=kL l m hok.2 j t (i+1) z lv (by simpa [ak] using h) (by simpa using hj);refine⟨?_,h2⟩
   simp only [pQ];rw [if_neg,h1]
   ·congr 1;omega
   ·rintro rfl
    obtain⟨z',l',hk⟩:=h2;rw [hk] at hok;cases hok.1
 | .tmp s::l,.own z0 lv0 false::m,hok,j,t,i,z,lv,h,hj=>by
  simp only [bo,GK] at hok;cases j with
  | zero =>
   simp at hj;subst hj;refine⟨by simp [pQ],?_⟩
   have hk:=hok.1.1;split at hk
   ·exact⟨_,_,‹_›⟩
   ·cases hk
  | succ j =>
   obtain⟨h1,h2⟩:=kL l m hok.2 j t (i+1) z lv (by simpa [ak] using h) (by simpa using hj);refine⟨?_,h2⟩
   simp only [pQ];rw [if_neg,h1]
   ·congr 1;omega
   ·rintro rfl
    have hm:=hok.1.2;rw [eU] at hm;simp only [Hn,decide_eq_false_iff_not] at hm;exact hm (oD (by simpa using hj))
 | .cell s s'::l,.dat lv'::m,hok,j,t,i,z,lv,h,hj=>by
  simp only [bo,GK] at hok;cases j with
  | zero=>simp [ak] at h
  | succ j =>
   obtain⟨h1,h2⟩:=kL l m hok.2 j t (i+1) z lv (by simpa [ak] using h) (by simpa using hj);refine⟨?_,h2⟩
   simp only [pQ];rw [h1];congr 1;omega
 | [],_::_,hok,_,_,_,_,_,_,_=>by simp [bo] at hok
 | .tmp _::_,[],hok,_,_,_,_,_,_,_=>by simp [bo] at hok
 | .cell _ _::_,[],hok,_,_,_,_,_,_,_=>by simp [bo] at hok
 | .tmp _::_,.own _ _ true::_,hok,_,_,_,_,_,_,_=>by simp [bo] at hok
 | .tmp _::_,.box _ _ _::_,hok,_,_,_,_,_,_,_=>by simp [bo] at hok
 | .tmp _::_,.via _::_,hok,_,_,_,_,_,_,_=>by simp [bo] at hok
 | .tmp _::_,.ref _::_,hok,_,_,_,_,_,_,_=>by simp [bo] at hok
 | .tmp _::_,.tup _::_,hok,_,_,_,_,_,_,_=>by simp [bo] at hok
 | .tmp _::_,.no::_,hok,_,_,_,_,_,_,_=>by simp [bo] at hok
 | .tmp _::_,.itr::_,hok,_,_,_,_,_,_,_=>by simp [bo] at hok
 | .tmp _::_,.mpo::_,hok,_,_,_,_,_,_,_=>by simp [bo] at hok
 | .cell _ _::_,.own _ _ _::_,hok,_,_,_,_,_,_,_=>by simp [bo] at hok
 | .cell _ _::_,.box _ _ _::_,hok,_,_,_,_,_,_,_=>by simp [bo] at hok
 | .cell _ _::_,.via _::_,hok,_,_,_,_,_,_,_=>by simp [bo] at hok
 | .cell _ _::_,.ref _::_,hok,_,_,_,_,_,_,_=>by simp [bo] at hok
 | .cell _ _::_,.tup _::_,hok,_,_,_,_,_,_,_=>by simp [bo] at hok
 | .cell _ _::_,.no::_,hok,_,_,_,_,_,_,_=>by simp [bo] at hok
 | .cell _ _::_,.itr::_,hok,_,_,_,_,_,_,_=>by simp [bo] at hok
 | .cell _ _::_,.mpo::_,hok,_,_,_,_,_,_,_=>by simp [bo] at hok
theorem qn {w:World} {F:Nat→Prop} {ow:Nat→Option Nat}:∀(pm:List Kd) (ds:List D) (ys:List Value) (i:Nat),dG w F ow i pm ds ys→ds.length=pm.length∧ys.length=pm.length∧∀(j:Nat),j<pm.length→jy w F (fun g=>ow g=some (i+j)) (ak pm j) (nth ds j) (ys.getD j undef)
 | [],[],[],_,_=>⟨rfl,rfl,fun j h=>by simp at h⟩
 | k::pm,d::ds,y::ys,i,h=>by
  obtain⟨h1,h2⟩:=h;obtain⟨g1,g2,g3⟩:=qn pm ds ys (i+1) h2;refine⟨by simp [g1],by simp [g2],fun j hj=>?_⟩
  cases j with
  | zero=>exact h1
  | succ j =>
   have:=g3 j (by simpa using hj);simp only [ak,nth,List.getD_cons_succ];rw [show i+(j+1)=i+1+j from by omega];exact this
 | [],[],_::_,_,h=>h.elim
 | [],_::_,_,_,h=>h.elim
 | _::_,[],_,_,h=>h.elim
 | _::_,_::_,[],_,h=>h.elim
theorem vZ {w:World} {F:Nat→Prop} {δ:List D}:∀(pm:List Kd) (ys:List Value) (i:Nat),ys.length=pm.length→(∀(j:Nat),j<pm.length→nC (ak pm j)=true→nth δ (i+j) ≠ .bad∧jy w F (fun _=>True) (ak pm j) (nth δ (i+j)) (ys.getD j undef))→kR w F pm (ae δ (nK i pm)) ys
 | [],ys,i,_,_=>by simp [nK,ae,kR]
 | k::pm,[],i,hl,_=>by simp at hl
 | k::pm,y::ys,i,hl,h=>by
  have ih:=vZ pm ys (i+1) (by simpa using hl) (fun j hj hio=>by
   have:=h (j+1) (by simpa using hj) (by simpa [ak] using hio);rw [show i+1+j=i+(j+1) from by omega];simpa [ak] using this)
  cases hk:nC k with
  | true =>
   have h0:=h 0 (by simp) (by simpa [ak] using hk);simp only [nK,hk,if_true,ae,kR];exact⟨by simpa using h0.1,by simpa [ak] using h0.2,ih⟩
  | false=>simpa only [nK,hk,GO,if_false,kR] using ih
theorem ri:∀(pm:List Kd) (i j:Nat),j<pm.length→nC (ak pm j)=true→i+j∈nK i pm
 | k::pm,i,0,_,h=>by
  simp only [ak] at h;simp [nK,h]
 | k::pm,i,j+1,hj,h=>by
  have ih:=ri pm (i+1) j (by simpa using hj) (by simpa [ak] using h);rw [show i+(j+1)=i+1+j from by omega];simp only [nK];split
  ·exact List.mem_cons_of_mem _ ih
  ·exact ih
theorem mQ:∀(n:Nat) (l:List D) (s:Nat),l.length≤n→nth (mu n l) s=nth l s
 | 0,l,s,h=>by
  have:l=[]:=List.eq_nil_of_length_eq_zero (by omega);subst this;simp [mu]
 | n+1,[],s,_=>by
  cases s with
  | zero=>simp [nth]
  | succ s=>simp only [nth];rw [mQ n [] s (by simp)]
 | n+1,d::l,s,h=>by
  cases s with
  | zero=>simp [nth]
  | succ s=>simp only [nth];exact mQ n l s (by simpa using h)
theorem nj:∀(n:Nat) (l:List D),(mu n l).length=n
 | 0,_=>rfl
 | n+1,[]=>by simp [mu,nj n []]
 | n+1,_::l=>by simp [mu,nj n l]
def yZ (c:Cx) (fn:Func) (pm rm:List Kd):Bool :=
 (match fn.body with
  | some b=>cv c 0 b
  | none=>false)&&Hd (gi c.K) fn.ntmps&&xe pm c.K&&fO pm&&bo c c.res rm&&decide (c.ios=nK 0 pm)
theorem pA:∀{pm:List Kd},fO pm=true→∀j,j<pm.length→(∃lv,ak pm j = .dat lv∧lv≠1)∨(∃z lv,ak pm j = .own z lv true∧lv≠1)∨∃n lv,ak pm j = .box n lv true∧lv≠1
 | m::pm,h,j,hj=>by
  obtain⟨h1,h2,h3⟩:=vc h;cases j with
  | succ j=>exact pA h1 j (by simpa using hj)
  | zero =>
   simp only [ak];cases m with
   | dat lv =>
    refine .inl ⟨lv,rfl,?_⟩
    simp only [fO] at h;split at h
    case h_2=>cases h
    rename_i e1 e2;intro e;subst e;simp at e1
   | own z lv io =>
    cases io
    ·simp [fO] at h
    ·exact .inr (.inl ⟨z,lv,rfl,h2 z lv rfl⟩)
   | box n lv io =>
    cases io
    ·simp [fO] at h
    ·exact .inr (.inr ⟨n,lv,rfl,h3 n lv rfl⟩)
   | _=>simp [fO] at h
theorem BU (hT:okT P c.T=true) (hS:∀f S,ci c.S f=some S→aw c.G P f S) (hm:P.follows .mixedOrders=true) {f:FuncId} {fn:Func} (hf:P.funcs[f]?=some fn) {pm rm:List Kd} (hok:yZ c fn pm rm=true) (hres:c.res=fn.results.toList)
  {ds rs us:List D} (hd:bM c fn ds=some (.ret rs us)) {args:Array Value} {w:World} {F:Nat→Prop} {ow:Nat→Option Nat} (hgl:gOk c.G w F) (ha:dG w F ow 0 pm ds args.toList) (hF:∀b,F b→b<w.heap.size∧ow b=none) (hO:∀b i,ow b=some i→b<w.heap.size) :
  Calls P f args w fun e w'=>∃v,e = .returned v∧∃F' R vs,v=gS vs∧CallPost {pm:=pm,rm:=rm,f:=bM c fn} args rs us w F ow F' R vs w':=by
 unfold yZ at hok;simp only [GK,decide_eq_true_eq] at hok;obtain⟨⟨⟨⟨⟨hcode,hlenK⟩,hpre⟩,hpm⟩,hokr⟩,hios⟩:=hok;rw [ay,ip] at hlenK;obtain⟨hpl,hpn⟩:=qq hpre;obtain⟨hdl,hal,hargs⟩:=qn pm ds args.toList 0 ha;have hasz:args.size=pm.length:=by simpa using hal
 unfold bM at hd;cases hb:fn.body with
 | none=>rw [hb] at hd;cases hd
 | some b =>
  rw [hb] at hd hcode;simp only at hd hcode;refine calls_of_wp hf hb ?_
  have hav:∀s,s<pm.length→av ({tmps:=args++GQ (fn.ntmps - args.size) undef,defers:=[]}:Act) s=args.toList.getD s undef:=fun s hs=>by
   have h1:s<args.size:=by omega
   simp only [av,Hk,GN,Hw];rw [GV h1]
  have hinit:Inv c w.heap.size (fun b=>ow b≠none) w F F (fun b=>(ow b).map fun i=>(i,0)) {tmps:=args++GQ (fn.ntmps - args.size) undef,defers:=[]} w (mu fn.ntmps ds):=by
   refine⟨by simp;omega,by rw [nj,hlenK],rfl,fun s=>?_,fun b hb=>⟨(hF b hb).1,by simp [(hF b hb).2]⟩,fun b p hp=>?_,fun _ h=>h,fun _ h=>.inl h,Hs _,rfl,rfl,rfl,fun _ _ _=>rfl,hgl⟩
   ·unfold qP
    rw [mQ _ _ _ (by rw [hdl];omega)];by_cases hs:s<pm.length
    ·rw [hpn s hs,hav s hs]
     rcases hargs s hs with hbad | harg
     ·exact .inl hbad
     refine .inr ?_
     have hlv:∀lv,lv≠1→∀b,FB F 0 lv b→FB F w.heap.size lv b:=fun lv h1 b hb=>by
      match lv,h1 with
      | 0,_=>exact hb
      | _+2,_=>exact hb
     rcases pA hpm s hs with ⟨lv,hk,h1⟩ | ⟨z,lv,hk,h1⟩ | ⟨n,lv,hk,h1⟩
     ·rw [hk] at harg ⊢
      exact .inr (aZ (hlv lv h1) (fun _ _=>rfl) harg)
     ·rw [hk] at harg ⊢
      exact .inr (cy (hlv lv h1) (fun _ _=>rfl) (fun g _ hg=>⟨⟨by simp only [GZ] at hg;simp [hg],fun h=>by cases h⟩,rfl⟩) harg)
     ·rw [hk] at harg ⊢
      exact .inr (jh (hlv lv h1) (fun _ _=>rfl) (fun g _ hg=>⟨⟨by simp only [GZ] at hg;simp [hg],fun h=>by cases h⟩,rfl⟩) harg)
    ·refine .inl ?_
     rw [cJ,GN,Hx (by omega)];rfl
   ·obtain⟨i,hi,rfl⟩:=Ht.1 hp
    exact⟨hO b i hi,.inr (by rw [hi];simp)⟩
  refine gd hT hS hm b 0 hcode F _ _ w _ hinit (V:=av {tmps:=args++GQ (fn.ntmps - args.size) undef,defers:=[]}) (fun _ _=>rfl) _ _ hd _ (fun e a' w' hp=>?_)
  have fin:eN c w.heap.size (fun b=>ow b≠none) w F (av {tmps:=args++GQ (fn.ntmps - args.size) undef,defers:=[]}) (fun δ=>yC c δ some) (.ret rs us) a' w'→a'.defers=[]∧∃v,(results fn a'.tmps).run P w' = .ok v w'∧∃v',HH v = .returned v'∧∃F' R vs,v'=gS vs∧CallPost {pm:=pm,rm:=rm,f:=bM c fn} args rs us w F ow F' R vs w':=by
   rintro⟨⟨F',O',δ',hI',hk⟩,hV'⟩;obtain⟨rs',h1,h2,h3⟩:=gB hk;simp only [GL,Out.ret.injEq] at h3;obtain⟨rfl,rfl⟩:=h3;obtain⟨vs,g1,g2,g3,g4⟩:=qa (P:=P) hT hI' c.res rm rs' hokr h1;refine⟨hI'.df,gS vs,?_,_,rfl,F',fun b=>if w.heap.size≤b then(match O' b with
    | some (t,0)=>pQ c.res t 0
    | _=>none) else none,vs,rfl,?_⟩
   ·have hrun:(fn.results.mapM (lq a'.tmps)).run P w' = .ok vs.toArray w':=by
     rw [Array.mapM_eq_mapM_toList,←hres];simp [g1]
    have hrw:results fn a'.tmps=(do
      let vs ←fn.results.mapM (lq a'.tmps)
      pure (if h:vs.size=1 then vs[0] else .tuple vs)):=by
     unfold results;congr 1
    rw [hrw];simp only [Sem.run_bind,hrun,HE,Sem.run_pure];congr 1
    rcases vs with _ | ⟨y,_ | ⟨y',vs⟩⟩
    ·simp [gS]
    ·simp [gS]
    ·simp [gS]
   ·refine⟨hI'.os,hI'.tape,hI'.output,hI'.bb,fun b hb ho=>hI'.keep b hb (by simp [ho]),hI'.f0,fun b hb=>⟨hI'.fn b hb,(hI'.fl b hb).1,by simp only [(hI'.fl b hb).2];split<;>rfl⟩,fun b j hj=>?_,g2,g3,fun j=>?_,?_⟩
    ·split at hj
     case isFalse=>cases hj
     rename_i hB;refine⟨hB,?_⟩
     split at hj
     ·rename_i t he;exact(hI'.ol b _ he).1
     ·cases hj
    ·refine iT (fun hk g hg=>?_) (g4 j)
     obtain⟨z,lv,hk⟩:=hk;obtain⟨e1,t,e2,e3⟩:=hg;rw [if_pos e1];simp only [e3];have:=(kL c.res rm hokr j t 0 z lv hk e2).1;simpa using this
    ·rw [hios]
     refine vZ pm args.toList 0 hal (fun j hj hio=>?_)
     rw [GZ];have hkj:=hpn j hj;have hbj:nth δ' j ≠ .bad:=by
      refine h2 _ ?_
      rw [hios,kX];exact HB (by simpa using ri pm 0 j hj hio)
     have havj:av a' j=args.toList.getD j undef:=(hV' j (by rw [hkj];exact hio)).trans (hav j hj);have hlv:∀lv,lv≠1→∀b,FB F' w.heap.size lv b→FB F' 0 lv b:=fun lv h1 b hb=>by
      match lv,h1 with
      | 0,_=>exact hb
      | _+2,_=>exact hb
     refine⟨hbj,.inr ?_⟩
     rcases pA hpm j hj with ⟨lv,hk,h1⟩ | ⟨z,lv,hk,h1⟩ | ⟨n,lv,hk,h1⟩
     ·rw [hk] at hio;cases hio
     ·have h5:=hI'.own (hkj.trans hk) hbj
      rw [havj] at h5;rw [hk];exact cy (hlv lv h1) (fun _ _=>rfl) (fun _ _ _=>⟨trivial,rfl⟩) h5
     ·have h5:=hI'.box (hkj.trans hk) hbj
      rw [havj] at h5;rw [hk];exact jh (hlv lv h1) (fun _ _=>rfl) (fun _ _ _=>⟨trivial,rfl⟩) h5
  cases e with
  | normal=>exact fin hp
  | exit i =>
   obtain⟨⟨_,_,_,_,h⟩,_⟩:=hp;cases h
  | ret =>
   refine fin (fZ hp fun δ F O _ h=>?_)
   obtain⟨rs',h1,h2,h3⟩:=gB h;exact sw h1 h2 h3
  | _=>exact hp.elim
theorem yj (hT:okT P c.T=true) (hS:∀f S,ci c.S f=some S→aw c.G P f S) (hm:P.follows .mixedOrders=true) {f:FuncId} {fn:Func} (hf:P.funcs[f]?=some fn) (hname:(fn.name== "runtime.NumGoroutine")=false) {pm rm:List Kd} (hok:yZ c fn pm rm=true) (hres:c.res=fn.results.toList) :
  aw c.G P f {pm:=pm,rm:=rm,f:=bM c fn}:=by
 intro ds rs us hd args w F ow hgl ha hF hO o a next Q hn
 have hbody:∃b,fn.body=some b:=by
  have hd':bM c fn ds=some (.ret rs us):=hd;unfold bM at hd';cases hb:fn.body with
  | none=>rw [hb] at hd';cases hd'
  | some b=>exact⟨b,rfl⟩
 obtain⟨b,hb⟩:=hbody;have hrun:(callFunc f args).run P w = .ok (.enter f args) w:=by
  have h1:¬fn.name= "runtime.NumGoroutine":=by simpa using hname
  simp [callFunc,hf,h1,hb]
 rw [hrun,GX];refine Hi (BU hT hS hm hf hok hres hd hgl ha hF hO) (fun e w' he=>?_)
 obtain⟨v,rfl,F',R,vs,h1,h2⟩:=he;exact hn v w' ⟨F',R,vs,h1,h2⟩
end
end Go.V

namespace Go.V
set_option maxRecDepth 100000
def sl (s:List D) (i:Nat):D:=nth s i
def ifN (b:Bool) (t e:Option Out):Option Out :=
 match b with
 | true=>t
 | false=>e
theorem aB {P:Program} {G:List (Nat × (Obj→Prop))}:∀(f:Nat) (S:FS),ci ([]:List (Nat × FS)) f=some S→aw G P f S:=by
 intro f S h;cases h
theorem ac {P:Program} {G:List (Nat × (Obj→Prop))} {g:Nat} {S0:FS} {l:List (Nat × FS)} (h0:aw G P g S0) (h:∀(f:Nat) (S:FS),ci l f=some S→aw G P f S):∀(f:Nat) (S:FS),ci ((g,S0)::l) f=some S→aw G P f S:=by
 intro f S hl;simp only [ci] at hl;split at hl
 ·rename_i hb
  have:=ay.1 hb;subst this;cases hl;exact h0
 ·exact h f S hl
theorem aN {P:Program} {G G':List (Nat × (Obj→Prop))} {f:Nat} {S:FS} (h:∀p∈G,p∈G') (hm:aw G P f S):aw G' P f S :=
 fun ds rs us hd args w F ow hg=>hm ds rs us hd args w F ow fun p hp=>hg p (h p hp)
open Classical in
def At (R:Nat→List D→Option Out) (ds:List D):Option Out :=
 if h:∃n,(R n ds).isSome=true then R (Hg h) ds else none
theorem AU {R:Nat→List D→Option Out} {ds:List D} {r:Out} (h:At R ds=some r):∃n,R n ds=some r:=by
 unfold At at h;split at h
 ·exact⟨_,h⟩
 ·cases h
theorem DP {R:Nat→List D→Option Out} {ds:List D} {r:Out} (h:∀n o,R n ds=some o→o=r) (n:Nat) (hn:R n ds=some r):At R ds=some r:=by
 unfold At;have hx:∃n,(R n ds).isSome=true:=⟨n,by rw [hn];rfl⟩
 rw [dif_pos hx];obtain⟨o,ho⟩:=Ha.1 (Hy hx);rw [ho,h _ _ ho]
theorem yE {P:Program} {G:List (Nat × (Obj→Prop))} {f:Nat} {S:FS} (h:∀ds,S.f ds=none):aw G P f S:=by
 intro ds rs us hd;rw [h] at hd;cases hd
theorem Be {P:Program} {G:List (Nat × (Obj→Prop))} {f:Nat} {pm rm:List Kd} {R:Nat→List D→Option Out} (h:∀n,aw G P f {pm:=pm,rm:=rm,f:=R n}):aw G P f {pm:=pm,rm:=rm,f:=At R}:=by
 intro ds rs us hd args w F ow hg ha hF hO o a next Q hq
 obtain⟨n,hn⟩:=AU hd;refine h n ds rs us hn args w F ow hg ha hF hO o a next Q fun v w' hv=>?_
 obtain⟨F',R',vs,h1,h2⟩:=hv;exact hq v w' ⟨F',R',vs,h1,⟨h2.os,h2.tape,h2.output,h2.size,h2.keep,h2.f0,h2.fn,h2.rn,h2.len,h2.lenD,h2.res,h2.us⟩⟩
open Go.RowKit
set_option maxRecDepth 100000
section
variable {P:Program} {G:List (Nat × (Obj→Prop))}
theorem dy {f:FuncId} {S:FS} (he:∀args w,(callFunc f args).run P w = .ok (.enter f args) w)
  (h:∀ds rs us,S.f ds=some (.ret rs us)→∀(args:Array Value) (w:World) (F:Nat→Prop) (ow:Nat→Option Nat),gOk G w F→dG w F ow 0 S.pm ds args.toList→(∀b,F b→b<w.heap.size∧ow b=none)→(∀b i,ow b=some i→b<w.heap.size) →
   Calls P f args w fun e w'=>∃v,e = .returned v∧∃F' R vs,v=gS vs∧CallPost S args rs us w F ow F' R vs w'):aw G P f S:=by
 intro ds rs us hd args w F ow hg ha hF hO o a next Q hn
 rw [he,GX];refine Hi (h ds rs us hd args w F ow hg ha hF hO) (fun e w' hv=>?_)
 obtain⟨v,rfl,F',R,vs,h1,h2⟩:=hv;exact hn v w' ⟨F',R,vs,h1,h2⟩
theorem vz {w:World} {F:Nat→Prop}:∀(ks:List Kd) (ys:List Value),(ks.all fun k=>!nC k)=true→ks.length=ys.length→kR w F ks [] ys
 | [],[],_,_=>trivial
 | k::ks,y::ys,h,hl=>by
  simp only [HA,GK,Hn] at h;simp only [kR,h.1];exact vz ks ys h.2 (by simpa using hl)
 | [],_::_,_,hl=>by cases hl
 | _::_,[],_,hl=>by cases hl
theorem sZ {w:World} {F:Nat→Prop} {ow:Nat→Option Nat}:∀(ks:List Kd) (ds:List D) (ys:List Value) (i:Nat),dG w F ow i ks ds ys→ds.length=ks.length∧ys.length=ks.length
 | [],[],[],_,_=>⟨rfl,rfl⟩
 | k::ks,d::ds,y::ys,i,h=>by
  obtain⟨h1,h2⟩:=sZ ks ds ys (i+1) h.2;exact⟨by simp [h1],by simp [h2]⟩
 | [],_::_,_,_,h=>h.elim
 | [],[],_::_,_,h=>h.elim
 | _::_,[],_,_,h=>by cases ‹List Value›<;>exact h.elim
 | _::_,_::_,[],_,h=>h.elim
theorem tB {w:World} {F:Nat→Prop} {ow:Nat→Option Nat} {k:Kd} {ds:List D} {l:List Value} (h:dG w F ow 0 [k] ds l):∃d y,ds=[d]∧l=[y]∧jy w F (fun g=>ow g=some 0) k d y:=by
 match ds,l,h with
 | [d],[y],h=>exact⟨d,y,rfl,rfl,h.1⟩
 | [],l,h=>cases l<;>exact h.elim
 | d::d'::ds,l,h =>
  match l,h with
  | [],h=>exact h.elim
  | [y],h=>exact h.2.elim
  | y::y'::ys,h=>exact h.2.elim
 | [d],[],h=>exact h.elim
 | [d],y::y'::ys,h=>exact h.2.elim
theorem td {w:World} {F:Nat→Prop} {ow:Nat→Option Nat} {k k':Kd} {ds:List D} {l:List Value} (h:dG w F ow 0 [k,k'] ds l) :
  ∃d y d' y',ds=[d,d']∧l=[y,y']∧jy w F (fun g=>ow g=some 0) k d y∧jy w F (fun g=>ow g=some 1) k' d' y':=by
 obtain⟨h1,h2⟩:=sZ _ _ _ _ h
 match ds,l,h1,h2,h with
 | [d,d'],[y,y'],_,_,h=>exact⟨d,y,d',y',rfl,rfl,h.1,h.2.1⟩
theorem yW {w:World} {F own:Nat→Prop} {lv:Nat} {x y:Value} (h:jy w F own (.dat lv) (.v x) y):y=x∧flat x=true:=by
 rcases h with h | h
 ·cases h
 ·exact iL.1 h
theorem uo {S:FS} {args:Array Value} {rs:List D} {vs:List Value} {w w':World} {F:Nat→Prop} {ow:Nat→Option Nat} (R:Nat→Option Nat) (hB:Below w.heap.size w w') (hF:∀b,F b→b<w.heap.size∧ow b=none)
  (hR:∀b j,R b=some j→w.heap.size≤b∧b<w'.heap.size) (hio:(S.pm.all fun k=>!nC k)=true) (hl:S.pm.length=args.size) (h1:vs.length=S.rm.length) (h2:rs.length=S.rm.length)
  (hres:∀j,ya w' F w.heap.size (fun g=>R g=some j) (ak S.rm j) (nth rs j) (vs.getD j undef)):CallPost S args rs [] w F ow F R vs w' :=
 ⟨hB.os,hB.tape,hB.output,hB.size,fun b hb _=>hB.block b hb,fun _ h=>h,fun b hb=>⟨.inl hb,HC (hF b hb).1 hB.size,by
  cases h:R b with
  | none=>rfl
  | some j=>exact absurd (hR b j h).1 (Nat.not_le.2 (hF b hb).1)⟩,hR,h1,h2,hres,vz _ _ hio (by simpa using hl)⟩
theorem iJ {S:FS} {args:Array Value} {w w':World} {F:Nat→Prop} {ow:Nat→Option Nat} (hB:Below w.heap.size w w') (hF:∀b,F b→b<w.heap.size∧ow b=none) (hio:(S.pm.all fun k=>!nC k)=true) (hl:S.pm.length=args.size)
  (rs:List D) (vs:List Value) (hrm:S.rm=rs.map fun _=>.dat 0) (hv:vs.length=rs.length) (h:∀(j:Nat) (d:D),rs[j]?=some d→∃y:Value,vs[j]?=some y∧bw w' (fun _=>False) d y):CallPost S args rs [] w F ow F (fun _=>none) vs w':=by
 refine uo _ hB hF (fun b j h=>by cases h) hio hl (by rw [hrm,hv];simp) (by rw [hrm];simp) (fun j=>?_)
 rw [cJ,GN];cases hj:rs[j]? with
 | none=>exact .inl rfl
 | some d =>
  obtain⟨y,h1,h2⟩:=h j d hj;have hk:ak S.rm j = .dat 0:=by
   rw [hrm];clear hrm h hv h1 h2;induction rs generalizing j with
   | nil=>simp at hj
   | cons r rs ih =>
    cases j with
    | zero=>rfl
    | succ j=>exact ih j (by simpa using hj)
  refine .inr ?_
  rw [hk,GN,h1];exact aZ (fun b hb=>hb.elim) (fun _ _=>rfl) h2
theorem uu {w:World} {F:Nat→Prop}:∀(l:List ByteArray),bf w F (l.map T) (l.map Ho)
 | []=>aD.2 rfl
 | s::l=>aq.2 ⟨[.string s],l.map Ho,rfl,by simp only [RepC];exact⟨trivial,rfl⟩,uu l⟩
theorem yz {w':World} {F own:Nat→Prop} {A c e:Nat} {cur:Array Value} {l:List ByteArray} (hb:w'.heap[A]?=some (.cells cur e (0,0))) (hc:l.length≤c) (hs:c≤cur.size) (hl:∀(i:Nat) (u:Value),(l.map Ho)[i]?=some u→cur[i]?=some u) (ho:own A) :
  fw w' F own 1 (.arr 1 (l.map T)) (.slice (some ⟨A,0,none⟩) l.length c):=by
 refine⟨l.map T,rfl,fun x hx=>?_,.inr ⟨A,0,c,l.map Ho,cur,e,by simp,by simpa using hc,hb,by omega,uu l,fun i u hu=>by simpa using hl i u hu,ho⟩⟩
 obtain⟨s,_,rfl⟩:=List.mem_map.1 hx;rfl
end
end Go.V

namespace Go.V
open Go.RowKit Go.Shelf
set_option maxRecDepth 100000
section
variable {P:Program} {ρ:Ren} {G:List (Nat × (Obj→Prop))}
def qd (o:Obj):Prop:=∃e fr,o = .cells (Hb.map fun z=>HP .u64 z).toArray e fr
def EV (g:Nat) (o:Obj):Prop:=∃m,∀w:World,w.heap[g]?=some o→w.cell? ⟨g,0,none⟩=some (.int .i64 m)
theorem BF {w:World} {g:Nat} {m:Int} (h:w.cell? ⟨g,0,none⟩=some (.int .i64 m)):∃o,w.heap[g]?=some o∧EV g o:=by
 cases ho:w.heap[g]? with
 | none=>simp [HG,ho] at h
 | some o=>exact⟨o,rfl,m,fun w' hw'=>(World.cell?_of_block (w:=w) (hw'.trans ho.symm)).trans h⟩
theorem yV {w:World} {g:Nat} (hn:P.globalNamed "internal/strconv.uint64pow10"=some g) (h:Hh P w "internal/strconv.uint64pow10" .u64 Hb):∃o,w.heap[g]?=some o∧qd o:=by
 simp only [Hh,HJ,hn,Hp] at h;split at h
 ·rename_i cs e fr ho
  cases h;exact⟨_,ho,e,fr,rfl⟩
 ·cases h
theorem EA {w:World} {F:Nat→Prop} {g:Nat} (hg:gOk G w F) (hm:(g,qd)∈G) (hn:P.globalNamed "internal/strconv.uint64pow10"=some g):Hh P w "internal/strconv.uint64pow10" .u64 Hb:=by
 obtain⟨_,o,ho,e,fr,rfl⟩:=hg _ hm;simp [Hh,HJ,hn,ho]
theorem Dh {args:Array Value} {y y':Value} (h:args.toList=[y,y']):args=#[y,y']:=by
 apply Array.ext';rw [h]
theorem Cv {args:Array Value} {y:Value} (h:args.toList=[y]):args=#[y]:=by
 apply Array.ext';rw [h]
def ua:List D→Option Out
 | [.v (.int .i64 n)]=>if -9223372036854775808≤n∧n≤9223372036854775807 then some (.ret [T ⟨(Lib.itoa n).toArray⟩] []) else none
 | _=>none
@[reducible] def Dq:FS:={pm:=[.dat 0],rm:=[.dat 0],f:=ua}
theorem Fo (L:Go.Proofs.LaysM.n171 P ρ) {f:Nat} (hf:ρ.f 171=f) {g:Nat} (hm:(g,qd)∈G) (hn:P.globalNamed "internal/strconv.uint64pow10"=some g):aw G P f Dq:=by
 subst hf;have he:∀args w,(callFunc (ρ.f 171) args).run P w = .ok (.enter (ρ.f 171) args) w:=GS L.f171 (by kernel_rfl) rfl;refine dy he fun ds rs us hd args w F ow hg ha hF _=>?_
 obtain⟨d,y,rfl,h2,h3⟩:=tB ha;replace hd:ua [d]=some (.ret rs us):=hd;unfold ua at hd;split at hd
 case h_2=>cases hd
 rename_i n e;cases e;split at hd
 case isFalse=>cases hd
 rename_i hr;cases hd;obtain⟨rfl,_⟩:=yW h3;rw [Cv h2];refine(Go.Proofs.Any.strconv_Itoa L n hr.1 hr.2 w (EA hg hm hn)).mono ?_
 rintro e w' ⟨rfl,k,os,rfl⟩;refine⟨_,rfl,F,_,[_],rfl,iJ (below_itoa w k os) hF rfl rfl [_] [_] rfl rfl fun j d hj=>?_⟩
 match j,hj with
 | 0,hj =>
  simp only [GM,GL] at hj;subst hj;exact⟨_,rfl,bc rfl⟩
where
 below_itoa (w:World) (k:Nat) (os:Array Obj):Below w.heap.size w (HD (w.drewN k) os) :=
  ⟨rfl,rfl,rfl,by simp [HD,World.drewN],fun b hb=>by simp [HD,World.drewN,GV hb]⟩
def vD:List D→Option Out
 | [.v (.string s)]=>if s.size≤281474976710656 then(match Lib.atoiAll s.data.toList with
  | .ok v=>some (.ret [I v,.v .nilIface] [])
  | .range=>some (.ret [I (Lib.atoiSat s.data.toList),.ifc] [])
  | _=>some (.ret [I 0,.ifc] [])) else none
 | _=>none
@[reducible] def BI:FS:={pm:=[.dat 0],rm:=[.dat 0,.dat 0],f:=vD}
def ru (o:Obj):Prop:=∃v cs e fr,o = .cells cs e fr∧cs[0]?=some v∧(v = .nilIface∨∃te pe,v = .iface te pe)
theorem ym {w:World} {g:Nat} {name:String} {tp:TypeId} {p:Value} (hn:P.globalNamed name=some g) (h:w.var? P name=some #[.iface tp p]):∃o,w.heap[g]?=some o∧ru o:=by
 simp only [HJ,hn,Hp] at h;split at h
 ·rename_i cs e fr ho
  cases h;exact⟨_,ho,.iface tp p,_,e,fr,rfl,rfl,.inr ⟨tp,p,rfl⟩⟩
 ·cases h
theorem zD {w:World} {F:Nat→Prop} {g:Nat} (hg:gOk G w F) (hm:(g,ru)∈G):∃v,w.cell? ⟨g,0,none⟩=some v∧(v = .nilIface∨∃te pe,v = .iface te pe):=by
 obtain⟨_,o,ho,v,cs,e,fr,rfl,hc,hv⟩:=hg _ hm;exact⟨v,by simp [HG,ho,hc],hv⟩
theorem Fl (L:Go.Proofs.LaysC.n172 P ρ) {f:Nat} (hf:ρ.f 172=f) {g15 g16:Nat} (h15:ρ.g 15=g15) (h16:ρ.g 16=g16) (hs:(g15,ru)∈G) (hr:(g16,ru)∈G):aw G P f BI:=by
 subst hf;have he:∀args w,(callFunc (ρ.f 172) args).run P w = .ok (.enter (ρ.f 172) args) w:=GS L.f172 (by kernel_rfl) rfl;refine dy he fun ds rs us hd args w F ow hg ha hF _=>?_
 obtain⟨d,y,rfl,h2,h3⟩:=tB ha;subst h15 h16;replace hd:vD [d]=some (.ret rs us):=hd;unfold vD at hd;split at hd
 case h_2=>cases hd
 rename_i s e;cases e;split at hd
 case isFalse=>cases hd
 rename_i hz;obtain⟨rfl,_⟩:=yW h3;rw [Cv h2];split at hd
 ·rename_i v hv
  cases hd;refine(Go.Proofs.Any.strconv_Atoi_ok L s (by omega) v hv w).mono ?_
  rintro e w' ⟨rfl,hw⟩;refine⟨_,rfl,F,_,[_,_],rfl,iJ ?_ hF rfl rfl [_,_] [_,_] rfl rfl fun j d hj=>?_⟩
  ·rcases hw with rfl | ⟨t,rfl⟩
   ·exact Below.refl _ _
   ·exact Go.Lib.bytesWorld_below w _ t
  ·match j,hj with
   | 0,hj=>simp only [GM,GL] at hj;subst hj;exact⟨_,rfl,bc rfl⟩
   | 1,hj=>simp only [Hf,GM,GL] at hj;subst hj;exact⟨_,rfl,bc rfl⟩
 ·rename_i hv
  cases hd;obtain⟨v,hc,hv'⟩:=zD hg hr;refine(Go.Proofs.Any.strconv_Atoi_range L s hz hv v w hc hv').mono ?_
  rintro e w' ⟨N,rfl,_,_,hB⟩;refine⟨_,rfl,F,_,[_,_],rfl,iJ hB hF rfl rfl [_,_] [_,_] rfl rfl fun j d hj=>?_⟩
  match j,hj with
  | 0,hj=>simp only [GM,GL] at hj;subst hj;exact⟨_,rfl,bc rfl⟩
  | 1,hj=>simp only [Hf,GM,GL] at hj;subst hj;exact⟨_,rfl,_,_,rfl⟩
 ·rename_i h1 h2
  cases hv:Lib.atoiAll s.data.toList with
  | ok v=>exact(h1 v hv).elim
  | range=>exact(h2 hv).elim
  | _ =>
   cases hd;obtain⟨v,hc,hv'⟩:=zD hg hs;refine(Go.Proofs.Any.strconv_Atoi_syntax L s hz hv v w hc hv').mono ?_
   rintro e w' ⟨N,rfl,_,_,hB⟩;refine⟨_,rfl,F,_,[_,_],rfl,iJ hB hF rfl rfl [_,_] [_,_] rfl rfl fun j d hj=>?_⟩
   match j,hj with
   | 0,hj=>simp only [GM,GL] at hj;subst hj;exact⟨_,rfl,bc rfl⟩
   | 1,hj=>simp only [Hf,GM,GL] at hj;subst hj;exact⟨_,rfl,_,_,rfl⟩
end
end Go.V

namespace Go.V
open Go.RowKit Go.Shelf
set_option maxRecDepth 100000
section
variable {P:Program} {ρ:Ren} {G:List (Nat × (Obj→Prop))}
theorem lu {f:FuncId} {S:FS} (he:∀args w,(callFunc f args).run P w = .ok (.enter f args) w) (hm:aw G P f S) {ds rs us:List D} (hd:S.f ds=some (.ret rs us)) {args:Array Value} {w:World} {F:Nat→Prop} {ow:Nat→Option Nat}
  (hgl:gOk G w F) (ha:dG w F ow 0 S.pm ds args.toList) (hF:∀b,F b→b<w.heap.size∧ow b=none) (hO:∀b i,ow b=some i→b<w.heap.size) :
  Calls P f args w fun e w'=>∃v,e = .returned v∧∃F' R vs,v=gS vs∧CallPost S args rs us w F ow F' R vs w':=by
 have h2:=hm ds rs us hd args w F ow hgl ha hF hO {(default:Oper) with dst:=some 0} {tmps:=#[undef],defers:=[]} (fun a w'=>∃F' R vs,a.tmps.getD 0 undef=gS vs∧CallPost S args rs us w F ow F' R vs w') (fun _ _ _=>False) (fun v w' h=>by
  obtain⟨F',R,vs,rfl,h⟩:=h;exact⟨F',R,vs,by simp [HK],h⟩)
 rw [he,GX] at h2;refine Hi h2 fun e w' he=>?_
 cases e with
 | returned v =>
  obtain⟨F',R,vs,h3,h4⟩:=he;exact⟨v,rfl,F',R,vs,by simpa [HK] using h3,h4⟩
 | panicked c=>exact he.elim
 | outgrown=>obtain⟨_,_,h⟩:=he;exact h.elim
def fq (k:Nat) (p:Nat→Bool):List D→Option Out
 | [.v (.string s),.clo k' []]=>if k'=k∧s.size≤4294967296 then some (.ret [.arr 1 ((Lib.goFieldsP p s).map T)] []) else none
 | _=>none
@[reducible] def pB (k:Nat) (p:Nat→Bool):FS:={pm:=[.dat 0,.dat 2],rm:=[.own 1 0 false],f:=fq k p}
theorem wj (L:Go.Proofs.Lays.n229 P ρ) {f:Nat} (hf:ρ.f 229=f) {k:Nat} {Sk:FS} (ek:∀args w,(callFunc k args).run P w = .ok (.enter k args) w) (Mk:aw G P k Sk) {p:Nat→Bool} (hpm:Sk.pm=[.dat 0]) (hrm:Sk.rm=[.dat 0])
  (hp:∀x:Nat,x≤1114111→Sk.f [.v (.int .i32 x)]=some (.ret [B (p x)] []))
  (hi154:(P.info? (ρ.t 154)).map (fun i=>(i.zero,i.size,i.bytes))=some (some (.agg #[.int .i64 0,.int .i64 0]),2,16))
  (hi9:(P.info? (ρ.t 9)).map (fun i=>(i.zero,i.size,i.bytes))=some (some (.string ⟨#[]⟩),1,16)):aw G P f (pB k p):=by
 subst hf;have he:∀args w,(callFunc (ρ.f 229) args).run P w = .ok (.enter (ρ.f 229) args) w:=GS L.f229 (by kernel_rfl) rfl;refine dy he fun ds rs us hd args w F ow hg ha hF _=>?_
 obtain⟨d,y,d',y',rfl,h2,h3,h4⟩:=td ha;replace hd:fq k p [d,d']=some (.ret rs us):=hd;unfold fq at hd;split at hd
 case h_2=>cases hd
 rename_i s k' e;cases e;split at hd
 case isFalse=>cases hd
 rename_i hz;obtain⟨rfl,hz⟩:=hz;cases hd;obtain⟨rfl,_⟩:=yW h3;rcases h4 with h4 | h4
 ·cases h4
 simp only [bw,RepC] at h4;obtain⟨us,hy,hr⟩:=h4;rw [aD.1 hr] at hy;simp only [List.cons.injEq,and_true] at hy;subst hy;rw [Dh h2];have hpred:Go.Proofs.PredGrows P k' #[] p w:=by
  intro W x hx hB;refine(lu ek Mk (hp x hx) (args:=#[Go.Proofs.encR x]++#[]) (w:=W) (F:=F) (ow:=fun _=>none) (pP (fun _ h=>h) (fun b hb=>hB.block b (hF b hb).1) hg) ?_ (fun b hb=>⟨HC (hF b hb).1 hB.size,rfl⟩) (fun b i h=>by cases h)).mono ?_
  ·rw [hpm]
   exact⟨.inr (iL.2 ⟨rfl,rfl⟩),trivial⟩
  ·rintro e w' ⟨v,rfl,F',R,vs,rfl,hpost⟩
   have hl:=hpost.len;rw [hrm] at hl;obtain⟨u,rfl⟩:=List.length_eq_one_iff.1 hl;have h0:=hpost.res 0;rw [hrm] at h0;simp only [ak,nth,GU] at h0;rcases h0 with h0 | h0
   ·cases h0
   exact⟨by rw [gS,(iL.1 h0).1],⟨hpost.os,hpost.tape,hpost.output,hpost.size,fun b hb=>hpost.keep b hb rfl⟩⟩
 refine(Go.Proofs.Any.strings_FieldsFunc_grows L k' #[] ek p s w hz hpred hi154 hi9).mono ?_
 rintro e w' ⟨A,rfl,hA,hown,hB⟩;obtain⟨_,hown⟩:=hown;rcases hown with ⟨h,_⟩ | ⟨g,cap,cur,h5,h6,h7,h8,_,h10,h11⟩
 ·cases h
 cases h5;refine⟨_,rfl,F,fun b=>if b=A then some 0 else none,[_],rfl,uo _ hB hF (fun b j hb=>?_) rfl rfl rfl rfl fun j=>?_⟩
 ·split at hb
  ·rename_i e;subst e;exact⟨hA,(Hm.1 h7).1⟩
  ·cases hb
 ·match j with
  | 0 =>
   refine .inr (yz (A:=A) h7 h8 (by omega) (fun i u hu=>?_) ⟨by simp,hA⟩)
   rw [←h11,List.getElem?_take] at hu;split at hu
   ·simpa using hu
   ·cases hu
  | j+1=>exact .inl rfl
end
end Go.V

namespace Go.V
open Go.RowKit Go.Shelf
set_option maxRecDepth 100000
section
variable {P:Program} {ρ:Ren} {G:List (Nat × (Obj→Prop))}
def iF:List D→Option Out
 | [.v (.string s),.v (.string p)]=>if (s.size<4294967281∧p.size<4294967281)∧(s.data.toList.all fun b=>decide (b.toNat<128))=true∧(p.data.toList.all fun b=>decide (b.toNat<128))=true then some (.ret [I (Lib.indexAny s.data.toList p.data.toList)] []) else none
 | _=>none
@[reducible] def tT:FS:={pm:=[.dat 0,.dat 0],rm:=[.dat 0],f:=iF}
theorem yL (L:Go.Proofs.Lays.n153 P ρ) (h116:(P.info? (ρ.t 116)).map (fun i=>(i.zero,i.size))=some (some (.agg (GQ 256 (.bool false))),256)) {f:Nat} (hf:ρ.f 153=f):aw G P f tT:=by
 subst hf;have he:∀args w,(callFunc (ρ.f 153) args).run P w = .ok (.enter (ρ.f 153) args) w:=GS L.f153 (by kernel_rfl) rfl;refine dy he fun ds rs us hd args w F ow hg ha hF _=>?_
 obtain⟨d,y,d',y',rfl,h2,h3,h4⟩:=td ha;replace hd:iF [d,d']=some (.ret rs us):=hd;unfold iF at hd;split at hd
 case h_2=>cases hd
 rename_i s p e;cases e;split at hd
 case isFalse=>cases hd
 rename_i hz;cases hd;obtain⟨rfl,_⟩:=yW h3;obtain⟨rfl,_⟩:=yW h4;rw [Dh h2];refine(Go.Proofs.Any.strings_IndexAny_laid L h116 s p w hz.1.1 hz.1.2 (Go.Proofs.ascii_of_all hz.2.1) (Go.Proofs.ascii_of_all hz.2.2)).mono ?_
 rintro e w' ⟨rfl,hB⟩;refine⟨_,rfl,F,_,[_],rfl,iJ hB hF rfl rfl [_] [_] rfl rfl fun j d hj=>?_⟩
 match j,hj with
 | 0,hj=>simp only [GM,GL] at hj;subst hj;exact⟨_,rfl,bc rfl⟩
def fV:List D→Option Out
 | [.v (.string s),.v (.int .u8 c)]=>some (.ret [I (Lib.indexByte s.data.toList c.toNat.toUInt8)] [])
 | _=>none
@[reducible] def rH:FS:={pm:=[.dat 0,.dat 0],rm:=[.dat 0],f:=fV}
theorem xy (L:Go.Proofs.Lays.n137 P ρ) {f:Nat} (hf:ρ.f 137=f):aw G P f rH:=by
 subst hf;have he:∀args w,(callFunc (ρ.f 137) args).run P w = .ok (.enter (ρ.f 137) args) w:=GS L.f137 (by kernel_rfl) rfl;refine dy he fun ds rs us hd args w F ow hg ha hF _=>?_
 obtain⟨d,y,d',y',rfl,h2,h3,h4⟩:=td ha;replace hd:fV [d,d']=some (.ret rs us):=hd;unfold fV at hd;split at hd
 case h_2=>cases hd
 rename_i s c e;cases e;cases hd;obtain⟨rfl,_⟩:=yW h3;obtain⟨rfl,_⟩:=yW h4;rw [Dh h2];refine(Go.Proofs.Any.strings_IndexByte L s c w).mono ?_
 rintro e w' ⟨rfl,rfl⟩;refine⟨_,rfl,F,_,[_],rfl,iJ (Below.refl _ _) hF rfl rfl [_] [_] rfl rfl fun j d hj=>?_⟩
 match j,hj with
 | 0,hj=>simp only [GM,GL] at hj;subst hj;exact⟨_,rfl,bc rfl⟩
end
end Go.V

namespace Go.Proofs
open Go.Shelf
def Tryz.lays137_ren:Hc:=⟨fun | 137=>59 | 217=>99 | 266=>121 | n=>n,fun | 9=>9 | 5=>5 | 3=>3 | n=>n,fun | n=>n⟩
theorem Tryz.lays137:Go.Proofs.Lays.n137 Tryz.prog Tryz.lays137_ren:={
 mixed:=by kernel_rfl
 f137:=Tryz.func59.trans (congrArg some (by kernel_rfl))
 f217:=Tryz.func99.trans (congrArg some (by kernel_rfl))
 f266:=Tryz.func121.trans (congrArg some (by kernel_rfl))
 t3:=Tryz.underlying3
 a3:=Tryz.isAgg3
 z3:=Tryz.sizeOf3
 v3:=Tryz.zeroValue3
 t5:=Tryz.underlying5
 a5:=Tryz.isAgg5
 z5:=Tryz.sizeOf5
 v5:=Tryz.zeroValue5
 t9:=Tryz.underlying9
 a9:=Tryz.isAgg9
 z9:=Tryz.sizeOf9
 v9:=Tryz.zeroValue9}
def Tryz.laysM171_ren:Hc:=⟨fun | 171=>80 | 243=>112 | 246=>142 | 283=>155 | 284=>156 | 285=>157 | 286=>158 | 129=>166 | 317=>165 | 318=>167 | 319=>168 | 320=>169 | 337=>172 | 338=>173 | n=>n,fun | 3=>3 | 9=>9 | 2=>2 | 4=>4 | 171=>160 | 0=>0 | 53=>71 | 37=>22 | 5=>5 | 173=>163 | 212=>174 | 51=>175 | 20=>20 | 213=>176 | 46=>137 | 232=>183 | 233=>184 | n=>n,fun | 17=>3 | 18=>4 | 19=>5 | n=>n⟩
theorem Tryz.laysM171:Go.Proofs.LaysM.n171 Tryz.prog Tryz.laysM171_ren:={
 mixed:=by kernel_rfl
 f129:=Tryz.func166.trans (congrArg some (by kernel_rfl))
 f171:=Tryz.func80.trans (congrArg some (by kernel_rfl))
 f243:=Tryz.func112.trans (congrArg some (by kernel_rfl))
 f246:=Tryz.func142.trans (congrArg some (by kernel_rfl))
 f283:=Tryz.func155.trans (congrArg some (by kernel_rfl))
 f284:=Tryz.func156.trans (congrArg some (by kernel_rfl))
 f285:=Tryz.func157.trans (congrArg some (by kernel_rfl))
 f286:=Tryz.func158.trans (congrArg some (by kernel_rfl))
 f317:=Tryz.func165.trans (congrArg some (by kernel_rfl))
 f318:=Tryz.func167.trans (congrArg some (by kernel_rfl))
 f319:=Tryz.func168.trans (congrArg some (by kernel_rfl))
 f320:=Tryz.func169.trans (congrArg some (by kernel_rfl))
 f337:=Tryz.func172.trans (congrArg some (by kernel_rfl))
 f338:=Tryz.func173.trans (congrArg some (by kernel_rfl))
 t0:=Tryz.underlying0
 a0:=Tryz.isAgg0
 z0:=Tryz.sizeOf0
 v0:=Tryz.zeroValue0
 t2:=Tryz.underlying2
 a2:=Tryz.isAgg2
 z2:=Tryz.sizeOf2
 v2:=Tryz.zeroValue2
 t3:=Tryz.underlying3
 a3:=Tryz.isAgg3
 z3:=Tryz.sizeOf3
 v3:=Tryz.zeroValue3
 t4:=Tryz.underlying4
 a4:=Tryz.isAgg4
 z4:=Tryz.sizeOf4
 v4:=Tryz.zeroValue4
 t5:=Tryz.underlying5
 a5:=Tryz.isAgg5
 z5:=Tryz.sizeOf5
 v5:=Tryz.zeroValue5
 t9:=Tryz.underlying9
 a9:=Tryz.isAgg9
 z9:=Tryz.sizeOf9
 v9:=Tryz.zeroValue9
 t20:=Tryz.underlying20
 a20:=Tryz.isAgg20
 z20:=Tryz.sizeOf20
 v20:=Tryz.zeroValue20
 t37:=Tryz.underlying22
 a37:=Tryz.isAgg22
 z37:=Tryz.sizeOf22
 v37:=Tryz.zeroValue22
 t46:=Tryz.underlying137
 a46:=Tryz.isAgg137
 z46:=Tryz.sizeOf137
 v46:=Tryz.zeroValue137
 t51:=Tryz.underlying175
 a51:=Tryz.isAgg175
 z51:=Tryz.sizeOf175
 v51:=Tryz.zeroValue175
 t53:=Tryz.underlying71
 a53:=Tryz.isAgg71
 z53:=Tryz.sizeOf71
 v53:=Tryz.zeroValue71
 t171:=Tryz.underlying160
 a171:=Tryz.isAgg160
 z171:=Tryz.sizeOf160
 v171:=Tryz.zeroValue160
 t173:=Tryz.underlying163
 a173:=Tryz.isAgg163
 z173:=Tryz.sizeOf163
 v173:=Tryz.zeroValue163
 t212:=Tryz.underlying174
 a212:=Tryz.isAgg174
 z212:=Tryz.sizeOf174
 v212:=Tryz.zeroValue174
 t213:=Tryz.underlying176
 a213:=Tryz.isAgg176
 z213:=Tryz.sizeOf176
 t232:=Tryz.underlying183
 a232:=Tryz.isAgg183
 z232:=Tryz.sizeOf183
 v232:=Tryz.zeroValue183
 t233:=Tryz.underlying184
 a233:=Tryz.isAgg184
 z233:=Tryz.sizeOf184
 v233:=Tryz.zeroValue184
 g17:=by kernel_rfl
 g18:=by kernel_rfl
 g19:=by kernel_rfl
 i0:=by kernel_rfl
 i2:=by kernel_rfl
 i3:=by kernel_rfl
 i4:=by kernel_rfl
 i5:=by kernel_rfl
 i9:=by kernel_rfl
 i20:=by kernel_rfl
 i37:=by kernel_rfl
 i46:=by kernel_rfl
 i51:=by kernel_rfl
 i53:=by kernel_rfl
 i171:=by kernel_rfl
 i173:=by kernel_rfl
 i212:=by kernel_rfl
 i232:=by kernel_rfl
 i233:=by kernel_rfl
 m17:=by kernel_rfl
 m18:=by kernel_rfl
 m19:=by kernel_rfl}
def Tryz.laysC172_ren:Hc:=⟨fun | 172=>98 | 244=>119 | 245=>120 | 247=>145 | 279=>146 | 280=>147 | 281=>148 | 282=>149 | 287=>161 | 316=>162 | 171=>80 | 205=>163 | 321=>170 | 322=>171 | 243=>112 | 246=>142 | 283=>155 | 284=>156 | 285=>157 | 286=>158 | 129=>166 | 317=>165 | 318=>167 | 319=>168 | 320=>169 | 337=>172 | 338=>173 | n=>n,fun | 9=>9 | 3=>3 | 75=>117 | 76=>118 | 4=>4 | 5=>5 | 167=>154 | 37=>22 | 0=>0 | 85=>155 | 2=>2 | 168=>157 | 53=>71 | 175=>167 | 46=>137 | 210=>171 | 127=>153 | 145=>181 | 143=>179 | 21=>21 | 171=>160 | 173=>163 | 212=>174 | 51=>175 | 20=>20 | 213=>176 | 232=>183 | 233=>184 | 80=>106 | n=>n,fun | 15=>1 | 16=>2 | 17=>3 | 18=>4 | 19=>5 | n=>n⟩
theorem Tryz.laysC172:Go.Proofs.LaysC.n172 Tryz.prog Tryz.laysC172_ren:={
 mixed:=by kernel_rfl
 f129:=Tryz.func166.trans (congrArg some (by kernel_rfl))
 f171:=Tryz.func80.trans (congrArg some (by kernel_rfl))
 f172:=Tryz.func98.trans (congrArg some (by kernel_rfl))
 f205:=Tryz.func163.trans (congrArg some (by kernel_rfl))
 f243:=Tryz.func112.trans (congrArg some (by kernel_rfl))
 f244:=Tryz.func119.trans (congrArg some (by kernel_rfl))
 f245:=Tryz.func120.trans (congrArg some (by kernel_rfl))
 f246:=Tryz.func142.trans (congrArg some (by kernel_rfl))
 f247:=Tryz.func145.trans (congrArg some (by kernel_rfl))
 f279:=Tryz.func146.trans (congrArg some (by kernel_rfl))
 f280:=Tryz.func147.trans (congrArg some (by kernel_rfl))
 f281:=Tryz.func148.trans (congrArg some (by kernel_rfl))
 f282:=Tryz.func149.trans (congrArg some (by kernel_rfl))
 f283:=Tryz.func155.trans (congrArg some (by kernel_rfl))
 f284:=Tryz.func156.trans (congrArg some (by kernel_rfl))
 f285:=Tryz.func157.trans (congrArg some (by kernel_rfl))
 f286:=Tryz.func158.trans (congrArg some (by kernel_rfl))
 f287:=Tryz.func161.trans (congrArg some (by kernel_rfl))
 f316:=Tryz.func162.trans (congrArg some (by kernel_rfl))
 f317:=Tryz.func165.trans (congrArg some (by kernel_rfl))
 f318:=Tryz.func167.trans (congrArg some (by kernel_rfl))
 f319:=Tryz.func168.trans (congrArg some (by kernel_rfl))
 f320:=Tryz.func169.trans (congrArg some (by kernel_rfl))
 f321:=Tryz.func170.trans (congrArg some (by kernel_rfl))
 f322:=Tryz.func171.trans (congrArg some (by kernel_rfl))
 f337:=Tryz.func172.trans (congrArg some (by kernel_rfl))
 f338:=Tryz.func173.trans (congrArg some (by kernel_rfl))
 t0:=Tryz.underlying0
 a0:=Tryz.isAgg0
 z0:=Tryz.sizeOf0
 v0:=Tryz.zeroValue0
 t2:=Tryz.underlying2
 a2:=Tryz.isAgg2
 z2:=Tryz.sizeOf2
 v2:=Tryz.zeroValue2
 t3:=Tryz.underlying3
 a3:=Tryz.isAgg3
 z3:=Tryz.sizeOf3
 v3:=Tryz.zeroValue3
 t4:=Tryz.underlying4
 a4:=Tryz.isAgg4
 z4:=Tryz.sizeOf4
 v4:=Tryz.zeroValue4
 t5:=Tryz.underlying5
 a5:=Tryz.isAgg5
 z5:=Tryz.sizeOf5
 v5:=Tryz.zeroValue5
 t9:=Tryz.underlying9
 a9:=Tryz.isAgg9
 z9:=Tryz.sizeOf9
 v9:=Tryz.zeroValue9
 t20:=Tryz.underlying20
 a20:=Tryz.isAgg20
 z20:=Tryz.sizeOf20
 v20:=Tryz.zeroValue20
 t21:=Tryz.underlying21
 a21:=Tryz.isAgg21
 z21:=Tryz.sizeOf21
 v21:=Tryz.zeroValue21
 t37:=Tryz.underlying22
 a37:=Tryz.isAgg22
 z37:=Tryz.sizeOf22
 v37:=Tryz.zeroValue22
 t46:=Tryz.underlying137
 a46:=Tryz.isAgg137
 z46:=Tryz.sizeOf137
 v46:=Tryz.zeroValue137
 t51:=Tryz.underlying175
 a51:=Tryz.isAgg175
 z51:=Tryz.sizeOf175
 v51:=Tryz.zeroValue175
 t53:=Tryz.underlying71
 a53:=Tryz.isAgg71
 z53:=Tryz.sizeOf71
 v53:=Tryz.zeroValue71
 t75:=Tryz.underlying117
 a75:=Tryz.isAgg117
 z75:=Tryz.sizeOf117
 v75:=Tryz.zeroValue117
 t76:=Tryz.underlying118
 a76:=Tryz.isAgg118
 z76:=Tryz.sizeOf118
 v76:=Tryz.zeroValue118
 t85:=Tryz.underlying155
 a85:=Tryz.isAgg155
 z85:=Tryz.sizeOf155
 v85:=Tryz.zeroValue155
 t127:=Tryz.underlying153
 a127:=Tryz.isAgg153
 z127:=Tryz.sizeOf153
 v127:=Tryz.zeroValue153
 t143:=Tryz.underlying179
 a143:=Tryz.isAgg179
 z143:=Tryz.sizeOf179
 v143:=Tryz.zeroValue179
 t145:=Tryz.underlying181
 a145:=Tryz.isAgg181
 z145:=Tryz.sizeOf181
 v145:=Tryz.zeroValue181
 t167:=Tryz.underlying154
 a167:=Tryz.isAgg154
 z167:=Tryz.sizeOf154
 v167:=Tryz.zeroValue154
 t168:=Tryz.underlying157
 a168:=Tryz.isAgg157
 z168:=Tryz.sizeOf157
 v168:=Tryz.zeroValue157
 t171:=Tryz.underlying160
 a171:=Tryz.isAgg160
 z171:=Tryz.sizeOf160
 v171:=Tryz.zeroValue160
 t173:=Tryz.underlying163
 a173:=Tryz.isAgg163
 z173:=Tryz.sizeOf163
 v173:=Tryz.zeroValue163
 t175:=Tryz.underlying167
 a175:=Tryz.isAgg167
 z175:=Tryz.sizeOf167
 v175:=Tryz.zeroValue167
 t210:=Tryz.underlying171
 a210:=Tryz.isAgg171
 z210:=Tryz.sizeOf171
 v210:=Tryz.zeroValue171
 t212:=Tryz.underlying174
 a212:=Tryz.isAgg174
 z212:=Tryz.sizeOf174
 v212:=Tryz.zeroValue174
 t213:=Tryz.underlying176
 a213:=Tryz.isAgg176
 z213:=Tryz.sizeOf176
 t232:=Tryz.underlying183
 a232:=Tryz.isAgg183
 z232:=Tryz.sizeOf183
 v232:=Tryz.zeroValue183
 t233:=Tryz.underlying184
 a233:=Tryz.isAgg184
 z233:=Tryz.sizeOf184
 v233:=Tryz.zeroValue184
 g15:=by kernel_rfl
 g16:=by kernel_rfl
 g17:=by kernel_rfl
 g18:=by kernel_rfl
 g19:=by kernel_rfl
 t80:=Tryz.underlying106
 a80:=Tryz.isAgg106
 z80:=Tryz.sizeOf106
 v80:=Tryz.zeroValue106
 i0:=by kernel_rfl
 i2:=by kernel_rfl
 i3:=by kernel_rfl
 i4:=by kernel_rfl
 i5:=by kernel_rfl
 i9:=by kernel_rfl
 i20:=by kernel_rfl
 i21:=by kernel_rfl
 i37:=by kernel_rfl
 i46:=by kernel_rfl
 i51:=by kernel_rfl
 i53:=by kernel_rfl
 i75:=by kernel_rfl
 i76:=by kernel_rfl
 i80:=by kernel_rfl
 i85:=by kernel_rfl
 i127:=by kernel_rfl
 i143:=by kernel_rfl
 i145:=by kernel_rfl
 i167:=by kernel_rfl
 i168:=by kernel_rfl
 i171:=by kernel_rfl
 i173:=by kernel_rfl
 i175:=by kernel_rfl
 i210:=by kernel_rfl
 i212:=by kernel_rfl
 i232:=by kernel_rfl
 i233:=by kernel_rfl
 m15:=by kernel_rfl
 m16:=by kernel_rfl
 m17:=by kernel_rfl
 m18:=by kernel_rfl
 m19:=by kernel_rfl
 c0:=by kernel_rfl
 c2:=by kernel_rfl
 c3:=by kernel_rfl
 c4:=by kernel_rfl
 c5:=by kernel_rfl
 c9:=by kernel_rfl
 c20:=by kernel_rfl
 c21:=by kernel_rfl
 c37:=by kernel_rfl
 c46:=by kernel_rfl
 c51:=by kernel_rfl
 c53:=by kernel_rfl
 c75:=by kernel_rfl
 c76:=by kernel_rfl
 c80:=by kernel_rfl
 c85:=by kernel_rfl
 c127:=by kernel_rfl
 c143:=by kernel_rfl
 c145:=by kernel_rfl
 c167:=by kernel_rfl
 c168:=by kernel_rfl
 c171:=by kernel_rfl
 c173:=by kernel_rfl
 c175:=by kernel_rfl
 c210:=by kernel_rfl
 c212:=by kernel_rfl
 c213:=by kernel_rfl
 c232:=by kernel_rfl
 c233:=by kernel_rfl}
def Tryz.laysGt8_ren:Hc:=⟨fun | 8=>66 | 13=>100 | 14=>101 | 16=>103 | 15=>102 | 29=>131 | 30=>132 | 42=>150 | 49=>164 | n=>n,fun | 20=>20 | 26=>89 | 36=>123 | 0=>0 | 38=>125 | 42=>129 | 3=>3 | 4=>4 | 47=>137 | 17=>17 | 33=>120 | 34=>121 | 89=>196 | 12=>12 | 56=>175 | 82=>190 | 5=>5 | 83=>191 | 84=>192 | 85=>153 | 86=>193 | 87=>194 | n=>n,fun | n=>n⟩
theorem Tryz.laysGt8:Go.Proofs.LaysGt.n8 Tryz.prog Tryz.laysGt8_ren:={
 mixed:=by kernel_rfl
 f8:=Tryz.func66.trans (congrArg some (by kernel_rfl))
 f13:=Tryz.func100.trans (congrArg some (by kernel_rfl))
 f14:=Tryz.func101.trans (congrArg some (by kernel_rfl))
 f15:=Tryz.func102.trans (congrArg some (by kernel_rfl))
 f16:=Tryz.func103.trans (congrArg some (by kernel_rfl))
 f29:=Tryz.func131.trans (congrArg some (by kernel_rfl))
 f30:=Tryz.func132.trans (congrArg some (by kernel_rfl))
 f42:=Tryz.func150.trans (congrArg some (by kernel_rfl))
 f49:=Tryz.func164.trans (congrArg some (by kernel_rfl))
 t0:=Tryz.underlying0
 a0:=Tryz.isAgg0
 z0:=Tryz.sizeOf0
 v0:=Tryz.zeroValue0
 i0:=by kernel_rfl
 t3:=Tryz.underlying3
 a3:=Tryz.isAgg3
 z3:=Tryz.sizeOf3
 v3:=Tryz.zeroValue3
 i3:=by kernel_rfl
 t4:=Tryz.underlying4
 a4:=Tryz.isAgg4
 z4:=Tryz.sizeOf4
 v4:=Tryz.zeroValue4
 i4:=by kernel_rfl
 t5:=Tryz.underlying5
 a5:=Tryz.isAgg5
 z5:=Tryz.sizeOf5
 v5:=Tryz.zeroValue5
 i5:=by kernel_rfl
 t12:=Tryz.underlying12
 a12:=Tryz.isAgg12
 z12:=Tryz.sizeOf12
 v12:=Tryz.zeroValue12
 i12:=by kernel_rfl
 t17:=Tryz.underlying17
 a17:=Tryz.isAgg17
 z17:=Tryz.sizeOf17
 v17:=Tryz.zeroValue17
 i17:=by kernel_rfl
 t20:=Tryz.underlying20
 a20:=Tryz.isAgg20
 z20:=Tryz.sizeOf20
 v20:=Tryz.zeroValue20
 i20:=by kernel_rfl
 t26:=Tryz.underlying89
 a26:=Tryz.isAgg89
 z26:=Tryz.sizeOf89
 v26:=Tryz.zeroValue89
 i26:=by kernel_rfl
 t33:=Tryz.underlying120
 a33:=Tryz.isAgg120
 z33:=Tryz.sizeOf120
 v33:=Tryz.zeroValue120
 i33:=by kernel_rfl
 t34:=Tryz.underlying121
 a34:=Tryz.isAgg121
 z34:=Tryz.sizeOf121
 v34:=Tryz.zeroValue121
 i34:=by kernel_rfl
 t36:=Tryz.underlying123
 a36:=Tryz.isAgg123
 z36:=Tryz.sizeOf123
 v36:=Tryz.zeroValue123
 i36:=by kernel_rfl
 t38:=Tryz.underlying125
 a38:=Tryz.isAgg125
 z38:=Tryz.sizeOf125
 v38:=Tryz.zeroValue125
 i38:=by kernel_rfl
 t42:=Tryz.underlying129
 a42:=Tryz.isAgg129
 z42:=Tryz.sizeOf129
 v42:=Tryz.zeroValue129
 i42:=by kernel_rfl
 t47:=Tryz.underlying137
 a47:=Tryz.isAgg137
 z47:=Tryz.sizeOf137
 v47:=Tryz.zeroValue137
 i47:=by kernel_rfl
 t56:=Tryz.underlying175
 a56:=Tryz.isAgg175
 z56:=Tryz.sizeOf175
 v56:=Tryz.zeroValue175
 i56:=by kernel_rfl
 t82:=Tryz.underlying190
 a82:=Tryz.isAgg190
 z82:=Tryz.sizeOf190
 v82:=Tryz.zeroValue190
 i82:=by kernel_rfl
 t83:=Tryz.underlying191
 a83:=Tryz.isAgg191
 z83:=Tryz.sizeOf191
 v83:=Tryz.zeroValue191
 i83:=by kernel_rfl
 t84:=Tryz.underlying192
 a84:=Tryz.isAgg192
 z84:=Tryz.sizeOf192
 v84:=Tryz.zeroValue192
 i84:=by kernel_rfl
 t85:=Tryz.underlying153
 a85:=Tryz.isAgg153
 z85:=Tryz.sizeOf153
 v85:=Tryz.zeroValue153
 i85:=by kernel_rfl
 t86:=Tryz.underlying193
 a86:=Tryz.isAgg193
 z86:=Tryz.sizeOf193
 v86:=Tryz.zeroValue193
 i86:=by kernel_rfl
 t87:=Tryz.underlying194
 a87:=Tryz.isAgg194
 z87:=Tryz.sizeOf194
 v87:=Tryz.zeroValue194
 i87:=by kernel_rfl
 t89:=Tryz.underlying196
 a89:=Tryz.isAgg196
 z89:=Tryz.sizeOf196
 v89:=Tryz.zeroValue196
 i89:=by kernel_rfl}
def Tryz.lays153_ren:Hc:=⟨fun | 153=>57 | 152=>92 | 226=>93 | 227=>94 | 228=>95 | 137=>59 | 119=>116 | 224=>117 | 225=>118 | 217=>99 | 266=>121 | n=>n,fun | 9=>9 | 3=>3 | 4=>4 | 5=>5 | 21=>21 | 117=>111 | 116=>110 | 0=>0 | 46=>137 | 124=>138 | n=>n,fun | n=>n⟩
theorem Tryz.lays153:Go.Proofs.Lays.n153 Tryz.prog Tryz.lays153_ren:={
 mixed:=by kernel_rfl
 f119:=Tryz.func116.trans (congrArg some (by kernel_rfl))
 f137:=Tryz.func59.trans (congrArg some (by kernel_rfl))
 f152:=Tryz.func92.trans (congrArg some (by kernel_rfl))
 f153:=Tryz.func57.trans (congrArg some (by kernel_rfl))
 f217:=Tryz.func99.trans (congrArg some (by kernel_rfl))
 f224:=Tryz.func117.trans (congrArg some (by kernel_rfl))
 f225:=Tryz.func118.trans (congrArg some (by kernel_rfl))
 f226:=Tryz.func93.trans (congrArg some (by kernel_rfl))
 f227:=Tryz.func94.trans (congrArg some (by kernel_rfl))
 f228:=Tryz.func95.trans (congrArg some (by kernel_rfl))
 f266:=Tryz.func121.trans (congrArg some (by kernel_rfl))
 t0:=Tryz.underlying0
 a0:=Tryz.isAgg0
 z0:=Tryz.sizeOf0
 v0:=Tryz.zeroValue0
 t3:=Tryz.underlying3
 a3:=Tryz.isAgg3
 z3:=Tryz.sizeOf3
 v3:=Tryz.zeroValue3
 t4:=Tryz.underlying4
 a4:=Tryz.isAgg4
 z4:=Tryz.sizeOf4
 v4:=Tryz.zeroValue4
 t5:=Tryz.underlying5
 a5:=Tryz.isAgg5
 z5:=Tryz.sizeOf5
 v5:=Tryz.zeroValue5
 t9:=Tryz.underlying9
 a9:=Tryz.isAgg9
 z9:=Tryz.sizeOf9
 v9:=Tryz.zeroValue9
 t21:=Tryz.underlying21
 a21:=Tryz.isAgg21
 z21:=Tryz.sizeOf21
 v21:=Tryz.zeroValue21
 t46:=Tryz.underlying137
 a46:=Tryz.isAgg137
 z46:=Tryz.sizeOf137
 v46:=Tryz.zeroValue137
 t116:=Tryz.underlying110
 a116:=Tryz.isAgg110
 z116:=Tryz.sizeOf110
 t117:=Tryz.underlying111
 a117:=Tryz.isAgg111
 z117:=Tryz.sizeOf111
 v117:=Tryz.zeroValue111
 t124:=Tryz.underlying138
 a124:=Tryz.isAgg138
 z124:=Tryz.sizeOf138
 v124:=Tryz.zeroValue138}
def Tryz.lays229_ren:Hc:=⟨fun | 229=>96 | n=>n,fun | 9=>9 | 40=>115 | 31=>23 | 152=>139 | 3=>3 | 0=>0 | 4=>4 | 21=>21 | 154=>141 | n=>n,fun | n=>n⟩
theorem Tryz.lays229:Go.Proofs.Lays.n229 Tryz.prog Tryz.lays229_ren:={
 mixed:=by kernel_rfl
 f229:=Tryz.func96.trans (congrArg some (by kernel_rfl))
 t0:=Tryz.underlying0
 a0:=Tryz.isAgg0
 z0:=Tryz.sizeOf0
 v0:=Tryz.zeroValue0
 t3:=Tryz.underlying3
 a3:=Tryz.isAgg3
 z3:=Tryz.sizeOf3
 v3:=Tryz.zeroValue3
 t4:=Tryz.underlying4
 a4:=Tryz.isAgg4
 z4:=Tryz.sizeOf4
 v4:=Tryz.zeroValue4
 t9:=Tryz.underlying9
 a9:=Tryz.isAgg9
 z9:=Tryz.sizeOf9
 v9:=Tryz.zeroValue9
 t21:=Tryz.underlying21
 a21:=Tryz.isAgg21
 z21:=Tryz.sizeOf21
 v21:=Tryz.zeroValue21
 t31:=Tryz.underlying23
 a31:=Tryz.isAgg23
 z31:=Tryz.sizeOf23
 v31:=Tryz.zeroValue23
 t40:=Tryz.underlying115
 a40:=Tryz.isAgg115
 z40:=Tryz.sizeOf115
 v40:=Tryz.zeroValue115
 t152:=Tryz.underlying139
 a152:=Tryz.isAgg139
 z152:=Tryz.sizeOf139
 v152:=Tryz.zeroValue139
 t154:=Tryz.underlying141
 a154:=Tryz.isAgg141
 z154:=Tryz.sizeOf141
 v154:=Tryz.zeroValue141}
end Go.Proofs
namespace Go.Proofs.YtidhhpakdogiaaaGreatDoor
open Go Go.V Go.Shelf
set_option maxRecDepth 100000
def gl0:List (Nat × (Obj→Prop)):=[(0,EV 0)]
def gl1:List (Nat × (Obj→Prop)):=gl0++[(3,qd)]
def gl2:List (Nat × (Obj→Prop)):=gl1++[(1,ru),(2,ru)]
theorem Gl:∀p∈gl0,p∈gl1:=fun _ hp=>Hz _ hp
theorem FM:∀p∈gl1,p∈gl2:=fun _ hp=>Hz _ hp
theorem jQ:∀p∈gl0,p∈gl2:=fun p hp=>FM p (Gl p hp)
@[reducible] def ml:FS:=Dq
theorem tM:aw gl1 Tryz.prog 80 ml:=Fo Tryz.laysM171 (by kernel_rfl) (show(3,qd)∈gl1 by simp [gl0,gl1]) (by kernel_rfl)
@[reducible] def lS:FS:=BI
theorem th:aw gl2 Tryz.prog 98 lS:=Fl Tryz.laysC172 (by kernel_rfl) (by kernel_rfl) (by kernel_rfl) (show(1,ru)∈gl2 by simp [gl0,gl1,gl2]) (show(2,ru)∈gl2 by simp [gl0,gl1,gl2])
@[reducible] def iR:FS:=tT
theorem oI:aw gl0 Tryz.prog 57 iR:=yL Tryz.lays153 (by kernel_rfl) (by kernel_rfl)
@[reducible] def hD:FS:=rH
theorem nu:aw gl0 Tryz.prog 59 hD:=xy Tryz.lays137 (by kernel_rfl)
end Go.Proofs.YtidhhpakdogiaaaGreatDoor

namespace Go.V
open Go.RowKit Go.WideShapes Go.ChangeShapes
set_option maxRecDepth 100000
mutual
inductive Sh where
 | int (k:IntKind)
 | bool
 | str
 | sl (e:Sh)
 | st (l:ShL)
inductive ShL where
 | nil
 | cons (h:Sh) (t:ShL)
end
mutual
def Sh.size:Sh→Nat
 | .int _=>1
 | .bool=>1
 | .str=>1
 | .sl _=>1
 | .st l=>l.size
def ShL.size:ShL→Nat
 | .nil=>0
 | .cons h t=>h.size+t.size
end
def Sh.isSt:Sh→Bool
 | .st _=>true
 | _=>false
mutual
def Sh.flat:Sh→Bool
 | .int _=>true
 | .bool=>true
 | .str=>true
 | .sl _=>false
 | .st l=>l.flat
def ShL.flat:ShL→Bool
 | .nil=>true
 | .cons h t=>h.flat&&t.flat
end
def wrap (ag:Bool) (m:List D):D:=if ag then .agg m else nth m 0
mutual
def Sh.Is:Sh→List D→Prop
 | .int k,l=>∃n,l=[.v (.int k n)]∧k.min≤n∧n≤k.max
 | .bool,l=>∃b,l=[B b]
 | .str,l=>∃s,l=[T s]∧s.size≤maxLen
 | .sl e,l=>∃ds,l=[.arr e.size ds]∧ds.length≤maxLen∧∀d∈ds,∃m,e.Is m∧d=wrap e.isSt m
 | .st fs,l=>fs.Is l
def ShL.Is:ShL→List D→Prop
 | .nil,l=>l=[]
 | .cons h t,l=>∃a b,l=a++b∧h.Is a∧t.Is b
end
mutual
def Sh.ok (P:Program):Sh→TypeId→Bool
 | .int k,t=>match P.underlying t with
  | some (.int k')=>decide (k'=k)
  | _=>false
 | .bool,t=>match P.underlying t with
  | some .bool=>true
  | _=>false
 | .str,t=>match P.underlying t with
  | some .string=>true
  | _=>false
 | .sl e,t=>match P.underlying t with
  | some (.slice u)=>e.ok P u&&decide (P.cellsOf u=e.size)&&decide (0<e.size)
  | _=>false
 | .st l,t=>match P.underlying t with
  | some (.struct fs)=>l.ok P 0 fs.toList&&decide (P.cellsOf t=l.size)
  | _=>false
def ShL.ok (P:Program):ShL→Nat→List Field→Bool
 | .nil,_,[]=>true
 | .cons h t,off,f::fs=>decide (f.offset=off)&&h.ok P f.type&&decide (P.cellsOf f.type=h.size)&&t.ok P (off+h.size) fs
 | _,_,_=>false
end
section
variable {H:Type} {enc:TypeId × Value→H} {P:Program} {W:World}
theorem Sh.len_one {sh:Sh} (h:sh.isSt=false):sh.size=1:=by
 cases sh<;>simp_all [Sh.isSt,Sh.size]
theorem Dn {a:Addr} {n:Nat} {vs:List Value} (h:W.cells? 0 a n=some vs):vs.length=n∧∀i u,vs[i]?=some u→W.cell? (a.add i)=some u:=by
 simp only [World.cells?,Nat.zero_le,if_true] at h;have hl:=mapM_some_length h;rw [List.length_range] at hl;refine⟨hl,fun i u hu=>?_⟩
 have hi:i<n:=by
  rw [←hl];exact(GR.1 hu).1
 rw [mapM_some_get h i i (by simp [hi]),hu]
theorem DF (a:Addr) (i j:Nat):(a.add i).add j=a.add (i+j):=by
 unfold Addr.add;by_cases hi:i=0<;>by_cases hj:j=0<;>simp [hi,hj,Nat.add_assoc]
theorem Bq {a:Addr} {u:Value} (h:W.cell? a=some u):a.spot=none∧a.block<W.heap.size:=by
 unfold HG at h;split at h
 case h_2=>cases h
 rename_i hb;split at h
 ·cases h
 rename_i hs;refine⟨by simpa using hs,?_⟩
 rcases Nat.lt_or_ge a.block W.heap.size with h' | h'
 ·exact h'
 ·rw [Array.getElem?_eq_none h'] at hb;cases hb
theorem gK {F:Nat→Prop} {d:D} {vs:List Value}:bf W F [d] vs↔RepC W F d vs:=by
 rw [aq];constructor
 ·rintro⟨v1,v2,rfl,h1,h2⟩
  rw [aD.1 h2,List.append_nil];exact h1
 ·intro h
  exact⟨vs,[],by simp,h,aD.2 rfl⟩
theorem AJ {F:Nat→Prop} {sh:Sh} {L:List D} {vs:List Value} (hr:bf W F L vs) (hs:L.all D.single=true) (hl:L.length=sh.size):RepC W F (wrap sh.isSt L) vs∧(wrap sh.isSt L).width=sh.size:=by
 cases hb:sh.isSt
 ·have h1:=Sh.len_one hb
  match L,hl.trans h1 with
  | [d],_ =>
   simp only [wrap,GO,if_false,nth];refine⟨gK.1 hr,?_⟩
   rw [h1];exact(cQ (by simpa using hs)).1
 ·simp only [wrap,if_true]
  refine⟨by rw [RepC];exact⟨hr,hs⟩,?_⟩
  simpa [D.width,D.cells] using hl
mutual
theorem Sh.opened:∀(sh:Sh) (t:TypeId) (fuel:Nat) (cs:List Value) (x:DataW H × List MemPlace),sh.ok P t=true→DataW.trod enc P W 0 (fun _=>true) true fuel t cs=some x →
  ∃L,sh.Is L∧bf W (·<W.heap.size) L cs∧L.all D.single=true∧L.length=sh.size
 | .int k,t,fuel,cs,x,hok,h=>by
  simp only [Sh.ok] at hok;split at hok
  case h_2=>cases hok
  rename_i k' hu;have hk:=of_decide_eq_true hok;subst hk;obtain⟨n,rfl,-,hw⟩:=DataW.trod_int hu h;simp only [Lit.wf,GK,decide_eq_true_eq] at hw;refine⟨[.v (.int k' n)],⟨n,rfl,hw⟩,gK.2 ?_,rfl,rfl⟩
  simp [RepC,V.flat]
 | .bool,t,fuel,cs,x,hok,h=>by
  simp only [Sh.ok] at hok;split at hok
  case h_2=>cases hok
  rename_i hu;obtain⟨n,rfl,-⟩:=DataW.trod_bool hu h;refine⟨[B n],⟨n,rfl⟩,gK.2 ?_,rfl,rfl⟩
  simp [RepC,V.flat]
 | .str,t,fuel,cs,x,hok,h=>by
  simp only [Sh.ok] at hok;split at hok
  case h_2=>cases hok
  rename_i hu;obtain⟨s,rfl,-,hw⟩:=DataW.trod_string hu h;refine⟨[T s],⟨s,rfl,hw⟩,gK.2 ?_,rfl,rfl⟩
  simp [RepC,V.flat]
 | .sl e,t,fuel,cs,x,hok,h=>by
  simp only [Sh.ok] at hok;split at hok
  case h_2=>cases hok
  rename_i u hu;simp only [GK,decide_eq_true_eq] at hok;obtain⟨⟨hok,hz⟩,hpos⟩:=hok;rcases DataW.trod_slice hu h with ⟨rfl,-⟩ | ⟨a,len,cap,elems,rest,n,rfl,rfl,-,-,hle,hcap,hlen,hel,-⟩
  ·refine⟨[.arr e.size []],⟨[],rfl,by simp,by simp⟩,gK.2 ?_,rfl,rfl⟩
   rw [RepC];exact⟨none,0,[],rfl,Hs _,aD.2 rfl,by simp,by simp⟩
  ·have key:∀k,k≤len→∃ds us,ds.length=k∧us.length=k*e.size∧bf W (·<W.heap.size) ds us∧(∀d∈ds,d.width=e.size)∧(∀d∈ds,∃m,e.Is m∧d=wrap e.isSt m)∧∀i v,us[i]?=some v→W.cell? (a.add i)=some v:=by
    intro k;induction k with
    | zero=>exact fun _=>⟨[],[],rfl,by simp,aD.2 rfl,by simp,by simp,by simp⟩
    | succ k ih =>
     intro hk;obtain⟨ds,us,h1,h2,h3,h4,h5,h6⟩:=ih (by omega);have hi:=hel k (by omega);rw [GT (by omega)] at hi;obtain⟨vs,hc,hd⟩:=GP.1 hi;obtain⟨L,g1,g2,g3,g4⟩:=Sh.opened e u n vs _ hok hd;obtain⟨g5,g6⟩:=Dn hc;obtain⟨g7,g8⟩:=AJ g2 g3 g4;rw [hz] at g5 g6;refine⟨ds++[wrap e.isSt L],us++vs,by simp [h1],by simp [h2,g5,Nat.succ_mul],(cf _ _ _).2 ⟨us,vs,rfl,h3,gK.2 g7⟩,?_,?_,fun i v hv=>?_⟩
     ·intro d hd
      rcases GY.1 hd with hd | hd
      ·exact h4 d hd
      ·simp at hd;subst hd;exact g8
     ·intro d hd
      rcases GY.1 hd with hd | hd
      ·exact h5 d hd
      ·simp at hd;subst hd;exact⟨L,g1,rfl⟩
     ·rcases Nat.lt_or_ge i us.length with hlt | hge
      ·rw [List.getElem?_append_left hlt] at hv
       exact h6 i v hv
      ·rw [List.getElem?_append_right hge] at hv
       have:=g6 _ v hv;rw [DF,←h2] at this;rw [show us.length+(i - us.length)=i from by omega] at this;exact this
   obtain⟨ds,us,h1,h2,h3,h4,h5,h6⟩:=key len (Hs _);refine⟨[.arr e.size ds],⟨ds,rfl,by omega,h5⟩,gK.2 ?_,rfl,rfl⟩
   rw [RepC];refine⟨some a,cap,us,by rw [h1],by omega,h3,h4,fun hne=>?_⟩
   have hpl:0<us.length:=by
    rw [h2,←h1];exact Nat.mul_pos (List.length_pos_iff.2 hne) hpos
   have h0:=h6 0 _ (GT hpl);have ha0:a.add 0=a:=by simp [Addr.add]
   rw [ha0] at h0;obtain⟨hsp,hbl⟩:=Bq h0;have ea:a=⟨a.block,a.off,none⟩:=by
    rw [←hsp]
   refine⟨a.block,a.off,by rw [←ea],hbl,fun i v hv=>?_⟩
   have:=h6 i v hv;unfold Addr.add at this;split at this
   ·rename_i hi0
    subst hi0;rw [Nat.add_zero,←ea];exact this
   ·rw [←hsp]
    rw [hsp];exact this
 | .st l,t,fuel,cs,x,hok,h=>by
  simp only [Sh.ok] at hok;split at hok
  case h_2=>cases hok
  rename_i fs hu;simp only [GK,decide_eq_true_eq] at hok;obtain⟨xs,n,rfl,-,hlen,hxl,hf⟩:=DataW.trod_struct hu h;obtain⟨L,g1,g2,g3,g4⟩:=ShL.opened l 0 fs.toList n cs hok.1 (fun f hf'=>by
   obtain⟨i,hi,he⟩:=List.mem_iff_getElem.1 hf';have:=hf i f (by rw [←he];simp at hi ⊢);rw [GT (by simp at hi;omega)] at this;exact⟨_,this⟩)
  rw [Hv,←hok.2,←hlen,List.take_length] at g2;exact⟨L,g1,g2,g3,g4⟩
theorem ShL.opened:∀(l:ShL) (off:Nat) (fs:List Field) (fuel:Nat) (cs:List Value),l.ok P off fs=true→(∀f∈fs,∃x,DataW.trod enc P W 0 (fun _=>true) true fuel f.type ((cs.drop f.offset).take (P.cellsOf f.type))=some x) →
  ∃L,l.Is L∧bf W (·<W.heap.size) L ((cs.drop off).take l.size)∧L.all D.single=true∧L.length=l.size
 | .nil,off,[],fuel,cs,hok,h=>⟨[],rfl,by simp [ShL.size,aD],rfl,rfl⟩
 | .nil,off,_::_,fuel,cs,hok,h=>by simp [ShL.ok] at hok
 | .cons a t,off,[],fuel,cs,hok,h=>by simp [ShL.ok] at hok
 | .cons a t,off,f::fs,fuel,cs,hok,h=>by
  simp only [ShL.ok,GK,decide_eq_true_eq] at hok;obtain⟨⟨⟨h1,h2⟩,h3⟩,h4⟩:=hok;obtain⟨x,hx⟩:=h f (by simp);obtain⟨L,g1,g2,g3,g4⟩:=Sh.opened a f.type fuel _ x h2 hx;obtain⟨M,k1,k2,k3,k4⟩:=ShL.opened t (off+a.size) fs fuel cs h4 (fun f hf=>h f (by simp [hf]));refine⟨L++M,⟨L,M,rfl,g1,k1⟩,(cf _ _ _).2 ⟨_,_,?_,g2,k2⟩,by simp [g3,k3],by simp [ShL.size,g4,k4]⟩
  rw [h1,h3,ShL.size,←List.drop_drop,←List.take_add]
end
def wA:D→Bool
 | .v _=>true
 | _=>false
theorem DN {L:List D} (h:L.all wA=true):(D.agg L).isV=true:=by
 simp only [D.isV];refine Hq.2 fun d hd=>?_
 have:=Hq.1 h d hd;cases d<;>simp_all [wA]
mutual
theorem Sh.isV_of:∀(sh:Sh) (L:List D),sh.flat=true→sh.Is L→L.all wA=true
 | .int k,L,_,h=>by obtain⟨n,rfl,_⟩:=h;rfl
 | .bool,L,_,h=>by obtain⟨n,rfl⟩:=h;rfl
 | .str,L,_,h=>by obtain⟨n,rfl,_⟩:=h;rfl
 | .sl _,L,h,_=>by simp [Sh.flat] at h
 | .st l,L,h,hl=>ShL.isV_of l L (by simpa [Sh.flat] using h) hl
theorem ShL.isV_of:∀(sh:ShL) (L:List D),sh.flat=true→sh.Is L→L.all wA=true
 | .nil,L,_,h=>by cases h;rfl
 | .cons a t,L,h,hl=>by
  obtain⟨x,y,rfl,h1,h2⟩:=hl;simp only [ShL.flat,GK] at h;rw [List.all_append,Sh.isV_of a x h.1 h1,ShL.isV_of t y h.2 h2];rfl
end
def Sh.IsV (sh:Sh) (d:D):Prop:=∃m,sh.Is m∧d=wrap sh.isSt m
theorem Sh.arg {sh:Sh} {t:TypeId} {v:Value} {d:DataW H} {ps:List MemPlace} {base:Nat} (hok:sh.ok P t=true) (hv:Hj P W .any base t v) (h:DataW.Trod enc P W 0 (fun _=>true) true t v d ps) :
  ∃x,sh.IsV x∧bw W (·<W.heap.size) x v∧(sh.flat=true→x.isV=true):=by
 obtain⟨fuel,h⟩:=h;obtain⟨L,h1,h2,h3,h4⟩:=Sh.opened sh t fuel _ _ hok h;refine⟨_,⟨L,h1,rfl⟩,?_,fun hf=>?_⟩
 ·cases hb:sh.isSt
  ·have h1':=Sh.len_one hb
   have hone:v.cells.toList=[v]:=by
    cases sh<;>simp only [Sh.isSt,Bool.true_eq_false] at hb<;>simp only [Sh.ok] at hok<;>split at hok<;>rename_i hu
    ·obtain⟨n,rfl⟩:=okWide_int hu hv;rfl
    ·cases hok
    ·obtain⟨n,rfl⟩:=okWide_bool hu hv;rfl
    ·cases hok
    ·obtain⟨n,rfl⟩:=okWide_string hu hv;rfl
    ·cases hok
    ·obtain⟨_,_,_,rfl⟩:=okWide_slice hu hv;rfl
    ·cases hok
   match L,h4.trans h1' with
   | [e],_ =>
    simp only [wrap,GO,if_false,nth];have hs:e.single=true:=by simpa using h3
    rw [hone] at h2;exact(fv hs).2 (gK.1 h2)
  ·simp only [wrap,if_true]
   have:∃cs,v = .agg cs:=by
    cases sh<;>simp only [Sh.isSt,GO] at hb;simp only [Sh.ok] at hok;split at hok
    case h_2=>cases hok
    rename_i hu;simp only [Hj,hu] at hv;obtain⟨cs,h,_⟩:=hv;exact⟨cs,h⟩
   obtain⟨cs,rfl⟩:=this;refine⟨cs.toList,by simp,?_⟩
   rw [RepC];exact⟨by simpa [Value.cells] using h2,h3⟩
 ·have:=Sh.isV_of sh L hf h1
  cases hb:sh.isSt
  ·match L,h4.trans (Sh.len_one hb) with
   | [e],_ =>
    simp only [wrap,GO,if_false,nth];cases e<;>simp [wA] at this;rfl
  ·simp only [wrap,if_true]
   exact DN this
theorem Fg {k:IntKind} {x:D} (h:(Sh.int k).IsV x):∃n,x = .v (.int k n)∧k.min≤n∧n≤k.max:=by
 obtain⟨_,⟨n,rfl,h⟩,rfl⟩:=h;exact⟨n,rfl,h⟩
theorem FX {e:Sh} {x:D} (h:(Sh.sl e).IsV x):∃ds,x = .arr e.size ds∧ds.length≤maxLen∧∀d∈ds,e.IsV d:=by
 obtain⟨_,⟨n,rfl,h,h'⟩,rfl⟩:=h;exact⟨n,rfl,h,h'⟩
def rp (P:Program):List Sh→List TypeId→List Kd→Bool
 | [],[],[]=>true
 | sh::shs,t::ts,.dat lv::ks=>sh.ok P t&&(Hd lv 2||(Hd lv 0&&sh.flat))&&rp P shs ts ks
 | _,_,_=>false
def xB:List Sh→List D→Prop
 | [],[]=>True
 | sh::shs,d::ds=>sh.IsV d∧xB shs ds
 | _,_=>False
theorem ED {a b:Sh} {ds:List D} (h:xB [a,b] ds):∃x y,ds=[x,y]∧a.IsV x∧b.IsV y:=by
 match ds,h with
 | [x,y],⟨h1,h2,_⟩=>exact⟨x,y,rfl,h1,h2⟩
theorem zF {base:Nat}:∀(shs:List Sh) (ts:List TypeId) (ks:List Kd) (vs:List Value) (ds:List (DataW H)) (ps:List MemPlace) (i:Nat),rp P shs ts ks=true→GW enc P W 0 (fun _=>true) true ts vs ds ps →
  (∀(j:Nat) t v,ts[j]?=some t→vs[j]?=some v→Hj P W .any base t v)→∃xs,xB shs xs∧dG W (·<W.heap.size) (fun _=>none) i ks xs vs
 | [],[],[],[],_,_,_,_,_,_=>⟨[],trivial,trivial⟩
 | [],[],[],_::_,[],_,_,_,h,_=>h.elim
 | [],[],[],_::_,_::_,_,_,_,h,_=>h.elim
 | sh::shs,t::ts,k::ks,[],[],_,_,_,h,_=>h.elim
 | sh::shs,t::ts,k::ks,[],_::_,_,_,_,h,_=>h.elim
 | sh::shs,t::ts,k::ks,_::_,[],_,_,_,h,_=>h.elim
 | sh::shs,t::ts,k::ks,v::vs,d::ds,ps,i,hok,h,hv=>by
  cases k<;>simp only [rp,GO] at hok;rename_i lv;simp only [GK,Bool.or_eq_true] at hok;obtain⟨⟨hok1,hlv⟩,hok2⟩:=hok;obtain⟨p,q,h1,h2,rfl⟩:=h;obtain⟨x,g1,g2,g3⟩:=Sh.arg hok1 (hv 0 t v rfl rfl) h1;obtain⟨xs,k1,k2⟩:=zF shs ts ks vs ds q (i+1) hok2 h2 (fun j t v ht hv'=>hv (j+1) t v ht hv');refine⟨x::xs,⟨g1,k1⟩,.inr ?_,k2⟩
  rcases hlv with h' | ⟨h',hf⟩
  ·rw [ay] at h'
   subst h';exact g2
  ·exact kE (g3 hf) g2
 | [],[],_::_,_,_,_,_,hok,_,_=>by simp [rp] at hok
 | [],_::_,_,_,_,_,_,hok,_,_=>by simp [rp] at hok
 | _::_,[],_,_,_,_,_,hok,_,_=>by simp [rp] at hok
 | _::_,_::_,[],_,_,_,_,hok,_,_=>by simp [rp] at hok
theorem oo {W':World} (hl:laidOutB P=true):∀(ts:List TypeId) (vs:List Value) (ds:List (DataW H)) (ps:List MemPlace),(ts.all fun t=>P.readableRec t&&decide (t<P.types.size))=true →
  GW enc P W 0 (fun _=>true) true ts vs ds ps→Below W.heap.size W W'→(∀x∈ps,x.block<W.heap.size)→∀sp:Nat→Bool,(∀x∈ps,sp x.block=true)→GW enc P W' 0 sp true ts vs ds ps
 | [],[],[],_,_,h,_,_,_,_=>h
 | [],_::_,[],_,_,h,_,_,_,_=>h.elim
 | [],[],_::_,_,_,h,_,_,_,_=>h.elim
 | [],_::_,_::_,_,_,h,_,_,_,_=>h.elim
 | _::_,[],[],_,_,h,_,_,_,_=>h.elim
 | _::_,[],_::_,_,_,h,_,_,_,_=>h.elim
 | _::_,_::_,[],_,_,h,_,_,_,_=>h.elim
 | t::ts,v::vs,d::ds,ps,hr,h,hb,hlt,sp,hsp=>by
  obtain⟨p,q,h1,h2,rfl⟩:=h;simp only [HA,GK,decide_eq_true_eq] at hr;refine⟨p,q,?_,oo hl ts vs ds q hr.2 h2 hb (fun x hx=>hlt x (by simp [hx])) sp (fun x hx=>hsp x (by simp [hx])),rfl⟩
  exact WideElems.Trod_stays hl hr.1.1 hr.1.2 h1 (fun x hx=>hb.same (hlt x (by simp [hx]))) (fun x hx=>hsp x (by simp [hx]))
end
section
variable {H:Type} {enc:TypeId × Value→H} {P:Program}
theorem uD {f:Func} {s:ChangeSpec} {apart fresh handsOn again:Bool} {W W':World} {args:Array Value} {v:Value} {ds gs:List (DataW H)} {before pa pv:List MemPlace}
  (hW:DataW.Whole enc P f.params.toList s.vars apart W args.toList ds gs before)
  (hres:∀(b:Nat) (sp:Nat→Bool) (hd:Bool),GW enc P W' b sp hd f.resultTypes.toList (v.resultList f.resultTypes.size) (s.fn H (ds++gs)).results [])
  (hargs:∀sp:Nat→Bool,(∀p∈before,sp p.block=true)→GW enc P W' 0 sp true f.params.toList args.toList (s.fn H (ds++gs)).args pa)
  (hvars:∀sp:Nat→Bool,(∀p∈before,sp p.block=true)→DataW.TrodVars enc P W' sp s.vars (s.fn H (ds++gs)).vars pv)
  (hps:before=pa++pv) (hb:Below W.heap.size W W')
  (hok:∀(j:Nat) (t:TypeId) (r:Value),f.resultTypes[j]?=some t→(v.resultList f.resultTypes.size)[j]?=some r→Hj P W' .any 0 t r) :
  s.post enc P f apart fresh handsOn again W args v W':=by
 have hlt:∀p∈before,p.block<W.heap.size:=fun p hp=>hW.lt p hp
 have hold:∀p∈before,(fun b=>decide (b<W.heap.size)) p.block=true:=fun p hp=>by simpa using hlt p hp
 refine⟨ds,gs,before,[],pa,pv,hW,hres _ _ _,hargs _ hold,hvars _ hold,World.keptBut_mono (fun p hp=>⟨hp,?_⟩) (hb.frame (·∈before)),fun _=>?_⟩
 ·rw [hps,GY] at hp
  exact Or.inr hp
 ·obtain⟨_,_,_,_,_,hz,hn⟩:=hW
  refine⟨hok,_,_,([]++pa)++pv,⟨[]++pa,pv,trodAll_append (hargs _ (fun _ _=>rfl)) (hres _ _ _),hvars _ (fun _ _=>rfl),rfl,?_,?_⟩,?_⟩
  ·intro b off hp
   have hin:MemPlace.cell b off∈before:=by rw [hps];simpa using hp
   rw [hb.frozen (hlt _ hin)];exact hz b off hin
  ·intro ha
   have:=hn ha;rw [hps] at this;simpa using this
  ·intro p hp _
   rw [hps];simpa using hp
theorem sN {G:List (Nat × (Obj→Prop))} {f:FuncId} {S:FS} (hm:aw G P f S) {fn:Func} (hf:P.funcs[f]?=some fn) (hname:(fn.name== "runtime.NumGoroutine")=false) (hb:fn.body.isSome=true) {ds rs us:List D} (hd:S.f ds=some (.ret rs us)) {args:Array Value} {w:World} {F:Nat→Prop} {ow:Nat→Option Nat}
  (hgl:gOk G w F) (ha:dG w F ow 0 S.pm ds args.toList) (hF:∀b,F b→b<w.heap.size∧ow b=none) (hO:∀b i,ow b=some i→b<w.heap.size) :
  Calls P f args w fun e w'=>∃v,e = .returned v∧∃F' R vs,v=gS vs∧CallPost S args rs us w F ow F' R vs w':=by
 obtain⟨b,hb⟩:=Ha.1 hb;have h1:¬fn.name= "runtime.NumGoroutine":=by simpa using hname
 have hrun:(callFunc f args).run P w = .ok (.enter f args) w:=by simp [callFunc,hf,h1,hb]
 have h2:=hm ds rs us hd args w F ow hgl ha hF hO {(default:Oper) with dst:=some 0} {tmps:=#[undef],defers:=[]} (fun a w'=>∃F' R vs,a.tmps.getD 0 undef=gS vs∧CallPost S args rs us w F ow F' R vs w') (fun _ _ _=>False) (fun v w' h=>by
  obtain⟨F',R,vs,rfl,h⟩:=h;exact⟨F',R,vs,by simp [HK],h⟩)
 rw [hrun,GX] at h2;refine Hi h2 fun e w' he=>?_
 cases e with
 | returned v =>
  obtain⟨F',R,vs,h3,h4⟩:=he;exact⟨v,rfl,F',R,vs,by simpa [HK] using h3,h4⟩
 | panicked c=>exact he.elim
 | outgrown=>obtain⟨_,_,h⟩:=he;exact h.elim
theorem CS {G:List (Nat × (Obj→Prop))} {f:FuncId} {S:FS} (hm:aw G P f S) {fn:Func} (hf:P.funcs[f]?=some fn) (hname:(fn.name== "runtime.NumGoroutine")=false) (hbd:fn.body.isSome=true) (shs:List Sh) {rt:TypeId}
  (hl:laidOutB P=true) (hsh:rp P shs fn.params.toList S.pm=true) (hrd:(fn.params.toList.all fun t=>P.readableRec t&&decide (t<P.types.size))=true)
  (hrm:S.rm=[.dat 0]) (hrt:fn.resultTypes=#[rt]) (hbool:P.underlying rt=some .bool)
  (hd:∀ds,xB shs ds→S.f ds=some (.ret [B true] [])) {s:ChangeSpec} (hvars:s.vars=[])
  (hs:∀ds:List (DataW H),ds.length=fn.params.size→s.fn H (ds++[])={results:=[.lit (.bool true)],args:=ds})
  {W:World} {base:Nat} {args:Array Value} {ds gs:List (DataW H)} {before:List MemPlace}
  (hval:∀(j:Nat) t v,fn.params[j]?=some t→args[j]?=some v→Hj P W .any base t v) (hW:DataW.Whole enc P fn.params.toList s.vars false W args.toList ds gs before) (hgl:gOk G W fun b=>b<W.heap.size) {fresh handsOn again:Bool} :
  Calls P f args W fun e W'=>∃v,e = .returned v∧s.post enc P fn false fresh handsOn again W args v W':=by
 have hW':=hW;have hlt:∀p∈before,p.block<W.heap.size:=fun p hp=>hW.lt p hp
 obtain⟨p,q,hA,hV,rfl,hfz,hnd⟩:=hW;rw [hvars] at hV;have hgs:gs=[]∧q=[]:=by
  cases gs with
  | nil=>exact⟨rfl,hV⟩
  | cons _ _=>exact hV.elim
 obtain⟨rfl,rfl⟩:=hgs;obtain⟨xs,h1,h2⟩:=zF (base:=base) shs fn.params.toList S.pm args.toList ds p 0 hsh hA (fun j t v ht hv=>hval j t v (by simpa using ht) (by simpa using hv));refine Hi (sN hm hf hname hbd (hd xs h1) hgl h2 (fun b hb=>⟨hb,rfl⟩) (fun b i hi=>by cases hi)) fun e W' he=>?_
 obtain⟨v,rfl,F',R,vs,rfl,hp⟩:=he;refine⟨_,rfl,?_⟩
 have hlen:ds.length=fn.params.size:=by
  have:∀(ts:List TypeId) (vs:List Value) (ds:List (DataW H)) (ps:List MemPlace),GW enc P W 0 (fun _=>true) true ts vs ds ps→ds.length=ts.length:=by
   intro ts;induction ts with
   | nil =>
    intro vs ds ps h;cases ds with
    | nil=>rfl
    | cons _ _=>cases vs<;>exact h.elim
   | cons t ts ih =>
    intro vs ds ps h;cases vs with
    | nil=>exact h.elim
    | cons v vs =>
     cases ds with
     | nil=>exact h.elim
     | cons d ds =>
      obtain⟨_,_,_,h2,_⟩:=h;simp [ih _ _ _ h2]
  simpa using this _ _ _ _ hA
 have hB:Below W.heap.size W W':=⟨hp.os,hp.tape,hp.output,hp.size,fun b hb=>hp.keep b hb rfl⟩
 have hres:gS vs = .bool true:=by
  have hl1:=hp.len;rw [hrm] at hl1
  match vs,hl1 with
  | [y],_ =>
   have h0:=hp.res 0;rw [hrm] at h0;simp only [ak,nth,GU] at h0;rcases h0 with h0 | h0
   ·cases h0
   ·exact(iL.1 h0).1
 rw [hres];have hsd:=hs ds hlen;refine uD (pa:=p) (pv:=[]) hW' (fun b sp hd'=>?_) (fun sp hsp=>?_) (fun sp _=>?_) rfl hB ?_
 ·rw [hsd,hrt]
  exact trodAll_mk1 (shut_bool hbool true)
 ·rw [hsd]
  exact oo hl _ _ _ _ hrd hA hB (fun x hx=>hlt x (by simp [hx])) sp (fun x hx=>hsp x (by simp [hx]))
 ·rw [hsd,hvars]
  rfl
 ·exact ok_one hrt rfl (okWide_bool_mk hbool true)
end
end Go.V

namespace Go.Proofs.YtidhhpakdogiaaaGreatDoor
open Go Go.V Go.RowKit Go.WideShapes Go.ChangeShapes
set_option maxRecDepth 100000
theorem own:ownKnob Tryz.prog.godebug=none:=by kernel_rfl
theorem Em:laidOutB Tryz.prog=true:=by kernel_rfl
theorem lc {w:World} {g:Nat} {p:Obj→Prop} (h:∃o,w.heap[g]?=some o∧p o):g<w.heap.size∧∃o,w.heap[g]?=some o∧p o:=by
 obtain⟨o,ho,hp⟩:=h;exact⟨(Hm.1 ho).1,o,ho,hp⟩
theorem Fb {W:World} (hsh:W.ShapedOpen Tryz.prog):gOk gl0 W fun b=>b<W.heap.size:=by
 intro p hp;simp only [gl0,Hl,Hr,or_false] at hp;subst hp;obtain⟨m,hm⟩:=Go.Proofs.cell_of_shapedOpen_int (g:=0) (zero:=#[.int .i64 0]) (t:=3) hsh (of_decide_eq_true (by kernel_rfl)) (by kernel_rfl) rfl (by kernel_rfl) (by kernel_rfl) Tryz.underlying3;exact lc (BF hm)
theorem Gw:Tryz.prog.globalNamed "internal/strconv.uint64pow10"=some 3:=by kernel_rfl
theorem Fq {W:World} {rest:List (String × DataW Unit)} (h:laidMet Tryz.prog (("internal/strconv.uint64pow10",Rows.laid_internal_strconv_uint64pow10)::rest) W):Hh Tryz.prog W "internal/strconv.uint64pow10" .u64 Hb :=
 Lib.tabIs_of_head (rest:=rest) Gw (by kernel_rfl) Tryz.underlying174 Tryz.underlying71 (by kernel_rfl) (by kernel_rfl) h
theorem Fh {W:World} (hsh:W.ShapedOpen Tryz.prog) (hp:Hh Tryz.prog W "internal/strconv.uint64pow10" .u64 Hb):gOk gl1 W fun b=>b<W.heap.size:=by
 intro p hq;rcases GY.1 hq with hq | hq
 ·exact Fb hsh p hq
 ·simp only [Hl,Hr,or_false] at hq
  subst hq;exact lc (yV Gw hp)
theorem gES:Tryz.prog.globalNamed "strconv.ErrSyntax"=some 1:=by kernel_rfl
theorem gER:Tryz.prog.globalNamed "strconv.ErrRange"=some 2:=by kernel_rfl
theorem Ga: "*"++ "errors.errorString"= "*errors.errorString":=by decide
theorem Ai (u:TypeId) (h:Tryz.prog.typeName? 3 u=some "*errors.errorString"):u=179 :=
 typeName_ptr_named (nm:= "errors.errorString") (by rw [Ga];kernel_rfl) (by kernel_rfl) (by decide) u (by rw [Ga];exact h)
theorem Gi {W:World} {rest:List (String × DataW Unit)} (h:laidMet Tryz.prog (("strconv.ErrSyntax",Rows.laid_strconv_ErrSyntax)::rest) W):∃tp p,W.var? Tryz.prog "strconv.ErrSyntax"=some #[.iface tp p]:=by
 obtain⟨a0,s0,hv0,-,-,-⟩:=laid_sentinel h gES (by kernel_rfl) Tryz.underlying117 Ai Tryz.underlying179 Tryz.underlying181 rfl rfl Tryz.underlying9 (by kernel_rfl) (by kernel_rfl);exact⟨_,_,hv0⟩
theorem Gv {W:World} {rest:List (String × DataW Unit)} (h:laidMet Tryz.prog (("strconv.ErrRange",Rows.laid_strconv_ErrRange)::rest) W):∃tp p,W.var? Tryz.prog "strconv.ErrRange"=some #[.iface tp p]:=by
 obtain⟨a0,s0,hv0,-,-,-⟩:=laid_sentinel h gER (by kernel_rfl) Tryz.underlying117 Ai Tryz.underlying179 Tryz.underlying181 rfl rfl Tryz.underlying9 (by kernel_rfl) (by kernel_rfl);exact⟨_,_,hv0⟩
theorem Fj {W:World} (hsh:W.ShapedOpen Tryz.prog) (hp:Hh Tryz.prog W "internal/strconv.uint64pow10" .u64 Hb) (hs:∃tp p,W.var? Tryz.prog "strconv.ErrSyntax"=some #[.iface tp p]) (hr:∃tp p,W.var? Tryz.prog "strconv.ErrRange"=some #[.iface tp p]) :
  gOk gl2 W fun b=>b<W.heap.size:=by
 intro p hq;rcases GY.1 hq with hq | hq
 ·exact Fh hsh hp p hq
 ·simp only [Hl,Hr,or_false] at hq
  obtain⟨_,_,hs⟩:=hs;obtain⟨_,_,hr⟩:=hr;rcases hq with rfl | rfl
  ·exact lc (ym gES hs)
  ·exact lc (ym gER hr)
end Go.Proofs.YtidhhpakdogiaaaGreatDoor

namespace Go.Proofs.YtidhhpakdogiaaaGreatDoor
open Go.V
set_option maxRecDepth 100000
theorem jS:Tryz.prog.follows .mixedOrders=true:=by kernel_rfl
theorem aM {c:Cx} {S:FS} {f:FuncId} {fn:Func} (hS:∀f S,ci c.S f=some S→aw c.G Tryz.prog f S) (hf:Tryz.prog.funcs[f]?=some fn) (hres:c.res=fn.results.toList) (hF:S.f=bM c fn)
  (hb:(okT Tryz.prog c.T&&(!(fn.name== "runtime.NumGoroutine")&&yZ c fn S.pm S.rm))=true):aw c.G Tryz.prog f S:=by
 obtain⟨pm,rm,g⟩:=S;cases hF;simp only [GK,Hn] at hb;exact yj hb.1 hS jS hf hb.2.1 hb.2.2 hres
@[reducible] def GI:TI:={n:=1,zero:=[.v (.int .i32 0)],ik:=some .i32}
@[reducible] def ja:Cx:={K:=[Y,.no,Y,Y,Y,Y,Y,Y,Y],T:=[(21,GI)],S:=[],H:=[],res:=[.tmp 2],ios:=[],G:=gl0}
def dO:List D→Option Out:=bM ja Tryz.f97
@[reducible] def oG:FS:={pm:=[Y],rm:=[Y],f:=dO}
theorem oF:aw gl0 Tryz.prog 97 oG:=aM (c:=ja) aB Tryz.func97 rfl rfl (by kernel_rfl)
open Go Go.V
set_option maxRecDepth 100000
theorem oR (x0:D):dO [x0]=((bin .lss false [] x0 (.v (HP IntKind.i32 48))).bind fun z=>(ab (.tup []) z false (some x0)).bind fun c=>(ab (.tup []) z false (bin .gtr false [] c (.v (HP IntKind.i32 57)))).bind fun d=>(aE z (B true) d).bind fun z=>some (.ret [z] [])):=by kernel_rfl
end Go.Proofs.YtidhhpakdogiaaaGreatDoor

namespace Go.V
set_option maxRecDepth 100000
section
variable {k:IntKind} {a b:Int} {bl:Bool} {eq:List Nat}
@[simp] theorem eX:bin .add bl eq (.v (.int k a)) (.v (.int k b))=some (.v (.int k (k.wrap (a+b)))):=by simp [bin,fe]
@[simp] theorem nh:bin .sub bl eq (.v (.int k a)) (.v (.int k b))=some (.v (.int k (k.wrap (a - b)))):=by simp [bin,fe]
@[simp] theorem we:bin .mul bl eq (.v (.int k a)) (.v (.int k b))=some (.v (.int k (k.wrap (a*b)))):=by simp [bin,fe]
@[simp] theorem Al:bin .quo bl eq (.v (.int k a)) (.v (.int k b))=if b=0 then none else some (.v (.int k (k.wrap (a.tdiv b)))):=by simp [bin,fe]
@[simp] theorem DA:bin .rem bl eq (.v (.int k a)) (.v (.int k b))=if b=0 then none else some (.v (.int k (a.tmod b))):=by simp [bin,fe]
@[simp] theorem dL:bin .lss bl eq (.v (.int k a)) (.v (.int k b))=some (B (decide (a<b))):=by simp [bin,fe]
@[simp] theorem Ae:bin .leq bl eq (.v (.int k a)) (.v (.int k b))=some (B (decide (a≤b))):=by simp [bin,fe]
@[simp] theorem iv:bin .gtr bl eq (.v (.int k a)) (.v (.int k b))=some (B (decide (b<a))):=by simp [bin,fe]
@[simp] theorem Af:bin .geq bl eq (.v (.int k a)) (.v (.int k b))=some (B (decide (b≤a))):=by simp [bin,fe]
@[simp] theorem lh:bin .eql bl eq (.v (.int k a)) (.v (.int k b))=some (B (decide (a=b))):=by
 have:(a==b)=decide (a=b):=rfl;simp [bin,fe,this]
@[simp] theorem sm:bin .neq bl eq (.v (.int k a)) (.v (.int k b))=some (B (!decide (a=b))):=by
 have:(a != b) = !decide (a=b):=rfl;simp [bin,fe,this]
@[simp] theorem ke {a b:Bool}:bin .eql true eq (B a) (B b)=some (B (a==b)):=by simp [bin]
@[simp] theorem xZ {a b:Bool}:bin .neq true eq (B a) (B b)=some (B !(a==b)):=by simp [bin]
@[simp] theorem qf {a b:ByteArray}:bin .add bl eq (T a) (T b)=if a.size+b.size≤1152921504606846976 then some (T (a++b)) else none:=by simp [bin,qG]
@[simp] theorem dS {a b:ByteArray}:bin .eql bl eq (T a) (T b)=some (B (decide (a=b))):=by
 have:(a.toList==b.toList)=decide (a=b):=by
  rw [Bool.eq_iff_iff,beq_iff_eq,decide_eq_true_eq];constructor
  ·intro h
   have h1:∀s:ByteArray,s.toList=s.data.toList:=fun s=>by simp [ByteArray.toList_eq]
   rw [h1,h1] at h;cases a;cases b;simp at h;simp [h]
  ·rintro rfl;rfl
 simp [bin,qG,this]
@[simp] theorem mO {a b:ByteArray}:bin .neq bl eq (T a) (T b)=some (B (!decide (a=b))):=by
 have h:=dS (a:=a) (b:=b) (bl:=bl) (eq:=eq);simp only [bin,qG,GL,D.v.injEq,Value.bool.injEq] at h ⊢;rw [h]
@[simp] theorem wb {b:Bool}:un .not (B b)=some (B !b):=rfl
@[simp] theorem GG:un .neg (.v (.int k a))=some (.v (.int k (k.wrap (-a)))):=by simp [un]
theorem aA (h1 : -9223372036854775808≤a) (h2:a<9223372036854775808):IntKind.i64.wrap a=a:=by
 simp [IntKind.wrap,IntKind.bits,IntKind.signed];split<;>omega
end
@[simp] theorem ep {c:Bool} {t e:Option Out}:ifD (B c) t e=if c=true then t else e:=by cases c<;>rfl
@[simp] theorem vn {c:Bool} {t e:Option Out}:ifN c t e=if c=true then t else e:=by cases c<;>rfl
@[simp] theorem oO {v:D} {c:Bool} {r:Option D}:ab v (B c) true r=if c=true then r else some v:=by cases c<;>rfl
@[simp] theorem qo {v:D} {c:Bool} {r:Option D}:ab v (B c) false r=if c=true then some v else r:=by cases c<;>rfl
@[simp] theorem wu {v:D} {p:Bool} {l:List D} {r:Option D}:ab v (.tup l) p r=some v:=rfl
@[simp] theorem Am {p:Bool} {l:List D} {r:Option Out} {alt:List D} {k:List D→Option Out}:dE (.tup l) p r alt k=k alt:=rfl
def Fw (r:Option Out) (k:List D→Option Out):Option Out :=
 match r with
 | some (.nrm l)=>k l
 | _=>none
@[simp] theorem qC {l:List D} {k:List D→Option Out}:Fw (some (.nrm l)) k=k l:=rfl
@[simp] theorem An {c:Bool} {r:Option Out} {alt:List D} {k:List D→Option Out}:dE (B c) true r alt k=if c=true then Fw r k else k alt:=by cases c<;>rfl
@[simp] theorem wy {c:Bool} {r:Option Out} {alt:List D} {k:List D→Option Out}:dE (B c) false r alt k=if c=true then k alt else Fw r k:=by cases c<;>rfl
@[simp] theorem gx {c:Bool} {a b:D}:aE (B c) a b=some (if c=true then a else b):=by cases c<;>rfl
@[simp] theorem bW {rs us:List D} {k:List D→List D→Option Out}:aj (some (.ret rs us)) k=k rs us:=rfl
@[simp] theorem kC {i:Nat} {s:List D} {x:Nat→List D→Option Out} {r:List D→List D→Option Out}:cH (.ext i s) x r=x i s:=rfl
@[simp] theorem md {a b:List D} {x:Nat→List D→Option Out} {r:List D→List D→Option Out}:cH (.ret a b) x r=r a b:=rfl
@[simp] theorem Gz {v:Value} {x:D}:aa (.v v) x=some x:=rfl
@[simp] theorem vd {z:Nat} {l:List D} {x:D}:aa (.arr z l) x=some x:=rfl
@[simp] theorem dZ {l:List D} {x:D}:aa (.agg l) x=some x:=rfl
@[simp] theorem vM {i f:Nat} {x:D}:aa (.ref i f) x=some x:=rfl
@[simp] theorem FR {l:List D} {x:D}:aa (.tup l) x=some x:=rfl
@[simp] theorem kN {z:Nat} {l:List D}:lenD false (.arr z l)=some (I l.length):=rfl
@[simp] theorem dz {s:ByteArray}:lenD true (T s)=some (I s.size):=rfl
@[simp] theorem bA {a:D} {l:List D}:sl (a::l) 0=a:=rfl
@[simp] theorem cn {a:D} {l:List D} {n:Nat}:sl (a::l) (n+1)=sl l n:=rfl
@[simp] theorem Ge {ag:Bool} {n off:Nat} {l:List D}:aX ag n off (.agg l)=ao ag n (l.drop off):=rfl
@[simp] theorem qi {ag:Bool} {n:Nat} {l:List D}:ldD ag n (.ptr l)=ao ag n l:=rfl
@[simp] theorem xV {off:Nat} {l:List D}:Eg off (.ptr l)=some (.ptr (l.drop off)):=rfl
@[simp] theorem GB {n:Nat} {l:List D}:ao true n l=if n≤l.length then some (.agg (l.take n)) else none:=rfl
@[simp] theorem pL {n:Nat} {a:D} {l:List D}:ao false n (a::l)=some a:=rfl
@[simp] theorem Ad {l:List D} {i f:Nat}:atD (.agg l) (.ref i f)=some (l.drop f):=rfl
@[simp] theorem GA {z:Nat} {l:List D} {i f:Nat}:atD (.arr z l) (.ref i f)=(l[i]?).map fun d=>d.cells.drop f:=rfl
@[simp] theorem FK {off i f:Nat}:dc off (.ref i f)=some (.ref i (f+off)):=rfl
@[simp] theorem vA {z:Nat} {l:List D} {k:IntKind} {i:Nat}:aH z (.arr z l) (.v (.int k (i:Int)))=(l[i]?).map D.cells:=by simp [aH]
@[simp] theorem CD {z:Nat} {l:List D} {k:IntKind} {i:Nat}:uZ z (.arr z l) (.v (.int k (i:Int)))=if i<l.length then some (.ref i 0) else none:=by simp [uZ]
@[simp] theorem EO {l:List D}:(D.agg l).cells=l:=rfl
@[simp] theorem FP {v:Value}:(D.v v).cells=[.v v]:=rfl
@[simp] theorem EN {z:Nat} {l:List D}:(D.arr z l).cells=[.arr z l]:=rfl
@[simp] theorem sP {v:Value}:bg (.v v)=some (.v v):=rfl
@[simp] theorem Gd {l:List D}:bg (.agg l)=if l.all wA=true then some (.agg l) else none:=by
 have:(D.agg l).isV=l.all wA:=by
  simp only [D.isV];congr 1
 simp [bg,this]
@[simp] theorem GH {v:Value}:wA (.v v)=true:=rfl
@[simp] theorem Gq {z:Nat} {l:List D}:wA (.arr z l)=false:=rfl
@[simp] theorem FY {v:Value}:(D.v v).single=true:=rfl
@[simp] theorem Fs {z:Nat} {l:List D}:(D.arr z l).single=true:=rfl
@[simp] theorem FT {l:List D}:(D.agg l).width=l.length:=rfl
@[simp] theorem Gx {v:Value}:(D.v v).width=1:=rfl
@[simp] theorem FO {z:Nat} {l:List D}:(D.arr z l).width=1:=rfl
@[simp] theorem GC {n:Nat} {x:D}:iS n x=if x.cells.length=n∧x.cells.all D.single=true then some (.agg x.cells) else none:=rfl
@[simp] theorem Gy {n i f:Nat} {l:List D} {x:D}:stD n (.agg l) (.ref i f) x=if x.cells.length=n∧f+n≤l.length∧x.cells.all D.single=true then some (.agg (putCells l f x.cells)) else none:=rfl
@[simp] theorem Fa {l:List D} {f:Nat} {vs:List D}:putCells l f vs=l.take f++vs++l.drop (f+vs.length):=rfl
@[simp] theorem FQ {l:List D} {i:Nat}:bB (.tup l) i=match l[i]? with
  | some .bad=>none
  | some (.tup _)=>none
  | r=>r:=rfl
@[simp] theorem FD {l:List D} {i:Nat}:oN (.tup l) i = .tup (l.set i .bad):=rfl
@[simp] theorem jD {x:D}:bp (.ref 0 0) x=some x:=rfl
@[simp] theorem jz {z eb:Nat} {l m:List D}:fT z eb (.arr z l) (.arr z m)=if (l.length+m.length)*eb≤140737488355328∧l.length+m.length≤1152921504606846976 then some (.arr z (l++m)) else none:=by simp [fT]
@[simp] theorem FC {z:Nat} {l:List D} {k:IntKind} {i:Nat}:aH z (.arr z l) (.v (.int k ((i:Int)+1)))=(l[i+1]?).map D.cells:=vA (i:=i+1)
@[simp] theorem FJ {z:Nat} {l:List D} {k:IntKind}:aH z (.arr z l) (.v (.int k 0))=(l[0]?).map D.cells:=vA (i:=0)
@[simp] theorem Gj {z eb:Nat} {x:D} {k k':IntKind} {n m:Nat}:DG z eb x (.v (.int k (n:Int))) (.v (.int k' (m:Int)))=if n≤m∧m*eb≤140737488355328∧m≤140737488355328 then some (.arr z (HL n x)) else none:=by
 have h:((n:Int)≤m∧(m:Int)*(eb:Int)≤140737488355328∧(m:Int)≤140737488355328)↔(n≤m∧m*eb≤140737488355328∧m≤140737488355328):=by
  rw [←Int.natCast_mul];omega
 simp only [DG,Int.natCast_nonneg,true_and,h,HF]
theorem CL {z i:Nat} {L:List D} {v w:Value} (h:L[i]?=some (.v w)):stD 1 (.arr z L) (.ref i 0) (.v v)=some (.arr z (L.set i (.v v))):=by
 simp [stD,h,D.ofCells]
def ER {β:Type} (f:β→D) (z:D) (l:List β) (i:Nat):List D:=(l.take i).map f++HL (l.length - i) z
section
variable {β:Type} {f:β→D} {z:D} {l:List β} {i:Nat}
@[simp] theorem EC (h:i≤l.length):(ER f z l i).length=l.length:=by simp [ER];omega
end
def EX {β:Type} (g:Nat→D) (f:β→D) (l:List β) (i:Nat):List D:=(List.range i).map g++(l.drop i).map f
section
variable {β:Type} {g:Nat→D} {f:β→D} {l:List β} {i:Nat}
@[simp] theorem Dy (h:i≤l.length):(EX g f l i).length=l.length:=by simp [EX];omega
end
theorem jX {z:Nat}:aC z []=some (.arr z []):=rfl
@[simp] theorem ko {β:Type} {z:Nat} {l:List β} {f:β→D} (h:∀x,(f x).isV=true):iu (.arr z (l.map f))=some (.arr z (l.map f)):=by
 have:(l.map f).all D.isV=true:=by simp [h]
 simp only [iu,this,if_true]
theorem rA {z i:Nat} {l:List D} {k:IntKind} (h:i≤l.length):bR false z (.arr z l) (.v (.int k (i:Int)))=some (.arr z (l.drop i)):=by
 simp only [bR,HF,true_and];rw [if_pos];omega
@[simp] theorem GJ {p:Prop} [Decidable p] {a b:Bool}:(if p then D.v (.bool a) else D.v (.bool b))=D.v (.bool (if p then a else b)):=by split<;>rfl
theorem qR {body:List D→Option Out}:∀(n:Nat) (s:List D) (o:Out),iter body n s=some o→∀m,n≤m→iter body m s=some o
 | 0,_,_,h,_,_=>by simp [iter] at h
 | n+1,s,o,h,m,hm=>by
  obtain⟨m,rfl⟩:∃q,m=q+1:=⟨m - 1,by omega⟩
  simp only [iter] at h ⊢;split at h
  ·rename_i s' hb
   exact qR n s' o h m (by omega)
  ·exact h
theorem Dp {body:List D→Option Out} {s:List D} {o:Out} (n:Nat) (h:iter body n s=some o):aY body s=some o:=by
 have hex:∃n,(iter body n s).isSome=true:=⟨n,by rw [h];rfl⟩
 unfold aY;rw [dif_pos hex];obtain⟨o',ho⟩:=Ha.1 (Hy hex);rw [ho];have h1:=qR _ _ _ ho (max n (Hg hex)) (by omega);have h2:=qR _ _ _ h (max n (Hg hex)) (by omega);rw [h1] at h2;exact h2
inductive Runs (body:List D→Option Out):List D→Out→Prop where
 | ext {s:List D} {i:Nat} {δ:List D}:body s=some (.ext i δ)→Runs body s (.ext i δ)
 | ret {s:List D} {rs us:List D}:body s=some (.ret rs us)→Runs body s (.ret rs us)
 | nrm {s s':List D} {o:Out}:body s=some (.nrm s')→Runs body s' o→Runs body s o
theorem Runs.iter {body:List D→Option Out} {s:List D} {o:Out} (h:Runs body s o):∃n,V.iter body n s=some o:=by
 induction h with
 | ext h=>exact⟨1,by simp [V.iter,h]⟩
 | ret h=>exact⟨1,by simp [V.iter,h]⟩
 | nrm h _ ih =>
  obtain⟨n,hn⟩:=ih;exact⟨n+1,by simp [V.iter,h,hn]⟩
theorem Runs.loop {body:List D→Option Out} {s:List D} {o:Out} (h:Runs body s o):aY body s=some o:=by
 obtain⟨n,hn⟩:=h.iter;exact Dp n hn
def goL {α β:Type} (g:Nat→β→α→α ⊕ Out) (fin:α→Out):Nat→List β→α→Out
 | _,[],a=>fin a
 | i,x::l,a=>match g i x a with
  | .inl a'=>goL g fin (i+1) l a'
  | .inr o=>o
def Out.ends:Out→Bool
 | .nrm _=>false
 | _=>true
theorem Runs.one {body:List D→Option Out} {s:List D} {o:Out} (h:body s=some o) (ho:o.ends=true):Runs body s o:=by
 cases o with
 | nrm _=>simp [Out.ends] at ho
 | ext _ _=>exact .ext h
 | ret _ _=>exact .ret h
theorem Runs.list {α β:Type} {body:List D→Option Out} (l:List β) (st:Nat→α→List D) (Inv:Nat→α→Prop) (g:Nat→β→α→α ⊕ Out) (fin:α→Out)
  (hs:∀i x a,l[i]?=some x→Inv i a→match g i x a with
   | .inl a'=>body (st i a)=some (.nrm (st (i+1) a'))∧Inv (i+1) a'
   | .inr o=>body (st i a)=some o∧o.ends=true)
  (he:∀a,Inv l.length a→body (st l.length a)=some (fin a)∧(fin a).ends=true) (a:α) (h0:Inv 0 a):Runs body (st 0 a) (goL g fin 0 l a):=by
 have key:∀(n i:Nat) (a:α),i+n=l.length→Inv i a→Runs body (st i a) (goL g fin i (l.drop i) a):=by
  intro n;induction n with
  | zero =>
   intro i a hi hI;have:i=l.length:=by omega
   subst this;rw [List.drop_length];exact Runs.one (he a hI).1 (he a hI).2
  | succ n ih =>
   intro i a hi hI;have hlt:i<l.length:=by omega
   rw [List.drop_eq_getElem_cons hlt];have h:=hs i l[i] a (GT hlt) hI;simp only [goL];split at h
   ·exact .nrm h.1 (ih (i+1) _ (by omega) h.2)
   ·exact Runs.one h.1 h.2
 simpa using key l.length 0 a (by omega) h0
theorem re {α β:Type} {body:List D→Option Out} (l:List β) (st:Nat→α→List D) (Inv:Nat→α→Prop) (g:Nat→β→α→α ⊕ Out) (fin:α→Out)
  (hs:∀i x a,l[i]?=some x→Inv i a→match g i x a with
   | .inl a'=>body (st i a)=some (.nrm (st (i+1) a'))∧Inv (i+1) a'
   | .inr o=>body (st i a)=some o∧o.ends=true)
  (he:∀a,Inv l.length a→body (st l.length a)=some (fin a)∧(fin a).ends=true) (a:α) (h0:Inv 0 a) {s0:List D} (h:s0=st 0 a):aY body s0=some (goL g fin 0 l a):=by
 rw [h];exact(Runs.list l st Inv g fin hs he a h0).loop
theorem pK {body:List D→Option Out} (n:Nat) (st:Nat→List D) (o:Out) (hs:∀i,i<n→body (st i)=some (.nrm (st (i+1)))) (he:body (st n)=some o) (ho:o.ends=true) {s0:List D} (h:s0=st 0):aY body s0=some o:=by
 rw [h];have key:∀(m i:Nat),i+m=n→Runs body (st i) o:=by
  intro m;induction m with
  | zero =>
   intro i hi;have:i=n:=by omega
   subst this;exact Runs.one he ho
  | succ m ih=>exact fun i hi=>.nrm (hs i (by omega)) (ih (i+1) (by omega))
 exact(key n 0 (by omega)).loop
def uQ {β:Type} (p:Nat→β→Bool):Nat→List β→Bool
 | _,[]=>true
 | i,x::l=>p i x&&uQ p (i+1) l
theorem jd {β:Type} {body:List D→Option Out} (l:List β) (st:Nat→List D) (p:Nat→β→Bool) (o1 o2:Out) (hs:∀(i:Nat) (hi:i<l.length),body (st i)=some (if p i l[i]=true then .nrm (st (i+1)) else o1)) (he:body (st l.length)=some o2)
  (h1:o1.ends=true) (h2:o2.ends=true) {s0:List D} (h:s0=st 0):aY body s0=some (if uQ p 0 l=true then o2 else o1):=by
 have e:∀(m:List β) (i:Nat),goL (fun i x (_:Unit)=>if p i x=true then .inl () else .inr o1) (fun _=>o2) i m ()=if uQ p i m=true then o2 else o1:=by
  intro m;induction m with
  | nil=>intro i;simp [goL,uQ]
  | cons x m ih =>
   intro i;simp only [goL,uQ];by_cases hp:p i x=true
   ·simp [hp,ih]
   ·simp [hp]
 rw [←e];refine re l (fun i _=>st i) (fun _ _=>True) _ _ (fun i x a hx _=>?_) (fun _ _=>⟨he,h2⟩) () trivial h
 have hi:i<l.length:=(GR.1 hx).1;have hxe:l[i]=x:=(GR.1 hx).2;have:=hs i hi;rw [hxe] at this;by_cases hp:p i x=true
 ·simpa [hp] using this
 ·simpa [hp,h1] using this
def dF {α β:Type} (f:Nat→α→β→α):Nat→List β→α→α
 | _,[],a=>a
 | i,x::l,a=>dF f (i+1) l (f i a x)
theorem bJ {α β:Type} {body:List D→Option Out} (l:List β) (st:Nat→α→List D) (Inv:Nat→α→Prop) (f:Nat→α→β→α) (fin:α→Out) (a:α) (hs:∀(i:Nat) (a:α) (hi:i<l.length),Inv i a→body (st i a)=some (.nrm (st (i+1) (f i a l[i])))∧Inv (i+1) (f i a l[i]))
  (he:∀a,Inv l.length a→body (st l.length a)=some (fin a)) (h1:∀a,(fin a).ends=true) (h0:Inv 0 a) {s0:List D} (h:s0=st 0 a):aY body s0=some (fin (dF f 0 l a)):=by
 have e:∀(m:List β) (i:Nat) (a:α),goL (fun i x a=>.inl (f i a x)) fin i m a=fin (dF f i m a):=by
  intro m;induction m with
  | nil=>intro i a;rfl
  | cons x m ih=>intro i a;simp only [goL,dF];exact ih (i+1) (f i a x)
 rw [←e l 0 a];refine re l st Inv (fun i x a=>.inl (f i a x)) _ (fun i x a hx hI=>?_) (fun a hI=>⟨he a hI,h1 a⟩) a h0 h
 have hi:i<l.length:=(GR.1 hx).1;have hxe:l[i]=x:=(GR.1 hx).2;rw [←hxe];exact hs i a hi hI
theorem aP {body:List D→Option Out} {s0:List D} {K:Out→Option Out} {r:Option Out} (o:Out) (h:aY body s0=some o) (hk:K o=r):(aY body s0).bind K=r:=by
 rw [h];exact hk
theorem DH {α:Type} {body:List D→Option Out} (st:α→List D) (Inv:α→Prop) (μ:α→Nat) (Q:α→Out→Prop)
  (hs:∀a,Inv a→(∃a',body (st a)=some (.nrm (st a'))∧Inv a'∧μ a'<μ a∧∀o,Q a' o→Q a o)∨∃o,body (st a)=some o∧o.ends=true∧Q a o) (a:α) (h:Inv a) {s0:List D} (h0:s0=st a):∃o,aY body s0=some o∧Q a o:=by
 rw [h0];have key:∀(n:Nat) (a:α),μ a<n→Inv a→∃o,Runs body (st a) o∧Q a o:=by
  intro n;induction n with
  | zero=>exact fun a h=>by omega
  | succ n ih =>
   intro a hn hI;rcases hs a hI with ⟨a',h1,h2,h3,h4⟩ | ⟨o,h1,h2,h3⟩
   ·obtain⟨o,h5,h6⟩:=ih a' (by omega) h2
    exact⟨o,.nrm h1 h5,h4 o h6⟩
   ·exact⟨o,Runs.one h1 h2,h3⟩
 obtain⟨o,h1,h2⟩:=key (μ a+1) a (by omega) h;exact⟨o,h1.loop,h2⟩
theorem cB {α:Type} {body:List D→Option Out} {K:Out→Option Out} (R:Option Out→Prop) (st:α→List D) (Inv:α→Prop) (μ:α→Nat) (Q:Out→Prop)
  (hs:∀a,Inv a→(∃a',body (st a)=some (.nrm (st a'))∧Inv a'∧μ a'<μ a)∨∃o,body (st a)=some o∧o.ends=true∧Q o) (a:α) (h:Inv a) {s0:List D} (h0:s0=st a) (hk:∀o,Q o→R (K o)):R ((aY body s0).bind K):=by
 obtain⟨o,h1,h2⟩:=DH st Inv μ (fun _ o=>Q o) (fun a ha=>by
  rcases hs a ha with ⟨a',g1,g2,g3⟩ | h
  ·exact .inl ⟨a',g1,g2,g3,fun _ h=>h⟩
  ·exact .inr h) a h h0
 rw [h1];exact hk o h2
theorem ai:(type_of% @bA)∧(type_of% @cn)∧(type_of% @dZ)∧(type_of% @vM)∧(type_of% @vd)∧(type_of% @jD)∧(∀{α β:Type} (a:α) (f:α→Option β),(some a).bind f=f a)∧(∀{α β:Type} (a:α) (f:α→β),(some a).map f=some (f a))∧(type_of% @bW)∧(type_of% @oO)∧(type_of% @qo)∧(type_of% @wu)∧(type_of% @An)∧(type_of% @wy)∧(type_of% @Am)∧(type_of% @qC)∧(type_of% @gx)∧(type_of% @ep)∧(type_of% @vn)∧(∀{α:Type} {_h:Decidable True} (t e:α),(if True then t else e)=t)∧(∀{α:Type} {_h:Decidable False} (t e:α),(if False then t else e)=e)∧(type_of% @GO)∧(type_of% @wb)∧(type_of% @Bool.not_true)∧(type_of% @HM)∧(type_of% @decide_true)∧(type_of% @decide_false)∧(type_of% @and_self)∧(type_of% @kC)∧(type_of% @Nat.beq_refl)∧(type_of% @dL)∧(type_of% @iv)∧(type_of% @Ae)∧(type_of% @Af)∧(type_of% @lh)∧(type_of% @sm)∧(type_of% @eX)∧(type_of% @nh)∧(type_of% @we)∧(type_of% @kN)∧(type_of% @dz)∧(∀{α β:Type} {l:List α} (f:α→β),(l.map f).length=l.length)∧(type_of% @qi)∧(type_of% @pL)∧(type_of% @sP)∧(type_of% @xV)∧(∀{α:Type} {l:List α},l.drop 0=l)∧(∀{α:Type} {a:α} {l:List α} {i:Nat},(a::l).drop (i+1)=l.drop i)∧(type_of% @Ad)∧(type_of% @jX) :=
 ⟨@bA,⟨@cn,⟨@dZ,⟨@vM,⟨@vd,⟨@jD,⟨@Hp,⟨@Option.map_some,⟨@bW,⟨@oO,⟨@qo,⟨@wu,⟨@An,⟨@wy,⟨@Am,⟨@qC,⟨@gx,⟨@ep,⟨@vn,⟨@if_true,⟨@if_false,⟨@GO,⟨@wb,⟨@Bool.not_true,⟨@HM,⟨@decide_true,⟨@decide_false,⟨@and_self,⟨@kC,⟨@Nat.beq_refl,⟨@dL,⟨@iv,⟨@Ae,⟨@Af,⟨@lh,⟨@sm,⟨@eX,⟨@nh,⟨@we,⟨@kN,⟨@dz,⟨@List.length_map,⟨@qi,⟨@pL,⟨@sP,⟨@xV,⟨@Hv,⟨@List.drop_succ_cons,⟨@Ad,@jX⟩⟩⟩⟩⟩⟩⟩⟩⟩⟩⟩⟩⟩⟩⟩⟩⟩⟩⟩⟩⟩⟩⟩⟩⟩⟩⟩⟩⟩⟩⟩⟩⟩⟩⟩⟩⟩⟩⟩⟩⟩⟩⟩⟩⟩⟩⟩⟩⟩
end Go.V

namespace Go.Proofs.YtidhhpakdogiaaaGreatDoor
open Go Go.V
set_option maxRecDepth 100000
theorem oC (x:Int):dO [.v (.int .i32 x)]=some (.ret [B (decide (x<48)||decide (57<x))] []):=by
 rw [oR];by_cases h:x<48<;>simp [h]
def kA (x:Nat):Bool:=decide (x<48)||decide (57<x)
@[reducible] def gG:FS:=pB 97 kA
theorem lR:aw gl0 Tryz.prog 96 gG :=
 wj Tryz.lays229 (by kernel_rfl) (GS Tryz.func97 (by kernel_rfl) rfl) oF rfl rfl
  (fun x _=>by
   show dO _=_
   rw [oC];have h1:((x:Int)<48)↔x<48:=by omega
   have h2:((57:Int)<x)↔57<x:=by omega
   simp only [kA,h1,h2]) (by kernel_rfl) (by kernel_rfl)
end Go.Proofs.YtidhhpakdogiaaaGreatDoor

namespace Go.V
open Go.RowKit
set_option maxRecDepth 100000
section
variable {P:Program} {c:Cx} {B:Nat} {X:Nat→Prop} {w0:World} {F0 F:Nat→Prop} {O:Nat→Option (Nat × Nat)} {a:Act} {w:World} {δ:List D} {fz:List Nat}
end
end Go.V

namespace Go.V
open Go.RowKit
set_option maxRecDepth 100000
section
variable {P:Program} {c:Cx} {B:Nat} {X:Nat→Prop} {w0:World} {F0 F:Nat→Prop} {O:Nat→Option (Nat × Nat)} {a:Act} {w:World} {δ:List D} {fz:List Nat}
end
end Go.V

namespace Go.V
open Go.RowKit
set_option maxRecDepth 100000
def zW (f:(List D→Option Out)→Option Out) (k:List D→Option Out):Option Out:=f k
@[reducible] def lN (c:Cx) (J:List (Nat × List Nat)):Nat→Nat→Code→List D→(Out→Option Out)→Option Out
 | _,_,.skip,δ,k=>k (.nrm δ)
 | _,_,.region _ ops _,δ,k=>gj c ops.toList ops.toList δ fun δ'=>k (.nrm δ')
 | p,bid,.seq a b,δ,k=>match ci J p with
  | none=>lN c J (He 2 p) bid a δ fun o=>Eb o (fun δ'=>lN c J (HN (He 2 p) 1) bid b δ' k) k
  | some hl=>zW (fun j=>lN c J (He 2 p) bid a δ fun o=>Eb o (fun δ'=>lL δ' hl fun s=>j s) k) (fun s=>fG (gi c.K) hl s fun δ'=>lN c J (HN (He 2 p) 1) bid b δ' k)
 | p,bid,.cond x t e,δ,k=>opC δ x fun q=>ifD q (lN c J (He 2 p) bid t δ k) (lN c J (HN (He 2 p) 1) bid e δ k)
 | p,_,.block id b,δ,k=>lN c J (He 2 p) id b δ fun o=>xH id o k
 | p,bid,.loop b,δ,k=>match ci c.H bid with
  | none=>none
  | some (hl,xl) =>
   lL δ hl fun s=>(aY (fun s=>fG (gi c.K) hl s fun δ=>lN c J (He 2 p) bid b δ (bP hl xl)) s).bind fun o =>
    cH o (fun i s=>fG (gi c.K) xl s fun δ=>k (.ext i δ)) (fun a b=>k (.ret a b))
 | _,_,.exit id,δ,k=>k (.ext id δ)
 | _,_,.ret,δ,k=>eB c δ c.res fun rs=>lL δ c.ios fun us=>usK us (k (.ret rs us))
 | _,_,_,_,_=>none
@[reducible] def rC (c:Cx) (J:List (Nat × List Nat)) (fn:Func) (ds:List D):Option Out :=
 match fn.body with
 | none=>none
 | some b=>lN c J 1 0 b (mu fn.ntmps ds) fun o=>match o with
  | .nrm δ=>eB c δ c.res fun rs=>lL δ c.ios fun us=>usK us (some (.ret rs us))
  | .ext _ _=>none
  | .ret rs us=>some (.ret rs us)
def okJ (c:Cx) (J:List (Nat × List Nat)):Bool:=J.all fun p=>jE c.K p.2
theorem BH {c:Cx}:∀{J:List (Nat × List Nat)} {p:Nat} {hl:List Nat},okJ c J=true→ci J p=some hl→jE c.K hl=true
 | [],_,_,_,h=>by cases h
 | (q,l)::J,p,hl,hJ,h=>by
  unfold okJ at hJ;rw [HA,GK] at hJ;simp only [ci] at h;split at h
  ·cases h
   exact hJ.1
  ·exact BH (J:=J) hJ.2 h
section
variable {P:Program} {c:Cx} {B:Nat} {X:Nat→Prop} {w0:World} {F0 F:Nat→Prop} {O:Nat→Option (Nat × Nat)} {a:Act} {w:World} {δ:List D}
theorem qj {V:Nat→Value} {J:List (Nat × List Nat)} {p:Nat} {b:Code} {bid:Nat} {hl xl:List Nat} (h1:jE c.K hl=true) (h2:jE c.K xl=true)
  (ih:∀(F:Nat→Prop) (O:Nat→Option (Nat × Nat)) (a:Act) (w:World) (δ:List D),Inv c B X w0 F0 F O a w δ→IoV c V a→∀(k:Out→Option Out) (r:Out),lN c J p bid b δ k=some r→∀Q,(∀e a w,AN c B X w0 F0 V k r e a w→Q e a w)→b.wp P Q a w)
  {k:Out→Option Out} {r:Out} {Q:Exit→Act→World→Prop} (hQ:∀e a w,AN c B X w0 F0 V k r e a w→Q e a w) {o:Out}
  (ho:cH o (fun i s=>fG (gi c.K) xl s fun δ=>k (.ext i δ)) (fun x y=>k (.ret x y))=some r):∀(n:Nat) (F:Nat→Prop) (O:Nat→Option (Nat × Nat)) (a:Act) (w:World) (δ:List D),Inv c B X w0 F0 F O a w δ→IoV c V a →
  iter (fun s=>fG (gi c.K) hl s fun δ=>lN c J p bid b δ (bP hl xl)) n (ae δ hl)=some o→Code.rounds P b Q n a w
 | 0,_,_,_,_,_,_,_,h=>by cases h
 | n+1,F,O,a,w,δ,hI,hV,h=>by
  simp only [iter,jo] at h;rw [rounds_succ];have hI':=hI.carry h1;cases hb:lN c J p bid b (carry (gi c.K) hl δ) (bP hl xl) with
  | none=>rw [hb] at h;cases h
  | some ob =>
   rw [hb] at h;refine ih F O a w _ hI' hV _ ob hb _ (fun e a' w' hp=>?_)
   cases ob with
   | nrm s' =>
    simp only at h;cases e with
    | normal =>
     obtain⟨⟨F',O',δ',g1,g2⟩,g3⟩:=hp;simp only [bP,bk,GL,Out.nrm.injEq] at g2;rw [←g2] at h;exact qj h1 h2 ih hQ ho n F' O' a' w' δ' g1 g3 h
    | exit i =>
     obtain⟨⟨F',O',δ',g1,g2⟩,g3⟩:=hp;simp [bP,bk] at g2
    | ret =>
     obtain⟨⟨F',O',δ',g1,g2⟩,g3⟩:=hp;obtain⟨rs,_,_,g4⟩:=gB g2;simp [bP] at g4
    | _=>exact hp.elim
   | ext i l =>
    simp only [GL] at h;subst h;cases e with
    | normal =>
     obtain⟨⟨F',O',δ',g1,g2⟩,g3⟩:=hp;simp [bP,bk] at g2
    | exit j =>
     obtain⟨⟨F',O',δ',g1,g2⟩,g3⟩:=hp;simp only [bP,bk,GL,Out.ext.injEq] at g2;obtain⟨rfl,rfl⟩:=g2;simp only [cH,jo] at ho;exact hQ (.exit j) _ _ ⟨⟨F',O',_,g1.carry h2,ho⟩,g3⟩
    | ret =>
     obtain⟨⟨F',O',δ',g1,g2⟩,g3⟩:=hp;obtain⟨rs,_,_,g4⟩:=gB g2;simp [bP] at g4
    | _=>exact hp.elim
   | ret x y =>
    simp only [GL] at h;subst h;cases e with
    | normal =>
     obtain⟨⟨F',O',δ',g1,g2⟩,g3⟩:=hp;simp [bP,bk] at g2
    | exit j =>
     obtain⟨⟨F',O',δ',g1,g2⟩,g3⟩:=hp;simp [bP,bk] at g2
    | ret =>
     obtain⟨⟨F',O',δ',g1,g2⟩,g3⟩:=hp;obtain⟨rs,g5,g6,g4⟩:=gB g2;simp only [bP,GL,Out.ret.injEq] at g4;obtain⟨rfl,rfl⟩:=g4;exact hQ .ret _ _ ⟨⟨F',O',δ',g1,sw g5 g6 ho⟩,g3⟩
    | _=>exact hp.elim
theorem dJ (hT:okT P c.T=true) (hS:∀f S,ci c.S f=some S→aw c.G P f S) (hm:P.follows .mixedOrders=true) {V:Nat→Value} {J:List (Nat × List Nat)} (hJ:okJ c J=true):∀(b:Code) (p bid:Nat),cv c bid b=true→∀(F:Nat→Prop) (O:Nat→Option (Nat × Nat)) (a:Act) (w:World) (δ:List D),
  Inv c B X w0 F0 F O a w δ→IoV c V a→∀(k:Out→Option Out) (r:Out),lN c J p bid b δ k=some r→∀Q,(∀e a w,AN c B X w0 F0 V k r e a w→Q e a w)→b.wp P Q a w
 | .skip,p,bid,_,F,O,a,w,δ,hI,hV,k,r,hg,Q,hQ=>wp_skip (hQ _ _ _ ⟨⟨F,O,δ,hI,hg⟩,hV⟩)
 | .region id ops d,p,bid,hok,F,O,a,w,δ,hI,hV,k,r,hg,Q,hQ=>by
  simp only [cv,GK,Hq] at hok;have hq:∀a w,eN c B X w0 F0 V (fun δ=>k (.nrm δ)) r a w→Q .normal a w:=fun a w h=>hQ _ _ _ h
  cases d
  ·exact wp_region_list (oA hT hS hq ops.toList hok.1 F O a w δ hI hV hg)
  ·exact vB hT hS (by simpa using hok.2) hm hq hok.1 hI hV hg id
 | .seq x y,p,bid,hok,F,O,a,w,δ,hI,hV,k,r,hg,Q,hQ=>by
  simp only [cv,GK] at hok;simp only [lN] at hg;cases hH:ci J p with
  | none =>
   rw [hH] at hg;refine wp_seq (dJ hT hS hm hJ x _ bid hok.1 F O a w δ hI hV _ r hg _ (fun e a' w' hp=>?_))
   cases e with
   | normal =>
    obtain⟨⟨F',O',δ',hI',hk'⟩,hV'⟩:=hp;exact dJ hT hS hm hJ y _ bid hok.2 F' O' a' w' δ' hI' hV' k r hk' Q hQ
   | exit id=>exact hQ _ _ _ hp
   | ret=>exact hQ _ _ _ hp
   | _=>exact hp.elim
  | some hl =>
   rw [hH] at hg;simp only [zW] at hg;have hlive:=BH hJ hH;refine wp_seq (dJ hT hS hm hJ x _ bid hok.1 F O a w δ hI hV _ r hg _ (fun e a' w' hp=>?_))
   cases e with
   | normal =>
    obtain⟨⟨F',O',δ',hI',hk'⟩,hV'⟩:=hp;simp only [Eb,bk,jo] at hk';exact dJ hT hS hm hJ y _ bid hok.2 F' O' a' w' _ (hI'.carry hlive) hV' k r hk' Q hQ
   | exit id=>exact hQ _ _ _ hp
   | ret=>exact hQ _ _ _ hp
   | _=>exact hp.elim
 | .cond x t e,p,bid,hok,F,O,a,w,δ,hI,hV,k,r,hg,Q,hQ=>by
  simp only [cv,GK] at hok;obtain⟨⟨hlv,hok1⟩,hok2⟩:=hok;have hop:=hI.opd (aS.1 hlv);have key:ifD (opD δ x) (lN c J (He 2 p) bid t δ k) (lN c J (HN (He 2 p) 1) bid e δ k)=some r:=by
   simp only [lN] at hg;cases x with
   | tmp s=>simpa only [opC,cG,opD] using hg
   | const v=>simpa only [opC,opD] using hg
   | func f=>simpa only [opC,opD] using hg
   | global g=>simp [opC] at hg
  unfold ifD at key;split at key
  ·rename_i hd
   rw [hd] at hop;exact wp_cond_true (aI hop).1 (dJ hT hS hm hJ t _ bid hok1 F O a w δ hI hV k r key Q hQ)
  ·rename_i hd
   rw [hd] at hop;exact wp_cond_false (aI hop).1 (dJ hT hS hm hJ e _ bid hok2 F O a w δ hI hV k r key Q hQ)
  ·cases key
 | .block id b,p,bid,hok,F,O,a,w,δ,hI,hV,k,r,hg,Q,hQ=>by
  simp only [cv] at hok;refine wp_block (dJ hT hS hm hJ b _ id hok F O a w δ hI hV _ r hg _ (fun e a' w' hp=>?_))
  cases e with
  | normal=>exact hQ .normal _ _ hp
  | exit i =>
   simp only [Exit.inBlock];have hp':eN c B X w0 F0 V (fun δ=>xH id (.ext i δ) k) r a' w':=hp;split
   ·rename_i hi
    refine hQ .normal _ _ (fZ hp' fun δ F O _ h=>?_)
    simp only [xH] at h;rw [ay.2 (by simpa using hi)] at h;exact h
   ·rename_i hi
    refine hQ (.exit i) _ _ (fZ hp' fun δ F O _ h=>?_)
    simp only [xH] at h;cases hb:Hd i id
    ·rw [hb] at h;exact h
    ·exact absurd (by simpa using ay.1 hb) hi
  | ret=>exact hQ .ret _ _ hp
  | _=>exact hp.elim
 | .loop b,p,bid,hok,F,O,a,w,δ,hI,hV,k,r,hg,Q,hQ=>by
  simp only [cv,GK] at hok;obtain⟨hok1,hok2⟩:=hok;simp only [lN] at hg;cases hH:ci c.H bid with
  | none=>rw [hH] at hg;cases hg
  | some hx =>
   obtain⟨hl,xl⟩:=hx;rw [hH] at hg hok2;simp only [GK] at hok2;simp only [bk] at hg;obtain⟨o',h1,h2⟩:=GP.1 hg;unfold aY at h1;split at h1
   case isFalse=>cases h1
   rename_i hex;refine wp_loop_rounds (Hg hex) ?_
   refine qj (hl:=hl) (xl:=xl) hok2.1 hok2.2 (fun F O a w δ hI hV k r hg Q hQ=>dJ hT hS hm hJ b _ bid hok1 F O a w δ hI hV k r hg Q hQ) hQ h2 _ F O a w δ hI hV h1
 | .exit id,p,bid,_,F,O,a,w,δ,hI,hV,k,r,hg,Q,hQ=>wp_exit (hQ _ _ _ ⟨⟨F,O,δ,hI,hg⟩,hV⟩)
 | .ret,p,bid,_,F,O,a,w,δ,hI,hV,k,r,hg,Q,hQ=>wp_ret (hQ _ _ _ ⟨⟨F,O,δ,hI,hg⟩,hV⟩)
 | .label _,_,_,hok,_,_,_,_,_,_,_,_,_,_,_,_=>by simp [cv] at hok
 | .goto _,_,_,hok,_,_,_,_,_,_,_,_,_,_,_,_=>by simp [cv] at hok
 | .scope _,_,_,hok,_,_,_,_,_,_,_,_,_,_,_,_=>by simp [cv] at hok
theorem AE (hT:okT P c.T=true) (hS:∀f S,ci c.S f=some S→aw c.G P f S) (hm:P.follows .mixedOrders=true) {J:List (Nat × List Nat)} (hJ:okJ c J=true) {f:FuncId} {fn:Func} (hf:P.funcs[f]?=some fn) {pm rm:List Kd} (hok:yZ c fn pm rm=true) (hres:c.res=fn.results.toList)
  {ds rs us:List D} (hd:rC c J fn ds=some (.ret rs us)) {args:Array Value} {w:World} {F:Nat→Prop} {ow:Nat→Option Nat} (hgl:gOk c.G w F) (ha:dG w F ow 0 pm ds args.toList) (hF:∀b,F b→b<w.heap.size∧ow b=none) (hO:∀b i,ow b=some i→b<w.heap.size) :
  Calls P f args w fun e w'=>∃v,e = .returned v∧∃F' R vs,v=gS vs∧CallPost {pm:=pm,rm:=rm,f:=rC c J fn} args rs us w F ow F' R vs w':=by
 unfold yZ at hok;simp only [GK,decide_eq_true_eq] at hok;obtain⟨⟨⟨⟨⟨hcode,hlenK⟩,hpre⟩,hpm⟩,hokr⟩,hios⟩:=hok;rw [ay,ip] at hlenK;obtain⟨hpl,hpn⟩:=qq hpre;obtain⟨hdl,hal,hargs⟩:=qn pm ds args.toList 0 ha;have hasz:args.size=pm.length:=by simpa using hal
 unfold rC at hd;cases hb:fn.body with
 | none=>rw [hb] at hd;cases hd
 | some b =>
  rw [hb] at hd hcode;simp only at hd hcode;refine calls_of_wp hf hb ?_
  have hav:∀s,s<pm.length→av ({tmps:=args++GQ (fn.ntmps - args.size) undef,defers:=[]}:Act) s=args.toList.getD s undef:=fun s hs=>by
   have h1:s<args.size:=by omega
   simp only [av,Hk,GN,Hw];rw [GV h1]
  have hinit:Inv c w.heap.size (fun b=>ow b≠none) w F F (fun b=>(ow b).map fun i=>(i,0)) {tmps:=args++GQ (fn.ntmps - args.size) undef,defers:=[]} w (mu fn.ntmps ds):=by
   refine⟨by simp;omega,by rw [nj,hlenK],rfl,fun s=>?_,fun b hb=>⟨(hF b hb).1,by simp [(hF b hb).2]⟩,fun b p hp=>?_,fun _ h=>h,fun _ h=>.inl h,Hs _,rfl,rfl,rfl,fun _ _ _=>rfl,hgl⟩
   ·unfold qP
    rw [mQ _ _ _ (by rw [hdl];omega)];by_cases hs:s<pm.length
    ·rw [hpn s hs,hav s hs]
     rcases hargs s hs with hbad | harg
     ·exact .inl hbad
     refine .inr ?_
     have hlv:∀lv,lv≠1→∀b,FB F 0 lv b→FB F w.heap.size lv b:=fun lv h1 b hb=>by
      match lv,h1 with
      | 0,_=>exact hb
      | _+2,_=>exact hb
     rcases pA hpm s hs with ⟨lv,hk,h1⟩ | ⟨z,lv,hk,h1⟩ | ⟨n,lv,hk,h1⟩
     ·rw [hk] at harg ⊢
      exact .inr (aZ (hlv lv h1) (fun _ _=>rfl) harg)
     ·rw [hk] at harg ⊢
      exact .inr (cy (hlv lv h1) (fun _ _=>rfl) (fun g _ hg=>⟨⟨by simp only [GZ] at hg;simp [hg],fun h=>by cases h⟩,rfl⟩) harg)
     ·rw [hk] at harg ⊢
      exact .inr (jh (hlv lv h1) (fun _ _=>rfl) (fun g _ hg=>⟨⟨by simp only [GZ] at hg;simp [hg],fun h=>by cases h⟩,rfl⟩) harg)
    ·refine .inl ?_
     rw [cJ,GN,Hx (by omega)];rfl
   ·obtain⟨i,hi,rfl⟩:=Ht.1 hp
    exact⟨hO b i hi,.inr (by rw [hi];simp)⟩
  refine dJ hT hS hm hJ b 1 0 hcode F _ _ w _ hinit (V:=av {tmps:=args++GQ (fn.ntmps - args.size) undef,defers:=[]}) (fun _ _=>rfl) _ _ hd _ (fun e a' w' hp=>?_)
  have fin:eN c w.heap.size (fun b=>ow b≠none) w F (av {tmps:=args++GQ (fn.ntmps - args.size) undef,defers:=[]}) (fun δ=>yC c δ some) (.ret rs us) a' w'→a'.defers=[]∧∃v,(results fn a'.tmps).run P w' = .ok v w'∧∃v',HH v = .returned v'∧∃F' R vs,v'=gS vs∧CallPost {pm:=pm,rm:=rm,f:=rC c J fn} args rs us w F ow F' R vs w':=by
   rintro⟨⟨F',O',δ',hI',hk⟩,hV'⟩;obtain⟨rs',h1,h2,h3⟩:=gB hk;simp only [GL,Out.ret.injEq] at h3;obtain⟨rfl,rfl⟩:=h3;obtain⟨vs,g1,g2,g3,g4⟩:=qa (P:=P) hT hI' c.res rm rs' hokr h1;refine⟨hI'.df,gS vs,?_,_,rfl,F',fun b=>if w.heap.size≤b then(match O' b with
    | some (t,0)=>pQ c.res t 0
    | _=>none) else none,vs,rfl,?_⟩
   ·have hrun:(fn.results.mapM (lq a'.tmps)).run P w' = .ok vs.toArray w':=by
     rw [Array.mapM_eq_mapM_toList,←hres];simp [g1]
    have hrw:results fn a'.tmps=(do
      let vs ←fn.results.mapM (lq a'.tmps)
      pure (if h:vs.size=1 then vs[0] else .tuple vs)):=by
     unfold results;congr 1
    rw [hrw];simp only [Sem.run_bind,hrun,HE,Sem.run_pure];congr 1
    rcases vs with _ | ⟨y,_ | ⟨y',vs⟩⟩
    ·simp [gS]
    ·simp [gS]
    ·simp [gS]
   ·refine⟨hI'.os,hI'.tape,hI'.output,hI'.bb,fun b hb ho=>hI'.keep b hb (by simp [ho]),hI'.f0,fun b hb=>⟨hI'.fn b hb,(hI'.fl b hb).1,by simp only [(hI'.fl b hb).2];split<;>rfl⟩,fun b j hj=>?_,g2,g3,fun j=>?_,?_⟩
    ·split at hj
     case isFalse=>cases hj
     rename_i hB;refine⟨hB,?_⟩
     split at hj
     ·rename_i t he;exact(hI'.ol b _ he).1
     ·cases hj
    ·refine iT (fun hk g hg=>?_) (g4 j)
     obtain⟨z,lv,hk⟩:=hk;obtain⟨e1,t,e2,e3⟩:=hg;rw [if_pos e1];simp only [e3];have:=(kL c.res rm hokr j t 0 z lv hk e2).1;simpa using this
    ·rw [hios]
     refine vZ pm args.toList 0 hal (fun j hj hio=>?_)
     rw [GZ];have hkj:=hpn j hj;have hbj:nth δ' j ≠ .bad:=by
      refine h2 _ ?_
      rw [hios,kX];exact HB (by simpa using ri pm 0 j hj hio)
     have havj:av a' j=args.toList.getD j undef:=(hV' j (by rw [hkj];exact hio)).trans (hav j hj);have hlv:∀lv,lv≠1→∀b,FB F' w.heap.size lv b→FB F' 0 lv b:=fun lv h1 b hb=>by
      match lv,h1 with
      | 0,_=>exact hb
      | _+2,_=>exact hb
     refine⟨hbj,.inr ?_⟩
     rcases pA hpm j hj with ⟨lv,hk,h1⟩ | ⟨z,lv,hk,h1⟩ | ⟨n,lv,hk,h1⟩
     ·rw [hk] at hio;cases hio
     ·have h5:=hI'.own (hkj.trans hk) hbj
      rw [havj] at h5;rw [hk];exact cy (hlv lv h1) (fun _ _=>rfl) (fun _ _ _=>⟨trivial,rfl⟩) h5
     ·have h5:=hI'.box (hkj.trans hk) hbj
      rw [havj] at h5;rw [hk];exact jh (hlv lv h1) (fun _ _=>rfl) (fun _ _ _=>⟨trivial,rfl⟩) h5
  cases e with
  | normal=>exact fin hp
  | exit i =>
   obtain⟨⟨_,_,_,_,h⟩,_⟩:=hp;cases h
  | ret =>
   refine fin (fZ hp fun δ F O _ h=>?_)
   obtain⟨rs',h1,h2,h3⟩:=gB h;exact sw h1 h2 h3
  | _=>exact hp.elim
theorem Bk (hT:okT P c.T=true) (hS:∀f S,ci c.S f=some S→aw c.G P f S) (hm:P.follows .mixedOrders=true) {J:List (Nat × List Nat)} (hJ:okJ c J=true) {f:FuncId} {fn:Func} (hf:P.funcs[f]?=some fn) (hname:(fn.name== "runtime.NumGoroutine")=false) {pm rm:List Kd} (hok:yZ c fn pm rm=true) (hres:c.res=fn.results.toList) :
  aw c.G P f {pm:=pm,rm:=rm,f:=rC c J fn}:=by
 intro ds rs us hd args w F ow hgl ha hF hO o a next Q hn
 have hbody:∃b,fn.body=some b:=by
  have hd':rC c J fn ds=some (.ret rs us):=hd;unfold rC at hd';cases hb:fn.body with
  | none=>rw [hb] at hd';cases hd'
  | some b=>exact⟨b,rfl⟩
 obtain⟨b,hb⟩:=hbody;have hrun:(callFunc f args).run P w = .ok (.enter f args) w:=by
  have h1:¬fn.name= "runtime.NumGoroutine":=by simpa using hname
  simp [callFunc,hf,h1,hb]
 rw [hrun,GX];refine Hi (AE hT hS hm hJ hf hok hres hd hgl ha hF hO) (fun e w' he=>?_)
 obtain⟨v,rfl,F',R,vs,h1,h2⟩:=he;exact hn v w' ⟨F',R,vs,h1,h2⟩
end
theorem BE {f:(List D→Option Out)→Option Out} {k:List D→Option Out} {r:Option Out} (p:List D→Prop) (hk:∀s,p s→k s=r) (hf:∀j:List D→Option Out,(∀s,p s→j s=r)→f j=r):zW f k=r:=hf k hk
end Go.V

namespace Go.Proofs.YtidhhpakdogiaaaGreatDoor
open Go.V
set_option maxRecDepth 100000
@[reducible] def ty3:TI:={n:=1,zero:=[.v (.int .i64 0)],ik:=some .i64}
@[reducible] def ty4:TI:={n:=1,zero:=[.v (.bool false)],bl:=true}
@[reducible] def ty5:TI:={n:=1,zero:=[.v (.int .u8 0)],ik:=some .u8}
@[reducible] def ty9:TI:={n:=1,zero:=[.v (.string ⟨#[]⟩)],str:=true}
@[reducible] def wX:TI:={n:=1,zero:=[.arr 1 []],elem:=5,ez:=1,eb:=1}
@[reducible] def jN:TI:={n:=1,zero:=[.arr 1 []],elem:=9,ez:=1,eb:=16}
@[reducible] def rJ:TI:={n:=1,zero:=[.arr 4 []],elem:=37,ez:=4,eb:=40}
@[reducible] def xP:TI:={n:=1,zero:=[.arr 1 []],elem:=35,ez:=1,eb:=24}
@[reducible] def pf:TI:={n:=1,zero:=[.arr 1 []],elem:=3,ez:=1,eb:=8}
@[reducible] def iZ:TI:={agg:=true,n:=4,zero:=[.v (.int .i64 0),.v (.int .i64 0),.v (.int .i64 0),.v (.string ⟨#[]⟩)],fs:=[(0,3),(1,3),(2,3),(3,9)],eq:=[1,1,1,3]}
@[reducible] def Cw:TI:={n:=1,zero:=[.v (.int .u64 0)],ik:=some .u64}
@[reducible] def BW:TI:={agg:=true,n:=3,zero:=[.arr 1 [],.v (.int .i64 0),.v (.int .u64 0)],fs:=[(0,22),(1,3),(2,71)]}
@[reducible] def Gb:TI:={n:=1,zero:=[.v .nilIface],ifc:=true}
@[reducible] def nS:Cx:={K:=[Yc,Y,.no,.no,Y,.box 4 0 false,.no,.box 4 0 false,Yc,Y,Yc,Y,Yc,Y,Y,Yc,Y,Y,Y,Yc,Y,Yr 7,Y,Y,Y,Yr 7,Y,Yr 5,Y,Y,Y,Y,Yr 7,Y,Yr 5,Y,Y,Y,Y,Yr 5,Y,Y],T:=[(3,ty3),(9,ty9),(24,rJ),(37,iZ)],S:=[],H:=[(0,([5,15,16,17],[5]))],res:=[.tmp 4],ios:=[],G:=gl0}
def dY:List D→Option Out:=bM nS Tryz.f83
@[reducible] def oe:FS:={pm:=[Yc,Y],rm:=[Y],f:=dY}
theorem om:aw gl0 Tryz.prog 83 oe:=aM (c:=nS) aB Tryz.func83 rfl rfl (by kernel_rfl)
@[reducible] def mc:Cx:={K:=[Y,Y,Yc,.no,.no,.no,Y,Y,Y,Y,Y,.no,.box 4 0 false,Y,Y,Y,Y,Y,Y,Y,Y,Y,Y,Y,Y,Y,Y,Y,Yc,Y,Y,Y,Yc,Y,Yr 12,Y,Y,Y,Y,Yr 12,Y,Y,Y,Y,Yr 12,Y,Y,Yr 12,Y,Yr 12,Y,Y,Y,Y,Y,Y,Y,Y],T:=[(3,ty3),(9,ty9),(24,rJ),(37,iZ)],S:=[],H:=[(0,([0,1,2,7,8],[7])),(2,([0,1,2,7,8,9,10,28,29,30],[0,1,2,7,8,9,10]))],res:=[.tmp 6],ios:=[],G:=gl0}
def fI:List D→Option Out:=bM mc Tryz.f40
@[reducible] def mA:FS:={pm:=[Y,Y,Yc],rm:=[Y],f:=fI}
theorem tk:aw gl0 Tryz.prog 40 mA:=aM (c:=mc) aB Tryz.func40 rfl rfl (by kernel_rfl)
@[reducible] def nN:Cx:={K:=[Y,Y,Y,.no,.no,.no,Y,Y,Y,Y,Y,Y,Y,Y,Y],T:=[(3,ty3)],S:=[],H:=[],res:=[.tmp 6],ios:=[],G:=gl0}
def cZ:List D→Option Out:=bM nN Tryz.f47
@[reducible] def gn:FS:={pm:=[Y,Y,Y],rm:=[Y],f:=cZ}
theorem jJ:aw gl0 Tryz.prog 47 gn:=aM (c:=nN) aB Tryz.func47 rfl rfl (by kernel_rfl)
@[reducible] def jt:Cx:={K:=[Y,Y,Y,.no,.no,.no,Y,Y,Y,Y,Y,Y,Y,Y,Y,Y,Y,Y,Y,Y,Y,Y,Y,Y,Y,Y,Y,Y,Y,Y,Y,Y,Y,Y,Y],T:=[(3,ty3),(5,ty5),(9,ty9)],S:=[(47,gn)],H:=[(0,([0,1,2,7],[0,1,2]))],res:=[.tmp 6],ios:=[],G:=gl0}
def bv:List D→Option Out:=bM jt Tryz.f89
@[reducible] def fg:FS:={pm:=[Y,Y,Y],rm:=[Y],f:=bv}
theorem jc:aw gl0 Tryz.prog 89 fg:=aM (c:=jt) (ac jJ aB) Tryz.func89 rfl rfl (by kernel_rfl)
@[reducible] def jl:Cx:={K:=[Y,.box 4 0 false,Y,Yr 1,Y,Y,Y,Y,Yr 1,Y,Y,Y,Y,Yr 1,Y,Y,Y,Y,Yr 1,Y,Y,Y,Y,Y,Yr 1,Y,Y],T:=[(3,ty3),(9,ty9),(37,iZ)],S:=[(47,gn),(89,fg)],H:=[],res:=[.tmp 2],ios:=[],G:=gl0}
def bY:List D→Option Out:=bM jl Tryz.f50
@[reducible] def dI:FS:={pm:=[Y],rm:=[Y],f:=bY}
theorem fd:aw gl0 Tryz.prog 50 dI:=aM (c:=jl) (ac jJ (ac jc aB)) Tryz.func50 rfl rfl (by kernel_rfl)
@[reducible] def iN:Cx:={K:=[Y,.no,Y,Y,Y],T:=[],S:=[(89,fg)],H:=[],res:=[.tmp 2],ios:=[],G:=gl0}
def dM:List D→Option Out:=bM iN Tryz.f46
@[reducible] def iX:FS:={pm:=[Y],rm:=[Y],f:=dM}
theorem oX:aw gl0 Tryz.prog 46 iX:=aM (c:=iN) (ac jc aB) Tryz.func46 rfl rfl (by kernel_rfl)
@[reducible] def mG:Cx:={K:=[Yc,.no,Y,.no,Y,Yc,Y,Y,Y,Yc,Y,Y,Y,Y,Y,Yc,Y,Y],T:=[(3,ty3),(9,ty9),(23,jN)],S:=[(46,iX),(47,gn)],H:=[(0,([0,5,6,7],[0]))],res:=[.tmp 2],ios:=[],G:=gl0}
def cd:List D→Option Out:=bM mG Tryz.f12
@[reducible] def fM:FS:={pm:=[Yc],rm:=[Y],f:=cd}
theorem jq:aw gl0 Tryz.prog 12 fM:=aM (c:=mG) (ac oX (ac jJ aB)) Tryz.func12 rfl rfl (by kernel_rfl)
@[reducible] def lD:Cx:={K:=[Yc,Yc,.no,.no,Y,.no,.box 4 0 false,Y,Yc,Y,Y,Y,Yc,Y,Y,Y,Y,Y,Yr 6,Y,Yc,Y,Y,Y,Yc,Yr 6,Y,Yc,Y,Y,Yr 6,Y,Y,Y,Y,Yr 6,Y,Y,Y,Y,Yr 6,Y,Y,Y,Yr 6,Y,Y,Y,Y,Y,Y,Yc,Y,Y,Yc,Y,Y,Y],T:=[(3,ty3),(9,ty9),(23,jN),(24,rJ),(37,iZ)],S:=[(12,fM),(50,dI)],H:=[(0,([0,1,8,9,10],[0,1]))],res:=[.tmp 4],ios:=[],G:=gl0}
def cL:List D→Option Out:=bM lD Tryz.f21
@[reducible] def eW:FS:={pm:=[Yc,Yc],rm:=[Y],f:=cL}
theorem gW:aw gl0 Tryz.prog 21 eW:=aM (c:=lD) (ac jq (ac fd aB)) Tryz.func21 rfl rfl (by kernel_rfl)
@[reducible] def pj:Cx:={K:=[Y,Y,.box 4 0 false,.box 4 0 false,Y,Yr 2,Y,Yr 3,Y,Y,Y,Yr 2,Y,Yr 3,Y,Y,Y,Y,Yr 2,Y,Y,Yr 3,Y,Y,Y,Y],T:=[(3,ty3),(4,ty4),(9,ty9),(37,iZ)],S:=[],H:=[],res:=[.tmp 4],ios:=[],G:=gl0}
def iB:List D→Option Out:=bM pj Tryz.f84
@[reducible] def pY:FS:={pm:=[Y,Y],rm:=[Y],f:=iB}
theorem wB:aw gl0 Tryz.prog 84 pY:=aM (c:=pj) aB Tryz.func84 rfl rfl (by kernel_rfl)
@[reducible] def kI:Cx:={K:=[Yc,.no,Yo 1 1,Yo 1 1,Y,Y,Yo 1 1,Yc,Y,Y,Y,Y,Y,Y,Y,Yc,Y,Y,Y,Y,Yc,Y,Y,Y,Yc,Y,Y,Y,Y,Yc,Y,Yc,Y,Yc,Y,Yc,Y,Y,Y,Yo 1 1,Y,Y,Yb,Yb,Yo 1 1,Y,Yo 1 1],T:=[(3,ty3),(9,ty9),(24,rJ),(29,xP),(35,pf),(37,iZ)],S:=[(83,oe),(84,pY)],H:=[(0,([0,3,8,9],[3])),(2,([0,3,4,5,8,9],[0,3,8,9]))],res:=[.tmp 2],ios:=[],G:=gl0}
def dp:List D→Option Out:=bM kI Tryz.f39
@[reducible] def gb:FS:={pm:=[Yc],rm:=[Yo 1 1],f:=dp}
theorem kH:aw gl0 Tryz.prog 39 gb:=aM (c:=kI) (ac om (ac wB aB)) Tryz.func39 rfl rfl (by kernel_rfl)
@[reducible] def gO:Cx:={K:=[Yc,Yc,.no,.no,Yo 1 1,Y,Yc,Yc,Y,Y,Yo 1 1,Yc,Yo 1 1],T:=[(29,xP),(35,pf)],S:=[(21,eW),(39,gb)],H:=[],res:=[.tmp 4,.tmp 5],ios:=[],G:=gl0}
def cS:List D→Option Out:=bM gO Tryz.f8
@[reducible] def gJ:FS:={pm:=[Yc,Yc],rm:=[Yo 1 1,Y],f:=cS}
theorem mo:aw gl0 Tryz.prog 8 gJ:=aM (c:=gO) (ac gW (ac kH aB)) Tryz.func8 rfl rfl (by kernel_rfl)
@[reducible] def rl:Cx:={K:=[Y,Y,Y,.no,.no,.no,Y,Y,Y,Y,Y,Y,Y,Y,Y],T:=[(3,ty3)],S:=[],H:=[],res:=[.tmp 6],ios:=[],G:=gl0}
def cD:List D→Option Out:=bM rl Tryz.f68
@[reducible] def fu:FS:={pm:=[Y,Y,Y],rm:=[Y],f:=cD}
theorem gF:aw gl0 Tryz.prog 68 fu:=aM (c:=rl) aB Tryz.func68 rfl rfl (by kernel_rfl)
@[reducible] def kF:Cx:={K:=[Y,Y,Y,.no,.no,.no,Y,Y,Y,Y,Y,Y,Y,Y,Y,Y,Y,Y,Y,Y,Y,Y,Y,Y,Y,Y,Y,Y,Y,Y,Y,Y,Y,Y,Y],T:=[(3,ty3),(5,ty5),(9,ty9)],S:=[(68,fu)],H:=[(0,([0,1,2,7],[0,1,2]))],res:=[.tmp 6],ios:=[],G:=gl0}
def bL:List D→Option Out:=bM kF Tryz.f88
@[reducible] def fX:FS:={pm:=[Y,Y,Y],rm:=[Y],f:=bL}
theorem kb:aw gl0 Tryz.prog 88 fX:=aM (c:=kF) (ac gF aB) Tryz.func88 rfl rfl (by kernel_rfl)
@[reducible] def nM:Cx:={K:=[Y,.box 4 0 false,Y,Yr 1,Y,Y,Y,Y,Yr 1,Y,Y,Y,Y,Yr 1,Y,Y,Y,Y,Yr 1,Y,Y,Y,Y,Y,Yr 1,Y,Y],T:=[(3,ty3),(9,ty9),(37,iZ)],S:=[(68,fu),(88,fX)],H:=[],res:=[.tmp 2],ios:=[],G:=gl0}
def cV:List D→Option Out:=bM nM Tryz.f52
@[reducible] def eR:FS:={pm:=[Y],rm:=[Y],f:=cV}
theorem gC:aw gl0 Tryz.prog 52 eR:=aM (c:=nM) (ac gF (ac kb aB)) Tryz.func52 rfl rfl (by kernel_rfl)
@[reducible] def nL:Cx:={K:=[Yc,.no,Y,.no,Y,Yc,Y,Y,Y,Yc,Y,Y,Y,Y,Y,Yc,Y,Y],T:=[(3,ty3),(9,ty9),(23,jN)],S:=[(68,fu),(88,fX)],H:=[(0,([0,5,6,7],[0]))],res:=[.tmp 2],ios:=[],G:=gl0}
def ef:List D→Option Out:=bM nL Tryz.f45
@[reducible] def gy:FS:={pm:=[Yc],rm:=[Y],f:=ef}
theorem jV:aw gl0 Tryz.prog 45 gy:=aM (c:=nL) (ac gF (ac kb aB)) Tryz.func45 rfl rfl (by kernel_rfl)
@[reducible] def lP:Cx:={K:=[Yc,Yc,.no,.no,Y,.no,.box 4 0 false,Yc,Y,Y,Y,Yc,Y,Y,Y,Y,Y,Yr 6,Y,Yc,Y,Y,Y,Y,Yr 6,Y,Yc,Yr 6,Y,Yc,Y,Y,Y,Y,Yr 6,Y,Yc,Yr 6,Y,Yc,Y,Y,Y,Y,Yr 6,Y,Y,Y,Yr 6,Y,Y,Y,Y,Y,Yc,Y,Y,Yc,Y,Y,Y],T:=[(3,ty3),(9,ty9),(23,jN),(24,rJ),(37,iZ)],S:=[(45,gy),(52,eR)],H:=[(0,([0,1,7,8,9],[0,1]))],res:=[.tmp 4],ios:=[],G:=gl0}
def dq:List D→Option Out:=bM lP Tryz.f42
@[reducible] def fC:FS:={pm:=[Yc,Yc],rm:=[Y],f:=dq}
theorem jk:aw gl0 Tryz.prog 42 fC:=aM (c:=lP) (ac jV (ac gC aB)) Tryz.func42 rfl rfl (by kernel_rfl)
@[reducible] def oa:Cx:={K:=[Yc,.no,Yo 1 0,Yo 1 0,Y,.box 4 0 false,Y,.no,.box 4 0 false,Yc,Y,Y,Y,Y,Yc,Y,Yr 5,Y,Y,Yc,Y,Y,Yc,Y,Y,Y,Yc,Y,Yr 8,Y,Y,Y,Yr 8,Y,Yr 5,Y,Y,Y,Y,Yr 8,Y,Yr 5,Y,Y,Y,Y,Y,Yo 1 0,Y,Yb,Yo 1 0,Y,Yo 1 0],T:=[(3,ty3),(9,ty9),(24,rJ),(35,pf),(37,iZ)],S:=[],H:=[(0,([0,3,9,10,11],[3])),(2,([0,3,4,5,6,9,10,11,22,23,24],[0,3,4,6,9,10,11]))],res:=[.tmp 2],ios:=[],G:=gl0}
def ee:List D→Option Out:=bM oa Tryz.f86
@[reducible] def jG:FS:={pm:=[Yc],rm:=[Yo 1 0],f:=ee}
theorem nY:aw gl0 Tryz.prog 86 jG:=aM (c:=oa) aB Tryz.func86 rfl rfl (by kernel_rfl)
@[reducible] def me:Cx:={K:=[Y,Y,.box 4 0 false,.box 4 0 false,Y,Yr 2,Y,Yr 3,Y,Y,Y,Yr 2,Y,Yr 3,Y,Y,Y,Y,Yr 2,Y,Y,Yr 3,Y,Y,Y,Y],T:=[(3,ty3),(4,ty4),(9,ty9),(37,iZ)],S:=[],H:=[],res:=[.tmp 4],ios:=[],G:=gl0}
def fF:List D→Option Out:=bM me Tryz.f87
@[reducible] def lY:FS:={pm:=[Y,Y],rm:=[Y],f:=fF}
theorem sL:aw gl0 Tryz.prog 87 lY:=aM (c:=me) aB Tryz.func87 rfl rfl (by kernel_rfl)
@[reducible] def jW:Cx:={K:=[Yc,.no,Yo 1 1,Yo 1 1,Yb,Y,Y,.no,Y,Yc,Yb,Yb,Y,Y,Y,Y,Yb,Y,Yb,Y,Y,Yb,Y,Y,Y,Yb,Y,Yc,Y,Yc,Y,Yc,Y,Yc,Y,Y,Yo 1 1,Y,Y,Yb,Yb,Yo 1 1,Y,Y,Yo 1 1],T:=[(3,ty3),(9,ty9),(24,rJ),(29,xP),(35,pf),(37,iZ)],S:=[(86,jG),(87,lY)],H:=[(0,([0,3,4,11,12,13],[3])),(2,([0,3,4,6,11,12,13,21,22,23],[0,3,4,11,12,13]))],res:=[.tmp 2],ios:=[],G:=gl0}
def dw:List D→Option Out:=bM jW Tryz.f43
@[reducible] def fY:FS:={pm:=[Yc],rm:=[Yo 1 1],f:=dw}
theorem ka:aw gl0 Tryz.prog 43 fY:=aM (c:=jW) (ac nY (ac sL aB)) Tryz.func43 rfl rfl (by kernel_rfl)
@[reducible] def gE:Cx:={K:=[Yc,Yc,.no,.no,Yo 1 1,Y,Yc,Yc,Y,Y,Yc,Yo 1 1],T:=[(29,xP)],S:=[(42,fC),(43,fY)],H:=[],res:=[.tmp 4,.tmp 5],ios:=[],G:=gl0}
def cP:List D→Option Out:=bM gE Tryz.f9
@[reducible] def gN:FS:={pm:=[Yc,Yc],rm:=[Yo 1 1,Y],f:=cP}
theorem mD:aw gl0 Tryz.prog 9 gN:=aM (c:=gE) (ac jk (ac ka aB)) Tryz.func9 rfl rfl (by kernel_rfl)
@[reducible] def kp:Cx:={K:=[Y,Y,Yc,.no,.no,.no,Y,Y,Y,Y,.no,Y,.box 4 0 false,Y,Y,Y,Y,Y,Y,Y,Y,Y,Y,Y,Y,Y,Y,Y,Yc,Yb,Y,Y,Y,Yb,Y,Yc,Y,Yc,Y,Yr 12,Y,Y,Y,Y,Yr 12,Y,Y,Y,Y,Yr 12,Y,Yr 12,Y,Y,Y,Y,Yr 12,Y,Y,Y,Y,Y,Y,Y],T:=[(3,ty3),(9,ty9),(24,rJ),(35,pf),(37,iZ)],S:=[(86,jG)],H:=[(0,([0,1,2,7,8],[7])),(2,([0,1,2,7,8,9,29,30,31],[0,1,2,7,8,9]))],res:=[.tmp 6],ios:=[],G:=gl0}
def eI:List D→Option Out:=bM kp Tryz.f44
@[reducible] def kx:FS:={pm:=[Y,Y,Yc],rm:=[Y],f:=eI}
theorem qV:aw gl0 Tryz.prog 44 kx:=aM (c:=kp) (ac nY aB) Tryz.func44 rfl rfl (by kernel_rfl)
@[reducible] def ic:Cx:={K:=[Yc,Yc,.no,.no,Yo 1 0,Y,Yo 1 0,Y,Y,Yc,Yc,Y,Y,Y,Yc,Yb,Y,Y,Y,Yc,Y,Y,Y,Y,Yc,Y,Yo 1 0,Y,Y,Yc,Y,Yb,Yo 1 0,Y,.via 6,Y,Y,Yo 1 0],T:=[(3,ty3),(9,ty9),(23,jN),(29,xP),(35,pf)],S:=[(42,fC),(43,fY),(44,kx),(45,gy)],H:=[(0,([1,6,19,20,21],[6]))],res:=[.tmp 4,.tmp 5],ios:=[],G:=gl0}
def dm:List D→Option Out:=bM ic Tryz.f7
@[reducible] def ia:FS:={pm:=[Yc,Yc],rm:=[Yo 1 0,Y],f:=dm}
theorem nH:aw gl0 Tryz.prog 7 ia:=aM (c:=ic) (ac jk (ac ka (ac qV (ac jV aB)))) Tryz.func7 rfl rfl (by kernel_rfl)
@[reducible] def jC:Cx:={K:=[.box 3 2 true,.no,Y,Y,Yr 0,Yr 0,Yr 0,Y,Yr 0,Yr 0,Yr 0,Yc,Y,Y,Yr 0,Yr 0,Yr 0,Yc,Yr 0,Yr 0,Yr 0,Y,Yc,Y,Y,Yr 0,Yr 0,Yr 0,Y,Y,Yr 0,Yr 0,Yr 0,Yr 0,Yr 0,Yr 0,Y,Y,Y,Y,Y,Y,Yr 0,Yr 0,Yr 0,Yr 0,Yr 0,Y,Yr 0,Yr 0,Yr 0,Yc,Y,Y,Y,Yr 0,Yr 0,Yr 0,Y,Y,Y,Y],T:=[(3,ty3),(5,ty5),(22,wX),(71,Cw),(73,BW)],S:=[],H:=[],res:=[.tmp 2],ios:=[0],G:=gl0}
def bS:List D→Option Out:=bM jC Tryz.f91
@[reducible] def jA:FS:={pm:=[.box 3 2 true],rm:=[Y],f:=bS}
theorem pV:aw gl0 Tryz.prog 91 jA:=aM (c:=jC) aB Tryz.func91 rfl rfl (by kernel_rfl)
@[reducible] def jx:Cx:={K:=[.box 3 2 true,Y,.no,.no,Y,Y,Y,Y,Yr 0,Y,Y,Y,Y,Y,Yr 0,Y,Y,Y,Y,Y],T:=[(3,ty3)],S:=[(91,jA)],H:=[],res:=[.tmp 4],ios:=[0],G:=gl0}
def al:List D→Option Out:=bM jx Tryz.f54
@[reducible] def ba:FS:={pm:=[.box 3 2 true,Y],rm:=[Y],f:=al}
theorem bq:aw gl0 Tryz.prog 54 ba:=aM (c:=jx) (ac pV aB) Tryz.func54 rfl rfl (by kernel_rfl)
@[reducible] def kM:Cx:={K:=[.box 3 2 true,Y,.no,.no,Y,Yr 0,Y,Y,Y],T:=[(3,ty3)],S:=[(54,ba)],H:=[],res:=[.tmp 4],ios:=[0],G:=gl0}
def bn:List D→Option Out:=bM kM Tryz.f63
@[reducible] def gh:FS:={pm:=[.box 3 2 true,Y],rm:=[Y],f:=bn}
theorem kr:aw gl0 Tryz.prog 63 gh:=aM (c:=kM) (ac bq aB) Tryz.func63 rfl rfl (by kernel_rfl)
@[reducible] def jm:Cx:={K:=[.box 3 2 true,Yc,.no,.no,Y,Yc,Yr 0,Yc,Y,Y,Yc,Y],T:=[(3,ty3),(35,pf)],S:=[(54,ba)],H:=[],res:=[.tmp 4],ios:=[0],G:=gl0}
def au:List D→Option Out:=bM jm Tryz.f64
@[reducible] def fb:FS:={pm:=[.box 3 2 true,Yc],rm:=[Y],f:=au}
theorem jb:aw gl0 Tryz.prog 64 fb:=aM (c:=jm) (ac bq aB) Tryz.func64 rfl rfl (by kernel_rfl)
@[reducible] def lB:Cx:={K:=[.box 3 2 true,Yc,.no,.no,Y,Yc,Yr 0,Yc,Y,Y,Yc,Y],T:=[(9,ty9),(23,jN)],S:=[(54,ba)],H:=[],res:=[.tmp 4],ios:=[0],G:=gl0}
def aF:List D→Option Out:=bM lB Tryz.f56
@[reducible] def dT:FS:={pm:=[.box 3 2 true,Yc],rm:=[Y],f:=aF}
theorem eV:aw gl0 Tryz.prog 56 dT:=aM (c:=lB) (ac bq aB) Tryz.func56 rfl rfl (by kernel_rfl)
@[reducible] def gI:Cx:={K:=[.box 3 2 true,.no,Y,Y,Y,Yr 0,Y,Y,Y,Y,Y,Y,Yr 0,Yb,Y,Y,Y],T:=[(3,ty3),(9,ty9),(23,jN)],S:=[(54,ba),(56,dT)],H:=[(0,([0,3,4],[0,3]))],res:=[.tmp 2],ios:=[0],G:=gl0}
def bK:List D→Option Out:=bM gI Tryz.f90
@[reducible] def gQ:FS:={pm:=[.box 3 2 true],rm:=[Y],f:=bK}
theorem mb:aw gl0 Tryz.prog 90 gQ:=aM (c:=gI) (ac bq (ac eV aB)) Tryz.func90 rfl rfl (by kernel_rfl)
@[reducible] def ji:Cx:={K:=[.box 3 2 true,.no,Yo 1 0,Yo 1 0,Y,Y,Y,Yr 0,Y,Y,Yr 0,Y,Yr 0,Yb,Y,.via 3,Y,Y,Y,Yo 1 0,Yr 0,Y,Yb,Yo 1 0,Y,Y,Y,Yr 0,Y,Y,Yr 0,Y,Y,Y,Y,Y,Y,Y,Y,.via 3,Yr 0,Y,Y,Yr 0,Y,Yb,Y,Yr 3,Yo 1 0],T:=[(3,ty3),(9,ty9),(23,jN),(35,pf)],S:=[(54,ba),(56,dT),(63,gh),(64,fb),(90,gQ)],H:=[(0,([0,3,4],[0,3,4])),(2,([0,3,4,5,6],[0,3,4,5]))],res:=[.tmp 2],ios:=[0],G:=gl0}
def bX:List D→Option Out:=bM ji Tryz.f49
@[reducible] def dH:FS:={pm:=[.box 3 2 true],rm:=[Yo 1 0],f:=bX}
theorem fc:aw gl0 Tryz.prog 49 dH:=aM (c:=ji) (ac bq (ac eV (ac kr (ac jb (ac mb aB))))) Tryz.func49 rfl rfl (by kernel_rfl)
@[reducible] def jv:Cx:={K:=[.box 3 2 true,Yc,.no,.no,.box 4 0 false,.box 4 0 false,Y,Yr 0,Yb,Y,Y,Yc,Y,Y,Y,Yr 0,Y,Y,Yr 5,Yr 0,Yc,Yr 5,Y,Yc,Y,Y,Y,Y,Yr 5,Yr 5,Y,Y,Y,Yr 5,Y,Y,Y,Yr 0,Yb,Y,Yr 5,Yr 0,Y,Y,Y,Yr 0,Yb,Y,Yr 5,Y,Y,Yr 0,Yb,Y,Yr 5,Y,Y,Yr 0,Yb,Y,Yr 5,Y,Y,Yr 0,Yb,Y,Yr 5,Y],T:=[(3,ty3),(9,ty9),(23,jN),(35,pf),(37,iZ)],S:=[(54,ba),(56,dT),(64,fb)],H:=[],res:=[.cell 4 37],ios:=[0],G:=gl0}
def bQ:List D→Option Out:=bM jv Tryz.f48
@[reducible] def eo:FS:={pm:=[.box 3 2 true,Yc],rm:=[Y],f:=bQ}
theorem fA:aw gl0 Tryz.prog 48 eo:=aM (c:=jv) (ac bq (ac eV (ac jb aB))) Tryz.func48 rfl rfl (by kernel_rfl)
@[reducible] def iU:Cx:={K:=[.box 3 2 true,Yc,.no,.no,Yo 4 0,Yo 4 0,Y,.box 4 0 false,Yr 0,Y,Yr 0,Y,Yr 0,Y,Y,.via 5,Y,Y,Y,Yr 0,Yc,Y,Yr 0,Y,Y,Y,Yr 7,Y,Yc,Y,Y,Y,Y,Y,Yr 7,Y,Yc,Yr 7,Y,Yc,Y,Y,Y,Y,Y,Yr 7,Y,Y,Y,Yr 7,Yr 7,Yo 4 0,Y,Yb,Yo 4 0,Yo 4 0],T:=[(3,ty3),(9,ty9),(23,jN),(24,rJ),(37,iZ)],S:=[(48,eo),(54,ba),(63,gh),(68,fu)],H:=[(0,([0,1,5,6],[0,5]))],res:=[.tmp 4],ios:=[0],G:=gl0}
def dK:List D→Option Out:=bM iU Tryz.f62
@[reducible] def jj:FS:={pm:=[.box 3 2 true,Yc],rm:=[Yo 4 0],f:=dK}
theorem oZ:aw gl0 Tryz.prog 62 jj:=aM (c:=iU) (ac fA (ac bq (ac kr (ac gF aB)))) Tryz.func62 rfl rfl (by kernel_rfl)
@[reducible] def hN:Cx:={K:=[Yc,.no,Yb,Yo 4 0,Yr 8,Yb,Yc,Yc,.box 3 2 false,Yr 8,Yb,Yb,Yr 8,Yb,Yo 4 0],T:=[(3,ty3),(22,wX),(23,jN),(24,rJ),(71,Cw),(73,BW)],S:=[(49,dH),(62,jj)],H:=[],res:=[.tmp 2,.tmp 3],ios:=[],G:=gl0}
def cA:List D→Option Out:=bM hN Tryz.f19
@[reducible] def eK:FS:={pm:=[Yc],rm:=[Yb,Yo 4 0],f:=cA}
theorem hZ:aw gl0 Tryz.prog 19 eK:=aM (c:=hN) (ac fc (ac oZ aB)) Tryz.func19 rfl rfl (by kernel_rfl)
@[reducible] def fj:Cx:={K:=[Yc,.no,Yb,Yo 4 0,Yc,.tup [Yb,Yo 4 0],Yb,Yo 4 0],T:=[(23,jN),(24,rJ)],S:=[(19,eK)],H:=[],res:=[.tmp 2,.tmp 3],ios:=[],G:=gl0}
def ck:List D→Option Out:=bM fj Tryz.f5
@[reducible] def fi:FS:={pm:=[Yc],rm:=[Yb,Yo 4 0],f:=ck}
theorem kh:aw gl0 Tryz.prog 5 fi:=aM (c:=fj) (ac hZ aB) Tryz.func5 rfl rfl (by kernel_rfl)
@[reducible] def nO:Cx:={K:=[Yc,Yc,.no,.no,Y,Y,Yc,Y,Yc,Y,Y,Yc,Y,Y,Y,Y,Yc,Y,Yc,Y,Yc,Y,Yc,Y,Y,Y],T:=[(3,ty3),(9,ty9),(23,jN)],S:=[],H:=[(0,([0,1,12,13],[]))],res:=[.tmp 4],ios:=[],G:=gl0}
def gp:List D→Option Out:=bM nO Tryz.f10
@[reducible] def nU:FS:={pm:=[Yc,Yc],rm:=[Y],f:=gp}
theorem uM:aw gl0 Tryz.prog 10 nU:=aM (c:=nO) aB Tryz.func10 rfl rfl (by kernel_rfl)
@[reducible] def pX:Cx:={K:=[Yc,Yc,.no,.no,Y,Y,Yc,Y,Yc,Y,Y,Yc,Y,Y,Y,Y,Yc,Y,Yc,Y,Yc,Y,Yc,Y,Y,Y],T:=[(3,ty3),(35,pf)],S:=[],H:=[(0,([0,1,12,13],[]))],res:=[.tmp 4],ios:=[],G:=gl0}
def fP:List D→Option Out:=bM pX Tryz.f27
@[reducible] def pl:FS:={pm:=[Yc,Yc],rm:=[Y],f:=fP}
theorem vX:aw gl0 Tryz.prog 27 pl:=aM (c:=pX) aB Tryz.func27 rfl rfl (by kernel_rfl)
@[reducible] def nW:Cx:={K:=[Yc,Yc,.no,.no,Y,Y,Yc,Y,Yc,Y,Y,Yc,Y,Y,Y,Y,Yc,Y,Yc,Yc,Yc,Y,Yc,Yc,Y,Y,Y],T:=[(3,ty3),(29,xP),(35,pf)],S:=[(27,pl)],H:=[(0,([0,1,12,13],[]))],res:=[.tmp 4],ios:=[],G:=gl0}
def gu:List D→Option Out:=bM nW Tryz.f11
@[reducible] def ov:FS:={pm:=[Yc,Yc],rm:=[Y],f:=gu}
theorem uX:aw gl0 Tryz.prog 11 ov:=aM (c:=nW) (ac vX aB) Tryz.func11 rfl rfl (by kernel_rfl)
@[reducible] def ie:Cx:={K:=[Yc,.no,.box 4 0 false,Yr 6,Yc,Yc,.box 3 2 false,Yr 6,Yr 6,Yb,Y],T:=[(3,ty3),(9,ty9),(22,wX),(37,iZ),(71,Cw),(73,BW)],S:=[(48,eo),(49,dH)],H:=[],res:=[.cell 2 37],ios:=[],G:=gl0}
def dn:List D→Option Out:=bM ie Tryz.f13
@[reducible] def ij:FS:={pm:=[Yc],rm:=[Y],f:=dn}
theorem nB:aw gl0 Tryz.prog 13 ij:=aM (c:=ie) (ac fA (ac fc aB)) Tryz.func13 rfl rfl (by kernel_rfl)
@[reducible] def lw:Cx:={K:=[Y,.box 4 0 false,Y,Yr 1,Y,Y,Y,Yr 1,Y,Y,Y,Yb,Yr 1,Y,Yb,Y,Y,Yr 1,Y,Y],T:=[(3,ty3),(9,ty9),(23,jN),(37,iZ)],S:=[(80,ml)],H:=[],res:=[.tmp 2],ios:=[],G:=gl1}
def dR:List D→Option Out:=bM lw Tryz.f51
@[reducible] def gY:FS:={pm:=[Y],rm:=[Y],f:=dR}
theorem lH:aw gl1 Tryz.prog 51 gY:=aM (c:=lw) (ac tM aB) Tryz.func51 rfl rfl (by kernel_rfl)
@[reducible] def lG:Cx:={K:=[Y,.box 4 0 false,Y,Y,Y,Y,Y,Y,Y],T:=[(3,ty3),(9,ty9),(37,iZ)],S:=[(50,dI),(51,gY)],H:=[],res:=[.tmp 2,.tmp 3],ios:=[],G:=gl1}
def dQ:List D→Option Out:=bM lG Tryz.f14
@[reducible] def lA:FS:={pm:=[Y],rm:=[Y,Y],f:=dQ}
theorem rZ:aw gl1 Tryz.prog 14 lA:=aM (c:=lG) (ac (aN Gl fd) (ac lH aB)) Tryz.func14 rfl rfl (by kernel_rfl)
@[reducible] def pD (k:List D→Option Out):Cx:={K:=[Y,.no,Y,Y,Y,Y,Y,Y,Yb,Y,Y,Y,Y,Y,Y,Y,Y,Yb,Y,Y],T:=[(3,ty3),(5,ty5),(9,ty9),(22,wX)],S:=[(82,{pm:=[Y],rm:=[Y],f:=k})],H:=[],res:=[.tmp 2],ios:=[],G:=gl0}
def br:Nat→List D→Option Out
 | 0,_=>none
 | n+1,ds=>bM (pD (br n)) Tryz.f82 ds
def ir:List D→Option Out:=At br
@[reducible] def iz:FS:={pm:=[Y],rm:=[Y],f:=ir}
theorem ot:∀n:Nat,aw gl0 Tryz.prog 82 {pm:=[Y],rm:=[Y],f:=br n}
 | 0=>yE (fun _=>rfl)
 | n+1=>by
  have ih:=ot n;exact yj (P:=Tryz.prog) (c:=pD (br n)) (fn:=Tryz.f82) (pm:=iz.pm) (rm:=iz.rm) (by kernel_rfl) (ac ih aB) jS Tryz.func82 (by kernel_rfl) (by kernel_rfl) rfl
theorem wa:aw gl0 Tryz.prog 82 iz:=Be ot
@[reducible] def nV:Cx:={K:=[Y,.box 4 0 false,Y,Yr 1,Y,Y,Y,Yr 1,Y,Y,Y,Yr 1,Y,Yr 1,Y,Y,Y,Y,Yr 1,Y,Y],T:=[(3,ty3),(9,ty9),(37,iZ)],S:=[(82,iz)],H:=[],res:=[.tmp 2],ios:=[],G:=gl0}
def ed:List D→Option Out:=bM nV Tryz.f53
@[reducible] def gm:FS:={pm:=[Y],rm:=[Y],f:=ed}
theorem jL:aw gl0 Tryz.prog 53 gm:=aM (c:=nV) (ac wa aB) Tryz.func53 rfl rfl (by kernel_rfl)
@[reducible] def lC:Cx:={K:=[Y,.box 4 0 false,Y,Y,Y,Y,Y,Y,Y],T:=[(3,ty3),(9,ty9),(37,iZ)],S:=[(52,eR),(53,gm)],H:=[],res:=[.tmp 2,.tmp 3],ios:=[],G:=gl0}
def eY:List D→Option Out:=bM lC Tryz.f15
@[reducible] def lK:FS:={pm:=[Y],rm:=[Y,Y],f:=eY}
theorem rR:aw gl0 Tryz.prog 15 lK:=aM (c:=lC) (ac gC (ac jL aB)) Tryz.func15 rfl rfl (by kernel_rfl)
@[reducible] def gZ:Cx:={K:=[.box 3 2 true,Y,Y,.no,.no,.no,Y,Y,Y,Y,Yr 0,Y,Y,Y,Y,Y,Y,Y,Y,Y,Y,Y,Yr 0,Y,Y,Y,Y,Yr 0,Y,Y,Y,Y,Yb,Y,Yr 0,Y,Y,Y,Y,Y,Y,Y,Y,Y,Y,Y,Y,Y,Y,Y,Y,Y,Y,Y,Y,Y,Y,Y,Y,Y,Y,Y,Y,Y,Y,Y,Y,Y],T:=[(3,ty3),(5,ty5),(9,ty9),(22,wX)],S:=[(54,ba)],H:=[(0,([0,1,2,7],[0,1]))],res:=[.tmp 6],ios:=[0],G:=gl0}
def cz:List D→Option Out:=bM gZ Tryz.f55
@[reducible] def hY:FS:={pm:=[.box 3 2 true,Y,Y],rm:=[Y],f:=cz}
theorem np:aw gl0 Tryz.prog 55 hY:=aM (c:=gZ) (ac bq aB) Tryz.func55 rfl rfl (by kernel_rfl)
@[reducible] def gD:Cx:={K:=[Yc,.no,Y,Yr 8,Y,.box 4 0 false,Yc,Yc,.box 3 2 false,Yr 8,Yb,Y,Y,Y,Y,Y,Yr 8,Y,Y,Y,Yr 8,Y,Y,Y,Y,Yr 8,Yb,Y,Y],T:=[(3,ty3),(9,ty9),(22,wX),(23,jN),(37,iZ),(71,Cw),(73,BW)],S:=[(48,eo),(52,eR),(53,gm),(54,ba),(55,hY),(56,dT)],H:=[],res:=[.tmp 2],ios:=[],G:=gl0}
def cO:List D→Option Out:=bM gD Tryz.f16
@[reducible] def gL:FS:={pm:=[Yc],rm:=[Y],f:=cO}
theorem mr:aw gl0 Tryz.prog 16 gL:=aM (c:=gD) (ac fA (ac gC (ac jL (ac bq (ac np (ac eV aB)))))) Tryz.func16 rfl rfl (by kernel_rfl)
@[reducible] def kf:Cx:={K:=[Y,.no,Yo 1 0,Yo 1 0,.no,Y,Y,Y,Yo 1 0,Y,Yb,Y,Y,Y,Yb,Y,.tup [Y,Y],Y,.tup [Y,Y],Y,Y,Y,Y,Yo 1 0,Yo 1 0,Y,Yb,Yo 1 0,Y,Yo 1 0],T:=[(3,ty3),(9,ty9),(23,jN),(35,pf),(117,Gb)],S:=[(96,gG),(98,lS)],H:=[(0,([3,10,11,12],[3]))],res:=[.tmp 2],ios:=[],G:=gl2}
def eG:List D→Option Out:=bM kf Tryz.f58
@[reducible] def kJ:FS:={pm:=[Y],rm:=[Yo 1 0],f:=eG}
theorem qJ:aw gl2 Tryz.prog 58 kJ:=aM (c:=kf) (ac (aN jQ lR) (ac th aB)) Tryz.func58 rfl rfl (by kernel_rfl)
@[reducible] def kO:Cx:={K:=[Y,.no,.box 4 0 false,Y,Y,Yb,.box 4 0 false,Y,Y,Y,Y,Y,Y,Y,Y,Yb,Yb,Y,Y,Y,Yb,Yb,Y,Yb,Yb,Y,Y,Y,Y,Y,Y,Y,Y,Y,Y,Y,Y,Y,Y,Y,Y,Y,Y,Y,Y,Y,Y],T:=[(3,ty3),(9,ty9),(35,pf),(37,iZ)],S:=[(50,dI),(51,gY),(57,iR),(58,kJ),(59,hD)],H:=[],res:=[.cell 2 37,.tmp 3],ios:=[],G:=gl2}
def dv:List D→Option Out:=bM kO Tryz.f17
@[reducible] def kK:FS:={pm:=[Y],rm:=[Y,Y],f:=dv}
theorem rf:aw gl2 Tryz.prog 17 kK:=aM (c:=kO) (ac (aN jQ fd) (ac (aN FM lH) (ac (aN jQ oI) (ac qJ (ac (aN jQ nu) aB))))) Tryz.func17 rfl rfl (by kernel_rfl)
@[reducible] def mL:Cx:={K:=[Y,Y,.no,.no,Yo 1 0,Yo 1 0,Y,Y,Y,Y,Y,Y,Y,Y,Y,Y,Y,Y,Y,Yo 1 0,Y,Y,Y,Y,Yb,Yo 1 0,Y,Y,Yo 1 0,Y,Y,Y,Yb,Yo 1 0],T:=[(3,ty3),(5,ty5),(9,ty9),(23,jN)],S:=[],H:=[(0,([0,1,5,6,7],[0,5,6]))],res:=[.tmp 4],ios:=[],G:=gl0}
def fR:List D→Option Out:=bM mL Tryz.f60
@[reducible] def lU:FS:={pm:=[Y,Y],rm:=[Yo 1 0],f:=fR}
theorem tl:aw gl0 Tryz.prog 60 lU:=aM (c:=mL) aB Tryz.func60 rfl rfl (by kernel_rfl)
@[reducible] def nJ:Cx:={K:=[Y,.no,Y,Y,Y,Y,Y,Y,Y,Y,Y,Y,Y,Y,Y,Y,Y,Y,Y,Y,Y,Y,Y,Y,Y,Y,Y,Y,Y,Y,Y,Y,Y,Y,Y,Y,Y,Y,Y,Y,Y,Y,Y,Y],T:=[(3,ty3),(5,ty5),(9,ty9)],S:=[(68,fu)],H:=[(0,([0,3,4],[3]))],res:=[.tmp 2],ios:=[],G:=gl0}
def eO:List D→Option Out:=bM nJ Tryz.f61
@[reducible] def oh:FS:={pm:=[Y],rm:=[Y],f:=eO}
theorem uy:aw gl0 Tryz.prog 61 oh:=aM (c:=nJ) (ac gF aB) Tryz.func61 rfl rfl (by kernel_rfl)
@[reducible] def kn:Cx:={K:=[Y,.no,.box 4 0 false,Y,Yb,Y,.box 4 0 false,Y,Y,Yb,Yb,Y,Y,Y,Y,Yb,Yb,Y,Y,Y,Y,Yb,Yb,Y,Y,Y,Y,Y,Y,Yb,Yb,Y,Y,Y,Y,Y,Y,Y,Y,Yb,Yb,Y,Y,Y,Y,Yb,Yb,Y,Y,Yb,Yb,Y,Y,Y,Y,Yb,Yb,Y,Y,Y,Y,Y,Y,Y,Y,Y,Yb,Yb,Y,Y,Y,Y,Y,Y,Y,Yr 6,Y,Y,Y,Y,Y,Y,Y,Y,Y,Y,Y],T:=[(3,ty3),(5,ty5),(9,ty9),(23,jN),(37,iZ)],S:=[(52,eR),(53,gm),(60,lU),(61,oh)],H:=[(0,([0,2,4,5],[0,2,4,5])),(2,([0,2,4,5,6,7],[0,2,6]))],res:=[.cell 2 37,.tmp 3],ios:=[],G:=gl0}
def eE:List D→Option Out:=bM kn Tryz.f18
@[reducible] def kP:FS:={pm:=[Y],rm:=[Y,Y],f:=eE}
theorem qY:aw gl0 Tryz.prog 18 kP:=aM (c:=kn) (ac gC (ac jL (ac tl (ac uy aB)))) Tryz.func18 rfl rfl (by kernel_rfl)
@[reducible] def js:Cx:={K:=[Yc,.no,Yo 1 0,Yr 6,Yc,Yc,.box 3 2 false,Yr 6,Yo 1 0],T:=[(3,ty3),(22,wX),(23,jN),(71,Cw),(73,BW)],S:=[(49,dH)],H:=[],res:=[.tmp 2],ios:=[],G:=gl0}
def dN:List D→Option Out:=bM js Tryz.f20
@[reducible] def je:FS:={pm:=[Yc],rm:=[Yo 1 0],f:=dN}
theorem oP:aw gl0 Tryz.prog 20 je:=aM (c:=js) (ac fc aB) Tryz.func20 rfl rfl (by kernel_rfl)
@[reducible] def ly:Cx:={K:=[Yc,Yc,.no,.no,Y,Yc,Yc,Y],T:=[],S:=[(42,fC)],H:=[],res:=[.tmp 4],ios:=[],G:=gl0}
def eT:List D→Option Out:=bM ly Tryz.f22
@[reducible] def lJ:FS:={pm:=[Yc,Yc],rm:=[Y],f:=eT}
theorem rN:aw gl0 Tryz.prog 22 lJ:=aM (c:=ly) (ac jk aB) Tryz.func22 rfl rfl (by kernel_rfl)
@[reducible] def ma:Cx:={K:=[Yc,.no,Y,Yc,Y],T:=[],S:=[(45,gy)],H:=[],res:=[.tmp 2],ios:=[],G:=gl0}
def fy:List D→Option Out:=bM ma Tryz.f23
@[reducible] def mC:FS:={pm:=[Yc],rm:=[Y],f:=fy}
theorem tQ:aw gl0 Tryz.prog 23 mC:=aM (c:=ma) (ac jV aB) Tryz.func23 rfl rfl (by kernel_rfl)
end Go.Proofs.YtidhhpakdogiaaaGreatDoor

end
