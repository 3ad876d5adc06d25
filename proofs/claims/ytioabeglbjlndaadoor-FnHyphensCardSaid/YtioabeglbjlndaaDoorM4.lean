/-
  A part of the proof: contracts and plain forms of functions beneath the statement, made small by a program (names shortened, what is not needed left out).
-/
import Derived.Test.YtioabeglbjlndaaDoorRows
import Derived.Test.YtioabeglbjlndaaDoorTie
import Derived.Test.YtioabeglbjlndaaDoorCards
import Derived.Test.YtioabeglbjlndaaDoorM3
import Derived.Below
import Derived.Shelf.Strconv.Itoa3
import Derived.Shelf.Strconv.AtoiAll
import Derived.Lib.AtoiErrMem
import Derived.Shelf.Strings.Cut
import Derived.Shelf.Strings.SplitShaped
import Derived.Shelf.Strings.Prefix
import Derived.Shelf.Strings.OnBuilder
import Derived.Shelf.Strings.FieldsFuncGrows
import Derived.Shelf.Strings.Replace
import Derived.Shelf.Strings.Search3
import Derived.ProofKit
import Derived.ChangeArms
import Derived.Stop.LaidErr
import Derived.Deep.DeepHandedRow
import Derived.Deep.DeepWitnessRowRef
import Derived.LaidMore
import Derived.MakeChecks
import Derived.Shelf.Vars
open Bool renaming and_eq_true → EP, false_eq_true → EU, not_eq_true' → Fm, not_false → FF
open Option.some renaming injEq → EQ
open List renaming getElem?_eq_some_iff → ER, getD_eq_getElem?_getD → ET, getElem?_eq_getElem → EW, getD_cons_zero → Fa, getElem?_cons_zero → Ff, all_eq_true → Fp, length_map → Fs, mem_append → Ft, mapM_cons → Fu, drop_zero → Fv, getElem?_eq_none → Fx, all_cons → Fz, mem_map_of_mem → FA, replicate → FE
open Option renaming bind_eq_some_iff → ES, map_eq_some_iff → Fg, isSome_iff_exists → Fq
open Array renaming replicate → EV, getD_eq_getD_getElem? → Fk, getElem?_append_left → Fl, getElem?_toList → Fw
open Go.Value renaming string → EX, okWide → Fi
open Go.DataW renaming TrodAll → EY
open Nat renaming le_refl → EZ, zero_add → Fb, beq → Fc, mul → Fe, add → FG
open Go.Oper renaming upon_enter → Fh
open Go.Proofs renaming enters_of → Fj
open Go.Calls renaming mono → Fo
open Classical renaming choose → Fr
open Go.Lib renaming countB → Fy
open Go.Shelf renaming Ren → FC
open Go.Result renaming andThen_ok → FD
set_option maxRecDepth 100000
set_option linter.unusedSimpArgs false
set_option linter.unusedVariables false
noncomputable section
namespace Go.V
open Go.RowKit
set_option maxRecDepth 100000
def nP:List ResultVar→List Nat
 | []=>[]
 | .tmp t::l=>t::nP l
 | .cell _ _::l=>nP l
def bk (c:Cx):List ResultVar→List Kd→Bool
 | [],[]=>true
 | .tmp t::l,.dat lv::m=>(match ah c.K t with
  | .dat l'=>Nat.ble l' lv
  | _=>false)&&bk c l m
 | .tmp t::l,.own z lv false::m=>(match ah c.K t with
  | .own z' l' false=>Fc z' z&&Nat.ble l' lv
  | _=>false) && !jP t (nP l)&&bk c l m
 | .cell s t::l,.dat lv::m=>(match ah c.K s with
  | .box _ l' _=>Nat.ble l' lv
  | _=>false)&&(cb c.T t).isSome&&bk c l m
 | _,_=>false
def ni:Nat→List Kd→List Nat
 | _,[]=>[]
 | i,k::ks=>if mZ k then i::ni (i+1) ks else ni (i+1) ks
def eqK:Kd→Kd→Bool
 | .dat a,.dat b=>Fc a b
 | .own a b io,.own a' b' io'=>Fc a a'&&Fc b b'&&io==io'
 | .box a b io,.box a' b' io'=>Fc a a'&&Fc b b'&&io==io'
 | _,_=>false
def vL:List Kd→List Kd→Bool
 | [],_=>true
 | k::ks,l::ls=>eqK k l&&vL ks ls
 | _,_=>false
section
variable {P:Program} {c:Cx} {B:Nat} {X:Nat→Prop} {w0:World} {F0 F:Nat→Prop} {O:Nat→Option (Nat × Nat)} {a:Act} {w:World} {δ:List D}
def lf (tmps:Array Value):ResultVar→Sem Value
 | .tmp t=>pure (tmps.getD t undef)
 | .cell a t=>do loadVar t (←asAddr (tmps.getD a undef))
theorem DW {k l:Kd} (h:eqK k l=true):k=l:=by
 unfold eqK at h;split at h
 ·rw [aw] at h;rw [h]
 ·simp only [EP,aw,beq_iff_eq] at h
  obtain⟨⟨rfl,rfl⟩,rfl⟩:=h;rfl
 ·simp only [EP,aw,beq_iff_eq] at h
  obtain⟨⟨rfl,rfl⟩,rfl⟩:=h;rfl
 ·cases h
theorem pT:∀{ks ls:List Kd},vL ks ls=true→ks.length≤ls.length∧∀(i:Nat),i<ks.length→ah ls i=ah ks i
 | [],_,_=>⟨by simp,by simp⟩
 | k::ks,l::ls,h=>by
  simp only [vL,EP] at h;obtain⟨h1,h2⟩:=pT h.2;refine⟨by simp;exact h1,fun i hi=>?_⟩
  cases i with
  | zero=>simp only [ah];exact(DW h.1).symm
  | succ i=>simp only [ah];exact h2 i (by simpa using hi)
 | _::_,[],h=>by simp [vL] at h
def DG (B:Nat) (O:Nat→Option (Nat × Nat)) (res:List ResultVar) (j:Nat) (g:Nat):Prop:=B≤g∧∃t,res[j]?=some (.tmp t)∧O g=some (t,0)
theorem iI {w:World} {F:Nat→Prop} {B:Nat} {own own':Nat→Prop} {k:Kd} {d:D} {y:Value} (ho:(∃z lv,k = .own z lv false)→∀g,own g→own' g) (h:wO w F B own k d y):wO w F B own' k d y:=by
 rcases h with h | h
 ·exact .inl h
 ·refine .inr ?_
  cases k with
  | own z lv io =>
   cases io
   ·exact h.own fun _ _ hg=>⟨ho ⟨z,lv,rfl⟩ _ hg.1,hg.2⟩
   ·exact h
  | _=>exact h
theorem pD (hT:okT P c.T=true) (hI:Inv c B X w0 F0 F O a w δ):∀(res:List ResultVar) (rm:List Kd) (rs:List D),bk c res rm=true→jG c δ res (fun rs=>some (.nrm rs))=some (.nrm rs) →
  ∃vs:List Value,(res.mapM (lf a.tmps)).run P w = .ok vs w∧vs.length=rm.length∧rs.length=rm.length∧∀j,wO w F B (DG B O res j) (ah rm j) (nth rs j) (vs.getD j undef)
 | [],[],rs,_,h=>by
  simp only [jG,EQ,Out.nrm.injEq] at h;subst h;exact⟨[],by simp,rfl,rfl,fun j=>.inl (by simp [nth])⟩
 | .tmp t::l,.dat lv::m,rs,hok,h=>by
  simp only [bk,EP] at hok;simp only [jG,cL] at h;rw [fU] at h;obtain⟨o,h1,h2⟩:=ES.1 h;split at h2
  case h_2=>cases h2
  rename_i rs';simp only [EQ,Out.nrm.injEq] at h2;subst h2;obtain⟨vs,g1,g2,g3,g4⟩:=pD hT hI l m rs' hok.2 h1;refine⟨a.tmps.getD t undef::vs,by simp [Fu,lf,g1],by simp [g2],by simp [g3],fun j=>?_⟩
  cases j with
  | zero =>
   simp only [ah,nth,Fa];have hk:=hok.1;split at hk
   case h_2=>cases hk
   rename_i l' hkt;exact(ep (aO.1 hk) (hI.dat hkt))
  | succ j =>
   refine iI (fun _ g hg=>?_) (g4 j)
   obtain⟨e1,t',e2,e3⟩:=hg;exact⟨e1,t',by simpa using e2,e3⟩
 | .tmp t::l,.own z lv false::m,rs,hok,h=>by
  simp only [bk,EP] at hok;simp only [jG,cL] at h;rw [fU] at h;obtain⟨o,h1,h2⟩:=ES.1 h;split at h2
  case h_2=>cases h2
  rename_i rs';simp only [EQ,Out.nrm.injEq] at h2;subst h2;obtain⟨vs,g1,g2,g3,g4⟩:=pD hT hI l m rs' hok.2 h1;refine⟨a.tmps.getD t undef::vs,by simp [Fu,lf,g1],by simp [g2],by simp [g3],fun j=>?_⟩
  cases j with
  | zero =>
   simp only [ah,nth,Fa];have hk:=hok.1.1;split at hk
   case h_2=>cases hk
   rename_i z' l' hkt;simp only [EP,aw,aO] at hk;obtain⟨rfl,hle⟩:=hk;by_cases hb:nth δ t = .bad
   ·exact .inl hb
   ·exact .inr (co (hZ hle) (fun _ _=>rfl) (fun g _ hg=>⟨⟨⟨hg.2 rfl,t,rfl,hg.1⟩,hg.2 rfl⟩,rfl⟩) (hI.own hkt hb))
  | succ j =>
   refine iI (fun _ g hg=>?_) (g4 j)
   obtain⟨e1,t',e2,e3⟩:=hg;exact⟨e1,t',by simpa using e2,e3⟩
 | .cell s t::l,.dat lv::m,rs,hok,h=>by
  simp only [bk,EP] at hok;simp only [jG] at h;split at h
  case h_2=>cases h
  rename_i i hi;simp only [cL] at h;obtain⟨y,hy,h⟩:=ES.1 h;rw [fU] at h;obtain⟨o,h1,h2⟩:=ES.1 h;split at h2
  case h_2=>cases h2
  rename_i rs';simp only [EQ,Out.nrm.injEq] at h2;subst h2;obtain⟨vs,g1,g2,g3,g4⟩:=pD hT hI l m rs' hok.2 h1;have hk:=hok.1.1;split at hk
  case h_2=>cases hk
  rename_i n l' io hks;rw [aO] at hk;have hb:nth δ s ≠ .bad:=by
   intro e;rw [e] at hy;simp [sO] at hy
  obtain⟨mm,us,g,e,hd',a1,a2,a3,a4,a5,a6⟩:=hI.box hks hb;rw [hd'] at hy;simp only [sO,Fv] at hy;have hcell:bP w g 0 us:=jX a2 (fun i u hu=>by simpa using hu);obtain⟨v,hv,hr⟩:=oV (P:=P) (tok hT hi) a3 a4 hcell hy;have hv':(lf a.tmps (.cell s t)).run P w = .ok v w:=by
   have e1:a.tmps.getD s undef = .pointer (some ⟨g,0,none⟩):=a1;simp only [lf,e1];simpa [Instr.loadAt,Instr.sureAddr,asAddr] using hv
  refine⟨v::vs,by simp [Fu,hv',g1],by simp [g2],by simp [g3],fun j=>?_⟩
  cases j with
  | zero =>
   simp only [ah,nth,Fa];exact .inr (bh (hZ hk) (fun _ _=>rfl) hr)
  | succ j =>
   refine iI (fun _ g hg=>?_) (g4 j)
   obtain⟨e1,t',e2,e3⟩:=hg;exact⟨e1,t',by simpa using e2,e3⟩
 | [],_::_,_,hok,_=>by simp [bk] at hok
 | .tmp _::_,[],_,hok,_=>by simp [bk] at hok
 | .cell _ _::_,[],_,hok,_=>by simp [bk] at hok
 | .tmp _::_,.own _ _ true::_,_,hok,_=>by simp [bk] at hok
 | .tmp _::_,.box _ _ _::_,_,hok,_=>by simp [bk] at hok
 | .tmp _::_,.via _::_,_,hok,_=>by simp [bk] at hok
 | .tmp _::_,.ref _::_,_,hok,_=>by simp [bk] at hok
 | .tmp _::_,.tup _::_,_,hok,_=>by simp [bk] at hok
 | .tmp _::_,.no::_,_,hok,_=>by simp [bk] at hok
 | .tmp _::_,.itr::_,_,hok,_=>by simp [bk] at hok
 | .tmp _::_,.mpo::_,_,hok,_=>by simp [bk] at hok
 | .cell _ _::_,.own _ _ _::_,_,hok,_=>by simp [bk] at hok
 | .cell _ _::_,.box _ _ _::_,_,hok,_=>by simp [bk] at hok
 | .cell _ _::_,.via _::_,_,hok,_=>by simp [bk] at hok
 | .cell _ _::_,.ref _::_,_,hok,_=>by simp [bk] at hok
 | .cell _ _::_,.tup _::_,_,hok,_=>by simp [bk] at hok
 | .cell _ _::_,.no::_,_,hok,_=>by simp [bk] at hok
 | .cell _ _::_,.itr::_,_,hok,_=>by simp [bk] at hok
 | .cell _ _::_,.mpo::_,_,hok,_=>by simp [bk] at hok
def pj:List ResultVar→Nat→Nat→Option Nat
 | [],_,_=>none
 | .tmp t::l,s,j=>if t=s then some j else pj l s (j+1)
 | .cell _ _::l,s,j=>pj l s (j+1)
theorem nM:∀{res:List ResultVar} {j t:Nat},res[j]?=some (.tmp t)→t∈nP res
 | .tmp s::l,0,t,h=>by simp at h;simp [nP,h]
 | .cell _ _::l,0,t,h=>by simp at h
 | .tmp s::l,j+1,t,h=>by simp only [nP,List.mem_cons];exact .inr (nM (by simpa using h))
 | .cell _ _::l,j+1,t,h=>by simp only [nP];exact nM (by simpa using h)
theorem kq:∀(res:List ResultVar) (rm:List Kd),bk c res rm=true→∀(j t i:Nat) (z lv:Nat),ah rm j = .own z lv false→res[j]?=some (.tmp t)→pj res t i=some (i+j)∧∃z' l',ah c.K t = .own z' l' false
 | [],[],_,j,t,i,z,lv,h,_=>by simp [ah] at h
 | .tmp s::l,.dat lv'::m,hok,j,t,i,z,lv,h,hj=>by
  simp only [bk,EP] at hok;cases j with
  | zero=>simp [ah] at h
  | succ j =>
   obtain⟨h1,h2⟩:=kq l m hok.2 j t (i+1) z lv (by simpa [ah] using h) (by simpa using hj);refine⟨?_,h2⟩
   simp only [pj];rw [if_neg,h1]
   ·congr 1;omega
   ·rintro rfl
    obtain⟨z',l',hk⟩:=h2;rw [hk] at hok;cases hok.1
 | .tmp s::l,.own z0 lv0 false::m,hok,j,t,i,z,lv,h,hj=>by
  simp only [bk,EP] at hok;cases j with
  | zero =>
   simp at hj;subst hj;refine⟨by simp [pj],?_⟩
   have hk:=hok.1.1;split at hk
   ·exact⟨_,_,‹_›⟩
   ·cases hk
  | succ j =>
   obtain⟨h1,h2⟩:=kq l m hok.2 j t (i+1) z lv (by simpa [ah] using h) (by simpa using hj);refine⟨?_,h2⟩
   simp only [pj];rw [if_neg,h1]
   ·congr 1;omega
   ·rintro rfl
    have hm:=hok.1.2;rw [eT] at hm;simp only [Fm,decide_eq_false_iff_not] at hm;exact hm (nM (by simpa using hj))
 | .cell s s'::l,.dat lv'::m,hok,j,t,i,z,lv,h,hj=>by
  simp only [bk,EP] at hok;cases j with
  | zero=>simp [ah] at h
  | succ j =>
   obtain⟨h1,h2⟩:=kq l m hok.2 j t (i+1) z lv (by simpa [ah] using h) (by simpa using hj);refine⟨?_,h2⟩
   simp only [pj];rw [h1];congr 1;omega
 | [],_::_,hok,_,_,_,_,_,_,_=>by simp [bk] at hok
 | .tmp _::_,[],hok,_,_,_,_,_,_,_=>by simp [bk] at hok
 | .cell _ _::_,[],hok,_,_,_,_,_,_,_=>by simp [bk] at hok
 | .tmp _::_,.own _ _ true::_,hok,_,_,_,_,_,_,_=>by simp [bk] at hok
 | .tmp _::_,.box _ _ _::_,hok,_,_,_,_,_,_,_=>by simp [bk] at hok
 | .tmp _::_,.via _::_,hok,_,_,_,_,_,_,_=>by simp [bk] at hok
 | .tmp _::_,.ref _::_,hok,_,_,_,_,_,_,_=>by simp [bk] at hok
 | .tmp _::_,.tup _::_,hok,_,_,_,_,_,_,_=>by simp [bk] at hok
 | .tmp _::_,.no::_,hok,_,_,_,_,_,_,_=>by simp [bk] at hok
 | .tmp _::_,.itr::_,hok,_,_,_,_,_,_,_=>by simp [bk] at hok
 | .tmp _::_,.mpo::_,hok,_,_,_,_,_,_,_=>by simp [bk] at hok
 | .cell _ _::_,.own _ _ _::_,hok,_,_,_,_,_,_,_=>by simp [bk] at hok
 | .cell _ _::_,.box _ _ _::_,hok,_,_,_,_,_,_,_=>by simp [bk] at hok
 | .cell _ _::_,.via _::_,hok,_,_,_,_,_,_,_=>by simp [bk] at hok
 | .cell _ _::_,.ref _::_,hok,_,_,_,_,_,_,_=>by simp [bk] at hok
 | .cell _ _::_,.tup _::_,hok,_,_,_,_,_,_,_=>by simp [bk] at hok
 | .cell _ _::_,.no::_,hok,_,_,_,_,_,_,_=>by simp [bk] at hok
 | .cell _ _::_,.itr::_,hok,_,_,_,_,_,_,_=>by simp [bk] at hok
 | .cell _ _::_,.mpo::_,hok,_,_,_,_,_,_,_=>by simp [bk] at hok
theorem pQ {w:World} {F:Nat→Prop} {ow:Nat→Option Nat}:∀(pm:List Kd) (ds:List D) (ys:List Value) (i:Nat),ed w F ow i pm ds ys→ds.length=pm.length∧ys.length=pm.length∧∀(j:Nat),j<pm.length→jr w F (fun g=>ow g=some (i+j)) (ah pm j) (nth ds j) (ys.getD j undef)
 | [],[],[],_,_=>⟨rfl,rfl,fun j h=>by simp at h⟩
 | k::pm,d::ds,y::ys,i,h=>by
  obtain⟨h1,h2⟩:=h;obtain⟨g1,g2,g3⟩:=pQ pm ds ys (i+1) h2;refine⟨by simp [g1],by simp [g2],fun j hj=>?_⟩
  cases j with
  | zero=>exact h1
  | succ j =>
   have:=g3 j (by simpa using hj);simp only [ah,nth,List.getD_cons_succ];rw [show i+(j+1)=i+1+j from by omega];exact this
 | [],[],_::_,_,h=>h.elim
 | [],_::_,_,_,h=>h.elim
 | _::_,[],_,_,h=>h.elim
 | _::_,_::_,[],_,h=>h.elim
theorem uP {w:World} {F:Nat→Prop} {δ:List D}:∀(pm:List Kd) (ys:List Value) (i:Nat),ys.length=pm.length→(∀(j:Nat),j<pm.length→mZ (ah pm j)=true→nth δ (i+j) ≠ .bad∧jr w F (fun _=>True) (ah pm j) (nth δ (i+j)) (ys.getD j undef))→kA w F pm (ae δ (ni i pm)) ys
 | [],ys,i,_,_=>by simp [ni,ae,kA]
 | k::pm,[],i,hl,_=>by simp at hl
 | k::pm,y::ys,i,hl,h=>by
  have ih:=uP pm ys (i+1) (by simpa using hl) (fun j hj hio=>by
   have:=h (j+1) (by simpa using hj) (by simpa [ah] using hio);rw [show i+1+j=i+(j+1) from by omega];simpa [ah] using this)
  cases hk:mZ k with
  | true =>
   have h0:=h 0 (by simp) (by simpa [ah] using hk);simp only [ni,hk,if_true,ae,kA];exact⟨by simpa using h0.1,by simpa [ah] using h0.2,ih⟩
  | false=>simpa only [ni,hk,EU,if_false,kA] using ih
theorem qJ:∀(pm:List Kd) (i j:Nat),j<pm.length→mZ (ah pm j)=true→i+j∈ni i pm
 | k::pm,i,0,_,h=>by
  simp only [ah] at h;simp [ni,h]
 | k::pm,i,j+1,hj,h=>by
  have ih:=qJ pm (i+1) j (by simpa using hj) (by simpa [ah] using h);rw [show i+(j+1)=i+1+j from by omega];simp only [ni];split
  ·exact List.mem_cons_of_mem _ ih
  ·exact ih
theorem mE:∀(n:Nat) (l:List D) (s:Nat),l.length≤n→nth (mf n l) s=nth l s
 | 0,l,s,h=>by
  have:l=[]:=List.eq_nil_of_length_eq_zero (by omega);subst this;simp [mf]
 | n+1,[],s,_=>by
  cases s with
  | zero=>simp [nth]
  | succ s=>simp only [nth];rw [mE n [] s (by simp)]
 | n+1,d::l,s,h=>by
  cases s with
  | zero=>simp [nth]
  | succ s=>simp only [nth];exact mE n l s (by simpa using h)
theorem mP:∀(n:Nat) (l:List D),(mf n l).length=n
 | 0,_=>rfl
 | n+1,[]=>by simp [mf,mP n []]
 | n+1,_::l=>by simp [mf,mP n l]
def xO (c:Cx) (fn:Func) (pm rm:List Kd):Bool :=
 (match fn.body with
  | some b=>cn c 0 b
  | none=>false)&&Fc (gm c.K) fn.ntmps&&vL pm c.K&&fT pm&&bk c c.res rm&&decide (c.ios=ni 0 pm)
theorem oU:∀{pm:List Kd},fT pm=true→∀j,j<pm.length→(∃lv,ah pm j = .dat lv∧lv≠1)∨(∃z lv,ah pm j = .own z lv true∧lv≠1)∨∃n lv,ah pm j = .box n lv true∧lv≠1
 | m::pm,h,j,hj=>by
  obtain⟨h1,h2,h3⟩:=tS h;cases j with
  | succ j=>exact oU h1 j (by simpa using hj)
  | zero =>
   simp only [ah];cases m with
   | dat lv =>
    refine .inl ⟨lv,rfl,?_⟩
    simp only [fT] at h;split at h
    case h_2=>cases h
    rename_i e1 e2;intro e;subst e;simp at e1
   | own z lv io =>
    cases io
    ·simp [fT] at h
    ·exact .inr (.inl ⟨z,lv,rfl,h2 z lv rfl⟩)
   | box n lv io =>
    cases io
    ·simp [fT] at h
    ·exact .inr (.inr ⟨n,lv,rfl,h3 n lv rfl⟩)
   | _=>simp [fT] at h
theorem AG (hT:okT P c.T=true) (hS:∀f S,cb c.S f=some S→ay c.G P f S) (hm:P.follows .mixedOrders=true) {f:FuncId} {fn:Func} (hf:P.funcs[f]?=some fn) {pm rm:List Kd} (hok:xO c fn pm rm=true) (hres:c.res=fn.results.toList)
  {ds rs us:List D} (hd:bv c fn ds=some (.ret rs us)) {args:Array Value} {w:World} {F:Nat→Prop} {ow:Nat→Option Nat} (hgl:gOk c.G w F) (ha:ed w F ow 0 pm ds args.toList) (hF:∀b,F b→b<w.heap.size∧ow b=none) (hO:∀b i,ow b=some i→b<w.heap.size) :
  Calls P f args w fun e w'=>∃v,e = .returned v∧∃F' R vs,v=jH vs∧CallPost {pm:=pm,rm:=rm,f:=bv c fn} args rs us w F ow F' R vs w':=by
 unfold xO at hok;simp only [EP,decide_eq_true_eq] at hok;obtain⟨⟨⟨⟨⟨hcode,hlenK⟩,hpre⟩,hpm⟩,hokr⟩,hios⟩:=hok;rw [aw,ic] at hlenK;obtain⟨hpl,hpn⟩:=pT hpre;obtain⟨hdl,hal,hargs⟩:=pQ pm ds args.toList 0 ha;have hasz:args.size=pm.length:=by simpa using hal
 unfold bv at hd;cases hb:fn.body with
 | none=>rw [hb] at hd;cases hd
 | some b =>
  rw [hb] at hd hcode;simp only at hd hcode;refine calls_of_wp hf hb ?_
  have hav:∀s,s<pm.length→av ({tmps:=args++EV (fn.ntmps - args.size) undef,defers:=[]}:Act) s=args.toList.getD s undef:=fun s hs=>by
   have h1:s<args.size:=by omega
   simp only [av,Fk,ET,Fw];rw [Fl h1]
  have hinit:Inv c w.heap.size (fun b=>ow b≠none) w F F (fun b=>(ow b).map fun i=>(i,0)) {tmps:=args++EV (fn.ntmps - args.size) undef,defers:=[]} w (mf fn.ntmps ds):=by
   refine⟨by simp;omega,by rw [mP,hlenK],rfl,fun s=>?_,fun b hb=>⟨(hF b hb).1,by simp [(hF b hb).2]⟩,fun b p hp=>?_,fun _ h=>h,fun _ h=>.inl h,EZ _,rfl,rfl,rfl,fun _ _ _=>rfl,hgl⟩
   ·unfold qp
    rw [mE _ _ _ (by rw [hdl];omega)];by_cases hs:s<pm.length
    ·rw [hpn s hs,hav s hs]
     rcases hargs s hs with hbad | harg
     ·exact .inl hbad
     refine .inr ?_
     have hlv:∀lv,lv≠1→∀b,FB F 0 lv b→FB F w.heap.size lv b:=fun lv h1 b hb=>by
      match lv,h1 with
      | 0,_=>exact hb
      | _+2,_=>exact hb
     rcases oU hpm s hs with ⟨lv,hk,h1⟩ | ⟨z,lv,hk,h1⟩ | ⟨n,lv,hk,h1⟩
     ·rw [hk] at harg ⊢
      exact .inr (bh (hlv lv h1) (fun _ _=>rfl) harg)
     ·rw [hk] at harg ⊢
      exact .inr (co (hlv lv h1) (fun _ _=>rfl) (fun g _ hg=>⟨⟨by simp only [Fb] at hg;simp [hg],fun h=>by cases h⟩,rfl⟩) harg)
     ·rw [hk] at harg ⊢
      exact .inr (iP (hlv lv h1) (fun _ _=>rfl) (fun g _ hg=>⟨⟨by simp only [Fb] at hg;simp [hg],fun h=>by cases h⟩,rfl⟩) harg)
    ·refine .inl ?_
     rw [cO,ET,Fx (by omega)];rfl
   ·obtain⟨i,hi,rfl⟩:=Fg.1 hp
    exact⟨hO b i hi,.inr (by rw [hi];simp)⟩
  refine gj hT hS hm b 0 hcode F _ _ w _ hinit (V:=av {tmps:=args++EV (fn.ntmps - args.size) undef,defers:=[]}) (fun _ _=>rfl) _ _ hd _ (fun e a' w' hp=>?_)
  have fin:eK c w.heap.size (fun b=>ow b≠none) w F (av {tmps:=args++EV (fn.ntmps - args.size) undef,defers:=[]}) (fun δ=>xo c δ some) (.ret rs us) a' w'→a'.defers=[]∧∃v,(results fn a'.tmps).run P w' = .ok v w'∧∃v',Ending.returned v = .returned v'∧∃F' R vs,v'=jH vs∧CallPost {pm:=pm,rm:=rm,f:=bv c fn} args rs us w F ow F' R vs w':=by
   rintro⟨⟨F',O',δ',hI',hk⟩,hV'⟩;obtain⟨rs',h1,h2,h3⟩:=gF hk;simp only [EQ,Out.ret.injEq] at h3;obtain⟨rfl,rfl⟩:=h3;obtain⟨vs,g1,g2,g3,g4⟩:=pD (P:=P) hT hI' c.res rm rs' hokr h1;refine⟨hI'.df,jH vs,?_,_,rfl,F',fun b=>if w.heap.size≤b then(match O' b with
    | some (t,0)=>pj c.res t 0
    | _=>none) else none,vs,rfl,?_⟩
   ·have hrun:(fn.results.mapM (lf a'.tmps)).run P w' = .ok vs.toArray w':=by
     rw [Array.mapM_eq_mapM_toList,←hres];simp [g1]
    have hrw:results fn a'.tmps=(do
      let vs ←fn.results.mapM (lf a'.tmps)
      pure (if h:vs.size=1 then vs[0] else .tuple vs)):=by
     unfold results;congr 1
    rw [hrw];simp only [Sem.run_bind,hrun,FD,Sem.run_pure];congr 1
    rcases vs with _ | ⟨y,_ | ⟨y',vs⟩⟩
    ·simp [jH]
    ·simp [jH]
    ·simp [jH]
   ·refine⟨hI'.os,hI'.tape,hI'.output,hI'.bb,fun b hb ho=>hI'.keep b hb (by simp [ho]),hI'.f0,fun b hb=>⟨hI'.fn b hb,(hI'.fl b hb).1,by simp only [(hI'.fl b hb).2];split<;>rfl⟩,fun b j hj=>?_,g2,g3,fun j=>?_,?_⟩
    ·split at hj
     case isFalse=>cases hj
     rename_i hB;refine⟨hB,?_⟩
     split at hj
     ·rename_i t he;exact(hI'.ol b _ he).1
     ·cases hj
    ·refine iI (fun hk g hg=>?_) (g4 j)
     obtain⟨z,lv,hk⟩:=hk;obtain⟨e1,t,e2,e3⟩:=hg;rw [if_pos e1];simp only [e3];have:=(kq c.res rm hokr j t 0 z lv hk e2).1;simpa using this
    ·rw [hios]
     refine uP pm args.toList 0 hal (fun j hj hio=>?_)
     rw [Fb];have hkj:=hpn j hj;have hbj:nth δ' j ≠ .bad:=by
      refine h2 _ ?_
      rw [hios,kG];exact FA (by simpa using qJ pm 0 j hj hio)
     have havj:av a' j=args.toList.getD j undef:=(hV' j (by rw [hkj];exact hio)).trans (hav j hj);have hlv:∀lv,lv≠1→∀b,FB F' w.heap.size lv b→FB F' 0 lv b:=fun lv h1 b hb=>by
      match lv,h1 with
      | 0,_=>exact hb
      | _+2,_=>exact hb
     refine⟨hbj,.inr ?_⟩
     rcases oU hpm j hj with ⟨lv,hk,h1⟩ | ⟨z,lv,hk,h1⟩ | ⟨n,lv,hk,h1⟩
     ·rw [hk] at hio;cases hio
     ·have h5:=hI'.own (hkj.trans hk) hbj
      rw [havj] at h5;rw [hk];exact co (hlv lv h1) (fun _ _=>rfl) (fun _ _ _=>⟨trivial,rfl⟩) h5
     ·have h5:=hI'.box (hkj.trans hk) hbj
      rw [havj] at h5;rw [hk];exact iP (hlv lv h1) (fun _ _=>rfl) (fun _ _ _=>⟨trivial,rfl⟩) h5
  cases e with
  | normal=>exact fin hp
  | exit i =>
   obtain⟨⟨_,_,_,_,h⟩,_⟩:=hp;cases h
  | ret =>
   refine fin (gg hp fun δ F O _ h=>?_)
   obtain⟨rs',h1,h2,h3⟩:=gF h;exact rP h1 h2 h3
  | _=>exact hp.elim
theorem BZ (hT:okT P c.T=true) (hS:∀f S,cb c.S f=some S→ay c.G P f S) (hm:P.follows .mixedOrders=true) {f:FuncId} {fn:Func} (hf:P.funcs[f]?=some fn) (hname:(fn.name=="runtime.NumGoroutine")=false) {pm rm:List Kd} (hok:xO c fn pm rm=true) (hres:c.res=fn.results.toList) :
  ay c.G P f {pm:=pm,rm:=rm,f:=bv c fn}:=by
 intro ds rs us hd args w F ow hgl ha hF hO o a next Q hn
 have hbody:∃b,fn.body=some b:=by
  have hd':bv c fn ds=some (.ret rs us):=hd;unfold bv at hd';cases hb:fn.body with
  | none=>rw [hb] at hd';cases hd'
  | some b=>exact⟨b,rfl⟩
 obtain⟨b,hb⟩:=hbody;have hrun:(callFunc f args).run P w = .ok (.enter f args) w:=by
  have h1:¬fn.name="runtime.NumGoroutine":=by simpa using hname
  simp [callFunc,hf,h1,hb]
 rw [hrun,Fh];refine Fo (AG hT hS hm hf hok hres hd hgl ha hF hO) (fun e w' he=>?_)
 obtain⟨v,rfl,F',R,vs,h1,h2⟩:=he;exact hn v w' ⟨F',R,vs,h1,h2⟩
end
end Go.V

namespace Go.V
set_option maxRecDepth 100000
def sl (s:List D) (i:Nat):D:=nth s i
def ifN (b:Bool) (t e:Option Out):Option Out :=
 match b with
 | true=>t
 | false=>e
theorem ao {P:Program} {G:List (Nat × (Obj→Prop))}:∀(f:Nat) (S:FS),cb ([]:List (Nat × FS)) f=some S→ay G P f S:=by
 intro f S h;cases h
theorem ac {P:Program} {G:List (Nat × (Obj→Prop))} {g:Nat} {S0:FS} {l:List (Nat × FS)} (h0:ay G P g S0) (h:∀(f:Nat) (S:FS),cb l f=some S→ay G P f S):∀(f:Nat) (S:FS),cb ((g,S0)::l) f=some S→ay G P f S:=by
 intro f S hl;simp only [cb] at hl;split at hl
 ·rename_i hb
  have:=aw.1 hb;subst this;cases hl;exact h0
 ·exact h f S hl
open Go.RowKit
set_option maxRecDepth 100000
section
variable {P:Program} {G:List (Nat × (Obj→Prop))}
theorem iR {f:FuncId} {S:FS} (he:∀args w,(callFunc f args).run P w = .ok (.enter f args) w)
  (h:∀ds rs us,S.f ds=some (.ret rs us)→∀(args:Array Value) (w:World) (F:Nat→Prop) (ow:Nat→Option Nat),gOk G w F→ed w F ow 0 S.pm ds args.toList→(∀b,F b→b<w.heap.size∧ow b=none)→(∀b i,ow b=some i→b<w.heap.size) →
   Calls P f args w fun e w'=>∃v,e = .returned v∧∃F' R vs,v=jH vs∧CallPost S args rs us w F ow F' R vs w'):ay G P f S:=by
 intro ds rs us hd args w F ow hg ha hF hO o a next Q hn
 rw [he,Fh];refine Fo (h ds rs us hd args w F ow hg ha hF hO) (fun e w' hv=>?_)
 obtain⟨v,rfl,F',R,vs,h1,h2⟩:=hv;exact hn v w' ⟨F',R,vs,h1,h2⟩
theorem um {w:World} {F:Nat→Prop}:∀(ks:List Kd) (ys:List Value),(ks.all fun k=>!mZ k)=true→ks.length=ys.length→kA w F ks [] ys
 | [],[],_,_=>trivial
 | k::ks,y::ys,h,hl=>by
  simp only [Fz,EP,Fm] at h;simp only [kA,h.1];exact um ks ys h.2 (by simpa using hl)
 | [],_::_,_,hl=>by cases hl
 | _::_,[],_,hl=>by cases hl
theorem nL {w:World} {F:Nat→Prop} {ow:Nat→Option Nat}:∀(ks:List Kd) (ds:List D) (ys:List Value) (i:Nat),ed w F ow i ks ds ys→ds.length=ks.length∧ys.length=ks.length
 | [],[],[],_,_=>⟨rfl,rfl⟩
 | k::ks,d::ds,y::ys,i,h=>by
  obtain⟨h1,h2⟩:=nL ks ds ys (i+1) h.2;exact⟨by simp [h1],by simp [h2]⟩
 | [],_::_,_,_,h=>h.elim
 | [],[],_::_,_,h=>h.elim
 | _::_,[],_,_,h=>by cases ‹List Value›<;>exact h.elim
 | _::_,_::_,[],_,h=>h.elim
theorem vI {w:World} {F:Nat→Prop} {ow:Nat→Option Nat} {k k':Kd} {ds:List D} {l:List Value} (h:ed w F ow 0 [k,k'] ds l) :
  ∃d y d' y',ds=[d,d']∧l=[y,y']∧jr w F (fun g=>ow g=some 0) k d y∧jr w F (fun g=>ow g=some 1) k' d' y':=by
 obtain⟨h1,h2⟩:=nL _ _ _ _ h
 match ds,l,h1,h2,h with
 | [d,d'],[y,y'],_,_,h=>exact⟨d,y,d',y',rfl,rfl,h.1,h.2.1⟩
theorem zQ {w:World} {F own:Nat→Prop} {lv:Nat} {x y:Value} (h:jr w F own (.dat lv) (.v x) y):y=x∧flat x=true:=by
 rcases h with h | h
 ·cases h
 ·exact kz.1 h
theorem wR {S:FS} {args:Array Value} {rs:List D} {vs:List Value} {w w':World} {F:Nat→Prop} {ow:Nat→Option Nat} (R:Nat→Option Nat) (hB:Below w.heap.size w w') (hF:∀b,F b→b<w.heap.size∧ow b=none)
  (hR:∀b j,R b=some j→w.heap.size≤b∧b<w'.heap.size) (hio:(S.pm.all fun k=>!mZ k)=true) (hl:S.pm.length=args.size) (h1:vs.length=S.rm.length) (h2:rs.length=S.rm.length)
  (hres:∀j,wO w' F w.heap.size (fun g=>R g=some j) (ah S.rm j) (nth rs j) (vs.getD j undef)):CallPost S args rs [] w F ow F R vs w' :=
 ⟨hB.os,hB.tape,hB.output,hB.size,fun b hb _=>hB.block b hb,fun _ h=>h,fun b hb=>⟨.inl hb,Nat.lt_of_lt_of_le (hF b hb).1 hB.size,by
  cases h:R b with
  | none=>rfl
  | some j=>exact absurd (hR b j h).1 (Nat.not_le.2 (hF b hb).1)⟩,hR,h1,h2,hres,um _ _ hio (by simpa using hl)⟩
theorem qL {S:FS} {args:Array Value} {w w':World} {F:Nat→Prop} {ow:Nat→Option Nat} (hB:Below w.heap.size w w') (hF:∀b,F b→b<w.heap.size∧ow b=none) (hio:(S.pm.all fun k=>!mZ k)=true) (hl:S.pm.length=args.size)
  (rs:List D) (vs:List Value) (hrm:S.rm=rs.map fun _=>.dat 0) (hv:vs.length=rs.length) (h:∀(j:Nat) (d:D),rs[j]?=some d→∃y:Value,vs[j]?=some y∧bw w' (fun _=>False) d y):CallPost S args rs [] w F ow F (fun _=>none) vs w':=by
 refine wR _ hB hF (fun b j h=>by cases h) hio hl (by rw [hrm,hv];simp) (by rw [hrm];simp) (fun j=>?_)
 rw [cO,ET];cases hj:rs[j]? with
 | none=>exact .inl rfl
 | some d =>
  obtain⟨y,h1,h2⟩:=h j d hj;have hk:ah S.rm j = .dat 0:=by
   rw [hrm];clear hrm h hv h1 h2;induction rs generalizing j with
   | nil=>simp at hj
   | cons r rs ih =>
    cases j with
    | zero=>rfl
    | succ j=>exact ih j (by simpa using hj)
  refine .inr ?_
  rw [hk,ET,h1];exact bh (fun b hb=>hb.elim) (fun _ _=>rfl) h2
theorem tg {w:World} {F:Nat→Prop}:∀(l:List ByteArray),bc w F (l.map T) (l.map EX)
 | []=>aH.2 rfl
 | s::l=>ax.2 ⟨[.string s],l.map EX,rfl,by simp only [RepC];exact⟨trivial,rfl⟩,tg l⟩
theorem xm {w':World} {F own:Nat→Prop} {A c e:Nat} {cur:Array Value} {l:List ByteArray} (hb:w'.heap[A]?=some (.cells cur e (0,0))) (hc:l.length≤c) (hs:c≤cur.size) (hl:∀(i:Nat) (u:Value),(l.map EX)[i]?=some u→cur[i]?=some u) (ho:own A) :
  fr w' F own 1 (.arr 1 (l.map T)) (.slice (some ⟨A,0,none⟩) l.length c):=by
 refine⟨l.map T,rfl,fun x hx=>?_,.inr ⟨A,0,c,l.map EX,cur,e,by simp,by simpa using hc,hb,by omega,tg l,fun i u hu=>by simpa using hl i u hu,ho⟩⟩
 obtain⟨s,_,rfl⟩:=List.mem_map.1 hx;rfl
end
end Go.V

namespace Go.V
open Go.RowKit Go.Shelf
set_option maxRecDepth 100000
section
variable {P:Program} {ρ:Ren} {G:List (Nat × (Obj→Prop))}
def sH (g:Nat) (o:Obj):Prop:=∃m,∀w:World,w.heap[g]?=some o→w.cell? ⟨g,0,none⟩=some (.int .i64 m)
theorem wr {w:World} {F:Nat→Prop} {g:Nat} (hg:gOk G w F) (hm:(g,sH g)∈G):∃m,w.cell? ⟨g,0,none⟩=some (.int .i64 m):=by
 obtain⟨_,o,ho,m,hc⟩:=hg _ hm;exact⟨m,hc w ho⟩
theorem Ap {w:World} {g:Nat} {m:Int} (h:w.cell? ⟨g,0,none⟩=some (.int .i64 m)):∃o,w.heap[g]?=some o∧sH g o:=by
 cases ho:w.heap[g]? with
 | none=>simp [World.cell?,ho] at h
 | some o=>exact⟨o,rfl,m,fun w' hw'=>(World.cell?_of_block (w:=w) (hw'.trans ho.symm)).trans h⟩
theorem Dw {args:Array Value} {y y':Value} (h:args.toList=[y,y']):args=#[y,y']:=by
 apply Array.ext';rw [h]
theorem zX (w:World) (o:Obj):(w.alloc o).heap[w.heap.size]?=some o:=by simpa using heap_alloc_new w o
theorem xP (w:World) (o:Obj):(w.alloc o).heap.size=w.heap.size+1:=by simp
def gA (s p:ByteArray):List ByteArray:=Lib.splitB p 0 (Fy s p) s
def nO:List D→Option Out
 | [.v (.string s),.v (.string p)]=>if s.size<4294967281∧1≤p.size then some (.ret [.arr 1 ((gA s p).map T)] []) else none
 | _=>none
@[reducible] def yw:FS:={pm:=[.dat 0,.dat 0],rm:=[.own 1 0 false],f:=nO}
theorem Dm (L:Go.Proofs.LaysM.n146 P ρ) {f:Nat} (hf:ρ.f 146=f) {g1:Nat} (h1:ρ.g 1=g1) (hm:(g1,sH g1)∈G):ay G P f yw:=by
 subst hf;have he:∀args w,(callFunc (ρ.f 146) args).run P w = .ok (.enter (ρ.f 146) args) w:=Fj L.f146 (by kernel_rfl) rfl;refine iR he fun ds rs us hd args w F ow hg ha hF _=>?_
 obtain⟨d,y,d',y',rfl,h2,h3,h4⟩:=vI ha;replace hd:nO [d,d']=some (.ret rs us):=hd;unfold nO at hd;split at hd
 case h_2=>cases hd
 rename_i s p e;cases e;split at hd
 case isFalse=>cases hd
 rename_i hz;cases hd;obtain⟨rfl,_⟩:=zQ h3;obtain⟨rfl,_⟩:=zQ h4;rw [Dw h2];subst h1;obtain⟨m,hc⟩:=wr hg hm;refine(Go.Proofs.Any.strings_Split {L with} L.i9 s p m w hz.1 hc hz.2).mono ?_
 rintro e w' ⟨rfl,rfl⟩;have hlen:(gA s p).length=Fy s p+1:=splitOf_length s p hz.2;refine⟨_,rfl,F,fun b=>if b=w.heap.size then some 0 else none,[_],rfl,wR _ ((Below.refl _ w).alloc (EZ _) _) hF (fun b j hb=>?_) rfl rfl rfl rfl fun j=>?_⟩
 ·split at hb
  ·rename_i e;subst e;exact⟨EZ _,by rw [xP];exact Nat.lt_succ_self _⟩
  ·cases hb
 ·match j with
  | 0 =>
   refine .inr ?_
   have:=xm (w':=w.alloc (.cells ((gA s p).map EX).toArray (ρ.t 9))) (F:=FB F w.heap.size 0) (own:=fun g=>(if g=w.heap.size then some 0 else none)=some 0∧w.heap.size≤g) (A:=w.heap.size) (c:=Fy s p+1) (e:=ρ.t 9)
    (cur:=((gA s p).map EX).toArray) (l:=gA s p) (zX _ _) (by omega) (by simp only [List.size_toArray,Fs];omega) (fun i u hu=>by rw [List.getElem?_toArray];exact hu) ⟨by simp,EZ _⟩
   rw [hlen] at this;exact this
  | j+1=>exact .inl rfl
where
 splitOf_length (s p:ByteArray) (hp:1≤p.size):(gA s p).length=Fy s p+1:=by
  exact Lib.splitB_all p hp 0 _ s rfl
end
end Go.V

namespace Go.V
open Go.RowKit Go.Shelf
set_option maxRecDepth 100000
section
variable {P:Program} {ρ:Ren} {G:List (Nat × (Obj→Prop))}
def cU:List D→Option (List ByteArray)
 | []=>some []
 | .v (.string s)::l=>(cU l).map (s::·)
 | _=>none
theorem re:∀(l:List D) (xs:List ByteArray),cU l=some xs→l=xs.map T
 | [],xs,h=>by simp [cU] at h;subst h;rfl
 | .v (.string s)::l,xs,h=>by
  simp only [cU] at h;obtain⟨ys,h1,rfl⟩:=Fg.1 h;rw [re l ys h1];rfl
 | .v (.bool _)::_,_,h=>by simp [cU] at h
 | .v (.int _ _)::_,_,h=>by simp [cU] at h
 | .arr _ _::_,_,h=>by simp [cU] at h
 | .agg _::_,_,h=>by simp [cU] at h
 | .ptr _::_,_,h=>by simp [cU] at h
 | .clo _ _::_,_,h=>by simp [cU] at h
 | .ifc::_,_,h=>by simp [cU] at h
 | .tup _::_,_,h=>by simp [cU] at h
 | .ref _ _::_,_,h=>by simp [cU] at h
 | .bad::_,_,h=>by simp [cU] at h
theorem uk:∀(xs:List ByteArray),cU (xs.map T)=some xs
 | []=>rfl
 | x::xs=>by simp [cU,uk xs]
theorem nj {w:World} {F:Nat→Prop}:∀(xs:List ByteArray) (us:List Value),bc w F (xs.map T) us→us=xs.map EX
 | [],us,h=>aH.1 h
 | x::xs,us,h=>by
  obtain⟨v1,v2,rfl,h1,h2⟩:=ax.1 h;simp only [RepC] at h1;rw [nj xs v2 h2,h1.1];rfl
def so (xs:List ByteArray) (sep:ByteArray):ByteArray:=⟨(Lib.join (xs.map (·.data.toList)) sep.data.toList).toArray⟩
def ui:List D→Option Out
 | [.arr _ l,.v (.string sep)]=>(cU l).bind fun xs=>if xs.length≤140737488355328∧(so xs sep).size≤140737488355328 then some (.ret [T (so xs sep)] []) else none
 | _=>none
@[reducible] def Ca:FS:={pm:=[.dat 2,.dat 0],rm:=[.dat 0],f:=ui}
theorem DB (L:Go.Proofs.Lays.n156 P ρ) (X:Go.Proofs.Builder.Extra P ρ) {f:Nat} (hf:ρ.f 156=f):ay G P f Ca:=by
 subst hf;have he:∀args w,(callFunc (ρ.f 156) args).run P w = .ok (.enter (ρ.f 156) args) w:=Fj L.f156 (by kernel_rfl) rfl;refine iR he fun ds rs us hd args w F ow hg ha hF _=>?_
 obtain⟨d,y,d',y',rfl,h2,h3,h4⟩:=vI ha;replace hd:ui [d,d']=some (.ret rs us):=hd;unfold ui at hd;split at hd
 case h_2=>cases hd
 rename_i z l sep e;cases e;obtain⟨xs,hx,hd⟩:=ES.1 hd;split at hd
 case isFalse=>cases hd
 rename_i hz;cases hd;obtain rfl:=re _ _ hx;obtain⟨rfl,_⟩:=zQ h4;rcases h3 with h3 | h3
 ·cases h3
 simp only [bw,RepC] at h3;obtain⟨A,c,us,hy,hc,hr,_,hA⟩:=h3;simp only [List.cons.injEq,and_true] at hy;subst hy;have hus:=nj xs us hr;subst hus;rw [Dw h2];by_cases hne:xs=[]
 ·subst hne
  refine(Go.Proofs.Any.strings_Join_none L X A c sep w).mono ?_
  rintro e w' ⟨rfl,rfl⟩;refine⟨_,rfl,F,_,[_],rfl,qL (Below.refl _ _) hF rfl rfl [_] [_] rfl rfl fun j d hj=>?_⟩
  match j,hj with
  | 0,hj =>
   simp only [Ff,EQ] at hj;subst hj;exact⟨_,rfl,kz.2 ⟨rfl,rfl⟩⟩
 ·obtain⟨b,o,rfl,hFb,hcells⟩:=hA (by simpa using hne)
  rw [Fs] at hc ⊢;refine(Go.Proofs.Any.strings_Join L X b o c xs sep w (fun j x hj=>hcells j _ (by simp [hj])) (hF b hFb).1 hz.1 hc (by simpa [so,ByteArray.size] using hz.2)).mono ?_
  rintro e w' ⟨rfl,hB⟩;refine⟨_,rfl,F,_,[_],rfl,qL hB hF rfl rfl [_] [_] rfl rfl fun j d hj=>?_⟩
  match j,hj with
  | 0,hj =>
   simp only [Ff,EQ] at hj;subst hj;exact⟨_,rfl,kz.2 ⟨rfl,rfl⟩⟩
end
end Go.V

namespace Go.V
open Go.RowKit Go.Shelf
set_option maxRecDepth 100000
section
variable {P:Program} {ρ:Ren} {G:List (Nat × (Obj→Prop))}
theorem xh {w:World} {F:Nat→Prop} {ow:Nat→Option Nat} {k k' k'':Kd} {ds:List D} {l:List Value} (h:ed w F ow 0 [k,k',k''] ds l) :
  ∃d y d' y' d'' y'',ds=[d,d',d'']∧l=[y,y',y'']∧jr w F (fun g=>ow g=some 0) k d y∧jr w F (fun g=>ow g=some 1) k' d' y'∧jr w F (fun g=>ow g=some 2) k'' d'' y'':=by
 obtain⟨h1,h2⟩:=nL _ _ _ _ h
 match ds,l,h1,h2,h with
 | [d,d',d''],[y,y',y''],_,_,h=>exact⟨d,y,d',y',d'',y'',rfl,rfl,h.1,h.2.1,h.2.2.1⟩
theorem Es {args:Array Value} {y y' y'':Value} (h:args.toList=[y,y',y'']):args=#[y,y',y'']:=by
 apply Array.ext';rw [h]
def xt (s p n:ByteArray):ByteArray:=⟨(Lib.replaceAll s.data.toList p.data.toList n.data.toList).toArray⟩
def fe:List D→Option Out
 | [.v (.string s),.v (.string p),.v (.string n)]=>if s.size<4294967281∧1≤p.size∧n.size=0 then some (.ret [T (xt s p n)] []) else none
 | _=>none
@[reducible] def oS:FS:={pm:=[.dat 0,.dat 0,.dat 0],rm:=[.dat 0],f:=fe}
theorem vo (L:Go.Proofs.Lays.n155 P ρ) (X:Go.Proofs.Builder.Extra P ρ) {f:Nat} (hf:ρ.f 155=f) {g1:Nat} (h1:ρ.g 1=g1) (hm:(g1,sH g1)∈G):ay G P f oS:=by
 subst hf;have he:∀args w,(callFunc (ρ.f 155) args).run P w = .ok (.enter (ρ.f 155) args) w:=Fj L.f155 (by kernel_rfl) rfl;refine iR he fun ds rs us hd args w F ow hg ha hF _=>?_
 obtain⟨d,y,d',y',d'',y'',rfl,h2,h3,h4,h5⟩:=xh ha;replace hd:fe [d,d',d'']=some (.ret rs us):=hd;unfold fe at hd;split at hd
 case h_2=>cases hd
 rename_i s p n e;cases e;split at hd
 case isFalse=>cases hd
 rename_i hz;cases hd;obtain⟨rfl,_⟩:=zQ h3;obtain⟨rfl,_⟩:=zQ h4;obtain⟨rfl,_⟩:=zQ h5;rw [Es h2];subst h1;obtain⟨m,hc⟩:=wr hg hm;refine(Go.Proofs.Any.strings_ReplaceAll L X s p n m w hz.1 hc hz.2.1 (by rw [hz.2.2];omega)).mono ?_
 rintro e w' ⟨rfl,hB⟩;refine⟨_,rfl,F,_,[_],rfl,qL hB hF rfl rfl [_] [_] rfl rfl fun j d hj=>?_⟩
 match j,hj with
 | 0,hj=>simp only [Ff,EQ] at hj;subst hj;exact⟨_,rfl,bZ rfl⟩
end
end Go.V

namespace Go.Proofs
open Go.Shelf
def Tryd.lays156_ren:FC:=⟨fun | 156=>27 | 165=>46 | 166=>47 | 169=>48 | 240=>67 | 241=>68 | 276=>78 | 277=>79 | n=>n,fun | 31=>23 | 9=>9 | 3=>3 | 4=>4 | 0=>0 | 20=>20 | 72=>66 | 76=>70 | 70=>64 | 37=>22 | 75=>69 | 127=>82 | 164=>88 | 5=>5 | 80=>53 | n=>n,fun | n=>n⟩
theorem Tryd.lays156:Go.Proofs.Lays.n156 Tryd.prog Tryd.lays156_ren:={
 mixed:=by kernel_rfl
 f156:=Tryd.func27.trans (congrArg some (by kernel_rfl))
 f165:=Tryd.func46.trans (congrArg some (by kernel_rfl))
 f166:=Tryd.func47.trans (congrArg some (by kernel_rfl))
 f169:=Tryd.func48.trans (congrArg some (by kernel_rfl))
 f240:=Tryd.func67.trans (congrArg some (by kernel_rfl))
 f241:=Tryd.func68.trans (congrArg some (by kernel_rfl))
 f276:=Tryd.func78.trans (congrArg some (by kernel_rfl))
 f277:=Tryd.func79.trans (congrArg some (by kernel_rfl))
 t0:=Tryd.underlying0
 a0:=Tryd.isAgg0
 z0:=Tryd.sizeOf0
 v0:=Tryd.zeroValue0
 t3:=Tryd.underlying3
 a3:=Tryd.isAgg3
 z3:=Tryd.sizeOf3
 v3:=Tryd.zeroValue3
 t4:=Tryd.underlying4
 a4:=Tryd.isAgg4
 z4:=Tryd.sizeOf4
 v4:=Tryd.zeroValue4
 t9:=Tryd.underlying9
 a9:=Tryd.isAgg9
 z9:=Tryd.sizeOf9
 v9:=Tryd.zeroValue9
 t20:=Tryd.underlying20
 a20:=Tryd.isAgg20
 z20:=Tryd.sizeOf20
 v20:=Tryd.zeroValue20
 t31:=Tryd.underlying23
 a31:=Tryd.isAgg23
 z31:=Tryd.sizeOf23
 v31:=Tryd.zeroValue23
 t37:=Tryd.underlying22
 a37:=Tryd.isAgg22
 z37:=Tryd.sizeOf22
 v37:=Tryd.zeroValue22
 t70:=Tryd.underlying64
 a70:=Tryd.isAgg64
 z70:=Tryd.sizeOf64
 v70:=Tryd.zeroValue64
 t72:=Tryd.underlying66
 a72:=Tryd.isAgg66
 z72:=Tryd.sizeOf66
 v72:=Tryd.zeroValue66
 t75:=Tryd.underlying69
 a75:=Tryd.isAgg69
 z75:=Tryd.sizeOf69
 v75:=Tryd.zeroValue69
 t76:=Tryd.underlying70
 a76:=Tryd.isAgg70
 z76:=Tryd.sizeOf70
 v76:=Tryd.zeroValue70
 t127:=Tryd.underlying82
 a127:=Tryd.isAgg82
 z127:=Tryd.sizeOf82
 v127:=Tryd.zeroValue82
 t164:=Tryd.underlying88
 a164:=Tryd.isAgg88
 z164:=Tryd.sizeOf88
 v164:=Tryd.zeroValue88}
theorem Tryd.Builder_Extra_156:Builder.Extra Tryd.prog Tryd.lays156_ren:={
 sizeBuilder:=by kernel_rfl
 liesBuilder:=by kernel_rfl
 t5:=Tryd.underlying5
 a5:=Tryd.isAgg5
 z5:=Tryd.sizeOf5
 v5:=Tryd.zeroValue5
 infoByte:=by kernel_rfl
 cellsByte:=by kernel_rfl
 sizeByte:=by kernel_rfl
 neB5:=by decide}
def Tryd.lays155_ren:FC:=⟨fun | 155=>71 | 154=>80 | 138=>73 | 165=>46 | 143=>74 | 166=>47 | 197=>82 | 169=>48 | 195=>81 | 218=>83 | 240=>67 | 241=>68 | 219=>84 | 260=>85 | 276=>78 | 277=>79 | 217=>86 | 225=>87 | 224=>88 | 267=>89 | 266=>90 | 314=>91 | n=>n,fun | 9=>9 | 3=>3 | 4=>4 | 72=>66 | 0=>0 | 76=>70 | 105=>94 | 21=>21 | 5=>5 | 70=>64 | 20=>20 | 37=>22 | 75=>69 | 127=>82 | 164=>88 | 46=>91 | 119=>97 | 139=>100 | 138=>99 | 146=>102 | 51=>101 | 80=>53 | n=>n,fun | 1=>0 | 3=>1 | 4=>2 | n=>n⟩
theorem Tryd.lays155:Go.Proofs.Lays.n155 Tryd.prog Tryd.lays155_ren:={
 mixed:=by kernel_rfl
 f138:=Tryd.func73.trans (congrArg some (by kernel_rfl))
 f143:=Tryd.func74.trans (congrArg some (by kernel_rfl))
 f154:=Tryd.func80.trans (congrArg some (by kernel_rfl))
 f155:=Tryd.func71.trans (congrArg some (by kernel_rfl))
 f165:=Tryd.func46.trans (congrArg some (by kernel_rfl))
 f166:=Tryd.func47.trans (congrArg some (by kernel_rfl))
 f169:=Tryd.func48.trans (congrArg some (by kernel_rfl))
 f195:=Tryd.func81.trans (congrArg some (by kernel_rfl))
 f197:=Tryd.func82.trans (congrArg some (by kernel_rfl))
 f217:=Tryd.func86.trans (congrArg some (by kernel_rfl))
 f218:=Tryd.func83.trans (congrArg some (by kernel_rfl))
 f219:=Tryd.func84.trans (congrArg some (by kernel_rfl))
 f224:=Tryd.func88.trans (congrArg some (by kernel_rfl))
 f225:=Tryd.func87.trans (congrArg some (by kernel_rfl))
 f240:=Tryd.func67.trans (congrArg some (by kernel_rfl))
 f241:=Tryd.func68.trans (congrArg some (by kernel_rfl))
 f260:=Tryd.func85.trans (congrArg some (by kernel_rfl))
 f266:=Tryd.func90.trans (congrArg some (by kernel_rfl))
 f267:=Tryd.func89.trans (congrArg some (by kernel_rfl))
 f276:=Tryd.func78.trans (congrArg some (by kernel_rfl))
 f277:=Tryd.func79.trans (congrArg some (by kernel_rfl))
 f314:=Tryd.func91.trans (congrArg some (by kernel_rfl))
 t0:=Tryd.underlying0
 a0:=Tryd.isAgg0
 z0:=Tryd.sizeOf0
 v0:=Tryd.zeroValue0
 t3:=Tryd.underlying3
 a3:=Tryd.isAgg3
 z3:=Tryd.sizeOf3
 v3:=Tryd.zeroValue3
 t4:=Tryd.underlying4
 a4:=Tryd.isAgg4
 z4:=Tryd.sizeOf4
 v4:=Tryd.zeroValue4
 t5:=Tryd.underlying5
 a5:=Tryd.isAgg5
 z5:=Tryd.sizeOf5
 v5:=Tryd.zeroValue5
 t9:=Tryd.underlying9
 a9:=Tryd.isAgg9
 z9:=Tryd.sizeOf9
 v9:=Tryd.zeroValue9
 t20:=Tryd.underlying20
 a20:=Tryd.isAgg20
 z20:=Tryd.sizeOf20
 v20:=Tryd.zeroValue20
 t21:=Tryd.underlying21
 a21:=Tryd.isAgg21
 z21:=Tryd.sizeOf21
 v21:=Tryd.zeroValue21
 t37:=Tryd.underlying22
 a37:=Tryd.isAgg22
 z37:=Tryd.sizeOf22
 v37:=Tryd.zeroValue22
 t46:=Tryd.underlying91
 a46:=Tryd.isAgg91
 z46:=Tryd.sizeOf91
 v46:=Tryd.zeroValue91
 t51:=Tryd.underlying101
 a51:=Tryd.isAgg101
 z51:=Tryd.sizeOf101
 v51:=Tryd.zeroValue101
 t70:=Tryd.underlying64
 a70:=Tryd.isAgg64
 z70:=Tryd.sizeOf64
 v70:=Tryd.zeroValue64
 t72:=Tryd.underlying66
 a72:=Tryd.isAgg66
 z72:=Tryd.sizeOf66
 v72:=Tryd.zeroValue66
 t75:=Tryd.underlying69
 a75:=Tryd.isAgg69
 z75:=Tryd.sizeOf69
 v75:=Tryd.zeroValue69
 t76:=Tryd.underlying70
 a76:=Tryd.isAgg70
 z76:=Tryd.sizeOf70
 v76:=Tryd.zeroValue70
 t105:=Tryd.underlying94
 a105:=Tryd.isAgg94
 z105:=Tryd.sizeOf94
 v105:=Tryd.zeroValue94
 t119:=Tryd.underlying97
 a119:=Tryd.isAgg97
 z119:=Tryd.sizeOf97
 t127:=Tryd.underlying82
 a127:=Tryd.isAgg82
 z127:=Tryd.sizeOf82
 v127:=Tryd.zeroValue82
 t138:=Tryd.underlying99
 a138:=Tryd.isAgg99
 z138:=Tryd.sizeOf99
 v138:=Tryd.zeroValue99
 t139:=Tryd.underlying100
 a139:=Tryd.isAgg100
 z139:=Tryd.sizeOf100
 v139:=Tryd.zeroValue100
 t146:=Tryd.underlying102
 a146:=Tryd.isAgg102
 z146:=Tryd.sizeOf102
 v146:=Tryd.zeroValue102
 t164:=Tryd.underlying88
 a164:=Tryd.isAgg88
 z164:=Tryd.sizeOf88
 v164:=Tryd.zeroValue88
 g1:=by kernel_rfl
 g3:=by kernel_rfl
 g4:=by kernel_rfl}
theorem Tryd.Builder_Extra_155:Builder.Extra Tryd.prog Tryd.lays155_ren:={
 sizeBuilder:=by kernel_rfl
 liesBuilder:=by kernel_rfl
 t5:=Tryd.underlying5
 a5:=Tryd.isAgg5
 z5:=Tryd.sizeOf5
 v5:=Tryd.zeroValue5
 infoByte:=by kernel_rfl
 cellsByte:=by kernel_rfl
 sizeByte:=by kernel_rfl
 neB5:=by decide}
def Tryd.laysM146_ren:FC:=⟨fun | 146=>42 | 221=>62 | 268=>72 | 138=>73 | 143=>74 | 195=>81 | 197=>82 | 218=>83 | 219=>84 | 260=>85 | 217=>86 | 225=>87 | 224=>88 | 267=>89 | 266=>90 | 314=>91 | n=>n,fun | 9=>9 | 31=>23 | 3=>3 | 4=>4 | 0=>0 | 105=>94 | 21=>21 | 5=>5 | 46=>91 | 119=>97 | 139=>100 | 138=>99 | 146=>102 | 51=>101 | n=>n,fun | 1=>0 | 3=>1 | 4=>2 | n=>n⟩
theorem Tryd.laysM146:Go.Proofs.LaysM.n146 Tryd.prog Tryd.laysM146_ren:={
 mixed:=by kernel_rfl
 f138:=Tryd.func73.trans (congrArg some (by kernel_rfl))
 f143:=Tryd.func74.trans (congrArg some (by kernel_rfl))
 f146:=Tryd.func42.trans (congrArg some (by kernel_rfl))
 f195:=Tryd.func81.trans (congrArg some (by kernel_rfl))
 f197:=Tryd.func82.trans (congrArg some (by kernel_rfl))
 f217:=Tryd.func86.trans (congrArg some (by kernel_rfl))
 f218:=Tryd.func83.trans (congrArg some (by kernel_rfl))
 f219:=Tryd.func84.trans (congrArg some (by kernel_rfl))
 f221:=Tryd.func62.trans (congrArg some (by kernel_rfl))
 f224:=Tryd.func88.trans (congrArg some (by kernel_rfl))
 f225:=Tryd.func87.trans (congrArg some (by kernel_rfl))
 f260:=Tryd.func85.trans (congrArg some (by kernel_rfl))
 f266:=Tryd.func90.trans (congrArg some (by kernel_rfl))
 f267:=Tryd.func89.trans (congrArg some (by kernel_rfl))
 f268:=Tryd.func72.trans (congrArg some (by kernel_rfl))
 f314:=Tryd.func91.trans (congrArg some (by kernel_rfl))
 t0:=Tryd.underlying0
 a0:=Tryd.isAgg0
 z0:=Tryd.sizeOf0
 v0:=Tryd.zeroValue0
 t3:=Tryd.underlying3
 a3:=Tryd.isAgg3
 z3:=Tryd.sizeOf3
 v3:=Tryd.zeroValue3
 t4:=Tryd.underlying4
 a4:=Tryd.isAgg4
 z4:=Tryd.sizeOf4
 v4:=Tryd.zeroValue4
 t5:=Tryd.underlying5
 a5:=Tryd.isAgg5
 z5:=Tryd.sizeOf5
 v5:=Tryd.zeroValue5
 t9:=Tryd.underlying9
 a9:=Tryd.isAgg9
 z9:=Tryd.sizeOf9
 v9:=Tryd.zeroValue9
 t21:=Tryd.underlying21
 a21:=Tryd.isAgg21
 z21:=Tryd.sizeOf21
 v21:=Tryd.zeroValue21
 t31:=Tryd.underlying23
 a31:=Tryd.isAgg23
 z31:=Tryd.sizeOf23
 v31:=Tryd.zeroValue23
 t46:=Tryd.underlying91
 a46:=Tryd.isAgg91
 z46:=Tryd.sizeOf91
 v46:=Tryd.zeroValue91
 t51:=Tryd.underlying101
 a51:=Tryd.isAgg101
 z51:=Tryd.sizeOf101
 v51:=Tryd.zeroValue101
 t105:=Tryd.underlying94
 a105:=Tryd.isAgg94
 z105:=Tryd.sizeOf94
 v105:=Tryd.zeroValue94
 t119:=Tryd.underlying97
 a119:=Tryd.isAgg97
 z119:=Tryd.sizeOf97
 t138:=Tryd.underlying99
 a138:=Tryd.isAgg99
 z138:=Tryd.sizeOf99
 v138:=Tryd.zeroValue99
 t139:=Tryd.underlying100
 a139:=Tryd.isAgg100
 z139:=Tryd.sizeOf100
 v139:=Tryd.zeroValue100
 t146:=Tryd.underlying102
 a146:=Tryd.isAgg102
 z146:=Tryd.sizeOf102
 v146:=Tryd.zeroValue102
 g1:=by kernel_rfl
 g3:=by kernel_rfl
 g4:=by kernel_rfl
 i0:=by kernel_rfl
 i3:=by kernel_rfl
 i4:=by kernel_rfl
 i5:=by kernel_rfl
 i9:=by kernel_rfl
 i21:=by kernel_rfl
 i31:=by kernel_rfl
 i46:=by kernel_rfl
 i51:=by kernel_rfl
 i105:=by kernel_rfl
 i138:=by kernel_rfl
 i139:=by kernel_rfl
 i146:=by kernel_rfl
 m1:=by kernel_rfl
 s1_3:=fun w h=>Go.Proofs.cell_of_shapedOpen_int (zero:=#[.int .i64 0]) (t:=3) h (of_decide_eq_true (by kernel_rfl)) (by kernel_rfl) rfl (by kernel_rfl) (by kernel_rfl) Tryd.underlying3
 m3:=by kernel_rfl
 m4:=by kernel_rfl}
end Go.Proofs
namespace Go.Proofs.YtioabeglbjlndaaDoor
open Go Go.V Go.Shelf
set_option maxRecDepth 100000
def gl0:List (Nat × (Obj→Prop)):=[(0,sH 0)]
@[reducible] def gZ:FS:=yw
theorem lh:ay gl0 Tryd.prog 42 gZ:=Dm Tryd.laysM146 (by kernel_rfl) (by kernel_rfl) (show(0,sH 0)∈gl0 by simp [gl0])
@[reducible] def lX:FS:=Ca
theorem tb:ay gl0 Tryd.prog 27 lX:=DB Tryd.lays156 Tryd.Builder_Extra_156 (by kernel_rfl)
@[reducible] def gR:FS:=oS
theorem mw:ay gl0 Tryd.prog 71 gR:=vo Tryd.lays155 Tryd.Builder_Extra_155 (by kernel_rfl) (by kernel_rfl) (show(0,sH 0)∈gl0 by simp [gl0])
end Go.Proofs.YtioabeglbjlndaaDoor

namespace Go.V
open Go.RowKit Go.WideShapes Go.ChangeShapes
set_option maxRecDepth 100000
mutual
inductive Sh where
 | int (k:IntKind)
 | bool
 | str
 | sl (e:Sh)
 | st (l:ShL)
inductive ShL where
 | nil
 | cons (h:Sh) (t:ShL)
end
mutual
def Sh.size:Sh→Nat
 | .int _=>1
 | .bool=>1
 | .str=>1
 | .sl _=>1
 | .st l=>l.size
def ShL.size:ShL→Nat
 | .nil=>0
 | .cons h t=>h.size+t.size
end
def Sh.isSt:Sh→Bool
 | .st _=>true
 | _=>false
mutual
def Sh.flat:Sh→Bool
 | .int _=>true
 | .bool=>true
 | .str=>true
 | .sl _=>false
 | .st l=>l.flat
def ShL.flat:ShL→Bool
 | .nil=>true
 | .cons h t=>h.flat&&t.flat
end
def wrap (ag:Bool) (m:List D):D:=if ag then .agg m else nth m 0
mutual
def Sh.Is:Sh→List D→Prop
 | .int k,l=>∃n,l=[.v (.int k n)]∧k.min≤n∧n≤k.max
 | .bool,l=>∃b,l=[B b]
 | .str,l=>∃s,l=[T s]∧s.size≤maxLen
 | .sl e,l=>∃ds,l=[.arr e.size ds]∧ds.length≤maxLen∧∀d∈ds,∃m,e.Is m∧d=wrap e.isSt m
 | .st fs,l=>fs.Is l
def ShL.Is:ShL→List D→Prop
 | .nil,l=>l=[]
 | .cons h t,l=>∃a b,l=a++b∧h.Is a∧t.Is b
end
mutual
def Sh.ok (P:Program):Sh→TypeId→Bool
 | .int k,t=>match P.underlying t with
  | some (.int k')=>decide (k'=k)
  | _=>false
 | .bool,t=>match P.underlying t with
  | some .bool=>true
  | _=>false
 | .str,t=>match P.underlying t with
  | some .string=>true
  | _=>false
 | .sl e,t=>match P.underlying t with
  | some (.slice u)=>e.ok P u&&decide (P.cellsOf u=e.size)&&decide (0<e.size)
  | _=>false
 | .st l,t=>match P.underlying t with
  | some (.struct fs)=>l.ok P 0 fs.toList&&decide (P.cellsOf t=l.size)
  | _=>false
def ShL.ok (P:Program):ShL→Nat→List Field→Bool
 | .nil,_,[]=>true
 | .cons h t,off,f::fs=>decide (f.offset=off)&&h.ok P f.type&&decide (P.cellsOf f.type=h.size)&&t.ok P (off+h.size) fs
 | _,_,_=>false
end
section
variable {H:Type} {enc:TypeId × Value→H} {P:Program} {W:World}
theorem Sh.len_one {sh:Sh} (h:sh.isSt=false):sh.size=1:=by
 cases sh<;>simp_all [Sh.isSt,Sh.size]
theorem BV {a:Addr} {n:Nat} {vs:List Value} (h:W.cells? 0 a n=some vs):vs.length=n∧∀i u,vs[i]?=some u→W.cell? (a.add i)=some u:=by
 simp only [World.cells?,Nat.zero_le,if_true] at h;have hl:=mapM_some_length h;rw [List.length_range] at hl;refine⟨hl,fun i u hu=>?_⟩
 have hi:i<n:=by
  rw [←hl];exact(ER.1 hu).1
 rw [mapM_some_get h i i (by simp [hi]),hu]
theorem Cp (a:Addr) (i j:Nat):(a.add i).add j=a.add (i+j):=by
 unfold Addr.add;by_cases hi:i=0<;>by_cases hj:j=0<;>simp [hi,hj,Nat.add_assoc]
theorem Aa {a:Addr} {u:Value} (h:W.cell? a=some u):a.spot=none∧a.block<W.heap.size:=by
 unfold World.cell? at h;split at h
 case h_2=>cases h
 rename_i hb;split at h
 ·cases h
 rename_i hs;refine⟨by simpa using hs,?_⟩
 rcases Nat.lt_or_ge a.block W.heap.size with h' | h'
 ·exact h'
 ·rw [Array.getElem?_eq_none h'] at hb;cases hb
theorem gM {F:Nat→Prop} {d:D} {vs:List Value}:bc W F [d] vs↔RepC W F d vs:=by
 rw [ax];constructor
 ·rintro⟨v1,v2,rfl,h1,h2⟩
  rw [aH.1 h2,List.append_nil];exact h1
 ·intro h
  exact⟨vs,[],by simp,h,aH.2 rfl⟩
theorem zy {F:Nat→Prop} {sh:Sh} {L:List D} {vs:List Value} (hr:bc W F L vs) (hs:L.all D.single=true) (hl:L.length=sh.size):RepC W F (wrap sh.isSt L) vs∧(wrap sh.isSt L).width=sh.size:=by
 cases hb:sh.isSt
 ·have h1:=Sh.len_one hb
  match L,hl.trans h1 with
  | [d],_ =>
   simp only [wrap,EU,if_false,nth];refine⟨gM.1 hr,?_⟩
   rw [h1];exact(cS (by simpa using hs)).1
 ·simp only [wrap,if_true]
  refine⟨by rw [RepC];exact⟨hr,hs⟩,?_⟩
  simpa [D.width,D.cells] using hl
mutual
theorem Sh.opened:∀(sh:Sh) (t:TypeId) (fuel:Nat) (cs:List Value) (x:DataW H × List MemPlace),sh.ok P t=true→DataW.trod enc P W 0 (fun _=>true) true fuel t cs=some x →
  ∃L,sh.Is L∧bc W (·<W.heap.size) L cs∧L.all D.single=true∧L.length=sh.size
 | .int k,t,fuel,cs,x,hok,h=>by
  simp only [Sh.ok] at hok;split at hok
  case h_2=>cases hok
  rename_i k' hu;have hk:=of_decide_eq_true hok;subst hk;obtain⟨n,rfl,-,hw⟩:=DataW.trod_int hu h;simp only [Lit.wf,EP,decide_eq_true_eq] at hw;refine⟨[.v (.int k' n)],⟨n,rfl,hw⟩,gM.2 ?_,rfl,rfl⟩
  simp [RepC,V.flat]
 | .bool,t,fuel,cs,x,hok,h=>by
  simp only [Sh.ok] at hok;split at hok
  case h_2=>cases hok
  rename_i hu;obtain⟨n,rfl,-⟩:=DataW.trod_bool hu h;refine⟨[B n],⟨n,rfl⟩,gM.2 ?_,rfl,rfl⟩
  simp [RepC,V.flat]
 | .str,t,fuel,cs,x,hok,h=>by
  simp only [Sh.ok] at hok;split at hok
  case h_2=>cases hok
  rename_i hu;obtain⟨s,rfl,-,hw⟩:=DataW.trod_string hu h;refine⟨[T s],⟨s,rfl,hw⟩,gM.2 ?_,rfl,rfl⟩
  simp [RepC,V.flat]
 | .sl e,t,fuel,cs,x,hok,h=>by
  simp only [Sh.ok] at hok;split at hok
  case h_2=>cases hok
  rename_i u hu;simp only [EP,decide_eq_true_eq] at hok;obtain⟨⟨hok,hz⟩,hpos⟩:=hok;rcases DataW.trod_slice hu h with ⟨rfl,-⟩ | ⟨a,len,cap,elems,rest,n,rfl,rfl,-,-,hle,hcap,hlen,hel,-⟩
  ·refine⟨[.arr e.size []],⟨[],rfl,by simp,by simp⟩,gM.2 ?_,rfl,rfl⟩
   rw [RepC];exact⟨none,0,[],rfl,EZ _,aH.2 rfl,by simp,by simp⟩
  ·have key:∀k,k≤len→∃ds us,ds.length=k∧us.length=k*e.size∧bc W (·<W.heap.size) ds us∧(∀d∈ds,d.width=e.size)∧(∀d∈ds,∃m,e.Is m∧d=wrap e.isSt m)∧∀i v,us[i]?=some v→W.cell? (a.add i)=some v:=by
    intro k;induction k with
    | zero=>exact fun _=>⟨[],[],rfl,by simp,aH.2 rfl,by simp,by simp,by simp⟩
    | succ k ih =>
     intro hk;obtain⟨ds,us,h1,h2,h3,h4,h5,h6⟩:=ih (by omega);have hi:=hel k (by omega);rw [EW (by omega)] at hi;obtain⟨vs,hc,hd⟩:=ES.1 hi;obtain⟨L,g1,g2,g3,g4⟩:=Sh.opened e u n vs _ hok hd;obtain⟨g5,g6⟩:=BV hc;obtain⟨g7,g8⟩:=zy g2 g3 g4;rw [hz] at g5 g6;refine⟨ds++[wrap e.isSt L],us++vs,by simp [h1],by simp [h2,g5,Nat.succ_mul],(bY _ _ _).2 ⟨us,vs,rfl,h3,gM.2 g7⟩,?_,?_,fun i v hv=>?_⟩
     ·intro d hd
      rcases Ft.1 hd with hd | hd
      ·exact h4 d hd
      ·simp at hd;subst hd;exact g8
     ·intro d hd
      rcases Ft.1 hd with hd | hd
      ·exact h5 d hd
      ·simp at hd;subst hd;exact⟨L,g1,rfl⟩
     ·rcases Nat.lt_or_ge i us.length with hlt | hge
      ·rw [List.getElem?_append_left hlt] at hv
       exact h6 i v hv
      ·rw [List.getElem?_append_right hge] at hv
       have:=g6 _ v hv;rw [Cp,←h2] at this;rw [show us.length+(i - us.length)=i from by omega] at this;exact this
   obtain⟨ds,us,h1,h2,h3,h4,h5,h6⟩:=key len (EZ _);refine⟨[.arr e.size ds],⟨ds,rfl,by omega,h5⟩,gM.2 ?_,rfl,rfl⟩
   rw [RepC];refine⟨some a,cap,us,by rw [h1],by omega,h3,h4,fun hne=>?_⟩
   have hpl:0<us.length:=by
    rw [h2,←h1];exact Nat.mul_pos (List.length_pos_iff.2 hne) hpos
   have h0:=h6 0 _ (EW hpl);have ha0:a.add 0=a:=by simp [Addr.add]
   rw [ha0] at h0;obtain⟨hsp,hbl⟩:=Aa h0;have ea:a=⟨a.block,a.off,none⟩:=by
    rw [←hsp]
   refine⟨a.block,a.off,by rw [←ea],hbl,fun i v hv=>?_⟩
   have:=h6 i v hv;unfold Addr.add at this;split at this
   ·rename_i hi0
    subst hi0;rw [Nat.add_zero,←ea];exact this
   ·rw [←hsp]
    rw [hsp];exact this
 | .st l,t,fuel,cs,x,hok,h=>by
  simp only [Sh.ok] at hok;split at hok
  case h_2=>cases hok
  rename_i fs hu;simp only [EP,decide_eq_true_eq] at hok;obtain⟨xs,n,rfl,-,hlen,hxl,hf⟩:=DataW.trod_struct hu h;obtain⟨L,g1,g2,g3,g4⟩:=ShL.opened l 0 fs.toList n cs hok.1 (fun f hf'=>by
   obtain⟨i,hi,he⟩:=List.mem_iff_getElem.1 hf';have:=hf i f (by rw [←he];simp at hi ⊢);rw [EW (by simp at hi;omega)] at this;exact⟨_,this⟩)
  rw [Fv,←hok.2,←hlen,List.take_length] at g2;exact⟨L,g1,g2,g3,g4⟩
theorem ShL.opened:∀(l:ShL) (off:Nat) (fs:List Field) (fuel:Nat) (cs:List Value),l.ok P off fs=true→(∀f∈fs,∃x,DataW.trod enc P W 0 (fun _=>true) true fuel f.type ((cs.drop f.offset).take (P.cellsOf f.type))=some x) →
  ∃L,l.Is L∧bc W (·<W.heap.size) L ((cs.drop off).take l.size)∧L.all D.single=true∧L.length=l.size
 | .nil,off,[],fuel,cs,hok,h=>⟨[],rfl,by simp [ShL.size,aH],rfl,rfl⟩
 | .nil,off,_::_,fuel,cs,hok,h=>by simp [ShL.ok] at hok
 | .cons a t,off,[],fuel,cs,hok,h=>by simp [ShL.ok] at hok
 | .cons a t,off,f::fs,fuel,cs,hok,h=>by
  simp only [ShL.ok,EP,decide_eq_true_eq] at hok;obtain⟨⟨⟨h1,h2⟩,h3⟩,h4⟩:=hok;obtain⟨x,hx⟩:=h f (by simp);obtain⟨L,g1,g2,g3,g4⟩:=Sh.opened a f.type fuel _ x h2 hx;obtain⟨M,k1,k2,k3,k4⟩:=ShL.opened t (off+a.size) fs fuel cs h4 (fun f hf=>h f (by simp [hf]));refine⟨L++M,⟨L,M,rfl,g1,k1⟩,(bY _ _ _).2 ⟨_,_,?_,g2,k2⟩,by simp [g3,k3],by simp [ShL.size,g4,k4]⟩
  rw [h1,h3,ShL.size,←List.drop_drop,←List.take_add]
end
def vl:D→Bool
 | .v _=>true
 | _=>false
theorem Cv {L:List D} (h:L.all vl=true):(D.agg L).isV=true:=by
 simp only [D.isV];refine Fp.2 fun d hd=>?_
 have:=Fp.1 h d hd;cases d<;>simp_all [vl]
mutual
theorem Sh.isV_of:∀(sh:Sh) (L:List D),sh.flat=true→sh.Is L→L.all vl=true
 | .int k,L,_,h=>by obtain⟨n,rfl,_⟩:=h;rfl
 | .bool,L,_,h=>by obtain⟨n,rfl⟩:=h;rfl
 | .str,L,_,h=>by obtain⟨n,rfl,_⟩:=h;rfl
 | .sl _,L,h,_=>by simp [Sh.flat] at h
 | .st l,L,h,hl=>ShL.isV_of l L (by simpa [Sh.flat] using h) hl
theorem ShL.isV_of:∀(sh:ShL) (L:List D),sh.flat=true→sh.Is L→L.all vl=true
 | .nil,L,_,h=>by cases h;rfl
 | .cons a t,L,h,hl=>by
  obtain⟨x,y,rfl,h1,h2⟩:=hl;simp only [ShL.flat,EP] at h;rw [List.all_append,Sh.isV_of a x h.1 h1,ShL.isV_of t y h.2 h2];rfl
end
def Sh.IsV (sh:Sh) (d:D):Prop:=∃m,sh.Is m∧d=wrap sh.isSt m
theorem Sh.arg {sh:Sh} {t:TypeId} {v:Value} {d:DataW H} {ps:List MemPlace} {base:Nat} (hok:sh.ok P t=true) (hv:Fi P W .any base t v) (h:DataW.Trod enc P W 0 (fun _=>true) true t v d ps) :
  ∃x,sh.IsV x∧bw W (·<W.heap.size) x v∧(sh.flat=true→x.isV=true):=by
 obtain⟨fuel,h⟩:=h;obtain⟨L,h1,h2,h3,h4⟩:=Sh.opened sh t fuel _ _ hok h;refine⟨_,⟨L,h1,rfl⟩,?_,fun hf=>?_⟩
 ·cases hb:sh.isSt
  ·have h1':=Sh.len_one hb
   have hone:v.cells.toList=[v]:=by
    cases sh<;>simp only [Sh.isSt,Bool.true_eq_false] at hb<;>simp only [Sh.ok] at hok<;>split at hok<;>rename_i hu
    ·obtain⟨n,rfl⟩:=okWide_int hu hv;rfl
    ·cases hok
    ·obtain⟨n,rfl⟩:=okWide_bool hu hv;rfl
    ·cases hok
    ·obtain⟨n,rfl⟩:=okWide_string hu hv;rfl
    ·cases hok
    ·obtain⟨_,_,_,rfl⟩:=okWide_slice hu hv;rfl
    ·cases hok
   match L,h4.trans h1' with
   | [e],_ =>
    simp only [wrap,EU,if_false,nth];have hs:e.single=true:=by simpa using h3
    rw [hone] at h2;exact(fq hs).2 (gM.1 h2)
  ·simp only [wrap,if_true]
   have:∃cs,v = .agg cs:=by
    cases sh<;>simp only [Sh.isSt,EU] at hb;simp only [Sh.ok] at hok;split at hok
    case h_2=>cases hok
    rename_i hu;simp only [Fi,hu] at hv;obtain⟨cs,h,_⟩:=hv;exact⟨cs,h⟩
   obtain⟨cs,rfl⟩:=this;refine⟨cs.toList,by simp,?_⟩
   rw [RepC];exact⟨by simpa [Value.cells] using h2,h3⟩
 ·have:=Sh.isV_of sh L hf h1
  cases hb:sh.isSt
  ·match L,h4.trans (Sh.len_one hb) with
   | [e],_ =>
    simp only [wrap,EU,if_false,nth];cases e<;>simp [vl] at this;rfl
  ·simp only [wrap,if_true]
   exact Cv this
theorem DF {k:IntKind} {x:D} (h:(Sh.int k).IsV x):∃n,x = .v (.int k n)∧k.min≤n∧n≤k.max:=by
 obtain⟨_,⟨n,rfl,h⟩,rfl⟩:=h;exact⟨n,rfl,h⟩
theorem Ej {e:Sh} {x:D} (h:(Sh.sl e).IsV x):∃ds,x = .arr e.size ds∧ds.length≤maxLen∧∀d∈ds,e.IsV d:=by
 obtain⟨_,⟨n,rfl,h,h'⟩,rfl⟩:=h;exact⟨n,rfl,h,h'⟩
def qP (P:Program):List Sh→List TypeId→List Kd→Bool
 | [],[],[]=>true
 | sh::shs,t::ts,.dat lv::ks=>sh.ok P t&&(Fc lv 2||(Fc lv 0&&sh.flat))&&qP P shs ts ks
 | _,_,_=>false
def wh:List Sh→List D→Prop
 | [],[]=>True
 | sh::shs,d::ds=>sh.IsV d∧wh shs ds
 | _,_=>False
theorem Di {a b:Sh} {ds:List D} (h:wh [a,b] ds):∃x y,ds=[x,y]∧a.IsV x∧b.IsV y:=by
 match ds,h with
 | [x,y],⟨h1,h2,_⟩=>exact⟨x,y,rfl,h1,h2⟩
theorem xW {base:Nat}:∀(shs:List Sh) (ts:List TypeId) (ks:List Kd) (vs:List Value) (ds:List (DataW H)) (ps:List MemPlace) (i:Nat),qP P shs ts ks=true→EY enc P W 0 (fun _=>true) true ts vs ds ps →
  (∀(j:Nat) t v,ts[j]?=some t→vs[j]?=some v→Fi P W .any base t v)→∃xs,wh shs xs∧ed W (·<W.heap.size) (fun _=>none) i ks xs vs
 | [],[],[],[],_,_,_,_,_,_=>⟨[],trivial,trivial⟩
 | [],[],[],_::_,[],_,_,_,h,_=>h.elim
 | [],[],[],_::_,_::_,_,_,_,h,_=>h.elim
 | sh::shs,t::ts,k::ks,[],[],_,_,_,h,_=>h.elim
 | sh::shs,t::ts,k::ks,[],_::_,_,_,_,h,_=>h.elim
 | sh::shs,t::ts,k::ks,_::_,[],_,_,_,h,_=>h.elim
 | sh::shs,t::ts,k::ks,v::vs,d::ds,ps,i,hok,h,hv=>by
  cases k<;>simp only [qP,EU] at hok;rename_i lv;simp only [EP,Bool.or_eq_true] at hok;obtain⟨⟨hok1,hlv⟩,hok2⟩:=hok;obtain⟨p,q,h1,h2,rfl⟩:=h;obtain⟨x,g1,g2,g3⟩:=Sh.arg hok1 (hv 0 t v rfl rfl) h1;obtain⟨xs,k1,k2⟩:=xW shs ts ks vs ds q (i+1) hok2 h2 (fun j t v ht hv'=>hv (j+1) t v ht hv');refine⟨x::xs,⟨g1,k1⟩,.inr ?_,k2⟩
  rcases hlv with h' | ⟨h',hf⟩
  ·rw [aw] at h'
   subst h';exact g2
  ·exact kl (g3 hf) g2
 | [],[],_::_,_,_,_,_,hok,_,_=>by simp [qP] at hok
 | [],_::_,_,_,_,_,_,hok,_,_=>by simp [qP] at hok
 | _::_,[],_,_,_,_,_,hok,_,_=>by simp [qP] at hok
 | _::_,_::_,[],_,_,_,_,hok,_,_=>by simp [qP] at hok
theorem nF {W':World} (hl:laidOutB P=true):∀(ts:List TypeId) (vs:List Value) (ds:List (DataW H)) (ps:List MemPlace),(ts.all fun t=>P.readableRec t&&decide (t<P.types.size))=true →
  EY enc P W 0 (fun _=>true) true ts vs ds ps→Below W.heap.size W W'→(∀x∈ps,x.block<W.heap.size)→∀sp:Nat→Bool,(∀x∈ps,sp x.block=true)→EY enc P W' 0 sp true ts vs ds ps
 | [],[],[],_,_,h,_,_,_,_=>h
 | [],_::_,[],_,_,h,_,_,_,_=>h.elim
 | [],[],_::_,_,_,h,_,_,_,_=>h.elim
 | [],_::_,_::_,_,_,h,_,_,_,_=>h.elim
 | _::_,[],[],_,_,h,_,_,_,_=>h.elim
 | _::_,[],_::_,_,_,h,_,_,_,_=>h.elim
 | _::_,_::_,[],_,_,h,_,_,_,_=>h.elim
 | t::ts,v::vs,d::ds,ps,hr,h,hb,hlt,sp,hsp=>by
  obtain⟨p,q,h1,h2,rfl⟩:=h;simp only [Fz,EP,decide_eq_true_eq] at hr;refine⟨p,q,?_,nF hl ts vs ds q hr.2 h2 hb (fun x hx=>hlt x (by simp [hx])) sp (fun x hx=>hsp x (by simp [hx])),rfl⟩
  exact WideElems.Trod_stays hl hr.1.1 hr.1.2 h1 (fun x hx=>hb.same (hlt x (by simp [hx]))) (fun x hx=>hsp x (by simp [hx]))
end
section
variable {H:Type} {enc:TypeId × Value→H} {P:Program}
theorem tr {f:Func} {s:ChangeSpec} {apart fresh handsOn again:Bool} {W W':World} {args:Array Value} {v:Value} {ds gs:List (DataW H)} {before pa pv:List MemPlace}
  (hW:DataW.Whole enc P f.params.toList s.vars apart W args.toList ds gs before)
  (hres:∀(b:Nat) (sp:Nat→Bool) (hd:Bool),EY enc P W' b sp hd f.resultTypes.toList (v.resultList f.resultTypes.size) (s.fn H (ds++gs)).results [])
  (hargs:∀sp:Nat→Bool,(∀p∈before,sp p.block=true)→EY enc P W' 0 sp true f.params.toList args.toList (s.fn H (ds++gs)).args pa)
  (hvars:∀sp:Nat→Bool,(∀p∈before,sp p.block=true)→DataW.TrodVars enc P W' sp s.vars (s.fn H (ds++gs)).vars pv)
  (hps:before=pa++pv) (hb:Below W.heap.size W W')
  (hok:∀(j:Nat) (t:TypeId) (r:Value),f.resultTypes[j]?=some t→(v.resultList f.resultTypes.size)[j]?=some r→Fi P W' .any 0 t r) :
  s.post enc P f apart fresh handsOn again W args v W':=by
 have hlt:∀p∈before,p.block<W.heap.size:=fun p hp=>hW.lt p hp
 have hold:∀p∈before,(fun b=>decide (b<W.heap.size)) p.block=true:=fun p hp=>by simpa using hlt p hp
 refine⟨ds,gs,before,[],pa,pv,hW,hres _ _ _,hargs _ hold,hvars _ hold,World.keptBut_mono (fun p hp=>⟨hp,?_⟩) (hb.frame (·∈before)),fun _=>?_⟩
 ·rw [hps,Ft] at hp
  exact Or.inr hp
 ·obtain⟨_,_,_,_,_,hz,hn⟩:=hW
  refine⟨hok,_,_,([]++pa)++pv,⟨[]++pa,pv,trodAll_append (hargs _ (fun _ _=>rfl)) (hres _ _ _),hvars _ (fun _ _=>rfl),rfl,?_,?_⟩,?_⟩
  ·intro b off hp
   have hin:MemPlace.cell b off∈before:=by rw [hps];simpa using hp
   rw [hb.frozen (hlt _ hin)];exact hz b off hin
  ·intro ha
   have:=hn ha;rw [hps] at this;simpa using this
  ·intro p hp _
   rw [hps];simpa using hp
theorem sa {G:List (Nat × (Obj→Prop))} {f:FuncId} {S:FS} (hm:ay G P f S) {fn:Func} (hf:P.funcs[f]?=some fn) (hname:(fn.name=="runtime.NumGoroutine")=false) (hb:fn.body.isSome=true) {ds rs us:List D} (hd:S.f ds=some (.ret rs us)) {args:Array Value} {w:World} {F:Nat→Prop} {ow:Nat→Option Nat}
  (hgl:gOk G w F) (ha:ed w F ow 0 S.pm ds args.toList) (hF:∀b,F b→b<w.heap.size∧ow b=none) (hO:∀b i,ow b=some i→b<w.heap.size) :
  Calls P f args w fun e w'=>∃v,e = .returned v∧∃F' R vs,v=jH vs∧CallPost S args rs us w F ow F' R vs w':=by
 obtain⟨b,hb⟩:=Fq.1 hb;have h1:¬fn.name="runtime.NumGoroutine":=by simpa using hname
 have hrun:(callFunc f args).run P w = .ok (.enter f args) w:=by simp [callFunc,hf,h1,hb]
 have h2:=hm ds rs us hd args w F ow hgl ha hF hO {(default:Oper) with dst:=some 0} {tmps:=#[undef],defers:=[]} (fun a w'=>∃F' R vs,a.tmps.getD 0 undef=jH vs∧CallPost S args rs us w F ow F' R vs w') (fun _ _ _=>False) (fun v w' h=>by
  obtain⟨F',R,vs,rfl,h⟩:=h;exact⟨F',R,vs,by simp [Act.put],h⟩)
 rw [hrun,Fh] at h2;refine Fo h2 fun e w' he=>?_
 cases e with
 | returned v =>
  obtain⟨F',R,vs,h3,h4⟩:=he;exact⟨v,rfl,F',R,vs,by simpa [Act.put] using h3,h4⟩
 | panicked c=>exact he.elim
 | outgrown=>obtain⟨_,_,h⟩:=he;exact h.elim
theorem Bv {G:List (Nat × (Obj→Prop))} {f:FuncId} {S:FS} (hm:ay G P f S) {fn:Func} (hf:P.funcs[f]?=some fn) (hname:(fn.name=="runtime.NumGoroutine")=false) (hbd:fn.body.isSome=true) (shs:List Sh) {rt:TypeId}
  (hl:laidOutB P=true) (hsh:qP P shs fn.params.toList S.pm=true) (hrd:(fn.params.toList.all fun t=>P.readableRec t&&decide (t<P.types.size))=true)
  (hrm:S.rm=[.dat 0]) (hrt:fn.resultTypes=#[rt]) (hbool:P.underlying rt=some .bool)
  (hd:∀ds,wh shs ds→S.f ds=some (.ret [B true] [])) {s:ChangeSpec} (hvars:s.vars=[])
  (hs:∀ds:List (DataW H),ds.length=fn.params.size→s.fn H (ds++[])={results:=[.lit (.bool true)],args:=ds})
  {W:World} {base:Nat} {args:Array Value} {ds gs:List (DataW H)} {before:List MemPlace}
  (hval:∀(j:Nat) t v,fn.params[j]?=some t→args[j]?=some v→Fi P W .any base t v) (hW:DataW.Whole enc P fn.params.toList s.vars false W args.toList ds gs before) (hgl:gOk G W fun b=>b<W.heap.size) {fresh handsOn again:Bool} :
  Calls P f args W fun e W'=>∃v,e = .returned v∧s.post enc P fn false fresh handsOn again W args v W':=by
 have hW':=hW;have hlt:∀p∈before,p.block<W.heap.size:=fun p hp=>hW.lt p hp
 obtain⟨p,q,hA,hV,rfl,hfz,hnd⟩:=hW;rw [hvars] at hV;have hgs:gs=[]∧q=[]:=by
  cases gs with
  | nil=>exact⟨rfl,hV⟩
  | cons _ _=>exact hV.elim
 obtain⟨rfl,rfl⟩:=hgs;obtain⟨xs,h1,h2⟩:=xW (base:=base) shs fn.params.toList S.pm args.toList ds p 0 hsh hA (fun j t v ht hv=>hval j t v (by simpa using ht) (by simpa using hv));refine Fo (sa hm hf hname hbd (hd xs h1) hgl h2 (fun b hb=>⟨hb,rfl⟩) (fun b i hi=>by cases hi)) fun e W' he=>?_
 obtain⟨v,rfl,F',R,vs,rfl,hp⟩:=he;refine⟨_,rfl,?_⟩
 have hlen:ds.length=fn.params.size:=by
  have:∀(ts:List TypeId) (vs:List Value) (ds:List (DataW H)) (ps:List MemPlace),EY enc P W 0 (fun _=>true) true ts vs ds ps→ds.length=ts.length:=by
   intro ts;induction ts with
   | nil =>
    intro vs ds ps h;cases ds with
    | nil=>rfl
    | cons _ _=>cases vs<;>exact h.elim
   | cons t ts ih =>
    intro vs ds ps h;cases vs with
    | nil=>exact h.elim
    | cons v vs =>
     cases ds with
     | nil=>exact h.elim
     | cons d ds =>
      obtain⟨_,_,_,h2,_⟩:=h;simp [ih _ _ _ h2]
  simpa using this _ _ _ _ hA
 have hB:Below W.heap.size W W':=⟨hp.os,hp.tape,hp.output,hp.size,fun b hb=>hp.keep b hb rfl⟩
 have hres:jH vs = .bool true:=by
  have hl1:=hp.len;rw [hrm] at hl1
  match vs,hl1 with
  | [y],_ =>
   have h0:=hp.res 0;rw [hrm] at h0;simp only [ah,nth,Fa] at h0;rcases h0 with h0 | h0
   ·cases h0
   ·exact(kz.1 h0).1
 rw [hres];have hsd:=hs ds hlen;refine tr (pa:=p) (pv:=[]) hW' (fun b sp hd'=>?_) (fun sp hsp=>?_) (fun sp _=>?_) rfl hB ?_
 ·rw [hsd,hrt]
  exact trodAll_mk1 (shut_bool hbool true)
 ·rw [hsd]
  exact nF hl _ _ _ _ hrd hA hB (fun x hx=>hlt x (by simp [hx])) sp (fun x hx=>hsp x (by simp [hx]))
 ·rw [hsd,hvars]
  rfl
 ·exact ok_one hrt rfl (okWide_bool_mk hbool true)
end
end Go.V

namespace Go.Proofs.YtioabeglbjlndaaDoor
open Go Go.V Go.RowKit Go.WideShapes Go.ChangeShapes
set_option maxRecDepth 100000
theorem own:ownKnob Tryd.prog.godebug=none:=by kernel_rfl
theorem CS:laidOutB Tryd.prog=true:=by kernel_rfl
theorem xD {w:World} {g:Nat} {p:Obj→Prop} (h:∃o,w.heap[g]?=some o∧p o):g<w.heap.size∧∃o,w.heap[g]?=some o∧p o:=by
 obtain⟨o,ho,hp⟩:=h;exact⟨(Array.getElem?_eq_some_iff.1 ho).1,o,ho,hp⟩
theorem DA {W:World} (hsh:W.ShapedOpen Tryd.prog):gOk gl0 W fun b=>b<W.heap.size:=by
 intro p hp;simp only [gl0,List.mem_cons,List.not_mem_nil,or_false] at hp;subst hp;obtain⟨m,hm⟩:=Go.Proofs.cell_of_shapedOpen_int (g:=0) (zero:=#[.int .i64 0]) (t:=3) hsh (of_decide_eq_true (by kernel_rfl)) (by kernel_rfl) rfl (by kernel_rfl) (by kernel_rfl) Tryd.underlying3;exact xD (Ap hm)
end Go.Proofs.YtioabeglbjlndaaDoor

namespace Go.V
open Go.RowKit
set_option maxRecDepth 100000
section
variable {P:Program} {c:Cx} {B:Nat} {X:Nat→Prop} {w0:World} {F0 F:Nat→Prop} {O:Nat→Option (Nat × Nat)} {a:Act} {w:World} {δ:List D} {fz:List Nat}
end
end Go.V

namespace Go.V
open Go.RowKit
set_option maxRecDepth 100000
section
variable {P:Program} {c:Cx} {B:Nat} {X:Nat→Prop} {w0:World} {F0 F:Nat→Prop} {O:Nat→Option (Nat × Nat)} {a:Act} {w:World} {δ:List D} {fz:List Nat}
end
end Go.V

namespace Go.V
set_option maxRecDepth 100000
section
variable {k:IntKind} {a b:Int} {bl:Bool} {eq:List Nat}
@[simp] theorem fN:bin .add bl eq (.v (.int k a)) (.v (.int k b))=some (.v (.int k (k.wrap (a+b)))):=by simp [bin,eZ]
@[simp] theorem yF:bin .sub bl eq (.v (.int k a)) (.v (.int k b))=some (.v (.int k (k.wrap (a - b)))):=by simp [bin,eZ]
@[simp] theorem yi:bin .mul bl eq (.v (.int k a)) (.v (.int k b))=some (.v (.int k (k.wrap (a*b)))):=by simp [bin,eZ]
@[simp] theorem Dn:bin .quo bl eq (.v (.int k a)) (.v (.int k b))=if b=0 then none else some (.v (.int k (k.wrap (a.tdiv b)))):=by simp [bin,eZ]
@[simp] theorem Ck:bin .rem bl eq (.v (.int k a)) (.v (.int k b))=if b=0 then none else some (.v (.int k (a.tmod b))):=by simp [bin,eZ]
@[simp] theorem eC:bin .lss bl eq (.v (.int k a)) (.v (.int k b))=some (B (decide (a<b))):=by simp [bin,eZ]
@[simp] theorem yG:bin .leq bl eq (.v (.int k a)) (.v (.int k b))=some (B (decide (a≤b))):=by simp [bin,eZ]
@[simp] theorem yg:bin .gtr bl eq (.v (.int k a)) (.v (.int k b))=some (B (decide (b<a))):=by simp [bin,eZ]
@[simp] theorem rR:bin .geq bl eq (.v (.int k a)) (.v (.int k b))=some (B (decide (b≤a))):=by simp [bin,eZ]
@[simp] theorem vg:bin .eql bl eq (.v (.int k a)) (.v (.int k b))=some (B (decide (a=b))):=by
 have:(a==b)=decide (a=b):=rfl;simp [bin,eZ,this]
@[simp] theorem rJ:bin .neq bl eq (.v (.int k a)) (.v (.int k b))=some (B (!decide (a=b))):=by
 have:(a != b) = !decide (a=b):=rfl;simp [bin,eZ,this]
@[simp] theorem En {a b:Bool}:bin .eql true eq (B a) (B b)=some (B (a==b)):=by simp [bin]
@[simp] theorem mo {a b:Bool}:bin .neq true eq (B a) (B b)=some (B !(a==b)):=by simp [bin]
@[simp] theorem ek {a b:ByteArray}:bin .add bl eq (T a) (T b)=if a.size+b.size≤1152921504606846976 then some (T (a++b)) else none:=by simp [bin,qk]
@[simp] theorem px {a b:ByteArray}:bin .eql bl eq (T a) (T b)=some (B (decide (a=b))):=by
 have:(a.toList==b.toList)=decide (a=b):=by
  rw [Bool.eq_iff_iff,beq_iff_eq,decide_eq_true_eq];constructor
  ·intro h
   have h1:∀s:ByteArray,s.toList=s.data.toList:=fun s=>by simp [ByteArray.toList_eq]
   rw [h1,h1] at h;cases a;cases b;simp at h;simp [h]
  ·rintro rfl;rfl
 simp [bin,qk,this]
@[simp] theorem pP {a b:ByteArray}:bin .neq bl eq (T a) (T b)=some (B (!decide (a=b))):=by
 have h:=px (a:=a) (b:=b) (bl:=bl) (eq:=eq);simp only [bin,qk,EQ,D.v.injEq,Value.bool.injEq] at h ⊢;rw [h]
@[simp] theorem qd {b:Bool}:un .not (B b)=some (B !b):=rfl
@[simp] theorem EM:un .neg (.v (.int k a))=some (.v (.int k (k.wrap (-a)))):=by simp [un]
theorem am (h1 : -9223372036854775808≤a) (h2:a<9223372036854775808):IntKind.i64.wrap a=a:=by
 simp [IntKind.wrap,IntKind.bits,IntKind.signed];split<;>omega
end
@[simp] theorem gJ {c:Bool} {t e:Option Out}:ifD (B c) t e=if c=true then t else e:=by cases c<;>rfl
@[simp] theorem tY {c:Bool} {t e:Option Out}:ifN c t e=if c=true then t else e:=by cases c<;>rfl
@[simp] theorem Bm {v:D} {c:Bool} {r:Option D}:aq v (B c) true r=if c=true then r else some v:=by cases c<;>rfl
@[simp] theorem pR {v:D} {c:Bool} {r:Option D}:aq v (B c) false r=if c=true then some v else r:=by cases c<;>rfl
@[simp] theorem BJ {v:D} {p:Bool} {l:List D} {r:Option D}:aq v (.tup l) p r=some v:=rfl
@[simp] theorem yL {p:Bool} {l:List D} {r:Option Out} {alt:List D} {k:List D→Option Out}:eE (.tup l) p r alt k=k alt:=rfl
def DP (r:Option Out) (k:List D→Option Out):Option Out :=
 match r with
 | some (.nrm l)=>k l
 | _=>none
@[simp] theorem mI {l:List D} {k:List D→Option Out}:DP (some (.nrm l)) k=k l:=rfl
@[simp] theorem yM {c:Bool} {r:Option Out} {alt:List D} {k:List D→Option Out}:eE (B c) true r alt k=if c=true then DP r k else k alt:=by cases c<;>rfl
@[simp] theorem pF {c:Bool} {r:Option Out} {alt:List D} {k:List D→Option Out}:eE (B c) false r alt k=if c=true then k alt else DP r k:=by cases c<;>rfl
@[simp] theorem mO {c:Bool} {a b:D}:bm (B c) a b=some (if c=true then a else b):=by cases c<;>rfl
@[simp] theorem aM {rs us:List D} {k:List D→List D→Option Out}:ai (some (.ret rs us)) k=k rs us:=rfl
@[simp] theorem kg {i:Nat} {s:List D} {x:Nat→List D→Option Out} {r:List D→List D→Option Out}:bO (.ext i s) x r=x i s:=rfl
@[simp] theorem ka {a b:List D} {x:Nat→List D→Option Out} {r:List D→List D→Option Out}:bO (.ret a b) x r=r a b:=rfl
@[simp] theorem EG {v:Value} {x:D}:ab (.v v) x=some x:=rfl
@[simp] theorem tU {z:Nat} {l:List D} {x:D}:ab (.arr z l) x=some x:=rfl
@[simp] theorem bL {l:List D} {x:D}:ab (.agg l) x=some x:=rfl
@[simp] theorem uA {i f:Nat} {x:D}:ab (.ref i f) x=some x:=rfl
@[simp] theorem Eh {l:List D} {x:D}:ab (.tup l) x=some x:=rfl
@[simp] theorem fV {z:Nat} {l:List D}:lenD false (.arr z l)=some (I l.length):=rfl
@[simp] theorem gU {s:ByteArray}:lenD true (T s)=some (I s.size):=rfl
@[simp] theorem aS {a:D} {l:List D}:sl (a::l) 0=a:=rfl
@[simp] theorem de {a:D} {l:List D} {n:Nat}:sl (a::l) (n+1)=sl l n:=rfl
@[simp] theorem Er {ag:Bool} {n off:Nat} {l:List D}:sO ag n off (.agg l)=cN ag n (l.drop off):=rfl
@[simp] theorem lc {ag:Bool} {n:Nat} {l:List D}:ldD ag n (.ptr l)=cN ag n l:=rfl
@[simp] theorem wJ {off:Nat} {l:List D}:CN off (.ptr l)=some (.ptr (l.drop off)):=rfl
@[simp] theorem EH {n:Nat} {l:List D}:cN true n l=if n≤l.length then some (.agg (l.take n)) else none:=rfl
@[simp] theorem kM {n:Nat} {a:D} {l:List D}:cN false n (a::l)=some a:=rfl
@[simp] theorem yC {l:List D} {i f:Nat}:atD (.agg l) (.ref i f)=some (l.drop f):=rfl
@[simp] theorem CR {z:Nat} {l:List D} {i f:Nat}:atD (.arr z l) (.ref i f)=(l[i]?).map fun d=>d.cells.drop f:=rfl
@[simp] theorem Ea {off i f:Nat}:dk off (.ref i f)=some (.ref i (f+off)):=rfl
@[simp] theorem uo {z:Nat} {l:List D} {k:IntKind} {i:Nat}:aT z (.arr z l) (.v (.int k (i:Int)))=(l[i]?).map D.cells:=by simp [aT]
@[simp] theorem wo {z:Nat} {l:List D} {k:IntKind} {i:Nat}:mA z (.arr z l) (.v (.int k (i:Int)))=if i<l.length then some (.ref i 0) else none:=by simp [mA]
@[simp] theorem Ds {l:List D}:(D.agg l).cells=l:=rfl
@[simp] theorem Ef {v:Value}:(D.v v).cells=[.v v]:=rfl
@[simp] theorem Dr {z:Nat} {l:List D}:(D.arr z l).cells=[.arr z l]:=rfl
@[simp] theorem nJ {v:Value}:bJ (.v v)=some (.v v):=rfl
@[simp] theorem Ep {l:List D}:bJ (.agg l)=if l.all vl=true then some (.agg l) else none:=by
 have:(D.agg l).isV=l.all vl:=by
  simp only [D.isV];congr 1
 simp [bJ,this]
@[simp] theorem EN {v:Value}:vl (.v v)=true:=rfl
@[simp] theorem Ey {z:Nat} {l:List D}:vl (.arr z l)=false:=rfl
@[simp] theorem Ek {v:Value}:(D.v v).single=true:=rfl
@[simp] theorem DL {z:Nat} {l:List D}:(D.arr z l).single=true:=rfl
@[simp] theorem Ei {l:List D}:(D.agg l).width=l.length:=rfl
@[simp] theorem EE {v:Value}:(D.v v).width=1:=rfl
@[simp] theorem Ee {z:Nat} {l:List D}:(D.arr z l).width=1:=rfl
@[simp] theorem EI {n:Nat} {x:D}:qf n x=if x.cells.length=n∧x.cells.all D.single=true then some (.agg x.cells) else none:=rfl
@[simp] theorem EF {n i f:Nat} {l:List D} {x:D}:stD n (.agg l) (.ref i f) x=if x.cells.length=n∧f+n≤l.length∧x.cells.all D.single=true then some (.agg (cr l f x.cells)) else none:=rfl
@[simp] theorem Dz {l:List D} {f:Nat} {vs:List D}:cr l f vs=l.take f++vs++l.drop (f+vs.length):=rfl
@[simp] theorem Eg {l:List D} {i:Nat}:aB (.tup l) i=match l[i]? with
  | some .bad=>none
  | some (.tup _)=>none
  | r=>r:=rfl
@[simp] theorem DT {l:List D} {i:Nat}:bd (.tup l) i = .tup (l.set i .bad):=rfl
@[simp] theorem ir {x:D}:bR (.ref 0 0) x=some x:=rfl
@[simp] theorem vd {z eb:Nat} {l m:List D}:eL z eb (.arr z l) (.arr z m)=if (l.length+m.length)*eb≤140737488355328∧l.length+m.length≤1152921504606846976 then some (.arr z (l++m)) else none:=by simp [eL]
@[simp] theorem DS {z:Nat} {l:List D} {k:IntKind} {i:Nat}:aT z (.arr z l) (.v (.int k ((i:Int)+1)))=(l[i+1]?).map D.cells:=uo (i:=i+1)
@[simp] theorem DZ {z:Nat} {l:List D} {k:IntKind}:aT z (.arr z l) (.v (.int k 0))=(l[0]?).map D.cells:=uo (i:=0)
@[simp] theorem we {z eb:Nat} {x:D} {k k':IntKind} {n m:Nat}:vG z eb x (.v (.int k (n:Int))) (.v (.int k' (m:Int)))=if n≤m∧m*eb≤140737488355328∧m≤140737488355328 then some (.arr z (FE n x)) else none:=by
 have h:((n:Int)≤m∧(m:Int)*(eb:Int)≤140737488355328∧(m:Int)≤140737488355328)↔(n≤m∧m*eb≤140737488355328∧m≤140737488355328):=by
  rw [←Int.natCast_mul];omega
 simp only [vG,Int.natCast_nonneg,true_and,h,Int.toNat_natCast]
theorem wA {z i:Nat} {L:List D} {v w:Value} (h:L[i]?=some (.v w)):stD 1 (.arr z L) (.ref i 0) (.v v)=some (.arr z (L.set i (.v v))):=by
 simp [stD,h,D.ofCells]
def Du {β:Type} (f:β→D) (z:D) (l:List β) (i:Nat):List D:=(l.take i).map f++FE (l.length - i) z
section
variable {β:Type} {f:β→D} {z:D} {l:List β} {i:Nat}
@[simp] theorem Dh (h:i≤l.length):(Du f z l i).length=l.length:=by simp [Du];omega
end
def Dx {β:Type} (g:Nat→D) (f:β→D) (l:List β) (i:Nat):List D:=(List.range i).map g++(l.drop i).map f
section
variable {β:Type} {g:Nat→D} {f:β→D} {l:List β} {i:Nat}
@[simp] theorem Ch (h:i≤l.length):(Dx g f l i).length=l.length:=by simp [Dx];omega
end
theorem tT {z:Nat}:aF z []=some (.arr z []):=rfl
@[simp] theorem wd {β:Type} {z:Nat} {l:List β} {f:β→D} (h:∀x,(f x).isV=true):ie (.arr z (l.map f))=some (.arr z (l.map f)):=by
 have:(l.map f).all D.isV=true:=by simp [h]
 simp only [ie,this,if_true]
@[simp] theorem EO {p:Prop} [Decidable p] {a b:Bool}:(if p then D.v (.bool a) else D.v (.bool b))=D.v (.bool (if p then a else b)):=by split<;>rfl
theorem qu {body:List D→Option Out}:∀(n:Nat) (s:List D) (o:Out),iter body n s=some o→∀m,n≤m→iter body m s=some o
 | 0,_,_,h,_,_=>by simp [iter] at h
 | n+1,s,o,h,m,hm=>by
  obtain⟨m,rfl⟩:∃q,m=q+1:=⟨m - 1,by omega⟩
  simp only [iter] at h ⊢;split at h
  ·rename_i s' hb
   exact qu n s' o h m (by omega)
  ·exact h
theorem BX {body:List D→Option Out} {s:List D} {o:Out} (n:Nat) (h:iter body n s=some o):aD body s=some o:=by
 have hex:∃n,(iter body n s).isSome=true:=⟨n,by rw [h];rfl⟩
 unfold aD;rw [dif_pos hex];obtain⟨o',ho⟩:=Fq.1 (Classical.choose_spec hex);rw [ho];have h1:=qu _ _ _ ho (max n (Fr hex)) (by omega);have h2:=qu _ _ _ h (max n (Fr hex)) (by omega);rw [h1] at h2;exact h2
inductive Runs (body:List D→Option Out):List D→Out→Prop where
 | ext {s:List D} {i:Nat} {δ:List D}:body s=some (.ext i δ)→Runs body s (.ext i δ)
 | ret {s:List D} {rs us:List D}:body s=some (.ret rs us)→Runs body s (.ret rs us)
 | nrm {s s':List D} {o:Out}:body s=some (.nrm s')→Runs body s' o→Runs body s o
theorem Runs.iter {body:List D→Option Out} {s:List D} {o:Out} (h:Runs body s o):∃n,V.iter body n s=some o:=by
 induction h with
 | ext h=>exact⟨1,by simp [V.iter,h]⟩
 | ret h=>exact⟨1,by simp [V.iter,h]⟩
 | nrm h _ ih =>
  obtain⟨n,hn⟩:=ih;exact⟨n+1,by simp [V.iter,h,hn]⟩
theorem Runs.loop {body:List D→Option Out} {s:List D} {o:Out} (h:Runs body s o):aD body s=some o:=by
 obtain⟨n,hn⟩:=h.iter;exact BX n hn
def goL {α β:Type} (g:Nat→β→α→α ⊕ Out) (fin:α→Out):Nat→List β→α→Out
 | _,[],a=>fin a
 | i,x::l,a=>match g i x a with
  | .inl a'=>goL g fin (i+1) l a'
  | .inr o=>o
def Out.ends:Out→Bool
 | .nrm _=>false
 | _=>true
theorem Runs.one {body:List D→Option Out} {s:List D} {o:Out} (h:body s=some o) (ho:o.ends=true):Runs body s o:=by
 cases o with
 | nrm _=>simp [Out.ends] at ho
 | ext _ _=>exact .ext h
 | ret _ _=>exact .ret h
theorem Runs.list {α β:Type} {body:List D→Option Out} (l:List β) (st:Nat→α→List D) (Inv:Nat→α→Prop) (g:Nat→β→α→α ⊕ Out) (fin:α→Out)
  (hs:∀i x a,l[i]?=some x→Inv i a→match g i x a with
   | .inl a'=>body (st i a)=some (.nrm (st (i+1) a'))∧Inv (i+1) a'
   | .inr o=>body (st i a)=some o∧o.ends=true)
  (he:∀a,Inv l.length a→body (st l.length a)=some (fin a)∧(fin a).ends=true) (a:α) (h0:Inv 0 a):Runs body (st 0 a) (goL g fin 0 l a):=by
 have key:∀(n i:Nat) (a:α),i+n=l.length→Inv i a→Runs body (st i a) (goL g fin i (l.drop i) a):=by
  intro n;induction n with
  | zero =>
   intro i a hi hI;have:i=l.length:=by omega
   subst this;rw [List.drop_length];exact Runs.one (he a hI).1 (he a hI).2
  | succ n ih =>
   intro i a hi hI;have hlt:i<l.length:=by omega
   rw [List.drop_eq_getElem_cons hlt];have h:=hs i l[i] a (EW hlt) hI;simp only [goL];split at h
   ·exact .nrm h.1 (ih (i+1) _ (by omega) h.2)
   ·exact Runs.one h.1 h.2
 simpa using key l.length 0 a (by omega) h0
theorem mQ {α β:Type} {body:List D→Option Out} (l:List β) (st:Nat→α→List D) (Inv:Nat→α→Prop) (g:Nat→β→α→α ⊕ Out) (fin:α→Out)
  (hs:∀i x a,l[i]?=some x→Inv i a→match g i x a with
   | .inl a'=>body (st i a)=some (.nrm (st (i+1) a'))∧Inv (i+1) a'
   | .inr o=>body (st i a)=some o∧o.ends=true)
  (he:∀a,Inv l.length a→body (st l.length a)=some (fin a)∧(fin a).ends=true) (a:α) (h0:Inv 0 a) {s0:List D} (h:s0=st 0 a):aD body s0=some (goL g fin 0 l a):=by
 rw [h];exact(Runs.list l st Inv g fin hs he a h0).loop
theorem ke {body:List D→Option Out} (n:Nat) (st:Nat→List D) (o:Out) (hs:∀i,i<n→body (st i)=some (.nrm (st (i+1)))) (he:body (st n)=some o) (ho:o.ends=true) {s0:List D} (h:s0=st 0):aD body s0=some o:=by
 rw [h];have key:∀(m i:Nat),i+m=n→Runs body (st i) o:=by
  intro m;induction m with
  | zero =>
   intro i hi;have:i=n:=by omega
   subst this;exact Runs.one he ho
  | succ m ih=>exact fun i hi=>.nrm (hs i (by omega)) (ih (i+1) (by omega))
 exact(key n 0 (by omega)).loop
def lC {β:Type} (p:Nat→β→Bool):Nat→List β→Bool
 | _,[]=>true
 | i,x::l=>p i x&&lC p (i+1) l
theorem gQ {β:Type} {body:List D→Option Out} (l:List β) (st:Nat→List D) (p:Nat→β→Bool) (o1 o2:Out) (hs:∀(i:Nat) (hi:i<l.length),body (st i)=some (if p i l[i]=true then .nrm (st (i+1)) else o1)) (he:body (st l.length)=some o2)
  (h1:o1.ends=true) (h2:o2.ends=true) {s0:List D} (h:s0=st 0):aD body s0=some (if lC p 0 l=true then o2 else o1):=by
 have e:∀(m:List β) (i:Nat),goL (fun i x (_:Unit)=>if p i x=true then .inl () else .inr o1) (fun _=>o2) i m ()=if lC p i m=true then o2 else o1:=by
  intro m;induction m with
  | nil=>intro i;simp [goL,lC]
  | cons x m ih =>
   intro i;simp only [goL,lC];by_cases hp:p i x=true
   ·simp [hp,ih]
   ·simp [hp]
 rw [←e];refine mQ l (fun i _=>st i) (fun _ _=>True) _ _ (fun i x a hx _=>?_) (fun _ _=>⟨he,h2⟩) () trivial h
 have hi:i<l.length:=(ER.1 hx).1;have hxe:l[i]=x:=(ER.1 hx).2;have:=hs i hi;rw [hxe] at this;by_cases hp:p i x=true
 ·simpa [hp] using this
 ·simpa [hp,h1] using this
theorem xe {α β:Type} {body:List D→Option Out} (l:List β) (st:Nat→α→List D) (f:α→β→α) (fin:α→Out) (a:α) (hs:∀(i:Nat) (a:α) (hi:i<l.length),body (st i a)=some (.nrm (st (i+1) (f a l[i])))) (he:∀a,body (st l.length a)=some (fin a))
  (h1:∀a,(fin a).ends=true) {s0:List D} (h:s0=st 0 a):aD body s0=some (fin (l.foldl f a)):=by
 have e:∀(m:List β) (i:Nat) (a:α),goL (fun _ x a=>.inl (f a x)) fin i m a=fin (m.foldl f a):=by
  intro m;induction m with
  | nil=>intro i a;rfl
  | cons x m ih=>intro i a;simp only [goL,List.foldl_cons];exact ih (i+1) (f a x)
 rw [←e l 0 a];exact mQ l st (fun _ _=>True) (fun _ x a=>.inl (f a x)) _ (fun i x a hx _=>⟨by
  have hi:i<l.length:=(ER.1 hx).1;have hxe:l[i]=x:=(ER.1 hx).2;rw [←hxe];exact hs i a hi,trivial⟩) (fun a _=>⟨he a,h1 a⟩) a trivial h
def bU {α β:Type} (f:Nat→α→β→α):Nat→List β→α→α
 | _,[],a=>a
 | i,x::l,a=>bU f (i+1) l (f i a x)
theorem cF {α β:Type} {body:List D→Option Out} (l:List β) (st:Nat→α→List D) (Inv:Nat→α→Prop) (f:Nat→α→β→α) (fin:α→Out) (a:α) (hs:∀(i:Nat) (a:α) (hi:i<l.length),Inv i a→body (st i a)=some (.nrm (st (i+1) (f i a l[i])))∧Inv (i+1) (f i a l[i]))
  (he:∀a,Inv l.length a→body (st l.length a)=some (fin a)) (h1:∀a,(fin a).ends=true) (h0:Inv 0 a) {s0:List D} (h:s0=st 0 a):aD body s0=some (fin (bU f 0 l a)):=by
 have e:∀(m:List β) (i:Nat) (a:α),goL (fun i x a=>.inl (f i a x)) fin i m a=fin (bU f i m a):=by
  intro m;induction m with
  | nil=>intro i a;rfl
  | cons x m ih=>intro i a;simp only [goL,bU];exact ih (i+1) (f i a x)
 rw [←e l 0 a];refine mQ l st Inv (fun i x a=>.inl (f i a x)) _ (fun i x a hx hI=>?_) (fun a hI=>⟨he a hI,h1 a⟩) a h0 h
 have hi:i<l.length:=(ER.1 hx).1;have hxe:l[i]=x:=(ER.1 hx).2;rw [←hxe];exact hs i a hi hI
theorem aA {body:List D→Option Out} {s0:List D} {K:Out→Option Out} {r:Option Out} (o:Out) (h:aD body s0=some o) (hk:K o=r):(aD body s0).bind K=r:=by
 rw [h];exact hk
theorem uN {α:Type} {body:List D→Option Out} (st:α→List D) (Inv:α→Prop) (μ:α→Nat) (Q:α→Out→Prop)
  (hs:∀a,Inv a→(∃a',body (st a)=some (.nrm (st a'))∧Inv a'∧μ a'<μ a∧∀o,Q a' o→Q a o)∨∃o,body (st a)=some o∧o.ends=true∧Q a o) (a:α) (h:Inv a) {s0:List D} (h0:s0=st a):∃o,aD body s0=some o∧Q a o:=by
 rw [h0];have key:∀(n:Nat) (a:α),μ a<n→Inv a→∃o,Runs body (st a) o∧Q a o:=by
  intro n;induction n with
  | zero=>exact fun a h=>by omega
  | succ n ih =>
   intro a hn hI;rcases hs a hI with ⟨a',h1,h2,h3,h4⟩ | ⟨o,h1,h2,h3⟩
   ·obtain⟨o,h5,h6⟩:=ih a' (by omega) h2
    exact⟨o,.nrm h1 h5,h4 o h6⟩
   ·exact⟨o,Runs.one h1 h2,h3⟩
 obtain⟨o,h1,h2⟩:=key (μ a+1) a (by omega) h;exact⟨o,h1.loop,h2⟩
theorem fA {α:Type} {body:List D→Option Out} {K:Out→Option Out} (R:Option Out→Prop) (st:α→List D) (Inv:α→Prop) (μ:α→Nat) (Q:Out→Prop)
  (hs:∀a,Inv a→(∃a',body (st a)=some (.nrm (st a'))∧Inv a'∧μ a'<μ a)∨∃o,body (st a)=some o∧o.ends=true∧Q o) (a:α) (h:Inv a) {s0:List D} (h0:s0=st a) (hk:∀o,Q o→R (K o)):R ((aD body s0).bind K):=by
 obtain⟨o,h1,h2⟩:=uN st Inv μ (fun _ o=>Q o) (fun a ha=>by
  rcases hs a ha with ⟨a',g1,g2,g3⟩ | h
  ·exact .inl ⟨a',g1,g2,g3,fun _ h=>h⟩
  ·exact .inr h) a h h0
 rw [h1];exact hk o h2
theorem al:(type_of% @aS)∧(type_of% @de)∧(type_of% @bL)∧(type_of% @uA)∧(type_of% @tU)∧(type_of% @ir)∧(∀{α β:Type} (a:α) (f:α→Option β),(some a).bind f=f a)∧(∀{α β:Type} (a:α) (f:α→β),(some a).map f=some (f a))∧(type_of% @aM)∧(type_of% @Bm)∧(type_of% @pR)∧(type_of% @BJ)∧(type_of% @yM)∧(type_of% @pF)∧(type_of% @yL)∧(type_of% @mI)∧(type_of% @mO)∧(type_of% @gJ)∧(type_of% @tY)∧(∀{α:Type} {_h:Decidable True} (t e:α),(if True then t else e)=t)∧(∀{α:Type} {_h:Decidable False} (t e:α),(if False then t else e)=e)∧(type_of% @EU)∧(type_of% @qd)∧(type_of% @Bool.not_true)∧(type_of% @FF)∧(type_of% @decide_true)∧(type_of% @decide_false)∧(type_of% @and_self)∧(type_of% @kg)∧(type_of% @Nat.beq_refl)∧(type_of% @eC)∧(type_of% @yg)∧(type_of% @yG)∧(type_of% @rR)∧(type_of% @vg)∧(type_of% @rJ)∧(type_of% @fN)∧(type_of% @yF)∧(type_of% @yi)∧(type_of% @fV)∧(type_of% @gU)∧(∀{α β:Type} {l:List α} (f:α→β),(l.map f).length=l.length)∧(type_of% @lc)∧(type_of% @kM)∧(type_of% @nJ)∧(type_of% @wJ)∧(∀{α:Type} {l:List α},l.drop 0=l)∧(∀{α:Type} {a:α} {l:List α} {i:Nat},(a::l).drop (i+1)=l.drop i)∧(type_of% @yC)∧(type_of% @tT) :=
 ⟨@aS,⟨@de,⟨@bL,⟨@uA,⟨@tU,⟨@ir,⟨@Option.bind_some,⟨@Option.map_some,⟨@aM,⟨@Bm,⟨@pR,⟨@BJ,⟨@yM,⟨@pF,⟨@yL,⟨@mI,⟨@mO,⟨@gJ,⟨@tY,⟨@if_true,⟨@if_false,⟨@EU,⟨@qd,⟨@Bool.not_true,⟨@FF,⟨@decide_true,⟨@decide_false,⟨@and_self,⟨@kg,⟨@Nat.beq_refl,⟨@eC,⟨@yg,⟨@yG,⟨@rR,⟨@vg,⟨@rJ,⟨@fN,⟨@yF,⟨@yi,⟨@fV,⟨@gU,⟨@Fs,⟨@lc,⟨@kM,⟨@nJ,⟨@wJ,⟨@Fv,⟨@List.drop_succ_cons,⟨@yC,@tT⟩⟩⟩⟩⟩⟩⟩⟩⟩⟩⟩⟩⟩⟩⟩⟩⟩⟩⟩⟩⟩⟩⟩⟩⟩⟩⟩⟩⟩⟩⟩⟩⟩⟩⟩⟩⟩⟩⟩⟩⟩⟩⟩⟩⟩⟩⟩⟩⟩
end Go.V

namespace Go.V
open Go.RowKit
set_option maxRecDepth 100000
def yt (f:(List D→Option Out)→Option Out) (k:List D→Option Out):Option Out:=f k
@[reducible] def lF (c:Cx) (J:List (Nat × List Nat)):Nat→Nat→Code→List D→(Out→Option Out)→Option Out
 | _,_,.skip,δ,k=>k (.nrm δ)
 | _,_,.region _ ops _,δ,k=>gp c ops.toList ops.toList δ fun δ'=>k (.nrm δ')
 | p,bid,.seq a b,δ,k=>match cb J p with
  | none=>lF c J (Fe 2 p) bid a δ fun o=>CI o (fun δ'=>lF c J (FG (Fe 2 p) 1) bid b δ' k) k
  | some hl=>yt (fun j=>lF c J (Fe 2 p) bid a δ fun o=>CI o (fun δ'=>ly δ' hl fun s=>j s) k) (fun s=>fJ (gm c.K) hl s fun δ'=>lF c J (FG (Fe 2 p) 1) bid b δ' k)
 | p,bid,.cond x t e,δ,k=>opC δ x fun q=>ifD q (lF c J (Fe 2 p) bid t δ k) (lF c J (FG (Fe 2 p) 1) bid e δ k)
 | p,_,.block id b,δ,k=>lF c J (Fe 2 p) id b δ fun o=>wu id o k
 | p,bid,.loop b,δ,k=>match cb c.H bid with
  | none=>none
  | some (hl,xl) =>
   ly δ hl fun s=>(aD (fun s=>fJ (gm c.K) hl s fun δ=>lF c J (Fe 2 p) bid b δ (bG hl xl)) s).bind fun o =>
    bO o (fun i s=>fJ (gm c.K) xl s fun δ=>k (.ext i δ)) (fun a b=>k (.ret a b))
 | _,_,.exit id,δ,k=>k (.ext id δ)
 | _,_,.ret,δ,k=>jG c δ c.res fun rs=>ly δ c.ios fun us=>usK us (k (.ret rs us))
 | _,_,_,_,_=>none
@[reducible] def rb (c:Cx) (J:List (Nat × List Nat)) (fn:Func) (ds:List D):Option Out :=
 match fn.body with
 | none=>none
 | some b=>lF c J 1 0 b (mf fn.ntmps ds) fun o=>match o with
  | .nrm δ=>jG c δ c.res fun rs=>ly δ c.ios fun us=>usK us (some (.ret rs us))
  | .ext _ _=>none
  | .ret rs us=>some (.ret rs us)
def okJ (c:Cx) (J:List (Nat × List Nat)):Bool:=J.all fun p=>jF c.K p.2
theorem Ar {c:Cx}:∀{J:List (Nat × List Nat)} {p:Nat} {hl:List Nat},okJ c J=true→cb J p=some hl→jF c.K hl=true
 | [],_,_,_,h=>by cases h
 | (q,l)::J,p,hl,hJ,h=>by
  unfold okJ at hJ;rw [Fz,EP] at hJ;simp only [cb] at h;split at h
  ·cases h
   exact hJ.1
  ·exact Ar (J:=J) hJ.2 h
section
variable {P:Program} {c:Cx} {B:Nat} {X:Nat→Prop} {w0:World} {F0 F:Nat→Prop} {O:Nat→Option (Nat × Nat)} {a:Act} {w:World} {δ:List D}
theorem pM {V:Nat→Value} {J:List (Nat × List Nat)} {p:Nat} {b:Code} {bid:Nat} {hl xl:List Nat} (h1:jF c.K hl=true) (h2:jF c.K xl=true)
  (ih:∀(F:Nat→Prop) (O:Nat→Option (Nat × Nat)) (a:Act) (w:World) (δ:List D),Inv c B X w0 F0 F O a w δ→IoV c V a→∀(k:Out→Option Out) (r:Out),lF c J p bid b δ k=some r→∀Q,(∀e a w,zE c B X w0 F0 V k r e a w→Q e a w)→b.wp P Q a w)
  {k:Out→Option Out} {r:Out} {Q:Exit→Act→World→Prop} (hQ:∀e a w,zE c B X w0 F0 V k r e a w→Q e a w) {o:Out}
  (ho:bO o (fun i s=>fJ (gm c.K) xl s fun δ=>k (.ext i δ)) (fun x y=>k (.ret x y))=some r):∀(n:Nat) (F:Nat→Prop) (O:Nat→Option (Nat × Nat)) (a:Act) (w:World) (δ:List D),Inv c B X w0 F0 F O a w δ→IoV c V a →
  iter (fun s=>fJ (gm c.K) hl s fun δ=>lF c J p bid b δ (bG hl xl)) n (ae δ hl)=some o→Code.rounds P b Q n a w
 | 0,_,_,_,_,_,_,_,h=>by cases h
 | n+1,F,O,a,w,δ,hI,hV,h=>by
  simp only [iter,iY] at h;rw [rounds_succ];have hI':=hI.carry h1;cases hb:lF c J p bid b (carry (gm c.K) hl δ) (bG hl xl) with
  | none=>rw [hb] at h;cases h
  | some ob =>
   rw [hb] at h;refine ih F O a w _ hI' hV _ ob hb _ (fun e a' w' hp=>?_)
   cases ob with
   | nrm s' =>
    simp only at h;cases e with
    | normal =>
     obtain⟨⟨F',O',δ',g1,g2⟩,g3⟩:=hp;simp only [bG,bg,EQ,Out.nrm.injEq] at g2;rw [←g2] at h;exact pM h1 h2 ih hQ ho n F' O' a' w' δ' g1 g3 h
    | exit i =>
     obtain⟨⟨F',O',δ',g1,g2⟩,g3⟩:=hp;simp [bG,bg] at g2
    | ret =>
     obtain⟨⟨F',O',δ',g1,g2⟩,g3⟩:=hp;obtain⟨rs,_,_,g4⟩:=gF g2;simp [bG] at g4
    | _=>exact hp.elim
   | ext i l =>
    simp only [EQ] at h;subst h;cases e with
    | normal =>
     obtain⟨⟨F',O',δ',g1,g2⟩,g3⟩:=hp;simp [bG,bg] at g2
    | exit j =>
     obtain⟨⟨F',O',δ',g1,g2⟩,g3⟩:=hp;simp only [bG,bg,EQ,Out.ext.injEq] at g2;obtain⟨rfl,rfl⟩:=g2;simp only [bO,iY] at ho;exact hQ (.exit j) _ _ ⟨⟨F',O',_,g1.carry h2,ho⟩,g3⟩
    | ret =>
     obtain⟨⟨F',O',δ',g1,g2⟩,g3⟩:=hp;obtain⟨rs,_,_,g4⟩:=gF g2;simp [bG] at g4
    | _=>exact hp.elim
   | ret x y =>
    simp only [EQ] at h;subst h;cases e with
    | normal =>
     obtain⟨⟨F',O',δ',g1,g2⟩,g3⟩:=hp;simp [bG,bg] at g2
    | exit j =>
     obtain⟨⟨F',O',δ',g1,g2⟩,g3⟩:=hp;simp [bG,bg] at g2
    | ret =>
     obtain⟨⟨F',O',δ',g1,g2⟩,g3⟩:=hp;obtain⟨rs,g5,g6,g4⟩:=gF g2;simp only [bG,EQ,Out.ret.injEq] at g4;obtain⟨rfl,rfl⟩:=g4;exact hQ .ret _ _ ⟨⟨F',O',δ',g1,rP g5 g6 ho⟩,g3⟩
    | _=>exact hp.elim
theorem dH (hT:okT P c.T=true) (hS:∀f S,cb c.S f=some S→ay c.G P f S) (hm:P.follows .mixedOrders=true) {V:Nat→Value} {J:List (Nat × List Nat)} (hJ:okJ c J=true):∀(b:Code) (p bid:Nat),cn c bid b=true→∀(F:Nat→Prop) (O:Nat→Option (Nat × Nat)) (a:Act) (w:World) (δ:List D),
  Inv c B X w0 F0 F O a w δ→IoV c V a→∀(k:Out→Option Out) (r:Out),lF c J p bid b δ k=some r→∀Q,(∀e a w,zE c B X w0 F0 V k r e a w→Q e a w)→b.wp P Q a w
 | .skip,p,bid,_,F,O,a,w,δ,hI,hV,k,r,hg,Q,hQ=>wp_skip (hQ _ _ _ ⟨⟨F,O,δ,hI,hg⟩,hV⟩)
 | .region id ops d,p,bid,hok,F,O,a,w,δ,hI,hV,k,r,hg,Q,hQ=>by
  simp only [cn,EP,Fp] at hok;have hq:∀a w,eK c B X w0 F0 V (fun δ=>k (.nrm δ)) r a w→Q .normal a w:=fun a w h=>hQ _ _ _ h
  cases d
  ·exact wp_region_list (nI hT hS hq ops.toList hok.1 F O a w δ hI hV hg)
  ·exact uq hT hS (by simpa using hok.2) hm hq hok.1 hI hV hg id
 | .seq x y,p,bid,hok,F,O,a,w,δ,hI,hV,k,r,hg,Q,hQ=>by
  simp only [cn,EP] at hok;simp only [lF] at hg;cases hH:cb J p with
  | none =>
   rw [hH] at hg;refine wp_seq (dH hT hS hm hJ x _ bid hok.1 F O a w δ hI hV _ r hg _ (fun e a' w' hp=>?_))
   cases e with
   | normal =>
    obtain⟨⟨F',O',δ',hI',hk'⟩,hV'⟩:=hp;exact dH hT hS hm hJ y _ bid hok.2 F' O' a' w' δ' hI' hV' k r hk' Q hQ
   | exit id=>exact hQ _ _ _ hp
   | ret=>exact hQ _ _ _ hp
   | _=>exact hp.elim
  | some hl =>
   rw [hH] at hg;simp only [yt] at hg;have hlive:=Ar hJ hH;refine wp_seq (dH hT hS hm hJ x _ bid hok.1 F O a w δ hI hV _ r hg _ (fun e a' w' hp=>?_))
   cases e with
   | normal =>
    obtain⟨⟨F',O',δ',hI',hk'⟩,hV'⟩:=hp;simp only [CI,bg,iY] at hk';exact dH hT hS hm hJ y _ bid hok.2 F' O' a' w' _ (hI'.carry hlive) hV' k r hk' Q hQ
   | exit id=>exact hQ _ _ _ hp
   | ret=>exact hQ _ _ _ hp
   | _=>exact hp.elim
 | .cond x t e,p,bid,hok,F,O,a,w,δ,hI,hV,k,r,hg,Q,hQ=>by
  simp only [cn,EP] at hok;obtain⟨⟨hlv,hok1⟩,hok2⟩:=hok;have hop:=hI.opd (aO.1 hlv);have key:ifD (opD δ x) (lF c J (Fe 2 p) bid t δ k) (lF c J (FG (Fe 2 p) 1) bid e δ k)=some r:=by
   simp only [lF] at hg;cases x with
   | tmp s=>simpa only [opC,cL,opD] using hg
   | const v=>simpa only [opC,opD] using hg
   | func f=>simpa only [opC,opD] using hg
   | global g=>simp [opC] at hg
  unfold ifD at key;split at key
  ·rename_i hd
   rw [hd] at hop;exact wp_cond_true (aE hop).1 (dH hT hS hm hJ t _ bid hok1 F O a w δ hI hV k r key Q hQ)
  ·rename_i hd
   rw [hd] at hop;exact wp_cond_false (aE hop).1 (dH hT hS hm hJ e _ bid hok2 F O a w δ hI hV k r key Q hQ)
  ·cases key
 | .block id b,p,bid,hok,F,O,a,w,δ,hI,hV,k,r,hg,Q,hQ=>by
  simp only [cn] at hok;refine wp_block (dH hT hS hm hJ b _ id hok F O a w δ hI hV _ r hg _ (fun e a' w' hp=>?_))
  cases e with
  | normal=>exact hQ .normal _ _ hp
  | exit i =>
   simp only [Exit.inBlock];have hp':eK c B X w0 F0 V (fun δ=>wu id (.ext i δ) k) r a' w':=hp;split
   ·rename_i hi
    refine hQ .normal _ _ (gg hp' fun δ F O _ h=>?_)
    simp only [wu] at h;rw [aw.2 (by simpa using hi)] at h;exact h
   ·rename_i hi
    refine hQ (.exit i) _ _ (gg hp' fun δ F O _ h=>?_)
    simp only [wu] at h;cases hb:Fc i id
    ·rw [hb] at h;exact h
    ·exact absurd (by simpa using aw.1 hb) hi
  | ret=>exact hQ .ret _ _ hp
  | _=>exact hp.elim
 | .loop b,p,bid,hok,F,O,a,w,δ,hI,hV,k,r,hg,Q,hQ=>by
  simp only [cn,EP] at hok;obtain⟨hok1,hok2⟩:=hok;simp only [lF] at hg;cases hH:cb c.H bid with
  | none=>rw [hH] at hg;cases hg
  | some hx =>
   obtain⟨hl,xl⟩:=hx;rw [hH] at hg hok2;simp only [EP] at hok2;simp only [bg] at hg;obtain⟨o',h1,h2⟩:=ES.1 hg;unfold aD at h1;split at h1
   case isFalse=>cases h1
   rename_i hex;refine wp_loop_rounds (Fr hex) ?_
   refine pM (hl:=hl) (xl:=xl) hok2.1 hok2.2 (fun F O a w δ hI hV k r hg Q hQ=>dH hT hS hm hJ b _ bid hok1 F O a w δ hI hV k r hg Q hQ) hQ h2 _ F O a w δ hI hV h1
 | .exit id,p,bid,_,F,O,a,w,δ,hI,hV,k,r,hg,Q,hQ=>wp_exit (hQ _ _ _ ⟨⟨F,O,δ,hI,hg⟩,hV⟩)
 | .ret,p,bid,_,F,O,a,w,δ,hI,hV,k,r,hg,Q,hQ=>wp_ret (hQ _ _ _ ⟨⟨F,O,δ,hI,hg⟩,hV⟩)
 | .label _,_,_,hok,_,_,_,_,_,_,_,_,_,_,_,_=>by simp [cn] at hok
 | .goto _,_,_,hok,_,_,_,_,_,_,_,_,_,_,_,_=>by simp [cn] at hok
 | .scope _,_,_,hok,_,_,_,_,_,_,_,_,_,_,_,_=>by simp [cn] at hok
theorem yZ (hT:okT P c.T=true) (hS:∀f S,cb c.S f=some S→ay c.G P f S) (hm:P.follows .mixedOrders=true) {J:List (Nat × List Nat)} (hJ:okJ c J=true) {f:FuncId} {fn:Func} (hf:P.funcs[f]?=some fn) {pm rm:List Kd} (hok:xO c fn pm rm=true) (hres:c.res=fn.results.toList)
  {ds rs us:List D} (hd:rb c J fn ds=some (.ret rs us)) {args:Array Value} {w:World} {F:Nat→Prop} {ow:Nat→Option Nat} (hgl:gOk c.G w F) (ha:ed w F ow 0 pm ds args.toList) (hF:∀b,F b→b<w.heap.size∧ow b=none) (hO:∀b i,ow b=some i→b<w.heap.size) :
  Calls P f args w fun e w'=>∃v,e = .returned v∧∃F' R vs,v=jH vs∧CallPost {pm:=pm,rm:=rm,f:=rb c J fn} args rs us w F ow F' R vs w':=by
 unfold xO at hok;simp only [EP,decide_eq_true_eq] at hok;obtain⟨⟨⟨⟨⟨hcode,hlenK⟩,hpre⟩,hpm⟩,hokr⟩,hios⟩:=hok;rw [aw,ic] at hlenK;obtain⟨hpl,hpn⟩:=pT hpre;obtain⟨hdl,hal,hargs⟩:=pQ pm ds args.toList 0 ha;have hasz:args.size=pm.length:=by simpa using hal
 unfold rb at hd;cases hb:fn.body with
 | none=>rw [hb] at hd;cases hd
 | some b =>
  rw [hb] at hd hcode;simp only at hd hcode;refine calls_of_wp hf hb ?_
  have hav:∀s,s<pm.length→av ({tmps:=args++EV (fn.ntmps - args.size) undef,defers:=[]}:Act) s=args.toList.getD s undef:=fun s hs=>by
   have h1:s<args.size:=by omega
   simp only [av,Fk,ET,Fw];rw [Fl h1]
  have hinit:Inv c w.heap.size (fun b=>ow b≠none) w F F (fun b=>(ow b).map fun i=>(i,0)) {tmps:=args++EV (fn.ntmps - args.size) undef,defers:=[]} w (mf fn.ntmps ds):=by
   refine⟨by simp;omega,by rw [mP,hlenK],rfl,fun s=>?_,fun b hb=>⟨(hF b hb).1,by simp [(hF b hb).2]⟩,fun b p hp=>?_,fun _ h=>h,fun _ h=>.inl h,EZ _,rfl,rfl,rfl,fun _ _ _=>rfl,hgl⟩
   ·unfold qp
    rw [mE _ _ _ (by rw [hdl];omega)];by_cases hs:s<pm.length
    ·rw [hpn s hs,hav s hs]
     rcases hargs s hs with hbad | harg
     ·exact .inl hbad
     refine .inr ?_
     have hlv:∀lv,lv≠1→∀b,FB F 0 lv b→FB F w.heap.size lv b:=fun lv h1 b hb=>by
      match lv,h1 with
      | 0,_=>exact hb
      | _+2,_=>exact hb
     rcases oU hpm s hs with ⟨lv,hk,h1⟩ | ⟨z,lv,hk,h1⟩ | ⟨n,lv,hk,h1⟩
     ·rw [hk] at harg ⊢
      exact .inr (bh (hlv lv h1) (fun _ _=>rfl) harg)
     ·rw [hk] at harg ⊢
      exact .inr (co (hlv lv h1) (fun _ _=>rfl) (fun g _ hg=>⟨⟨by simp only [Fb] at hg;simp [hg],fun h=>by cases h⟩,rfl⟩) harg)
     ·rw [hk] at harg ⊢
      exact .inr (iP (hlv lv h1) (fun _ _=>rfl) (fun g _ hg=>⟨⟨by simp only [Fb] at hg;simp [hg],fun h=>by cases h⟩,rfl⟩) harg)
    ·refine .inl ?_
     rw [cO,ET,Fx (by omega)];rfl
   ·obtain⟨i,hi,rfl⟩:=Fg.1 hp
    exact⟨hO b i hi,.inr (by rw [hi];simp)⟩
  refine dH hT hS hm hJ b 1 0 hcode F _ _ w _ hinit (V:=av {tmps:=args++EV (fn.ntmps - args.size) undef,defers:=[]}) (fun _ _=>rfl) _ _ hd _ (fun e a' w' hp=>?_)
  have fin:eK c w.heap.size (fun b=>ow b≠none) w F (av {tmps:=args++EV (fn.ntmps - args.size) undef,defers:=[]}) (fun δ=>xo c δ some) (.ret rs us) a' w'→a'.defers=[]∧∃v,(results fn a'.tmps).run P w' = .ok v w'∧∃v',Ending.returned v = .returned v'∧∃F' R vs,v'=jH vs∧CallPost {pm:=pm,rm:=rm,f:=rb c J fn} args rs us w F ow F' R vs w':=by
   rintro⟨⟨F',O',δ',hI',hk⟩,hV'⟩;obtain⟨rs',h1,h2,h3⟩:=gF hk;simp only [EQ,Out.ret.injEq] at h3;obtain⟨rfl,rfl⟩:=h3;obtain⟨vs,g1,g2,g3,g4⟩:=pD (P:=P) hT hI' c.res rm rs' hokr h1;refine⟨hI'.df,jH vs,?_,_,rfl,F',fun b=>if w.heap.size≤b then(match O' b with
    | some (t,0)=>pj c.res t 0
    | _=>none) else none,vs,rfl,?_⟩
   ·have hrun:(fn.results.mapM (lf a'.tmps)).run P w' = .ok vs.toArray w':=by
     rw [Array.mapM_eq_mapM_toList,←hres];simp [g1]
    have hrw:results fn a'.tmps=(do
      let vs ←fn.results.mapM (lf a'.tmps)
      pure (if h:vs.size=1 then vs[0] else .tuple vs)):=by
     unfold results;congr 1
    rw [hrw];simp only [Sem.run_bind,hrun,FD,Sem.run_pure];congr 1
    rcases vs with _ | ⟨y,_ | ⟨y',vs⟩⟩
    ·simp [jH]
    ·simp [jH]
    ·simp [jH]
   ·refine⟨hI'.os,hI'.tape,hI'.output,hI'.bb,fun b hb ho=>hI'.keep b hb (by simp [ho]),hI'.f0,fun b hb=>⟨hI'.fn b hb,(hI'.fl b hb).1,by simp only [(hI'.fl b hb).2];split<;>rfl⟩,fun b j hj=>?_,g2,g3,fun j=>?_,?_⟩
    ·split at hj
     case isFalse=>cases hj
     rename_i hB;refine⟨hB,?_⟩
     split at hj
     ·rename_i t he;exact(hI'.ol b _ he).1
     ·cases hj
    ·refine iI (fun hk g hg=>?_) (g4 j)
     obtain⟨z,lv,hk⟩:=hk;obtain⟨e1,t,e2,e3⟩:=hg;rw [if_pos e1];simp only [e3];have:=(kq c.res rm hokr j t 0 z lv hk e2).1;simpa using this
    ·rw [hios]
     refine uP pm args.toList 0 hal (fun j hj hio=>?_)
     rw [Fb];have hkj:=hpn j hj;have hbj:nth δ' j ≠ .bad:=by
      refine h2 _ ?_
      rw [hios,kG];exact FA (by simpa using qJ pm 0 j hj hio)
     have havj:av a' j=args.toList.getD j undef:=(hV' j (by rw [hkj];exact hio)).trans (hav j hj);have hlv:∀lv,lv≠1→∀b,FB F' w.heap.size lv b→FB F' 0 lv b:=fun lv h1 b hb=>by
      match lv,h1 with
      | 0,_=>exact hb
      | _+2,_=>exact hb
     refine⟨hbj,.inr ?_⟩
     rcases oU hpm j hj with ⟨lv,hk,h1⟩ | ⟨z,lv,hk,h1⟩ | ⟨n,lv,hk,h1⟩
     ·rw [hk] at hio;cases hio
     ·have h5:=hI'.own (hkj.trans hk) hbj
      rw [havj] at h5;rw [hk];exact co (hlv lv h1) (fun _ _=>rfl) (fun _ _ _=>⟨trivial,rfl⟩) h5
     ·have h5:=hI'.box (hkj.trans hk) hbj
      rw [havj] at h5;rw [hk];exact iP (hlv lv h1) (fun _ _=>rfl) (fun _ _ _=>⟨trivial,rfl⟩) h5
  cases e with
  | normal=>exact fin hp
  | exit i =>
   obtain⟨⟨_,_,_,_,h⟩,_⟩:=hp;cases h
  | ret =>
   refine fin (gg hp fun δ F O _ h=>?_)
   obtain⟨rs',h1,h2,h3⟩:=gF h;exact rP h1 h2 h3
  | _=>exact hp.elim
theorem zW (hT:okT P c.T=true) (hS:∀f S,cb c.S f=some S→ay c.G P f S) (hm:P.follows .mixedOrders=true) {J:List (Nat × List Nat)} (hJ:okJ c J=true) {f:FuncId} {fn:Func} (hf:P.funcs[f]?=some fn) (hname:(fn.name=="runtime.NumGoroutine")=false) {pm rm:List Kd} (hok:xO c fn pm rm=true) (hres:c.res=fn.results.toList) :
  ay c.G P f {pm:=pm,rm:=rm,f:=rb c J fn}:=by
 intro ds rs us hd args w F ow hgl ha hF hO o a next Q hn
 have hbody:∃b,fn.body=some b:=by
  have hd':rb c J fn ds=some (.ret rs us):=hd;unfold rb at hd';cases hb:fn.body with
  | none=>rw [hb] at hd';cases hd'
  | some b=>exact⟨b,rfl⟩
 obtain⟨b,hb⟩:=hbody;have hrun:(callFunc f args).run P w = .ok (.enter f args) w:=by
  have h1:¬fn.name="runtime.NumGoroutine":=by simpa using hname
  simp [callFunc,hf,h1,hb]
 rw [hrun,Fh];refine Fo (yZ hT hS hm hJ hf hok hres hd hgl ha hF hO) (fun e w' he=>?_)
 obtain⟨v,rfl,F',R,vs,h1,h2⟩:=he;exact hn v w' ⟨F',R,vs,h1,h2⟩
end
theorem Ao {f:(List D→Option Out)→Option Out} {k:List D→Option Out} {r:Option Out} (p:List D→Prop) (hk:∀s,p s→k s=r) (hf:∀j:List D→Option Out,(∀s,p s→j s=r)→f j=r):yt f k=r:=hf k hk
end Go.V

namespace Go.Proofs.YtioabeglbjlndaaDoor
open Go.V
set_option maxRecDepth 100000
theorem nw:Tryd.prog.follows .mixedOrders=true:=by kernel_rfl
theorem aC {c:Cx} {S:FS} {f:FuncId} {fn:Func} (hS:∀f S,cb c.S f=some S→ay c.G Tryd.prog f S) (hf:Tryd.prog.funcs[f]?=some fn) (hres:c.res=fn.results.toList) (hF:S.f=bv c fn)
  (hb:(okT Tryd.prog c.T&&(!(fn.name=="runtime.NumGoroutine")&&xO c fn S.pm S.rm))=true):ay c.G Tryd.prog f S:=by
 obtain⟨pm,rm,g⟩:=S;cases hF;simp only [EP,Fm] at hb;exact BZ hb.1 hS nw hf hb.2.1 hb.2.2 hres
@[reducible] def ty3:TI:={n:=1,zero:=[.v (.int .i64 0)],ik:=some .i64}
@[reducible] def ty5:TI:={n:=1,zero:=[.v (.int .u8 0)],ik:=some .u8}
@[reducible] def ty9:TI:={n:=1,zero:=[.v (.string ⟨#[]⟩)],str:=true}
@[reducible] def yU:TI:={n:=1,zero:=[.arr 1 []],elem:=5,ez:=1,eb:=1}
@[reducible] def fC:TI:={n:=1,zero:=[.arr 1 []],elem:=9,ez:=1,eb:=16}
@[reducible] def jd:TI:={n:=1,zero:=[.arr 1 []],elem:=3,ez:=1,eb:=8}
@[reducible] def CY:TI:={n:=1,zero:=[.v (.int .u64 0)],ik:=some .u64}
@[reducible] def Cz:TI:={agg:=true,n:=3,zero:=[.arr 1 [],.v (.int .i64 0),.v (.int .u64 0)],fs:=[(0,22),(1,3),(2,48)]}
@[reducible] def EK:TI:={n:=1,zero:=[.mp []],mp:=true}
@[reducible] def jA:Cx:={K:=[.box 3 2 true,.no,Y,Y,Yr 0,Yr 0,Yr 0,Y,Yr 0,Yr 0,Yr 0,Yc,Y,Y,Yr 0,Yr 0,Yr 0,Yc,Yr 0,Yr 0,Yr 0,Y,Yc,Y,Y,Yr 0,Yr 0,Yr 0,Y,Y,Yr 0,Yr 0,Yr 0,Yr 0,Yr 0,Yr 0,Y,Y,Y,Y,Y,Y,Yr 0,Yr 0,Yr 0,Yr 0,Yr 0,Y,Yr 0,Yr 0,Yr 0,Yc,Y,Y,Y,Yr 0,Yr 0,Yr 0,Y,Y,Y,Y],T:=[(3,ty3),(5,ty5),(22,yU),(48,CY),(50,Cz)],S:=[],H:=[],res:=[.tmp 2],ios:=[0],G:=gl0}
def bI:List D→Option Out:=bv jA Tryd.f69
@[reducible] def jy:FS:={pm:=[.box 3 2 true],rm:=[Y],f:=bI}
theorem pu:ay gl0 Tryd.prog 69 jy:=aC (c:=jA) ao Tryd.func69 rfl rfl (by kernel_rfl)
@[reducible] def jq:Cx:={K:=[.box 3 2 true,Y,.no,.no,Y,Y,Y,Y,Yr 0,Y,Y,Y,Y,Y,Yr 0,Y,Y,Y,Y,Y],T:=[(3,ty3)],S:=[(69,jy)],H:=[],res:=[.tmp 4],ios:=[0],G:=gl0}
def au:List D→Option Out:=bv jq Tryd.f49
@[reducible] def aW:FS:={pm:=[.box 3 2 true,Y],rm:=[Y],f:=au}
theorem bq:ay gl0 Tryd.prog 49 aW:=aC (c:=jq) (ac pu ao) Tryd.func49 rfl rfl (by kernel_rfl)
@[reducible] def kv:Cx:={K:=[.box 3 2 true,Y,.no,.no,Y,Yr 0,Y,Y,Y],T:=[(3,ty3)],S:=[(49,aW)],H:=[],res:=[.tmp 4],ios:=[0],G:=gl0}
def aV:List D→Option Out:=bv kv Tryd.f50
@[reducible] def dz:FS:={pm:=[.box 3 2 true,Y],rm:=[Y],f:=aV}
theorem ex:ay gl0 Tryd.prog 50 dz:=aC (c:=kv) (ac bq ao) Tryd.func50 rfl rfl (by kernel_rfl)
@[reducible] def lp:Cx:={K:=[.box 3 2 true,Yc,.no,.no,Y,Yc,Yr 0,Yc,Y,Y,Yc,Y],T:=[(9,ty9),(23,fC)],S:=[(49,aW)],H:=[],res:=[.tmp 4],ios:=[0],G:=gl0}
def bf:List D→Option Out:=bv lp Tryd.f52
@[reducible] def cP:FS:={pm:=[.box 3 2 true,Yc],rm:=[Y],f:=bf}
theorem dK:ay gl0 Tryd.prog 52 cP:=aC (c:=lp) (ac bq ao) Tryd.func52 rfl rfl (by kernel_rfl)
@[reducible] def jf:Cx:={K:=[.box 3 2 true,.no,Y,Y,Y,Yr 0,Y,Y,Y,Y,Y,Y,Y,Yr 0,Yb,Y,Y,Y],T:=[(3,ty3),(9,ty9),(23,fC)],S:=[(49,aW),(52,cP)],H:=[(0,([0,3,4],[0,3]))],res:=[.tmp 2],ios:=[0],G:=gl0}
def cg:List D→Option Out:=bv jf Tryd.f70
@[reducible] def jj:FS:={pm:=[.box 3 2 true],rm:=[Y],f:=cg}
theorem pi:ay gl0 Tryd.prog 70 jj:=aC (c:=jf) (ac bq (ac dK ao)) Tryd.func70 rfl rfl (by kernel_rfl)
@[reducible] def gH:Cx:={K:=[.box 3 2 true,.no,Y,Y,Y,Yr 0,Y,Y,Y,Yr 0,Yb,Y,Y,Y,Yr 0,Y,Y,Y,Y,Y,Y,Y,Y,Y,Y,Y,Yr 0,Y,Y,Yr 0,Y],T:=[(3,ty3),(9,ty9),(23,fC)],S:=[(49,aW),(52,cP),(70,jj)],H:=[(1,([0,3,4],[0,3]))],res:=[.tmp 2],ios:=[0],G:=gl0}
def cR:List D→Option Out:=bv gH Tryd.f51
@[reducible] def gN:FS:={pm:=[.box 3 2 true],rm:=[Y],f:=cR}
theorem lY:ay gl0 Tryd.prog 51 gN:=aC (c:=gH) (ac bq (ac dK (ac pi ao))) Tryd.func51 rfl rfl (by kernel_rfl)
@[reducible] def gb:Cx:={K:=[.box 3 2 true,.no,Y,Y,Y,Yr 0,Y,Yr 0,Y,Yr 0,Y,Y,Y,Y,Y,Y,Y,Yr 0,Yb,Y,Y,Y],T:=[(3,ty3),(9,ty9),(23,fC)],S:=[(49,aW),(50,dz),(51,gN),(52,cP)],H:=[(0,([0,3,4],[0,3]))],res:=[.tmp 2],ios:=[0],G:=gl0}
def cJ:List D→Option Out:=bv gb Tryd.f33
@[reducible] def fY:FS:={pm:=[.box 3 2 true],rm:=[Y],f:=cJ}
theorem lD:ay gl0 Tryd.prog 33 fY:=aC (c:=gb) (ac bq (ac ex (ac lY (ac dK ao)))) Tryd.func33 rfl rfl (by kernel_rfl)
@[reducible] def gK:Cx:={K:=[.box 3 2 true,.no,Y,Y,Y,Yr 0,Y,Y,Y,Y,Y,Y,Y,Yr 0,Yb,Y,Yr 0,Yb,Y,Y,Y,Yr 0,Y,Y,Y,Yr 0,Yb,Y,Y,Y,Y,Y,Yr 0,Yb,Y,Y],T:=[(3,ty3),(9,ty9),(23,fC)],S:=[(49,aW),(52,cP)],H:=[(0,([0,3,4],[0,3]))],res:=[.tmp 2],ios:=[0],G:=gl0}
def bE:List D→Option Out:=bv gK Tryd.f53
@[reducible] def gY:FS:={pm:=[.box 3 2 true],rm:=[Y],f:=bE}
theorem lZ:ay gl0 Tryd.prog 53 gY:=aC (c:=gK) (ac bq (ac dK ao)) Tryd.func53 rfl rfl (by kernel_rfl)
@[reducible] def ga:Cx:={K:=[.box 3 2 true,.no,Yo 1 0,Yo 1 0,Y,Yr 0,Y,Yr 0,Y,Yr 0,Y,Y,.via 3,Y,Y,Y,Yo 1 0,Yr 0,Y,Yb,Yo 1 0,Yo 1 0],T:=[(3,ty3),(9,ty9),(23,fC)],S:=[(49,aW),(50,dz),(53,gY)],H:=[(0,([0,3,4],[0,3]))],res:=[.tmp 2],ios:=[0],G:=gl0}
def cI:List D→Option Out:=bv ga Tryd.f34
@[reducible] def fX:FS:={pm:=[.box 3 2 true],rm:=[Yo 1 0],f:=cI}
theorem lz:ay gl0 Tryd.prog 34 fX:=aC (c:=ga) (ac bq (ac ex (ac lZ ao))) Tryd.func34 rfl rfl (by kernel_rfl)
@[reducible] def fw:Cx:={K:=[.box 3 2 true,Y,.no,.no,Y,Y,Y,Y,.itr,.tup [Y,Y,Y],Y,Y,Y,Y,Y,Yr 0,Y,Y,Y,Y,Y,Y,Y,Y,Y,Y,Y,Yr 0,Y,Yr 0,Yb,Y,Y],T:=[(3,ty3),(9,ty9),(23,fC)],S:=[(50,dz),(52,cP)],H:=[(0,([0,1,5,8],[0,5]))],res:=[.tmp 4],ios:=[0],G:=gl0}
def aJ:List D→Option Out:=bv fw Tryd.f54
@[reducible] def fD:FS:={pm:=[.box 3 2 true,Y],rm:=[Y],f:=aJ}
theorem kR:ay gl0 Tryd.prog 54 fD:=aC (c:=fw) (ac ex (ac dK ao)) Tryd.func54 rfl rfl (by kernel_rfl)
@[reducible] def fo:Cx:={K:=[.box 3 2 true,Y,.no,.no,Yo 1 0,Yo 1 0,Y,Y,Yr 0,Y,Y,Y,Y,Y,Y,Yo 1 0,Yr 0,Y,Y,Yb,Yo 1 0,Yr 0,Y,Yr 0,Y,.via 5,Y,Y,Yr 0,Y,Y,Y,Y,Y,Y,Y,Yo 1 0,Yr 0,Y,Y,Y,Y,Y,Y,Y,Y,Yb,Y,Y,Yb,Yo 1 0,Yo 1 0],T:=[(3,ty3),(5,ty5),(9,ty9),(22,yU),(23,fC)],S:=[(49,aW),(50,dz),(54,fD)],H:=[(0,([0,5,6,7],[0,5]))],res:=[.tmp 4],ios:=[0],G:=gl0}
def cd:List D→Option Out:=bv fo Tryd.f35
@[reducible] def fh:FS:={pm:=[.box 3 2 true,Y],rm:=[Yo 1 0],f:=cd}
theorem kj:ay gl0 Tryd.prog 35 fh:=aC (c:=fo) (ac bq (ac ex (ac kR ao))) Tryd.func35 rfl rfl (by kernel_rfl)
@[reducible] def fm:Cx:={K:=[Yc,.no,Yo 1 0,Yo 1 0,Y,Yr 9,Y,Yc,Yc,.box 3 2 false,Yr 9,Y,Yr 9,Yo 1 0,Yr 9,Y,Yo 1 0,Y],T:=[(3,ty3),(22,yU),(23,fC),(48,CY),(50,Cz)],S:=[(33,fY),(34,fX),(35,fh)],H:=[],res:=[.tmp 2,.tmp 3,.tmp 4],ios:=[],G:=gl0}
def bt:List D→Option Out:=bv fm Tryd.f21
@[reducible] def cf:FS:={pm:=[Yc],rm:=[Yo 1 0,Yo 1 0,Y],f:=bt}
theorem dy:ay gl0 Tryd.prog 21 cf:=aC (c:=fm) (ac lD (ac lz (ac kj ao))) Tryd.func21 rfl rfl (by kernel_rfl)
@[reducible] def fx:Cx:={K:=[Yc,.no,Yo 1 0,Yo 1 0,Y,Yc,.tup [Yo 1 0,Yo 1 0,Y],Yo 1 0,Yo 1 0,Y],T:=[(23,fC)],S:=[(21,cf)],H:=[],res:=[.tmp 2,.tmp 3,.tmp 4],ios:=[],G:=gl0}
def cy:List D→Option Out:=bv fx Tryd.f4
@[reducible] def fM:FS:={pm:=[Yc],rm:=[Yo 1 0,Yo 1 0,Y],f:=cy}
theorem kO:ay gl0 Tryd.prog 4 fM:=aC (c:=fx) (ac dy ao) Tryd.func4 rfl rfl (by kernel_rfl)
@[reducible] def lV:Cx:={K:=[Y,.no,Y,Y,Y,Y,Y,Y,Y],T:=[(5,ty5)],S:=[],H:=[],res:=[.tmp 2],ios:=[],G:=gl0}
def fR:List D→Option Out:=bv lV Tryd.f75
@[reducible] def lO:FS:={pm:=[Y],rm:=[Y],f:=fR}
theorem sr:ay gl0 Tryd.prog 75 lO:=aC (c:=lV) ao Tryd.func75 rfl rfl (by kernel_rfl)
@[reducible] def nl:Cx:={K:=[Y,Y,Y,.no,.no,.no,Y,Y,Y,Y,Y,Y,Y,Y,Y],T:=[(3,ty3)],S:=[],H:=[],res:=[.tmp 6],ios:=[],G:=gl0}
def cB:List D→Option Out:=bv nl Tryd.f30
@[reducible] def dP:FS:={pm:=[Y,Y,Y],rm:=[Y],f:=cB}
theorem eJ:ay gl0 Tryd.prog 30 dP:=aC (c:=nl) ao Tryd.func30 rfl rfl (by kernel_rfl)
@[reducible] def sY:Cx:={K:=[Yc,.no,Y,Y,.no,Y,Yc,Y,Y,Y,Yc,Y,Y,Y,Y,Y,Y],T:=[(3,ty3),(28,jd)],S:=[],H:=[(0,([3,6,7,8],[3]))],res:=[.tmp 2],ios:=[],G:=gl0}
def kL:List D→Option Out:=bv sY Tryd.f76
@[reducible] def sb:FS:={pm:=[Yc],rm:=[Y],f:=kL}
theorem xK:ay gl0 Tryd.prog 76 sb:=aC (c:=sY) ao Tryd.func76 rfl rfl (by kernel_rfl)
@[reducible] def iA:Cx:={K:=[Y,.no,Y,Yb,Y,Y,Yo 1 0,Y,Y,Yo 1 0,Y,Y,Y,Y,Y,Y,.via 6,Y,Y,Y,Y,Y,Y,Y,Y,.via 6,Y,Yr 6,Y,Y,Y,.via 6,Y,Y,Y,Y,Y,Y,Yr 6,Y,Y,Y,Y,Y,Y,Y,Y,Y,Y,Y,Y,Y,Y,Y,Y,Y,Y,Yo 1 0,Yb,Yo 1 0,Y,.via 6,Y,Y,Y,Y,.via 6,Y,Y,Y],T:=[(3,ty3),(5,ty5),(9,ty9),(28,jd)],S:=[(30,dP),(75,lO),(76,sb)],H:=[(0,([0,5,6,7],[5,6]))],res:=[.tmp 2,.tmp 3,.tmp 4],ios:=[],G:=gl0}
def cE:List D→Option Out:=bv iA Tryd.f63
@[reducible] def fb:FS:={pm:=[Y],rm:=[Y,Yb,Y],f:=cE}
theorem iD:ay gl0 Tryd.prog 63 fb:=aC (c:=iA) (ac eJ (ac sr (ac xK ao))) Tryd.func63 rfl rfl (by kernel_rfl)
@[reducible] def jS:Cx:={K:=[Y,.no,Y,Y,Yb,Y,.tup [Y,Yb,Y],Y,.tup [Y,Yb,Y],Y,Yb,Y,Y],T:=[],S:=[(63,fb)],H:=[],res:=[.tmp 2],ios:=[],G:=gl0}
def ew:List D→Option Out:=bv jS Tryd.f58
@[reducible] def kw:FS:={pm:=[Y],rm:=[Y],f:=ew}
theorem qI:ay gl0 Tryd.prog 58 kw:=aC (c:=jS) (ac iD ao) Tryd.func58 rfl rfl (by kernel_rfl)
@[reducible] def iC:Cx:={K:=[Yc,.no,Y,.no,Y,Yc,Y,Y,Y,Yc,Y,Y,Y,Y,Y,Yc,Y,Y],T:=[(3,ty3),(9,ty9),(23,fC)],S:=[(58,kw)],H:=[(0,([0,5,6,7],[0]))],res:=[.tmp 2],ios:=[],G:=gl0}
def dI:List D→Option Out:=bv iC Tryd.f38
@[reducible] def jb:FS:={pm:=[Yc],rm:=[Y],f:=dI}
theorem om:ay gl0 Tryd.prog 38 jb:=aC (c:=iC) (ac qI ao) Tryd.func38 rfl rfl (by kernel_rfl)
@[reducible] def jv:Cx:={K:=[Y,Y,Y,.no,.no,.no,Y,Y,Y,Y,Y,Y,Y,Y,Y,Y,Y,Y,Y,Y,Y,Y,Y,Y,Y,Y,Y,Y,Y],T:=[(3,ty3),(5,ty5),(9,ty9)],S:=[(30,dP)],H:=[(0,([0,1,2,7],[0,1,2]))],res:=[.tmp 6],ios:=[],G:=gl0}
def cY:List D→Option Out:=bv jv Tryd.f61
@[reducible] def fG:FS:={pm:=[Y,Y,Y],rm:=[Y],f:=cY}
theorem ji:ay gl0 Tryd.prog 61 fG:=aC (c:=jv) (ac eJ ao) Tryd.func61 rfl rfl (by kernel_rfl)
@[reducible] def oC:Cx:={K:=[Y,.no,Y,Y,Y],T:=[],S:=[(71,gR)],H:=[],res:=[.tmp 2],ios:=[],G:=gl0}
def eB:List D→Option Out:=bv oC Tryd.f60
@[reducible] def ip:FS:={pm:=[Y],rm:=[Y],f:=eB}
theorem kP:ay gl0 Tryd.prog 60 ip:=aC (c:=oC) (ac mw ao) Tryd.func60 rfl rfl (by kernel_rfl)
@[reducible] def iQ:Cx:={K:=[Y,.no,Y,.no,Y,Y,Yb,Y,Y,Y,Yb,Y,Y,Y,Y,Y,Y,Y,Y,Y],T:=[(3,ty3),(9,ty9),(23,fC)],S:=[(30,dP),(42,gZ),(60,ip),(61,fG)],H:=[(0,([0,6,7,8],[0]))],res:=[.tmp 2],ios:=[],G:=gl0}
def dG:List D→Option Out:=bv iQ Tryd.f59
@[reducible] def iT:FS:={pm:=[Y],rm:=[Y],f:=dG}
theorem oq:ay gl0 Tryd.prog 59 iT:=aC (c:=iQ) (ac eJ (ac lh (ac kP (ac ji ao)))) Tryd.func59 rfl rfl (by kernel_rfl)
@[reducible] def iL:Cx:={K:=[Yc,Y,.no,.no,Y,Y,Y,Yc,Y,Y,Y,Y,Yc,Y,Y,Y,Y,Y,Y,Y],T:=[(3,ty3),(9,ty9),(23,fC)],S:=[(60,ip)],H:=[(0,([1,7,8,9],[]))],res:=[.tmp 4],ios:=[],G:=gl0}
def cH:List D→Option Out:=bv iL Tryd.f41
@[reducible] def fd:FS:={pm:=[Yc,Y],rm:=[Y],f:=cH}
theorem iH:ay gl0 Tryd.prog 41 fd:=aC (c:=iL) (ac kP ao) Tryd.func41 rfl rfl (by kernel_rfl)
@[reducible] def gV:Cx:={K:=[Yc,.no,Y,Y,Y,Yc,Y,Y,Y,Y,Yc,Y,Y,Y,Y,Y,Yc,Y,Yc,Y,Y,Y,Y,Y,Y,Yc,Y,Y],T:=[(3,ty3),(9,ty9),(23,fC)],S:=[(41,fd),(59,iT),(60,ip)],H:=[(0,([0,5,6,7],[0]))],res:=[.tmp 2],ios:=[],G:=gl0}
def dc:List D→Option Out:=bv gV Tryd.f39
@[reducible] def gL:FS:={pm:=[Yc],rm:=[Y],f:=dc}
theorem mi:ay gl0 Tryd.prog 39 gL:=aC (c:=gV) (ac iH (ac oq (ac kP ao))) Tryd.func39 rfl rfl (by kernel_rfl)
@[reducible] def nz:Cx:={K:=[Y,.no,Y,Y,Y],T:=[],S:=[(61,fG)],H:=[],res:=[.tmp 2],ios:=[],G:=gl0}
def gD:List D→Option Out:=bv nz Tryd.f40
@[reducible] def nq:FS:={pm:=[Y],rm:=[Y],f:=gD}
theorem tu:ay gl0 Tryd.prog 40 nq:=aC (c:=nz) (ac ji ao) Tryd.func40 rfl rfl (by kernel_rfl)
@[reducible] def jh:Cx:={K:=[Yc,Yc,Y,.no,.no,.no,Y,Yc,Y,Y,Yc,Y,Y,Y,Y,Y,Y],T:=[],S:=[(38,jb),(39,gL),(40,nq)],H:=[],res:=[.tmp 6],ios:=[],G:=gl0}
def dT:List D→Option Out:=bv jh Tryd.f24
@[reducible] def jD:FS:={pm:=[Yc,Yc,Y],rm:=[Y],f:=dT}
theorem oZ:ay gl0 Tryd.prog 24 jD:=aC (c:=jh) (ac om (ac mi (ac tu ao))) Tryd.func24 rfl rfl (by kernel_rfl)
@[reducible] def cV:Cx:={K:=[Y,Y,.no,.no,Y,Y,Y,Y,Y,Y,Y,Y,Y,Y,Y,Y,Y,Y],T:=[(3,ty3),(9,ty9)],S:=[],H:=[],res:=[.tmp 4],ios:=[],G:=gl0}
def bp:List D→Option Out:=bv cV Tryd.f77
@[reducible] def cX:FS:={pm:=[Y,Y],rm:=[Y],f:=bp}
theorem fS:ay gl0 Tryd.prog 77 cX:=aC (c:=cV) ao Tryd.func77 rfl rfl (by kernel_rfl)
@[reducible] def hY:Cx:={K:=[Y,Y,.no,.no,Y,Y,Y,Y],T:=[],S:=[(77,cX)],H:=[],res:=[.tmp 4],ios:=[],G:=gl0}
def dr:List D→Option Out:=bv hY Tryd.f64
@[reducible] def hX:FS:={pm:=[Y,Y],rm:=[Y],f:=dr}
theorem mS:ay gl0 Tryd.prog 64 hX:=aC (c:=hY) (ac fS ao) Tryd.func64 rfl rfl (by kernel_rfl)
@[reducible] def lj:Cx:={K:=[Yc,Y,.no,.no,Yo 1 0,Yo 1 0,.no,Y,Y,Yb,Y,Y,Y,Y,Y,Y,Y,Y,Yo 1 0,Yc,Y,Y,Y,Yc,Y,.tup [Y,Yb,Y],Y,.tup [Y,Yb,Y],Y,Yb,Y,Y,.itr,.tup [Y,Y,Y],Y,Y,Y,Y,Y,Y,Y,Y,Yb,Y,Y,Y,Y,Yb,Y,Y,Y,Y,Y,Y,.via 5,Y,Y,Y,.via 5,Y,.via 5,Y,Yr 5,Y,Y,Y,Yr 5,Y,Y,Yo 1 0],T:=[(3,ty3),(9,ty9),(23,fC),(28,jd)],S:=[(30,dP),(63,fb),(64,hX)],H:=[(0,([1,5,19,20,21],[5])),(2,([1,5,8,9,19,20,21,32],[1,5,19,20,21])),(4,([1,5,8,9,11,19,20,21,32,42,43,44],[1,5,8,9,19,20,21,32]))],res:=[.tmp 4],ios:=[],G:=gl0}
def eV:List D→Option Out:=bv lj Tryd.f43
@[reducible] def ll:FS:={pm:=[Yc,Y],rm:=[Yo 1 0],f:=eV}
theorem rq:ay gl0 Tryd.prog 43 ll:=aC (c:=lj) (ac eJ (ac iD (ac mS ao))) Tryd.func43 rfl rfl (by kernel_rfl)
@[reducible] def nC:Cx:={K:=[Yc,Yc,Y,.no,.no,.no,Yo 1 0,.mpo,Y,Y,.no,Y,Y,Y,Yo 1 0,Y,.mpo,Yc,Y,Y,Y,Y,Yc,Y,Yc,Y,Yb,Y,Y,Y,Yb,Y,Y,Y,Y,Y,.via 7,Y,Y,Yc,Y,Yb,Y,Y,Y,Y,Yb,Y,.via 7,Y,Y,Y,Y,Y,Y,Yo 1 0,Y,Y,Y,Y,Y,Y,Y,.via 7,Y,Y,Yo 1 0,Y,Yb,Yo 1 0,Yo 1 0],T:=[(3,ty3),(9,ty9),(23,fC),(28,jd),(58,EK)],S:=[(41,fd),(42,gZ),(43,ll)],H:=[(0,([2,7,9,26,27,28],[2,7])),(2,([2,7,41,42,43],[2,7])),(4,([2,7,14,15],[14]))],res:=[.tmp 6],ios:=[],G:=gl0}
def gE:List D→Option Out:=bv nC Tryd.f25
@[reducible] def nm:FS:={pm:=[Yc,Yc,Y],rm:=[Yo 1 0],f:=gE}
theorem tJ:ay gl0 Tryd.prog 25 nm:=aC (c:=nC) (ac iH (ac lh (ac rq ao))) Tryd.func25 rfl rfl (by kernel_rfl)
@[reducible] def ia:Cx:={K:=[Yc,Yc,Y,.no,.no,.no,Yo 1 0,Y,Yc,Yc,Y,Y,Y,Yo 1 0,Yc,Yc,Y,Yo 1 0],T:=[(3,ty3),(28,jd)],S:=[(24,jD),(25,nm)],H:=[],res:=[.tmp 6,.tmp 7],ios:=[],G:=gl0}
def bA:List D→Option Out:=bv ia Tryd.f7
@[reducible] def cq:FS:={pm:=[Yc,Yc,Y],rm:=[Yo 1 0,Y],f:=bA}
theorem dq:ay gl0 Tryd.prog 7 cq:=aC (c:=ia) (ac oZ (ac tJ ao)) Tryd.func7 rfl rfl (by kernel_rfl)
@[reducible] def iB:Cx:={K:=[Yc,Yc,Y,.no,.no,.no,Yo 1 0,Y,Yo 1 0,Y,Yo 1 0,Y,.no,Y,.tup [Yo 1 0,Y],Yc,Yc,Y,.tup [Yo 1 0,Y],Yo 1 0,Y,Y,Y,Yo 1 0,Yo 1 0,Yo 1 0,Y,Y,Yb,Yb,Y,Y,Y,Yb,Y,Yo 1 0,Y,Y,Y,Y,Yb,Yo 1 0,Y,Y,Yo 1 0],T:=[(3,ty3),(9,ty9),(23,fC),(28,jd)],S:=[(7,cq)],H:=[(0,([2,10,11,29,30,31],[10]))],res:=[.tmp 6,.tmp 7],ios:=[],G:=gl0}
def cG:List D→Option Out:=bv iB Tryd.f5
@[reducible] def fc:FS:={pm:=[Yc,Yc,Y],rm:=[Yo 1 0,Y],f:=cG}
theorem iE:ay gl0 Tryd.prog 5 fc:=aC (c:=iB) (ac dq ao) Tryd.func5 rfl rfl (by kernel_rfl)
@[reducible] def qO:Cx:={K:=[Y,Y,Y,.no,.no,.no,Y,Y,Y,Y,Y,Y,Y,Y,Y],T:=[(3,ty3)],S:=[],H:=[],res:=[.tmp 6],ios:=[],G:=gl0}
def cZ:List D→Option Out:=bv qO Tryd.f31
@[reducible] def fp:FS:={pm:=[Y,Y,Y],rm:=[Y],f:=cZ}
theorem gI:ay gl0 Tryd.prog 31 fp:=aC (c:=qO) ao Tryd.func31 rfl rfl (by kernel_rfl)
@[reducible] def ku:Cx:={K:=[Y,.no,Y,Yo 1 0,Y,Y,Y,Yo 1 0,Y,Yo 1 0,Y,Y,Y,Y,Y,Y,Y,Y,Y,Y,Y,Y,Y,Y,Y,Y,Y,Y,Y,Y,Y,Y,Y,Y,Yo 1 0,Yb,Yo 1 0,Y,Y,Y,Y,Y,Y,Y,Y,Y,Y,Y,Y,.via 7,.via 7,Y,Y,Yr 7,Y,Y,Y,.via 7,.via 7,Y,Y,Y,Y,Y,Y,Y,Yr 7,Y,Yo 1 0,Y,Y,Y,Y,Y,Y],T:=[(3,ty3),(5,ty5),(9,ty9),(28,jd)],S:=[(31,fp)],H:=[(0,([0,5,6,7,8],[5,6,7]))],res:=[.tmp 2,.tmp 3,.tmp 4],ios:=[],G:=gl0}
def dv:List D→Option Out:=bv ku Tryd.f65
@[reducible] def gq:FS:={pm:=[Y],rm:=[Y,Yo 1 0,Y],f:=dv}
theorem jU:ay gl0 Tryd.prog 65 gq:=aC (c:=ku) (ac gI ao) Tryd.func65 rfl rfl (by kernel_rfl)
@[reducible] def jY:Cx:={K:=[Y,.no,Y,Y,Yb,Y,.tup [Y,Yo 1 0,Y],Y,.tup [Y,Yo 1 0,Y],Y,Yb,Y,Y],T:=[],S:=[(65,gq)],H:=[],res:=[.tmp 2],ios:=[],G:=gl0}
def eu:List D→Option Out:=bv jY Tryd.f55
@[reducible] def kc:FS:={pm:=[Y],rm:=[Y],f:=eu}
theorem qe:ay gl0 Tryd.prog 55 kc:=aC (c:=jY) (ac jU ao) Tryd.func55 rfl rfl (by kernel_rfl)
@[reducible] def jQ:Cx:={K:=[Y,Y,.no,.no,Y,Y,Y,Y,Y,Y,Y,Y,Y,Y,Y,Y,Y,Y,Y,Y,Y,Y,Y,Y,Y,Y],T:=[(3,ty3),(5,ty5),(9,ty9)],S:=[(31,fp)],H:=[(0,([0,1,5],[0,1]))],res:=[.tmp 4],ios:=[],G:=gl0}
def eD:List D→Option Out:=bv jQ Tryd.f57
@[reducible] def jW:FS:={pm:=[Y,Y],rm:=[Y],f:=eD}
theorem qo:ay gl0 Tryd.prog 57 jW:=aC (c:=jQ) (ac gI ao) Tryd.func57 rfl rfl (by kernel_rfl)
@[reducible] def nE:Cx:={K:=[Y,.no,Y,Y,Y],T:=[],S:=[(57,jW)],H:=[],res:=[.tmp 2],ios:=[],G:=gl0}
def eI:List D→Option Out:=bv nE Tryd.f37
@[reducible] def jL:FS:={pm:=[Y],rm:=[Y],f:=eI}
theorem nk:ay gl0 Tryd.prog 37 jL:=aC (c:=nE) (ac qo ao) Tryd.func37 rfl rfl (by kernel_rfl)
@[reducible] def nr:Cx:={K:=[Y,.no,Y,Yo 1 0,Y,Y,Yo 1 0,Y,Y,Y,Y,Y,Y,Y,Y,Y,Y,Y,Y,Y,Y,Y,Y,Y,Y,Y,Y,Y,Y,Y,Y,Y,Y,Y,Y,Y,Y,Y,Y,Y,Y,Yo 1 0,Y,Y,Yb,Yo 1 0,Y,Yo 1 0,Y,Y,Y,Y,Y,Y,Y],T:=[(3,ty3),(5,ty5),(9,ty9),(28,jd)],S:=[(37,jL)],H:=[(0,([0,5,6,7],[5,6]))],res:=[.tmp 2,.tmp 3,.tmp 4],ios:=[],G:=gl0}
def dQ:List D→Option Out:=bv nr Tryd.f44
@[reducible] def jK:FS:={pm:=[Y],rm:=[Y,Yo 1 0,Y],f:=dQ}
theorem nu:ay gl0 Tryd.prog 44 jK:=aC (c:=nr) (ac nk ao) Tryd.func44 rfl rfl (by kernel_rfl)
@[reducible] def ny:Cx:={K:=[Yc,Y,.no,.no,Y,.no,Y,Yc,Y,Y,Y,Yc,Y,Y,Y,Y,Y],T:=[(3,ty3),(9,ty9),(23,fC)],S:=[],H:=[(0,([1,7,8,9],[]))],res:=[.tmp 4],ios:=[],G:=gl0}
def gz:List D→Option Out:=bv ny Tryd.f56
@[reducible] def nx:FS:={pm:=[Yc,Y],rm:=[Y],f:=gz}
theorem tz:ay gl0 Tryd.prog 56 nx:=aC (c:=ny) ao Tryd.func56 rfl rfl (by kernel_rfl)
@[reducible] def nh:Cx:={K:=[Yc,Yc,.no,.no,Y,.no,Y,Yo 1 0,.no,Y,Y,Yb,Y,Yc,Y,Y,Y,Yc,Y,Y,Y,Y,Y,Yc,Y,Y,Y,Yc,Y,.tup [Y,Yo 1 0,Y],Y,.tup [Y,Yo 1 0,Y],Y,Yb,Y,Y,Y,Y,.via 7,Y,Y,Y,Yo 1 0,Y,Yb,Yo 1 0,Y,Yc,Y,Y,Y,Yc,Y,Y,Y],T:=[(3,ty3),(9,ty9),(23,fC)],S:=[(44,jK),(55,kc),(56,nx)],H:=[(0,([0,1,13,14,15],[0,1])),(2,([0,1,7,23,24,25],[0,1]))],res:=[.tmp 4],ios:=[],G:=gl0}
def gw:List D→Option Out:=bv nh Tryd.f36
@[reducible] def nD:FS:={pm:=[Yc,Yc],rm:=[Y],f:=gw}
theorem tI:ay gl0 Tryd.prog 36 nD:=aC (c:=nh) (ac nu (ac qe (ac tz ao))) Tryd.func36 rfl rfl (by kernel_rfl)
@[reducible] def lS:Cx:={K:=[Yc,Yc,Y,.no,.no,.no,Y,Yc,Yc,Y,Y,Y,Y,Y],T:=[],S:=[(36,nD),(37,jL)],H:=[],res:=[.tmp 6],ios:=[],G:=gl0}
def bX:List D→Option Out:=bv lS Tryd.f22
@[reducible] def dC:FS:={pm:=[Yc,Yc,Y],rm:=[Y],f:=bX}
theorem ej:ay gl0 Tryd.prog 22 dC:=aC (c:=lS) (ac tI (ac nk ao)) Tryd.func22 rfl rfl (by kernel_rfl)
@[reducible] def nA:Cx:={K:=[Y,Y,.no,.no,Y,Y,Y,Y,Y,Y],T:=[(3,ty3)],S:=[],H:=[],res:=[.tmp 4],ios:=[],G:=gl0}
def gC:List D→Option Out:=bv nA Tryd.f66
@[reducible] def nf:FS:={pm:=[Y,Y],rm:=[Y],f:=gC}
theorem tn:ay gl0 Tryd.prog 66 nf:=aC (c:=nA) ao Tryd.func66 rfl rfl (by kernel_rfl)
@[reducible] def lu:Cx:={K:=[Yc,Y,.no,.no,Yo 1 0,Yo 1 0,.no,Y,Y,Yb,Y,Y,Y,Y,Y,Y,Y,Y,Yo 1 0,Yc,Y,Y,Y,Yc,Y,.tup [Y,Yo 1 0,Y],Y,.tup [Y,Yo 1 0,Y],Y,Yb,Y,Y,Y,Y,Y,Y,Y,Y,Y,Y,Y,Y,Y,Y,Y,Y,Y,Y,Y,Yb,Y,Y,Y,Y,Yb,Y,Y,Y,Y,Y,Y,.via 5,Y,Y,Y,.via 5,Y,.via 5,Y,Yr 5,Y,Y,Y,Yr 5,Y,Y,Yo 1 0],T:=[(3,ty3),(9,ty9),(23,fC),(28,jd)],S:=[(31,fp),(65,gq),(66,nf)],H:=[(0,([1,5,19,20,21],[5])),(2,([1,5,8,9,11,19,20,21],[1,5,19,20,21])),(4,([1,5,8,9,11,19,20,21,49,50,51],[1,5,8,9,11,19,20,21]))],res:=[.tmp 4],ios:=[],G:=gl0}
def eS:List D→Option Out:=bv lu Tryd.f45
@[reducible] def lq:FS:={pm:=[Yc,Y],rm:=[Yo 1 0],f:=eS}
theorem rC:ay gl0 Tryd.prog 45 lq:=aC (c:=lu) (ac gI (ac jU (ac tn ao))) Tryd.func45 rfl rfl (by kernel_rfl)
@[reducible] def li:Cx:={K:=[Yc,Yc,Y,.no,.no,.no,Yo 1 0,Yo 1 0,.no,Y,Y,Yb,Y,.no,Y,Y,Y,Yc,Y,Y,Y,Yc,Y,.tup [Y,Yo 1 0,Y],Y,.tup [Y,Yo 1 0,Y],Y,Yb,Y,Y,Y,Y,Yb,Y,Y,Y,Yb,Y,Y,Y,Y,Y,Y,Yo 1 0,Y,Yb,Yo 1 0,Y,Yo 1 0,Y,Yc,Y,Yb,Y,Y,Y,Y,Yb,Y,Y,Y,Y,Y,Y,Y,Y,Y,Y,Y,Y,Yo 1 0,Y,Y,Yb,Yo 1 0,Y,Yo 1 0],T:=[(3,ty3),(9,ty9),(23,fC),(28,jd)],S:=[(31,fp),(44,jK),(45,lq)],H:=[(0,([0,2,7,17,18,19],[0,2,7])),(2,([2,7,32,33,34],[0,2,7,17,18,19])),(4,([2,7,52,53,54],[7]))],res:=[.tmp 6],ios:=[],G:=gl0}
def cj:List D→Option Out:=bv li Tryd.f26
@[reducible] def dL:FS:={pm:=[Yc,Yc,Y],rm:=[Yo 1 0],f:=cj}
theorem eU:ay gl0 Tryd.prog 26 dL:=aC (c:=li) (ac gI (ac nu (ac rC ao))) Tryd.func26 rfl rfl (by kernel_rfl)
@[reducible] def md:Cx:={K:=[Yc,Yc,Y,.no,.no,.no,Yo 1 0,Yo 1 0,Y,.no,Y,Yc,Yc,Y,Yb,Y,Y,Y,Yb,Y,Yo 1 0,Y,Y,Y,Y,Yb,Yo 1 0,Y,Y,Yo 1 0,Y,Y,Y,Yb,Yo 1 0],T:=[(3,ty3),(9,ty9),(23,fC),(28,jd)],S:=[(26,dL)],H:=[(0,([2,7,8,14,15,16],[2,7,8]))],res:=[.tmp 6],ios:=[],G:=gl0}
def dZ:List D→Option Out:=bv md Tryd.f23
@[reducible] def jc:FS:={pm:=[Yc,Yc,Y],rm:=[Yo 1 0],f:=dZ}
theorem mv:ay gl0 Tryd.prog 23 jc:=aC (c:=md) (ac eU ao) Tryd.func23 rfl rfl (by kernel_rfl)
@[reducible] def iF:Cx:={K:=[Yc,Yc,Y,.no,.no,.no,Yo 1 0,Y,Yc,Yc,Y,Y,Y,Yc,Yc,Y,Yo 1 0],T:=[(23,fC)],S:=[(22,dC),(23,jc)],H:=[],res:=[.tmp 6,.tmp 7],ios:=[],G:=gl0}
def dF:List D→Option Out:=bv iF Tryd.f6
@[reducible] def iS:FS:={pm:=[Yc,Yc,Y],rm:=[Yo 1 0,Y],f:=dF}
theorem nT:ay gl0 Tryd.prog 6 iS:=aC (c:=iF) (ac ej (ac mv ao)) Tryd.func6 rfl rfl (by kernel_rfl)
@[reducible] def hN:Cx:={K:=[Yc,Yc,Y,.no,.no,.no,Yo 1 0,Y,Yc,Yc,Y,Y,Y,Yc,Yc,Y,Yo 1 0],T:=[(28,jd)],S:=[(22,dC),(26,dL)],H:=[],res:=[.tmp 6,.tmp 7],ios:=[],G:=gl0}
def dp:List D→Option Out:=bv hN Tryd.f8
@[reducible] def hP:FS:={pm:=[Yc,Yc,Y],rm:=[Yo 1 0,Y],f:=dp}
theorem nb:ay gl0 Tryd.prog 8 hP:=aC (c:=hN) (ac ej (ac eU ao)) Tryd.func8 rfl rfl (by kernel_rfl)
@[reducible] def jB:Cx:={K:=[Yc,Yc,Y,.no,.no,.no,Y,Y,Yb,Y,.tup [Yo 1 0,Y],Yc,Yc,Y,.tup [Yo 1 0,Y],Yb,Y,Yb,Y,Y],T:=[],S:=[(5,fc),(27,lX)],H:=[],res:=[.tmp 6,.tmp 7],ios:=[],G:=gl0}
def dV:List D→Option Out:=bv jB Tryd.f9
@[reducible] def jE:FS:={pm:=[Yc,Yc,Y],rm:=[Y,Y],f:=dV}
theorem oW:ay gl0 Tryd.prog 9 jE:=aC (c:=jB) (ac iE (ac tb ao)) Tryd.func9 rfl rfl (by kernel_rfl)
@[reducible] def jn:Cx:={K:=[Yc,Yc,Y,.no,.no,.no,Y,Y,Y,Y,Y,Yc,Yc,Y,Y,Y,Yc,Yc,Y,Yb,Y,Y,Y,Y,Yb,Y,Y,Y,Y,Y,Y,Y,Y,Y,Y],T:=[(3,ty3),(9,ty9),(23,fC)],S:=[(22,dC),(23,jc)],H:=[(0,([8,19,20,21],[8]))],res:=[.tmp 6,.tmp 7],ios:=[],G:=gl0}
def dU:List D→Option Out:=bv jn Tryd.f10
@[reducible] def jw:FS:={pm:=[Yc,Yc,Y],rm:=[Y,Y],f:=dU}
theorem pJ:ay gl0 Tryd.prog 10 jw:=aC (c:=jn) (ac ej (ac mv ao)) Tryd.func10 rfl rfl (by kernel_rfl)
@[reducible] def np:Cx:={K:=[Yc,Yc,.no,.no,Y,Y,Yc,Y,Yc,Y,Y,Yc,Y,Y,Y,Y,Yc,Y,Yc,Y,Yc,Y,Yc,Y,Y,Y],T:=[(3,ty3),(9,ty9),(23,fC)],S:=[],H:=[(0,([0,1,12,13],[]))],res:=[.tmp 4],ios:=[],G:=gl0}
def gu:List D→Option Out:=bv np Tryd.f11
@[reducible] def nv:FS:={pm:=[Yc,Yc],rm:=[Y],f:=gu}
theorem tF:ay gl0 Tryd.prog 11 nv:=aC (c:=np) ao Tryd.func11 rfl rfl (by kernel_rfl)
@[reducible] def pw:Cx:={K:=[Yc,Yc,.no,.no,Y,Y,Yc,Y,Yc,Y,Y,Yc,Y,Y,Y,Y,Yc,Y,Yc,Y,Yc,Y,Yc,Y,Y,Y],T:=[(3,ty3),(28,jd)],S:=[],H:=[(0,([0,1,12,13],[]))],res:=[.tmp 4],ios:=[],G:=gl0}
def iv:List D→Option Out:=bv pw Tryd.f12
@[reducible] def oF:FS:={pm:=[Yc,Yc],rm:=[Y],f:=iv}
theorem uL:ay gl0 Tryd.prog 12 oF:=aC (c:=pw) ao Tryd.func12 rfl rfl (by kernel_rfl)
@[reducible] def oG:Cx:={K:=[Yc,Y,.no,.no,Y,Y,Y,Y,Yc,Y,Y,Y,Y,Yc,Y,Y,Y,Y,Y,Y,Y,Y,Y,Y,Y],T:=[(3,ty3),(9,ty9),(23,fC)],S:=[],H:=[(0,([1,5,8,9,10],[5]))],res:=[.tmp 4],ios:=[],G:=gl0}
def fu:List D→Option Out:=bv oG Tryd.f13
@[reducible] def pC:FS:={pm:=[Yc,Y],rm:=[Y],f:=fu}
theorem vc:ay gl0 Tryd.prog 13 pC:=aC (c:=oG) ao Tryd.func13 rfl rfl (by kernel_rfl)
@[reducible] def ki:Cx:={K:=[Yc,Y,.no,.no,Y,.no,Y,Yc,Y,Y,Y,Yc,Y,Y,Y,Y,Y],T:=[(3,ty3),(28,jd)],S:=[],H:=[(0,([1,7,8,9],[]))],res:=[.tmp 4],ios:=[],G:=gl0}
def er:List D→Option Out:=bv ki Tryd.f28
@[reducible] def jR:FS:={pm:=[Yc,Y],rm:=[Y],f:=er}
theorem qi:ay gl0 Tryd.prog 28 jR:=aC (c:=ki) ao Tryd.func28 rfl rfl (by kernel_rfl)
@[reducible] def jo:Cx:={K:=[Yc,Yc,Y,Y,.no,.no,.no,.no,Y,Y,Yb,Y,.tup [Yo 1 0,Y],Yc,Yc,Y,.tup [Yo 1 0,Y],Yb,Y,Yb,Y,Y,Y],T:=[],S:=[(7,cq),(28,jR)],H:=[],res:=[.tmp 8,.tmp 9],ios:=[],G:=gl0}
def ce:List D→Option Out:=bv jo Tryd.f14
@[reducible] def jg:FS:={pm:=[Yc,Yc,Y,Y],rm:=[Y,Y],f:=ce}
theorem pG:ay gl0 Tryd.prog 14 jg:=aC (c:=jo) (ac dq (ac qi ao)) Tryd.func14 rfl rfl (by kernel_rfl)
@[reducible] def qS:Cx:={K:=[Yc,Y,.no,.no,Y,.no,Y,Yc,Y,Y,Y,Yc,Y,Y,Y,Y,Y],T:=[(3,ty3),(28,jd)],S:=[],H:=[(0,([1,7,8,9],[]))],res:=[.tmp 4],ios:=[],G:=gl0}
def js:List D→Option Out:=bv qS Tryd.f15
@[reducible] def qY:FS:={pm:=[Yc,Y],rm:=[Y],f:=js}
theorem wm:ay gl0 Tryd.prog 15 qY:=aC (c:=qS) ao Tryd.func15 rfl rfl (by kernel_rfl)
@[reducible] def iV:Cx:={K:=[.box 3 2 true,Yc,.no,.no,Y,Yc,Yr 0,Yc,Y,Y,Yc,Y],T:=[(3,ty3),(28,jd)],S:=[(49,aW)],H:=[],res:=[.tmp 4],ios:=[0],G:=gl0}
def bT:List D→Option Out:=bv iV Tryd.f29
@[reducible] def eY:FS:={pm:=[.box 3 2 true,Yc],rm:=[Y],f:=bT}
theorem iN:ay gl0 Tryd.prog 29 eY:=aC (c:=iV) (ac bq ao) Tryd.func29 rfl rfl (by kernel_rfl)
@[reducible] def ee:Cx:={K:=[Yc,.no,Yo 1 0,Yo 1 0,Y,Y,Yr 12,Yo 1 0,Yo 1 0,Y,Yc,Yc,.box 3 2 false,.tup [Yo 1 0,Yo 1 0,Y],Yc,.tup [Yo 1 0,Yo 1 0,Y],Yo 1 0,Yo 1 0,Y,Yo 1 0,Yo 1 0,Y,Yr 12,Yr 12,Yb,Y,Yb,Y],T:=[(3,ty3),(22,yU),(23,fC),(28,jd),(48,CY),(50,Cz)],S:=[(21,cf),(29,eY)],H:=[],res:=[.tmp 2,.tmp 3,.tmp 4,.tmp 5],ios:=[],G:=gl0}
def bH:List D→Option Out:=bv ee Tryd.f16
@[reducible] def ef:FS:={pm:=[Yc],rm:=[Yo 1 0,Yo 1 0,Y,Y],f:=bH}
theorem iW:ay gl0 Tryd.prog 16 ef:=aC (c:=ee) (ac dy (ac iN ao)) Tryd.func16 rfl rfl (by kernel_rfl)
@[reducible] def fv:Cx:={K:=[Yc,Yc,Y,Y,.no,.no,.no,.no,Y,Y,Yb,Y,Y,.no,Y,.tup [Yo 1 0,Y],Yc,Yc,Y,.tup [Yo 1 0,Y],Yb,Y,Y,Y,Y,Y,Y,Y,Y,Yb,Y,Y,Y,Yb,Y,Y,Y,Y,Y,Y,Y,Y,Y],T:=[(3,ty3),(28,jd)],S:=[(7,cq),(30,dP)],H:=[(0,([3,12,29,30,31],[12]))],res:=[.tmp 8,.tmp 9],ios:=[],G:=gl0}
def cu:List D→Option Out:=bv fv Tryd.f17
@[reducible] def fW:FS:={pm:=[Yc,Yc,Y,Y],rm:=[Y,Y],f:=cu}
theorem lg:ay gl0 Tryd.prog 17 fW:=aC (c:=fv) (ac dq (ac eJ ao)) Tryd.func17 rfl rfl (by kernel_rfl)
@[reducible] def fQ:Cx:={K:=[Yc,Yc,Y,Y,.no,.no,.no,.no,Y,Y,Y,.no,Y,Yc,Yc,Y,Y,Y,Y,Y,Y,Y,Y,Yc,Yc,Y,Yb,Y,Y,Y,Yb,Y,Y,Y,Y,Y,Y,Y,Y,Y],T:=[(3,ty3),(28,jd)],S:=[(22,dC),(26,dL),(31,fp)],H:=[(0,([3,10,26,27,28],[10]))],res:=[.tmp 8,.tmp 9],ios:=[],G:=gl0}
def ct:List D→Option Out:=bv fQ Tryd.f18
@[reducible] def fI:FS:={pm:=[Yc,Yc,Y,Y],rm:=[Y,Y],f:=ct}
theorem kD:ay gl0 Tryd.prog 18 fI:=aC (c:=fQ) (ac ej (ac eU (ac gI ao))) Tryd.func18 rfl rfl (by kernel_rfl)
@[reducible] def gd:Cx:={K:=[Yc,.no,Yo 1 0,Yo 1 0,Y,Y,Yr 12,Yo 1 0,Yo 1 0,Y,Yc,Yc,.box 3 2 false,.tup [Yo 1 0,Yo 1 0,Y],Yc,.tup [Yo 1 0,Yo 1 0,Y],Yo 1 0,Yo 1 0,Y,Yo 1 0,Yo 1 0,Y,Yr 12,Yb,Y],T:=[(3,ty3),(22,yU),(23,fC),(28,jd),(48,CY),(50,Cz)],S:=[(21,cf),(29,eY)],H:=[],res:=[.tmp 2,.tmp 3,.tmp 4,.tmp 5],ios:=[],G:=gl0}
def cK:List D→Option Out:=bv gd Tryd.f19
@[reducible] def gf:FS:={pm:=[Yc],rm:=[Yo 1 0,Yo 1 0,Y,Y],f:=cK}
theorem lB:ay gl0 Tryd.prog 19 gf:=aC (c:=gd) (ac dy (ac iN ao)) Tryd.func19 rfl rfl (by kernel_rfl)
@[reducible] def oB:Cx:={K:=[Yc,Y,.no,.no,Y,.no,Y,Yc,Y,Y,Y,Yc,Y,Y,Y,Y,Y],T:=[(3,ty3),(28,jd)],S:=[],H:=[(0,([1,7,8,9],[]))],res:=[.tmp 4],ios:=[],G:=gl0}
def iq:List D→Option Out:=bv oB Tryd.f32
@[reducible] def po:FS:={pm:=[Yc,Y],rm:=[Y],f:=iq}
theorem vb:ay gl0 Tryd.prog 32 po:=aC (c:=oB) ao Tryd.func32 rfl rfl (by kernel_rfl)
@[reducible] def jx:Cx:={K:=[Yc,Yc,Y,Y,.no,.no,.no,.no,Y,Y,Yc,Yc,Y,Y,Y,Yc,Yc,Y,Yb,Y,Y],T:=[],S:=[(22,dC),(26,dL),(32,po)],H:=[],res:=[.tmp 8,.tmp 9],ios:=[],G:=gl0}
def dX:List D→Option Out:=bv jx Tryd.f20
@[reducible] def ju:FS:={pm:=[Yc,Yc,Y,Y],rm:=[Y,Y],f:=dX}
theorem oz:ay gl0 Tryd.prog 20 ju:=aC (c:=jx) (ac ej (ac eU (ac vb ao))) Tryd.func20 rfl rfl (by kernel_rfl)
end Go.Proofs.YtioabeglbjlndaaDoor

end
