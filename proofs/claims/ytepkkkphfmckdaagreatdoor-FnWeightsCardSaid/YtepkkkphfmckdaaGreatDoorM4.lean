/-
  A part of the proof: contracts and plain forms of functions beneath the statement, made small by a program (names shortened, what is not needed left out).
-/
import Derived.Test.YtepkkkphfmckdaaGreatDoorRows
import Derived.Test.YtepkkkphfmckdaaGreatDoorTie
import Derived.Test.YtepkkkphfmckdaaGreatDoorCards
import Derived.Test.YtepkkkphfmckdaaGreatDoorM3
import Derived.Below
import Derived.Shelf.Strconv.Itoa3
import Derived.Shelf.Strconv.AtoiAll
import Derived.Lib.AtoiErrMem
import Derived.Shelf.Strings.Cut
import Derived.Shelf.Strings.SplitShaped
import Derived.Shelf.Strings.Prefix
import Derived.Shelf.Strings.OnBuilder
import Derived.Shelf.Strings.FieldsFuncGrows
import Derived.Shelf.Strings.IndexAnyAll
import Derived.Shelf.Strings.SlTrimAscii
import Derived.Shelf.Small.Strs
import Derived.Shelf.GgSortMore.Stable
import Derived.ProofKit
import Derived.ChangeArms
import Derived.Stop.LaidErr
import Derived.Deep.DeepHandedRow
import Derived.Deep.DeepWitnessRowRef
import Derived.LaidMore
import Derived.MakeChecks
import Derived.Shelf.Vars
open Bool renaming and_eq_true → Hg, false_eq_true → Hk, not_eq_true' → HF, not_false → Ik
open Option.some renaming injEq → Hh
open Option renaming bind_eq_some_iff → Hi, isSome_iff_exists → Ht, map_eq_some_iff → Hx, bind_some → Ic
open List renaming getD_eq_getElem?_getD → Hj, getElem?_eq_some_iff → Hl, getElem?_eq_getElem → Hn, getD_cons_zero → Hq, getElem?_cons_zero → Hw, mem_append → HB, all_eq_true → HH, mapM_cons → HJ, drop_zero → HK, getElem?_eq_none → HN, mem_cons → HS, all_cons → HU, mem_map_of_mem → HV, not_mem_nil → Ie, length_map → Ih, replicate → Ij
open Array renaming replicate → Hm, getElem?_append_left → Ho, getD_eq_getD_getElem? → HD, getElem?_toList → HL
open Go.DataW renaming TrodAll → Hp
open Go.Oper renaming upon_enter → Hr
open Nat renaming zero_add → Hs, beq → Hu, mul → Hv, le_refl → HI, add → Il
open Classical renaming choose → Hy, choose_spec → HO
open Go.Calls renaming mono → Hz
open Go.Lib renaming pow10Tab → HA, TabIs → HE
open Go.Value renaming okWide → HC
open Go.Proofs renaming enters_of → HY
open Go.Sort renaming grow → HZ
open Go.Shelf renaming Ren → Ia
open Go.Result renaming andThen_ok → Ib
open Go.Ending renaming returned → Ig
open Go.Act renaming put → Ii
set_option maxRecDepth 100000
set_option linter.unusedSimpArgs false
set_option linter.unusedVariables false
noncomputable section
namespace Go.V
open Go.RowKit
set_option maxRecDepth 100000
def nU:List ResultVar→List Nat
 | []=>[]
 | .tmp t::l=>t::nU l
 | .cell _ _::l=>nU l
def bh (c:Cx):List ResultVar→List Kd→Bool
 | [],[]=>true
 | .tmp t::l,.dat lv::m=>(match af c.K t with
  | .dat l'=>Nat.ble l' lv
  | _=>false)&&bh c l m
 | .tmp t::l,.own z lv false::m=>(match af c.K t with
  | .own z' l' false=>Hu z' z&&Nat.ble l' lv
  | _=>false) && !kb t (nU l)&&bh c l m
 | .cell s t::l,.dat lv::m=>(match af c.K s with
  | .box _ l' _=>Nat.ble l' lv
  | _=>false)&&(cb c.T t).isSome&&bh c l m
 | _,_=>false
def np:Nat→List Kd→List Nat
 | _,[]=>[]
 | i,k::ks=>if nh k then i::np (i+1) ks else np (i+1) ks
def eqK:Kd→Kd→Bool
 | .dat a,.dat b=>Hu a b
 | .own a b io,.own a' b' io'=>Hu a a'&&Hu b b'&&io==io'
 | .box a b io,.box a' b' io'=>Hu a a'&&Hu b b'&&io==io'
 | _,_=>false
def xD:List Kd→List Kd→Bool
 | [],_=>true
 | k::ks,l::ls=>eqK k l&&xD ks ls
 | _,_=>false
section
variable {P:Program} {c:Cx} {B:Nat} {X:Nat→Prop} {w0:World} {F0 F:Nat→Prop} {O:Nat→Option (Nat × Nat)} {a:Act} {w:World} {δ:List D}
def lh (tmps:Array Value):ResultVar→Sem Value
 | .tmp t=>pure (tmps.getD t undef)
 | .cell a t=>do loadVar t (←asAddr (tmps.getD a undef))
theorem Gk {k l:Kd} (h:eqK k l=true):k=l:=by
 unfold eqK at h;split at h
 ·rw [au] at h;rw [h]
 ·simp only [Hg,au,beq_iff_eq] at h
  obtain⟨⟨rfl,rfl⟩,rfl⟩:=h;rfl
 ·simp only [Hg,au,beq_iff_eq] at h
  obtain⟨⟨rfl,rfl⟩,rfl⟩:=h;rfl
 ·cases h
theorem pL:∀{ks ls:List Kd},xD ks ls=true→ks.length≤ls.length∧∀(i:Nat),i<ks.length→af ls i=af ks i
 | [],_,_=>⟨by simp,by simp⟩
 | k::ks,l::ls,h=>by
  simp only [xD,Hg] at h;obtain⟨h1,h2⟩:=pL h.2;refine⟨by simp;exact h1,fun i hi=>?_⟩
  cases i with
  | zero=>simp only [af];exact(Gk h.1).symm
  | succ i=>simp only [af];exact h2 i (by simpa using hi)
 | _::_,[],h=>by simp [xD] at h
def FN (B:Nat) (O:Nat→Option (Nat × Nat)) (res:List ResultVar) (j:Nat) (g:Nat):Prop:=B≤g∧∃t,res[j]?=some (.tmp t)∧O g=some (t,0)
theorem iX {w:World} {F:Nat→Prop} {B:Nat} {own own':Nat→Prop} {k:Kd} {d:D} {y:Value} (ho:(∃z lv,k = .own z lv false)→∀g,own g→own' g) (h:yt w F B own k d y):yt w F B own' k d y:=by
 rcases h with h | h
 ·exact .inl h
 ·refine .inr ?_
  cases k with
  | own z lv io =>
   cases io
   ·exact h.own fun _ _ hg=>⟨ho ⟨z,lv,rfl⟩ _ hg.1,hg.2⟩
   ·exact h
  | _=>exact h
theorem pu (hT:okT P c.T=true) (hI:Inv c B X w0 F0 F O a w δ):∀(res:List ResultVar) (rm:List Kd) (rs:List D),bh c res rm=true→jL c δ res (fun rs=>some (.nrm rs))=some (.nrm rs) →
  ∃vs:List Value,(res.mapM (lh a.tmps)).run P w = .ok vs w∧vs.length=rm.length∧rs.length=rm.length∧∀j,yt w F B (FN B O res j) (af rm j) (nth rs j) (vs.getD j undef)
 | [],[],rs,_,h=>by
  simp only [jL,Hh,Out.nrm.injEq] at h;subst h;exact⟨[],by simp,rfl,rfl,fun j=>.inl (by simp [nth])⟩
 | .tmp t::l,.dat lv::m,rs,hok,h=>by
  simp only [bh,Hg] at hok;simp only [jL,cN] at h;rw [gb] at h;obtain⟨o,h1,h2⟩:=Hi.1 h;split at h2
  case h_2=>cases h2
  rename_i rs';simp only [Hh,Out.nrm.injEq] at h2;subst h2;obtain⟨vs,g1,g2,g3,g4⟩:=pu hT hI l m rs' hok.2 h1;refine⟨a.tmps.getD t undef::vs,by simp [HJ,lh,g1],by simp [g2],by simp [g3],fun j=>?_⟩
  cases j with
  | zero =>
   simp only [af,nth,Hq];have hk:=hok.1;split at hk
   case h_2=>cases hk
   rename_i l' hkt;exact(eM (aN.1 hk) (hI.dat hkt))
  | succ j =>
   refine iX (fun _ g hg=>?_) (g4 j)
   obtain⟨e1,t',e2,e3⟩:=hg;exact⟨e1,t',by simpa using e2,e3⟩
 | .tmp t::l,.own z lv false::m,rs,hok,h=>by
  simp only [bh,Hg] at hok;simp only [jL,cN] at h;rw [gb] at h;obtain⟨o,h1,h2⟩:=Hi.1 h;split at h2
  case h_2=>cases h2
  rename_i rs';simp only [Hh,Out.nrm.injEq] at h2;subst h2;obtain⟨vs,g1,g2,g3,g4⟩:=pu hT hI l m rs' hok.2 h1;refine⟨a.tmps.getD t undef::vs,by simp [HJ,lh,g1],by simp [g2],by simp [g3],fun j=>?_⟩
  cases j with
  | zero =>
   simp only [af,nth,Hq];have hk:=hok.1.1;split at hk
   case h_2=>cases hk
   rename_i z' l' hkt;simp only [Hg,au,aN] at hk;obtain⟨rfl,hle⟩:=hk;by_cases hb:nth δ t = .bad
   ·exact .inl hb
   ·exact .inr (ct (im hle) (fun _ _=>rfl) (fun g _ hg=>⟨⟨⟨hg.2 rfl,t,rfl,hg.1⟩,hg.2 rfl⟩,rfl⟩) (hI.own hkt hb))
  | succ j =>
   refine iX (fun _ g hg=>?_) (g4 j)
   obtain⟨e1,t',e2,e3⟩:=hg;exact⟨e1,t',by simpa using e2,e3⟩
 | .cell s t::l,.dat lv::m,rs,hok,h=>by
  simp only [bh,Hg] at hok;simp only [jL] at h;split at h
  case h_2=>cases h
  rename_i i hi;simp only [cN] at h;obtain⟨y,hy,h⟩:=Hi.1 h;rw [gb] at h;obtain⟨o,h1,h2⟩:=Hi.1 h;split at h2
  case h_2=>cases h2
  rename_i rs';simp only [Hh,Out.nrm.injEq] at h2;subst h2;obtain⟨vs,g1,g2,g3,g4⟩:=pu hT hI l m rs' hok.2 h1;have hk:=hok.1.1;split at hk
  case h_2=>cases hk
  rename_i n l' io hks;rw [aN] at hk;have hb:nth δ s ≠ .bad:=by
   intro e;rw [e] at hy;simp [oZ] at hy
  obtain⟨mm,us,g,e,hd',a1,a2,a3,a4,a5,a6⟩:=hI.box hks hb;rw [hd'] at hy;simp only [oZ,HK] at hy;have hcell:bT w g 0 us:=kj a2 (fun i u hu=>by simpa using hu);obtain⟨v,hv,hr⟩:=oN (P:=P) (tok hT hi) a3 a4 hcell hy;have hv':(lh a.tmps (.cell s t)).run P w = .ok v w:=by
   have e1:a.tmps.getD s undef = .pointer (some ⟨g,0,none⟩):=a1;simp only [lh,e1];simpa [Instr.loadAt,Instr.sureAddr,asAddr] using hv
  refine⟨v::vs,by simp [HJ,hv',g1],by simp [g2],by simp [g3],fun j=>?_⟩
  cases j with
  | zero =>
   simp only [af,nth,Hq];exact .inr (aS (im hk) (fun _ _=>rfl) hr)
  | succ j =>
   refine iX (fun _ g hg=>?_) (g4 j)
   obtain⟨e1,t',e2,e3⟩:=hg;exact⟨e1,t',by simpa using e2,e3⟩
 | [],_::_,_,hok,_=>by simp [bh] at hok
 | .tmp _::_,[],_,hok,_=>by simp [bh] at hok
 | .cell _ _::_,[],_,hok,_=>by simp [bh] at hok
 | .tmp _::_,.own _ _ true::_,_,hok,_=>by simp [bh] at hok
 | .tmp _::_,.box _ _ _::_,_,hok,_=>by simp [bh] at hok
 | .tmp _::_,.via _::_,_,hok,_=>by simp [bh] at hok
 | .tmp _::_,.ref _::_,_,hok,_=>by simp [bh] at hok
 | .tmp _::_,.tup _::_,_,hok,_=>by simp [bh] at hok
 | .tmp _::_,.no::_,_,hok,_=>by simp [bh] at hok
 | .tmp _::_,.itr::_,_,hok,_=>by simp [bh] at hok
 | .tmp _::_,.mpo::_,_,hok,_=>by simp [bh] at hok
 | .cell _ _::_,.own _ _ _::_,_,hok,_=>by simp [bh] at hok
 | .cell _ _::_,.box _ _ _::_,_,hok,_=>by simp [bh] at hok
 | .cell _ _::_,.via _::_,_,hok,_=>by simp [bh] at hok
 | .cell _ _::_,.ref _::_,_,hok,_=>by simp [bh] at hok
 | .cell _ _::_,.tup _::_,_,hok,_=>by simp [bh] at hok
 | .cell _ _::_,.no::_,_,hok,_=>by simp [bh] at hok
 | .cell _ _::_,.itr::_,_,hok,_=>by simp [bh] at hok
 | .cell _ _::_,.mpo::_,_,hok,_=>by simp [bh] at hok
def pc:List ResultVar→Nat→Nat→Option Nat
 | [],_,_=>none
 | .tmp t::l,s,j=>if t=s then some j else pc l s (j+1)
 | .cell _ _::l,s,j=>pc l s (j+1)
theorem nT:∀{res:List ResultVar} {j t:Nat},res[j]?=some (.tmp t)→t∈nU res
 | .tmp s::l,0,t,h=>by simp at h;simp [nU,h]
 | .cell _ _::l,0,t,h=>by simp at h
 | .tmp s::l,j+1,t,h=>by simp only [nU,HS];exact .inr (nT (by simpa using h))
 | .cell _ _::l,j+1,t,h=>by simp only [nU];exact nT (by simpa using h)
theorem kD:∀(res:List ResultVar) (rm:List Kd),bh c res rm=true→∀(j t i:Nat) (z lv:Nat),af rm j = .own z lv false→res[j]?=some (.tmp t)→pc res t i=some (i+j)∧∃z' l',af c.K t = .own z' l' false
 | [],[],_,j,t,i,z,lv,h,_=>by simp [af] at h
 | .tmp s::l,.dat lv'::m,hok,j,t,i,z,lv,h,hj=>by
  simp only [bh,Hg] at hok;cases j with
  | zero=>simp [af] at h
  | succ j =>
   obtain⟨h1,h2⟩:=kD l m hok.2 j t (i+1) z lv (by simpa [af] using h) (by simpa using hj);refine⟨?_,h2⟩
   simp only [pc];rw [if_neg,h1]
   ·congr 1;omega
   ·rintro rfl
    obtain⟨z',l',hk⟩:=h2;rw [hk] at hok;cases hok.1
 | .tmp s::l,.own z0 lv0 false::m,hok,j,t,i,z,lv,h,hj=>by
  simp only [bh,Hg] at hok;cases j with
  | zero =>
   simp at hj;subst hj;refine⟨by simp [pc],?_⟩
   have hk:=hok.1.1;split at hk
   ·exact⟨_,_,‹_›⟩
   ·cases hk
  | succ j =>
   obtain⟨h1,h2⟩:=kD l m hok.2 j t (i+1) z lv (by simpa [af] using h) (by simpa using hj);refine⟨?_,h2⟩
   simp only [pc];rw [if_neg,h1]
   ·congr 1;omega
   ·rintro rfl
    have hm:=hok.1.2;rw [fd] at hm;simp only [HF,decide_eq_false_iff_not] at hm;exact hm (nT (by simpa using hj))
 | .cell s s'::l,.dat lv'::m,hok,j,t,i,z,lv,h,hj=>by
  simp only [bh,Hg] at hok;cases j with
  | zero=>simp [af] at h
  | succ j =>
   obtain⟨h1,h2⟩:=kD l m hok.2 j t (i+1) z lv (by simpa [af] using h) (by simpa using hj);refine⟨?_,h2⟩
   simp only [pc];rw [h1];congr 1;omega
 | [],_::_,hok,_,_,_,_,_,_,_=>by simp [bh] at hok
 | .tmp _::_,[],hok,_,_,_,_,_,_,_=>by simp [bh] at hok
 | .cell _ _::_,[],hok,_,_,_,_,_,_,_=>by simp [bh] at hok
 | .tmp _::_,.own _ _ true::_,hok,_,_,_,_,_,_,_=>by simp [bh] at hok
 | .tmp _::_,.box _ _ _::_,hok,_,_,_,_,_,_,_=>by simp [bh] at hok
 | .tmp _::_,.via _::_,hok,_,_,_,_,_,_,_=>by simp [bh] at hok
 | .tmp _::_,.ref _::_,hok,_,_,_,_,_,_,_=>by simp [bh] at hok
 | .tmp _::_,.tup _::_,hok,_,_,_,_,_,_,_=>by simp [bh] at hok
 | .tmp _::_,.no::_,hok,_,_,_,_,_,_,_=>by simp [bh] at hok
 | .tmp _::_,.itr::_,hok,_,_,_,_,_,_,_=>by simp [bh] at hok
 | .tmp _::_,.mpo::_,hok,_,_,_,_,_,_,_=>by simp [bh] at hok
 | .cell _ _::_,.own _ _ _::_,hok,_,_,_,_,_,_,_=>by simp [bh] at hok
 | .cell _ _::_,.box _ _ _::_,hok,_,_,_,_,_,_,_=>by simp [bh] at hok
 | .cell _ _::_,.via _::_,hok,_,_,_,_,_,_,_=>by simp [bh] at hok
 | .cell _ _::_,.ref _::_,hok,_,_,_,_,_,_,_=>by simp [bh] at hok
 | .cell _ _::_,.tup _::_,hok,_,_,_,_,_,_,_=>by simp [bh] at hok
 | .cell _ _::_,.no::_,hok,_,_,_,_,_,_,_=>by simp [bh] at hok
 | .cell _ _::_,.itr::_,hok,_,_,_,_,_,_,_=>by simp [bh] at hok
 | .cell _ _::_,.mpo::_,hok,_,_,_,_,_,_,_=>by simp [bh] at hok
theorem pK {w:World} {F:Nat→Prop} {ow:Nat→Option Nat}:∀(pm:List Kd) (ds:List D) (ys:List Value) (i:Nat),dK w F ow i pm ds ys→ds.length=pm.length∧ys.length=pm.length∧∀(j:Nat),j<pm.length→iq w F (fun g=>ow g=some (i+j)) (af pm j) (nth ds j) (ys.getD j undef)
 | [],[],[],_,_=>⟨rfl,rfl,fun j h=>by simp at h⟩
 | k::pm,d::ds,y::ys,i,h=>by
  obtain⟨h1,h2⟩:=h;obtain⟨g1,g2,g3⟩:=pK pm ds ys (i+1) h2;refine⟨by simp [g1],by simp [g2],fun j hj=>?_⟩
  cases j with
  | zero=>exact h1
  | succ j =>
   have:=g3 j (by simpa using hj);simp only [af,nth,List.getD_cons_succ];rw [show i+(j+1)=i+1+j from by omega];exact this
 | [],[],_::_,_,h=>h.elim
 | [],_::_,_,_,h=>h.elim
 | _::_,[],_,_,h=>h.elim
 | _::_,_::_,[],_,h=>h.elim
theorem wg {w:World} {F:Nat→Prop} {δ:List D}:∀(pm:List Kd) (ys:List Value) (i:Nat),ys.length=pm.length→(∀(j:Nat),j<pm.length→nh (af pm j)=true→nth δ (i+j) ≠ .bad∧iq w F (fun _=>True) (af pm j) (nth δ (i+j)) (ys.getD j undef))→kG w F pm (ac δ (np i pm)) ys
 | [],ys,i,_,_=>by simp [np,ac,kG]
 | k::pm,[],i,hl,_=>by simp at hl
 | k::pm,y::ys,i,hl,h=>by
  have ih:=wg pm ys (i+1) (by simpa using hl) (fun j hj hio=>by
   have:=h (j+1) (by simpa using hj) (by simpa [af] using hio);rw [show i+1+j=i+(j+1) from by omega];simpa [af] using this)
  cases hk:nh k with
  | true =>
   have h0:=h 0 (by simp) (by simpa [af] using hk);simp only [np,hk,if_true,ac,kG];exact⟨by simpa using h0.1,by simpa [af] using h0.2,ih⟩
  | false=>simpa only [np,hk,Hk,if_false,kG] using ih
theorem qC:∀(pm:List Kd) (i j:Nat),j<pm.length→nh (af pm j)=true→i+j∈np i pm
 | k::pm,i,0,_,h=>by
  simp only [af] at h;simp [np,h]
 | k::pm,i,j+1,hj,h=>by
  have ih:=qC pm (i+1) j (by simpa using hj) (by simpa [af] using h);rw [show i+(j+1)=i+1+j from by omega];simp only [np];split
  ·exact List.mem_cons_of_mem _ ih
  ·exact ih
theorem mC:∀(n:Nat) (l:List D) (s:Nat),l.length≤n→nth (me n l) s=nth l s
 | 0,l,s,h=>by
  have:l=[]:=List.eq_nil_of_length_eq_zero (by omega);subst this;simp [me]
 | n+1,[],s,_=>by
  cases s with
  | zero=>simp [nth]
  | succ s=>simp only [nth];rw [mC n [] s (by simp)]
 | n+1,d::l,s,h=>by
  cases s with
  | zero=>simp [nth]
  | succ s=>simp only [nth];exact mC n l s (by simpa using h)
theorem mN:∀(n:Nat) (l:List D),(me n l).length=n
 | 0,_=>rfl
 | n+1,[]=>by simp [me,mN n []]
 | n+1,_::l=>by simp [me,mN n l]
def zR (c:Cx) (fn:Func) (pm rm:List Kd):Bool :=
 (match fn.body with
  | some b=>cr c 0 b
  | none=>false)&&Hu (gy c.K) fn.ntmps&&xD pm c.K&&fY pm&&bh c c.res rm&&decide (c.ios=np 0 pm)
theorem oK:∀{pm:List Kd},fY pm=true→∀j,j<pm.length→(∃lv,af pm j = .dat lv∧lv≠1)∨(∃z lv,af pm j = .own z lv true∧lv≠1)∨∃n lv,af pm j = .box n lv true∧lv≠1
 | m::pm,h,j,hj=>by
  obtain⟨h1,h2,h3⟩:=uW h;cases j with
  | succ j=>exact oK h1 j (by simpa using hj)
  | zero =>
   simp only [af];cases m with
   | dat lv =>
    refine .inl ⟨lv,rfl,?_⟩
    simp only [fY] at h;split at h
    case h_2=>cases h
    rename_i e1 e2;intro e;subst e;simp at e1
   | own z lv io =>
    cases io
    ·simp [fY] at h
    ·exact .inr (.inl ⟨z,lv,rfl,h2 z lv rfl⟩)
   | box n lv io =>
    cases io
    ·simp [fY] at h
    ·exact .inr (.inr ⟨n,lv,rfl,h3 n lv rfl⟩)
   | _=>simp [fY] at h
theorem CA (hT:okT P c.T=true) (hS:∀f S,cb c.S f=some S→ay c.G P f S) (hm:P.follows .mixedOrders=true) {f:FuncId} {fn:Func} (hf:P.funcs[f]?=some fn) {pm rm:List Kd} (hok:zR c fn pm rm=true) (hres:c.res=fn.results.toList)
  {ds rs us:List D} (hd:bF c fn ds=some (.ret rs us)) {args:Array Value} {w:World} {F:Nat→Prop} {ow:Nat→Option Nat} (hgl:gOk c.G w F) (ha:dK w F ow 0 pm ds args.toList) (hF:∀b,F b→b<w.heap.size∧ow b=none) (hO:∀b i,ow b=some i→b<w.heap.size) :
  Calls P f args w fun e w'=>∃v,e = .returned v∧∃F' R vs,v=iD vs∧CallPost {pm:=pm,rm:=rm,f:=bF c fn} args rs us w F ow F' R vs w':=by
 unfold zR at hok;simp only [Hg,decide_eq_true_eq] at hok;obtain⟨⟨⟨⟨⟨hcode,hlenK⟩,hpre⟩,hpm⟩,hokr⟩,hios⟩:=hok;rw [au,iB] at hlenK;obtain⟨hpl,hpn⟩:=pL hpre;obtain⟨hdl,hal,hargs⟩:=pK pm ds args.toList 0 ha;have hasz:args.size=pm.length:=by simpa using hal
 unfold bF at hd;cases hb:fn.body with
 | none=>rw [hb] at hd;cases hd
 | some b =>
  rw [hb] at hd hcode;simp only at hd hcode;refine calls_of_wp hf hb ?_
  have hav:∀s,s<pm.length→av ({tmps:=args++Hm (fn.ntmps - args.size) undef,defers:=[]}:Act) s=args.toList.getD s undef:=fun s hs=>by
   have h1:s<args.size:=by omega
   simp only [av,HD,Hj,HL];rw [Ho h1]
  have hinit:Inv c w.heap.size (fun b=>ow b≠none) w F F (fun b=>(ow b).map fun i=>(i,0)) {tmps:=args++Hm (fn.ntmps - args.size) undef,defers:=[]} w (me fn.ntmps ds):=by
   refine⟨by simp;omega,by rw [mN,hlenK],rfl,fun s=>?_,fun b hb=>⟨(hF b hb).1,by simp [(hF b hb).2]⟩,fun b p hp=>?_,fun _ h=>h,fun _ h=>.inl h,HI _,rfl,rfl,rfl,fun _ _ _=>rfl,hgl⟩
   ·unfold qg
    rw [mC _ _ _ (by rw [hdl];omega)];by_cases hs:s<pm.length
    ·rw [hpn s hs,hav s hs]
     rcases hargs s hs with hbad | harg
     ·exact .inl hbad
     refine .inr ?_
     have hlv:∀lv,lv≠1→∀b,FB F 0 lv b→FB F w.heap.size lv b:=fun lv h1 b hb=>by
      match lv,h1 with
      | 0,_=>exact hb
      | _+2,_=>exact hb
     rcases oK hpm s hs with ⟨lv,hk,h1⟩ | ⟨z,lv,hk,h1⟩ | ⟨n,lv,hk,h1⟩
     ·rw [hk] at harg ⊢
      exact .inr (aS (hlv lv h1) (fun _ _=>rfl) harg)
     ·rw [hk] at harg ⊢
      exact .inr (ct (hlv lv h1) (fun _ _=>rfl) (fun g _ hg=>⟨⟨by simp only [Hs] at hg;simp [hg],fun h=>by cases h⟩,rfl⟩) harg)
     ·rw [hk] at harg ⊢
      exact .inr (je (hlv lv h1) (fun _ _=>rfl) (fun g _ hg=>⟨⟨by simp only [Hs] at hg;simp [hg],fun h=>by cases h⟩,rfl⟩) harg)
    ·refine .inl ?_
     rw [cP,Hj,HN (by omega)];rfl
   ·obtain⟨i,hi,rfl⟩:=Hx.1 hp
    exact⟨hO b i hi,.inr (by rw [hi];simp)⟩
  refine gw hT hS hm b 0 hcode F _ _ w _ hinit (V:=av {tmps:=args++Hm (fn.ntmps - args.size) undef,defers:=[]}) (fun _ _=>rfl) _ _ hd _ (fun e a' w' hp=>?_)
  have fin:eV c w.heap.size (fun b=>ow b≠none) w F (av {tmps:=args++Hm (fn.ntmps - args.size) undef,defers:=[]}) (fun δ=>yV c δ some) (.ret rs us) a' w'→a'.defers=[]∧∃v,(results fn a'.tmps).run P w' = .ok v w'∧∃v',Ig v = .returned v'∧∃F' R vs,v'=iD vs∧CallPost {pm:=pm,rm:=rm,f:=bF c fn} args rs us w F ow F' R vs w':=by
   rintro⟨⟨F',O',δ',hI',hk⟩,hV'⟩;obtain⟨rs',h1,h2,h3⟩:=gO hk;simp only [Hh,Out.ret.injEq] at h3;obtain⟨rfl,rfl⟩:=h3;obtain⟨vs,g1,g2,g3,g4⟩:=pu (P:=P) hT hI' c.res rm rs' hokr h1;refine⟨hI'.df,iD vs,?_,_,rfl,F',fun b=>if w.heap.size≤b then(match O' b with
    | some (t,0)=>pc c.res t 0
    | _=>none) else none,vs,rfl,?_⟩
   ·have hrun:(fn.results.mapM (lh a'.tmps)).run P w' = .ok vs.toArray w':=by
     rw [Array.mapM_eq_mapM_toList,←hres];simp [g1]
    have hrw:results fn a'.tmps=(do
      let vs ←fn.results.mapM (lh a'.tmps)
      pure (if h:vs.size=1 then vs[0] else .tuple vs)):=by
     unfold results;congr 1
    rw [hrw];simp only [Sem.run_bind,hrun,Ib,Sem.run_pure];congr 1
    rcases vs with _ | ⟨y,_ | ⟨y',vs⟩⟩
    ·simp [iD]
    ·simp [iD]
    ·simp [iD]
   ·refine⟨hI'.os,hI'.tape,hI'.output,hI'.bb,fun b hb ho=>hI'.keep b hb (by simp [ho]),hI'.f0,fun b hb=>⟨hI'.fn b hb,(hI'.fl b hb).1,by simp only [(hI'.fl b hb).2];split<;>rfl⟩,fun b j hj=>?_,g2,g3,fun j=>?_,?_⟩
    ·split at hj
     case isFalse=>cases hj
     rename_i hB;refine⟨hB,?_⟩
     split at hj
     ·rename_i t he;exact(hI'.ol b _ he).1
     ·cases hj
    ·refine iX (fun hk g hg=>?_) (g4 j)
     obtain⟨z,lv,hk⟩:=hk;obtain⟨e1,t,e2,e3⟩:=hg;rw [if_pos e1];simp only [e3];have:=(kD c.res rm hokr j t 0 z lv hk e2).1;simpa using this
    ·rw [hios]
     refine wg pm args.toList 0 hal (fun j hj hio=>?_)
     rw [Hs];have hkj:=hpn j hj;have hbj:nth δ' j ≠ .bad:=by
      refine h2 _ ?_
      rw [hios,kO];exact HV (by simpa using qC pm 0 j hj hio)
     have havj:av a' j=args.toList.getD j undef:=(hV' j (by rw [hkj];exact hio)).trans (hav j hj);have hlv:∀lv,lv≠1→∀b,FB F' w.heap.size lv b→FB F' 0 lv b:=fun lv h1 b hb=>by
      match lv,h1 with
      | 0,_=>exact hb
      | _+2,_=>exact hb
     refine⟨hbj,.inr ?_⟩
     rcases oK hpm j hj with ⟨lv,hk,h1⟩ | ⟨z,lv,hk,h1⟩ | ⟨n,lv,hk,h1⟩
     ·rw [hk] at hio;cases hio
     ·have h5:=hI'.own (hkj.trans hk) hbj
      rw [havj] at h5;rw [hk];exact ct (hlv lv h1) (fun _ _=>rfl) (fun _ _ _=>⟨trivial,rfl⟩) h5
     ·have h5:=hI'.box (hkj.trans hk) hbj
      rw [havj] at h5;rw [hk];exact je (hlv lv h1) (fun _ _=>rfl) (fun _ _ _=>⟨trivial,rfl⟩) h5
  cases e with
  | normal=>exact fin hp
  | exit i =>
   obtain⟨⟨_,_,_,_,h⟩,_⟩:=hp;cases h
  | ret =>
   refine fin (gm hp fun δ F O _ h=>?_)
   obtain⟨rs',h1,h2,h3⟩:=gO h;exact rU h1 h2 h3
  | _=>exact hp.elim
theorem yK (hT:okT P c.T=true) (hS:∀f S,cb c.S f=some S→ay c.G P f S) (hm:P.follows .mixedOrders=true) {f:FuncId} {fn:Func} (hf:P.funcs[f]?=some fn) (hname:(fn.name== "runtime.NumGoroutine")=false) {pm rm:List Kd} (hok:zR c fn pm rm=true) (hres:c.res=fn.results.toList) :
  ay c.G P f {pm:=pm,rm:=rm,f:=bF c fn}:=by
 intro ds rs us hd args w F ow hgl ha hF hO o a next Q hn
 have hbody:∃b,fn.body=some b:=by
  have hd':bF c fn ds=some (.ret rs us):=hd;unfold bF at hd';cases hb:fn.body with
  | none=>rw [hb] at hd';cases hd'
  | some b=>exact⟨b,rfl⟩
 obtain⟨b,hb⟩:=hbody;have hrun:(callFunc f args).run P w = .ok (.enter f args) w:=by
  have h1:¬fn.name= "runtime.NumGoroutine":=by simpa using hname
  simp [callFunc,hf,h1,hb]
 rw [hrun,Hr];refine Hz (CA hT hS hm hf hok hres hd hgl ha hF hO) (fun e w' he=>?_)
 obtain⟨v,rfl,F',R,vs,h1,h2⟩:=he;exact hn v w' ⟨F',R,vs,h1,h2⟩
end
end Go.V

namespace Go.V
set_option maxRecDepth 100000
def sl (s:List D) (i:Nat):D:=nth s i
def ifN (b:Bool) (t e:Option Out):Option Out :=
 match b with
 | true=>t
 | false=>e
theorem ax {P:Program} {G:List (Nat × (Obj→Prop))}:∀(f:Nat) (S:FS),cb ([]:List (Nat × FS)) f=some S→ay G P f S:=by
 intro f S h;cases h
theorem ab {P:Program} {G:List (Nat × (Obj→Prop))} {g:Nat} {S0:FS} {l:List (Nat × FS)} (h0:ay G P g S0) (h:∀(f:Nat) (S:FS),cb l f=some S→ay G P f S):∀(f:Nat) (S:FS),cb ((g,S0)::l) f=some S→ay G P f S:=by
 intro f S hl;simp only [cb] at hl;split at hl
 ·rename_i hb
  have:=au.1 hb;subst this;cases hl;exact h0
 ·exact h f S hl
theorem bA {P:Program} {G G':List (Nat × (Obj→Prop))} {f:Nat} {S:FS} (h:∀p∈G,p∈G') (hm:ay G P f S):ay G' P f S :=
 fun ds rs us hd args w F ow hg=>hm ds rs us hd args w F ow fun p hp=>hg p (h p hp)
open Classical in
def AZ (R:Nat→List D→Option Out) (ds:List D):Option Out :=
 if h:∃n,(R n ds).isSome=true then R (Hy h) ds else none
theorem BB {R:Nat→List D→Option Out} {ds:List D} {r:Out} (h:AZ R ds=some r):∃n,R n ds=some r:=by
 unfold AZ at h;split at h
 ·exact⟨_,h⟩
 ·cases h
theorem Et {R:Nat→List D→Option Out} {ds:List D} {r:Out} (h:∀n o,R n ds=some o→o=r) (n:Nat) (hn:R n ds=some r):AZ R ds=some r:=by
 unfold AZ;have hx:∃n,(R n ds).isSome=true:=⟨n,by rw [hn];rfl⟩
 rw [dif_pos hx];obtain⟨o,ho⟩:=Ht.1 (HO hx);rw [ho,h _ _ ho]
theorem yX {P:Program} {G:List (Nat × (Obj→Prop))} {f:Nat} {S:FS} (h:∀ds,S.f ds=none):ay G P f S:=by
 intro ds rs us hd;rw [h] at hd;cases hd
theorem BJ {P:Program} {G:List (Nat × (Obj→Prop))} {f:Nat} {pm rm:List Kd} {R:Nat→List D→Option Out} (h:∀n,ay G P f {pm:=pm,rm:=rm,f:=R n}):ay G P f {pm:=pm,rm:=rm,f:=AZ R}:=by
 intro ds rs us hd args w F ow hg ha hF hO o a next Q hq
 obtain⟨n,hn⟩:=BB hd;refine h n ds rs us hn args w F ow hg ha hF hO o a next Q fun v w' hv=>?_
 obtain⟨F',R',vs,h1,h2⟩:=hv;exact hq v w' ⟨F',R',vs,h1,⟨h2.os,h2.tape,h2.output,h2.size,h2.keep,h2.f0,h2.fn,h2.rn,h2.len,h2.lenD,h2.res,h2.us⟩⟩
open Go.RowKit
set_option maxRecDepth 100000
section
variable {P:Program} {G:List (Nat × (Obj→Prop))}
theorem jf {f:FuncId} {S:FS} (he:∀args w,(callFunc f args).run P w = .ok (.enter f args) w)
  (h:∀ds rs us,S.f ds=some (.ret rs us)→∀(args:Array Value) (w:World) (F:Nat→Prop) (ow:Nat→Option Nat),gOk G w F→dK w F ow 0 S.pm ds args.toList→(∀b,F b→b<w.heap.size∧ow b=none)→(∀b i,ow b=some i→b<w.heap.size) →
   Calls P f args w fun e w'=>∃v,e = .returned v∧∃F' R vs,v=iD vs∧CallPost S args rs us w F ow F' R vs w'):ay G P f S:=by
 intro ds rs us hd args w F ow hg ha hF hO o a next Q hn
 rw [he,Hr];refine Hz (h ds rs us hd args w F ow hg ha hF hO) (fun e w' hv=>?_)
 obtain⟨v,rfl,F',R,vs,h1,h2⟩:=hv;exact hn v w' ⟨F',R,vs,h1,h2⟩
theorem vx {w:World} {F:Nat→Prop}:∀(ks:List Kd) (ys:List Value),(ks.all fun k=>!nh k)=true→ks.length=ys.length→kG w F ks [] ys
 | [],[],_,_=>trivial
 | k::ks,y::ys,h,hl=>by
  simp only [HU,Hg,HF] at h;simp only [kG,h.1];exact vx ks ys h.2 (by simpa using hl)
 | [],_::_,_,hl=>by cases hl
 | _::_,[],_,hl=>by cases hl
theorem sF {w:World} {F:Nat→Prop} {ow:Nat→Option Nat}:∀(ks:List Kd) (ds:List D) (ys:List Value) (i:Nat),dK w F ow i ks ds ys→ds.length=ks.length∧ys.length=ks.length
 | [],[],[],_,_=>⟨rfl,rfl⟩
 | k::ks,d::ds,y::ys,i,h=>by
  obtain⟨h1,h2⟩:=sF ks ds ys (i+1) h.2;exact⟨by simp [h1],by simp [h2]⟩
 | [],_::_,_,_,h=>h.elim
 | [],[],_::_,_,h=>h.elim
 | _::_,[],_,_,h=>by cases ‹List Value›<;>exact h.elim
 | _::_,_::_,[],_,h=>h.elim
theorem CU {w:World} {F:Nat→Prop} {ow:Nat→Option Nat} {k:Kd} {ds:List D} {l:List Value} (h:dK w F ow 0 [k] ds l):∃d y,ds=[d]∧l=[y]∧iq w F (fun g=>ow g=some 0) k d y:=by
 match ds,l,h with
 | [d],[y],h=>exact⟨d,y,rfl,rfl,h.1⟩
 | [],l,h=>cases l<;>exact h.elim
 | d::d'::ds,l,h =>
  match l,h with
  | [],h=>exact h.elim
  | [y],h=>exact h.2.elim
  | y::y'::ys,h=>exact h.2.elim
 | [d],[],h=>exact h.elim
 | [d],y::y'::ys,h=>exact h.2.elim
theorem xt {w:World} {F:Nat→Prop} {ow:Nat→Option Nat} {k k':Kd} {ds:List D} {l:List Value} (h:dK w F ow 0 [k,k'] ds l) :
  ∃d y d' y',ds=[d,d']∧l=[y,y']∧iq w F (fun g=>ow g=some 0) k d y∧iq w F (fun g=>ow g=some 1) k' d' y':=by
 obtain⟨h1,h2⟩:=sF _ _ _ _ h
 match ds,l,h1,h2,h with
 | [d,d'],[y,y'],_,_,h=>exact⟨d,y,d',y',rfl,rfl,h.1,h.2.1⟩
theorem Gh {w:World} {F own:Nat→Prop} {lv:Nat} {x y:Value} (h:iq w F own (.dat lv) (.v x) y):y=x∧flat x=true:=by
 rcases h with h | h
 ·cases h
 ·exact fB.1 h
theorem yB {S:FS} {args:Array Value} {rs:List D} {vs:List Value} {w w':World} {F:Nat→Prop} {ow:Nat→Option Nat} (R:Nat→Option Nat) (hB:Below w.heap.size w w') (hF:∀b,F b→b<w.heap.size∧ow b=none)
  (hR:∀b j,R b=some j→w.heap.size≤b∧b<w'.heap.size) (hio:(S.pm.all fun k=>!nh k)=true) (hl:S.pm.length=args.size) (h1:vs.length=S.rm.length) (h2:rs.length=S.rm.length)
  (hres:∀j,yt w' F w.heap.size (fun g=>R g=some j) (af S.rm j) (nth rs j) (vs.getD j undef)):CallPost S args rs [] w F ow F R vs w' :=
 ⟨hB.os,hB.tape,hB.output,hB.size,fun b hb _=>hB.block b hb,fun _ h=>h,fun b hb=>⟨.inl hb,Nat.lt_of_lt_of_le (hF b hb).1 hB.size,by
  cases h:R b with
  | none=>rfl
  | some j=>exact absurd (hR b j h).1 (Nat.not_le.2 (hF b hb).1)⟩,hR,h1,h2,hres,vx _ _ hio (by simpa using hl)⟩
theorem qE {S:FS} {args:Array Value} {w w':World} {F:Nat→Prop} {ow:Nat→Option Nat} (hB:Below w.heap.size w w') (hF:∀b,F b→b<w.heap.size∧ow b=none) (hio:(S.pm.all fun k=>!nh k)=true) (hl:S.pm.length=args.size)
  (rs:List D) (vs:List Value) (hrm:S.rm=rs.map fun _=>.dat 0) (hv:vs.length=rs.length) (h:∀(j:Nat) (d:D),rs[j]?=some d→∃y:Value,vs[j]?=some y∧bj w' (fun _=>False) d y):CallPost S args rs [] w F ow F (fun _=>none) vs w':=by
 refine yB _ hB hF (fun b j h=>by cases h) hio hl (by rw [hrm,hv];simp) (by rw [hrm];simp) (fun j=>?_)
 rw [cP,Hj];cases hj:rs[j]? with
 | none=>exact .inl rfl
 | some d =>
  obtain⟨y,h1,h2⟩:=h j d hj;have hk:af S.rm j = .dat 0:=by
   rw [hrm];clear hrm h hv h1 h2;induction rs generalizing j with
   | nil=>simp at hj
   | cons r rs ih =>
    cases j with
    | zero=>rfl
    | succ j=>exact ih j (by simpa using hj)
  refine .inr ?_
  rw [hk,Hj,h1];exact aS (fun b hb=>hb.elim) (fun _ _=>rfl) h2
end
end Go.V

namespace Go.V
open Go.RowKit Go.Shelf
set_option maxRecDepth 100000
section
variable {P:Program} {ρ:Ren} {G:List (Nat × (Obj→Prop))}
def py (o:Obj):Prop:=∃e fr,o = .cells (HA.map fun z=>Value.int .u64 z).toArray e fr
def Fz (g:Nat) (o:Obj):Prop:=∃m,∀w:World,w.heap[g]?=some o→w.cell? ⟨g,0,none⟩=some (.int .i64 m)
theorem Ci {w:World} {g:Nat} {m:Int} (h:w.cell? ⟨g,0,none⟩=some (.int .i64 m)):∃o,w.heap[g]?=some o∧Fz g o:=by
 cases ho:w.heap[g]? with
 | none=>simp [World.cell?,ho] at h
 | some o=>exact⟨o,rfl,m,fun w' hw'=>(World.cell?_of_block (w:=w) (hw'.trans ho.symm)).trans h⟩
theorem zP {w:World} {g:Nat} (hn:P.globalNamed "internal/strconv.uint64pow10"=some g) (h:HE P w "internal/strconv.uint64pow10" .u64 HA):∃o,w.heap[g]?=some o∧py o:=by
 simp only [HE,World.var?,hn,Ic] at h;split at h
 ·rename_i cs e fr ho
  cases h;exact⟨_,ho,e,fr,rfl⟩
 ·cases h
theorem Fh {w:World} {F:Nat→Prop} {g:Nat} (hg:gOk G w F) (hm:(g,py)∈G) (hn:P.globalNamed "internal/strconv.uint64pow10"=some g):HE P w "internal/strconv.uint64pow10" .u64 HA:=by
 obtain⟨_,o,ho,e,fr,rfl⟩:=hg _ hm;simp [HE,World.var?,hn,ho]
theorem GM {args:Array Value} {y y':Value} (h:args.toList=[y,y']):args=#[y,y']:=by
 apply Array.ext';rw [h]
theorem GI {args:Array Value} {y:Value} (h:args.toList=[y]):args=#[y]:=by
 apply Array.ext';rw [h]
def vB:List D→Option Out
 | [.v (.int .i64 n)]=>if -9223372036854775808≤n∧n≤9223372036854775807 then some (.ret [T ⟨(Lib.itoa n).toArray⟩] []) else none
 | _=>none
@[reducible] def DT:FS:={pm:=[.dat 0],rm:=[.dat 0],f:=vB}
theorem FP (L:Go.Proofs.LaysM.n171 P ρ) {f:Nat} (hf:ρ.f 171=f) {g:Nat} (hm:(g,py)∈G) (hn:P.globalNamed "internal/strconv.uint64pow10"=some g):ay G P f DT:=by
 subst hf;have he:∀args w,(callFunc (ρ.f 171) args).run P w = .ok (.enter (ρ.f 171) args) w:=HY L.f171 (by kernel_rfl) rfl;refine jf he fun ds rs us hd args w F ow hg ha hF _=>?_
 obtain⟨d,y,rfl,h2,h3⟩:=CU ha;replace hd:vB [d]=some (.ret rs us):=hd;unfold vB at hd;split at hd
 case h_2=>cases hd
 rename_i n e;cases e;split at hd
 case isFalse=>cases hd
 rename_i hr;cases hd;obtain⟨rfl,_⟩:=Gh h3;rw [GI h2];refine(Go.Proofs.Any.strconv_Itoa L n hr.1 hr.2 w (Fh hg hm hn)).mono ?_
 rintro e w' ⟨rfl,k,os,rfl⟩;refine⟨_,rfl,F,_,[_],rfl,qE (below_itoa w k os) hF rfl rfl [_] [_] rfl rfl fun j d hj=>?_⟩
 match j,hj with
 | 0,hj =>
  simp only [Hw,Hh] at hj;subst hj;exact⟨_,rfl,ce rfl⟩
where
 below_itoa (w:World) (k:Nat) (os:Array Obj):Below w.heap.size w (HZ (w.drewN k) os) :=
  ⟨rfl,rfl,rfl,by simp [HZ,World.drewN],fun b hb=>by simp [HZ,World.drewN,Ho hb]⟩
end
end Go.V

namespace Go.V
open Go.RowKit Go.Shelf
set_option maxRecDepth 100000
section
variable {P:Program} {ρ:Ren} {G:List (Nat × (Obj→Prop))}
def cX:List D→Option (List ByteArray)
 | []=>some []
 | .v (.string s)::l=>(cX l).map (s::·)
 | _=>none
theorem qW:∀(l:List D) (xs:List ByteArray),cX l=some xs→l=xs.map T
 | [],xs,h=>by simp [cX] at h;subst h;rfl
 | .v (.string s)::l,xs,h=>by
  simp only [cX] at h;obtain⟨ys,h1,rfl⟩:=Hx.1 h;rw [qW l ys h1];rfl
 | .v (.bool _)::_,_,h=>by simp [cX] at h
 | .v (.int _ _)::_,_,h=>by simp [cX] at h
 | .arr _ _::_,_,h=>by simp [cX] at h
 | .agg _::_,_,h=>by simp [cX] at h
 | .ptr _::_,_,h=>by simp [cX] at h
 | .clo _ _::_,_,h=>by simp [cX] at h
 | .ifc::_,_,h=>by simp [cX] at h
 | .tup _::_,_,h=>by simp [cX] at h
 | .ref _ _::_,_,h=>by simp [cX] at h
 | .bad::_,_,h=>by simp [cX] at h
theorem vw:∀(xs:List ByteArray),cX (xs.map T)=some xs
 | []=>rfl
 | x::xs=>by simp [cX,vw xs]
theorem nq {w:World} {F:Nat→Prop}:∀(xs:List ByteArray) (us:List Value),aZ w F (xs.map T) us→us=xs.map Value.string
 | [],us,h=>aE.1 h
 | x::xs,us,h=>by
  obtain⟨v1,v2,rfl,h1,h2⟩:=aw.1 h;simp only [RepC] at h1;rw [nq xs v2 h2,h1.1];rfl
def ee (xs:List ByteArray) (sep:ByteArray):ByteArray:=⟨(Lib.join (xs.map (·.data.toList)) sep.data.toList).toArray⟩
def vu:List D→Option Out
 | [.arr _ l,.v (.string sep)]=>(cX l).bind fun xs=>if xs.length≤140737488355328∧(ee xs sep).size≤140737488355328 then some (.ret [T (ee xs sep)] []) else none
 | _=>none
@[reducible] def DU:FS:={pm:=[.dat 2,.dat 0],rm:=[.dat 0],f:=vu}
theorem FG (L:Go.Proofs.Lays.n156 P ρ) (X:Go.Proofs.Builder.Extra P ρ) {f:Nat} (hf:ρ.f 156=f):ay G P f DU:=by
 subst hf;have he:∀args w,(callFunc (ρ.f 156) args).run P w = .ok (.enter (ρ.f 156) args) w:=HY L.f156 (by kernel_rfl) rfl;refine jf he fun ds rs us hd args w F ow hg ha hF _=>?_
 obtain⟨d,y,d',y',rfl,h2,h3,h4⟩:=xt ha;replace hd:vu [d,d']=some (.ret rs us):=hd;unfold vu at hd;split at hd
 case h_2=>cases hd
 rename_i z l sep e;cases e;obtain⟨xs,hx,hd⟩:=Hi.1 hd;split at hd
 case isFalse=>cases hd
 rename_i hz;cases hd;obtain rfl:=qW _ _ hx;obtain⟨rfl,_⟩:=Gh h4;rcases h3 with h3 | h3
 ·cases h3
 simp only [bj,RepC] at h3;obtain⟨A,c,us,hy,hc,hr,_,hA⟩:=h3;simp only [List.cons.injEq,and_true] at hy;subst hy;have hus:=nq xs us hr;subst hus;rw [GM h2];by_cases hne:xs=[]
 ·subst hne
  refine(Go.Proofs.Any.strings_Join_none L X A c sep w).mono ?_
  rintro e w' ⟨rfl,rfl⟩;refine⟨_,rfl,F,_,[_],rfl,qE (Below.refl _ _) hF rfl rfl [_] [_] rfl rfl fun j d hj=>?_⟩
  match j,hj with
  | 0,hj =>
   simp only [Hw,Hh] at hj;subst hj;exact⟨_,rfl,fB.2 ⟨rfl,rfl⟩⟩
 ·obtain⟨b,o,rfl,hFb,hcells⟩:=hA (by simpa using hne)
  rw [Ih] at hc ⊢;refine(Go.Proofs.Any.strings_Join L X b o c xs sep w (fun j x hj=>hcells j _ (by simp [hj])) (hF b hFb).1 hz.1 hc (by simpa [ee,ByteArray.size] using hz.2)).mono ?_
  rintro e w' ⟨rfl,hB⟩;refine⟨_,rfl,F,_,[_],rfl,qE hB hF rfl rfl [_] [_] rfl rfl fun j d hj=>?_⟩
  match j,hj with
  | 0,hj =>
   simp only [Hw,Hh] at hj;subst hj;exact⟨_,rfl,fB.2 ⟨rfl,rfl⟩⟩
theorem rb {f:FuncId} {S:FS} (he:∀args w,(callFunc f args).run P w = .ok (.enter f args) w) (hm:ay G P f S) {ds rs us:List D} (hd:S.f ds=some (.ret rs us)) {args:Array Value} {w:World} {F:Nat→Prop} {ow:Nat→Option Nat}
  (hgl:gOk G w F) (ha:dK w F ow 0 S.pm ds args.toList) (hF:∀b,F b→b<w.heap.size∧ow b=none) (hO:∀b i,ow b=some i→b<w.heap.size) :
  Calls P f args w fun e w'=>∃v,e = .returned v∧∃F' R vs,v=iD vs∧CallPost S args rs us w F ow F' R vs w':=by
 have h2:=hm ds rs us hd args w F ow hgl ha hF hO {(default:Oper) with dst:=some 0} {tmps:=#[undef],defers:=[]} (fun a w'=>∃F' R vs,a.tmps.getD 0 undef=iD vs∧CallPost S args rs us w F ow F' R vs w') (fun _ _ _=>False) (fun v w' h=>by
  obtain⟨F',R,vs,rfl,h⟩:=h;exact⟨F',R,vs,by simp [Ii],h⟩)
 rw [he,Hr] at h2;refine Hz h2 fun e w' he=>?_
 cases e with
 | returned v =>
  obtain⟨F',R,vs,h3,h4⟩:=he;exact⟨v,rfl,F',R,vs,by simpa [Ii] using h3,h4⟩
 | panicked c=>exact he.elim
 | outgrown=>obtain⟨_,_,h⟩:=he;exact h.elim
end
end Go.V

namespace Go.V
open Go.RowKit Go.Shelf
set_option maxRecDepth 100000
section
variable {P:Program} {ρ:Ren} {G:List (Nat × (Obj→Prop))}
end
end Go.V

namespace Go.Proofs
open Go.Shelf
def Tryz.lays156_ren:Ia:=⟨fun | 156=>59 | 165=>97 | 166=>98 | 169=>99 | 240=>137 | 241=>138 | 276=>154 | 277=>155 | n=>n,fun | 31=>31 | 9=>9 | 3=>3 | 4=>4 | 0=>0 | 20=>20 | 72=>118 | 76=>122 | 70=>116 | 37=>22 | 75=>121 | 127=>148 | 164=>103 | 5=>5 | 80=>124 | n=>n,fun | n=>n⟩
theorem Tryz.lays156:Go.Proofs.Lays.n156 Tryz.prog Tryz.lays156_ren:={
 mixed:=by kernel_rfl
 f156:=Tryz.func59.trans (congrArg some (by kernel_rfl))
 f165:=Tryz.func97.trans (congrArg some (by kernel_rfl))
 f166:=Tryz.func98.trans (congrArg some (by kernel_rfl))
 f169:=Tryz.func99.trans (congrArg some (by kernel_rfl))
 f240:=Tryz.func137.trans (congrArg some (by kernel_rfl))
 f241:=Tryz.func138.trans (congrArg some (by kernel_rfl))
 f276:=Tryz.func154.trans (congrArg some (by kernel_rfl))
 f277:=Tryz.func155.trans (congrArg some (by kernel_rfl))
 t0:=Tryz.underlying0
 a0:=Tryz.isAgg0
 z0:=Tryz.sizeOf0
 v0:=Tryz.zeroValue0
 t3:=Tryz.underlying3
 a3:=Tryz.isAgg3
 z3:=Tryz.sizeOf3
 v3:=Tryz.zeroValue3
 t4:=Tryz.underlying4
 a4:=Tryz.isAgg4
 z4:=Tryz.sizeOf4
 v4:=Tryz.zeroValue4
 t9:=Tryz.underlying9
 a9:=Tryz.isAgg9
 z9:=Tryz.sizeOf9
 v9:=Tryz.zeroValue9
 t20:=Tryz.underlying20
 a20:=Tryz.isAgg20
 z20:=Tryz.sizeOf20
 v20:=Tryz.zeroValue20
 t31:=Tryz.underlying31
 a31:=Tryz.isAgg31
 z31:=Tryz.sizeOf31
 v31:=Tryz.zeroValue31
 t37:=Tryz.underlying22
 a37:=Tryz.isAgg22
 z37:=Tryz.sizeOf22
 v37:=Tryz.zeroValue22
 t70:=Tryz.underlying116
 a70:=Tryz.isAgg116
 z70:=Tryz.sizeOf116
 v70:=Tryz.zeroValue116
 t72:=Tryz.underlying118
 a72:=Tryz.isAgg118
 z72:=Tryz.sizeOf118
 v72:=Tryz.zeroValue118
 t75:=Tryz.underlying121
 a75:=Tryz.isAgg121
 z75:=Tryz.sizeOf121
 v75:=Tryz.zeroValue121
 t76:=Tryz.underlying122
 a76:=Tryz.isAgg122
 z76:=Tryz.sizeOf122
 v76:=Tryz.zeroValue122
 t127:=Tryz.underlying148
 a127:=Tryz.isAgg148
 z127:=Tryz.sizeOf148
 v127:=Tryz.zeroValue148
 t164:=Tryz.underlying103
 a164:=Tryz.isAgg103
 z164:=Tryz.sizeOf103
 v164:=Tryz.zeroValue103}
theorem Tryz.Builder_Extra_156:Builder.Extra Tryz.prog Tryz.lays156_ren:={
 sizeBuilder:=by kernel_rfl
 liesBuilder:=by kernel_rfl
 t5:=Tryz.underlying5
 a5:=Tryz.isAgg5
 z5:=Tryz.sizeOf5
 v5:=Tryz.zeroValue5
 infoByte:=by kernel_rfl
 cellsByte:=by kernel_rfl
 sizeByte:=by kernel_rfl
 neB5:=by decide}
def Tryz.laysM171_ren:Ia:=⟨fun | 171=>58 | 243=>96 | 246=>136 | 283=>150 | 284=>151 | 285=>152 | 286=>153 | 129=>163 | 317=>162 | 318=>164 | 319=>165 | 320=>166 | 337=>170 | 338=>171 | n=>n,fun | 3=>3 | 9=>9 | 2=>2 | 4=>4 | 171=>154 | 0=>0 | 53=>66 | 37=>22 | 5=>5 | 173=>157 | 212=>168 | 51=>169 | 20=>20 | 213=>170 | 46=>137 | 232=>183 | 233=>184 | n=>n,fun | 17=>1 | 18=>4 | 19=>5 | n=>n⟩
theorem Tryz.laysM171:Go.Proofs.LaysM.n171 Tryz.prog Tryz.laysM171_ren:={
 mixed:=by kernel_rfl
 f129:=Tryz.func163.trans (congrArg some (by kernel_rfl))
 f171:=Tryz.func58.trans (congrArg some (by kernel_rfl))
 f243:=Tryz.func96.trans (congrArg some (by kernel_rfl))
 f246:=Tryz.func136.trans (congrArg some (by kernel_rfl))
 f283:=Tryz.func150.trans (congrArg some (by kernel_rfl))
 f284:=Tryz.func151.trans (congrArg some (by kernel_rfl))
 f285:=Tryz.func152.trans (congrArg some (by kernel_rfl))
 f286:=Tryz.func153.trans (congrArg some (by kernel_rfl))
 f317:=Tryz.func162.trans (congrArg some (by kernel_rfl))
 f318:=Tryz.func164.trans (congrArg some (by kernel_rfl))
 f319:=Tryz.func165.trans (congrArg some (by kernel_rfl))
 f320:=Tryz.func166.trans (congrArg some (by kernel_rfl))
 f337:=Tryz.func170.trans (congrArg some (by kernel_rfl))
 f338:=Tryz.func171.trans (congrArg some (by kernel_rfl))
 t0:=Tryz.underlying0
 a0:=Tryz.isAgg0
 z0:=Tryz.sizeOf0
 v0:=Tryz.zeroValue0
 t2:=Tryz.underlying2
 a2:=Tryz.isAgg2
 z2:=Tryz.sizeOf2
 v2:=Tryz.zeroValue2
 t3:=Tryz.underlying3
 a3:=Tryz.isAgg3
 z3:=Tryz.sizeOf3
 v3:=Tryz.zeroValue3
 t4:=Tryz.underlying4
 a4:=Tryz.isAgg4
 z4:=Tryz.sizeOf4
 v4:=Tryz.zeroValue4
 t5:=Tryz.underlying5
 a5:=Tryz.isAgg5
 z5:=Tryz.sizeOf5
 v5:=Tryz.zeroValue5
 t9:=Tryz.underlying9
 a9:=Tryz.isAgg9
 z9:=Tryz.sizeOf9
 v9:=Tryz.zeroValue9
 t20:=Tryz.underlying20
 a20:=Tryz.isAgg20
 z20:=Tryz.sizeOf20
 v20:=Tryz.zeroValue20
 t37:=Tryz.underlying22
 a37:=Tryz.isAgg22
 z37:=Tryz.sizeOf22
 v37:=Tryz.zeroValue22
 t46:=Tryz.underlying137
 a46:=Tryz.isAgg137
 z46:=Tryz.sizeOf137
 v46:=Tryz.zeroValue137
 t51:=Tryz.underlying169
 a51:=Tryz.isAgg169
 z51:=Tryz.sizeOf169
 v51:=Tryz.zeroValue169
 t53:=Tryz.underlying66
 a53:=Tryz.isAgg66
 z53:=Tryz.sizeOf66
 v53:=Tryz.zeroValue66
 t171:=Tryz.underlying154
 a171:=Tryz.isAgg154
 z171:=Tryz.sizeOf154
 v171:=Tryz.zeroValue154
 t173:=Tryz.underlying157
 a173:=Tryz.isAgg157
 z173:=Tryz.sizeOf157
 v173:=Tryz.zeroValue157
 t212:=Tryz.underlying168
 a212:=Tryz.isAgg168
 z212:=Tryz.sizeOf168
 v212:=Tryz.zeroValue168
 t213:=Tryz.underlying170
 a213:=Tryz.isAgg170
 z213:=Tryz.sizeOf170
 t232:=Tryz.underlying183
 a232:=Tryz.isAgg183
 z232:=Tryz.sizeOf183
 v232:=Tryz.zeroValue183
 t233:=Tryz.underlying184
 a233:=Tryz.isAgg184
 z233:=Tryz.sizeOf184
 v233:=Tryz.zeroValue184
 g17:=by kernel_rfl
 g18:=by kernel_rfl
 g19:=by kernel_rfl
 i0:=by kernel_rfl
 i2:=by kernel_rfl
 i3:=by kernel_rfl
 i4:=by kernel_rfl
 i5:=by kernel_rfl
 i9:=by kernel_rfl
 i20:=by kernel_rfl
 i37:=by kernel_rfl
 i46:=by kernel_rfl
 i51:=by kernel_rfl
 i53:=by kernel_rfl
 i171:=by kernel_rfl
 i173:=by kernel_rfl
 i212:=by kernel_rfl
 i232:=by kernel_rfl
 i233:=by kernel_rfl
 m17:=by kernel_rfl
 m18:=by kernel_rfl
 m19:=by kernel_rfl}
def Tryz.laysGt8_ren:Ia:=⟨fun | 8=>44 | 13=>84 | 14=>85 | 16=>87 | 15=>86 | 29=>125 | 30=>126 | 42=>145 | 49=>161 | n=>n,fun | 20=>20 | 26=>73 | 36=>106 | 0=>0 | 38=>108 | 42=>112 | 3=>3 | 4=>4 | 47=>137 | 17=>17 | 33=>103 | 34=>104 | 89=>196 | 12=>12 | 56=>169 | 82=>190 | 5=>5 | 83=>191 | 84=>192 | 85=>148 | 86=>193 | 87=>194 | n=>n,fun | n=>n⟩
theorem Tryz.laysGt8:Go.Proofs.LaysGt.n8 Tryz.prog Tryz.laysGt8_ren:={
 mixed:=by kernel_rfl
 f8:=Tryz.func44.trans (congrArg some (by kernel_rfl))
 f13:=Tryz.func84.trans (congrArg some (by kernel_rfl))
 f14:=Tryz.func85.trans (congrArg some (by kernel_rfl))
 f15:=Tryz.func86.trans (congrArg some (by kernel_rfl))
 f16:=Tryz.func87.trans (congrArg some (by kernel_rfl))
 f29:=Tryz.func125.trans (congrArg some (by kernel_rfl))
 f30:=Tryz.func126.trans (congrArg some (by kernel_rfl))
 f42:=Tryz.func145.trans (congrArg some (by kernel_rfl))
 f49:=Tryz.func161.trans (congrArg some (by kernel_rfl))
 t0:=Tryz.underlying0
 a0:=Tryz.isAgg0
 z0:=Tryz.sizeOf0
 v0:=Tryz.zeroValue0
 i0:=by kernel_rfl
 t3:=Tryz.underlying3
 a3:=Tryz.isAgg3
 z3:=Tryz.sizeOf3
 v3:=Tryz.zeroValue3
 i3:=by kernel_rfl
 t4:=Tryz.underlying4
 a4:=Tryz.isAgg4
 z4:=Tryz.sizeOf4
 v4:=Tryz.zeroValue4
 i4:=by kernel_rfl
 t5:=Tryz.underlying5
 a5:=Tryz.isAgg5
 z5:=Tryz.sizeOf5
 v5:=Tryz.zeroValue5
 i5:=by kernel_rfl
 t12:=Tryz.underlying12
 a12:=Tryz.isAgg12
 z12:=Tryz.sizeOf12
 v12:=Tryz.zeroValue12
 i12:=by kernel_rfl
 t17:=Tryz.underlying17
 a17:=Tryz.isAgg17
 z17:=Tryz.sizeOf17
 v17:=Tryz.zeroValue17
 i17:=by kernel_rfl
 t20:=Tryz.underlying20
 a20:=Tryz.isAgg20
 z20:=Tryz.sizeOf20
 v20:=Tryz.zeroValue20
 i20:=by kernel_rfl
 t26:=Tryz.underlying73
 a26:=Tryz.isAgg73
 z26:=Tryz.sizeOf73
 v26:=Tryz.zeroValue73
 i26:=by kernel_rfl
 t33:=Tryz.underlying103
 a33:=Tryz.isAgg103
 z33:=Tryz.sizeOf103
 v33:=Tryz.zeroValue103
 i33:=by kernel_rfl
 t34:=Tryz.underlying104
 a34:=Tryz.isAgg104
 z34:=Tryz.sizeOf104
 v34:=Tryz.zeroValue104
 i34:=by kernel_rfl
 t36:=Tryz.underlying106
 a36:=Tryz.isAgg106
 z36:=Tryz.sizeOf106
 v36:=Tryz.zeroValue106
 i36:=by kernel_rfl
 t38:=Tryz.underlying108
 a38:=Tryz.isAgg108
 z38:=Tryz.sizeOf108
 v38:=Tryz.zeroValue108
 i38:=by kernel_rfl
 t42:=Tryz.underlying112
 a42:=Tryz.isAgg112
 z42:=Tryz.sizeOf112
 v42:=Tryz.zeroValue112
 i42:=by kernel_rfl
 t47:=Tryz.underlying137
 a47:=Tryz.isAgg137
 z47:=Tryz.sizeOf137
 v47:=Tryz.zeroValue137
 i47:=by kernel_rfl
 t56:=Tryz.underlying169
 a56:=Tryz.isAgg169
 z56:=Tryz.sizeOf169
 v56:=Tryz.zeroValue169
 i56:=by kernel_rfl
 t82:=Tryz.underlying190
 a82:=Tryz.isAgg190
 z82:=Tryz.sizeOf190
 v82:=Tryz.zeroValue190
 i82:=by kernel_rfl
 t83:=Tryz.underlying191
 a83:=Tryz.isAgg191
 z83:=Tryz.sizeOf191
 v83:=Tryz.zeroValue191
 i83:=by kernel_rfl
 t84:=Tryz.underlying192
 a84:=Tryz.isAgg192
 z84:=Tryz.sizeOf192
 v84:=Tryz.zeroValue192
 i84:=by kernel_rfl
 t85:=Tryz.underlying148
 a85:=Tryz.isAgg148
 z85:=Tryz.sizeOf148
 v85:=Tryz.zeroValue148
 i85:=by kernel_rfl
 t86:=Tryz.underlying193
 a86:=Tryz.isAgg193
 z86:=Tryz.sizeOf193
 v86:=Tryz.zeroValue193
 i86:=by kernel_rfl
 t87:=Tryz.underlying194
 a87:=Tryz.isAgg194
 z87:=Tryz.sizeOf194
 v87:=Tryz.zeroValue194
 i87:=by kernel_rfl
 t89:=Tryz.underlying196
 a89:=Tryz.isAgg196
 z89:=Tryz.sizeOf196
 v89:=Tryz.zeroValue196
 i89:=by kernel_rfl}
end Go.Proofs
namespace Go.Proofs.YtepkkkphfmckdaaGreatDoor
open Go Go.V Go.Shelf
set_option maxRecDepth 100000
def gl0:List (Nat × (Obj→Prop)):=[(0,Fz 0)]
def gl1:List (Nat × (Obj→Prop)):=gl0++[(1,py)]
theorem mW:∀p∈gl0,p∈gl1:=fun _ hp=>List.mem_append_left _ hp
@[reducible] def ma:FS:=DT
theorem tn:ay gl1 Tryz.prog 58 ma:=FP Tryz.laysM171 (by kernel_rfl) (show(1,py)∈gl1 by simp [gl0,gl1]) (by kernel_rfl)
@[reducible] def lV:FS:=DU
theorem tS:ay gl0 Tryz.prog 59 lV:=FG Tryz.lays156 Tryz.Builder_Extra_156 (by kernel_rfl)
end Go.Proofs.YtepkkkphfmckdaaGreatDoor

namespace Go.V
open Go.RowKit Go.WideShapes Go.ChangeShapes
set_option maxRecDepth 100000
mutual
inductive Sh where
 | int (k:IntKind)
 | bool
 | str
 | sl (e:Sh)
 | st (l:ShL)
inductive ShL where
 | nil
 | cons (h:Sh) (t:ShL)
end
mutual
def Sh.size:Sh→Nat
 | .int _=>1
 | .bool=>1
 | .str=>1
 | .sl _=>1
 | .st l=>l.size
def ShL.size:ShL→Nat
 | .nil=>0
 | .cons h t=>h.size+t.size
end
def Sh.isSt:Sh→Bool
 | .st _=>true
 | _=>false
mutual
def Sh.flat:Sh→Bool
 | .int _=>true
 | .bool=>true
 | .str=>true
 | .sl _=>false
 | .st l=>l.flat
def ShL.flat:ShL→Bool
 | .nil=>true
 | .cons h t=>h.flat&&t.flat
end
def wrap (ag:Bool) (m:List D):D:=if ag then .agg m else nth m 0
mutual
def Sh.Is:Sh→List D→Prop
 | .int k,l=>∃n,l=[.v (.int k n)]∧k.min≤n∧n≤k.max
 | .bool,l=>∃b,l=[B b]
 | .str,l=>∃s,l=[T s]∧s.size≤maxLen
 | .sl e,l=>∃ds,l=[.arr e.size ds]∧ds.length≤maxLen∧∀d∈ds,∃m,e.Is m∧d=wrap e.isSt m
 | .st fs,l=>fs.Is l
def ShL.Is:ShL→List D→Prop
 | .nil,l=>l=[]
 | .cons h t,l=>∃a b,l=a++b∧h.Is a∧t.Is b
end
mutual
def Sh.ok (P:Program):Sh→TypeId→Bool
 | .int k,t=>match P.underlying t with
  | some (.int k')=>decide (k'=k)
  | _=>false
 | .bool,t=>match P.underlying t with
  | some .bool=>true
  | _=>false
 | .str,t=>match P.underlying t with
  | some .string=>true
  | _=>false
 | .sl e,t=>match P.underlying t with
  | some (.slice u)=>e.ok P u&&decide (P.cellsOf u=e.size)&&decide (0<e.size)
  | _=>false
 | .st l,t=>match P.underlying t with
  | some (.struct fs)=>l.ok P 0 fs.toList&&decide (P.cellsOf t=l.size)
  | _=>false
def ShL.ok (P:Program):ShL→Nat→List Field→Bool
 | .nil,_,[]=>true
 | .cons h t,off,f::fs=>decide (f.offset=off)&&h.ok P f.type&&decide (P.cellsOf f.type=h.size)&&t.ok P (off+h.size) fs
 | _,_,_=>false
end
section
variable {H:Type} {enc:TypeId × Value→H} {P:Program} {W:World}
theorem Sh.len_one {sh:Sh} (h:sh.isSt=false):sh.size=1:=by
 cases sh<;>simp_all [Sh.isSt,Sh.size]
theorem DP {a:Addr} {n:Nat} {vs:List Value} (h:W.cells? 0 a n=some vs):vs.length=n∧∀i u,vs[i]?=some u→W.cell? (a.add i)=some u:=by
 simp only [World.cells?,Nat.zero_le,if_true] at h;have hl:=mapM_some_length h;rw [List.length_range] at hl;refine⟨hl,fun i u hu=>?_⟩
 have hi:i<n:=by
  rw [←hl];exact(Hl.1 hu).1
 rw [mapM_some_get h i i (by simp [hi]),hu]
theorem El (a:Addr) (i j:Nat):(a.add i).add j=a.add (i+j):=by
 unfold Addr.add;by_cases hi:i=0<;>by_cases hj:j=0<;>simp [hi,hj,Nat.add_assoc]
theorem BX {a:Addr} {u:Value} (h:W.cell? a=some u):a.spot=none∧a.block<W.heap.size:=by
 unfold World.cell? at h;split at h
 case h_2=>cases h
 rename_i hb;split at h
 ·cases h
 rename_i hs;refine⟨by simpa using hs,?_⟩
 rcases Nat.lt_or_ge a.block W.heap.size with h' | h'
 ·exact h'
 ·rw [Array.getElem?_eq_none h'] at hb;cases hb
theorem gU {F:Nat→Prop} {d:D} {vs:List Value}:aZ W F [d] vs↔RepC W F d vs:=by
 rw [aw];constructor
 ·rintro⟨v1,v2,rfl,h1,h2⟩
  rw [aE.1 h2,List.append_nil];exact h1
 ·intro h
  exact⟨vs,[],by simp,h,aE.2 rfl⟩
theorem Bo {F:Nat→Prop} {sh:Sh} {L:List D} {vs:List Value} (hr:aZ W F L vs) (hs:L.all D.single=true) (hl:L.length=sh.size):RepC W F (wrap sh.isSt L) vs∧(wrap sh.isSt L).width=sh.size:=by
 cases hb:sh.isSt
 ·have h1:=Sh.len_one hb
  match L,hl.trans h1 with
  | [d],_ =>
   simp only [wrap,Hk,if_false,nth];refine⟨gU.1 hr,?_⟩
   rw [h1];exact(cV (by simpa using hs)).1
 ·simp only [wrap,if_true]
  refine⟨by rw [RepC];exact⟨hr,hs⟩,?_⟩
  simpa [D.width,D.cells] using hl
mutual
theorem Sh.opened:∀(sh:Sh) (t:TypeId) (fuel:Nat) (cs:List Value) (x:DataW H × List MemPlace),sh.ok P t=true→DataW.trod enc P W 0 (fun _=>true) true fuel t cs=some x →
  ∃L,sh.Is L∧aZ W (·<W.heap.size) L cs∧L.all D.single=true∧L.length=sh.size
 | .int k,t,fuel,cs,x,hok,h=>by
  simp only [Sh.ok] at hok;split at hok
  case h_2=>cases hok
  rename_i k' hu;have hk:=of_decide_eq_true hok;subst hk;obtain⟨n,rfl,-,hw⟩:=DataW.trod_int hu h;simp only [Lit.wf,Hg,decide_eq_true_eq] at hw;refine⟨[.v (.int k' n)],⟨n,rfl,hw⟩,gU.2 ?_,rfl,rfl⟩
  simp [RepC,V.flat]
 | .bool,t,fuel,cs,x,hok,h=>by
  simp only [Sh.ok] at hok;split at hok
  case h_2=>cases hok
  rename_i hu;obtain⟨n,rfl,-⟩:=DataW.trod_bool hu h;refine⟨[B n],⟨n,rfl⟩,gU.2 ?_,rfl,rfl⟩
  simp [RepC,V.flat]
 | .str,t,fuel,cs,x,hok,h=>by
  simp only [Sh.ok] at hok;split at hok
  case h_2=>cases hok
  rename_i hu;obtain⟨s,rfl,-,hw⟩:=DataW.trod_string hu h;refine⟨[T s],⟨s,rfl,hw⟩,gU.2 ?_,rfl,rfl⟩
  simp [RepC,V.flat]
 | .sl e,t,fuel,cs,x,hok,h=>by
  simp only [Sh.ok] at hok;split at hok
  case h_2=>cases hok
  rename_i u hu;simp only [Hg,decide_eq_true_eq] at hok;obtain⟨⟨hok,hz⟩,hpos⟩:=hok;rcases DataW.trod_slice hu h with ⟨rfl,-⟩ | ⟨a,len,cap,elems,rest,n,rfl,rfl,-,-,hle,hcap,hlen,hel,-⟩
  ·refine⟨[.arr e.size []],⟨[],rfl,by simp,by simp⟩,gU.2 ?_,rfl,rfl⟩
   rw [RepC];exact⟨none,0,[],rfl,HI _,aE.2 rfl,by simp,by simp⟩
  ·have key:∀k,k≤len→∃ds us,ds.length=k∧us.length=k*e.size∧aZ W (·<W.heap.size) ds us∧(∀d∈ds,d.width=e.size)∧(∀d∈ds,∃m,e.Is m∧d=wrap e.isSt m)∧∀i v,us[i]?=some v→W.cell? (a.add i)=some v:=by
    intro k;induction k with
    | zero=>exact fun _=>⟨[],[],rfl,by simp,aE.2 rfl,by simp,by simp,by simp⟩
    | succ k ih =>
     intro hk;obtain⟨ds,us,h1,h2,h3,h4,h5,h6⟩:=ih (by omega);have hi:=hel k (by omega);rw [Hn (by omega)] at hi;obtain⟨vs,hc,hd⟩:=Hi.1 hi;obtain⟨L,g1,g2,g3,g4⟩:=Sh.opened e u n vs _ hok hd;obtain⟨g5,g6⟩:=DP hc;obtain⟨g7,g8⟩:=Bo g2 g3 g4;rw [hz] at g5 g6;refine⟨ds++[wrap e.isSt L],us++vs,by simp [h1],by simp [h2,g5,Nat.succ_mul],(bZ _ _ _).2 ⟨us,vs,rfl,h3,gU.2 g7⟩,?_,?_,fun i v hv=>?_⟩
     ·intro d hd
      rcases HB.1 hd with hd | hd
      ·exact h4 d hd
      ·simp at hd;subst hd;exact g8
     ·intro d hd
      rcases HB.1 hd with hd | hd
      ·exact h5 d hd
      ·simp at hd;subst hd;exact⟨L,g1,rfl⟩
     ·rcases Nat.lt_or_ge i us.length with hlt | hge
      ·rw [List.getElem?_append_left hlt] at hv
       exact h6 i v hv
      ·rw [List.getElem?_append_right hge] at hv
       have:=g6 _ v hv;rw [El,←h2] at this;rw [show us.length+(i - us.length)=i from by omega] at this;exact this
   obtain⟨ds,us,h1,h2,h3,h4,h5,h6⟩:=key len (HI _);refine⟨[.arr e.size ds],⟨ds,rfl,by omega,h5⟩,gU.2 ?_,rfl,rfl⟩
   rw [RepC];refine⟨some a,cap,us,by rw [h1],by omega,h3,h4,fun hne=>?_⟩
   have hpl:0<us.length:=by
    rw [h2,←h1];exact Nat.mul_pos (List.length_pos_iff.2 hne) hpos
   have h0:=h6 0 _ (Hn hpl);have ha0:a.add 0=a:=by simp [Addr.add]
   rw [ha0] at h0;obtain⟨hsp,hbl⟩:=BX h0;have ea:a=⟨a.block,a.off,none⟩:=by
    rw [←hsp]
   refine⟨a.block,a.off,by rw [←ea],hbl,fun i v hv=>?_⟩
   have:=h6 i v hv;unfold Addr.add at this;split at this
   ·rename_i hi0
    subst hi0;rw [Nat.add_zero,←ea];exact this
   ·rw [←hsp]
    rw [hsp];exact this
 | .st l,t,fuel,cs,x,hok,h=>by
  simp only [Sh.ok] at hok;split at hok
  case h_2=>cases hok
  rename_i fs hu;simp only [Hg,decide_eq_true_eq] at hok;obtain⟨xs,n,rfl,-,hlen,hxl,hf⟩:=DataW.trod_struct hu h;obtain⟨L,g1,g2,g3,g4⟩:=ShL.opened l 0 fs.toList n cs hok.1 (fun f hf'=>by
   obtain⟨i,hi,he⟩:=List.mem_iff_getElem.1 hf';have:=hf i f (by rw [←he];simp at hi ⊢);rw [Hn (by simp at hi;omega)] at this;exact⟨_,this⟩)
  rw [HK,←hok.2,←hlen,List.take_length] at g2;exact⟨L,g1,g2,g3,g4⟩
theorem ShL.opened:∀(l:ShL) (off:Nat) (fs:List Field) (fuel:Nat) (cs:List Value),l.ok P off fs=true→(∀f∈fs,∃x,DataW.trod enc P W 0 (fun _=>true) true fuel f.type ((cs.drop f.offset).take (P.cellsOf f.type))=some x) →
  ∃L,l.Is L∧aZ W (·<W.heap.size) L ((cs.drop off).take l.size)∧L.all D.single=true∧L.length=l.size
 | .nil,off,[],fuel,cs,hok,h=>⟨[],rfl,by simp [ShL.size,aE],rfl,rfl⟩
 | .nil,off,_::_,fuel,cs,hok,h=>by simp [ShL.ok] at hok
 | .cons a t,off,[],fuel,cs,hok,h=>by simp [ShL.ok] at hok
 | .cons a t,off,f::fs,fuel,cs,hok,h=>by
  simp only [ShL.ok,Hg,decide_eq_true_eq] at hok;obtain⟨⟨⟨h1,h2⟩,h3⟩,h4⟩:=hok;obtain⟨x,hx⟩:=h f (by simp);obtain⟨L,g1,g2,g3,g4⟩:=Sh.opened a f.type fuel _ x h2 hx;obtain⟨M,k1,k2,k3,k4⟩:=ShL.opened t (off+a.size) fs fuel cs h4 (fun f hf=>h f (by simp [hf]));refine⟨L++M,⟨L,M,rfl,g1,k1⟩,(bZ _ _ _).2 ⟨_,_,?_,g2,k2⟩,by simp [g3,k3],by simp [ShL.size,g4,k4]⟩
  rw [h1,h3,ShL.size,←List.drop_drop,←List.take_add]
end
def wI:D→Bool
 | .v _=>true
 | _=>false
theorem Es {L:List D} (h:L.all wI=true):(D.agg L).isV=true:=by
 simp only [D.isV];refine HH.2 fun d hd=>?_
 have:=HH.1 h d hd;cases d<;>simp_all [wI]
mutual
theorem Sh.isV_of:∀(sh:Sh) (L:List D),sh.flat=true→sh.Is L→L.all wI=true
 | .int k,L,_,h=>by obtain⟨n,rfl,_⟩:=h;rfl
 | .bool,L,_,h=>by obtain⟨n,rfl⟩:=h;rfl
 | .str,L,_,h=>by obtain⟨n,rfl,_⟩:=h;rfl
 | .sl _,L,h,_=>by simp [Sh.flat] at h
 | .st l,L,h,hl=>ShL.isV_of l L (by simpa [Sh.flat] using h) hl
theorem ShL.isV_of:∀(sh:ShL) (L:List D),sh.flat=true→sh.Is L→L.all wI=true
 | .nil,L,_,h=>by cases h;rfl
 | .cons a t,L,h,hl=>by
  obtain⟨x,y,rfl,h1,h2⟩:=hl;simp only [ShL.flat,Hg] at h;rw [List.all_append,Sh.isV_of a x h.1 h1,ShL.isV_of t y h.2 h2];rfl
end
def Sh.IsV (sh:Sh) (d:D):Prop:=∃m,sh.Is m∧d=wrap sh.isSt m
theorem Sh.arg {sh:Sh} {t:TypeId} {v:Value} {d:DataW H} {ps:List MemPlace} {base:Nat} (hok:sh.ok P t=true) (hv:HC P W .any base t v) (h:DataW.Trod enc P W 0 (fun _=>true) true t v d ps) :
  ∃x,sh.IsV x∧bj W (·<W.heap.size) x v∧(sh.flat=true→x.isV=true):=by
 obtain⟨fuel,h⟩:=h;obtain⟨L,h1,h2,h3,h4⟩:=Sh.opened sh t fuel _ _ hok h;refine⟨_,⟨L,h1,rfl⟩,?_,fun hf=>?_⟩
 ·cases hb:sh.isSt
  ·have h1':=Sh.len_one hb
   have hone:v.cells.toList=[v]:=by
    cases sh<;>simp only [Sh.isSt,Bool.true_eq_false] at hb<;>simp only [Sh.ok] at hok<;>split at hok<;>rename_i hu
    ·obtain⟨n,rfl⟩:=okWide_int hu hv;rfl
    ·cases hok
    ·obtain⟨n,rfl⟩:=okWide_bool hu hv;rfl
    ·cases hok
    ·obtain⟨n,rfl⟩:=okWide_string hu hv;rfl
    ·cases hok
    ·obtain⟨_,_,_,rfl⟩:=okWide_slice hu hv;rfl
    ·cases hok
   match L,h4.trans h1' with
   | [e],_ =>
    simp only [wrap,Hk,if_false,nth];have hs:e.single=true:=by simpa using h3
    rw [hone] at h2;exact(fw hs).2 (gU.1 h2)
  ·simp only [wrap,if_true]
   have:∃cs,v = .agg cs:=by
    cases sh<;>simp only [Sh.isSt,Hk] at hb;simp only [Sh.ok] at hok;split at hok
    case h_2=>cases hok
    rename_i hu;simp only [HC,hu] at hv;obtain⟨cs,h,_⟩:=hv;exact⟨cs,h⟩
   obtain⟨cs,rfl⟩:=this;refine⟨cs.toList,by simp,?_⟩
   rw [RepC];exact⟨by simpa [Value.cells] using h2,h3⟩
 ·have:=Sh.isV_of sh L hf h1
  cases hb:sh.isSt
  ·match L,h4.trans (Sh.len_one hb) with
   | [e],_ =>
    simp only [wrap,Hk,if_false,nth];cases e<;>simp [wI] at this;rfl
  ·simp only [wrap,if_true]
   exact Es this
theorem FK {k:IntKind} {x:D} (h:(Sh.int k).IsV x):∃n,x = .v (.int k n)∧k.min≤n∧n≤k.max:=by
 obtain⟨_,⟨n,rfl,h⟩,rfl⟩:=h;exact⟨n,rfl,h⟩
theorem Gy {e:Sh} {x:D} (h:(Sh.sl e).IsV x):∃ds,x = .arr e.size ds∧ds.length≤maxLen∧∀d∈ds,e.IsV d:=by
 obtain⟨_,⟨n,rfl,h,h'⟩,rfl⟩:=h;exact⟨n,rfl,h,h'⟩
def qJ (P:Program):List Sh→List TypeId→List Kd→Bool
 | [],[],[]=>true
 | sh::shs,t::ts,.dat lv::ks=>sh.ok P t&&(Hu lv 2||(Hu lv 0&&sh.flat))&&qJ P shs ts ks
 | _,_,_=>false
def xU:List Sh→List D→Prop
 | [],[]=>True
 | sh::shs,d::ds=>sh.IsV d∧xU shs ds
 | _,_=>False
theorem Fk {a b:Sh} {ds:List D} (h:xU [a,b] ds):∃x y,ds=[x,y]∧a.IsV x∧b.IsV y:=by
 match ds,h with
 | [x,y],⟨h1,h2,_⟩=>exact⟨x,y,rfl,h1,h2⟩
theorem Ae {base:Nat}:∀(shs:List Sh) (ts:List TypeId) (ks:List Kd) (vs:List Value) (ds:List (DataW H)) (ps:List MemPlace) (i:Nat),qJ P shs ts ks=true→Hp enc P W 0 (fun _=>true) true ts vs ds ps →
  (∀(j:Nat) t v,ts[j]?=some t→vs[j]?=some v→HC P W .any base t v)→∃xs,xU shs xs∧dK W (·<W.heap.size) (fun _=>none) i ks xs vs
 | [],[],[],[],_,_,_,_,_,_=>⟨[],trivial,trivial⟩
 | [],[],[],_::_,[],_,_,_,h,_=>h.elim
 | [],[],[],_::_,_::_,_,_,_,h,_=>h.elim
 | sh::shs,t::ts,k::ks,[],[],_,_,_,h,_=>h.elim
 | sh::shs,t::ts,k::ks,[],_::_,_,_,_,h,_=>h.elim
 | sh::shs,t::ts,k::ks,_::_,[],_,_,_,h,_=>h.elim
 | sh::shs,t::ts,k::ks,v::vs,d::ds,ps,i,hok,h,hv=>by
  cases k<;>simp only [qJ,Hk] at hok;rename_i lv;simp only [Hg,Bool.or_eq_true] at hok;obtain⟨⟨hok1,hlv⟩,hok2⟩:=hok;obtain⟨p,q,h1,h2,rfl⟩:=h;obtain⟨x,g1,g2,g3⟩:=Sh.arg hok1 (hv 0 t v rfl rfl) h1;obtain⟨xs,k1,k2⟩:=Ae shs ts ks vs ds q (i+1) hok2 h2 (fun j t v ht hv'=>hv (j+1) t v ht hv');refine⟨x::xs,⟨g1,k1⟩,.inr ?_,k2⟩
  rcases hlv with h' | ⟨h',hf⟩
  ·rw [au] at h'
   subst h';exact g2
  ·exact kA (g3 hf) g2
 | [],[],_::_,_,_,_,_,hok,_,_=>by simp [qJ] at hok
 | [],_::_,_,_,_,_,_,hok,_,_=>by simp [qJ] at hok
 | _::_,[],_,_,_,_,_,hok,_,_=>by simp [qJ] at hok
 | _::_,_::_,[],_,_,_,_,hok,_,_=>by simp [qJ] at hok
theorem nO {W':World} (hl:laidOutB P=true):∀(ts:List TypeId) (vs:List Value) (ds:List (DataW H)) (ps:List MemPlace),(ts.all fun t=>P.readableRec t&&decide (t<P.types.size))=true →
  Hp enc P W 0 (fun _=>true) true ts vs ds ps→Below W.heap.size W W'→(∀x∈ps,x.block<W.heap.size)→∀sp:Nat→Bool,(∀x∈ps,sp x.block=true)→Hp enc P W' 0 sp true ts vs ds ps
 | [],[],[],_,_,h,_,_,_,_=>h
 | [],_::_,[],_,_,h,_,_,_,_=>h.elim
 | [],[],_::_,_,_,h,_,_,_,_=>h.elim
 | [],_::_,_::_,_,_,h,_,_,_,_=>h.elim
 | _::_,[],[],_,_,h,_,_,_,_=>h.elim
 | _::_,[],_::_,_,_,h,_,_,_,_=>h.elim
 | _::_,_::_,[],_,_,h,_,_,_,_=>h.elim
 | t::ts,v::vs,d::ds,ps,hr,h,hb,hlt,sp,hsp=>by
  obtain⟨p,q,h1,h2,rfl⟩:=h;simp only [HU,Hg,decide_eq_true_eq] at hr;refine⟨p,q,?_,nO hl ts vs ds q hr.2 h2 hb (fun x hx=>hlt x (by simp [hx])) sp (fun x hx=>hsp x (by simp [hx])),rfl⟩
  exact WideElems.Trod_stays hl hr.1.1 hr.1.2 h1 (fun x hx=>hb.same (hlt x (by simp [hx]))) (fun x hx=>hsp x (by simp [hx]))
end
section
variable {H:Type} {enc:TypeId × Value→H} {P:Program}
theorem ux {f:Func} {s:ChangeSpec} {apart fresh handsOn again:Bool} {W W':World} {args:Array Value} {v:Value} {ds gs:List (DataW H)} {before pa pv:List MemPlace}
  (hW:DataW.Whole enc P f.params.toList s.vars apart W args.toList ds gs before)
  (hres:∀(b:Nat) (sp:Nat→Bool) (hd:Bool),Hp enc P W' b sp hd f.resultTypes.toList (v.resultList f.resultTypes.size) (s.fn H (ds++gs)).results [])
  (hargs:∀sp:Nat→Bool,(∀p∈before,sp p.block=true)→Hp enc P W' 0 sp true f.params.toList args.toList (s.fn H (ds++gs)).args pa)
  (hvars:∀sp:Nat→Bool,(∀p∈before,sp p.block=true)→DataW.TrodVars enc P W' sp s.vars (s.fn H (ds++gs)).vars pv)
  (hps:before=pa++pv) (hb:Below W.heap.size W W')
  (hok:∀(j:Nat) (t:TypeId) (r:Value),f.resultTypes[j]?=some t→(v.resultList f.resultTypes.size)[j]?=some r→HC P W' .any 0 t r) :
  s.post enc P f apart fresh handsOn again W args v W':=by
 have hlt:∀p∈before,p.block<W.heap.size:=fun p hp=>hW.lt p hp
 have hold:∀p∈before,(fun b=>decide (b<W.heap.size)) p.block=true:=fun p hp=>by simpa using hlt p hp
 refine⟨ds,gs,before,[],pa,pv,hW,hres _ _ _,hargs _ hold,hvars _ hold,World.keptBut_mono (fun p hp=>⟨hp,?_⟩) (hb.frame (·∈before)),fun _=>?_⟩
 ·rw [hps,HB] at hp
  exact Or.inr hp
 ·obtain⟨_,_,_,_,_,hz,hn⟩:=hW
  refine⟨hok,_,_,([]++pa)++pv,⟨[]++pa,pv,trodAll_append (hargs _ (fun _ _=>rfl)) (hres _ _ _),hvars _ (fun _ _=>rfl),rfl,?_,?_⟩,?_⟩
  ·intro b off hp
   have hin:MemPlace.cell b off∈before:=by rw [hps];simpa using hp
   rw [hb.frozen (hlt _ hin)];exact hz b off hin
  ·intro ha
   have:=hn ha;rw [hps] at this;simpa using this
  ·intro p hp _
   rw [hps];simpa using hp
theorem sq {G:List (Nat × (Obj→Prop))} {f:FuncId} {S:FS} (hm:ay G P f S) {fn:Func} (hf:P.funcs[f]?=some fn) (hname:(fn.name== "runtime.NumGoroutine")=false) (hb:fn.body.isSome=true) {ds rs us:List D} (hd:S.f ds=some (.ret rs us)) {args:Array Value} {w:World} {F:Nat→Prop} {ow:Nat→Option Nat}
  (hgl:gOk G w F) (ha:dK w F ow 0 S.pm ds args.toList) (hF:∀b,F b→b<w.heap.size∧ow b=none) (hO:∀b i,ow b=some i→b<w.heap.size) :
  Calls P f args w fun e w'=>∃v,e = .returned v∧∃F' R vs,v=iD vs∧CallPost S args rs us w F ow F' R vs w':=by
 obtain⟨b,hb⟩:=Ht.1 hb;have h1:¬fn.name= "runtime.NumGoroutine":=by simpa using hname
 have hrun:(callFunc f args).run P w = .ok (.enter f args) w:=by simp [callFunc,hf,h1,hb]
 have h2:=hm ds rs us hd args w F ow hgl ha hF hO {(default:Oper) with dst:=some 0} {tmps:=#[undef],defers:=[]} (fun a w'=>∃F' R vs,a.tmps.getD 0 undef=iD vs∧CallPost S args rs us w F ow F' R vs w') (fun _ _ _=>False) (fun v w' h=>by
  obtain⟨F',R,vs,rfl,h⟩:=h;exact⟨F',R,vs,by simp [Ii],h⟩)
 rw [hrun,Hr] at h2;refine Hz h2 fun e w' he=>?_
 cases e with
 | returned v =>
  obtain⟨F',R,vs,h3,h4⟩:=he;exact⟨v,rfl,F',R,vs,by simpa [Ii] using h3,h4⟩
 | panicked c=>exact he.elim
 | outgrown=>obtain⟨_,_,h⟩:=he;exact h.elim
theorem Dy {G:List (Nat × (Obj→Prop))} {f:FuncId} {S:FS} (hm:ay G P f S) {fn:Func} (hf:P.funcs[f]?=some fn) (hname:(fn.name== "runtime.NumGoroutine")=false) (hbd:fn.body.isSome=true) (shs:List Sh) {rt:TypeId}
  (hl:laidOutB P=true) (hsh:qJ P shs fn.params.toList S.pm=true) (hrd:(fn.params.toList.all fun t=>P.readableRec t&&decide (t<P.types.size))=true)
  (hrm:S.rm=[.dat 0]) (hrt:fn.resultTypes=#[rt]) (hbool:P.underlying rt=some .bool)
  (hd:∀ds,xU shs ds→S.f ds=some (.ret [B true] [])) {s:ChangeSpec} (hvars:s.vars=[])
  (hs:∀ds:List (DataW H),ds.length=fn.params.size→s.fn H (ds++[])={results:=[.lit (.bool true)],args:=ds})
  {W:World} {base:Nat} {args:Array Value} {ds gs:List (DataW H)} {before:List MemPlace}
  (hval:∀(j:Nat) t v,fn.params[j]?=some t→args[j]?=some v→HC P W .any base t v) (hW:DataW.Whole enc P fn.params.toList s.vars false W args.toList ds gs before) (hgl:gOk G W fun b=>b<W.heap.size) {fresh handsOn again:Bool} :
  Calls P f args W fun e W'=>∃v,e = .returned v∧s.post enc P fn false fresh handsOn again W args v W':=by
 have hW':=hW;have hlt:∀p∈before,p.block<W.heap.size:=fun p hp=>hW.lt p hp
 obtain⟨p,q,hA,hV,rfl,hfz,hnd⟩:=hW;rw [hvars] at hV;have hgs:gs=[]∧q=[]:=by
  cases gs with
  | nil=>exact⟨rfl,hV⟩
  | cons _ _=>exact hV.elim
 obtain⟨rfl,rfl⟩:=hgs;obtain⟨xs,h1,h2⟩:=Ae (base:=base) shs fn.params.toList S.pm args.toList ds p 0 hsh hA (fun j t v ht hv=>hval j t v (by simpa using ht) (by simpa using hv));refine Hz (sq hm hf hname hbd (hd xs h1) hgl h2 (fun b hb=>⟨hb,rfl⟩) (fun b i hi=>by cases hi)) fun e W' he=>?_
 obtain⟨v,rfl,F',R,vs,rfl,hp⟩:=he;refine⟨_,rfl,?_⟩
 have hlen:ds.length=fn.params.size:=by
  have:∀(ts:List TypeId) (vs:List Value) (ds:List (DataW H)) (ps:List MemPlace),Hp enc P W 0 (fun _=>true) true ts vs ds ps→ds.length=ts.length:=by
   intro ts;induction ts with
   | nil =>
    intro vs ds ps h;cases ds with
    | nil=>rfl
    | cons _ _=>cases vs<;>exact h.elim
   | cons t ts ih =>
    intro vs ds ps h;cases vs with
    | nil=>exact h.elim
    | cons v vs =>
     cases ds with
     | nil=>exact h.elim
     | cons d ds =>
      obtain⟨_,_,_,h2,_⟩:=h;simp [ih _ _ _ h2]
  simpa using this _ _ _ _ hA
 have hB:Below W.heap.size W W':=⟨hp.os,hp.tape,hp.output,hp.size,fun b hb=>hp.keep b hb rfl⟩
 have hres:iD vs = .bool true:=by
  have hl1:=hp.len;rw [hrm] at hl1
  match vs,hl1 with
  | [y],_ =>
   have h0:=hp.res 0;rw [hrm] at h0;simp only [af,nth,Hq] at h0;rcases h0 with h0 | h0
   ·cases h0
   ·exact(fB.1 h0).1
 rw [hres];have hsd:=hs ds hlen;refine ux (pa:=p) (pv:=[]) hW' (fun b sp hd'=>?_) (fun sp hsp=>?_) (fun sp _=>?_) rfl hB ?_
 ·rw [hsd,hrt]
  exact trodAll_mk1 (shut_bool hbool true)
 ·rw [hsd]
  exact nO hl _ _ _ _ hrd hA hB (fun x hx=>hlt x (by simp [hx])) sp (fun x hx=>hsp x (by simp [hx]))
 ·rw [hsd,hvars]
  rfl
 ·exact ok_one hrt rfl (okWide_bool_mk hbool true)
end
end Go.V

namespace Go.Proofs.YtepkkkphfmckdaaGreatDoor
open Go Go.V Go.RowKit Go.WideShapes Go.ChangeShapes
set_option maxRecDepth 100000
theorem own:ownKnob Tryz.prog.godebug=none:=by kernel_rfl
theorem ES:laidOutB Tryz.prog=true:=by kernel_rfl
theorem tw {w:World} {g:Nat} {p:Obj→Prop} (h:∃o,w.heap[g]?=some o∧p o):g<w.heap.size∧∃o,w.heap[g]?=some o∧p o:=by
 obtain⟨o,ho,hp⟩:=h;exact⟨(Array.getElem?_eq_some_iff.1 ho).1,o,ho,hp⟩
theorem FF {W:World} (hsh:W.ShapedOpen Tryz.prog):gOk gl0 W fun b=>b<W.heap.size:=by
 intro p hp;simp only [gl0,HS,Ie,or_false] at hp;subst hp;obtain⟨m,hm⟩:=Go.Proofs.cell_of_shapedOpen_int (g:=0) (zero:=#[.int .i64 0]) (t:=3) hsh (of_decide_eq_true (by kernel_rfl)) (by kernel_rfl) rfl (by kernel_rfl) (by kernel_rfl) Tryz.underlying3;exact tw (Ci hm)
theorem GR:Tryz.prog.globalNamed "internal/strconv.uint64pow10"=some 1:=by kernel_rfl
theorem FT {W:World} {rest:List (String × DataW Unit)} (h:laidMet Tryz.prog (("internal/strconv.uint64pow10",Rows.laid_internal_strconv_uint64pow10)::rest) W):HE Tryz.prog W "internal/strconv.uint64pow10" .u64 HA :=
 Lib.tabIs_of_head (rest:=rest) GR (by kernel_rfl) Tryz.underlying168 Tryz.underlying66 (by kernel_rfl) (by kernel_rfl) h
theorem FM {W:World} (hsh:W.ShapedOpen Tryz.prog) (hp:HE Tryz.prog W "internal/strconv.uint64pow10" .u64 HA):gOk gl1 W fun b=>b<W.heap.size:=by
 intro p hq;rcases HB.1 hq with hq | hq
 ·exact FF hsh p hq
 ·simp only [HS,Ie,or_false] at hq
  subst hq;exact tw (zP GR hp)
end Go.Proofs.YtepkkkphfmckdaaGreatDoor

namespace Go.V
open Go.RowKit
set_option maxRecDepth 100000
section
variable {P:Program} {c:Cx} {B:Nat} {X:Nat→Prop} {w0:World} {F0 F:Nat→Prop} {O:Nat→Option (Nat × Nat)} {a:Act} {w:World} {δ:List D} {fz:List Nat}
end
end Go.V

namespace Go.V
open Go.RowKit
set_option maxRecDepth 100000
section
variable {P:Program} {c:Cx} {B:Nat} {X:Nat→Prop} {w0:World} {F0 F:Nat→Prop} {O:Nat→Option (Nat × Nat)} {a:Act} {w:World} {δ:List D} {fz:List Nat}
end
end Go.V

namespace Go.V
set_option maxRecDepth 100000
section
variable {k:IntKind} {a b:Int} {bl:Bool} {eq:List Nat}
@[simp] theorem jE:bin .add bl eq (.v (.int k a)) (.v (.int k b))=some (.v (.int k (k.wrap (a+b)))):=by simp [bin,fm]
@[simp] theorem AK:bin .sub bl eq (.v (.int k a)) (.v (.int k b))=some (.v (.int k (k.wrap (a - b)))):=by simp [bin,fm]
@[simp] theorem As:bin .mul bl eq (.v (.int k a)) (.v (.int k b))=some (.v (.int k (k.wrap (a*b)))):=by simp [bin,fm]
@[simp] theorem pB:bin .quo bl eq (.v (.int k a)) (.v (.int k b))=if b=0 then none else some (.v (.int k (k.wrap (a.tdiv b)))):=by simp [bin,fm]
@[simp] theorem Ah:bin .rem bl eq (.v (.int k a)) (.v (.int k b))=if b=0 then none else some (.v (.int k (a.tmod b))):=by simp [bin,fm]
@[simp] theorem iH:bin .lss bl eq (.v (.int k a)) (.v (.int k b))=some (B (decide (a<b))):=by simp [bin,fm]
@[simp] theorem AL:bin .leq bl eq (.v (.int k a)) (.v (.int k b))=some (B (decide (a≤b))):=by simp [bin,fm]
@[simp] theorem Aq:bin .gtr bl eq (.v (.int k a)) (.v (.int k b))=some (B (decide (b<a))):=by simp [bin,fm]
@[simp] theorem AN:bin .geq bl eq (.v (.int k a)) (.v (.int k b))=some (B (decide (b≤a))):=by simp [bin,fm]
@[simp] theorem wy:bin .eql bl eq (.v (.int k a)) (.v (.int k b))=some (B (decide (a=b))):=by
 have:(a==b)=decide (a=b):=rfl;simp [bin,fm,this]
@[simp] theorem vY:bin .neq bl eq (.v (.int k a)) (.v (.int k b))=some (B (!decide (a=b))):=by
 have:(a != b) = !decide (a=b):=rfl;simp [bin,fm,this]
@[simp] theorem oB {a b:Bool}:bin .eql true eq (B a) (B b)=some (B (a==b)):=by simp [bin]
@[simp] theorem tP {a b:Bool}:bin .neq true eq (B a) (B b)=some (B !(a==b)):=by simp [bin]
@[simp] theorem pz {a b:ByteArray}:bin .add bl eq (T a) (T b)=if a.size+b.size≤1152921504606846976 then some (T (a++b)) else none:=by simp [bin,nW]
@[simp] theorem jh {a b:ByteArray}:bin .eql bl eq (T a) (T b)=some (B (decide (a=b))):=by
 have:(a.toList==b.toList)=decide (a=b):=by
  rw [Bool.eq_iff_iff,beq_iff_eq,decide_eq_true_eq];constructor
  ·intro h
   have h1:∀s:ByteArray,s.toList=s.data.toList:=fun s=>by simp [ByteArray.toList_eq]
   rw [h1,h1] at h;cases a;cases b;simp at h;simp [h]
  ·rintro rfl;rfl
 simp [bin,nW,this]
@[simp] theorem GS {a b:ByteArray}:bin .neq bl eq (T a) (T b)=some (B (!decide (a=b))):=by
 have h:=jh (a:=a) (b:=b) (bl:=bl) (eq:=eq);simp only [bin,nW,Hh,D.v.injEq,Value.bool.injEq] at h ⊢;rw [h]
@[simp] theorem CM {b:Bool}:un .not (B b)=some (B !b):=rfl
@[simp] theorem Hd:un .neg (.v (.int k a))=some (.v (.int k (k.wrap (-a)))):=by simp [un]
theorem wrap_id (h1 : -9223372036854775808≤a) (h2:a<9223372036854775808):IntKind.i64.wrap a=a:=by
 simp [IntKind.wrap,IntKind.bits,IntKind.signed];split<;>omega
end
@[simp] theorem lN {c:Bool} {t e:Option Out}:ifD (B c) t e=if c=true then t else e:=by cases c<;>rfl
@[simp] theorem Aj {c:Bool} {t e:Option Out}:ifN c t e=if c=true then t else e:=by cases c<;>rfl
@[simp] theorem Do {v:D} {c:Bool} {r:Option D}:ah v (B c) true r=if c=true then r else some v:=by cases c<;>rfl
@[simp] theorem Ch {v:D} {c:Bool} {r:Option D}:ah v (B c) false r=if c=true then some v else r:=by cases c<;>rfl
@[simp] theorem DG {v:D} {p:Bool} {l:List D} {r:Option D}:ah v (.tup l) p r=some v:=rfl
@[simp] theorem AR {p:Bool} {l:List D} {r:Option Out} {alt:List D} {k:List D→Option Out}:dJ (.tup l) p r alt k=k alt:=rfl
def Gc (r:Option Out) (k:List D→Option Out):Option Out :=
 match r with
 | some (.nrm l)=>k l
 | _=>none
@[simp] theorem vm {l:List D} {k:List D→Option Out}:Gc (some (.nrm l)) k=k l:=rfl
@[simp] theorem AU {c:Bool} {r:Option Out} {alt:List D} {k:List D→Option Out}:dJ (B c) true r alt k=if c=true then Gc r k else k alt:=by cases c<;>rfl
@[simp] theorem AM {c:Bool} {r:Option Out} {alt:List D} {k:List D→Option Out}:dJ (B c) false r alt k=if c=true then k alt else Gc r k:=by cases c<;>rfl
@[simp] theorem AE {c:Bool} {a b:D}:aW (B c) a b=some (if c=true then a else b):=by cases c<;>rfl
@[simp] theorem dC {rs us:List D} {k:List D→List D→Option Out}:ai (some (.ret rs us)) k=k rs us:=rfl
@[simp] theorem pq {i:Nat} {s:List D} {x:Nat→List D→Option Out} {r:List D→List D→Option Out}:cv (.ext i s) x r=x i s:=rfl
@[simp] theorem gT {a b:List D} {x:Nat→List D→Option Out} {r:List D→List D→Option Out}:cv (.ret a b) x r=r a b:=rfl
@[simp] theorem GV {v:Value} {x:D}:aa (.v v) x=some x:=rfl
@[simp] theorem uX {z:Nat} {l:List D} {x:D}:aa (.arr z l) x=some x:=rfl
@[simp] theorem dX {l:List D} {x:D}:aa (.agg l) x=some x:=rfl
@[simp] theorem vI {i f:Nat} {x:D}:aa (.ref i f) x=some x:=rfl
@[simp] theorem Gu {l:List D} {x:D}:aa (.tup l) x=some x:=rfl
@[simp] theorem jo {z:Nat} {l:List D}:lenD false (.arr z l)=some (I l.length):=rfl
@[simp] theorem kx {s:ByteArray}:lenD true (T s)=some (I s.size):=rfl
@[simp] theorem dc {a:D} {l:List D}:sl (a::l) 0=a:=rfl
@[simp] theorem iK {a:D} {l:List D} {n:Nat}:sl (a::l) (n+1)=sl l n:=rfl
@[simp] theorem GD {ag:Bool} {n off:Nat} {l:List D}:oZ ag n off (.agg l)=bK ag n (l.drop off):=rfl
@[simp] theorem AQ {ag:Bool} {n:Nat} {l:List D}:ldD ag n (.ptr l)=bK ag n l:=rfl
@[simp] theorem yn {off:Nat} {l:List D}:rA off (.ptr l)=some (.ptr (l.drop off)):=rfl
@[simp] theorem GX {n:Nat} {l:List D}:bK true n l=if n≤l.length then some (.agg (l.take n)) else none:=rfl
@[simp] theorem AC {n:Nat} {a:D} {l:List D}:bK false n (a::l)=some a:=rfl
@[simp] theorem AJ {l:List D} {i f:Nat}:atD (.agg l) (.ref i f)=some (l.drop f):=rfl
@[simp] theorem GW {z:Nat} {l:List D} {i f:Nat}:atD (.arr z l) (.ref i f)=(l[i]?).map fun d=>d.cells.drop f:=rfl
@[simp] theorem tZ {off i f:Nat}:cM off (.ref i f)=some (.ref i (f+off)):=rfl
@[simp] theorem vy {z:Nat} {l:List D} {k:IntKind} {i:Nat}:aJ z (.arr z l) (.v (.int k (i:Int)))=(l[i]?).map D.cells:=by simp [aJ]
@[simp] theorem tq {z:Nat} {l:List D} {k:IntKind} {i:Nat}:gd z (.arr z l) (.v (.int k (i:Int)))=if i<l.length then some (.ref i 0) else none:=by simp [gd]
@[simp] theorem Fv {l:List D}:(D.agg l).cells=l:=rfl
@[simp] theorem Gs {v:Value}:(D.v v).cells=[.v v]:=rfl
@[simp] theorem Fu {z:Nat} {l:List D}:(D.arr z l).cells=[.arr z l]:=rfl
@[simp] theorem Cj {v:Value}:bc (.v v)=some (.v v):=rfl
@[simp] theorem GC {l:List D}:bc (.agg l)=if l.all wI=true then some (.agg l) else none:=by
 have:(D.agg l).isV=l.all wI:=by
  simp only [D.isV];congr 1
 simp [bc,this]
@[simp] theorem He {v:Value}:wI (.v v)=true:=rfl
@[simp] theorem GL {z:Nat} {l:List D}:wI (.arr z l)=false:=rfl
@[simp] theorem Gz {v:Value}:(D.v v).single=true:=rfl
@[simp] theorem FW {z:Nat} {l:List D}:(D.arr z l).single=true:=rfl
@[simp] theorem Gv {l:List D}:(D.agg l).width=l.length:=rfl
@[simp] theorem GT {v:Value}:(D.v v).width=1:=rfl
@[simp] theorem Gr {z:Nat} {l:List D}:(D.arr z l).width=1:=rfl
@[simp] theorem GY {n:Nat} {x:D}:nV n x=if x.cells.length=n∧x.cells.all D.single=true then some (.agg x.cells) else none:=rfl
@[simp] theorem GU {n i f:Nat} {l:List D} {x:D}:stD n (.agg l) (.ref i f) x=if x.cells.length=n∧f+n≤l.length∧x.cells.all D.single=true then some (.agg (putCells l f x.cells)) else none:=rfl
@[simp] theorem FE {l:List D} {f:Nat} {vs:List D}:putCells l f vs=l.take f++vs++l.drop (f+vs.length):=rfl
@[simp] theorem Gt {l:List D} {i:Nat}:aT (.tup l) i=match l[i]? with
  | some .bad=>none
  | some (.tup _)=>none
  | r=>r:=rfl
@[simp] theorem Gg {l:List D} {i:Nat}:en (.tup l) i = .tup (l.set i .bad):=rfl
@[simp] theorem px {x:D}:br (.ref 0 0) x=some x:=rfl
@[simp] theorem jC {z eb:Nat} {l m:List D}:gi z eb (.arr z l) (.arr z m)=if (l.length+m.length)*eb≤140737488355328∧l.length+m.length≤1152921504606846976 then some (.arr z (l++m)) else none:=by simp [gi]
@[simp] theorem Gf {z:Nat} {l:List D} {k:IntKind} {i:Nat}:aJ z (.arr z l) (.v (.int k ((i:Int)+1)))=(l[i+1]?).map D.cells:=vy (i:=i+1)
@[simp] theorem Gn {z:Nat} {l:List D} {k:IntKind}:aJ z (.arr z l) (.v (.int k 0))=(l[0]?).map D.cells:=vy (i:=0)
@[simp] theorem xS {z eb:Nat} {x:D} {k k':IntKind} {n m:Nat}:vX z eb x (.v (.int k (n:Int))) (.v (.int k' (m:Int)))=if n≤m∧m*eb≤140737488355328∧m≤140737488355328 then some (.arr z (Ij n x)) else none:=by
 have h:((n:Int)≤m∧(m:Int)*(eb:Int)≤140737488355328∧(m:Int)≤140737488355328)↔(n≤m∧m*eb≤140737488355328∧m≤140737488355328):=by
  rw [←Int.natCast_mul];omega
 simp only [vX,Int.natCast_nonneg,true_and,h,Int.toNat_natCast]
theorem tE {z i:Nat} {L:List D} {v w:Value} (h:L[i]?=some (.v w)):stD 1 (.arr z L) (.ref i 0) (.v v)=some (.arr z (L.set i (.v v))):=by
 simp [stD,h,D.ofCells]
def Fx {β:Type} (f:β→D) (z:D) (l:List β) (i:Nat):List D:=(l.take i).map f++Ij (l.length - i) z
section
variable {β:Type} {f:β→D} {z:D} {l:List β} {i:Nat}
@[simp] theorem Fj (h:i≤l.length):(Fx f z l i).length=l.length:=by simp [Fx];omega
end
theorem yb {z i f:Nat} {L c:List D} {v:Value} (h:L[i]?=some (.agg c)) (hf:f<c.length):stD 1 (.arr z L) (.ref i f) (.v v)=some (.arr z (L.set i (.agg (putCells c f [.v v])))):=by
 have h2:(D.v v).cells=[.v v]:=rfl;have h3:f+1≤c.length:=hf;simp [stD,h,h2,h3,D.ofCells]
def FC {β:Type} (g:Nat→D) (f:β→D) (l:List β) (i:Nat):List D:=(List.range i).map g++(l.drop i).map f
section
variable {β:Type} {g:Nat→D} {f:β→D} {l:List β} {i:Nat}
@[simp] theorem Ed (h:i≤l.length):(FC g f l i).length=l.length:=by simp [FC];omega
end
theorem mB {z:Nat}:aA z []=some (.arr z []):=rfl
@[simp] theorem td {β:Type} {z:Nat} {l:List β} {f:β→D} (h:∀x,(f x).isV=true):jM (.arr z (l.map f))=some (.arr z (l.map f)):=by
 have:(l.map f).all D.isV=true:=by simp [h]
 simp only [jM,this,if_true]
@[simp] theorem Hf {p:Prop} [Decidable p] {a b:Bool}:(if p then D.v (.bool a) else D.v (.bool b))=D.v (.bool (if p then a else b)):=by split<;>rfl
theorem qm {body:List D→Option Out}:∀(n:Nat) (s:List D) (o:Out),iter body n s=some o→∀m,n≤m→iter body m s=some o
 | 0,_,_,h,_,_=>by simp [iter] at h
 | n+1,s,o,h,m,hm=>by
  obtain⟨m,rfl⟩:∃q,m=q+1:=⟨m - 1,by omega⟩
  simp only [iter] at h ⊢;split at h
  ·rename_i s' hb
   exact qm n s' o h m (by omega)
  ·exact h
theorem DS {body:List D→Option Out} {s:List D} {o:Out} (n:Nat) (h:iter body n s=some o):aI body s=some o:=by
 have hex:∃n,(iter body n s).isSome=true:=⟨n,by rw [h];rfl⟩
 unfold aI;rw [dif_pos hex];obtain⟨o',ho⟩:=Ht.1 (HO hex);rw [ho];have h1:=qm _ _ _ ho (max n (Hy hex)) (by omega);have h2:=qm _ _ _ h (max n (Hy hex)) (by omega);rw [h1] at h2;exact h2
inductive Runs (body:List D→Option Out):List D→Out→Prop where
 | ext {s:List D} {i:Nat} {δ:List D}:body s=some (.ext i δ)→Runs body s (.ext i δ)
 | ret {s:List D} {rs us:List D}:body s=some (.ret rs us)→Runs body s (.ret rs us)
 | nrm {s s':List D} {o:Out}:body s=some (.nrm s')→Runs body s' o→Runs body s o
theorem Runs.iter {body:List D→Option Out} {s:List D} {o:Out} (h:Runs body s o):∃n,V.iter body n s=some o:=by
 induction h with
 | ext h=>exact⟨1,by simp [V.iter,h]⟩
 | ret h=>exact⟨1,by simp [V.iter,h]⟩
 | nrm h _ ih =>
  obtain⟨n,hn⟩:=ih;exact⟨n+1,by simp [V.iter,h,hn]⟩
theorem Runs.loop {body:List D→Option Out} {s:List D} {o:Out} (h:Runs body s o):aI body s=some o:=by
 obtain⟨n,hn⟩:=h.iter;exact DS n hn
def goL {α β:Type} (g:Nat→β→α→α ⊕ Out) (fin:α→Out):Nat→List β→α→Out
 | _,[],a=>fin a
 | i,x::l,a=>match g i x a with
  | .inl a'=>goL g fin (i+1) l a'
  | .inr o=>o
def Out.ends:Out→Bool
 | .nrm _=>false
 | _=>true
theorem Runs.one {body:List D→Option Out} {s:List D} {o:Out} (h:body s=some o) (ho:o.ends=true):Runs body s o:=by
 cases o with
 | nrm _=>simp [Out.ends] at ho
 | ext _ _=>exact .ext h
 | ret _ _=>exact .ret h
theorem Runs.list {α β:Type} {body:List D→Option Out} (l:List β) (st:Nat→α→List D) (Inv:Nat→α→Prop) (g:Nat→β→α→α ⊕ Out) (fin:α→Out)
  (hs:∀i x a,l[i]?=some x→Inv i a→match g i x a with
   | .inl a'=>body (st i a)=some (.nrm (st (i+1) a'))∧Inv (i+1) a'
   | .inr o=>body (st i a)=some o∧o.ends=true)
  (he:∀a,Inv l.length a→body (st l.length a)=some (fin a)∧(fin a).ends=true) (a:α) (h0:Inv 0 a):Runs body (st 0 a) (goL g fin 0 l a):=by
 have key:∀(n i:Nat) (a:α),i+n=l.length→Inv i a→Runs body (st i a) (goL g fin i (l.drop i) a):=by
  intro n;induction n with
  | zero =>
   intro i a hi hI;have:i=l.length:=by omega
   subst this;rw [List.drop_length];exact Runs.one (he a hI).1 (he a hI).2
  | succ n ih =>
   intro i a hi hI;have hlt:i<l.length:=by omega
   rw [List.drop_eq_getElem_cons hlt];have h:=hs i l[i] a (Hn hlt) hI;simp only [goL];split at h
   ·exact .nrm h.1 (ih (i+1) _ (by omega) h.2)
   ·exact Runs.one h.1 h.2
 simpa using key l.length 0 a (by omega) h0
theorem kC {α β:Type} {body:List D→Option Out} (l:List β) (st:Nat→α→List D) (Inv:Nat→α→Prop) (g:Nat→β→α→α ⊕ Out) (fin:α→Out)
  (hs:∀i x a,l[i]?=some x→Inv i a→match g i x a with
   | .inl a'=>body (st i a)=some (.nrm (st (i+1) a'))∧Inv (i+1) a'
   | .inr o=>body (st i a)=some o∧o.ends=true)
  (he:∀a,Inv l.length a→body (st l.length a)=some (fin a)∧(fin a).ends=true) (a:α) (h0:Inv 0 a) {s0:List D} (h:s0=st 0 a):aI body s0=some (goL g fin 0 l a):=by
 rw [h];exact(Runs.list l st Inv g fin hs he a h0).loop
theorem eG {body:List D→Option Out} (n:Nat) (st:Nat→List D) (o:Out) (hs:∀i,i<n→body (st i)=some (.nrm (st (i+1)))) (he:body (st n)=some o) (ho:o.ends=true) {s0:List D} (h:s0=st 0):aI body s0=some o:=by
 rw [h];have key:∀(m i:Nat),i+m=n→Runs body (st i) o:=by
  intro m;induction m with
  | zero =>
   intro i hi;have:i=n:=by omega
   subst this;exact Runs.one he ho
  | succ m ih=>exact fun i hi=>.nrm (hs i (by omega)) (ih (i+1) (by omega))
 exact(key n 0 (by omega)).loop
def kq {β:Type} (p:Nat→β→Bool):Nat→List β→Bool
 | _,[]=>true
 | i,x::l=>p i x&&kq p (i+1) l
theorem jb {β:Type} {body:List D→Option Out} (l:List β) (st:Nat→List D) (p:Nat→β→Bool) (o1 o2:Out) (hs:∀(i:Nat) (hi:i<l.length),body (st i)=some (if p i l[i]=true then .nrm (st (i+1)) else o1)) (he:body (st l.length)=some o2)
  (h1:o1.ends=true) (h2:o2.ends=true) {s0:List D} (h:s0=st 0):aI body s0=some (if kq p 0 l=true then o2 else o1):=by
 have e:∀(m:List β) (i:Nat),goL (fun i x (_:Unit)=>if p i x=true then .inl () else .inr o1) (fun _=>o2) i m ()=if kq p i m=true then o2 else o1:=by
  intro m;induction m with
  | nil=>intro i;simp [goL,kq]
  | cons x m ih =>
   intro i;simp only [goL,kq];by_cases hp:p i x=true
   ·simp [hp,ih]
   ·simp [hp]
 rw [←e];refine kC l (fun i _=>st i) (fun _ _=>True) _ _ (fun i x a hx _=>?_) (fun _ _=>⟨he,h2⟩) () trivial h
 have hi:i<l.length:=(Hl.1 hx).1;have hxe:l[i]=x:=(Hl.1 hx).2;have:=hs i hi;rw [hxe] at this;by_cases hp:p i x=true
 ·simpa [hp] using this
 ·simpa [hp,h1] using this
def qQ {α β:Type} (f:Nat→α→β→α):Nat→List β→α→α
 | _,[],a=>a
 | i,x::l,a=>qQ f (i+1) l (f i a x)
theorem jd {α β:Type} {body:List D→Option Out} (l:List β) (st:Nat→α→List D) (Inv:Nat→α→Prop) (f:Nat→α→β→α) (fin:α→Out) (a:α) (hs:∀(i:Nat) (a:α) (hi:i<l.length),Inv i a→body (st i a)=some (.nrm (st (i+1) (f i a l[i])))∧Inv (i+1) (f i a l[i]))
  (he:∀a,Inv l.length a→body (st l.length a)=some (fin a)) (h1:∀a,(fin a).ends=true) (h0:Inv 0 a) {s0:List D} (h:s0=st 0 a):aI body s0=some (fin (qQ f 0 l a)):=by
 have e:∀(m:List β) (i:Nat) (a:α),goL (fun i x a=>.inl (f i a x)) fin i m a=fin (qQ f i m a):=by
  intro m;induction m with
  | nil=>intro i a;rfl
  | cons x m ih=>intro i a;simp only [goL,qQ];exact ih (i+1) (f i a x)
 rw [←e l 0 a];refine kC l st Inv (fun i x a=>.inl (f i a x)) _ (fun i x a hx hI=>?_) (fun a hI=>⟨he a hI,h1 a⟩) a h0 h
 have hi:i<l.length:=(Hl.1 hx).1;have hxe:l[i]=x:=(Hl.1 hx).2;rw [←hxe];exact hs i a hi hI
theorem aG {body:List D→Option Out} {s0:List D} {K:Out→Option Out} {r:Option Out} (o:Out) (h:aI body s0=some o) (hk:K o=r):(aI body s0).bind K=r:=by
 rw [h];exact hk
theorem Em {α:Type} {body:List D→Option Out} (st:α→List D) (Inv:α→Prop) (μ:α→Nat) (Q:α→Out→Prop)
  (hs:∀a,Inv a→(∃a',body (st a)=some (.nrm (st a'))∧Inv a'∧μ a'<μ a∧∀o,Q a' o→Q a o)∨∃o,body (st a)=some o∧o.ends=true∧Q a o) (a:α) (h:Inv a) {s0:List D} (h0:s0=st a):∃o,aI body s0=some o∧Q a o:=by
 rw [h0];have key:∀(n:Nat) (a:α),μ a<n→Inv a→∃o,Runs body (st a) o∧Q a o:=by
  intro n;induction n with
  | zero=>exact fun a h=>by omega
  | succ n ih =>
   intro a hn hI;rcases hs a hI with ⟨a',h1,h2,h3,h4⟩ | ⟨o,h1,h2,h3⟩
   ·obtain⟨o,h5,h6⟩:=ih a' (by omega) h2
    exact⟨o,.nrm h1 h5,h4 o h6⟩
   ·exact⟨o,Runs.one h1 h2,h3⟩
 obtain⟨o,h1,h2⟩:=key (μ a+1) a (by omega) h;exact⟨o,h1.loop,h2⟩
theorem cT {α:Type} {body:List D→Option Out} {K:Out→Option Out} (R:Option Out→Prop) (st:α→List D) (Inv:α→Prop) (μ:α→Nat) (Q:Out→Prop)
  (hs:∀a,Inv a→(∃a',body (st a)=some (.nrm (st a'))∧Inv a'∧μ a'<μ a)∨∃o,body (st a)=some o∧o.ends=true∧Q o) (a:α) (h:Inv a) {s0:List D} (h0:s0=st a) (hk:∀o,Q o→R (K o)):R ((aI body s0).bind K):=by
 obtain⟨o,h1,h2⟩:=Em st Inv μ (fun _ o=>Q o) (fun a ha=>by
  rcases hs a ha with ⟨a',g1,g2,g3⟩ | h
  ·exact .inl ⟨a',g1,g2,g3,fun _ h=>h⟩
  ·exact .inr h) a h h0
 rw [h1];exact hk o h2
theorem ao:(type_of% @dc)∧(type_of% @iK)∧(type_of% @dX)∧(type_of% @vI)∧(type_of% @uX)∧(type_of% @px)∧(∀{α β:Type} (a:α) (f:α→Option β),(some a).bind f=f a)∧(∀{α β:Type} (a:α) (f:α→β),(some a).map f=some (f a))∧(type_of% @dC)∧(type_of% @Do)∧(type_of% @Ch)∧(type_of% @DG)∧(type_of% @AU)∧(type_of% @AM)∧(type_of% @AR)∧(type_of% @vm)∧(type_of% @AE)∧(type_of% @lN)∧(type_of% @Aj)∧(∀{α:Type} {_h:Decidable True} (t e:α),(if True then t else e)=t)∧(∀{α:Type} {_h:Decidable False} (t e:α),(if False then t else e)=e)∧(type_of% @Hk)∧(type_of% @CM)∧(type_of% @Bool.not_true)∧(type_of% @Ik)∧(type_of% @decide_true)∧(type_of% @decide_false)∧(type_of% @and_self)∧(type_of% @pq)∧(type_of% @Nat.beq_refl)∧(type_of% @iH)∧(type_of% @Aq)∧(type_of% @AL)∧(type_of% @AN)∧(type_of% @wy)∧(type_of% @vY)∧(type_of% @jE)∧(type_of% @AK)∧(type_of% @As)∧(type_of% @jo)∧(type_of% @kx)∧(∀{α β:Type} {l:List α} (f:α→β),(l.map f).length=l.length)∧(type_of% @AQ)∧(type_of% @AC)∧(type_of% @Cj)∧(type_of% @yn)∧(∀{α:Type} {l:List α},l.drop 0=l)∧(∀{α:Type} {a:α} {l:List α} {i:Nat},(a::l).drop (i+1)=l.drop i)∧(type_of% @AJ)∧(type_of% @mB) :=
 ⟨@dc,⟨@iK,⟨@dX,⟨@vI,⟨@uX,⟨@px,⟨@Ic,⟨@Option.map_some,⟨@dC,⟨@Do,⟨@Ch,⟨@DG,⟨@AU,⟨@AM,⟨@AR,⟨@vm,⟨@AE,⟨@lN,⟨@Aj,⟨@if_true,⟨@if_false,⟨@Hk,⟨@CM,⟨@Bool.not_true,⟨@Ik,⟨@decide_true,⟨@decide_false,⟨@and_self,⟨@pq,⟨@Nat.beq_refl,⟨@iH,⟨@Aq,⟨@AL,⟨@AN,⟨@wy,⟨@vY,⟨@jE,⟨@AK,⟨@As,⟨@jo,⟨@kx,⟨@Ih,⟨@AQ,⟨@AC,⟨@Cj,⟨@yn,⟨@HK,⟨@List.drop_succ_cons,⟨@AJ,@mB⟩⟩⟩⟩⟩⟩⟩⟩⟩⟩⟩⟩⟩⟩⟩⟩⟩⟩⟩⟩⟩⟩⟩⟩⟩⟩⟩⟩⟩⟩⟩⟩⟩⟩⟩⟩⟩⟩⟩⟩⟩⟩⟩⟩⟩⟩⟩⟩⟩
end Go.V

namespace Go.V
open Go.RowKit
set_option maxRecDepth 100000
def xY (f:(List D→Option Out)→Option Out) (k:List D→Option Out):Option Out:=f k
@[reducible] def lF (c:Cx) (J:List (Nat × List Nat)):Nat→Nat→Code→List D→(Out→Option Out)→Option Out
 | _,_,.skip,δ,k=>k (.nrm δ)
 | _,_,.region _ ops _,δ,k=>gz c ops.toList ops.toList δ fun δ'=>k (.nrm δ')
 | p,bid,.seq a b,δ,k=>match cb J p with
  | none=>lF c J (Hv 2 p) bid a δ fun o=>EI o (fun δ'=>lF c J (Il (Hv 2 p) 1) bid b δ' k) k
  | some hl=>xY (fun j=>lF c J (Hv 2 p) bid a δ fun o=>EI o (fun δ'=>lE δ' hl fun s=>j s) k) (fun s=>fP (gy c.K) hl s fun δ'=>lF c J (Il (Hv 2 p) 1) bid b δ' k)
 | p,bid,.cond x t e,δ,k=>opC δ x fun q=>ifD q (lF c J (Hv 2 p) bid t δ k) (lF c J (Il (Hv 2 p) 1) bid e δ k)
 | p,_,.block id b,δ,k=>lF c J (Hv 2 p) id b δ fun o=>ya id o k
 | p,bid,.loop b,δ,k=>match cb c.H bid with
  | none=>none
  | some (hl,xl) =>
   lE δ hl fun s=>(aI (fun s=>fP (gy c.K) hl s fun δ=>lF c J (Hv 2 p) bid b δ (bM hl xl)) s).bind fun o =>
    cv o (fun i s=>fP (gy c.K) xl s fun δ=>k (.ext i δ)) (fun a b=>k (.ret a b))
 | _,_,.exit id,δ,k=>k (.ext id δ)
 | _,_,.ret,δ,k=>jL c δ c.res fun rs=>lE δ c.ios fun us=>usK us (k (.ret rs us))
 | _,_,_,_,_=>none
@[reducible] def qT (c:Cx) (J:List (Nat × List Nat)) (fn:Func) (ds:List D):Option Out :=
 match fn.body with
 | none=>none
 | some b=>lF c J 1 0 b (me fn.ntmps ds) fun o=>match o with
  | .nrm δ=>jL c δ c.res fun rs=>lE δ c.ios fun us=>usK us (some (.ret rs us))
  | .ext _ _=>none
  | .ret rs us=>some (.ret rs us)
def okJ (c:Cx) (J:List (Nat × List Nat)):Bool:=J.all fun p=>jK c.K p.2
theorem Cm {c:Cx}:∀{J:List (Nat × List Nat)} {p:Nat} {hl:List Nat},okJ c J=true→cb J p=some hl→jK c.K hl=true
 | [],_,_,_,h=>by cases h
 | (q,l)::J,p,hl,hJ,h=>by
  unfold okJ at hJ;rw [HU,Hg] at hJ;simp only [cb] at h;split at h
  ·cases h
   exact hJ.1
  ·exact Cm (J:=J) hJ.2 h
section
variable {P:Program} {c:Cx} {B:Nat} {X:Nat→Prop} {w0:World} {F0 F:Nat→Prop} {O:Nat→Option (Nat × Nat)} {a:Act} {w:World} {δ:List D}
theorem pE {V:Nat→Value} {J:List (Nat × List Nat)} {p:Nat} {b:Code} {bid:Nat} {hl xl:List Nat} (h1:jK c.K hl=true) (h2:jK c.K xl=true)
  (ih:∀(F:Nat→Prop) (O:Nat→Option (Nat × Nat)) (a:Act) (w:World) (δ:List D),Inv c B X w0 F0 F O a w δ→IoV c V a→∀(k:Out→Option Out) (r:Out),lF c J p bid b δ k=some r→∀Q,(∀e a w,Bt c B X w0 F0 V k r e a w→Q e a w)→b.wp P Q a w)
  {k:Out→Option Out} {r:Out} {Q:Exit→Act→World→Prop} (hQ:∀e a w,Bt c B X w0 F0 V k r e a w→Q e a w) {o:Out}
  (ho:cv o (fun i s=>fP (gy c.K) xl s fun δ=>k (.ext i δ)) (fun x y=>k (.ret x y))=some r):∀(n:Nat) (F:Nat→Prop) (O:Nat→Option (Nat × Nat)) (a:Act) (w:World) (δ:List D),Inv c B X w0 F0 F O a w δ→IoV c V a →
  iter (fun s=>fP (gy c.K) hl s fun δ=>lF c J p bid b δ (bM hl xl)) n (ac δ hl)=some o→Code.rounds P b Q n a w
 | 0,_,_,_,_,_,_,_,h=>by cases h
 | n+1,F,O,a,w,δ,hI,hV,h=>by
  simp only [iter,jl] at h;rw [rounds_succ];have hI':=hI.carry h1;cases hb:lF c J p bid b (carry (gy c.K) hl δ) (bM hl xl) with
  | none=>rw [hb] at h;cases h
  | some ob =>
   rw [hb] at h;refine ih F O a w _ hI' hV _ ob hb _ (fun e a' w' hp=>?_)
   cases ob with
   | nrm s' =>
    simp only at h;cases e with
    | normal =>
     obtain⟨⟨F',O',δ',g1,g2⟩,g3⟩:=hp;simp only [bM,bf,Hh,Out.nrm.injEq] at g2;rw [←g2] at h;exact pE h1 h2 ih hQ ho n F' O' a' w' δ' g1 g3 h
    | exit i =>
     obtain⟨⟨F',O',δ',g1,g2⟩,g3⟩:=hp;simp [bM,bf] at g2
    | ret =>
     obtain⟨⟨F',O',δ',g1,g2⟩,g3⟩:=hp;obtain⟨rs,_,_,g4⟩:=gO g2;simp [bM] at g4
    | _=>exact hp.elim
   | ext i l =>
    simp only [Hh] at h;subst h;cases e with
    | normal =>
     obtain⟨⟨F',O',δ',g1,g2⟩,g3⟩:=hp;simp [bM,bf] at g2
    | exit j =>
     obtain⟨⟨F',O',δ',g1,g2⟩,g3⟩:=hp;simp only [bM,bf,Hh,Out.ext.injEq] at g2;obtain⟨rfl,rfl⟩:=g2;simp only [cv,jl] at ho;exact hQ (.exit j) _ _ ⟨⟨F',O',_,g1.carry h2,ho⟩,g3⟩
    | ret =>
     obtain⟨⟨F',O',δ',g1,g2⟩,g3⟩:=hp;obtain⟨rs,_,_,g4⟩:=gO g2;simp [bM] at g4
    | _=>exact hp.elim
   | ret x y =>
    simp only [Hh] at h;subst h;cases e with
    | normal =>
     obtain⟨⟨F',O',δ',g1,g2⟩,g3⟩:=hp;simp [bM,bf] at g2
    | exit j =>
     obtain⟨⟨F',O',δ',g1,g2⟩,g3⟩:=hp;simp [bM,bf] at g2
    | ret =>
     obtain⟨⟨F',O',δ',g1,g2⟩,g3⟩:=hp;obtain⟨rs,g5,g6,g4⟩:=gO g2;simp only [bM,Hh,Out.ret.injEq] at g4;obtain⟨rfl,rfl⟩:=g4;exact hQ .ret _ _ ⟨⟨F',O',δ',g1,rU g5 g6 ho⟩,g3⟩
    | _=>exact hp.elim
theorem dN (hT:okT P c.T=true) (hS:∀f S,cb c.S f=some S→ay c.G P f S) (hm:P.follows .mixedOrders=true) {V:Nat→Value} {J:List (Nat × List Nat)} (hJ:okJ c J=true):∀(b:Code) (p bid:Nat),cr c bid b=true→∀(F:Nat→Prop) (O:Nat→Option (Nat × Nat)) (a:Act) (w:World) (δ:List D),
  Inv c B X w0 F0 F O a w δ→IoV c V a→∀(k:Out→Option Out) (r:Out),lF c J p bid b δ k=some r→∀Q,(∀e a w,Bt c B X w0 F0 V k r e a w→Q e a w)→b.wp P Q a w
 | .skip,p,bid,_,F,O,a,w,δ,hI,hV,k,r,hg,Q,hQ=>wp_skip (hQ _ _ _ ⟨⟨F,O,δ,hI,hg⟩,hV⟩)
 | .region id ops d,p,bid,hok,F,O,a,w,δ,hI,hV,k,r,hg,Q,hQ=>by
  simp only [cr,Hg,HH] at hok;have hq:∀a w,eV c B X w0 F0 V (fun δ=>k (.nrm δ)) r a w→Q .normal a w:=fun a w h=>hQ _ _ _ h
  cases d
  ·exact wp_region_list (nS hT hS hq ops.toList hok.1 F O a w δ hI hV hg)
  ·exact vz hT hS (by simpa using hok.2) hm hq hok.1 hI hV hg id
 | .seq x y,p,bid,hok,F,O,a,w,δ,hI,hV,k,r,hg,Q,hQ=>by
  simp only [cr,Hg] at hok;simp only [lF] at hg;cases hH:cb J p with
  | none =>
   rw [hH] at hg;refine wp_seq (dN hT hS hm hJ x _ bid hok.1 F O a w δ hI hV _ r hg _ (fun e a' w' hp=>?_))
   cases e with
   | normal =>
    obtain⟨⟨F',O',δ',hI',hk'⟩,hV'⟩:=hp;exact dN hT hS hm hJ y _ bid hok.2 F' O' a' w' δ' hI' hV' k r hk' Q hQ
   | exit id=>exact hQ _ _ _ hp
   | ret=>exact hQ _ _ _ hp
   | _=>exact hp.elim
  | some hl =>
   rw [hH] at hg;simp only [xY] at hg;have hlive:=Cm hJ hH;refine wp_seq (dN hT hS hm hJ x _ bid hok.1 F O a w δ hI hV _ r hg _ (fun e a' w' hp=>?_))
   cases e with
   | normal =>
    obtain⟨⟨F',O',δ',hI',hk'⟩,hV'⟩:=hp;simp only [EI,bf,jl] at hk';exact dN hT hS hm hJ y _ bid hok.2 F' O' a' w' _ (hI'.carry hlive) hV' k r hk' Q hQ
   | exit id=>exact hQ _ _ _ hp
   | ret=>exact hQ _ _ _ hp
   | _=>exact hp.elim
 | .cond x t e,p,bid,hok,F,O,a,w,δ,hI,hV,k,r,hg,Q,hQ=>by
  simp only [cr,Hg] at hok;obtain⟨⟨hlv,hok1⟩,hok2⟩:=hok;have hop:=hI.opd (aN.1 hlv);have key:ifD (opD δ x) (lF c J (Hv 2 p) bid t δ k) (lF c J (Il (Hv 2 p) 1) bid e δ k)=some r:=by
   simp only [lF] at hg;cases x with
   | tmp s=>simpa only [opC,cN,opD] using hg
   | const v=>simpa only [opC,opD] using hg
   | func f=>simpa only [opC,opD] using hg
   | global g=>simp [opC] at hg
  unfold ifD at key;split at key
  ·rename_i hd
   rw [hd] at hop;exact wp_cond_true (aD hop).1 (dN hT hS hm hJ t _ bid hok1 F O a w δ hI hV k r key Q hQ)
  ·rename_i hd
   rw [hd] at hop;exact wp_cond_false (aD hop).1 (dN hT hS hm hJ e _ bid hok2 F O a w δ hI hV k r key Q hQ)
  ·cases key
 | .block id b,p,bid,hok,F,O,a,w,δ,hI,hV,k,r,hg,Q,hQ=>by
  simp only [cr] at hok;refine wp_block (dN hT hS hm hJ b _ id hok F O a w δ hI hV _ r hg _ (fun e a' w' hp=>?_))
  cases e with
  | normal=>exact hQ .normal _ _ hp
  | exit i =>
   simp only [Exit.inBlock];have hp':eV c B X w0 F0 V (fun δ=>ya id (.ext i δ) k) r a' w':=hp;split
   ·rename_i hi
    refine hQ .normal _ _ (gm hp' fun δ F O _ h=>?_)
    simp only [ya] at h;rw [au.2 (by simpa using hi)] at h;exact h
   ·rename_i hi
    refine hQ (.exit i) _ _ (gm hp' fun δ F O _ h=>?_)
    simp only [ya] at h;cases hb:Hu i id
    ·rw [hb] at h;exact h
    ·exact absurd (by simpa using au.1 hb) hi
  | ret=>exact hQ .ret _ _ hp
  | _=>exact hp.elim
 | .loop b,p,bid,hok,F,O,a,w,δ,hI,hV,k,r,hg,Q,hQ=>by
  simp only [cr,Hg] at hok;obtain⟨hok1,hok2⟩:=hok;simp only [lF] at hg;cases hH:cb c.H bid with
  | none=>rw [hH] at hg;cases hg
  | some hx =>
   obtain⟨hl,xl⟩:=hx;rw [hH] at hg hok2;simp only [Hg] at hok2;simp only [bf] at hg;obtain⟨o',h1,h2⟩:=Hi.1 hg;unfold aI at h1;split at h1
   case isFalse=>cases h1
   rename_i hex;refine wp_loop_rounds (Hy hex) ?_
   refine pE (hl:=hl) (xl:=xl) hok2.1 hok2.2 (fun F O a w δ hI hV k r hg Q hQ=>dN hT hS hm hJ b _ bid hok1 F O a w δ hI hV k r hg Q hQ) hQ h2 _ F O a w δ hI hV h1
 | .exit id,p,bid,_,F,O,a,w,δ,hI,hV,k,r,hg,Q,hQ=>wp_exit (hQ _ _ _ ⟨⟨F,O,δ,hI,hg⟩,hV⟩)
 | .ret,p,bid,_,F,O,a,w,δ,hI,hV,k,r,hg,Q,hQ=>wp_ret (hQ _ _ _ ⟨⟨F,O,δ,hI,hg⟩,hV⟩)
 | .label _,_,_,hok,_,_,_,_,_,_,_,_,_,_,_,_=>by simp [cr] at hok
 | .goto _,_,_,hok,_,_,_,_,_,_,_,_,_,_,_,_=>by simp [cr] at hok
 | .scope _,_,_,hok,_,_,_,_,_,_,_,_,_,_,_,_=>by simp [cr] at hok
theorem Bk (hT:okT P c.T=true) (hS:∀f S,cb c.S f=some S→ay c.G P f S) (hm:P.follows .mixedOrders=true) {J:List (Nat × List Nat)} (hJ:okJ c J=true) {f:FuncId} {fn:Func} (hf:P.funcs[f]?=some fn) {pm rm:List Kd} (hok:zR c fn pm rm=true) (hres:c.res=fn.results.toList)
  {ds rs us:List D} (hd:qT c J fn ds=some (.ret rs us)) {args:Array Value} {w:World} {F:Nat→Prop} {ow:Nat→Option Nat} (hgl:gOk c.G w F) (ha:dK w F ow 0 pm ds args.toList) (hF:∀b,F b→b<w.heap.size∧ow b=none) (hO:∀b i,ow b=some i→b<w.heap.size) :
  Calls P f args w fun e w'=>∃v,e = .returned v∧∃F' R vs,v=iD vs∧CallPost {pm:=pm,rm:=rm,f:=qT c J fn} args rs us w F ow F' R vs w':=by
 unfold zR at hok;simp only [Hg,decide_eq_true_eq] at hok;obtain⟨⟨⟨⟨⟨hcode,hlenK⟩,hpre⟩,hpm⟩,hokr⟩,hios⟩:=hok;rw [au,iB] at hlenK;obtain⟨hpl,hpn⟩:=pL hpre;obtain⟨hdl,hal,hargs⟩:=pK pm ds args.toList 0 ha;have hasz:args.size=pm.length:=by simpa using hal
 unfold qT at hd;cases hb:fn.body with
 | none=>rw [hb] at hd;cases hd
 | some b =>
  rw [hb] at hd hcode;simp only at hd hcode;refine calls_of_wp hf hb ?_
  have hav:∀s,s<pm.length→av ({tmps:=args++Hm (fn.ntmps - args.size) undef,defers:=[]}:Act) s=args.toList.getD s undef:=fun s hs=>by
   have h1:s<args.size:=by omega
   simp only [av,HD,Hj,HL];rw [Ho h1]
  have hinit:Inv c w.heap.size (fun b=>ow b≠none) w F F (fun b=>(ow b).map fun i=>(i,0)) {tmps:=args++Hm (fn.ntmps - args.size) undef,defers:=[]} w (me fn.ntmps ds):=by
   refine⟨by simp;omega,by rw [mN,hlenK],rfl,fun s=>?_,fun b hb=>⟨(hF b hb).1,by simp [(hF b hb).2]⟩,fun b p hp=>?_,fun _ h=>h,fun _ h=>.inl h,HI _,rfl,rfl,rfl,fun _ _ _=>rfl,hgl⟩
   ·unfold qg
    rw [mC _ _ _ (by rw [hdl];omega)];by_cases hs:s<pm.length
    ·rw [hpn s hs,hav s hs]
     rcases hargs s hs with hbad | harg
     ·exact .inl hbad
     refine .inr ?_
     have hlv:∀lv,lv≠1→∀b,FB F 0 lv b→FB F w.heap.size lv b:=fun lv h1 b hb=>by
      match lv,h1 with
      | 0,_=>exact hb
      | _+2,_=>exact hb
     rcases oK hpm s hs with ⟨lv,hk,h1⟩ | ⟨z,lv,hk,h1⟩ | ⟨n,lv,hk,h1⟩
     ·rw [hk] at harg ⊢
      exact .inr (aS (hlv lv h1) (fun _ _=>rfl) harg)
     ·rw [hk] at harg ⊢
      exact .inr (ct (hlv lv h1) (fun _ _=>rfl) (fun g _ hg=>⟨⟨by simp only [Hs] at hg;simp [hg],fun h=>by cases h⟩,rfl⟩) harg)
     ·rw [hk] at harg ⊢
      exact .inr (je (hlv lv h1) (fun _ _=>rfl) (fun g _ hg=>⟨⟨by simp only [Hs] at hg;simp [hg],fun h=>by cases h⟩,rfl⟩) harg)
    ·refine .inl ?_
     rw [cP,Hj,HN (by omega)];rfl
   ·obtain⟨i,hi,rfl⟩:=Hx.1 hp
    exact⟨hO b i hi,.inr (by rw [hi];simp)⟩
  refine dN hT hS hm hJ b 1 0 hcode F _ _ w _ hinit (V:=av {tmps:=args++Hm (fn.ntmps - args.size) undef,defers:=[]}) (fun _ _=>rfl) _ _ hd _ (fun e a' w' hp=>?_)
  have fin:eV c w.heap.size (fun b=>ow b≠none) w F (av {tmps:=args++Hm (fn.ntmps - args.size) undef,defers:=[]}) (fun δ=>yV c δ some) (.ret rs us) a' w'→a'.defers=[]∧∃v,(results fn a'.tmps).run P w' = .ok v w'∧∃v',Ig v = .returned v'∧∃F' R vs,v'=iD vs∧CallPost {pm:=pm,rm:=rm,f:=qT c J fn} args rs us w F ow F' R vs w':=by
   rintro⟨⟨F',O',δ',hI',hk⟩,hV'⟩;obtain⟨rs',h1,h2,h3⟩:=gO hk;simp only [Hh,Out.ret.injEq] at h3;obtain⟨rfl,rfl⟩:=h3;obtain⟨vs,g1,g2,g3,g4⟩:=pu (P:=P) hT hI' c.res rm rs' hokr h1;refine⟨hI'.df,iD vs,?_,_,rfl,F',fun b=>if w.heap.size≤b then(match O' b with
    | some (t,0)=>pc c.res t 0
    | _=>none) else none,vs,rfl,?_⟩
   ·have hrun:(fn.results.mapM (lh a'.tmps)).run P w' = .ok vs.toArray w':=by
     rw [Array.mapM_eq_mapM_toList,←hres];simp [g1]
    have hrw:results fn a'.tmps=(do
      let vs ←fn.results.mapM (lh a'.tmps)
      pure (if h:vs.size=1 then vs[0] else .tuple vs)):=by
     unfold results;congr 1
    rw [hrw];simp only [Sem.run_bind,hrun,Ib,Sem.run_pure];congr 1
    rcases vs with _ | ⟨y,_ | ⟨y',vs⟩⟩
    ·simp [iD]
    ·simp [iD]
    ·simp [iD]
   ·refine⟨hI'.os,hI'.tape,hI'.output,hI'.bb,fun b hb ho=>hI'.keep b hb (by simp [ho]),hI'.f0,fun b hb=>⟨hI'.fn b hb,(hI'.fl b hb).1,by simp only [(hI'.fl b hb).2];split<;>rfl⟩,fun b j hj=>?_,g2,g3,fun j=>?_,?_⟩
    ·split at hj
     case isFalse=>cases hj
     rename_i hB;refine⟨hB,?_⟩
     split at hj
     ·rename_i t he;exact(hI'.ol b _ he).1
     ·cases hj
    ·refine iX (fun hk g hg=>?_) (g4 j)
     obtain⟨z,lv,hk⟩:=hk;obtain⟨e1,t,e2,e3⟩:=hg;rw [if_pos e1];simp only [e3];have:=(kD c.res rm hokr j t 0 z lv hk e2).1;simpa using this
    ·rw [hios]
     refine wg pm args.toList 0 hal (fun j hj hio=>?_)
     rw [Hs];have hkj:=hpn j hj;have hbj:nth δ' j ≠ .bad:=by
      refine h2 _ ?_
      rw [hios,kO];exact HV (by simpa using qC pm 0 j hj hio)
     have havj:av a' j=args.toList.getD j undef:=(hV' j (by rw [hkj];exact hio)).trans (hav j hj);have hlv:∀lv,lv≠1→∀b,FB F' w.heap.size lv b→FB F' 0 lv b:=fun lv h1 b hb=>by
      match lv,h1 with
      | 0,_=>exact hb
      | _+2,_=>exact hb
     refine⟨hbj,.inr ?_⟩
     rcases oK hpm j hj with ⟨lv,hk,h1⟩ | ⟨z,lv,hk,h1⟩ | ⟨n,lv,hk,h1⟩
     ·rw [hk] at hio;cases hio
     ·have h5:=hI'.own (hkj.trans hk) hbj
      rw [havj] at h5;rw [hk];exact ct (hlv lv h1) (fun _ _=>rfl) (fun _ _ _=>⟨trivial,rfl⟩) h5
     ·have h5:=hI'.box (hkj.trans hk) hbj
      rw [havj] at h5;rw [hk];exact je (hlv lv h1) (fun _ _=>rfl) (fun _ _ _=>⟨trivial,rfl⟩) h5
  cases e with
  | normal=>exact fin hp
  | exit i =>
   obtain⟨⟨_,_,_,_,h⟩,_⟩:=hp;cases h
  | ret =>
   refine fin (gm hp fun δ F O _ h=>?_)
   obtain⟨rs',h1,h2,h3⟩:=gO h;exact rU h1 h2 h3
  | _=>exact hp.elim
theorem BS (hT:okT P c.T=true) (hS:∀f S,cb c.S f=some S→ay c.G P f S) (hm:P.follows .mixedOrders=true) {J:List (Nat × List Nat)} (hJ:okJ c J=true) {f:FuncId} {fn:Func} (hf:P.funcs[f]?=some fn) (hname:(fn.name== "runtime.NumGoroutine")=false) {pm rm:List Kd} (hok:zR c fn pm rm=true) (hres:c.res=fn.results.toList) :
  ay c.G P f {pm:=pm,rm:=rm,f:=qT c J fn}:=by
 intro ds rs us hd args w F ow hgl ha hF hO o a next Q hn
 have hbody:∃b,fn.body=some b:=by
  have hd':qT c J fn ds=some (.ret rs us):=hd;unfold qT at hd';cases hb:fn.body with
  | none=>rw [hb] at hd';cases hd'
  | some b=>exact⟨b,rfl⟩
 obtain⟨b,hb⟩:=hbody;have hrun:(callFunc f args).run P w = .ok (.enter f args) w:=by
  have h1:¬fn.name= "runtime.NumGoroutine":=by simpa using hname
  simp [callFunc,hf,h1,hb]
 rw [hrun,Hr];refine Hz (Bk hT hS hm hJ hf hok hres hd hgl ha hF hO) (fun e w' he=>?_)
 obtain⟨v,rfl,F',R,vs,h1,h2⟩:=he;exact hn v w' ⟨F',R,vs,h1,h2⟩
end
theorem su {f:(List D→Option Out)→Option Out} {k:List D→Option Out} {r:Option Out} (p:List D→Prop) (hk:∀s,p s→k s=r) (hf:∀j:List D→Option Out,(∀s,p s→j s=r)→f j=r):xY f k=r:=hf k hk
end Go.V

namespace Go.Proofs.YtepkkkphfmckdaaGreatDoor
open Go.V
set_option maxRecDepth 100000
theorem jR:Tryz.prog.follows .mixedOrders=true:=by kernel_rfl
theorem aF {c:Cx} {S:FS} {f:FuncId} {fn:Func} (hS:∀f S,cb c.S f=some S→ay c.G Tryz.prog f S) (hf:Tryz.prog.funcs[f]?=some fn) (hres:c.res=fn.results.toList) (hF:S.f=bF c fn)
  (hb:(okT Tryz.prog c.T&&(!(fn.name== "runtime.NumGoroutine")&&zR c fn S.pm S.rm))=true):ay c.G Tryz.prog f S:=by
 obtain⟨pm,rm,g⟩:=S;cases hF;simp only [Hg,HF] at hb;exact yK hb.1 hS jR hf hb.2.1 hb.2.2 hres
@[reducible] def ty3:TI:={n:=1,zero:=[.v (.int .i64 0)],ik:=some .i64}
@[reducible] def ty4:TI:={n:=1,zero:=[.v (.bool false)],bl:=true}
@[reducible] def ty5:TI:={n:=1,zero:=[.v (.int .u8 0)],ik:=some .u8}
@[reducible] def ty9:TI:={n:=1,zero:=[.v (.string ⟨#[]⟩)],str:=true}
@[reducible] def xr:TI:={n:=1,zero:=[.arr 1 []],elem:=5,ez:=1,eb:=1}
@[reducible] def gc:TI:={n:=1,zero:=[.arr 1 []],elem:=3,ez:=1,eb:=8}
@[reducible] def kB:TI:={n:=1,zero:=[.arr 2 []],elem:=82,ez:=2,eb:=24}
@[reducible] def pN:TI:={n:=1,zero:=[.arr 1 []],elem:=9,ez:=1,eb:=16}
@[reducible] def CW:TI:={n:=1,zero:=[.v (.int .u64 0)],ik:=some .u64}
@[reducible] def Dh:TI:={agg:=true,n:=3,zero:=[.arr 1 [],.v (.int .i64 0),.v (.int .u64 0)],fs:=[(0,22),(1,3),(2,66)]}
@[reducible] def Hc:TI:={n:=1,zero:=[.arr 1 []],elem:=4,ez:=1,eb:=1}
@[reducible] def lH:TI:={agg:=true,n:=2,zero:=[.v (.string ⟨#[]⟩),.v (.int .i64 0)],fs:=[(0,9),(1,3)],eq:=[3,1]}
@[reducible] def nv:Cx:={K:=[Y,Y,Y,.no,.no,.no,Y,Y,Y,Y,Y,Y,Y,Y,Y],T:=[(3,ty3)],S:=[],H:=[],res:=[.tmp 6],ios:=[],G:=gl0}
def bX:List D→Option Out:=bF nv Tryz.f42
@[reducible] def dU:FS:={pm:=[Y,Y,Y],rm:=[Y],f:=bX}
theorem dW:ay gl0 Tryz.prog 42 dU:=aF (c:=nv) ax Tryz.func42 rfl rfl (by kernel_rfl)
@[reducible] def jA:Cx:={K:=[Y,Y,Y,.no,.no,.no,Y,Y,Y,Y,Y,Y,Y,Y,Y,Y,Y,Y,Y,Y,Y,Y,Y,Y,Y,Y,Y,Y,Y],T:=[(3,ty3),(5,ty5),(9,ty9)],S:=[(42,dU)],H:=[(0,([0,1,2,7],[0,1,2]))],res:=[.tmp 6],ios:=[],G:=gl0}
def dg:List D→Option Out:=bF jA Tryz.f148
@[reducible] def fN:FS:={pm:=[Y,Y,Y],rm:=[Y],f:=dg}
theorem ju:ay gl0 Tryz.prog 148 fN:=aF (c:=jA) (ab dW ax) Tryz.func148 rfl rfl (by kernel_rfl)
@[reducible] def nt:Cx:={K:=[Y,.no,Y,Y,Y],T:=[],S:=[(148,fN)],H:=[],res:=[.tmp 2],ios:=[],G:=gl0}
def gF:List D→Option Out:=bF nt Tryz.f147
@[reducible] def nI:FS:={pm:=[Y],rm:=[Y],f:=gF}
theorem uI:ay gl0 Tryz.prog 147 nI:=aF (c:=nt) (ab ju ax) Tryz.func147 rfl rfl (by kernel_rfl)
@[reducible] def nl:Cx:={K:=[Y,.box 2 0 false,Y,Yr 1,Y,Y,Y,Yr 1,Y,Y,Y],T:=[(3,ty3),(9,ty9),(82,lH)],S:=[(42,dU),(147,nI)],H:=[],res:=[.tmp 2],ios:=[],G:=gl0}
def gG:List D→Option Out:=bF nl Tryz.f132
@[reducible] def nM:FS:={pm:=[Y],rm:=[Y],f:=gG}
theorem uk:ay gl0 Tryz.prog 132 nM:=aF (c:=nl) (ab dW (ab uI ax)) Tryz.func132 rfl rfl (by kernel_rfl)
@[reducible] def nF:Cx:={K:=[Yc,.no,Y,Y,.box 2 0 false,Yc,Y,Y,Y,Y,Yc,Y,Y,Y,Y,Y,Y,Y,Y,Yc,Y,Y,Yc,Yc,Y,Yr 4,Y,Y,Y,Y,Y,Yc,Y,Y],T:=[(3,ty3),(9,ty9),(30,kB),(82,lH)],S:=[(42,dU),(132,nM)],H:=[(0,([0,5,6,7],[0]))],res:=[.tmp 2],ios:=[],G:=gl0}
def fa:List D→Option Out:=bF nF Tryz.f91
@[reducible] def jX:FS:={pm:=[Yc],rm:=[Y],f:=fa}
theorem nD:ay gl0 Tryz.prog 91 jX:=aF (c:=nF) (ab dW (ab uk ax)) Tryz.func91 rfl rfl (by kernel_rfl)
@[reducible] def nH:Cx:={K:=[Y,.no,Y,Y,Y],T:=[],S:=[(148,fN)],H:=[],res:=[.tmp 2],ios:=[],G:=gl0}
def gL:List D→Option Out:=bF nH Tryz.f133
@[reducible] def nx:FS:={pm:=[Y],rm:=[Y],f:=gL}
theorem uz:ay gl0 Tryz.prog 133 nx:=aF (c:=nH) (ab ju ax) Tryz.func133 rfl rfl (by kernel_rfl)
@[reducible] def lz:Cx:={K:=[Yc,.no,Y,.no,Y,Yc,Y,Y,Y,Yc,Y,Y,Y,Y,Y,Yc,Y,Y],T:=[(3,ty3),(9,ty9),(31,pN)],S:=[(133,nx)],H:=[(0,([0,5,6,7],[0]))],res:=[.tmp 2],ios:=[],G:=gl0}
def fe:List D→Option Out:=bF lz Tryz.f92
@[reducible] def lj:FS:={pm:=[Yc],rm:=[Y],f:=fe}
theorem ro:ay gl0 Tryz.prog 92 lj:=aF (c:=lz) (ab uz ax) Tryz.func92 rfl rfl (by kernel_rfl)
@[reducible] def cY:Cx:={K:=[Y,Y,.no,.no,Y,Y,Y,Y,Y,Y,Y,Y,Y,Y,Y,Y,Y,Y],T:=[(3,ty3),(9,ty9)],S:=[],H:=[],res:=[.tmp 4],ios:=[],G:=gl0}
def bk:List D→Option Out:=bF cY Tryz.f149
@[reducible] def de:FS:={pm:=[Y,Y],rm:=[Y],f:=bk}
theorem fW:ay gl0 Tryz.prog 149 de:=aF (c:=cY) ax Tryz.func149 rfl rfl (by kernel_rfl)
@[reducible] def ij:Cx:={K:=[Y,Y,.no,.no,Y,Y,Y,Y],T:=[],S:=[(149,de)],H:=[],res:=[.tmp 4],ios:=[],G:=gl0}
def dz:List D→Option Out:=bF ij Tryz.f134
@[reducible] def ic:FS:={pm:=[Y,Y],rm:=[Y],f:=dz}
theorem mQ:ay gl0 Tryz.prog 134 ic:=aF (c:=ij) (ab fW ax) Tryz.func134 rfl rfl (by kernel_rfl)
@[reducible] def lT:Cx:={K:=[Yc,Y,.no,.no,Yo 1 0,Y,Yo 1 0,Y,Y,.box 2 0 false,Yo 1 0,Y,Y,Y,Yc,Y,Y,Y,Y,Yc,Y,Y,Yr 9,Y,Y,Y,Y,Y,Y,Yr 9,Y,Y,Yc,Y,Yc,Yc,Y,Y,Y,Y,Y,Y,Y,Y,Y,Yo 1 0,Yo 1 0,Y,Yb,Yo 1 0,Y,Yc,Y,Yc,Yc,Y,Y,Y,Yo 1 0],T:=[(3,ty3),(9,ty9),(23,gc),(30,kB),(82,lH)],S:=[(134,ic)],H:=[(0,([0,1,6],[6])),(2,([0,1,6,7,14,15,16],[0,1,6,7]))],res:=[.tmp 4,.tmp 5],ios:=[],G:=gl0}
def eB:List D→Option Out:=bF lT Tryz.f93
@[reducible] def mq:FS:={pm:=[Yc,Y],rm:=[Yo 1 0,Y],f:=eB}
theorem tF:ay gl0 Tryz.prog 93 mq:=aF (c:=lT) (ab mQ ax) Tryz.func93 rfl rfl (by kernel_rfl)
@[reducible] def jz:Cx:={K:=[Yc,Yc,.no,.no,Yo 1 0,Y,Yo 1 0,.no,Y,Yb,Y,.no,Y,Yc,Y,Y,Y,Yc,Y,Y,Y,Yo 1 0,Yc,Y,Yo 1 0,Yc,Y,Y,Y,Yc,Y,.tup [Yo 1 0,Y],Yc,Y,.tup [Yo 1 0,Y],Yb,Y,Y,Y,Yo 1 0,Yb,Y,Y,Y,Yb,Y,.via 6,Y,Yr 6,Y,Y,Yr 6,Y,Y,Yo 1 0],T:=[(3,ty3),(9,ty9),(23,gc),(30,kB),(31,pN),(82,lH)],S:=[(91,jX),(92,lj),(93,mq)],H:=[(0,([0,6,25,26,27],[6])),(2,([0,6,25,26,27,40,41,42],[0,6,25,26,27]))],res:=[.tmp 4,.tmp 5],ios:=[],G:=gl0}
def bQ:List D→Option Out:=bF jz Tryz.f52
@[reducible] def fF:FS:={pm:=[Yc,Yc],rm:=[Yo 1 0,Y],f:=bQ}
theorem jv:ay gl0 Tryz.prog 52 fF:=aF (c:=jz) (ab nD (ab ro (ab tF ax))) Tryz.func52 rfl rfl (by kernel_rfl)
@[reducible] def kg:Cx:={K:=[Yc,Yc,.no,.no,Y,.no,Y,Yc,Y,Y,Y,Yc,Y,Y,Y,Y,Y,Yc,Y,Y,Yc,Y,Yc,Y,Y,Y],T:=[(3,ty3),(23,gc),(30,kB),(82,lH)],S:=[(42,dU),(91,jX)],H:=[(0,([0,1,7,8,9],[0,1]))],res:=[.tmp 4],ios:=[],G:=gl0}
def cF:List D→Option Out:=bF kg Tryz.f55
@[reducible] def eO:FS:={pm:=[Yc,Yc],rm:=[Y],f:=cF}
theorem gB:ay gl0 Tryz.prog 55 eO:=aF (c:=kg) (ab dW (ab nD ax)) Tryz.func55 rfl rfl (by kernel_rfl)
@[reducible] def lp:Cx:={K:=[Yc,Yc,Yc,.no,.no,.no,Yo 1 0,Y,Yo 1 0,Y,.tup [Yo 1 0,Y],Yc,Yc,.tup [Yo 1 0,Y],Yo 1 0,Y,Yo 1 0,Y,Y,Yc,Yc,Y,Y],T:=[(23,gc)],S:=[(52,fF),(55,eO)],H:=[],res:=[.tmp 6,.tmp 7],ios:=[],G:=gl0}
def fh:List D→Option Out:=bF lp Tryz.f49
@[reducible] def lA:FS:={pm:=[Yc,Yc,Yc],rm:=[Yo 1 0,Y],f:=fh}
theorem ru:ay gl0 Tryz.prog 49 lA:=aF (c:=lp) (ab jv (ab gB ax)) Tryz.func49 rfl rfl (by kernel_rfl)
@[reducible] def ir:Cx:={K:=[Yc,Yc,Yc,.no,.no,.no,Y,Y,Yb,Y,Y,Y,Y,.tup [Yo 1 0,Y],Yc,Yc,Yc,.tup [Yo 1 0,Y],Yb,Y,Y,Y,Yb,Y,Y,Y,Y,Yb,Y,Y,Y,Y,Y,Y,Y,Yc,Y,Yc,Y,Yb,Y,Yb,Y,Y,Yc,Y,Yc,Y,Y,Y,Y,Y,Y,Y,Y,Y,Y,Y],T:=[(3,ty3),(23,gc)],S:=[(49,lA)],H:=[(0,([1,8,10,22,23,24],[10]))],res:=[.tmp 6,.tmp 7],ios:=[],G:=gl0}
def dv:List D→Option Out:=bF ir Tryz.f11
@[reducible] def ig:FS:={pm:=[Yc,Yc,Yc],rm:=[Y,Y],f:=dv}
theorem mX:ay gl0 Tryz.prog 11 ig:=aF (c:=ir) (ab ru ax) Tryz.func11 rfl rfl (by kernel_rfl)
@[reducible] def qI:Cx:={K:=[Y,Y,Y,.no,.no,.no,Y,Y,Y,Y,Y,Y,Y,Y,Y],T:=[(3,ty3)],S:=[],H:=[],res:=[.tmp 6],ios:=[],G:=gl0}
def cE:List D→Option Out:=bF qI Tryz.f46
@[reducible] def eK:FS:={pm:=[Y,Y,Y],rm:=[Y],f:=cE}
theorem fp:ay gl0 Tryz.prog 46 eK:=aF (c:=qI) ax Tryz.func46 rfl rfl (by kernel_rfl)
@[reducible] def kf:Cx:={K:=[Y,Y,.no,.no,Y,Y,Y,Y,Y,Y,Y,Y,Y,Y,Y,Y,Y,Y,Y,Y,Y,Y,Y,Y,Y,Y],T:=[(3,ty3),(5,ty5),(9,ty9)],S:=[(46,eK)],H:=[(0,([0,1,5],[0,1]))],res:=[.tmp 4],ios:=[],G:=gl0}
def dF:List D→Option Out:=bF kf Tryz.f135
@[reducible] def gn:FS:={pm:=[Y,Y],rm:=[Y],f:=dF}
theorem kp:ay gl0 Tryz.prog 135 gn:=aF (c:=kf) (ab fp ax) Tryz.func135 rfl rfl (by kernel_rfl)
@[reducible] def ny:Cx:={K:=[Y,.box 2 0 false,Y,Yr 1,Y,Y,Y,Yr 1,Y,Y,Y],T:=[(3,ty3),(9,ty9),(82,lH)],S:=[(46,eK),(135,gn)],H:=[],res:=[.tmp 2],ios:=[],G:=gl0}
def gM:List D→Option Out:=bF ny Tryz.f95
@[reducible] def nC:FS:={pm:=[Y],rm:=[Y],f:=gM}
theorem uK:ay gl0 Tryz.prog 95 nC:=aF (c:=ny) (ab fp (ab kp ax)) Tryz.func95 rfl rfl (by kernel_rfl)
@[reducible] def nw:Cx:={K:=[Yc,.no,Y,Y,.box 2 0 false,Yc,Y,Y,Y,Y,Yc,Y,Y,Y,Y,Y,Y,Y,Y,Yc,Y,Y,Yc,Yc,Y,Yr 4,Y,Y,Y,Y,Y,Yc,Y,Y],T:=[(3,ty3),(9,ty9),(30,kB),(82,lH)],S:=[(46,eK),(95,nC)],H:=[(0,([0,5,6,7],[0]))],res:=[.tmp 2],ios:=[],G:=gl0}
def dY:List D→Option Out:=bF nw Tryz.f56
@[reducible] def gN:FS:={pm:=[Yc],rm:=[Y],f:=dY}
theorem jS:ay gl0 Tryz.prog 56 gN:=aF (c:=nw) (ab fp (ab uK ax)) Tryz.func56 rfl rfl (by kernel_rfl)
@[reducible] def nN:Cx:={K:=[Y,.no,Y,Y,Y],T:=[],S:=[(135,gn)],H:=[],res:=[.tmp 2],ios:=[],G:=gl0}
def gE:List D→Option Out:=bF nN Tryz.f146
@[reducible] def nL:FS:={pm:=[Y],rm:=[Y],f:=gE}
theorem ur:ay gl0 Tryz.prog 146 nL:=aF (c:=nN) (ab kp ax) Tryz.func146 rfl rfl (by kernel_rfl)
@[reducible] def mx:Cx:={K:=[Yc,.no,Y,.no,Y,Yc,Y,Y,Y,Yc,Y,Y,Y,Y,Y,Yc,Y,Y],T:=[(3,ty3),(9,ty9),(31,pN)],S:=[(146,nL)],H:=[(0,([0,5,6,7],[0]))],res:=[.tmp 2],ios:=[],G:=gl0}
def fG:List D→Option Out:=bF mx Tryz.f129
@[reducible] def lK:FS:={pm:=[Yc],rm:=[Y],f:=fG}
theorem tY:ay gl0 Tryz.prog 129 lK:=aF (c:=mx) (ab ur ax) Tryz.func129 rfl rfl (by kernel_rfl)
@[reducible] def lJ:Cx:={K:=[Y,Y,.no,.no,Y,Y,Y,Y,Y,Y],T:=[(3,ty3)],S:=[],H:=[],res:=[.tmp 4],ios:=[],G:=gl0}
def eI:List D→Option Out:=bF lJ Tryz.f130
@[reducible] def mv:FS:={pm:=[Y,Y],rm:=[Y],f:=eI}
theorem tf:ay gl0 Tryz.prog 130 mv:=aF (c:=lJ) ax Tryz.func130 rfl rfl (by kernel_rfl)
@[reducible] def nE:Cx:={K:=[Yc,Y,.no,.no,Y,Y,.box 2 0 false,Yc,Y,Y,Y,Y,Yc,Y,Yr 6,Y,Y,Y,Y,Y],T:=[(3,ty3),(9,ty9),(30,kB),(82,lH)],S:=[],H:=[(0,([1,7,8,9],[]))],res:=[.tmp 4],ios:=[],G:=gl0}
def eX:List D→Option Out:=bF nE Tryz.f131
@[reducible] def nz:FS:={pm:=[Yc,Y],rm:=[Y],f:=eX}
theorem uE:ay gl0 Tryz.prog 131 nz:=aF (c:=nE) ax Tryz.func131 rfl rfl (by kernel_rfl)
@[reducible] def oH:Cx:={K:=[Yc,Y,.no,.no,Yo 1 0,Y,Yo 1 0,Y,Y,Y,Y,Y,Y,Y,Y,Y,Y,Y,Y,Y,Y,Y,Y,Y,Y,Y,Y,Yc,Y,Y,Y,Y,Y,Y,Y,Y,Y,Yo 1 0,Y,Yb,Yo 1 0,Y,Yc,Y,Yc,Yc,Y,Y,Y,Yo 1 0],T:=[(3,ty3),(9,ty9),(23,gc),(30,kB),(82,lH)],S:=[(130,mv),(131,nz)],H:=[(0,([0,1,6,7],[6])),(2,([0,1,6,7,8,9],[0,1,6,7,8]))],res:=[.tmp 4,.tmp 5],ios:=[],G:=gl0}
def fJ:List D→Option Out:=bF oH Tryz.f90
@[reducible] def ov:FS:={pm:=[Yc,Y],rm:=[Yo 1 0,Y],f:=fJ}
theorem wl:ay gl0 Tryz.prog 90 ov:=aF (c:=oH) (ab tf (ab uE ax)) Tryz.func90 rfl rfl (by kernel_rfl)
@[reducible] def nB:Cx:={K:=[Yc,Yc,.no,.no,Yo 1 0,Y,Yo 1 0,.no,Y,Yb,Y,.no,Y,Yc,Y,Yo 1 0,Yc,Y,Y,Y,Yc,Y,.tup [Yo 1 0,Y],Yc,Y,.tup [Yo 1 0,Y],Yb,Y,Y,Y,Yb,Y,Y,Y,Yb,Y,.via 6,Y,Yr 6,Y,Y,Yr 6,Y,Y,Yo 1 0],T:=[(3,ty3),(9,ty9),(23,gc),(30,kB),(31,pN),(82,lH)],S:=[(90,ov)],H:=[(0,([0,6,16,17,18],[6])),(2,([0,6,16,17,18,30,31,32],[0,6,16,17,18]))],res:=[.tmp 4,.tmp 5],ios:=[],G:=gl0}
def eT:List D→Option Out:=bF nB Tryz.f51
@[reducible] def jO:FS:={pm:=[Yc,Yc],rm:=[Yo 1 0,Y],f:=eT}
theorem nk:ay gl0 Tryz.prog 51 jO:=aF (c:=nB) (ab wl ax) Tryz.func51 rfl rfl (by kernel_rfl)
@[reducible] def nK:Cx:={K:=[Yc,Yc,.no,.no,Y,Yb,Y,Yc,Y,Y,Y,Yc,Y,Y,Y,.tup [Yo 1 0,Y],Yc,Yc,.tup [Yo 1 0,Y],Yb,Y,Y],T:=[],S:=[(51,jO),(56,gN),(129,lK)],H:=[],res:=[.tmp 4],ios:=[],G:=gl0}
def gJ:List D→Option Out:=bF nK Tryz.f89
@[reducible] def nr:FS:={pm:=[Yc,Yc],rm:=[Y],f:=gJ}
theorem uA:ay gl0 Tryz.prog 89 nr:=aF (c:=nK) (ab nk (ab jS (ab tY ax))) Tryz.func89 rfl rfl (by kernel_rfl)
@[reducible] def oL:Cx:={K:=[Yc,Y,Y,.no,.no,.no,Y,.no,Y,Yc,Y,Y,Y,Yc,Y,Y,Y,Y,Y,Y,Y],T:=[(3,ty3),(23,gc)],S:=[(46,eK)],H:=[(0,([1,2,9,10,11],[]))],res:=[.tmp 6],ios:=[],G:=gl0}
def fE:List D→Option Out:=bF oL Tryz.f47
@[reducible] def kT:FS:={pm:=[Yc,Y,Y],rm:=[Y],f:=fE}
theorem oT:ay gl0 Tryz.prog 47 kT:=aF (c:=oL) (ab fp ax) Tryz.func47 rfl rfl (by kernel_rfl)
@[reducible] def lL:Cx:={K:=[Yc,Yc,.no,.no,Y,Yc,Y,Yc,Y,Y,Y,Yc,Y,Y],T:=[(3,ty3),(23,gc),(30,kB),(82,lH)],S:=[(47,kT)],H:=[],res:=[.tmp 4],ios:=[],G:=gl0}
def dB:List D→Option Out:=bF lL Tryz.f57
@[reducible] def fU:FS:={pm:=[Yc,Yc],rm:=[Y],f:=dB}
theorem iW:ay gl0 Tryz.prog 57 fU:=aF (c:=lL) (ab oT ax) Tryz.func57 rfl rfl (by kernel_rfl)
@[reducible] def my:Cx:={K:=[Yc,Yc,Yc,.no,.no,.no,Y,Yc,Yc,Y,Y,Yc,Yc,Y,Y],T:=[],S:=[(57,fU),(89,nr)],H:=[],res:=[.tmp 6],ios:=[],G:=gl0}
def fK:List D→Option Out:=bF my Tryz.f50
@[reducible] def lP:FS:={pm:=[Yc,Yc,Yc],rm:=[Y],f:=fK}
theorem tt:ay gl0 Tryz.prog 50 lP:=aF (c:=my) (ab iW (ab uA ax)) Tryz.func50 rfl rfl (by kernel_rfl)
@[reducible] def ip:Cx:={K:=[Yc,Yc,Yc,.no,.no,.no,Y,Y,Yb,Y,Y,Y,Y,Yc,Yc,Yc,Y,Y,.tup [Yo 1 0,Y],Yc,Yc,.tup [Yo 1 0,Y],Yb,Y,Yb,Y,Y,Y,Y,Yb,Y,Y,Y,Y,Y,Y,Y,Yc,Y,Yc,Y,Yb,Y,Yb,Y,Y,Yc,Y,Yc,Y,Y,Y,Y,Y,Y,Y,Y,Y,Y,Y],T:=[(3,ty3),(23,gc)],S:=[(50,lP),(51,jO)],H:=[(0,([1,8,10,24,25,26],[10]))],res:=[.tmp 6,.tmp 7],ios:=[],G:=gl0}
def du:List D→Option Out:=bF ip Tryz.f12
@[reducible] def iu:FS:={pm:=[Yc,Yc,Yc],rm:=[Y,Y],f:=du}
theorem nj:ay gl0 Tryz.prog 12 iu:=aF (c:=ip) (ab tt (ab nk ax)) Tryz.func12 rfl rfl (by kernel_rfl)
@[reducible] def jB:Cx:={K:=[Yc,Yc,.no,.no,Yo 1 0,Y,Yc,Yc,.tup [Yo 1 0,Y],Yo 1 0,Y],T:=[(23,gc)],S:=[(52,fF)],H:=[],res:=[.tmp 4,.tmp 5],ios:=[],G:=gl0}
def ep:List D→Option Out:=bF jB Tryz.f13
@[reducible] def jt:FS:={pm:=[Yc,Yc],rm:=[Yo 1 0,Y],f:=ep}
theorem oI:ay gl0 Tryz.prog 13 jt:=aF (c:=jB) (ab jv ax) Tryz.func13 rfl rfl (by kernel_rfl)
@[reducible] def gS:Cx:={K:=[Yc,Yc,Y,.no,.no,.no,Y,Y,Y,Y,.box 2 0 false,Yc,Yc,Y,Y,Y,Y,Y,Y,Y,Yc,Y,Y,Y,Y,Yc,Y,Y,Yc,Y,Yc,Y,Yr 10,Y,Y,Y,Y,Y,Y,Y,Y,Y],T:=[(3,ty3),(9,ty9),(23,gc),(30,kB),(82,lH)],S:=[(42,dU),(55,eO)],H:=[(0,([1,2,8,20,21,22],[2,8]))],res:=[.tmp 6,.tmp 7],ios:=[],G:=gl0}
def dh:List D→Option Out:=bF gS Tryz.f15
@[reducible] def gX:FS:={pm:=[Yc,Yc,Y],rm:=[Y,Y],f:=dh}
theorem mz:ay gl0 Tryz.prog 15 gX:=aF (c:=gS) (ab dW (ab gB ax)) Tryz.func15 rfl rfl (by kernel_rfl)
@[reducible] def hD:Cx:={K:=[Yc,Yc,Y,.no,.no,.no,Y,Y,Y,Y,Y,Yc,Y,Y,Y,Yc,Yc,Y,Y,Y,Y,Y,Y,Y,Y,Yc,Y,Y,Y,Y,Yc,Y,Y,Y,Yc,Y,Yc,Yc,Y,Y,Y,Y,Y,Y,Y,Y,Y],T:=[(3,ty3),(9,ty9),(23,gc),(30,kB),(82,lH)],S:=[(46,eK),(56,gN),(57,fU)],H:=[(0,([0,2,8,25,26,27],[8]))],res:=[.tmp 6,.tmp 7],ios:=[],G:=gl0}
def cU:List D→Option Out:=bF hD Tryz.f16
@[reducible] def gR:FS:={pm:=[Yc,Yc,Y],rm:=[Y,Y],f:=cU}
theorem mA:ay gl0 Tryz.prog 16 gR:=aF (c:=hD) (ab fp (ab jS (ab iW ax))) Tryz.func16 rfl rfl (by kernel_rfl)
@[reducible] def lB:Cx:={K:=[Yc,Yc,.no,.no,Y,Y,Yo 1 0,Y,Y,Yc,Yc,Y,Y,Yo 1 0,Yc,Y,Y,Y,Y,Yc,Y,Y,Y,Yo 1 0,Yc,Y,Yc,Yc,Y,Y,Y,Y,Y,Yb,Yo 1 0,Y,.via 6,Y],T:=[(3,ty3),(9,ty9),(23,gc),(30,kB),(31,pN),(82,lH)],S:=[(55,eO),(58,ma),(59,lV)],H:=[(0,([0,6,14,15,16],[6]))],res:=[.tmp 4,.tmp 5],ios:=[],G:=gl1}
def fc:List D→Option Out:=bF lB Tryz.f18
@[reducible] def ll:FS:={pm:=[Yc,Yc],rm:=[Y,Y],f:=fc}
theorem rH:ay gl1 Tryz.prog 18 ll:=aF (c:=lB) (ab (bA mW gB) (ab tn (ab (bA mW tS) ax))) Tryz.func18 rfl rfl (by kernel_rfl)
@[reducible] def oP (k:List D→Option Out):Cx:={K:=[Y,.no,Y,Y,Y,Y,Y,Y,Yb,Y,Y,Y,Y,Y,Y,Y,Y,Yb,Y,Y],T:=[(3,ty3),(5,ty5),(9,ty9),(22,xr)],S:=[(60,{pm:=[Y],rm:=[Y],f:=k})],H:=[],res:=[.tmp 2],ios:=[],G:=gl0}
def bn:Nat→List D→Option Out
 | 0,_=>none
 | n+1,ds=>bF (oP (bn n)) Tryz.f60 ds
def kH:List D→Option Out:=AZ bn
@[reducible] def iG:FS:={pm:=[Y],rm:=[Y],f:=kH}
theorem nQ:∀n:Nat,ay gl0 Tryz.prog 60 {pm:=[Y],rm:=[Y],f:=bn n}
 | 0=>yX (fun _=>rfl)
 | n+1=>by
  have ih:=nQ n;exact yK (P:=Tryz.prog) (c:=oP (bn n)) (fn:=Tryz.f60) (pm:=iG.pm) (rm:=iG.rm) (by kernel_rfl) (ab ih ax) jR Tryz.func60 (by kernel_rfl) (by kernel_rfl) rfl
theorem wh:ay gl0 Tryz.prog 60 iG:=BJ nQ
@[reducible] def lq:Cx:={K:=[Yc,Yc,.no,.no,Y,Y,Y,Y,Y,Yc,Y,Y,Y,Yc,Yc,Y,Y,Y,Yc,Y,Y,Y,Y,Yc,Y,Y,Y,Y,Yc,Y,Yc,Yc,Y,Y,Y,Y,Y,Y,Y,Y,Y,Y,Y,Y,Y,Y,Y],T:=[(3,ty3),(9,ty9),(23,gc),(30,kB),(82,lH)],S:=[(56,gN),(57,fU),(60,iG)],H:=[(0,([0,6,18,19,20],[6]))],res:=[.tmp 4,.tmp 5],ios:=[],G:=gl0}
def fi:List D→Option Out:=bF lq Tryz.f19
@[reducible] def li:FS:={pm:=[Yc,Yc],rm:=[Y,Y],f:=fi}
theorem rc:ay gl0 Tryz.prog 19 li:=aF (c:=lq) (ab jS (ab iW (ab wh ax))) Tryz.func19 rfl rfl (by kernel_rfl)
@[reducible] def ga:Cx:={K:=[Yc,Y,.no,.no,Yo 1 0,Y,Y,.no,Y,Yo 1 0,Y,.no,Y,.via 68,Y,Y,Y,Yc,Y,Y,Y,Y,Yc,Y,Y,Y,Y,Y,Y,Y,Y,Yc,Y,Y,Y,Yc,Y,Y,Y,Y,Y,Y,Y,Y,Yc,Y,Y,Y,Yc,Y,Yo 1 0,Y,Y,Y,Y,Y,Yb,Yo 1 0,Y,Y,Y,Y,Y,Y,Y,Y,Yc,Y,Yo 1 0,Y,Y,Y,Y,Yc,Y,Y,Y,Y,Yc,Y,.via 68,Y,Yr 68,Y,Y,Y,Y,Y,Y,Y,Y,Y,Y,Y,Y,Yc,Y,Yc,Y,Y,Y,Y,Y,Y,Y,Y,Y,.via 68,Y,Yr 68,.via 9,Y,Yr 9,Y,Y,Yr 9,Yo 1 0],T:=[(3,ty3),(4,ty4),(23,gc),(75,Hc)],S:=[(46,eK),(47,kT)],H:=[(0,([0,1,6,31,32,33],[0,1,6])),(2,([0,1,6,9,10,44,45,46],[0,1,6,9,10])),(4,([0,1,6,9,10,13,68],[9])),(6,([0,1,6,9,10,13,14,68,73,74,75],[0,1,6,9,10,13,14,68]))],res:=[.tmp 4,.tmp 5],ios:=[],G:=gl0}
def cB:List D→Option Out:=bF ga Tryz.f7
@[reducible] def fS:FS:={pm:=[Yc,Y],rm:=[Yo 1 0,Y],f:=cB}
theorem kN:ay gl0 Tryz.prog 7 fS:=aF (c:=ga) (ab fp (ab oT ax)) Tryz.func7 rfl rfl (by kernel_rfl)
@[reducible] def jH:Cx:={K:=[.box 3 2 true,.no,Y,Y,Yr 0,Yr 0,Yr 0,Y,Yr 0,Yr 0,Yr 0,Yc,Y,Y,Yr 0,Yr 0,Yr 0,Yc,Yr 0,Yr 0,Yr 0,Y,Yc,Y,Y,Yr 0,Yr 0,Yr 0,Y,Y,Yr 0,Yr 0,Yr 0,Yr 0,Yr 0,Yr 0,Y,Y,Y,Y,Y,Y,Yr 0,Yr 0,Yr 0,Yr 0,Yr 0,Y,Yr 0,Yr 0,Yr 0,Yc,Y,Y,Y,Yr 0,Yr 0,Yr 0,Y,Y,Y,Y],T:=[(3,ty3),(5,ty5),(22,xr),(66,CW),(68,Dh)],S:=[],H:=[],res:=[.tmp 2],ios:=[0],G:=gl0}
def bP:List D→Option Out:=bF jH Tryz.f83
@[reducible] def jF:FS:={pm:=[.box 3 2 true],rm:=[Y],f:=bP}
theorem pk:ay gl0 Tryz.prog 83 jF:=aF (c:=jH) ax Tryz.func83 rfl rfl (by kernel_rfl)
@[reducible] def jy:Cx:={K:=[.box 3 2 true,Y,.no,.no,Y,Y,Y,Y,Yr 0,Y,Y,Y,Y,Y,Yr 0,Y,Y,Y,Y,Y],T:=[(3,ty3)],S:=[(83,jF)],H:=[],res:=[.tmp 4],ios:=[0],G:=gl0}
def an:List D→Option Out:=bF jy Tryz.f39
@[reducible] def aO:FS:={pm:=[.box 3 2 true,Y],rm:=[Y],f:=an}
theorem aV:ay gl0 Tryz.prog 39 aO:=aF (c:=jy) (ab pk ax) Tryz.func39 rfl rfl (by kernel_rfl)
@[reducible] def kE:Cx:={K:=[.box 3 2 true,Y,.no,.no,Y,Yr 0,Y,Y,Y],T:=[(3,ty3)],S:=[(39,aO)],H:=[],res:=[.tmp 4],ios:=[0],G:=gl0}
def aK:List D→Option Out:=bF kE Tryz.f40
@[reducible] def eP:FS:={pm:=[.box 3 2 true,Y],rm:=[Y],f:=aK}
theorem gr:ay gl0 Tryz.prog 40 eP:=aF (c:=kE) (ab aV ax) Tryz.func40 rfl rfl (by kernel_rfl)
@[reducible] def jj:Cx:={K:=[.box 3 2 true,Yc,.no,.no,Y,Yc,Yr 0,Yc,Y,Y,Yc,Y],T:=[(3,ty3),(23,gc)],S:=[(39,aO)],H:=[],res:=[.tmp 4],ios:=[0],G:=gl0}
def al:List D→Option Out:=bF jj Tryz.f41
@[reducible] def cJ:FS:={pm:=[.box 3 2 true,Yc],rm:=[Y],f:=al}
theorem dM:ay gl0 Tryz.prog 41 cJ:=aF (c:=jj) (ab aV ax) Tryz.func41 rfl rfl (by kernel_rfl)
@[reducible] def eJ:Cx:={K:=[Yc,.no,Yo 1 0,Y,Yr 9,Yo 1 0,Y,Yc,Yc,.box 3 2 false,Yr 9,Y,Y,Yr 9,Y,Yr 9,Yb,Y,.via 5,Y,Y,Y,Yo 1 0,Yr 9,Yb,Y,Yb,Yo 1 0,Y,Y,Y,Yr 9,Y,Y,.via 5,Yr 9,Y,Y,Yr 9,Yb,Y,Yr 5,Yo 1 0,Yr 9,Yr 9,Yb,Y,Yb,Y],T:=[(3,ty3),(22,xr),(23,gc),(66,CW),(68,Dh)],S:=[(39,aO),(40,eP),(41,cJ)],H:=[(0,([4,5,6,9],[4,5,6,9]))],res:=[.tmp 2,.tmp 3],ios:=[],G:=gl0}
def bO:List D→Option Out:=bF eJ Tryz.f5
@[reducible] def eD:FS:={pm:=[Yc],rm:=[Yo 1 0,Y],f:=bO}
theorem iU:ay gl0 Tryz.prog 5 eD:=aF (c:=eJ) (ab aV (ab gr (ab dM ax))) Tryz.func5 rfl rfl (by kernel_rfl)
@[reducible] def jw:Cx:={K:=[.box 3 2 true,.no,Yo 2 0,Yo 2 0,.no,Y,Yb,Y,Y,Y,Yb,Y,Y,Y,Y,Y,Yr 0,Y,Y,Y,Y,Y,Y,Y,Y,Yr 0,Y,Y,Y,Yo 2 0,Y,Y,Y,Yr 0,Y,Y,Y,Y,Y,Yb,Yo 2 0,Y,.via 3,Y,Y,Y,Yo 2 0,Yo 2 0],T:=[(3,ty3),(9,ty9),(30,kB),(31,pN),(82,lH)],S:=[(39,aO),(40,eP)],H:=[(0,([0,3,6,7,8],[0,3]))],res:=[.tmp 2],ios:=[0],G:=gl0}
def eu:List D→Option Out:=bF jw Tryz.f94
@[reducible] def jr:FS:={pm:=[.box 3 2 true],rm:=[Yo 2 0],f:=eu}
theorem oM:ay gl0 Tryz.prog 94 jr:=aF (c:=jw) (ab aV (ab gr ax)) Tryz.func94 rfl rfl (by kernel_rfl)
@[reducible] def lw:Cx:={K:=[.box 3 2 true,Yc,.no,.no,Y,Yc,Yr 0,Yc,Y,Y,Yc,Y],T:=[(9,ty9),(31,pN)],S:=[(39,aO)],H:=[],res:=[.tmp 4],ios:=[0],G:=gl0}
def cQ:List D→Option Out:=bF lw Tryz.f76
@[reducible] def fg:FS:={pm:=[.box 3 2 true,Yc],rm:=[Y],f:=cQ}
theorem hZ:ay gl0 Tryz.prog 76 fg:=aF (c:=lw) (ab aV ax) Tryz.func76 rfl rfl (by kernel_rfl)
@[reducible] def gQ:Cx:={K:=[.box 3 2 true,.no,Yo 2 0,Yo 2 0,Y,Y,Yr 0,Yo 2 0,Yr 0,.via 3,Y,Y,Yr 0,Y,Y,Y,.via 3,Y,Yr 0,Yb,Y,Yr 3,Yr 3,Y,Y,.via 3,Y,Yr 0,Yb,Y,Yr 3,Yr 3,Y,Y,Y,Y,Yr 0,Y,Y,.via 3,Y,Y,Y,.via 3,.via 3,Y,Y,Y,Y,.via 3,Y,Y,Y,Y,Yb,Y,Y,Yb,Yo 2 0,Yo 2 0],T:=[(3,ty3),(5,ty5),(9,ty9),(22,xr),(23,gc),(30,kB),(31,pN),(82,lH)],S:=[(39,aO),(41,cJ),(76,fg),(94,jr)],H:=[(1,([0,3,5],[0,3]))],res:=[.tmp 2],ios:=[0],G:=gl0}
def bL:List D→Option Out:=bF gQ Tryz.f53
@[reducible] def cS:FS:={pm:=[.box 3 2 true],rm:=[Yo 2 0],f:=bL}
theorem eL:ay gl0 Tryz.prog 53 cS:=aF (c:=gQ) (ab aV (ab dM (ab hZ (ab oM ax)))) Tryz.func53 rfl rfl (by kernel_rfl)
@[reducible] def fV:Cx:={K:=[.box 3 2 true,Yc,.no,.no,Yo 1 0,Yo 1 0,Yc,Y,Y,Y,Yo 1 0,Yr 0,Yb,Y,Yb,Yo 1 0,Y,Yr 0,Y,Y,Y,Yo 1 0,Yb,Yo 1 0,Y,Y,.via 5,Y,Y,.via 5,Yr 0,.via 5,Y,Y,Yr 0,Yb,Y,Yr 5,Yo 1 0],T:=[(3,ty3),(23,gc),(30,kB),(82,lH)],S:=[(39,aO),(41,cJ)],H:=[(0,([0,5,7,8],[0,5]))],res:=[.tmp 4],ios:=[0],G:=gl0}
def bv:List D→Option Out:=bF fV Tryz.f54
@[reducible] def cz:FS:={pm:=[.box 3 2 true,Yc],rm:=[Yo 1 0],f:=bv}
theorem dO:ay gl0 Tryz.prog 54 cz:=aF (c:=fV) (ab aV (ab dM ax)) Tryz.func54 rfl rfl (by kernel_rfl)
@[reducible] def js:Cx:={K:=[.box 3 2 true,.no,Y,Y,Y,Yr 0,Y,Y,Y,Y,Y,Y,Y,Yr 0,Yb,Y,Y,Y],T:=[(3,ty3),(9,ty9),(31,pN)],S:=[(39,aO),(76,fg)],H:=[(0,([0,3,4],[0,3]))],res:=[.tmp 2],ios:=[0],G:=gl0}
def bm:List D→Option Out:=bF js Tryz.f127
@[reducible] def fI:FS:={pm:=[.box 3 2 true],rm:=[Y],f:=bm}
theorem jD:ay gl0 Tryz.prog 127 fI:=aF (c:=js) (ab aV (ab hZ ax)) Tryz.func127 rfl rfl (by kernel_rfl)
@[reducible] def gP:Cx:={K:=[.box 3 2 true,.no,Y,Y,Y,Yr 0,Y,Y,Y,Yr 0,Yb,Y,Y,Y,Yr 0,Y,Y,Y,Y,Y,Y,Y,Y,Y,Y,Y,Yr 0,Y,Y,Yr 0,Y],T:=[(3,ty3),(9,ty9),(31,pN)],S:=[(39,aO),(76,fg),(127,fI)],H:=[(1,([0,3,4],[0,3]))],res:=[.tmp 2],ios:=[0],G:=gl0}
def bH:List D→Option Out:=bF gP Tryz.f128
@[reducible] def gV:FS:={pm:=[.box 3 2 true],rm:=[Y],f:=bH}
theorem lW:ay gl0 Tryz.prog 128 gV:=aF (c:=gP) (ab aV (ab hZ (ab jD ax))) Tryz.func128 rfl rfl (by kernel_rfl)
@[reducible] def iY:Cx:={K:=[.box 3 2 true,.no,Yo 1 0,Yo 1 0,Y,Yr 0,Y,Yr 0,Y,Yr 0,Y,Y,.via 3,Y,Y,Y,Yo 1 0,Yr 0,Y,Yb,Yo 1 0,Y,Y,Y,Yr 0,Y,Y,.via 3,Yr 0,Y,Y,Yr 0,Y,Yr 3,Yo 1 0],T:=[(3,ty3),(9,ty9),(31,pN)],S:=[(39,aO),(40,eP),(127,fI),(128,gV)],H:=[(0,([0,3,4],[0,3,4]))],res:=[.tmp 2],ios:=[0],G:=gl0}
def dL:List D→Option Out:=bF iY Tryz.f88
@[reducible] def jm:FS:={pm:=[.box 3 2 true],rm:=[Yo 1 0],f:=dL}
theorem oh:ay gl0 Tryz.prog 88 jm:=aF (c:=iY) (ab aV (ab gr (ab jD (ab lW ax)))) Tryz.func88 rfl rfl (by kernel_rfl)
@[reducible] def ie:Cx:={K:=[Yc,.no,Yb,Yo 1 0,Yo 1 0,Yr 9,Yb,Yc,Yc,.box 3 2 false,Yr 9,Yb,Yb,Yr 9,Yb,Yo 1 0,Yr 9,Yo 1 0],T:=[(3,ty3),(22,xr),(23,gc),(30,kB),(31,pN),(66,CW),(68,Dh)],S:=[(53,cS),(54,cz),(88,jm)],H:=[],res:=[.tmp 2,.tmp 3,.tmp 4],ios:=[],G:=gl0}
def dA:List D→Option Out:=bF ie Tryz.f48
@[reducible] def iv:FS:={pm:=[Yc],rm:=[Yb,Yo 1 0,Yo 1 0],f:=dA}
theorem mU:ay gl0 Tryz.prog 48 iv:=aF (c:=ie) (ab eL (ab dO (ab oh ax))) Tryz.func48 rfl rfl (by kernel_rfl)
@[reducible] def fq:Cx:={K:=[Yc,.no,Yb,Yo 1 0,Yo 1 0,Yc,.tup [Yb,Yo 1 0,Yo 1 0],Yb,Yo 1 0,Yo 1 0],T:=[(23,gc),(30,kB),(31,pN)],S:=[(48,iv)],H:=[],res:=[.tmp 2,.tmp 3,.tmp 4],ios:=[],G:=gl0}
def cf:List D→Option Out:=bF fq Tryz.f10
@[reducible] def fx:FS:={pm:=[Yc],rm:=[Yb,Yo 1 0,Yo 1 0],f:=cf}
theorem kc:ay gl0 Tryz.prog 10 fx:=aF (c:=fq) (ab mU ax) Tryz.func10 rfl rfl (by kernel_rfl)
@[reducible] def eZ:Cx:={K:=[Yc,.no,Yb,Yo 1 0,Y,Yr 9,Yb,Yc,Yc,.box 3 2 false,Yr 9,Yb,Yb,Yr 9,Yb,Yo 1 0,Yr 9,Yr 9,Yb,Y,Yb,Y],T:=[(3,ty3),(22,xr),(23,gc),(30,kB),(66,CW),(68,Dh)],S:=[(41,cJ),(53,cS),(54,cz)],H:=[],res:=[.tmp 2,.tmp 3,.tmp 4],ios:=[],G:=gl0}
def bW:List D→Option Out:=bF eZ Tryz.f14
@[reducible] def eU:FS:={pm:=[Yc],rm:=[Yb,Yo 1 0,Y],f:=bW}
theorem jN:ay gl0 Tryz.prog 14 eU:=aF (c:=eZ) (ab dM (ab eL (ab dO ax))) Tryz.func14 rfl rfl (by kernel_rfl)
@[reducible] def iw:Cx:={K:=[Yc,.no,Yb,Yo 1 0,Yr 8,Yb,Yc,Yc,.box 3 2 false,Yr 8,Yb,Yb,Yr 8,Yb,Yo 1 0],T:=[(3,ty3),(22,xr),(23,gc),(30,kB),(66,CW),(68,Dh)],S:=[(53,cS),(54,cz)],H:=[],res:=[.tmp 2,.tmp 3],ios:=[],G:=gl0}
def dw:List D→Option Out:=bF iw Tryz.f17
@[reducible] def iy:FS:={pm:=[Yc],rm:=[Yb,Yo 1 0],f:=dw}
theorem mV:ay gl0 Tryz.prog 17 iy:=aF (c:=iw) (ab eL (ab dO ax)) Tryz.func17 rfl rfl (by kernel_rfl)
@[reducible] def pl:Cx:={K:=[Yc,Yc,.no,.no,Y,Y,Yc,Y,Yc,Y,Y,Yc,Y,Y,Y,Y,Yc,Y,Yc,Y,Yc,Y,Yc,Y,Y,Y],T:=[(3,ty3),(23,gc)],S:=[],H:=[(0,([0,1,12,13],[]))],res:=[.tmp 4],ios:=[],G:=gl0}
def iI:List D→Option Out:=bF pl Tryz.f8
@[reducible] def ou:FS:={pm:=[Yc,Yc],rm:=[Y],f:=iI}
theorem vT:ay gl0 Tryz.prog 8 ou:=aF (c:=pl) ax Tryz.func8 rfl rfl (by kernel_rfl)
@[reducible] def qL:Cx:={K:=[Yc,.no,Y,Y,.no,Y,Yc,Y,Y,Y,Yc,Y,Y,Y,Y,Y,Y],T:=[(3,ty3),(23,gc)],S:=[],H:=[(0,([3,6,7,8],[3]))],res:=[.tmp 2],ios:=[],G:=gl0}
def gY:List D→Option Out:=bF qL Tryz.f9
@[reducible] def qM:FS:={pm:=[Yc],rm:=[Y],f:=gY}
theorem xC:ay gl0 Tryz.prog 9 qM:=aF (c:=qL) ax Tryz.func9 rfl rfl (by kernel_rfl)
@[reducible] def tM:Cx:={K:=[Yc,.no,Y,Y,.no,Y,Yc,Y,Y,Y,Yc,Y,Y,Y,Y,Y,Y],T:=[(3,ty3),(23,gc)],S:=[],H:=[(0,([3,6,7,8],[3]))],res:=[.tmp 2],ios:=[],G:=gl0}
def kR:List D→Option Out:=bF tM Tryz.f43
@[reducible] def yO:FS:={pm:=[Yc],rm:=[Y],f:=kR}
theorem zM:ay gl0 Tryz.prog 43 yO:=aF (c:=tM) ax Tryz.func43 rfl rfl (by kernel_rfl)
end Go.Proofs.YtepkkkphfmckdaaGreatDoor

end
