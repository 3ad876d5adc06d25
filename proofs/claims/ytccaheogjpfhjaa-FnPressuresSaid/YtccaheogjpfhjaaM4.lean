/-
  A part of the proof: contracts and plain forms of functions beneath the statement, made small by a program (names shortened, what is not needed left out).
-/
import Derived.Test.YtccaheogjpfhjaaRows
import Derived.Test.YtccaheogjpfhjaaM3
import Derived.ProofKit
import Derived.ChangeArms
import Derived.Below
open Bool renaming and_eq_true → Ix, false_eq_true → IE, or_eq_true → IL, not_eq_true' → IY, not_false → Jt, not_true → JE
open Array renaming getD_eq_getD_getElem? → Iy, getElem?_eq_getElem → IA, replicate → ID, all_eq_true_iff_forall_mem → IG, getElem?_push_lt → IK, getElem?_append_left → Jb, mapM_eq_mapM_toList → Je, size_push → Jg, getElem?_push_size → Ji, getElem?_eq_none → Jn, getElem?_toList → Jo, getElem?_setIfInBounds → Ju
open Option.some renaming injEq → Iz
open Go.Region renaming ready → IB, wanted → IW, binds → IZ
open List renaming getElem?_eq_some_iff → IC, getD_eq_getElem?_getD → IH, all_eq_true → IP, mem_range → IQ, getElem?_eq_getElem → IU, mem_filter → IX, getD_cons_zero → Jd, getElem?_eq_none → Jp, mem_append → Jq, mem_map_of_mem → Js, getElem?_append_right → Jv, all_cons → Jw, mapM_cons → JA, drop_zero → JB, replicate → JD, cons_append → JI, drop_length → JJ, append_nil → JK
open Option renaming bind_eq_some_iff → IF, getD_some → IJ, map_some → IM, isSome_iff_exists → Jh, map_eq_some_iff → Jm
open Nat renaming zero_add → II, beq → IV, mul → Jk, le_refl → Jl, lt_or_ge → JH, ble → JL, add → JM
open Classical renaming choose → Ja, choose_spec → JC
open Go.DataW renaming TrodAll → Jc
open Go.Oper renaming upon_enter → Jf
open Go.Calls renaming mono → Jj
open Go.Value renaming okWide → Jr
open Go.Result renaming andThen_ok → Jx
open Int renaming toNat_natCast → Jy
open Go.Ending renaming returned → Jz
open Go.Sem renaming run_bind → JF, run_pure → JG
set_option maxRecDepth 100000
set_option linter.unusedSimpArgs false
set_option linter.unusedVariables false
noncomputable section
namespace Go.V
open Go.RowKit
set_option maxRecDepth 100000
def qm:List ResultVar→List Nat
 | []=>[]
 | .tmp t::l=>t::qm l
 | .cell _ _::l=>qm l
def bp (c:Cx):List ResultVar→List Kd→Bool
 | [],[]=>true
 | .tmp t::l,.dat lv::m=>(match ah c.K t with
  | .dat l'=>JL l' lv
  | _=>false)&&bp c l m
 | .tmp t::l,.own z lv false::m=>(match ah c.K t with
  | .own z' l' false=>IV z' z&&JL l' lv
  | _=>false) && !iO t (qm l)&&bp c l m
 | .cell s t::l,.dat lv::m=>(match ah c.K s with
  | .box _ l' _=>JL l' lv
  | _=>false)&&(bR c.T t).isSome&&bp c l m
 | _,_=>false
def nI:Nat→List Kd→List Nat
 | _,[]=>[]
 | i,k::ks=>if lT k then i::nI (i+1) ks else nI (i+1) ks
def eqK:Kd→Kd→Bool
 | .dat a,.dat b=>IV a b
 | .own a b io,.own a' b' io'=>IV a a'&&IV b b'&&io==io'
 | .box a b io,.box a' b' io'=>IV a a'&&IV b b'&&io==io'
 | _,_=>false
def wH:List Kd→List Kd→Bool
 | [],_=>true
 | k::ks,l::ls=>eqK k l&&wH ks ls
 | _,_=>false
section
variable {P:Program} {c:Cx} {B:Nat} {X:Nat→Prop} {w0:World} {F0 F:Nat→Prop} {O:Nat→Option (Nat × Nat)} {a:Act} {w:World} {δ:List D}
def lg (tmps:Array Value):ResultVar→Sem Value
 | .tmp t=>pure (tmps.getD t undef)
 | .cell a t=>do loadVar t (←asAddr (tmps.getD a undef))
theorem Hk {k l:Kd} (h:eqK k l=true):k=l:=by
 unfold eqK at h;split at h
 ·rw [az] at h;rw [h]
 ·simp only [Ix,az,beq_iff_eq] at h
  obtain⟨⟨rfl,rfl⟩,rfl⟩:=h;rfl
 ·simp only [Ix,az,beq_iff_eq] at h
  obtain⟨⟨rfl,rfl⟩,rfl⟩:=h;rfl
 ·cases h
theorem oS:∀{ks ls:List Kd},wH ks ls=true→ks.length≤ls.length∧∀(i:Nat),i<ks.length→ah ls i=ah ks i
 | [],_,_=>⟨by simp,by simp⟩
 | k::ks,l::ls,h=>by
  simp only [wH,Ix] at h;obtain⟨h1,h2⟩:=oS h.2;refine⟨by simp;exact h1,fun i hi=>?_⟩
  cases i with
  | zero=>simp only [ah];exact(Hk h.1).symm
  | succ i=>simp only [ah];exact h2 i (by simpa using hi)
 | _::_,[],h=>by simp [wH] at h
def GP (B:Nat) (O:Nat→Option (Nat × Nat)) (res:List ResultVar) (j:Nat) (g:Nat):Prop:=B≤g∧∃t,res[j]?=some (.tmp t)∧O g=some (t,0)
theorem iQ {w:World} {F:Nat→Prop} {B:Nat} {own own':Nat→Prop} {k:Kd} {d:D} {y:Value} (ho:(∃z lv,k = .own z lv false)→∀g,own g→own' g) (h:xh w F B own k d y):xh w F B own' k d y:=by
 rcases h with h | h
 ·exact .inl h
 ·refine .inr ?_
  cases k with
  | own z lv io =>
   cases io
   ·exact h.own fun _ _ hg=>⟨ho ⟨z,lv,rfl⟩ _ hg.1,hg.2⟩
   ·exact h
  | _=>exact h
theorem pj (hT:okT P c.T=true) (hI:Inv c B X w0 F0 F O a w δ):∀(res:List ResultVar) (rm:List Kd) (rs:List D),bp c res rm=true→ki c δ res (fun rs=>some (.nrm rs))=some (.nrm rs) →
  ∃vs:List Value,(res.mapM (lg a.tmps)).run P w = .ok vs w∧vs.length=rm.length∧rs.length=rm.length∧∀j,xh w F B (GP B O res j) (ah rm j) (nth rs j) (vs.getD j undef)
 | [],[],rs,_,h=>by
  simp only [ki,Iz,Out.nrm.injEq] at h;subst h;exact⟨[],by simp,rfl,rfl,fun j=>.inl (by simp [nth])⟩
 | .tmp t::l,.dat lv::m,rs,hok,h=>by
  simp only [bp,Ix] at hok;simp only [ki,cM] at h;rw [iG] at h;obtain⟨o,h1,h2⟩:=IF.1 h;split at h2
  case h_2=>cases h2
  rename_i rs';simp only [Iz,Out.nrm.injEq] at h2;subst h2;obtain⟨vs,g1,g2,g3,g4⟩:=pj hT hI l m rs' hok.2 h1;refine⟨a.tmps.getD t undef::vs,by simp [JA,lg,g1],by simp [g2],by simp [g3],fun j=>?_⟩
  cases j with
  | zero =>
   simp only [ah,nth,Jd];have hk:=hok.1;split at hk
   case h_2=>cases hk
   rename_i l' hkt;exact(fw (aT.1 hk) (hI.dat hkt))
  | succ j =>
   refine iQ (fun _ g hg=>?_) (g4 j)
   obtain⟨e1,t',e2,e3⟩:=hg;exact⟨e1,t',by simpa using e2,e3⟩
 | .tmp t::l,.own z lv false::m,rs,hok,h=>by
  simp only [bp,Ix] at hok;simp only [ki,cM] at h;rw [iG] at h;obtain⟨o,h1,h2⟩:=IF.1 h;split at h2
  case h_2=>cases h2
  rename_i rs';simp only [Iz,Out.nrm.injEq] at h2;subst h2;obtain⟨vs,g1,g2,g3,g4⟩:=pj hT hI l m rs' hok.2 h1;refine⟨a.tmps.getD t undef::vs,by simp [JA,lg,g1],by simp [g2],by simp [g3],fun j=>?_⟩
  cases j with
  | zero =>
   simp only [ah,nth,Jd];have hk:=hok.1.1;split at hk
   case h_2=>cases hk
   rename_i z' l' hkt;simp only [Ix,az,aT] at hk;obtain⟨rfl,hle⟩:=hk;by_cases hb:nth δ t = .bad
   ·exact .inl hb
   ·exact .inr (cm (jm hle) (fun _ _=>rfl) (fun g _ hg=>⟨⟨⟨hg.2 rfl,t,rfl,hg.1⟩,hg.2 rfl⟩,rfl⟩) (hI.own hkt hb))
  | succ j =>
   refine iQ (fun _ g hg=>?_) (g4 j)
   obtain⟨e1,t',e2,e3⟩:=hg;exact⟨e1,t',by simpa using e2,e3⟩
 | .cell s t::l,.dat lv::m,rs,hok,h=>by
  simp only [bp,Ix] at hok;simp only [ki] at h;split at h
  case h_2=>cases h
  rename_i i hi;simp only [cM] at h;obtain⟨y,hy,h⟩:=IF.1 h;rw [iG] at h;obtain⟨o,h1,h2⟩:=IF.1 h;split at h2
  case h_2=>cases h2
  rename_i rs';simp only [Iz,Out.nrm.injEq] at h2;subst h2;obtain⟨vs,g1,g2,g3,g4⟩:=pj hT hI l m rs' hok.2 h1;have hk:=hok.1.1;split at hk
  case h_2=>cases hk
  rename_i n l' io hks;rw [aT] at hk;have hb:nth δ s ≠ .bad:=by
   intro e;rw [e] at hy;simp [mQ] at hy
  obtain⟨mm,us,g,e,hd',a1,a2,a3,a4,a5,a6⟩:=hI.box hks hb;rw [hd'] at hy;simp only [mQ,JB] at hy;have hcell:ct w g 0 us:=mi a2 (fun i u hu=>by simpa using hu);obtain⟨v,hv,hr⟩:=qW (P:=P) (tok hT hi) a3 a4 hcell hy;have hv':(lg a.tmps (.cell s t)).run P w = .ok v w:=by
   have e1:a.tmps.getD s undef = .pointer (some ⟨g,0,none⟩):=a1;simp only [lg,e1];simpa [Instr.loadAt,Instr.sureAddr,asAddr] using hv
  refine⟨v::vs,by simp [JA,hv',g1],by simp [g2],by simp [g3],fun j=>?_⟩
  cases j with
  | zero =>
   simp only [ah,nth,Jd];exact .inr (aO (jm hk) (fun _ _=>rfl) hr)
  | succ j =>
   refine iQ (fun _ g hg=>?_) (g4 j)
   obtain⟨e1,t',e2,e3⟩:=hg;exact⟨e1,t',by simpa using e2,e3⟩
 | [],_::_,_,hok,_=>by simp [bp] at hok
 | .tmp _::_,[],_,hok,_=>by simp [bp] at hok
 | .cell _ _::_,[],_,hok,_=>by simp [bp] at hok
 | .tmp _::_,.own _ _ true::_,_,hok,_=>by simp [bp] at hok
 | .tmp _::_,.box _ _ _::_,_,hok,_=>by simp [bp] at hok
 | .tmp _::_,.via _::_,_,hok,_=>by simp [bp] at hok
 | .tmp _::_,.ref _::_,_,hok,_=>by simp [bp] at hok
 | .tmp _::_,.tup _::_,_,hok,_=>by simp [bp] at hok
 | .tmp _::_,.no::_,_,hok,_=>by simp [bp] at hok
 | .tmp _::_,.itr::_,_,hok,_=>by simp [bp] at hok
 | .tmp _::_,.mpo::_,_,hok,_=>by simp [bp] at hok
 | .cell _ _::_,.own _ _ _::_,_,hok,_=>by simp [bp] at hok
 | .cell _ _::_,.box _ _ _::_,_,hok,_=>by simp [bp] at hok
 | .cell _ _::_,.via _::_,_,hok,_=>by simp [bp] at hok
 | .cell _ _::_,.ref _::_,_,hok,_=>by simp [bp] at hok
 | .cell _ _::_,.tup _::_,_,hok,_=>by simp [bp] at hok
 | .cell _ _::_,.no::_,_,hok,_=>by simp [bp] at hok
 | .cell _ _::_,.itr::_,_,hok,_=>by simp [bp] at hok
 | .cell _ _::_,.mpo::_,_,hok,_=>by simp [bp] at hok
def pW:List ResultVar→Nat→Nat→Option Nat
 | [],_,_=>none
 | .tmp t::l,s,j=>if t=s then some j else pW l s (j+1)
 | .cell _ _::l,s,j=>pW l s (j+1)
theorem ql:∀{res:List ResultVar} {j t:Nat},res[j]?=some (.tmp t)→t∈qm res
 | .tmp s::l,0,t,h=>by simp at h;simp [qm,h]
 | .cell _ _::l,0,t,h=>by simp at h
 | .tmp s::l,j+1,t,h=>by simp only [qm,List.mem_cons];exact .inr (ql (by simpa using h))
 | .cell _ _::l,j+1,t,h=>by simp only [qm];exact ql (by simpa using h)
theorem ke:∀(res:List ResultVar) (rm:List Kd),bp c res rm=true→∀(j t i:Nat) (z lv:Nat),ah rm j = .own z lv false→res[j]?=some (.tmp t)→pW res t i=some (i+j)∧∃z' l',ah c.K t = .own z' l' false
 | [],[],_,j,t,i,z,lv,h,_=>by simp [ah] at h
 | .tmp s::l,.dat lv'::m,hok,j,t,i,z,lv,h,hj=>by
  simp only [bp,Ix] at hok;cases j with
  | zero=>simp [ah] at h
  | succ j =>
   obtain⟨h1,h2⟩:=ke l m hok.2 j t (i+1) z lv (by simpa [ah] using h) (by simpa using hj);refine⟨?_,h2⟩
   simp only [pW];rw [if_neg,h1]
   ·congr 1;omega
   ·rintro rfl
    obtain⟨z',l',hk⟩:=h2;rw [hk] at hok;cases hok.1
 | .tmp s::l,.own z0 lv0 false::m,hok,j,t,i,z,lv,h,hj=>by
  simp only [bp,Ix] at hok;cases j with
  | zero =>
   simp at hj;subst hj;refine⟨by simp [pW],?_⟩
   have hk:=hok.1.1;split at hk
   ·exact⟨_,_,‹_›⟩
   ·cases hk
  | succ j =>
   obtain⟨h1,h2⟩:=ke l m hok.2 j t (i+1) z lv (by simpa [ah] using h) (by simpa using hj);refine⟨?_,h2⟩
   simp only [pW];rw [if_neg,h1]
   ·congr 1;omega
   ·rintro rfl
    have hm:=hok.1.2;rw [eY] at hm;simp only [IY,decide_eq_false_iff_not] at hm;exact hm (ql (by simpa using hj))
 | .cell s s'::l,.dat lv'::m,hok,j,t,i,z,lv,h,hj=>by
  simp only [bp,Ix] at hok;cases j with
  | zero=>simp [ah] at h
  | succ j =>
   obtain⟨h1,h2⟩:=ke l m hok.2 j t (i+1) z lv (by simpa [ah] using h) (by simpa using hj);refine⟨?_,h2⟩
   simp only [pW];rw [h1];congr 1;omega
 | [],_::_,hok,_,_,_,_,_,_,_=>by simp [bp] at hok
 | .tmp _::_,[],hok,_,_,_,_,_,_,_=>by simp [bp] at hok
 | .cell _ _::_,[],hok,_,_,_,_,_,_,_=>by simp [bp] at hok
 | .tmp _::_,.own _ _ true::_,hok,_,_,_,_,_,_,_=>by simp [bp] at hok
 | .tmp _::_,.box _ _ _::_,hok,_,_,_,_,_,_,_=>by simp [bp] at hok
 | .tmp _::_,.via _::_,hok,_,_,_,_,_,_,_=>by simp [bp] at hok
 | .tmp _::_,.ref _::_,hok,_,_,_,_,_,_,_=>by simp [bp] at hok
 | .tmp _::_,.tup _::_,hok,_,_,_,_,_,_,_=>by simp [bp] at hok
 | .tmp _::_,.no::_,hok,_,_,_,_,_,_,_=>by simp [bp] at hok
 | .tmp _::_,.itr::_,hok,_,_,_,_,_,_,_=>by simp [bp] at hok
 | .tmp _::_,.mpo::_,hok,_,_,_,_,_,_,_=>by simp [bp] at hok
 | .cell _ _::_,.own _ _ _::_,hok,_,_,_,_,_,_,_=>by simp [bp] at hok
 | .cell _ _::_,.box _ _ _::_,hok,_,_,_,_,_,_,_=>by simp [bp] at hok
 | .cell _ _::_,.via _::_,hok,_,_,_,_,_,_,_=>by simp [bp] at hok
 | .cell _ _::_,.ref _::_,hok,_,_,_,_,_,_,_=>by simp [bp] at hok
 | .cell _ _::_,.tup _::_,hok,_,_,_,_,_,_,_=>by simp [bp] at hok
 | .cell _ _::_,.no::_,hok,_,_,_,_,_,_,_=>by simp [bp] at hok
 | .cell _ _::_,.itr::_,hok,_,_,_,_,_,_,_=>by simp [bp] at hok
 | .cell _ _::_,.mpo::_,hok,_,_,_,_,_,_,_=>by simp [bp] at hok
theorem oR {w:World} {F:Nat→Prop} {ow:Nat→Option Nat}:∀(pm:List Kd) (ds:List D) (ys:List Value) (i:Nat),dN w F ow i pm ds ys→ds.length=pm.length∧ys.length=pm.length∧∀(j:Nat),j<pm.length→gF w F (fun g=>ow g=some (i+j)) (ah pm j) (nth ds j) (ys.getD j undef)
 | [],[],[],_,_=>⟨rfl,rfl,fun j h=>by simp at h⟩
 | k::pm,d::ds,y::ys,i,h=>by
  obtain⟨h1,h2⟩:=h;obtain⟨g1,g2,g3⟩:=oR pm ds ys (i+1) h2;refine⟨by simp [g1],by simp [g2],fun j hj=>?_⟩
  cases j with
  | zero=>exact h1
  | succ j =>
   have:=g3 j (by simpa using hj);simp only [ah,nth,List.getD_cons_succ];rw [show i+(j+1)=i+1+j from by omega];exact this
 | [],[],_::_,_,h=>h.elim
 | [],_::_,_,_,h=>h.elim
 | _::_,[],_,_,h=>h.elim
 | _::_,_::_,[],_,h=>h.elim
theorem tJ {w:World} {F:Nat→Prop} {δ:List D}:∀(pm:List Kd) (ys:List Value) (i:Nat),ys.length=pm.length→(∀(j:Nat),j<pm.length→lT (ah pm j)=true→nth δ (i+j) ≠ .bad∧gF w F (fun _=>True) (ah pm j) (nth δ (i+j)) (ys.getD j undef))→mH w F pm (af δ (nI i pm)) ys
 | [],ys,i,_,_=>by simp [nI,af,mH]
 | k::pm,[],i,hl,_=>by simp at hl
 | k::pm,y::ys,i,hl,h=>by
  have ih:=tJ pm ys (i+1) (by simpa using hl) (fun j hj hio=>by
   have:=h (j+1) (by simpa using hj) (by simpa [ah] using hio);rw [show i+1+j=i+(j+1) from by omega];simpa [ah] using this)
  cases hk:lT k with
  | true =>
   have h0:=h 0 (by simp) (by simpa [ah] using hk);simp only [nI,hk,if_true,af,mH];exact⟨by simpa using h0.1,by simpa [ah] using h0.2,ih⟩
  | false=>simpa only [nI,hk,IE,if_false,mH] using ih
theorem pq:∀(pm:List Kd) (i j:Nat),j<pm.length→lT (ah pm j)=true→i+j∈nI i pm
 | k::pm,i,0,_,h=>by
  simp only [ah] at h;simp [nI,h]
 | k::pm,i,j+1,hj,h=>by
  have ih:=pq pm (i+1) j (by simpa using hj) (by simpa [ah] using h);rw [show i+(j+1)=i+1+j from by omega];simp only [nI];split
  ·exact List.mem_cons_of_mem _ ih
  ·exact ih
theorem mc:∀(n:Nat) (l:List D) (s:Nat),l.length≤n→nth (mq n l) s=nth l s
 | 0,l,s,h=>by
  have:l=[]:=List.eq_nil_of_length_eq_zero (by omega);subst this;simp [mq]
 | n+1,[],s,_=>by
  cases s with
  | zero=>simp [nth]
  | succ s=>simp only [nth];rw [mc n [] s (by simp)]
 | n+1,d::l,s,h=>by
  cases s with
  | zero=>simp [nth]
  | succ s=>simp only [nth];exact mc n l s (by simpa using h)
theorem mz:∀(n:Nat) (l:List D),(mq n l).length=n
 | 0,_=>rfl
 | n+1,[]=>by simp [mq,mz n []]
 | n+1,_::l=>by simp [mq,mz n l]
def Bk (c:Cx) (fn:Func) (pm rm:List Kd):Bool :=
 (match fn.body with
  | some b=>cg c 0 b
  | none=>false)&&IV (fQ c.K) fn.ntmps&&wH pm c.K&&gQ pm&&bp c c.res rm&&decide (c.ios=nI 0 pm)
theorem mN:∀{pm:List Kd},gQ pm=true→∀j,j<pm.length→(∃lv,ah pm j = .dat lv∧lv≠1)∨(∃z lv,ah pm j = .own z lv true∧lv≠1)∨∃n lv,ah pm j = .box n lv true∧lv≠1
 | m::pm,h,j,hj=>by
  obtain⟨h1,h2,h3⟩:=wo h;cases j with
  | succ j=>exact mN h1 j (by simpa using hj)
  | zero =>
   simp only [ah];cases m with
   | dat lv =>
    refine .inl ⟨lv,rfl,?_⟩
    simp only [gQ] at h;split at h
    case h_2=>cases h
    rename_i e1 e2;intro e;subst e;simp at e1
   | own z lv io =>
    cases io
    ·simp [gQ] at h
    ·exact .inr (.inl ⟨z,lv,rfl,h2 z lv rfl⟩)
   | box n lv io =>
    cases io
    ·simp [gQ] at h
    ·exact .inr (.inr ⟨n,lv,rfl,h3 n lv rfl⟩)
   | _=>simp [gQ] at h
theorem Dy (hT:okT P c.T=true) (hS:∀f S,bR c.S f=some S→ay c.G P f S) (hm:P.follows .mixedOrders=true) {f:FuncId} {fn:Func} (hf:P.funcs[f]?=some fn) {pm rm:List Kd} (hok:Bk c fn pm rm=true) (hres:c.res=fn.results.toList)
  {ds rs us:List D} (hd:bD c fn ds=some (.ret rs us)) {args:Array Value} {w:World} {F:Nat→Prop} {ow:Nat→Option Nat} (hgl:gOk c.G w F) (ha:dN w F ow 0 pm ds args.toList) (hF:∀b,F b→b<w.heap.size∧ow b=none) (hO:∀b i,ow b=some i→b<w.heap.size) :
  Calls P f args w fun e w'=>∃v,e = .returned v∧∃F' R vs,v=gP vs∧CallPost {pm:=pm,rm:=rm,f:=bD c fn} args rs us w F ow F' R vs w':=by
 unfold Bk at hok;simp only [Ix,decide_eq_true_eq] at hok;obtain⟨⟨⟨⟨⟨hcode,hlenK⟩,hpre⟩,hpm⟩,hokr⟩,hios⟩:=hok;rw [az,iY] at hlenK;obtain⟨hpl,hpn⟩:=oS hpre;obtain⟨hdl,hal,hargs⟩:=oR pm ds args.toList 0 ha;have hasz:args.size=pm.length:=by simpa using hal
 unfold bD at hd;cases hb:fn.body with
 | none=>rw [hb] at hd;cases hd
 | some b =>
  rw [hb] at hd hcode;simp only at hd hcode;refine calls_of_wp hf hb ?_
  have hav:∀s,s<pm.length→av ({tmps:=args++ID (fn.ntmps - args.size) undef,defers:=[]}:Act) s=args.toList.getD s undef:=fun s hs=>by
   have h1:s<args.size:=by omega
   simp only [av,Iy,IH,Jo];rw [Jb h1]
  have hinit:Inv c w.heap.size (fun b=>ow b≠none) w F F (fun b=>(ow b).map fun i=>(i,0)) {tmps:=args++ID (fn.ntmps - args.size) undef,defers:=[]} w (mq fn.ntmps ds):=by
   refine⟨by simp;omega,by rw [mz,hlenK],rfl,fun s=>?_,fun b hb=>⟨(hF b hb).1,by simp [(hF b hb).2]⟩,fun b p hp=>?_,fun _ h=>h,fun _ h=>.inl h,Jl _,rfl,rfl,rfl,fun _ _ _=>rfl,hgl⟩
   ·unfold qu
    rw [mc _ _ _ (by rw [hdl];omega)];by_cases hs:s<pm.length
    ·rw [hpn s hs,hav s hs]
     rcases hargs s hs with hbad | harg
     ·exact .inl hbad
     refine .inr ?_
     have hlv:∀lv,lv≠1→∀b,FB F 0 lv b→FB F w.heap.size lv b:=fun lv h1 b hb=>by
      match lv,h1 with
      | 0,_=>exact hb
      | _+2,_=>exact hb
     rcases mN hpm s hs with ⟨lv,hk,h1⟩ | ⟨z,lv,hk,h1⟩ | ⟨n,lv,hk,h1⟩
     ·rw [hk] at harg ⊢
      exact .inr (aO (hlv lv h1) (fun _ _=>rfl) harg)
     ·rw [hk] at harg ⊢
      exact .inr (cm (hlv lv h1) (fun _ _=>rfl) (fun g _ hg=>⟨⟨by simp only [II] at hg;simp [hg],fun h=>by cases h⟩,rfl⟩) harg)
     ·rw [hk] at harg ⊢
      exact .inr (gk (hlv lv h1) (fun _ _=>rfl) (fun g _ hg=>⟨⟨by simp only [II] at hg;simp [hg],fun h=>by cases h⟩,rfl⟩) harg)
    ·refine .inl ?_
     rw [dA,IH,Jp (by omega)];rfl
   ·obtain⟨i,hi,rfl⟩:=Jm.1 hp
    exact⟨hO b i hi,.inr (by rw [hi];simp)⟩
  refine fB hT hS hm b 0 hcode F _ _ w _ hinit (V:=av {tmps:=args++ID (fn.ntmps - args.size) undef,defers:=[]}) (fun _ _=>rfl) _ _ hd _ (fun e a' w' hp=>?_)
  have fin:fg c w.heap.size (fun b=>ow b≠none) w F (av {tmps:=args++ID (fn.ntmps - args.size) undef,defers:=[]}) (fun δ=>yG c δ some) (.ret rs us) a' w'→a'.defers=[]∧∃v,(results fn a'.tmps).run P w' = .ok v w'∧∃v',Jz v = .returned v'∧∃F' R vs,v'=gP vs∧CallPost {pm:=pm,rm:=rm,f:=bD c fn} args rs us w F ow F' R vs w':=by
   rintro⟨⟨F',O',δ',hI',hk⟩,hV'⟩;obtain⟨rs',h1,h2,h3⟩:=dY hk;simp only [Iz,Out.ret.injEq] at h3;obtain⟨rfl,rfl⟩:=h3;obtain⟨vs,g1,g2,g3,g4⟩:=pj (P:=P) hT hI' c.res rm rs' hokr h1;refine⟨hI'.df,gP vs,?_,_,rfl,F',fun b=>if w.heap.size≤b then(match O' b with
    | some (t,0)=>pW c.res t 0
    | _=>none) else none,vs,rfl,?_⟩
   ·have hrun:(fn.results.mapM (lg a'.tmps)).run P w' = .ok vs.toArray w':=by
     rw [Je,←hres];simp [g1]
    have hrw:results fn a'.tmps=(do
      let vs ←fn.results.mapM (lg a'.tmps)
      pure (if h:vs.size=1 then vs[0] else .tuple vs)):=by
     unfold results;congr 1
    rw [hrw];simp only [JF,hrun,Jx,JG];congr 1
    rcases vs with _ | ⟨y,_ | ⟨y',vs⟩⟩
    ·simp [gP]
    ·simp [gP]
    ·simp [gP]
   ·refine⟨hI'.os,hI'.tape,hI'.output,hI'.bb,fun b hb ho=>hI'.keep b hb (by simp [ho]),hI'.f0,fun b hb=>⟨hI'.fn b hb,(hI'.fl b hb).1,by simp only [(hI'.fl b hb).2];split<;>rfl⟩,fun b j hj=>?_,g2,g3,fun j=>?_,?_⟩
    ·split at hj
     case isFalse=>cases hj
     rename_i hB;refine⟨hB,?_⟩
     split at hj
     ·rename_i t he;exact(hI'.ol b _ he).1
     ·cases hj
    ·refine iQ (fun hk g hg=>?_) (g4 j)
     obtain⟨z,lv,hk⟩:=hk;obtain⟨e1,t,e2,e3⟩:=hg;rw [if_pos e1];simp only [e3];have:=(ke c.res rm hokr j t 0 z lv hk e2).1;simpa using this
    ·rw [hios]
     refine tJ pm args.toList 0 hal (fun j hj hio=>?_)
     rw [II];have hkj:=hpn j hj;have hbj:nth δ' j ≠ .bad:=by
      refine h2 _ ?_
      rw [hios,kB];exact Js (by simpa using pq pm 0 j hj hio)
     have havj:av a' j=args.toList.getD j undef:=(hV' j (by rw [hkj];exact hio)).trans (hav j hj);have hlv:∀lv,lv≠1→∀b,FB F' w.heap.size lv b→FB F' 0 lv b:=fun lv h1 b hb=>by
      match lv,h1 with
      | 0,_=>exact hb
      | _+2,_=>exact hb
     refine⟨hbj,.inr ?_⟩
     rcases mN hpm j hj with ⟨lv,hk,h1⟩ | ⟨z,lv,hk,h1⟩ | ⟨n,lv,hk,h1⟩
     ·rw [hk] at hio;cases hio
     ·have h5:=hI'.own (hkj.trans hk) hbj
      rw [havj] at h5;rw [hk];exact cm (hlv lv h1) (fun _ _=>rfl) (fun _ _ _=>⟨trivial,rfl⟩) h5
     ·have h5:=hI'.box (hkj.trans hk) hbj
      rw [havj] at h5;rw [hk];exact gk (hlv lv h1) (fun _ _=>rfl) (fun _ _ _=>⟨trivial,rfl⟩) h5
  cases e with
  | normal=>exact fin hp
  | exit i =>
   obtain⟨⟨_,_,_,_,h⟩,_⟩:=hp;cases h
  | ret =>
   refine fin (ex hp fun δ F O _ h=>?_)
   obtain⟨rs',h1,h2,h3⟩:=dY h;exact pi h1 h2 h3
  | _=>exact hp.elim
theorem vC (hT:okT P c.T=true) (hS:∀f S,bR c.S f=some S→ay c.G P f S) (hm:P.follows .mixedOrders=true) {f:FuncId} {fn:Func} (hf:P.funcs[f]?=some fn) (hname:(fn.name== "runtime.NumGoroutine")=false) {pm rm:List Kd} (hok:Bk c fn pm rm=true) (hres:c.res=fn.results.toList) :
  ay c.G P f {pm:=pm,rm:=rm,f:=bD c fn}:=by
 intro ds rs us hd args w F ow hgl ha hF hO o a next Q hn
 have hbody:∃b,fn.body=some b:=by
  have hd':bD c fn ds=some (.ret rs us):=hd;unfold bD at hd';cases hb:fn.body with
  | none=>rw [hb] at hd';cases hd'
  | some b=>exact⟨b,rfl⟩
 obtain⟨b,hb⟩:=hbody;have hrun:(callFunc f args).run P w = .ok (.enter f args) w:=by
  have h1:¬fn.name= "runtime.NumGoroutine":=by simpa using hname
  simp [callFunc,hf,h1,hb]
 rw [hrun,Jf];refine Jj (Dy hT hS hm hf hok hres hd hgl ha hF hO) (fun e w' he=>?_)
 obtain⟨v,rfl,F',R,vs,h1,h2⟩:=he;exact hn v w' ⟨F',R,vs,h1,h2⟩
end
end Go.V

namespace Go.V
set_option maxRecDepth 100000
def sl (s:List D) (i:Nat):D:=nth s i
def ifN (b:Bool) (t e:Option Out):Option Out :=
 match b with
 | true=>t
 | false=>e
theorem aw {P:Program} {G:List (Nat × (Obj→Prop))}:∀(f:Nat) (S:FS),bR ([]:List (Nat × FS)) f=some S→ay G P f S:=by
 intro f S h;cases h
theorem ac {P:Program} {G:List (Nat × (Obj→Prop))} {g:Nat} {S0:FS} {l:List (Nat × FS)} (h0:ay G P g S0) (h:∀(f:Nat) (S:FS),bR l f=some S→ay G P f S):∀(f:Nat) (S:FS),bR ((g,S0)::l) f=some S→ay G P f S:=by
 intro f S hl;simp only [bR] at hl;split at hl
 ·rename_i hb
  have:=az.1 hb;subst this;cases hl;exact h0
 ·exact h f S hl
open Classical in
def yp (R:Nat→List D→Option Out) (ds:List D):Option Out :=
 if h:∃n,(R n ds).isSome=true then R (Ja h) ds else none
theorem CJ {R:Nat→List D→Option Out} {ds:List D} {r:Out} (h:yp R ds=some r):∃n,R n ds=some r:=by
 unfold yp at h;split at h
 ·exact⟨_,h⟩
 ·cases h
theorem FC {R:Nat→List D→Option Out} {ds:List D} {r:Out} (h:∀n o,R n ds=some o→o=r) (n:Nat) (hn:R n ds=some r):yp R ds=some r:=by
 unfold yp;have hx:∃n,(R n ds).isSome=true:=⟨n,by rw [hn];rfl⟩
 rw [dif_pos hx];obtain⟨o,ho⟩:=Jh.1 (JC hx);rw [ho,h _ _ ho]
theorem uq {P:Program} {G:List (Nat × (Obj→Prop))} {f:Nat} {S:FS} (h:∀ds,S.f ds=none):ay G P f S:=by
 intro ds rs us hd;rw [h] at hd;cases hd
theorem xe {P:Program} {G:List (Nat × (Obj→Prop))} {f:Nat} {pm rm:List Kd} {R:Nat→List D→Option Out} (h:∀n,ay G P f {pm:=pm,rm:=rm,f:=R n}):ay G P f {pm:=pm,rm:=rm,f:=yp R}:=by
 intro ds rs us hd args w F ow hg ha hF hO o a next Q hq
 obtain⟨n,hn⟩:=CJ hd;refine h n ds rs us hn args w F ow hg ha hF hO o a next Q fun v w' hv=>?_
 obtain⟨F',R',vs,h1,h2⟩:=hv;exact hq v w' ⟨F',R',vs,h1,⟨h2.os,h2.tape,h2.output,h2.size,h2.keep,h2.f0,h2.fn,h2.rn,h2.len,h2.lenD,h2.res,h2.us⟩⟩
open Go.RowKit
set_option maxRecDepth 100000
@[reducible] def kQ (K:List Kd) (fz:List Nat) (s:Nat) (k:Kd):Kd :=
 match k with
 | .own z lv false=>match iO s fz with
  | true=>.dat (vN 1 lv)
  | false=>.own z lv false
 | .via r=>match iO r fz with
  | true=>.dat (vN 1 (dj K r))
  | false=>.via r
 | .ref r=>match iO r fz with
  | true=>.dat (vN 1 (dj K r))
  | false=>.ref r
 | k=>k
@[reducible] def xG (K:List Kd) (fz:List Nat):List Kd→Nat→List Kd
 | [],_=>[]
 | k::l,s=>kQ K fz s k::xG K fz l (Nat.succ s)
@[reducible] def rcx (c:Cx) (fz:List Nat):Cx:={c with K:=xG c.K fz c.K 0}
def Fu (p x:D):D :=
 match p with
 | .bad=>.bad
 | _=>x
@[reducible] def CR (K:List Kd) (δ:List D):List Nat→(List D→Option Out)→Option Out
 | [],k=>k []
 | s::ss,k=>match ah K s with
  | .via r=>cU δ s fun p=>cU δ r fun x=>CR K δ ss fun l=>k (Fu p x::l)
  | _=>CR K δ ss fun l=>k (.bad::l)
def DA:List ResultVar→List Nat
 | []=>[]
 | .tmp t::l=>t::DA l
 | .cell a _::l=>a::DA l
def Bm (c:Cx) (fz:List Nat):List Nat:=fz++aB c.K fz
def DH (c:Cx) (fz:List Nat):Bool :=
 (fz.all fun s=>match ah c.K s with
  | .own _ _ false=>true
  | _=>false)&&((DA c.res).all fun s=>!iO s (Bm c fz))&&(c.ios.all fun s=>!iO s (Bm c fz))
section
variable {P:Program} {c:Cx} {B:Nat} {X:Nat→Prop} {w0:World} {F0 F:Nat→Prop} {O:Nat→Option (Nat × Nat)} {a:Act} {w:World} {δ:List D} {fz:List Nat}
theorem nN (K:List Kd) (fz:List Nat):∀(l:List Kd) (s:Nat),(xG K fz l s).length=l.length
 | [],_=>rfl
 | _::l,s=>by simp [xG,nN K fz l]
theorem wS (K:List Kd) (fz:List Nat):∀(l:List Kd) (s i:Nat),ah (xG K fz l s) i=kQ K fz (s+i) (ah l i)
 | [],s,i=>by simp [xG,ah,kQ]
 | k::l,s,0=>by simp [xG,ah]
 | k::l,s,i+1=>by
  simp only [xG,ah];rw [wS K fz l (Nat.succ s) i,show Nat.succ s+i=s+(i+1) by omega]
theorem lZ (c:Cx) (fz:List Nat) (s:Nat):ah (rcx c fz).K s=kQ c.K fz s (ah c.K s):=by
 show ah (xG c.K fz c.K 0) s=_
 rw [wS,II]
theorem oE (h:DH c fz=true) {s:Nat} (hs:s∈fz):∃z lv,ah c.K s = .own z lv false:=by
 unfold DH at h;simp only [Ix,IP] at h;have:=h.1.1 s hs;split at this
 ·exact⟨_,_,‹_›⟩
 ·cases this
theorem nK {s:Nat} {l:List Nat} (h:s∈l):iO s l=true:=by rw [eY];exact decide_eq_true h
theorem iR {s:Nat} {l:List Nat} (h:s∉l):iO s l=false:=by rw [eY];exact decide_eq_false h
theorem zN {r:Nat} (hr:r∉fz) (h:cr c.K r):ah (rcx c fz).K r=ah c.K r:=by
 rw [lZ];unfold cr at h;generalize ah c.K r=k at h;cases k
 case own z lv io=>cases io<;>simp [kQ,iR hr]
 case box n lv io=>rfl
 case mpo=>rfl
 all_goals exact h.elim
theorem zO {r:Nat} (h:cr (rcx c fz).K r):cr c.K r∧ah (rcx c fz).K r=ah c.K r:=by
 unfold cr at h ⊢;rw [lZ] at h ⊢;generalize ah c.K r=k at h;cases k
 case own z lv io =>
  refine⟨trivial,?_⟩
  cases io
  case true=>rfl
  by_cases hr:r∈fz
  ·simp [kQ,nK hr] at h
  ·simp [kQ,iR hr]
 case box n lv io=>exact⟨trivial,rfl⟩
 case mpo=>exact⟨trivial,rfl⟩
 case via r'=>by_cases hr:r'∈fz<;>simp [kQ,nK,iR,hr] at h
 case ref r'=>by_cases hr:r'∈fz<;>simp [kQ,nK,iR,hr] at h
 all_goals exact h.elim
theorem xT (s:Nat):lT (ah (rcx c fz).K s)=lT (ah c.K s):=by
 rw [lZ];generalize ah c.K s=k;cases k
 case own z lv io =>
  cases io
  case true=>rfl
  by_cases hr:s∈fz
  ·simp [kQ,nK hr,lT]
  ·simp [kQ,iR hr]
 case via r'=>by_cases hr:r'∈fz<;>simp [kQ,nK,iR,hr,lT]
 case ref r'=>by_cases hr:r'∈fz<;>simp [kQ,nK,iR,hr,lT]
 all_goals rfl
theorem yj {K K':List Kd} {r:Nat} (h:ah K' r=ah K r):mC K' r=mC K r:=by unfold mC;rw [h]
theorem GS {F':Nat→Prop} {b lv:Nat} (h1:F' b) (h2:B≤b):FB F' B (vN 1 lv) b:=by
 rw [po]
 match lv with
 | 0=>exact⟨h1,h2⟩
 | 1=>exact⟨h1,h2⟩
 | n+2 =>
  rw [Nat.max_eq_right (by omega)];exact h1
def vR (K:List Kd) (δ:List D) (s:Nat):D :=
 match ah K s with
 | .via r=>Fu (nth δ s) (nth δ r)
 | _=>.bad
theorem tI (K:List Kd) (δ:List D):∀(ss:List Nat) (k:List D→Option Out),CR K δ ss k=k (ss.map (vR K δ))
 | [],_=>rfl
 | s::ss,k=>by
  simp only [CR,List.map_cons,vR];split
  ·simp only [cM]
   exact tI K δ ss _
  ·exact tI K δ ss _
theorem jx (f:Nat→D):∀(ss:List Nat) (δ:List D) (s:Nat),s∈ss→nth (ae δ ss (ss.map f)) s=if s<δ.length then f s else .bad
 | i::ss,δ,s,h=>by
  simp only [List.map_cons,ae];by_cases hs:s∈ss
  ·rw [jx f ss _ s hs,ed]
  ·rw [am _ _ _ _ hs]
   have:s=i:=by simpa [hs] using h
   subst this;exact aV _ _ _
open Classical in
theorem Inv.recast (h:Inv c B X w0 F0 F O a w δ) (hfz:DH c fz=true):∃F' O',Inv (rcx c fz) B X w0 F0 F' O' a w (ae δ (aB c.K fz) ((aB c.K fz).map (vR c.K δ))):=by
 let G:Nat→Prop:=fun b=>∃s∈fz,O b=some (s,0)∧B≤b
 have hF:∀b,F b→F b∨G b:=fun b hb=>.inl hb
 have hG:∀(b s i:Nat),O b=some (s,i)→(i=0→s∉fz)→¬G b:=by
  rintro b s i h1 h2 ⟨s',h3,h4,_⟩;rw [h1] at h4;cases h4;exact h2 rfl h3
 refine⟨fun b=>F b∨G b,fun b=>if G b then none else O b,?_⟩
 have hO:∀(b s i:Nat),(i=0→s∉fz)→O b=some (s,i)→(if G b then none else O b)=some (s,i):=fun b s i h2 h1=>by rw [if_neg (hG b s i h1 h2),h1]
 have own:∀r∈fz,nth δ r ≠ .bad→bj w (FB (fun b=>F b∨G b) B (vN 1 (dj c.K r))) (nth δ r) (av a r):=by
  intro r hr hb;obtain⟨z,lv,hk⟩:=oE hfz hr;have h0:=(h.slot r).resolve_left hb;rw [hk] at h0;have h1:=h0.resolve_left hb;simp only [dj,hk];refine aO (fun b hb=>?_) (fun _ _=>rfl) (iH h1)
  rcases hb with hb | hb
  ·exact jm (by rw [po];exact Nat.le_max_right _ _) b (eX hF b hb)
  ·exact GS (.inr ⟨r,hr,hb.1,hb.2 rfl⟩) (hb.2 rfl)
 refine⟨h.la.trans (nN _ _ _ _).symm,(bV _ _ _).trans (h.ld.trans (nN _ _ _ _).symm),h.df,fun s=>?_,fun b hb=>?_,fun b p hp=>?_,fun b hb=>.inl (h.f0 b hb),fun b hb=>?_,h.bb,h.os,h.tape,h.output,h.keep,uZ (fun b hb=>.inl hb) (fun _ _=>rfl) h.gl⟩
 ·by_cases hd:s∈aB c.K fz
  ·by_cases hlt:s<δ.length
   case neg =>
    refine .inl ?_
    rw [jx _ _ _ _ hd,if_neg hlt]
   have e:nth (ae δ (aB c.K fz) ((aB c.K fz).map (vR c.K δ))) s=vR c.K δ s:=by rw [jx _ _ _ _ hd,if_pos hlt]
   obtain⟨r,hr,hk⟩:=mT _ hd;rcases hk with hk | hk
   case inr=>exact .inl (e.trans (by simp only [vR,hk]))
   have e2:vR c.K δ s=Fu (nth δ s) (nth δ r):=by simp only [vR,hk]
   by_cases hb:nth δ s = .bad
   ·refine .inl (e.trans (e2.trans ?_))
    rw [hb];rfl
   have e3:Fu (nth δ s) (nth δ r)=nth δ r:=by
    generalize nth δ s=q at hb;cases q<;>first | rfl | exact absurd rfl hb
   have h0:=(h.slot s).resolve_left hb;rw [hk] at h0;obtain⟨b1,b2,b3,b4⟩:=h0;refine .inr ?_
   rw [lZ,hk,e,e2,e3];simp only [kQ,nK hr];exact .inr (by rw [b1];exact own r hr b3)
  have e:nth (ae δ (aB c.K fz) ((aB c.K fz).map (vR c.K δ))) s=nth δ s:=am _ _ _ _ hd;by_cases hb:nth δ s = .bad
  ·exact .inl (e.trans hb)
  have h0:=(h.slot s).resolve_left hb;refine .inr ?_
  have hkeep:∀r,cr c.K r→nth (ae δ (aB c.K fz) ((aB c.K fz).map (vR c.K δ))) r=nth δ r:=fun r hr=>am _ _ _ _ (lS hr _)
  rw [lZ,e];generalize hk:ah c.K s=k at h0;cases k
  case dat lv=>exact h0.imp id (aO (eX hF) (fun _ _=>rfl))
  case own z lv io =>
   have h1:=h0.resolve_left hb;by_cases hs:s∈fz
   ·obtain⟨z',lv',hk'⟩:=oE hfz hs
    rw [hk] at hk';cases hk';simp only [kQ,nK hs];have ho:=own s hs hb;simp only [dj,hk] at ho;exact .inr ho
   ·have e2:kQ c.K fz s (.own z lv io) = .own z lv io:=by cases io<;>simp [kQ,iR hs]
    rw [e2];exact .inr (wY (eX hF) (fun _ _=>rfl) (fun g hg=>⟨⟨hO g s 0 (fun _=>hs) hg.1,hg.2⟩,rfl⟩) h1)
  case box n lv io =>
   have h1:=h0.resolve_left hb;have hs:s∉fz:=fun hs=>by
    obtain⟨z',lv',hk'⟩:=oE hfz hs;rw [hk] at hk';cases hk'
   exact .inr (oY (eX hF) (fun _ _=>rfl) (fun g hg=>⟨⟨hO g s 0 (fun _=>hs) hg.1,hg.2⟩,rfl⟩) h1)
  case itr =>
   have h1:=h0.resolve_left hb;have hs:s∉fz:=fun hs=>by
    obtain⟨z',lv',hk'⟩:=oE hfz hs;rw [hk] at hk';cases hk'
   exact .inr (wX (fun g hg=>⟨⟨hO g s 0 (fun _=>hs) hg.1,hg.2⟩,rfl⟩) h1)
  case mpo =>
   have h1:=h0.resolve_left hb;have hs:s∉fz:=fun hs=>by
    obtain⟨z',lv',hk'⟩:=oE hfz hs;rw [hk] at hk';cases hk'
   exact .inr (xf (fun g hg=>⟨⟨hO g s 0 (fun _=>hs) hg.1,hg.2⟩,rfl⟩) h1)
  case via r =>
   have hr:r∉fz:=fun hr=>hd (gw (.inl hk) _ hr)
   obtain⟨b1,b2,b3,b4⟩:=h0;simp only [kQ,iR hr];exact⟨b1,b2,by rw [hkeep r (iS b4)];exact b3,by rw [yj (zN hr (iS b4))];exact b4⟩
  case ref r =>
   have hr:r∉fz:=fun hr=>hd (gw (.inr hk) _ hr)
   obtain⟨i,f,b1,b2,b3⟩:=h0;simp only [kQ,iR hr];exact⟨i,f,b1,by rw [hkeep r (gI b3)];exact b2,by rw [zN hr (gI b3)];exact b3⟩
  case tup ms =>
   obtain⟨l,vs,b1,b2,b3⟩:=h0;exact⟨l,vs,b1,b2,fun i=>pk hF (fun _ _=>rfl) (fun g hg=>⟨hO g s (i+1) (fun h=>by omega) hg,rfl⟩) (b3 i)⟩
  case no=>trivial
 ·rcases hb with hb | hb
  ·obtain⟨h1,h2⟩:=h.fl b hb
   refine⟨h1,?_⟩
   simp only [h2];split<;>rfl
  ·obtain⟨s,h1,h2,h3⟩:=hb
   exact⟨(h.ol b _ h2).1,if_pos ⟨s,h1,h2,h3⟩⟩
 ·split at hp
  ·cases hp
  ·exact h.ol b p hp
 ·rcases hb with hb | ⟨s,h1,h2,h3⟩
  ·exact h.fn b hb
  ·exact .inr h3
theorem Inv.uncast (h:Inv (rcx c fz) B X w0 F0 F O a w δ):Inv c B X w0 F0 F O a w (ae δ (Bm c fz) []):=by
 refine⟨h.la.trans (nN _ _ _ _),(bV _ _ _).trans (h.ld.trans (nN _ _ _ _)),h.df,fun s=>?_,h.fl,h.ol,h.f0,h.fn,h.bb,h.os,h.tape,h.output,h.keep,h.gl⟩
 by_cases hd:s∈Bm c fz
 ·exact .inl (iE _ _ _ hd)
 have e:nth (ae δ (Bm c fz) []) s=nth δ s:=am _ _ _ _ hd;by_cases hb:nth δ s = .bad
 ·exact .inl (e.trans hb)
 have h0:=(h.slot s).resolve_left hb;refine .inr ?_
 have hs:s∉fz:=fun hs=>hd (List.mem_append_left _ hs)
 have hdp:s∉aB c.K fz:=fun hs=>hd (List.mem_append_right _ hs)
 have hkeep:∀r,r∉fz→cr c.K r→nth (ae δ (Bm c fz) []) r=nth δ r:=fun r h1 h2=>am _ _ _ _ fun hm=>by
  rcases Jq.1 hm with hm | hm
  ·exact h1 hm
  ·exact lS h2 _ hm
 rw [lZ] at h0;rw [e];generalize hk:ah c.K s=k at h0;cases k
 case own z lv io =>
  have e2:kQ c.K fz s (.own z lv io) = .own z lv io:=by cases io<;>simp [kQ,iR hs]
  rw [e2] at h0;exact h0
 case via r =>
  have hr:r∉fz:=fun hr=>hdp (gw (.inl hk) _ hr)
  simp only [kQ,iR hr] at h0;obtain⟨b1,b2,b3,b4⟩:=h0;obtain⟨g1,g2⟩:=zO (iS b4);exact⟨b1,b2,by rw [hkeep r hr g1];exact b3,by rw [←yj g2];exact b4⟩
 case ref r =>
  have hr:r∉fz:=fun hr=>hdp (gw (.inr hk) _ hr)
  simp only [kQ,iR hr] at h0;obtain⟨i,f,b1,b2,b3⟩:=h0;obtain⟨g1,g2⟩:=zO (gI b3);exact⟨i,f,b1,by rw [hkeep r hr g1];exact b2,by rw [←g2];exact b3⟩
 all_goals exact h0
end
end Go.V

namespace Go.V
open Go.RowKit
set_option maxRecDepth 100000
section
variable {P:Program} {c:Cx} {B:Nat} {X:Nat→Prop} {w0:World} {F0 F:Nat→Prop} {O:Nat→Option (Nat × Nat)} {a:Act} {w:World} {δ:List D} {fz:List Nat}
theorem oH:∀(ss ts:List Nat) (δ:List D),ae (ae δ ss []) ts []=ae δ (ss++ts) []
 | [],_,_=>rfl
 | i::ss,ts,δ=>by
  simp only [JI,ae];exact oH ss ts _
def unK (c:Cx) (fz:List Nat) (k:Out→Option Out) (o:Out):Option Out :=
 match o with
 | .nrm δ=>k (.nrm (ae δ (Bm c fz) []))
 | _=>none
end
end Go.V

namespace Go.V
open Go.RowKit Go.WideShapes Go.ChangeShapes
set_option maxRecDepth 100000
mutual
inductive Sh where
 | int (k:IntKind)
 | bool
 | str
 | sl (e:Sh)
 | st (l:ShL)
inductive ShL where
 | nil
 | cons (h:Sh) (t:ShL)
end
mutual
def Sh.size:Sh→Nat
 | .int _=>1
 | .bool=>1
 | .str=>1
 | .sl _=>1
 | .st l=>l.size
def ShL.size:ShL→Nat
 | .nil=>0
 | .cons h t=>h.size+t.size
end
def Sh.isSt:Sh→Bool
 | .st _=>true
 | _=>false
mutual
def Sh.flat:Sh→Bool
 | .int _=>true
 | .bool=>true
 | .str=>true
 | .sl _=>false
 | .st l=>l.flat
def ShL.flat:ShL→Bool
 | .nil=>true
 | .cons h t=>h.flat&&t.flat
end
def wrap (ag:Bool) (m:List D):D:=if ag then .agg m else nth m 0
mutual
def Sh.Is:Sh→List D→Prop
 | .int k,l=>∃n,l=[.v (.int k n)]∧k.min≤n∧n≤k.max
 | .bool,l=>∃b,l=[B b]
 | .str,l=>∃s,l=[T s]∧s.size≤maxLen
 | .sl e,l=>∃ds,l=[.arr e.size ds]∧ds.length≤maxLen∧∀d∈ds,∃m,e.Is m∧d=wrap e.isSt m
 | .st fs,l=>fs.Is l
def ShL.Is:ShL→List D→Prop
 | .nil,l=>l=[]
 | .cons h t,l=>∃a b,l=a++b∧h.Is a∧t.Is b
end
mutual
def Sh.ok (P:Program):Sh→TypeId→Bool
 | .int k,t=>match P.underlying t with
  | some (.int k')=>decide (k'=k)
  | _=>false
 | .bool,t=>match P.underlying t with
  | some .bool=>true
  | _=>false
 | .str,t=>match P.underlying t with
  | some .string=>true
  | _=>false
 | .sl e,t=>match P.underlying t with
  | some (.slice u)=>e.ok P u&&decide (P.cellsOf u=e.size)&&decide (0<e.size)
  | _=>false
 | .st l,t=>match P.underlying t with
  | some (.struct fs)=>l.ok P 0 fs.toList&&decide (P.cellsOf t=l.size)
  | _=>false
def ShL.ok (P:Program):ShL→Nat→List Field→Bool
 | .nil,_,[]=>true
 | .cons h t,off,f::fs=>decide (f.offset=off)&&h.ok P f.type&&decide (P.cellsOf f.type=h.size)&&t.ok P (off+h.size) fs
 | _,_,_=>false
end
section
variable {H:Type} {enc:TypeId × Value→H} {P:Program} {W:World}
theorem Sh.len_one {sh:Sh} (h:sh.isSt=false):sh.size=1:=by
 cases sh<;>simp_all [Sh.isSt,Sh.size]
theorem EZ {a:Addr} {n:Nat} {vs:List Value} (h:W.cells? 0 a n=some vs):vs.length=n∧∀i u,vs[i]?=some u→W.cell? (a.add i)=some u:=by
 simp only [World.cells?,Nat.zero_le,if_true] at h;have hl:=mapM_some_length h;rw [List.length_range] at hl;refine⟨hl,fun i u hu=>?_⟩
 have hi:i<n:=by
  rw [←hl];exact(IC.1 hu).1
 rw [mapM_some_get h i i (by simp [hi]),hu]
theorem Fr (a:Addr) (i j:Nat):(a.add i).add j=a.add (i+j):=by
 unfold Addr.add;by_cases hi:i=0<;>by_cases hj:j=0<;>simp [hi,hj,Nat.add_assoc]
theorem CX {a:Addr} {u:Value} (h:W.cell? a=some u):a.spot=none∧a.block<W.heap.size:=by
 unfold World.cell? at h;split at h
 case h_2=>cases h
 rename_i hb;split at h
 ·cases h
 rename_i hs;refine⟨by simpa using hs,?_⟩
 rcases JH a.block W.heap.size with h' | h'
 ·exact h'
 ·rw [Jn h'] at hb;cases hb
theorem jq {F:Nat→Prop} {d:D} {vs:List Value}:bh W F [d] vs↔RepC W F d vs:=by
 rw [ax];constructor
 ·rintro⟨v1,v2,rfl,h1,h2⟩
  rw [aL.1 h2,JK];exact h1
 ·intro h
  exact⟨vs,[],by simp,h,aL.2 rfl⟩
theorem Cv {F:Nat→Prop} {sh:Sh} {L:List D} {vs:List Value} (hr:bh W F L vs) (hs:L.all D.single=true) (hl:L.length=sh.size):RepC W F (wrap sh.isSt L) vs∧(wrap sh.isSt L).width=sh.size:=by
 cases hb:sh.isSt
 ·have h1:=Sh.len_one hb
  match L,hl.trans h1 with
  | [d],_ =>
   simp only [wrap,IE,if_false,nth];refine⟨jq.1 hr,?_⟩
   rw [h1];exact(dF (by simpa using hs)).1
 ·simp only [wrap,if_true]
  refine⟨by rw [RepC];exact⟨hr,hs⟩,?_⟩
  simpa [D.width,D.cells] using hl
mutual
theorem Sh.opened:∀(sh:Sh) (t:TypeId) (fuel:Nat) (cs:List Value) (x:DataW H × List MemPlace),sh.ok P t=true→DataW.trod enc P W 0 (fun _=>true) true fuel t cs=some x →
  ∃L,sh.Is L∧bh W (·<W.heap.size) L cs∧L.all D.single=true∧L.length=sh.size
 | .int k,t,fuel,cs,x,hok,h=>by
  simp only [Sh.ok] at hok;split at hok
  case h_2=>cases hok
  rename_i k' hu;have hk:=of_decide_eq_true hok;subst hk;obtain⟨n,rfl,-,hw⟩:=DataW.trod_int hu h;simp only [Lit.wf,Ix,decide_eq_true_eq] at hw;refine⟨[.v (.int k' n)],⟨n,rfl,hw⟩,jq.2 ?_,rfl,rfl⟩
  simp [RepC,V.flat]
 | .bool,t,fuel,cs,x,hok,h=>by
  simp only [Sh.ok] at hok;split at hok
  case h_2=>cases hok
  rename_i hu;obtain⟨n,rfl,-⟩:=DataW.trod_bool hu h;refine⟨[B n],⟨n,rfl⟩,jq.2 ?_,rfl,rfl⟩
  simp [RepC,V.flat]
 | .str,t,fuel,cs,x,hok,h=>by
  simp only [Sh.ok] at hok;split at hok
  case h_2=>cases hok
  rename_i hu;obtain⟨s,rfl,-,hw⟩:=DataW.trod_string hu h;refine⟨[T s],⟨s,rfl,hw⟩,jq.2 ?_,rfl,rfl⟩
  simp [RepC,V.flat]
 | .sl e,t,fuel,cs,x,hok,h=>by
  simp only [Sh.ok] at hok;split at hok
  case h_2=>cases hok
  rename_i u hu;simp only [Ix,decide_eq_true_eq] at hok;obtain⟨⟨hok,hz⟩,hpos⟩:=hok;rcases DataW.trod_slice hu h with ⟨rfl,-⟩ | ⟨a,len,cap,elems,rest,n,rfl,rfl,-,-,hle,hcap,hlen,hel,-⟩
  ·refine⟨[.arr e.size []],⟨[],rfl,by simp,by simp⟩,jq.2 ?_,rfl,rfl⟩
   rw [RepC];exact⟨none,0,[],rfl,Jl _,aL.2 rfl,by simp,by simp⟩
  ·have key:∀k,k≤len→∃ds us,ds.length=k∧us.length=k*e.size∧bh W (·<W.heap.size) ds us∧(∀d∈ds,d.width=e.size)∧(∀d∈ds,∃m,e.Is m∧d=wrap e.isSt m)∧∀i v,us[i]?=some v→W.cell? (a.add i)=some v:=by
    intro k;induction k with
    | zero=>exact fun _=>⟨[],[],rfl,by simp,aL.2 rfl,by simp,by simp,by simp⟩
    | succ k ih =>
     intro hk;obtain⟨ds,us,h1,h2,h3,h4,h5,h6⟩:=ih (by omega);have hi:=hel k (by omega);rw [IU (by omega)] at hi;obtain⟨vs,hc,hd⟩:=IF.1 hi;obtain⟨L,g1,g2,g3,g4⟩:=Sh.opened e u n vs _ hok hd;obtain⟨g5,g6⟩:=EZ hc;obtain⟨g7,g8⟩:=Cv g2 g3 g4;rw [hz] at g5 g6;refine⟨ds++[wrap e.isSt L],us++vs,by simp [h1],by simp [h2,g5,Nat.succ_mul],(cF _ _ _).2 ⟨us,vs,rfl,h3,jq.2 g7⟩,?_,?_,fun i v hv=>?_⟩
     ·intro d hd
      rcases Jq.1 hd with hd | hd
      ·exact h4 d hd
      ·simp at hd;subst hd;exact g8
     ·intro d hd
      rcases Jq.1 hd with hd | hd
      ·exact h5 d hd
      ·simp at hd;subst hd;exact⟨L,g1,rfl⟩
     ·rcases JH i us.length with hlt | hge
      ·rw [List.getElem?_append_left hlt] at hv
       exact h6 i v hv
      ·rw [Jv hge] at hv
       have:=g6 _ v hv;rw [Fr,←h2] at this;rw [show us.length+(i - us.length)=i from by omega] at this;exact this
   obtain⟨ds,us,h1,h2,h3,h4,h5,h6⟩:=key len (Jl _);refine⟨[.arr e.size ds],⟨ds,rfl,by omega,h5⟩,jq.2 ?_,rfl,rfl⟩
   rw [RepC];refine⟨some a,cap,us,by rw [h1],by omega,h3,h4,fun hne=>?_⟩
   have hpl:0<us.length:=by
    rw [h2,←h1];exact Nat.mul_pos (List.length_pos_iff.2 hne) hpos
   have h0:=h6 0 _ (IU hpl);have ha0:a.add 0=a:=by simp [Addr.add]
   rw [ha0] at h0;obtain⟨hsp,hbl⟩:=CX h0;have ea:a=⟨a.block,a.off,none⟩:=by
    rw [←hsp]
   refine⟨a.block,a.off,by rw [←ea],hbl,fun i v hv=>?_⟩
   have:=h6 i v hv;unfold Addr.add at this;split at this
   ·rename_i hi0
    subst hi0;rw [Nat.add_zero,←ea];exact this
   ·rw [←hsp]
    rw [hsp];exact this
 | .st l,t,fuel,cs,x,hok,h=>by
  simp only [Sh.ok] at hok;split at hok
  case h_2=>cases hok
  rename_i fs hu;simp only [Ix,decide_eq_true_eq] at hok;obtain⟨xs,n,rfl,-,hlen,hxl,hf⟩:=DataW.trod_struct hu h;obtain⟨L,g1,g2,g3,g4⟩:=ShL.opened l 0 fs.toList n cs hok.1 (fun f hf'=>by
   obtain⟨i,hi,he⟩:=List.mem_iff_getElem.1 hf';have:=hf i f (by rw [←he];simp at hi ⊢);rw [IU (by simp at hi;omega)] at this;exact⟨_,this⟩)
  rw [JB,←hok.2,←hlen,List.take_length] at g2;exact⟨L,g1,g2,g3,g4⟩
theorem ShL.opened:∀(l:ShL) (off:Nat) (fs:List Field) (fuel:Nat) (cs:List Value),l.ok P off fs=true→(∀f∈fs,∃x,DataW.trod enc P W 0 (fun _=>true) true fuel f.type ((cs.drop f.offset).take (P.cellsOf f.type))=some x) →
  ∃L,l.Is L∧bh W (·<W.heap.size) L ((cs.drop off).take l.size)∧L.all D.single=true∧L.length=l.size
 | .nil,off,[],fuel,cs,hok,h=>⟨[],rfl,by simp [ShL.size,aL],rfl,rfl⟩
 | .nil,off,_::_,fuel,cs,hok,h=>by simp [ShL.ok] at hok
 | .cons a t,off,[],fuel,cs,hok,h=>by simp [ShL.ok] at hok
 | .cons a t,off,f::fs,fuel,cs,hok,h=>by
  simp only [ShL.ok,Ix,decide_eq_true_eq] at hok;obtain⟨⟨⟨h1,h2⟩,h3⟩,h4⟩:=hok;obtain⟨x,hx⟩:=h f (by simp);obtain⟨L,g1,g2,g3,g4⟩:=Sh.opened a f.type fuel _ x h2 hx;obtain⟨M,k1,k2,k3,k4⟩:=ShL.opened t (off+a.size) fs fuel cs h4 (fun f hf=>h f (by simp [hf]));refine⟨L++M,⟨L,M,rfl,g1,k1⟩,(cF _ _ _).2 ⟨_,_,?_,g2,k2⟩,by simp [g3,k3],by simp [ShL.size,g4,k4]⟩
  rw [h1,h3,ShL.size,←List.drop_drop,←List.take_add]
end
def xY:D→Bool
 | .v _=>true
 | _=>false
theorem Fz {L:List D} (h:L.all xY=true):(D.agg L).isV=true:=by
 simp only [D.isV];refine IP.2 fun d hd=>?_
 have:=IP.1 h d hd;cases d<;>simp_all [xY]
mutual
theorem Sh.isV_of:∀(sh:Sh) (L:List D),sh.flat=true→sh.Is L→L.all xY=true
 | .int k,L,_,h=>by obtain⟨n,rfl,_⟩:=h;rfl
 | .bool,L,_,h=>by obtain⟨n,rfl⟩:=h;rfl
 | .str,L,_,h=>by obtain⟨n,rfl,_⟩:=h;rfl
 | .sl _,L,h,_=>by simp [Sh.flat] at h
 | .st l,L,h,hl=>ShL.isV_of l L (by simpa [Sh.flat] using h) hl
theorem ShL.isV_of:∀(sh:ShL) (L:List D),sh.flat=true→sh.Is L→L.all xY=true
 | .nil,L,_,h=>by cases h;rfl
 | .cons a t,L,h,hl=>by
  obtain⟨x,y,rfl,h1,h2⟩:=hl;simp only [ShL.flat,Ix] at h;rw [List.all_append,Sh.isV_of a x h.1 h1,ShL.isV_of t y h.2 h2];rfl
end
def Sh.IsV (sh:Sh) (d:D):Prop:=∃m,sh.Is m∧d=wrap sh.isSt m
theorem Sh.arg {sh:Sh} {t:TypeId} {v:Value} {d:DataW H} {ps:List MemPlace} {base:Nat} (hok:sh.ok P t=true) (hv:Jr P W .any base t v) (h:DataW.Trod enc P W 0 (fun _=>true) true t v d ps) :
  ∃x,sh.IsV x∧bj W (·<W.heap.size) x v∧(sh.flat=true→x.isV=true):=by
 obtain⟨fuel,h⟩:=h;obtain⟨L,h1,h2,h3,h4⟩:=Sh.opened sh t fuel _ _ hok h;refine⟨_,⟨L,h1,rfl⟩,?_,fun hf=>?_⟩
 ·cases hb:sh.isSt
  ·have h1':=Sh.len_one hb
   have hone:v.cells.toList=[v]:=by
    cases sh<;>simp only [Sh.isSt,Bool.true_eq_false] at hb<;>simp only [Sh.ok] at hok<;>split at hok<;>rename_i hu
    ·obtain⟨n,rfl⟩:=okWide_int hu hv;rfl
    ·cases hok
    ·obtain⟨n,rfl⟩:=okWide_bool hu hv;rfl
    ·cases hok
    ·obtain⟨n,rfl⟩:=okWide_string hu hv;rfl
    ·cases hok
    ·obtain⟨_,_,_,rfl⟩:=okWide_slice hu hv;rfl
    ·cases hok
   match L,h4.trans h1' with
   | [e],_ =>
    simp only [wrap,IE,if_false,nth];have hs:e.single=true:=by simpa using h3
    rw [hone] at h2;exact(gK hs).2 (jq.1 h2)
  ·simp only [wrap,if_true]
   have:∃cs,v = .agg cs:=by
    cases sh<;>simp only [Sh.isSt,IE] at hb;simp only [Sh.ok] at hok;split at hok
    case h_2=>cases hok
    rename_i hu;simp only [Jr,hu] at hv;obtain⟨cs,h,_⟩:=hv;exact⟨cs,h⟩
   obtain⟨cs,rfl⟩:=this;refine⟨cs.toList,by simp,?_⟩
   rw [RepC];exact⟨by simpa [Value.cells] using h2,h3⟩
 ·have:=Sh.isV_of sh L hf h1
  cases hb:sh.isSt
  ·match L,h4.trans (Sh.len_one hb) with
   | [e],_ =>
    simp only [wrap,IE,if_false,nth];cases e<;>simp [xY] at this;rfl
  ·simp only [wrap,if_true]
   exact Fz this
theorem GM {k:IntKind} {x:D} (h:(Sh.int k).IsV x):∃n,x = .v (.int k n)∧k.min≤n∧n≤k.max:=by
 obtain⟨_,⟨n,rfl,h⟩,rfl⟩:=h;exact⟨n,rfl,h⟩
theorem Hv {e:Sh} {x:D} (h:(Sh.sl e).IsV x):∃ds,x = .arr e.size ds∧ds.length≤maxLen∧∀d∈ds,e.IsV d:=by
 obtain⟨_,⟨n,rfl,h,h'⟩,rfl⟩:=h;exact⟨n,rfl,h,h'⟩
def sN (P:Program):List Sh→List TypeId→List Kd→Bool
 | [],[],[]=>true
 | sh::shs,t::ts,.dat lv::ks=>sh.ok P t&&(IV lv 2||(IV lv 0&&sh.flat))&&sN P shs ts ks
 | _,_,_=>false
def zJ:List Sh→List D→Prop
 | [],[]=>True
 | sh::shs,d::ds=>sh.IsV d∧zJ shs ds
 | _,_=>False
theorem Gm {a b:Sh} {ds:List D} (h:zJ [a,b] ds):∃x y,ds=[x,y]∧a.IsV x∧b.IsV y:=by
 match ds,h with
 | [x,y],⟨h1,h2,_⟩=>exact⟨x,y,rfl,h1,h2⟩
theorem BB {base:Nat}:∀(shs:List Sh) (ts:List TypeId) (ks:List Kd) (vs:List Value) (ds:List (DataW H)) (ps:List MemPlace) (i:Nat),sN P shs ts ks=true→Jc enc P W 0 (fun _=>true) true ts vs ds ps →
  (∀(j:Nat) t v,ts[j]?=some t→vs[j]?=some v→Jr P W .any base t v)→∃xs,zJ shs xs∧dN W (·<W.heap.size) (fun _=>none) i ks xs vs
 | [],[],[],[],_,_,_,_,_,_=>⟨[],trivial,trivial⟩
 | [],[],[],_::_,[],_,_,_,h,_=>h.elim
 | [],[],[],_::_,_::_,_,_,_,h,_=>h.elim
 | sh::shs,t::ts,k::ks,[],[],_,_,_,h,_=>h.elim
 | sh::shs,t::ts,k::ks,[],_::_,_,_,_,h,_=>h.elim
 | sh::shs,t::ts,k::ks,_::_,[],_,_,_,h,_=>h.elim
 | sh::shs,t::ts,k::ks,v::vs,d::ds,ps,i,hok,h,hv=>by
  cases k<;>simp only [sN,IE] at hok;rename_i lv;simp only [Ix,IL] at hok;obtain⟨⟨hok1,hlv⟩,hok2⟩:=hok;obtain⟨p,q,h1,h2,rfl⟩:=h;obtain⟨x,g1,g2,g3⟩:=Sh.arg hok1 (hv 0 t v rfl rfl) h1;obtain⟨xs,k1,k2⟩:=BB shs ts ks vs ds q (i+1) hok2 h2 (fun j t v ht hv'=>hv (j+1) t v ht hv');refine⟨x::xs,⟨g1,k1⟩,.inr ?_,k2⟩
  rcases hlv with h' | ⟨h',hf⟩
  ·rw [az] at h'
   subst h';exact g2
  ·exact my (g3 hf) g2
 | [],[],_::_,_,_,_,_,hok,_,_=>by simp [sN] at hok
 | [],_::_,_,_,_,_,_,hok,_,_=>by simp [sN] at hok
 | _::_,[],_,_,_,_,_,hok,_,_=>by simp [sN] at hok
 | _::_,_::_,[],_,_,_,_,hok,_,_=>by simp [sN] at hok
theorem qc {W':World} (hl:laidOutB P=true):∀(ts:List TypeId) (vs:List Value) (ds:List (DataW H)) (ps:List MemPlace),(ts.all fun t=>P.readableRec t&&decide (t<P.types.size))=true →
  Jc enc P W 0 (fun _=>true) true ts vs ds ps→Below W.heap.size W W'→(∀x∈ps,x.block<W.heap.size)→∀sp:Nat→Bool,(∀x∈ps,sp x.block=true)→Jc enc P W' 0 sp true ts vs ds ps
 | [],[],[],_,_,h,_,_,_,_=>h
 | [],_::_,[],_,_,h,_,_,_,_=>h.elim
 | [],[],_::_,_,_,h,_,_,_,_=>h.elim
 | [],_::_,_::_,_,_,h,_,_,_,_=>h.elim
 | _::_,[],[],_,_,h,_,_,_,_=>h.elim
 | _::_,[],_::_,_,_,h,_,_,_,_=>h.elim
 | _::_,_::_,[],_,_,h,_,_,_,_=>h.elim
 | t::ts,v::vs,d::ds,ps,hr,h,hb,hlt,sp,hsp=>by
  obtain⟨p,q,h1,h2,rfl⟩:=h;simp only [Jw,Ix,decide_eq_true_eq] at hr;refine⟨p,q,?_,qc hl ts vs ds q hr.2 h2 hb (fun x hx=>hlt x (by simp [hx])) sp (fun x hx=>hsp x (by simp [hx])),rfl⟩
  exact WideElems.Trod_stays hl hr.1.1 hr.1.2 h1 (fun x hx=>hb.same (hlt x (by simp [hx]))) (fun x hx=>hsp x (by simp [hx]))
end
section
variable {H:Type} {enc:TypeId × Value→H} {P:Program}
theorem vT {f:Func} {s:ChangeSpec} {apart fresh handsOn again:Bool} {W W':World} {args:Array Value} {v:Value} {ds gs:List (DataW H)} {before pa pv:List MemPlace}
  (hW:DataW.Whole enc P f.params.toList s.vars apart W args.toList ds gs before)
  (hres:∀(b:Nat) (sp:Nat→Bool) (hd:Bool),Jc enc P W' b sp hd f.resultTypes.toList (v.resultList f.resultTypes.size) (s.fn H (ds++gs)).results [])
  (hargs:∀sp:Nat→Bool,(∀p∈before,sp p.block=true)→Jc enc P W' 0 sp true f.params.toList args.toList (s.fn H (ds++gs)).args pa)
  (hvars:∀sp:Nat→Bool,(∀p∈before,sp p.block=true)→DataW.TrodVars enc P W' sp s.vars (s.fn H (ds++gs)).vars pv)
  (hps:before=pa++pv) (hb:Below W.heap.size W W')
  (hok:∀(j:Nat) (t:TypeId) (r:Value),f.resultTypes[j]?=some t→(v.resultList f.resultTypes.size)[j]?=some r→Jr P W' .any 0 t r) :
  s.post enc P f apart fresh handsOn again W args v W':=by
 have hlt:∀p∈before,p.block<W.heap.size:=fun p hp=>hW.lt p hp
 have hold:∀p∈before,(fun b=>decide (b<W.heap.size)) p.block=true:=fun p hp=>by simpa using hlt p hp
 refine⟨ds,gs,before,[],pa,pv,hW,hres _ _ _,hargs _ hold,hvars _ hold,World.keptBut_mono (fun p hp=>⟨hp,?_⟩) (hb.frame (·∈before)),fun _=>?_⟩
 ·rw [hps,Jq] at hp
  exact Or.inr hp
 ·obtain⟨_,_,_,_,_,hz,hn⟩:=hW
  refine⟨hok,_,_,([]++pa)++pv,⟨[]++pa,pv,trodAll_append (hargs _ (fun _ _=>rfl)) (hres _ _ _),hvars _ (fun _ _=>rfl),rfl,?_,?_⟩,?_⟩
  ·intro b off hp
   have hin:MemPlace.cell b off∈before:=by rw [hps];simpa using hp
   rw [hb.frozen (hlt _ hin)];exact hz b off hin
  ·intro ha
   have:=hn ha;rw [hps] at this;simpa using this
  ·intro p hp _
   rw [hps];simpa using hp
theorem uc {G:List (Nat × (Obj→Prop))} {f:FuncId} {S:FS} (hm:ay G P f S) {fn:Func} (hf:P.funcs[f]?=some fn) (hname:(fn.name== "runtime.NumGoroutine")=false) (hb:fn.body.isSome=true) {ds rs us:List D} (hd:S.f ds=some (.ret rs us)) {args:Array Value} {w:World} {F:Nat→Prop} {ow:Nat→Option Nat}
  (hgl:gOk G w F) (ha:dN w F ow 0 S.pm ds args.toList) (hF:∀b,F b→b<w.heap.size∧ow b=none) (hO:∀b i,ow b=some i→b<w.heap.size) :
  Calls P f args w fun e w'=>∃v,e = .returned v∧∃F' R vs,v=gP vs∧CallPost S args rs us w F ow F' R vs w':=by
 obtain⟨b,hb⟩:=Jh.1 hb;have h1:¬fn.name= "runtime.NumGoroutine":=by simpa using hname
 have hrun:(callFunc f args).run P w = .ok (.enter f args) w:=by simp [callFunc,hf,h1,hb]
 have h2:=hm ds rs us hd args w F ow hgl ha hF hO {(default:Oper) with dst:=some 0} {tmps:=#[undef],defers:=[]} (fun a w'=>∃F' R vs,a.tmps.getD 0 undef=gP vs∧CallPost S args rs us w F ow F' R vs w') (fun _ _ _=>False) (fun v w' h=>by
  obtain⟨F',R,vs,rfl,h⟩:=h;exact⟨F',R,vs,by simp [Act.put],h⟩)
 rw [hrun,Jf] at h2;refine Jj h2 fun e w' he=>?_
 cases e with
 | returned v =>
  obtain⟨F',R,vs,h3,h4⟩:=he;exact⟨v,rfl,F',R,vs,by simpa [Act.put] using h3,h4⟩
 | panicked c=>exact he.elim
 | outgrown=>obtain⟨_,_,h⟩:=he;exact h.elim
theorem Ex {G:List (Nat × (Obj→Prop))} {f:FuncId} {S:FS} (hm:ay G P f S) {fn:Func} (hf:P.funcs[f]?=some fn) (hname:(fn.name== "runtime.NumGoroutine")=false) (hbd:fn.body.isSome=true) (shs:List Sh) {rt:TypeId}
  (hl:laidOutB P=true) (hsh:sN P shs fn.params.toList S.pm=true) (hrd:(fn.params.toList.all fun t=>P.readableRec t&&decide (t<P.types.size))=true)
  (hrm:S.rm=[.dat 0]) (hrt:fn.resultTypes=#[rt]) (hbool:P.underlying rt=some .bool)
  (hd:∀ds,zJ shs ds→S.f ds=some (.ret [B true] [])) {s:ChangeSpec} (hvars:s.vars=[])
  (hs:∀ds:List (DataW H),ds.length=fn.params.size→s.fn H (ds++[])={results:=[.lit (.bool true)],args:=ds})
  {W:World} {base:Nat} {args:Array Value} {ds gs:List (DataW H)} {before:List MemPlace}
  (hval:∀(j:Nat) t v,fn.params[j]?=some t→args[j]?=some v→Jr P W .any base t v) (hW:DataW.Whole enc P fn.params.toList s.vars false W args.toList ds gs before) (hgl:gOk G W fun b=>b<W.heap.size) {fresh handsOn again:Bool} :
  Calls P f args W fun e W'=>∃v,e = .returned v∧s.post enc P fn false fresh handsOn again W args v W':=by
 have hW':=hW;have hlt:∀p∈before,p.block<W.heap.size:=fun p hp=>hW.lt p hp
 obtain⟨p,q,hA,hV,rfl,hfz,hnd⟩:=hW;rw [hvars] at hV;have hgs:gs=[]∧q=[]:=by
  cases gs with
  | nil=>exact⟨rfl,hV⟩
  | cons _ _=>exact hV.elim
 obtain⟨rfl,rfl⟩:=hgs;obtain⟨xs,h1,h2⟩:=BB (base:=base) shs fn.params.toList S.pm args.toList ds p 0 hsh hA (fun j t v ht hv=>hval j t v (by simpa using ht) (by simpa using hv));refine Jj (uc hm hf hname hbd (hd xs h1) hgl h2 (fun b hb=>⟨hb,rfl⟩) (fun b i hi=>by cases hi)) fun e W' he=>?_
 obtain⟨v,rfl,F',R,vs,rfl,hp⟩:=he;refine⟨_,rfl,?_⟩
 have hlen:ds.length=fn.params.size:=by
  have:∀(ts:List TypeId) (vs:List Value) (ds:List (DataW H)) (ps:List MemPlace),Jc enc P W 0 (fun _=>true) true ts vs ds ps→ds.length=ts.length:=by
   intro ts;induction ts with
   | nil =>
    intro vs ds ps h;cases ds with
    | nil=>rfl
    | cons _ _=>cases vs<;>exact h.elim
   | cons t ts ih =>
    intro vs ds ps h;cases vs with
    | nil=>exact h.elim
    | cons v vs =>
     cases ds with
     | nil=>exact h.elim
     | cons d ds =>
      obtain⟨_,_,_,h2,_⟩:=h;simp [ih _ _ _ h2]
  simpa using this _ _ _ _ hA
 have hB:Below W.heap.size W W':=⟨hp.os,hp.tape,hp.output,hp.size,fun b hb=>hp.keep b hb rfl⟩
 have hres:gP vs = .bool true:=by
  have hl1:=hp.len;rw [hrm] at hl1
  match vs,hl1 with
  | [y],_ =>
   have h0:=hp.res 0;rw [hrm] at h0;simp only [ah,nth,Jd] at h0;rcases h0 with h0 | h0
   ·cases h0
   ·exact(fd.1 h0).1
 rw [hres];have hsd:=hs ds hlen;refine vT (pa:=p) (pv:=[]) hW' (fun b sp hd'=>?_) (fun sp hsp=>?_) (fun sp _=>?_) rfl hB ?_
 ·rw [hsd,hrt]
  exact trodAll_mk1 (shut_bool hbool true)
 ·rw [hsd]
  exact qc hl _ _ _ _ hrd hA hB (fun x hx=>hlt x (by simp [hx])) sp (fun x hx=>hsp x (by simp [hx]))
 ·rw [hsd,hvars]
  rfl
 ·exact ok_one hrt rfl (okWide_bool_mk hbool true)
end
end Go.V

namespace Go.V
set_option maxRecDepth 100000
section
variable {k:IntKind} {a b:Int} {bl:Bool} {eq:List Nat}
@[simp] theorem tR:bin .add bl eq (.v (.int k a)) (.v (.int k b))=some (.v (.int k (k.wrap (a+b)))):=by simp [bin,gj]
@[simp] theorem xQ:bin .sub bl eq (.v (.int k a)) (.v (.int k b))=some (.v (.int k (k.wrap (a - b)))):=by simp [bin,gj]
@[simp] theorem tN:bin .mul bl eq (.v (.int k a)) (.v (.int k b))=some (.v (.int k (k.wrap (a*b)))):=by simp [bin,gj]
@[simp] theorem Ih:bin .quo bl eq (.v (.int k a)) (.v (.int k b))=if b=0 then none else some (.v (.int k (k.wrap (a.tdiv b)))):=by simp [bin,gj]
@[simp] theorem Ia:bin .rem bl eq (.v (.int k a)) (.v (.int k b))=if b=0 then none else some (.v (.int k (a.tmod b))):=by simp [bin,gj]
@[simp] theorem xU:bin .lss bl eq (.v (.int k a)) (.v (.int k b))=some (B (decide (a<b))):=by simp [bin,gj]
@[simp] theorem BT:bin .leq bl eq (.v (.int k a)) (.v (.int k b))=some (B (decide (a≤b))):=by simp [bin,gj]
@[simp] theorem qQ:bin .gtr bl eq (.v (.int k a)) (.v (.int k b))=some (B (decide (b<a))):=by simp [bin,gj]
@[simp] theorem BZ:bin .geq bl eq (.v (.int k a)) (.v (.int k b))=some (B (decide (b≤a))):=by simp [bin,gj]
@[simp] theorem ru:bin .eql bl eq (.v (.int k a)) (.v (.int k b))=some (B (decide (a=b))):=by
 have:(a==b)=decide (a=b):=rfl;simp [bin,gj,this]
@[simp] theorem qI:bin .neq bl eq (.v (.int k a)) (.v (.int k b))=some (B (!decide (a=b))):=by
 have:(a != b) = !decide (a=b):=rfl;simp [bin,gj,this]
@[simp] theorem Hz {a b:Bool}:bin .eql true eq (B a) (B b)=some (B (a==b)):=by simp [bin]
@[simp] theorem kS {a b:Bool}:bin .neq true eq (B a) (B b)=some (B !(a==b)):=by simp [bin]
@[simp] theorem HS {a b:ByteArray}:bin .add bl eq (T a) (T b)=if a.size+b.size≤1152921504606846976 then some (T (a++b)) else none:=by simp [bin,se]
@[simp] theorem EE {a b:ByteArray}:bin .eql bl eq (T a) (T b)=some (B (decide (a=b))):=by
 have:(a.toList==b.toList)=decide (a=b):=by
  rw [Bool.eq_iff_iff,beq_iff_eq,decide_eq_true_eq];constructor
  ·intro h
   have h1:∀s:ByteArray,s.toList=s.data.toList:=fun s=>by simp [ByteArray.toList_eq]
   rw [h1,h1] at h;cases a;cases b;simp at h;simp [h]
  ·rintro rfl;rfl
 simp [bin,se,this]
@[simp] theorem HW {a b:ByteArray}:bin .neq bl eq (T a) (T b)=some (B (!decide (a=b))):=by
 have h:=EE (a:=a) (b:=b) (bl:=bl) (eq:=eq);simp only [bin,se,Iz,D.v.injEq,Value.bool.injEq] at h ⊢;rw [h]
@[simp] theorem kz {b:Bool}:un .not (B b)=some (B !b):=rfl
@[simp] theorem Im:un .neg (.v (.int k a))=some (.v (.int k (k.wrap (-a)))):=by simp [un]
theorem ai (h1 : -9223372036854775808≤a) (h2:a<9223372036854775808):IntKind.i64.wrap a=a:=by
 simp [IntKind.wrap,IntKind.bits,IntKind.signed];split<;>omega
end
@[simp] theorem dv {c:Bool} {t e:Option Out}:ifD (B c) t e=if c=true then t else e:=by cases c<;>rfl
@[simp] theorem yE {c:Bool} {t e:Option Out}:ifN c t e=if c=true then t else e:=by cases c<;>rfl
@[simp] theorem kL {v:D} {c:Bool} {r:Option D}:aj v (B c) true r=if c=true then r else some v:=by cases c<;>rfl
@[simp] theorem lL {v:D} {c:Bool} {r:Option D}:aj v (B c) false r=if c=true then some v else r:=by cases c<;>rfl
@[simp] theorem EJ {v:D} {p:Bool} {l:List D} {r:Option D}:aj v (.tup l) p r=some v:=rfl
@[simp] theorem Ce {p:Bool} {l:List D} {r:Option Out} {alt:List D} {k:List D→Option Out}:cd (.tup l) p r alt k=k alt:=rfl
def nrmK (r:Option Out) (k:List D→Option Out):Option Out :=
 match r with
 | some (.nrm l)=>k l
 | _=>none
@[simp] theorem eO {l:List D} {k:List D→Option Out}:nrmK (some (.nrm l)) k=k l:=rfl
@[simp] theorem rK {c:Bool} {r:Option Out} {alt:List D} {k:List D→Option Out}:cd (B c) true r alt k=if c=true then nrmK r k else k alt:=by cases c<;>rfl
@[simp] theorem ka {c:Bool} {r:Option Out} {alt:List D} {k:List D→Option Out}:cd (B c) false r alt k=if c=true then k alt else nrmK r k:=by cases c<;>rfl
@[simp] theorem fC {c:Bool} {a b:D}:aJ (B c) a b=some (if c=true then a else b):=by cases c<;>rfl
@[simp] theorem aN {rs us:List D} {k:List D→List D→Option Out}:callK (some (.ret rs us)) k=k rs us:=rfl
@[simp] theorem oD {i:Nat} {s:List D} {x:Nat→List D→Option Out} {r:List D→List D→Option Out}:outK (.ext i s) x r=x i s:=rfl
@[simp] theorem HF {a b:List D} {x:Nat→List D→Option Out} {r:List D→List D→Option Out}:outK (.ret a b) x r=r a b:=rfl
@[simp] theorem Ie {v:Value} {x:D}:ab (.v v) x=some x:=rfl
@[simp] theorem iN {z:Nat} {l:List D} {x:D}:ab (.arr z l) x=some x:=rfl
@[simp] theorem eQ {l:List D} {x:D}:ab (.agg l) x=some x:=rfl
@[simp] theorem cn {i f:Nat} {x:D}:ab (.ref i f) x=some x:=rfl
@[simp] theorem Hs {l:List D} {x:D}:ab (.tup l) x=some x:=rfl
@[simp] theorem ca {z:Nat} {l:List D}:lenD false (.arr z l)=some (I l.length):=rfl
@[simp] theorem zX {s:ByteArray}:lenD true (T s)=some (I s.size):=rfl
@[simp] theorem bA {a:D} {l:List D}:sl (a::l) 0=a:=rfl
@[simp] theorem iF {a:D} {l:List D} {n:Nat}:sl (a::l) (n+1)=sl l n:=rfl
@[simp] theorem hZ {ag:Bool} {n off:Nat} {l:List D}:mQ ag n off (.agg l)=aD ag n (l.drop off):=rfl
@[simp] theorem ya {ag:Bool} {n:Nat} {l:List D}:ldD ag n (.ptr l)=aD ag n l:=rfl
@[simp] theorem zZ {off:Nat} {l:List D}:FR off (.ptr l)=some (.ptr (l.drop off)):=rfl
@[simp] theorem Ig {n:Nat} {l:List D}:aD true n l=if n≤l.length then some (.agg (l.take n)) else none:=rfl
@[simp] theorem xL {n:Nat} {a:D} {l:List D}:aD false n (a::l)=some a:=rfl
@[simp] theorem BR {l:List D} {i f:Nat}:atD (.agg l) (.ref i f)=some (l.drop f):=rfl
@[simp] theorem ir {z:Nat} {l:List D} {i f:Nat}:atD (.arr z l) (.ref i f)=(l[i]?).map fun d=>d.cells.drop f:=rfl
@[simp] theorem Bq {off i f:Nat}:bF off (.ref i f)=some (.ref i (f+off)):=rfl
@[simp] theorem eP {z:Nat} {l:List D} {k:IntKind} {i:Nat}:aF z (.arr z l) (.v (.int k (i:Int)))=(l[i]?).map D.cells:=by simp [aF]
@[simp] theorem bK {z:Nat} {l:List D} {k:IntKind} {i:Nat}:fR z (.arr z l) (.v (.int k (i:Int)))=if i<l.length then some (.ref i 0) else none:=by simp [fR]
@[simp] theorem yB {l:List D}:(D.agg l).cells=l:=rfl
@[simp] theorem Hr {v:Value}:(D.v v).cells=[.v v]:=rfl
@[simp] theorem GA {z:Nat} {l:List D}:(D.arr z l).cells=[.arr z l]:=rfl
@[simp] theorem Az {v:Value}:bE (.v v)=some (.v v):=rfl
@[simp] theorem HA {l:List D}:bE (.agg l)=if l.all xY=true then some (.agg l) else none:=by
 have:(D.agg l).isV=l.all xY:=by
  simp only [D.isV];congr 1
 simp [bE,this]
@[simp] theorem Io {v:Value}:xY (.v v)=true:=rfl
@[simp] theorem HO {z:Nat} {l:List D}:xY (.arr z l)=false:=rfl
@[simp] theorem Hx {v:Value}:(D.v v).single=true:=rfl
@[simp] theorem GT {z:Nat} {l:List D}:(D.arr z l).single=true:=rfl
@[simp] theorem CG {l:List D}:(D.agg l).width=l.length:=rfl
@[simp] theorem HZ {v:Value}:(D.v v).width=1:=rfl
@[simp] theorem Hq {z:Nat} {l:List D}:(D.arr z l).width=1:=rfl
@[simp] theorem xW {n:Nat} {x:D}:qp n x=if x.cells.length=n∧x.cells.all D.single=true then some (.agg x.cells) else none:=rfl
@[simp] theorem Ic {n i f:Nat} {l:List D} {x:D}:stD n (.agg l) (.ref i f) x=if x.cells.length=n∧f+n≤l.length∧x.cells.all D.single=true then some (.agg (putCells l f x.cells)) else none:=rfl
@[simp] theorem GG {l:List D} {f:Nat} {vs:List D}:putCells l f vs=l.take f++vs++l.drop (f+vs.length):=rfl
@[simp] theorem aA {l:List D} {i:Nat}:al (.tup l) i=match l[i]? with
  | some .bad=>none
  | some (.tup _)=>none
  | r=>r:=rfl
@[simp] theorem cj {l:List D} {i:Nat}:bS (.tup l) i = .tup (l.set i .bad):=rfl
@[simp] theorem fb {x:D}:dB (.ref 0 0) x=some x:=rfl
@[simp] theorem bO {z eb:Nat} {l m:List D}:ew z eb (.arr z l) (.arr z m)=if (l.length+m.length)*eb≤140737488355328∧l.length+m.length≤1152921504606846976 then some (.arr z (l++m)) else none:=by simp [ew]
@[simp] theorem Hg {z:Nat} {l:List D} {k:IntKind} {i:Nat}:aF z (.arr z l) (.v (.int k ((i:Int)+1)))=(l[i+1]?).map D.cells:=eP (i:=i+1)
@[simp] theorem Hm {z:Nat} {l:List D} {k:IntKind}:aF z (.arr z l) (.v (.int k 0))=(l[0]?).map D.cells:=eP (i:=0)
@[simp] theorem zH {z eb:Nat} {x:D} {k k':IntKind} {n m:Nat}:yF z eb x (.v (.int k (n:Int))) (.v (.int k' (m:Int)))=if n≤m∧m*eb≤140737488355328∧m≤140737488355328 then some (.arr z (JD n x)) else none:=by
 have h:((n:Int)≤m∧(m:Int)*(eb:Int)≤140737488355328∧(m:Int)≤140737488355328)↔(n≤m∧m*eb≤140737488355328∧m≤140737488355328):=by
  rw [←Int.natCast_mul];omega
 simp only [yF,Int.natCast_nonneg,true_and,h,Jy]
theorem FN {n z i:Nat} {L c v:List D} (h:L[i]?=some (.agg c)) (hc:c.length=n) (hv:v.length=n) (hs:v.all D.single=true):stD n (.arr z L) (.ref i 0) (.agg v)=some (.arr z (L.set i (.agg v))):=by
 have e:(D.agg c).ofCells (putCells c 0 v) = .agg v:=by
  simp only [D.ofCells,putCells,List.take_zero,List.nil_append,II,hv,←hc,JJ,JK]
 have h2:(D.agg v).cells=v:=rfl;simp only [stD,h,h2,e,CG,hc,hv,hs,II,Jl,and_self,if_true,yB]
theorem vf {z i:Nat} {L:List D} {v w:Value} (h:L[i]?=some (.v w)):stD 1 (.arr z L) (.ref i 0) (.v v)=some (.arr z (L.set i (.v v))):=by
 simp [stD,h,D.ofCells]
def iJ {β:Type} (f:β→D) (z:D) (l:List β) (i:Nat):List D:=(l.take i).map f++JD (l.length - i) z
section
variable {β:Type} {f:β→D} {z:D} {l:List β} {i:Nat}
theorem ug:JD l.length z=iJ f z l 0:=by simp [iJ]
theorem vu:iJ f z l l.length=l.map f:=by simp [iJ]
@[simp] theorem rB (h:i≤l.length):(iJ f z l i).length=l.length:=by simp [iJ];omega
theorem wT (h:i<l.length):(iJ f z l i)[i]?=some z:=by
 rw [iJ,Jv (by simp;omega)];simp [List.getElem?_replicate];omega
theorem wU {x:β} (h:l[i]?=some x):(iJ f z l i).set i (f x)=iJ f z l (i+1):=by
 have hi:i<l.length:=(IC.1 h).1;have hx:l[i]=x:=(IC.1 h).2;obtain⟨m,hm⟩:∃m,l.length - i=m+1:=⟨l.length - i - 1,by omega⟩
 rw [iJ,iJ,hm,show l.length - (i+1)=m from by omega,List.replicate_succ,List.set_append_right _ _ (by simp;omega)];have:i - (List.map f (l.take i)).length=0:=by simp;omega
 rw [this,List.set_cons_zero,List.take_succ_eq_append_getElem hi,List.map_append,hx];simp
end
theorem oq {z i f:Nat} {L c:List D} {v:Value} (h:L[i]?=some (.agg c)) (hf:f<c.length):stD 1 (.arr z L) (.ref i f) (.v v)=some (.arr z (L.set i (.agg (putCells c f [.v v])))):=by
 have h2:(D.v v).cells=[.v v]:=rfl;have h3:f+1≤c.length:=hf;simp [stD,h,h2,h3,D.ofCells]
def GE {β:Type} (g:Nat→D) (f:β→D) (l:List β) (i:Nat):List D:=(List.range i).map g++(l.drop i).map f
section
variable {β:Type} {g:Nat→D} {f:β→D} {l:List β} {i:Nat}
@[simp] theorem Fk (h:i≤l.length):(GE g f l i).length=l.length:=by simp [GE];omega
end
theorem ma {z:Nat}:aW z []=some (.arr z []):=rfl
@[simp] theorem nX {β:Type} {z:Nat} {l:List β} {f:β→D} (h:∀x,(f x).isV=true):gT (.arr z (l.map f))=some (.arr z (l.map f)):=by
 have:(l.map f).all D.isV=true:=by simp [h]
 simp only [gT,this,if_true]
theorem vz {z i j:Nat} {l:List D} {k k':IntKind} (h1:i≤j) (h2:j≤l.length):iC false z (.arr z l) (.v (.int k (i:Int))) (.v (.int k' (j:Int)))=some (.arr z ((l.take j).drop i)):=by
 simp only [iC,Jy,true_and];rw [if_pos];omega
theorem sS {z i:Nat} {l:List D} {k:IntKind} (h:i≤l.length):eW false z (.arr z l) (.v (.int k (i:Int)))=some (.arr z (l.drop i)):=by
 simp only [eW,Jy,true_and];rw [if_pos];omega
@[simp] theorem Iu {p:Prop} [Decidable p] {a b:Bool}:(if p then D.v (.bool a) else D.v (.bool b))=D.v (.bool (if p then a else b)):=by split<;>rfl
theorem sv {body:List D→Option Out}:∀(n:Nat) (s:List D) (o:Out),iter body n s=some o→∀m,n≤m→iter body m s=some o
 | 0,_,_,h,_,_=>by simp [iter] at h
 | n+1,s,o,h,m,hm=>by
  obtain⟨m,rfl⟩:∃q,m=q+1:=⟨m - 1,by omega⟩
  simp only [iter] at h ⊢;split at h
  ·rename_i s' hb
   exact sv n s' o h m (by omega)
  ·exact h
theorem Ao {body:List D→Option Out} {s:List D} {o:Out} (n:Nat) (h:iter body n s=some o):aI body s=some o:=by
 have hex:∃n,(iter body n s).isSome=true:=⟨n,by rw [h];rfl⟩
 unfold aI;rw [dif_pos hex];obtain⟨o',ho⟩:=Jh.1 (JC hex);rw [ho];have h1:=sv _ _ _ ho (max n (Ja hex)) (by omega);have h2:=sv _ _ _ h (max n (Ja hex)) (by omega);rw [h1] at h2;exact h2
inductive Runs (body:List D→Option Out):List D→Out→Prop where
 | ext {s:List D} {i:Nat} {δ:List D}:body s=some (.ext i δ)→Runs body s (.ext i δ)
 | ret {s:List D} {rs us:List D}:body s=some (.ret rs us)→Runs body s (.ret rs us)
 | nrm {s s':List D} {o:Out}:body s=some (.nrm s')→Runs body s' o→Runs body s o
theorem Runs.iter {body:List D→Option Out} {s:List D} {o:Out} (h:Runs body s o):∃n,V.iter body n s=some o:=by
 induction h with
 | ext h=>exact⟨1,by simp [V.iter,h]⟩
 | ret h=>exact⟨1,by simp [V.iter,h]⟩
 | nrm h _ ih =>
  obtain⟨n,hn⟩:=ih;exact⟨n+1,by simp [V.iter,h,hn]⟩
theorem Runs.loop {body:List D→Option Out} {s:List D} {o:Out} (h:Runs body s o):aI body s=some o:=by
 obtain⟨n,hn⟩:=h.iter;exact Ao n hn
def goL {α β:Type} (g:Nat→β→α→α ⊕ Out) (fin:α→Out):Nat→List β→α→Out
 | _,[],a=>fin a
 | i,x::l,a=>match g i x a with
  | .inl a'=>goL g fin (i+1) l a'
  | .inr o=>o
def Out.ends:Out→Bool
 | .nrm _=>false
 | _=>true
theorem Runs.one {body:List D→Option Out} {s:List D} {o:Out} (h:body s=some o) (ho:o.ends=true):Runs body s o:=by
 cases o with
 | nrm _=>simp [Out.ends] at ho
 | ext _ _=>exact .ext h
 | ret _ _=>exact .ret h
theorem Runs.list {α β:Type} {body:List D→Option Out} (l:List β) (st:Nat→α→List D) (Inv:Nat→α→Prop) (g:Nat→β→α→α ⊕ Out) (fin:α→Out)
  (hs:∀i x a,l[i]?=some x→Inv i a→match g i x a with
   | .inl a'=>body (st i a)=some (.nrm (st (i+1) a'))∧Inv (i+1) a'
   | .inr o=>body (st i a)=some o∧o.ends=true)
  (he:∀a,Inv l.length a→body (st l.length a)=some (fin a)∧(fin a).ends=true) (a:α) (h0:Inv 0 a):Runs body (st 0 a) (goL g fin 0 l a):=by
 have key:∀(n i:Nat) (a:α),i+n=l.length→Inv i a→Runs body (st i a) (goL g fin i (l.drop i) a):=by
  intro n;induction n with
  | zero =>
   intro i a hi hI;have:i=l.length:=by omega
   subst this;rw [JJ];exact Runs.one (he a hI).1 (he a hI).2
  | succ n ih =>
   intro i a hi hI;have hlt:i<l.length:=by omega
   rw [List.drop_eq_getElem_cons hlt];have h:=hs i l[i] a (IU hlt) hI;simp only [goL];split at h
   ·exact .nrm h.1 (ih (i+1) _ (by omega) h.2)
   ·exact Runs.one h.1 h.2
 simpa using key l.length 0 a (by omega) h0
theorem sF {α β:Type} {body:List D→Option Out} (l:List β) (st:Nat→α→List D) (Inv:Nat→α→Prop) (g:Nat→β→α→α ⊕ Out) (fin:α→Out)
  (hs:∀i x a,l[i]?=some x→Inv i a→match g i x a with
   | .inl a'=>body (st i a)=some (.nrm (st (i+1) a'))∧Inv (i+1) a'
   | .inr o=>body (st i a)=some o∧o.ends=true)
  (he:∀a,Inv l.length a→body (st l.length a)=some (fin a)∧(fin a).ends=true) (a:α) (h0:Inv 0 a) {s0:List D} (h:s0=st 0 a):aI body s0=some (goL g fin 0 l a):=by
 rw [h];exact(Runs.list l st Inv g fin hs he a h0).loop
theorem dJ {body:List D→Option Out} (n:Nat) (st:Nat→List D) (o:Out) (hs:∀i,i<n→body (st i)=some (.nrm (st (i+1)))) (he:body (st n)=some o) (ho:o.ends=true) {s0:List D} (h:s0=st 0):aI body s0=some o:=by
 rw [h];have key:∀(m i:Nat),i+m=n→Runs body (st i) o:=by
  intro m;induction m with
  | zero =>
   intro i hi;have:i=n:=by omega
   subst this;exact Runs.one he ho
  | succ m ih=>exact fun i hi=>.nrm (hs i (by omega)) (ih (i+1) (by omega))
 exact(key n 0 (by omega)).loop
def kJ {β:Type} (p:Nat→β→Bool):Nat→List β→Bool
 | _,[]=>true
 | i,x::l=>p i x&&kJ p (i+1) l
theorem ju {β:Type} {body:List D→Option Out} (l:List β) (st:Nat→List D) (p:Nat→β→Bool) (o1 o2:Out) (hs:∀(i:Nat) (hi:i<l.length),body (st i)=some (if p i l[i]=true then .nrm (st (i+1)) else o1)) (he:body (st l.length)=some o2)
  (h1:o1.ends=true) (h2:o2.ends=true) {s0:List D} (h:s0=st 0):aI body s0=some (if kJ p 0 l=true then o2 else o1):=by
 have e:∀(m:List β) (i:Nat),goL (fun i x (_:Unit)=>if p i x=true then .inl () else .inr o1) (fun _=>o2) i m ()=if kJ p i m=true then o2 else o1:=by
  intro m;induction m with
  | nil=>intro i;simp [goL,kJ]
  | cons x m ih =>
   intro i;simp only [goL,kJ];by_cases hp:p i x=true
   ·simp [hp,ih]
   ·simp [hp]
 rw [←e];refine sF l (fun i _=>st i) (fun _ _=>True) _ _ (fun i x a hx _=>?_) (fun _ _=>⟨he,h2⟩) () trivial h
 have hi:i<l.length:=(IC.1 hx).1;have hxe:l[i]=x:=(IC.1 hx).2;have:=hs i hi;rw [hxe] at this;by_cases hp:p i x=true
 ·simpa [hp] using this
 ·simpa [hp,h1] using this
theorem Ax {α β:Type} {body:List D→Option Out} (l:List β) (st:Nat→α→List D) (f:α→β→α) (fin:α→Out) (a:α) (hs:∀(i:Nat) (a:α) (hi:i<l.length),body (st i a)=some (.nrm (st (i+1) (f a l[i])))) (he:∀a,body (st l.length a)=some (fin a))
  (h1:∀a,(fin a).ends=true) {s0:List D} (h:s0=st 0 a):aI body s0=some (fin (l.foldl f a)):=by
 have e:∀(m:List β) (i:Nat) (a:α),goL (fun _ x a=>.inl (f a x)) fin i m a=fin (m.foldl f a):=by
  intro m;induction m with
  | nil=>intro i a;rfl
  | cons x m ih=>intro i a;simp only [goL,List.foldl_cons];exact ih (i+1) (f a x)
 rw [←e l 0 a];exact sF l st (fun _ _=>True) (fun _ x a=>.inl (f a x)) _ (fun i x a hx _=>⟨by
  have hi:i<l.length:=(IC.1 hx).1;have hxe:l[i]=x:=(IC.1 hx).2;rw [←hxe];exact hs i a hi,trivial⟩) (fun a _=>⟨he a,h1 a⟩) a trivial h
def wW {α β:Type} (f:Nat→α→β→α):Nat→List β→α→α
 | _,[],a=>a
 | i,x::l,a=>wW f (i+1) l (f i a x)
theorem iV {α β:Type} {body:List D→Option Out} (l:List β) (st:Nat→α→List D) (Inv:Nat→α→Prop) (f:Nat→α→β→α) (fin:α→Out) (a:α) (hs:∀(i:Nat) (a:α) (hi:i<l.length),Inv i a→body (st i a)=some (.nrm (st (i+1) (f i a l[i])))∧Inv (i+1) (f i a l[i]))
  (he:∀a,Inv l.length a→body (st l.length a)=some (fin a)) (h1:∀a,(fin a).ends=true) (h0:Inv 0 a) {s0:List D} (h:s0=st 0 a):aI body s0=some (fin (wW f 0 l a)):=by
 have e:∀(m:List β) (i:Nat) (a:α),goL (fun i x a=>.inl (f i a x)) fin i m a=fin (wW f i m a):=by
  intro m;induction m with
  | nil=>intro i a;rfl
  | cons x m ih=>intro i a;simp only [goL,wW];exact ih (i+1) (f i a x)
 rw [←e l 0 a];refine sF l st Inv (fun i x a=>.inl (f i a x)) _ (fun i x a hx hI=>?_) (fun a hI=>⟨he a hI,h1 a⟩) a h0 h
 have hi:i<l.length:=(IC.1 hx).1;have hxe:l[i]=x:=(IC.1 hx).2;rw [←hxe];exact hs i a hi hI
theorem aE {body:List D→Option Out} {s0:List D} {K:Out→Option Out} {r:Option Out} (o:Out) (h:aI body s0=some o) (hk:K o=r):(aI body s0).bind K=r:=by
 rw [h];exact hk
theorem Fs {α:Type} {body:List D→Option Out} (st:α→List D) (Inv:α→Prop) (μ:α→Nat) (Q:α→Out→Prop)
  (hs:∀a,Inv a→(∃a',body (st a)=some (.nrm (st a'))∧Inv a'∧μ a'<μ a∧∀o,Q a' o→Q a o)∨∃o,body (st a)=some o∧o.ends=true∧Q a o) (a:α) (h:Inv a) {s0:List D} (h0:s0=st a):∃o,aI body s0=some o∧Q a o:=by
 rw [h0];have key:∀(n:Nat) (a:α),μ a<n→Inv a→∃o,Runs body (st a) o∧Q a o:=by
  intro n;induction n with
  | zero=>exact fun a h=>by omega
  | succ n ih =>
   intro a hn hI;rcases hs a hI with ⟨a',h1,h2,h3,h4⟩ | ⟨o,h1,h2,h3⟩
   ·obtain⟨o,h5,h6⟩:=ih a' (by omega) h2
    exact⟨o,.nrm h1 h5,h4 o h6⟩
   ·exact⟨o,Runs.one h1 h2,h3⟩
 obtain⟨o,h1,h2⟩:=key (μ a+1) a (by omega) h;exact⟨o,h1.loop,h2⟩
theorem bo {α:Type} {body:List D→Option Out} {K:Out→Option Out} (R:Option Out→Prop) (st:α→List D) (Inv:α→Prop) (μ:α→Nat) (Q:Out→Prop)
  (hs:∀a,Inv a→(∃a',body (st a)=some (.nrm (st a'))∧Inv a'∧μ a'<μ a)∨∃o,body (st a)=some o∧o.ends=true∧Q o) (a:α) (h:Inv a) {s0:List D} (h0:s0=st a) (hk:∀o,Q o→R (K o)):R ((aI body s0).bind K):=by
 obtain⟨o,h1,h2⟩:=Fs st Inv μ (fun _ o=>Q o) (fun a ha=>by
  rcases hs a ha with ⟨a',g1,g2,g3⟩ | h
  ·exact .inl ⟨a',g1,g2,g3,fun _ h=>h⟩
  ·exact .inr h) a h h0
 rw [h1];exact hk o h2
theorem Hn:(type_of% @bA)∧(type_of% @iF)∧(type_of% @eQ)∧(type_of% @cn)∧(type_of% @iN)∧(type_of% @fb)∧(∀{α β:Type} (a:α) (f:α→Option β),(some a).bind f=f a)∧(∀{α β:Type} (a:α) (f:α→β),(some a).map f=some (f a))∧(type_of% @aN)∧(type_of% @kL)∧(type_of% @lL)∧(type_of% @EJ)∧(type_of% @rK)∧(type_of% @ka)∧(type_of% @Ce)∧(type_of% @eO)∧(type_of% @fC)∧(type_of% @dv)∧(type_of% @yE)∧(∀{α:Type} {_h:Decidable True} (t e:α),(if True then t else e)=t)∧(∀{α:Type} {_h:Decidable False} (t e:α),(if False then t else e)=e)∧(type_of% @IE)∧(type_of% @kz)∧(type_of% @JE)∧(type_of% @Jt)∧(type_of% @decide_true)∧(type_of% @decide_false)∧(type_of% @and_self)∧(type_of% @oD)∧(type_of% @Nat.beq_refl)∧(type_of% @xU)∧(type_of% @qQ)∧(type_of% @BT)∧(type_of% @BZ)∧(type_of% @ru)∧(type_of% @qI)∧(type_of% @tR)∧(type_of% @xQ)∧(type_of% @tN)∧(type_of% @ca)∧(type_of% @zX)∧(∀{α β:Type} {l:List α} (f:α→β),(l.map f).length=l.length)∧(type_of% @ya)∧(type_of% @xL)∧(type_of% @Az)∧(type_of% @zZ)∧(∀{α:Type} {l:List α},l.drop 0=l)∧(∀{α:Type} {a:α} {l:List α} {i:Nat},(a::l).drop (i+1)=l.drop i)∧(type_of% @BR)∧(type_of% @ma) :=
 ⟨@bA,⟨@iF,⟨@eQ,⟨@cn,⟨@iN,⟨@fb,⟨@Option.bind_some,⟨@IM,⟨@aN,⟨@kL,⟨@lL,⟨@EJ,⟨@rK,⟨@ka,⟨@Ce,⟨@eO,⟨@fC,⟨@dv,⟨@yE,⟨@if_true,⟨@if_false,⟨@IE,⟨@kz,⟨@JE,⟨@Jt,⟨@decide_true,⟨@decide_false,⟨@and_self,⟨@oD,⟨@Nat.beq_refl,⟨@xU,⟨@qQ,⟨@BT,⟨@BZ,⟨@ru,⟨@qI,⟨@tR,⟨@xQ,⟨@tN,⟨@ca,⟨@zX,⟨@List.length_map,⟨@ya,⟨@xL,⟨@Az,⟨@zZ,⟨@JB,⟨@List.drop_succ_cons,⟨@BR,@ma⟩⟩⟩⟩⟩⟩⟩⟩⟩⟩⟩⟩⟩⟩⟩⟩⟩⟩⟩⟩⟩⟩⟩⟩⟩⟩⟩⟩⟩⟩⟩⟩⟩⟩⟩⟩⟩⟩⟩⟩⟩⟩⟩⟩⟩⟩⟩⟩⟩
end Go.V

namespace Go.V
open Go.RowKit
set_option maxRecDepth 100000
def uT (f:(List D→Option Out)→Option Out) (k:List D→Option Out):Option Out:=f k
@[reducible] def nA (c:Cx) (J:List (Nat × List Nat)):Nat→Nat→Code→List D→(Out→Option Out)→Option Out
 | _,_,.skip,δ,k=>k (.nrm δ)
 | _,_,.region _ ops _,δ,k=>eV c ops.toList ops.toList δ fun δ'=>k (.nrm δ')
 | p,bid,.seq a b,δ,k=>match bR J p with
  | none=>nA c J (Jk 2 p) bid a δ fun o=>DX o (fun δ'=>nA c J (JM (Jk 2 p) 1) bid b δ' k) k
  | some hl=>uT (fun j=>nA c J (Jk 2 p) bid a δ fun o=>DX o (fun δ'=>lM δ' hl fun s=>j s) k) (fun s=>eC (fQ c.K) hl s fun δ'=>nA c J (JM (Jk 2 p) 1) bid b δ' k)
 | p,bid,.cond x t e,δ,k=>opC δ x fun q=>ifD q (nA c J (Jk 2 p) bid t δ k) (nA c J (JM (Jk 2 p) 1) bid e δ k)
 | p,_,.block id b,δ,k=>nA c J (Jk 2 p) id b δ fun o=>tA id o k
 | p,bid,.loop b,δ,k=>match bR c.H bid with
  | none=>none
  | some (hl,xl) =>
   lM δ hl fun s=>(aI (fun s=>eC (fQ c.K) hl s fun δ=>nA c J (Jk 2 p) bid b δ (aY hl xl)) s).bind fun o =>
    outK o (fun i s=>eC (fQ c.K) xl s fun δ=>k (.ext i δ)) (fun a b=>k (.ret a b))
 | _,_,.exit id,δ,k=>k (.ext id δ)
 | _,_,.ret,δ,k=>ki c δ c.res fun rs=>lM δ c.ios fun us=>usK us (k (.ret rs us))
 | _,_,_,_,_=>none
@[reducible] def sW (c:Cx) (J:List (Nat × List Nat)) (fn:Func) (ds:List D):Option Out :=
 match fn.body with
 | none=>none
 | some b=>nA c J 1 0 b (mq fn.ntmps ds) fun o=>match o with
  | .nrm δ=>ki c δ c.res fun rs=>lM δ c.ios fun us=>usK us (some (.ret rs us))
  | .ext _ _=>none
  | .ret rs us=>some (.ret rs us)
def okJ (c:Cx) (J:List (Nat × List Nat)):Bool:=J.all fun p=>gR c.K p.2
theorem Dk {c:Cx}:∀{J:List (Nat × List Nat)} {p:Nat} {hl:List Nat},okJ c J=true→bR J p=some hl→gR c.K hl=true
 | [],_,_,_,h=>by cases h
 | (q,l)::J,p,hl,hJ,h=>by
  unfold okJ at hJ;rw [Jw,Ix] at hJ;simp only [bR] at h;split at h
  ·cases h
   exact hJ.1
  ·exact Dk (J:=J) hJ.2 h
section
variable {P:Program} {c:Cx} {B:Nat} {X:Nat→Prop} {w0:World} {F0 F:Nat→Prop} {O:Nat→Option (Nat × Nat)} {a:Act} {w:World} {δ:List D}
theorem rL {V:Nat→Value} {J:List (Nat × List Nat)} {p:Nat} {b:Code} {bid:Nat} {hl xl:List Nat} (h1:gR c.K hl=true) (h2:gR c.K xl=true)
  (ih:∀(F:Nat→Prop) (O:Nat→Option (Nat × Nat)) (a:Act) (w:World) (δ:List D),Inv c B X w0 F0 F O a w δ→IoV c V a→∀(k:Out→Option Out) (r:Out),nA c J p bid b δ k=some r→∀Q,(∀e a w,xI c B X w0 F0 V k r e a w→Q e a w)→b.wp P Q a w)
  {k:Out→Option Out} {r:Out} {Q:Exit→Act→World→Prop} (hQ:∀e a w,xI c B X w0 F0 V k r e a w→Q e a w) {o:Out}
  (ho:outK o (fun i s=>eC (fQ c.K) xl s fun δ=>k (.ext i δ)) (fun x y=>k (.ret x y))=some r):∀(n:Nat) (F:Nat→Prop) (O:Nat→Option (Nat × Nat)) (a:Act) (w:World) (δ:List D),Inv c B X w0 F0 F O a w δ→IoV c V a →
  iter (fun s=>eC (fQ c.K) hl s fun δ=>nA c J p bid b δ (aY hl xl)) n (af δ hl)=some o→Code.rounds P b Q n a w
 | 0,_,_,_,_,_,_,_,h=>by cases h
 | n+1,F,O,a,w,δ,hI,hV,h=>by
  simp only [iter,gp] at h;rw [rounds_succ];have hI':=hI.carry h1;cases hb:nA c J p bid b (carry (fQ c.K) hl δ) (aY hl xl) with
  | none=>rw [hb] at h;cases h
  | some ob =>
   rw [hb] at h;refine ih F O a w _ hI' hV _ ob hb _ (fun e a' w' hp=>?_)
   cases ob with
   | nrm s' =>
    simp only at h;cases e with
    | normal =>
     obtain⟨⟨F',O',δ',g1,g2⟩,g3⟩:=hp;simp only [aY,aU,Iz,Out.nrm.injEq] at g2;rw [←g2] at h;exact rL h1 h2 ih hQ ho n F' O' a' w' δ' g1 g3 h
    | exit i =>
     obtain⟨⟨F',O',δ',g1,g2⟩,g3⟩:=hp;simp [aY,aU] at g2
    | ret =>
     obtain⟨⟨F',O',δ',g1,g2⟩,g3⟩:=hp;obtain⟨rs,_,_,g4⟩:=dY g2;simp [aY] at g4
    | _=>exact hp.elim
   | ext i l =>
    simp only [Iz] at h;subst h;cases e with
    | normal =>
     obtain⟨⟨F',O',δ',g1,g2⟩,g3⟩:=hp;simp [aY,aU] at g2
    | exit j =>
     obtain⟨⟨F',O',δ',g1,g2⟩,g3⟩:=hp;simp only [aY,aU,Iz,Out.ext.injEq] at g2;obtain⟨rfl,rfl⟩:=g2;simp only [outK,gp] at ho;exact hQ (.exit j) _ _ ⟨⟨F',O',_,g1.carry h2,ho⟩,g3⟩
    | ret =>
     obtain⟨⟨F',O',δ',g1,g2⟩,g3⟩:=hp;obtain⟨rs,_,_,g4⟩:=dY g2;simp [aY] at g4
    | _=>exact hp.elim
   | ret x y =>
    simp only [Iz] at h;subst h;cases e with
    | normal =>
     obtain⟨⟨F',O',δ',g1,g2⟩,g3⟩:=hp;simp [aY,aU] at g2
    | exit j =>
     obtain⟨⟨F',O',δ',g1,g2⟩,g3⟩:=hp;simp [aY,aU] at g2
    | ret =>
     obtain⟨⟨F',O',δ',g1,g2⟩,g3⟩:=hp;obtain⟨rs,g5,g6,g4⟩:=dY g2;simp only [aY,Iz,Out.ret.injEq] at g4;obtain⟨rfl,rfl⟩:=g4;exact hQ .ret _ _ ⟨⟨F',O',δ',g1,pi g5 g6 ho⟩,g3⟩
    | _=>exact hp.elim
theorem eG (hT:okT P c.T=true) (hS:∀f S,bR c.S f=some S→ay c.G P f S) (hm:P.follows .mixedOrders=true) {V:Nat→Value} {J:List (Nat × List Nat)} (hJ:okJ c J=true):∀(b:Code) (p bid:Nat),cg c bid b=true→∀(F:Nat→Prop) (O:Nat→Option (Nat × Nat)) (a:Act) (w:World) (δ:List D),
  Inv c B X w0 F0 F O a w δ→IoV c V a→∀(k:Out→Option Out) (r:Out),nA c J p bid b δ k=some r→∀Q,(∀e a w,xI c B X w0 F0 V k r e a w→Q e a w)→b.wp P Q a w
 | .skip,p,bid,_,F,O,a,w,δ,hI,hV,k,r,hg,Q,hQ=>wp_skip (hQ _ _ _ ⟨⟨F,O,δ,hI,hg⟩,hV⟩)
 | .region id ops d,p,bid,hok,F,O,a,w,δ,hI,hV,k,r,hg,Q,hQ=>by
  simp only [cg,Ix,IP] at hok;have hq:∀a w,fg c B X w0 F0 V (fun δ=>k (.nrm δ)) r a w→Q .normal a w:=fun a w h=>hQ _ _ _ h
  cases d
  ·exact wp_region_list (qf hT hS hq ops.toList hok.1 F O a w δ hI hV hg)
  ·exact wV hT hS (by simpa using hok.2) hm hq hok.1 hI hV hg id
 | .seq x y,p,bid,hok,F,O,a,w,δ,hI,hV,k,r,hg,Q,hQ=>by
  simp only [cg,Ix] at hok;simp only [nA] at hg;cases hH:bR J p with
  | none =>
   rw [hH] at hg;refine wp_seq (eG hT hS hm hJ x _ bid hok.1 F O a w δ hI hV _ r hg _ (fun e a' w' hp=>?_))
   cases e with
   | normal =>
    obtain⟨⟨F',O',δ',hI',hk'⟩,hV'⟩:=hp;exact eG hT hS hm hJ y _ bid hok.2 F' O' a' w' δ' hI' hV' k r hk' Q hQ
   | exit id=>exact hQ _ _ _ hp
   | ret=>exact hQ _ _ _ hp
   | _=>exact hp.elim
  | some hl =>
   rw [hH] at hg;simp only [uT] at hg;have hlive:=Dk hJ hH;refine wp_seq (eG hT hS hm hJ x _ bid hok.1 F O a w δ hI hV _ r hg _ (fun e a' w' hp=>?_))
   cases e with
   | normal =>
    obtain⟨⟨F',O',δ',hI',hk'⟩,hV'⟩:=hp;simp only [DX,aU,gp] at hk';exact eG hT hS hm hJ y _ bid hok.2 F' O' a' w' _ (hI'.carry hlive) hV' k r hk' Q hQ
   | exit id=>exact hQ _ _ _ hp
   | ret=>exact hQ _ _ _ hp
   | _=>exact hp.elim
 | .cond x t e,p,bid,hok,F,O,a,w,δ,hI,hV,k,r,hg,Q,hQ=>by
  simp only [cg,Ix] at hok;obtain⟨⟨hlv,hok1⟩,hok2⟩:=hok;have hop:=hI.opd (aT.1 hlv);have key:ifD (opD δ x) (nA c J (Jk 2 p) bid t δ k) (nA c J (JM (Jk 2 p) 1) bid e δ k)=some r:=by
   simp only [nA] at hg;cases x with
   | tmp s=>simpa only [opC,cM,opD] using hg
   | const v=>simpa only [opC,opD] using hg
   | func f=>simpa only [opC,opD] using hg
   | global g=>simp [opC] at hg
  unfold ifD at key;split at key
  ·rename_i hd
   rw [hd] at hop;exact wp_cond_true (aK hop).1 (eG hT hS hm hJ t _ bid hok1 F O a w δ hI hV k r key Q hQ)
  ·rename_i hd
   rw [hd] at hop;exact wp_cond_false (aK hop).1 (eG hT hS hm hJ e _ bid hok2 F O a w δ hI hV k r key Q hQ)
  ·cases key
 | .block id b,p,bid,hok,F,O,a,w,δ,hI,hV,k,r,hg,Q,hQ=>by
  simp only [cg] at hok;refine wp_block (eG hT hS hm hJ b _ id hok F O a w δ hI hV _ r hg _ (fun e a' w' hp=>?_))
  cases e with
  | normal=>exact hQ .normal _ _ hp
  | exit i =>
   simp only [Exit.inBlock];have hp':fg c B X w0 F0 V (fun δ=>tA id (.ext i δ) k) r a' w':=hp;split
   ·rename_i hi
    refine hQ .normal _ _ (ex hp' fun δ F O _ h=>?_)
    simp only [tA] at h;rw [az.2 (by simpa using hi)] at h;exact h
   ·rename_i hi
    refine hQ (.exit i) _ _ (ex hp' fun δ F O _ h=>?_)
    simp only [tA] at h;cases hb:IV i id
    ·rw [hb] at h;exact h
    ·exact absurd (by simpa using az.1 hb) hi
  | ret=>exact hQ .ret _ _ hp
  | _=>exact hp.elim
 | .loop b,p,bid,hok,F,O,a,w,δ,hI,hV,k,r,hg,Q,hQ=>by
  simp only [cg,Ix] at hok;obtain⟨hok1,hok2⟩:=hok;simp only [nA] at hg;cases hH:bR c.H bid with
  | none=>rw [hH] at hg;cases hg
  | some hx =>
   obtain⟨hl,xl⟩:=hx;rw [hH] at hg hok2;simp only [Ix] at hok2;simp only [aU] at hg;obtain⟨o',h1,h2⟩:=IF.1 hg;unfold aI at h1;split at h1
   case isFalse=>cases h1
   rename_i hex;refine wp_loop_rounds (Ja hex) ?_
   refine rL (hl:=hl) (xl:=xl) hok2.1 hok2.2 (fun F O a w δ hI hV k r hg Q hQ=>eG hT hS hm hJ b _ bid hok1 F O a w δ hI hV k r hg Q hQ) hQ h2 _ F O a w δ hI hV h1
 | .exit id,p,bid,_,F,O,a,w,δ,hI,hV,k,r,hg,Q,hQ=>wp_exit (hQ _ _ _ ⟨⟨F,O,δ,hI,hg⟩,hV⟩)
 | .ret,p,bid,_,F,O,a,w,δ,hI,hV,k,r,hg,Q,hQ=>wp_ret (hQ _ _ _ ⟨⟨F,O,δ,hI,hg⟩,hV⟩)
 | .label _,_,_,hok,_,_,_,_,_,_,_,_,_,_,_,_=>by simp [cg] at hok
 | .goto _,_,_,hok,_,_,_,_,_,_,_,_,_,_,_,_=>by simp [cg] at hok
 | .scope _,_,_,hok,_,_,_,_,_,_,_,_,_,_,_,_=>by simp [cg] at hok
theorem Cr (hT:okT P c.T=true) (hS:∀f S,bR c.S f=some S→ay c.G P f S) (hm:P.follows .mixedOrders=true) {J:List (Nat × List Nat)} (hJ:okJ c J=true) {f:FuncId} {fn:Func} (hf:P.funcs[f]?=some fn) {pm rm:List Kd} (hok:Bk c fn pm rm=true) (hres:c.res=fn.results.toList)
  {ds rs us:List D} (hd:sW c J fn ds=some (.ret rs us)) {args:Array Value} {w:World} {F:Nat→Prop} {ow:Nat→Option Nat} (hgl:gOk c.G w F) (ha:dN w F ow 0 pm ds args.toList) (hF:∀b,F b→b<w.heap.size∧ow b=none) (hO:∀b i,ow b=some i→b<w.heap.size) :
  Calls P f args w fun e w'=>∃v,e = .returned v∧∃F' R vs,v=gP vs∧CallPost {pm:=pm,rm:=rm,f:=sW c J fn} args rs us w F ow F' R vs w':=by
 unfold Bk at hok;simp only [Ix,decide_eq_true_eq] at hok;obtain⟨⟨⟨⟨⟨hcode,hlenK⟩,hpre⟩,hpm⟩,hokr⟩,hios⟩:=hok;rw [az,iY] at hlenK;obtain⟨hpl,hpn⟩:=oS hpre;obtain⟨hdl,hal,hargs⟩:=oR pm ds args.toList 0 ha;have hasz:args.size=pm.length:=by simpa using hal
 unfold sW at hd;cases hb:fn.body with
 | none=>rw [hb] at hd;cases hd
 | some b =>
  rw [hb] at hd hcode;simp only at hd hcode;refine calls_of_wp hf hb ?_
  have hav:∀s,s<pm.length→av ({tmps:=args++ID (fn.ntmps - args.size) undef,defers:=[]}:Act) s=args.toList.getD s undef:=fun s hs=>by
   have h1:s<args.size:=by omega
   simp only [av,Iy,IH,Jo];rw [Jb h1]
  have hinit:Inv c w.heap.size (fun b=>ow b≠none) w F F (fun b=>(ow b).map fun i=>(i,0)) {tmps:=args++ID (fn.ntmps - args.size) undef,defers:=[]} w (mq fn.ntmps ds):=by
   refine⟨by simp;omega,by rw [mz,hlenK],rfl,fun s=>?_,fun b hb=>⟨(hF b hb).1,by simp [(hF b hb).2]⟩,fun b p hp=>?_,fun _ h=>h,fun _ h=>.inl h,Jl _,rfl,rfl,rfl,fun _ _ _=>rfl,hgl⟩
   ·unfold qu
    rw [mc _ _ _ (by rw [hdl];omega)];by_cases hs:s<pm.length
    ·rw [hpn s hs,hav s hs]
     rcases hargs s hs with hbad | harg
     ·exact .inl hbad
     refine .inr ?_
     have hlv:∀lv,lv≠1→∀b,FB F 0 lv b→FB F w.heap.size lv b:=fun lv h1 b hb=>by
      match lv,h1 with
      | 0,_=>exact hb
      | _+2,_=>exact hb
     rcases mN hpm s hs with ⟨lv,hk,h1⟩ | ⟨z,lv,hk,h1⟩ | ⟨n,lv,hk,h1⟩
     ·rw [hk] at harg ⊢
      exact .inr (aO (hlv lv h1) (fun _ _=>rfl) harg)
     ·rw [hk] at harg ⊢
      exact .inr (cm (hlv lv h1) (fun _ _=>rfl) (fun g _ hg=>⟨⟨by simp only [II] at hg;simp [hg],fun h=>by cases h⟩,rfl⟩) harg)
     ·rw [hk] at harg ⊢
      exact .inr (gk (hlv lv h1) (fun _ _=>rfl) (fun g _ hg=>⟨⟨by simp only [II] at hg;simp [hg],fun h=>by cases h⟩,rfl⟩) harg)
    ·refine .inl ?_
     rw [dA,IH,Jp (by omega)];rfl
   ·obtain⟨i,hi,rfl⟩:=Jm.1 hp
    exact⟨hO b i hi,.inr (by rw [hi];simp)⟩
  refine eG hT hS hm hJ b 1 0 hcode F _ _ w _ hinit (V:=av {tmps:=args++ID (fn.ntmps - args.size) undef,defers:=[]}) (fun _ _=>rfl) _ _ hd _ (fun e a' w' hp=>?_)
  have fin:fg c w.heap.size (fun b=>ow b≠none) w F (av {tmps:=args++ID (fn.ntmps - args.size) undef,defers:=[]}) (fun δ=>yG c δ some) (.ret rs us) a' w'→a'.defers=[]∧∃v,(results fn a'.tmps).run P w' = .ok v w'∧∃v',Jz v = .returned v'∧∃F' R vs,v'=gP vs∧CallPost {pm:=pm,rm:=rm,f:=sW c J fn} args rs us w F ow F' R vs w':=by
   rintro⟨⟨F',O',δ',hI',hk⟩,hV'⟩;obtain⟨rs',h1,h2,h3⟩:=dY hk;simp only [Iz,Out.ret.injEq] at h3;obtain⟨rfl,rfl⟩:=h3;obtain⟨vs,g1,g2,g3,g4⟩:=pj (P:=P) hT hI' c.res rm rs' hokr h1;refine⟨hI'.df,gP vs,?_,_,rfl,F',fun b=>if w.heap.size≤b then(match O' b with
    | some (t,0)=>pW c.res t 0
    | _=>none) else none,vs,rfl,?_⟩
   ·have hrun:(fn.results.mapM (lg a'.tmps)).run P w' = .ok vs.toArray w':=by
     rw [Je,←hres];simp [g1]
    have hrw:results fn a'.tmps=(do
      let vs ←fn.results.mapM (lg a'.tmps)
      pure (if h:vs.size=1 then vs[0] else .tuple vs)):=by
     unfold results;congr 1
    rw [hrw];simp only [JF,hrun,Jx,JG];congr 1
    rcases vs with _ | ⟨y,_ | ⟨y',vs⟩⟩
    ·simp [gP]
    ·simp [gP]
    ·simp [gP]
   ·refine⟨hI'.os,hI'.tape,hI'.output,hI'.bb,fun b hb ho=>hI'.keep b hb (by simp [ho]),hI'.f0,fun b hb=>⟨hI'.fn b hb,(hI'.fl b hb).1,by simp only [(hI'.fl b hb).2];split<;>rfl⟩,fun b j hj=>?_,g2,g3,fun j=>?_,?_⟩
    ·split at hj
     case isFalse=>cases hj
     rename_i hB;refine⟨hB,?_⟩
     split at hj
     ·rename_i t he;exact(hI'.ol b _ he).1
     ·cases hj
    ·refine iQ (fun hk g hg=>?_) (g4 j)
     obtain⟨z,lv,hk⟩:=hk;obtain⟨e1,t,e2,e3⟩:=hg;rw [if_pos e1];simp only [e3];have:=(ke c.res rm hokr j t 0 z lv hk e2).1;simpa using this
    ·rw [hios]
     refine tJ pm args.toList 0 hal (fun j hj hio=>?_)
     rw [II];have hkj:=hpn j hj;have hbj:nth δ' j ≠ .bad:=by
      refine h2 _ ?_
      rw [hios,kB];exact Js (by simpa using pq pm 0 j hj hio)
     have havj:av a' j=args.toList.getD j undef:=(hV' j (by rw [hkj];exact hio)).trans (hav j hj);have hlv:∀lv,lv≠1→∀b,FB F' w.heap.size lv b→FB F' 0 lv b:=fun lv h1 b hb=>by
      match lv,h1 with
      | 0,_=>exact hb
      | _+2,_=>exact hb
     refine⟨hbj,.inr ?_⟩
     rcases mN hpm j hj with ⟨lv,hk,h1⟩ | ⟨z,lv,hk,h1⟩ | ⟨n,lv,hk,h1⟩
     ·rw [hk] at hio;cases hio
     ·have h5:=hI'.own (hkj.trans hk) hbj
      rw [havj] at h5;rw [hk];exact cm (hlv lv h1) (fun _ _=>rfl) (fun _ _ _=>⟨trivial,rfl⟩) h5
     ·have h5:=hI'.box (hkj.trans hk) hbj
      rw [havj] at h5;rw [hk];exact gk (hlv lv h1) (fun _ _=>rfl) (fun _ _ _=>⟨trivial,rfl⟩) h5
  cases e with
  | normal=>exact fin hp
  | exit i =>
   obtain⟨⟨_,_,_,_,h⟩,_⟩:=hp;cases h
  | ret =>
   refine fin (ex hp fun δ F O _ h=>?_)
   obtain⟨rs',h1,h2,h3⟩:=dY h;exact pi h1 h2 h3
  | _=>exact hp.elim
theorem CP (hT:okT P c.T=true) (hS:∀f S,bR c.S f=some S→ay c.G P f S) (hm:P.follows .mixedOrders=true) {J:List (Nat × List Nat)} (hJ:okJ c J=true) {f:FuncId} {fn:Func} (hf:P.funcs[f]?=some fn) (hname:(fn.name== "runtime.NumGoroutine")=false) {pm rm:List Kd} (hok:Bk c fn pm rm=true) (hres:c.res=fn.results.toList) :
  ay c.G P f {pm:=pm,rm:=rm,f:=sW c J fn}:=by
 intro ds rs us hd args w F ow hgl ha hF hO o a next Q hn
 have hbody:∃b,fn.body=some b:=by
  have hd':sW c J fn ds=some (.ret rs us):=hd;unfold sW at hd';cases hb:fn.body with
  | none=>rw [hb] at hd';cases hd'
  | some b=>exact⟨b,rfl⟩
 obtain⟨b,hb⟩:=hbody;have hrun:(callFunc f args).run P w = .ok (.enter f args) w:=by
  have h1:¬fn.name= "runtime.NumGoroutine":=by simpa using hname
  simp [callFunc,hf,h1,hb]
 rw [hrun,Jf];refine Jj (Cr hT hS hm hJ hf hok hres hd hgl ha hF hO) (fun e w' he=>?_)
 obtain⟨v,rfl,F',R,vs,h1,h2⟩:=he;exact hn v w' ⟨F',R,vs,h1,h2⟩
end
theorem ud {f:(List D→Option Out)→Option Out} {k:List D→Option Out} {r:Option Out} (p:List D→Prop) (hk:∀s,p s→k s=r) (hf:∀j:List D→Option Out,(∀s,p s→j s=r)→f j=r):uT f k=r:=hf k hk
end Go.V

namespace Go.V
open Go.RowKit
set_option maxRecDepth 100000
@[reducible] def ia:List Oper→List Oper
 | []=>[]
 | [_]=>[]
 | a::b::l=>a::ia (b::l)
@[reducible] def wL:List Oper→List Oper
 | []=>[]
 | [a]=>[a]
 | _::b::l=>wL (b::l)
theorem wy:∀(l:List Oper),l≠[]→∃o,wL l=[o]∧l=ia l++[o]
 | [],h=>absurd rfl h
 | [a],_=>⟨a,rfl,rfl⟩
 | a::b::l,_=>by
  obtain⟨o,h1,h2⟩:=wy (b::l) (by simp);exact⟨o,h1,by simp only [ia,JI];rw [←h2]⟩
def xB (ops:List Oper):Bool :=
 match wL ops with
 | [o]=>(match o.guard with
  | none=>true
  | some _=>false)&&((List.range (ia ops).length).all fun i=>o.after.toList.any fun e=>e.on==i&&IZ .any e)&&(o.after.toList.all fun e=>decide (e.on<(ia ops).length)) &&
  (ia ops).zipIdx.all fun p=>(p.1.after.toList.all fun e=>!IZ .any e||decide (e.on<p.2))&&(match p.1.guard with
   | none=>true
   | some (j,_)=>decide (j<(ia ops).length))
 | _=>false
theorem xS {P:Program} {o:Oper} {a:Act} {w:World} {K K':Act→World→Prop} {Q Q':Exit→Act→World→Prop} (hK:∀a w,K a w→K' a w) (hQ:∀e a w,e ≠ .normal→Q e a w→Q' e a w) (h:o.wp P a w K Q):o.wp P a w K' Q':=by
 unfold Oper.wp at *;generalize (execOp a.eval o).run P w=r at *;cases r with
 | ok n w' =>
  cases n<;>simp only [Oper.upon] at h ⊢<;>first
   | exact hK _ _ h
   | exact Jj h (fun e w'' he=>by
     cases e<;>first
      | exact hK _ _ he
      | exact hQ _ _ _ (by simp) he
      | (obtain⟨x,y,hx⟩:=he;exact⟨x,y,hQ _ _ _ (by simp) hx⟩))
   | exact Rows.mono h (fun _ _ he=>hK _ _ he)
 | halt x w'=>cases x<;>simp only [Oper.upon] at h ⊢<;>first
   | exact hQ _ _ _ (by simp) h
   | exact h
theorem Bg {init:Array Oper} {o:Oper} {t:Array Value} {j:Nat} (h:j<init.size):yielded (init.push o) t j=yielded init t j:=by
 unfold yielded;rw [IK h,IA h]
theorem gC {l:Array Bool} {i:Nat} {d:Bool} (h:i<l.size):(l.push false).getD i d=l.getD i d:=by
 simp [Iy,IK h,h]
theorem Ff {l:Array Bool} {i:Nat} (h:i<l.size):(l.push false).setIfInBounds i true=(l.setIfInBounds i true).push false:=by
 apply Array.ext_getElem?;intro j;simp only [Ju,Array.getElem?_push,Jg,Array.size_setIfInBounds];by_cases hj:i=j
 ·subst hj
  simp [h,Nat.lt_succ_of_lt h,Nat.ne_of_lt h]
 ·simp [hj]
section
variable {P:Program} {init:Array Oper} {o:Oper} {Q:Exit→Act→World→Prop} {Wl:Act→World→Prop}
theorem vq (hac:∀(i:Nat) (q:Oper),init[i]?=some q→∀e∈q.after,IZ .any e=true→e.on<i) {listed:Array Bool} (hsz:listed.size=init.size) (hr:IB .any init listed=[]):∀i,i<init.size→listed.getD i false=true:=by
 intro i;induction i using Nat.strongRecOn with
 | _ i ih =>
  intro hi;have hb:i<listed.size:=by omega
  cases hl:listed.getD i false with
  | true=>rfl
  | false =>
   exfalso;have hl':listed.getD i true=false:=by
    rw [Iy,IA hb] at hl ⊢;exact hl
   have ho:init[i]?=some init[i]:=IA hi;have hmem:i∈IB .any init listed:=by
    unfold IB;rw [IX];refine⟨IQ.2 hi,?_⟩
    rw [hl',ho];simp only [Jt,Bool.true_and,IM,IJ,IG,IL];intro e he;cases hb:IZ .any e
    ·exact .inl rfl
    right
    have h1:=hac i _ ho e he hb;exact ih e.on h1 (by omega)
   rw [hr] at hmem;cases hmem
theorem AX (hg:∀e∈o.after,e.on<init.size) {listed:Array Bool} (hsz:listed.size=init.size) (hall:∀i,i<init.size→listed.getD i false=true):∀i,i∈IB .any (init.push o) (listed.push false)↔i=init.size:=by
 intro i;unfold IB;rw [IX,IQ,Jg];constructor
 ·rintro⟨h1,h2⟩
  by_cases hi:i<init.size
  ·exfalso
   rw [gC (by omega)] at h2;have h3:=hall i hi;rw [Iy,IA (by omega)] at h2 h3;simp only [IJ] at h2 h3;rw [h3] at h2;simp at h2
  ·omega
 ·rintro rfl
  refine⟨by omega,?_⟩
  have e1:(listed.push false).getD init.size true=false:=by
   rw [←hsz,Iy];simp
  rw [e1,Ji];simp only [Jt,Bool.true_and,IM,IJ,IG,IL];intro e he
  right
  rw [gC (by have:=hg e he;omega)];exact hall _ (hg e he)
theorem Bn (hl:∀i,i<init.size→∃e∈o.after,e.on=i∧IZ .any e=true) (hg:∀e∈o.after,e.on<init.size) (hac:∀(i:Nat) (q:Oper),init[i]?=some q→∀e∈q.after,IZ .any e=true→e.on<i)
  (hgd:∀(i:Nat) (q:Oper),init[i]?=some q→∀j p,q.guard=some (j,p)→j<init.size) (hng:o.guard=none) (hW:∀a w,Wl a w→o.wp P a w (fun a w=>Q .normal a w) Q) :
  ∀(fuel:Nat) (listed:Array Bool) (a:Act) (w:World),listed.size=init.size→wpAny P .any init (fun e a w=>e = .normal∧Wl a w) fuel listed a w→wpAny P .any (init.push o) Q (fuel+1) (listed.push false) a w:=by
 have full:∀(fuel:Nat) (listed:Array Bool) (a:Act) (w:World),listed.size=init.size→(∀i,i<init.size→listed.getD i false=true)→Wl a w→wpAny P .any (init.push o) Q (fuel+1) (listed.push false) a w:=by
  intro fuel listed a w hsz hall hw;have hr:=AX (o:=o) hg hsz hall;refine⟨fun h=>?_,fun i hi=>?_⟩
  ·have:=(hr init.size).2 rfl
   rw [h] at this;cases this
  ·have e:=(hr i).1 hi
   subst e;have hdone:∀a w,Q .normal a w→wpAny P .any (init.push o) Q fuel ((listed.push false).setIfInBounds init.size true) a w:=by
    intro a w hq;have hn:IB .any (init.push o) ((listed.push false).setIfInBounds init.size true)=[]:=by
     unfold IB;rw [List.filter_eq_nil_iff];intro i hi;rw [IQ,Jg] at hi;have:((listed.push false).setIfInBounds init.size true).getD i true=true:=by
      rw [Iy,Ju];by_cases hi2:init.size=i
      ·subst hi2
       simp [hsz]
      ·rw [if_neg hi2,IK (by omega),IJ]
       have h3:=hall i (by omega);rw [Iy,IA (by omega)] at h3;simpa using h3
     rw [this];simp
    cases fuel with
    | zero=>exact⟨hn,hq⟩
    | succ n=>exact⟨fun _=>hq,fun i hi=>by rw [hn] at hi;cases hi⟩
   unfold wpOp;rw [Ji];have hw1:IW o (yielded (init.push o) a.tmps)=true:=by
    unfold IW;rw [hng]
   simp only [hw1,if_true];exact .inl (xS hdone (fun _ _ _ _ h=>h) (hW a w hw))
 intro fuel;induction fuel with
 | zero =>
  intro listed a w hsz h;exact full 0 listed a w hsz (vq hac hsz h.1) h.2.2
 | succ fuel ih =>
  intro listed a w hsz h;by_cases hr:IB .any init listed=[]
  ·exact full _ listed a w hsz (vq hac hsz hr) (h.1 hr).2
  ·have hex:∃m,m<init.size∧listed.getD m false=false:=by
    cases hc:IB .any init listed with
    | nil=>exact absurd hc hr
    | cons m l =>
     have hm:m∈IB .any init listed:=by rw [hc];simp
     unfold IB at hm;rw [IX,IQ] at hm;obtain⟨h1,h2⟩:=hm;simp only [Ix,IY] at h2;refine⟨m,h1,?_⟩
     have h3:=h2.1;rw [Iy,IA (by omega)] at h3 ⊢;exact h3
   obtain⟨m,hm1,hm2⟩:=hex;have hsub:∀i,i∈IB .any (init.push o) (listed.push false)→i<init.size∧i∈IB .any init listed:=by
    intro i hi;unfold IB at hi;rw [IX,IQ,Jg] at hi;obtain⟨h1,h2⟩:=hi;by_cases hi2:i<init.size
    ·refine⟨hi2,?_⟩
     unfold IB;rw [IX,IQ];refine⟨hi2,?_⟩
     rw [gC (by omega),IK hi2,IM,IJ] at h2;rw [IA hi2,IM,IJ];simp only [Ix,IG,IL] at h2 ⊢;refine⟨h2.1,fun e he=>?_⟩
     rcases h2.2 e he with h3 | h3
     ·exact .inl h3
     ·right
      cases hb:IZ .any e
      ·by_cases he2:e.on<listed.size
       ·rw [gC he2] at h3
        exact h3
       ·exfalso
        rw [Iy] at h3;rw [Array.getElem?_push] at h3;split at h3
        ·simp at h3
        ·rw [Jn (by omega)] at h3
         simp at h3
      ·have:=hac i _ (IA hi2) e he hb
       rw [gC (by omega)] at h3;exact h3
    ·exfalso
     have e:i=init.size:=by omega
     subst e;rw [Ji] at h2;simp only [IM,IJ,Ix,IG,IL,IY] at h2;obtain⟨e,he,h3,h4⟩:=hl m hm1;rcases h2.2 e he with h5 | h5
     ·rw [h4] at h5;cases h5
     ·rw [h3,gC (by omega),hm2] at h5
      cases h5
   refine⟨fun hn=>?_,fun i hi=>?_⟩
   ·exfalso
    cases hc:IB .any init listed with
    | nil=>exact hr hc
    | cons q l =>
     have hq:q∈IB .any init listed:=by rw [hc];simp
     have:q∈IB .any (init.push o) (listed.push false):=by
      unfold IB at hq ⊢;rw [IX,IQ] at hq ⊢;obtain⟨h1,h2⟩:=hq;rw [Jg];refine⟨by omega,?_⟩
      rw [IA h1,IM,IJ] at h2;rw [gC (by omega),IK h1,IM,IJ];simp only [Ix,IG,IL] at h2 ⊢;refine⟨h2.1,fun e he=>?_⟩
      rcases h2.2 e he with h3 | h3
      ·exact .inl h3
      ·right
       have he2:e.on<listed.size:=by
        rcases JH e.on listed.size with h | h
        ·exact h
        ·rw [Iy,Jn h] at h3
         simp at h3
       rw [gC he2];exact h3
     rw [hn] at this;cases this
   ·obtain⟨hi1,hi2⟩:=hsub i hi
    have h3:=h.2 i hi2;unfold wpOp at h3 ⊢;rw [IK hi1];rw [IA hi1] at h3;simp only at h3 ⊢;have hy:IW init[i] (yielded (init.push o) a.tmps)=IW init[i] (yielded init a.tmps):=by
     unfold IW;cases hgq:init[i].guard with
     | none=>rfl
     | some jp =>
      obtain⟨j,p⟩:=jp;simp only;rw [Bg (hgd i _ (IA hi1) j p hgq)]
    rw [hy,Ff (by omega)];have hK:∀a w,wpAny P .any init (fun e a w=>e = .normal∧Wl a w) fuel (listed.setIfInBounds i true) a w→wpAny P .any (init.push o) Q (fuel+1) ((listed.setIfInBounds i true).push false) a w:=fun a w hh=>ih _ a w (by simpa using hsz) hh
    split
    ·rename_i hw
     rw [if_pos hw] at h3;rcases h3 with h3 | ⟨_,x,y,hx,_⟩
     ·exact .inl (xS hK (fun e a w hne hq=>absurd hq.1 hne) h3)
     ·cases hx
    ·rename_i hw
     rw [if_neg hw] at h3;exact hK _ _ h3
end
end Go.V

namespace Go.V
open Go.RowKit
set_option maxRecDepth 100000
@[reducible] def AC:List Nat→Option (List Nat)
 | []=>none
 | m::l=>match IV m 1000000 with
  | true=>some l
  | false=>none
@[reducible] def pG (c:Cx) (Z:List (Nat × List Nat)):Nat→Code→List D→(Out→Option Out)→Option Out
  | _,.skip,δ,k=>k (.nrm δ)
  | _,.region id ops _,δ,k=>match bR Z id with
    | some fz=>match AC fz with
     | some fz=>CR c.K δ (aB c.K fz) fun l=>bW δ (aB c.K fz) l fun δ'=>eV (rcx c fz) (ia ops.toList) (ia ops.toList) δ' fun δ2=>bW δ2 fz [] fun δ3=>bW δ3 (aB c.K fz) [] fun δ4=>eV c ops.toList (wL ops.toList) δ4 fun δ5=>k (.nrm δ5)
     | none=>CR c.K δ (aB c.K fz) fun l=>bW δ (aB c.K fz) l fun δ'=>eV (rcx c fz) ops.toList ops.toList δ' fun δ2=>bW δ2 fz [] fun δ3=>bW δ3 (aB c.K fz) [] fun δ4=>k (.nrm δ4)
    | none=>eV c ops.toList ops.toList δ fun δ'=>k (.nrm δ')
  | bid,.seq a b,δ,k=>pG c Z bid a δ fun o=>DX o (fun δ'=>pG c Z bid b δ' k) k
  | bid,.cond x t e,δ,k=>opC δ x fun q=>ifD q (pG c Z bid t δ k) (pG c Z bid e δ k)
  | _,.block id b,δ,k=>pG c Z id b δ fun o=>tA id o k
  | bid,.loop b,δ,k=>match bR c.H bid with
    | none=>none
    | some (hl,xl) =>
      lM δ hl fun s=>(aI (fun s=>eC (fQ c.K) hl s fun δ=>pG c Z bid b δ (aY hl xl)) s).bind fun o =>
        outK o (fun i s=>eC (fQ c.K) xl s fun δ=>k (.ext i δ)) (fun a b=>k (.ret a b))
  | _,.exit id,δ,k=>k (.ext id δ)
  | _,.ret,δ,k=>ki c δ c.res fun rs=>lM δ c.ios fun us=>usK us (k (.ret rs us))
  | _,_,_,_=>none
@[reducible] def sU (c:Cx) (Z:List (Nat × List Nat)) (fn:Func) (ds:List D):Option Out :=
 match fn.body with
 | none=>none
 | some b=>pG c Z 0 b (mq fn.ntmps ds) fun o=>match o with
  | .nrm δ=>ki c δ c.res fun rs=>lM δ c.ios fun us=>usK us (some (.ret rs us))
  | .ext _ _=>none
  | .ret rs us=>some (.ret rs us)
def dZ (c:Cx) (Z:List (Nat × List Nat)):Nat→Code→Bool
 | _,.skip=>true
 | bid,.region id ops d=>match bR Z id with
  | some fz=>match AC fz with
   | some fz=>DH c fz&&(d&&xB ops.toList&&cg (rcx c fz) bid (.region id (ia ops.toList).toArray d)&&(wL ops.toList).all (Bc c ops.toList))
   | none=>DH c fz&&cg (rcx c fz) bid (.region id ops d)
  | none=>cg c bid (.region id ops d)
 | b,.seq x y=>dZ c Z b x&&dZ c Z b y
 | b,.cond x t e=>JL (cI c.K x) 2&&dZ c Z b t&&dZ c Z b e
 | _,.block id x=>dZ c Z id x
 | b,.loop x=>dZ c Z b x&&(match bR c.H b with
  | some (hl,xl)=>gR c.K hl&&gR c.K xl
  | none=>false)
 | _,.exit _=>true
 | _,.ret=>true
 | _,_=>false
def DD (c:Cx) (Z:List (Nat × List Nat)) (fn:Func) (pm rm:List Kd):Bool :=
 (match fn.body with
  | some b=>dZ c Z 0 b
  | none=>false)&&IV (fQ c.K) fn.ntmps&&wH pm c.K&&gQ pm&&bp c c.res rm&&decide (c.ios=nI 0 pm)
section
variable {P:Program} {c:Cx} {B:Nat} {X:Nat→Prop} {w0:World} {F0 F:Nat→Prop} {O:Nat→Option (Nat × Nat)} {a:Act} {w:World} {δ:List D} {fz:List Nat}
theorem rl {V:Nat→Value} {b:Code} {bid:Nat} {Z:List (Nat × List Nat)} {hl xl:List Nat} (h1:gR c.K hl=true) (h2:gR c.K xl=true)
  (ih:∀(F:Nat→Prop) (O:Nat→Option (Nat × Nat)) (a:Act) (w:World) (δ:List D),Inv c B X w0 F0 F O a w δ→IoV c V a→∀(k:Out→Option Out) (r:Out),pG c Z bid b δ k=some r→∀Q,(∀e a w,xI c B X w0 F0 V k r e a w→Q e a w)→b.wp P Q a w)
  {k:Out→Option Out} {r:Out} {Q:Exit→Act→World→Prop} (hQ:∀e a w,xI c B X w0 F0 V k r e a w→Q e a w) {o:Out}
  (ho:outK o (fun i s=>eC (fQ c.K) xl s fun δ=>k (.ext i δ)) (fun x y=>k (.ret x y))=some r):∀(n:Nat) (F:Nat→Prop) (O:Nat→Option (Nat × Nat)) (a:Act) (w:World) (δ:List D),Inv c B X w0 F0 F O a w δ→IoV c V a →
  iter (fun s=>eC (fQ c.K) hl s fun δ=>pG c Z bid b δ (aY hl xl)) n (af δ hl)=some o→Code.rounds P b Q n a w
 | 0,_,_,_,_,_,_,_,h=>by cases h
 | n+1,F,O,a,w,δ,hI,hV,h=>by
  simp only [iter,gp] at h;rw [rounds_succ];have hI':=hI.carry h1;cases hb:pG c Z bid b (carry (fQ c.K) hl δ) (aY hl xl) with
  | none=>rw [hb] at h;cases h
  | some ob =>
   rw [hb] at h;refine ih F O a w _ hI' hV _ ob hb _ (fun e a' w' hp=>?_)
   cases ob with
   | nrm s' =>
    simp only at h;cases e with
    | normal =>
     obtain⟨⟨F',O',δ',g1,g2⟩,g3⟩:=hp;simp only [aY,aU,Iz,Out.nrm.injEq] at g2;rw [←g2] at h;exact rl h1 h2 ih hQ ho n F' O' a' w' δ' g1 g3 h
    | exit i =>
     obtain⟨⟨F',O',δ',g1,g2⟩,g3⟩:=hp;simp [aY,aU] at g2
    | ret =>
     obtain⟨⟨F',O',δ',g1,g2⟩,g3⟩:=hp;obtain⟨rs,_,_,g4⟩:=dY g2;simp [aY] at g4
    | _=>exact hp.elim
   | ext i l =>
    simp only [Iz] at h;subst h;cases e with
    | normal =>
     obtain⟨⟨F',O',δ',g1,g2⟩,g3⟩:=hp;simp [aY,aU] at g2
    | exit j =>
     obtain⟨⟨F',O',δ',g1,g2⟩,g3⟩:=hp;simp only [aY,aU,Iz,Out.ext.injEq] at g2;obtain⟨rfl,rfl⟩:=g2;simp only [outK,gp] at ho;exact hQ (.exit j) _ _ ⟨⟨F',O',_,g1.carry h2,ho⟩,g3⟩
    | ret =>
     obtain⟨⟨F',O',δ',g1,g2⟩,g3⟩:=hp;obtain⟨rs,_,_,g4⟩:=dY g2;simp [aY] at g4
    | _=>exact hp.elim
   | ret x y =>
    simp only [Iz] at h;subst h;cases e with
    | normal =>
     obtain⟨⟨F',O',δ',g1,g2⟩,g3⟩:=hp;simp [aY,aU] at g2
    | exit j =>
     obtain⟨⟨F',O',δ',g1,g2⟩,g3⟩:=hp;simp [aY,aU] at g2
    | ret =>
     obtain⟨⟨F',O',δ',g1,g2⟩,g3⟩:=hp;obtain⟨rs,g5,g6,g4⟩:=dY g2;simp only [aY,Iz,Out.ret.injEq] at g4;obtain⟨rfl,rfl⟩:=g4;exact hQ .ret _ _ ⟨⟨F',O',δ',g1,pi g5 g6 ho⟩,g3⟩
    | _=>exact hp.elim
theorem gq (hT:okT P c.T=true) (hS:∀f S,bR c.S f=some S→ay c.G P f S) (hm:P.follows .mixedOrders=true) {V:Nat→Value} {Z:List (Nat × List Nat)}:∀(b:Code) (bid:Nat),dZ c Z bid b=true→∀(F:Nat→Prop) (O:Nat→Option (Nat × Nat)) (a:Act) (w:World) (δ:List D),
  Inv c B X w0 F0 F O a w δ→IoV c V a→∀(k:Out→Option Out) (r:Out),pG c Z bid b δ k=some r→∀Q,(∀e a w,xI c B X w0 F0 V k r e a w→Q e a w)→b.wp P Q a w
 | .skip,bid,_,F,O,a,w,δ,hI,hV,k,r,hg,Q,hQ=>wp_skip (hQ _ _ _ ⟨⟨F,O,δ,hI,hg⟩,hV⟩)
 | .region id ops d,bid,hok,F,O,a,w,δ,hI,hV,k,r,hg,Q,hQ=>by
  simp only [dZ] at hok;simp only [pG] at hg;cases hH:bR Z id with
  | none =>
   rw [hH] at hok hg;exact fB hT hS hm (.region id ops d) bid hok F O a w δ hI hV k r hg Q hQ
  | some fz =>
   rw [hH] at hok hg;simp only at hok hg;cases hM:AC fz with
   | none =>
    rw [hM] at hok hg;simp only [Ix] at hok;simp only [tI,bu,oH] at hg;obtain⟨F2,O2,hI2⟩:=hI.recast hok.1;refine fB (c:=rcx c fz) hT hS hm (.region id ops d) bid hok.2 F2 O2 a w _ hI2 (fun s hs=>hV s (by rw [←xT (fz:=fz)];exact hs)) (unK c fz k) r hg Q (fun e a w hp=>?_)
    cases e with
    | normal =>
     obtain⟨⟨F',O',δ',hI',hk'⟩,hV'⟩:=hp;exact hQ .normal _ _ ⟨⟨F',O',_,hI'.uncast,hk'⟩,fun s hs=>hV' s (by rw [xT];exact hs)⟩
    | exit i=>obtain⟨⟨_,_,_,_,h⟩,_⟩:=hp;cases h
    | ret =>
     obtain⟨⟨_,_,_,_,h⟩,_⟩:=hp;obtain⟨rs,h1,h2,h3⟩:=dY h;cases h3
    | _=>exact hp.elim
   | some fy =>
    rw [hM] at hok hg;simp only [Ix] at hok;obtain⟨hz,⟨⟨hd,hsp⟩,hci⟩,hlo⟩:=hok;subst hd;simp only [tI,bu,oH] at hg;obtain⟨F2,O2,hI2⟩:=hI.recast hz;have hne:ops.toList≠[]:=fun e=>by rw [e] at hsp;simp [xB,wL] at hsp
    obtain⟨o,ho,hops⟩:=wy ops.toList hne;unfold xB at hsp;rw [ho] at hsp;simp only [Ix] at hsp;obtain⟨⟨⟨p1,p2⟩,p3⟩,p4⟩:=hsp;rw [IP] at p2 p3 p4;have hng:o.guard=none:=by
     cases hgq:o.guard with
     | none=>rfl
     | some jp=>rw [hgq] at p1;cases p1
    have hsz:(ia ops.toList).toArray.size=(ia ops.toList).length:=by simp
    have hopsA:ops=(ia ops.toList).toArray.push o:=by
     apply Array.ext';simpa using hops
    simp only [cg,Ix,IP,IL,JE,IE,false_or] at hci;rw [ho] at hlo hg;simp only [Jw,List.all_nil,Bool.and_true] at hlo;have hzip:∀(i:Nat) (q:Oper),(ia ops.toList).toArray[i]?=some q→(q,i)∈(ia ops.toList).zipIdx:=fun i q hq=>by
     rw [List.mem_zipIdx_iff_getElem?];simpa using hq
    refine wp_region_any hm ?_
    have hA:=vg (c:=rcx c fy) (B:=B) (X:=X) (w0:=w0) (F0:=F0) (P:=P) (V:=V) (ops:=(ia ops.toList).toArray) (Q:=fun e a w=>e = .normal∧o.wp P a w (fun a w=>Q .normal a w) Q) (r:=r)
     (k:=fun δ2=>eV c ops.toList [o] (ae δ2 (fy++aB c.K fy) []) fun δ5=>k (.nrm δ5)) hT hS (by simpa using hci.2) (fun a w hn=>⟨rfl,?_⟩) (by simpa using hci.1) hI2 (fun s hs=>hV s (by rw [←xT (fz:=fy)];exact hs)) (by simpa using hg)
    ·have hB:=Bn (P:=P) (Q:=Q) (o:=o) (init:=(ia ops.toList).toArray) (Wl:=fun a w=>o.wp P a w (fun a w=>Q .normal a w) Q) (fun i hi=>?_) (fun e he=>?_) (fun i q hq e he hb=>?_) (fun i q hq j p hgq=>?_) hng (fun _ _ h=>h) _ _ a _ (by simp) hA
     ·have e1:ops.size=(ia ops.toList).toArray.size+1:=by
       conv=>lhs;rw [hopsA]
       simp
      have e2:(ID ops.size false)=(ID (ia ops.toList).toArray.size false).push false:=by
       rw [e1];apply Array.ext';simp [List.replicate_succ']
      rw [e2,e1]
      conv=>enter [3];rw [hopsA]
      exact hB
     ·have h:=p2 i (IQ.2 (by simpa using hi))
      rw [List.any_eq_true] at h;obtain⟨e,he,h⟩:=h;simp only [Ix,beq_iff_eq] at h;exact⟨e,by simpa using he,h.1,h.2⟩
     ·have h:=p3 e (by simpa using he)
      rw [hsz];simpa using h
     ·have h:=p4 _ (hzip i q hq)
      simp only [Ix,IP,IL,IY,decide_eq_true_eq] at h;exact(h.1 e (by simpa using he)).resolve_left (by rw [hb];simp)
     ·have h:=p4 _ (hzip i q hq)
      simp only [Ix] at h;have h2:=h.2;rw [hgq] at h2;rw [hsz];simpa using h2
    ·obtain⟨⟨F',O',δ',hI',hk'⟩,hV'⟩:=hn
     have hst:=qA (ops:=ops) hT hS hlo (hI'.uncast) (fun s hs=>hV' s (by rw [xT];exact hs)) (k:=fun δ5=>k (.nrm δ5)) (r:=r) hk' Q;have hw1:IW o (yielded ops a.tmps)=true:=by
      unfold IW;rw [hng]
     rw [if_pos hw1] at hst;exact xS (fun a w hh=>hQ .normal _ _ hh) (fun _ _ _ _ h=>h) hst
 | .seq x y,bid,hok,F,O,a,w,δ,hI,hV,k,r,hg,Q,hQ=>by
  simp only [dZ,Ix] at hok;refine wp_seq (gq hT hS hm x bid hok.1 F O a w δ hI hV _ r hg _ (fun e a' w' hp=>?_))
  cases e with
  | normal =>
   obtain⟨⟨F',O',δ',hI',hk'⟩,hV'⟩:=hp;exact gq hT hS hm y bid hok.2 F' O' a' w' δ' hI' hV' k r hk' Q hQ
  | exit id=>exact hQ _ _ _ hp
  | ret=>exact hQ _ _ _ hp
  | _=>exact hp.elim
 | .cond x t e,bid,hok,F,O,a,w,δ,hI,hV,k,r,hg,Q,hQ=>by
  simp only [dZ,Ix] at hok;obtain⟨⟨hlv,hok1⟩,hok2⟩:=hok;have hop:=hI.opd (aT.1 hlv);have key:ifD (opD δ x) (pG c Z bid t δ k) (pG c Z bid e δ k)=some r:=by
   simp only [pG] at hg;cases x with
   | tmp s=>simpa only [opC,cM,opD] using hg
   | const v=>simpa only [opC,opD] using hg
   | func f=>simpa only [opC,opD] using hg
   | global g=>simp [opC] at hg
  unfold ifD at key;split at key
  ·rename_i hd
   rw [hd] at hop;exact wp_cond_true (aK hop).1 (gq hT hS hm t bid hok1 F O a w δ hI hV k r key Q hQ)
  ·rename_i hd
   rw [hd] at hop;exact wp_cond_false (aK hop).1 (gq hT hS hm e bid hok2 F O a w δ hI hV k r key Q hQ)
  ·cases key
 | .block id b,bid,hok,F,O,a,w,δ,hI,hV,k,r,hg,Q,hQ=>by
  simp only [dZ] at hok;refine wp_block (gq hT hS hm b id hok F O a w δ hI hV _ r hg _ (fun e a' w' hp=>?_))
  cases e with
  | normal=>exact hQ .normal _ _ hp
  | exit i =>
   simp only [Exit.inBlock];have hp':fg c B X w0 F0 V (fun δ=>tA id (.ext i δ) k) r a' w':=hp;split
   ·rename_i hi
    refine hQ .normal _ _ (ex hp' fun δ F O _ h=>?_)
    simp only [tA] at h;rw [az.2 (by simpa using hi)] at h;exact h
   ·rename_i hi
    refine hQ (.exit i) _ _ (ex hp' fun δ F O _ h=>?_)
    simp only [tA] at h;cases hb:IV i id
    ·rw [hb] at h;exact h
    ·exact absurd (by simpa using az.1 hb) hi
  | ret=>exact hQ .ret _ _ hp
  | _=>exact hp.elim
 | .loop b,bid,hok,F,O,a,w,δ,hI,hV,k,r,hg,Q,hQ=>by
  simp only [dZ,Ix] at hok;obtain⟨hok1,hok2⟩:=hok;simp only [pG] at hg;cases hH:bR c.H bid with
  | none=>rw [hH] at hg;cases hg
  | some hx =>
   obtain⟨hl,xl⟩:=hx;rw [hH] at hg hok2;simp only [Ix] at hok2;simp only [aU] at hg;obtain⟨o',h1,h2⟩:=IF.1 hg;unfold aI at h1;split at h1
   case isFalse=>cases h1
   rename_i hex;refine wp_loop_rounds (Ja hex) ?_
   refine rl (hl:=hl) (xl:=xl) hok2.1 hok2.2 (fun F O a w δ hI hV k r hg Q hQ=>gq hT hS hm b bid hok1 F O a w δ hI hV k r hg Q hQ) hQ h2 _ F O a w δ hI hV h1
 | .exit id,bid,_,F,O,a,w,δ,hI,hV,k,r,hg,Q,hQ=>wp_exit (hQ _ _ _ ⟨⟨F,O,δ,hI,hg⟩,hV⟩)
 | .ret,bid,_,F,O,a,w,δ,hI,hV,k,r,hg,Q,hQ=>wp_ret (hQ _ _ _ ⟨⟨F,O,δ,hI,hg⟩,hV⟩)
 | .label _,_,hok,_,_,_,_,_,_,_,_,_,_,_,_=>by simp [dZ] at hok
 | .goto _,_,hok,_,_,_,_,_,_,_,_,_,_,_,_=>by simp [dZ] at hok
 | .scope _,_,hok,_,_,_,_,_,_,_,_,_,_,_,_=>by simp [dZ] at hok
theorem Cz (hT:okT P c.T=true) (hS:∀f S,bR c.S f=some S→ay c.G P f S) (hm:P.follows .mixedOrders=true) {Z:List (Nat × List Nat)} {f:FuncId} {fn:Func} (hf:P.funcs[f]?=some fn) {pm rm:List Kd} (hok:DD c Z fn pm rm=true) (hres:c.res=fn.results.toList)
  {ds rs us:List D} (hd:sU c Z fn ds=some (.ret rs us)) {args:Array Value} {w:World} {F:Nat→Prop} {ow:Nat→Option Nat} (hgl:gOk c.G w F) (ha:dN w F ow 0 pm ds args.toList) (hF:∀b,F b→b<w.heap.size∧ow b=none) (hO:∀b i,ow b=some i→b<w.heap.size) :
  Calls P f args w fun e w'=>∃v,e = .returned v∧∃F' R' vs,v=gP vs∧CallPost {pm:=pm,rm:=rm,f:=sU c Z fn} args rs us w F ow F' R' vs w':=by
 unfold DD at hok;simp only [Ix,decide_eq_true_eq] at hok;obtain⟨⟨⟨⟨⟨hcode,hlenK⟩,hpre⟩,hpm⟩,hokr⟩,hios⟩:=hok;rw [az,iY] at hlenK;obtain⟨hpl,hpn⟩:=oS hpre;obtain⟨hdl,hal,hargs⟩:=oR pm ds args.toList 0 ha;have hasz:args.size=pm.length:=by simpa using hal
 unfold sU at hd;cases hb:fn.body with
 | none=>rw [hb] at hd;cases hd
 | some b =>
  rw [hb] at hd hcode;simp only at hd hcode;refine calls_of_wp hf hb ?_
  have hav:∀s,s<pm.length→av ({tmps:=args++ID (fn.ntmps - args.size) undef,defers:=[]}:Act) s=args.toList.getD s undef:=fun s hs=>by
   have h1:s<args.size:=by omega
   simp only [av,Iy,IH,Jo];rw [Jb h1]
  have hinit:Inv c w.heap.size (fun b=>ow b≠none) w F F (fun b=>(ow b).map fun i=>(i,0)) {tmps:=args++ID (fn.ntmps - args.size) undef,defers:=[]} w (mq fn.ntmps ds):=by
   refine⟨by simp;omega,by rw [mz,hlenK],rfl,fun s=>?_,fun b hb=>⟨(hF b hb).1,by simp [(hF b hb).2]⟩,fun b p hp=>?_,fun _ h=>h,fun _ h=>.inl h,Jl _,rfl,rfl,rfl,fun _ _ _=>rfl,hgl⟩
   ·unfold qu
    rw [mc _ _ _ (by rw [hdl];omega)];by_cases hs:s<pm.length
    ·rw [hpn s hs,hav s hs]
     rcases hargs s hs with hbad | harg
     ·exact .inl hbad
     refine .inr ?_
     have hlv:∀lv,lv≠1→∀b,FB F 0 lv b→FB F w.heap.size lv b:=fun lv h1 b hb=>by
      match lv,h1 with
      | 0,_=>exact hb
      | _+2,_=>exact hb
     rcases mN hpm s hs with ⟨lv,hk,h1⟩ | ⟨z,lv,hk,h1⟩ | ⟨n,lv,hk,h1⟩
     ·rw [hk] at harg ⊢
      exact .inr (aO (hlv lv h1) (fun _ _=>rfl) harg)
     ·rw [hk] at harg ⊢
      exact .inr (cm (hlv lv h1) (fun _ _=>rfl) (fun g _ hg=>⟨⟨by simp only [II] at hg;simp [hg],fun h=>by cases h⟩,rfl⟩) harg)
     ·rw [hk] at harg ⊢
      exact .inr (gk (hlv lv h1) (fun _ _=>rfl) (fun g _ hg=>⟨⟨by simp only [II] at hg;simp [hg],fun h=>by cases h⟩,rfl⟩) harg)
    ·refine .inl ?_
     rw [dA,IH,Jp (by omega)];rfl
   ·obtain⟨i,hi,rfl⟩:=Jm.1 hp
    exact⟨hO b i hi,.inr (by rw [hi];simp)⟩
  refine gq hT hS hm b 0 hcode F _ _ w _ hinit (V:=av {tmps:=args++ID (fn.ntmps - args.size) undef,defers:=[]}) (fun _ _=>rfl) _ _ hd _ (fun e a' w' hp=>?_)
  have fin:fg c w.heap.size (fun b=>ow b≠none) w F (av {tmps:=args++ID (fn.ntmps - args.size) undef,defers:=[]}) (fun δ=>yG c δ some) (.ret rs us) a' w'→a'.defers=[]∧∃v,(results fn a'.tmps).run P w' = .ok v w'∧∃v',Jz v = .returned v'∧∃F' R' vs,v'=gP vs∧CallPost {pm:=pm,rm:=rm,f:=sU c Z fn} args rs us w F ow F' R' vs w':=by
   rintro⟨⟨F',O',δ',hI',hk⟩,hV'⟩;obtain⟨rs',h1,h2,h3⟩:=dY hk;simp only [Iz,Out.ret.injEq] at h3;obtain⟨rfl,rfl⟩:=h3;obtain⟨vs,g1,g2,g3,g4⟩:=pj (P:=P) hT hI' c.res rm rs' hokr h1;refine⟨hI'.df,gP vs,?_,_,rfl,F',fun b=>if w.heap.size≤b then(match O' b with
    | some (t,0)=>pW c.res t 0
    | _=>none) else none,vs,rfl,?_⟩
   ·have hrun:(fn.results.mapM (lg a'.tmps)).run P w' = .ok vs.toArray w':=by
     rw [Je,←hres];simp [g1]
    have hrw:results fn a'.tmps=(do
      let vs ←fn.results.mapM (lg a'.tmps)
      pure (if h:vs.size=1 then vs[0] else .tuple vs)):=by
     unfold results;congr 1
    rw [hrw];simp only [JF,hrun,Jx,JG];congr 1
    rcases vs with _ | ⟨y,_ | ⟨y',vs⟩⟩
    ·simp [gP]
    ·simp [gP]
    ·simp [gP]
   ·refine⟨hI'.os,hI'.tape,hI'.output,hI'.bb,fun b hb ho=>hI'.keep b hb (by simp [ho]),hI'.f0,fun b hb=>⟨hI'.fn b hb,(hI'.fl b hb).1,by simp only [(hI'.fl b hb).2];split<;>rfl⟩,fun b j hj=>?_,g2,g3,fun j=>?_,?_⟩
    ·split at hj
     case isFalse=>cases hj
     rename_i hB;refine⟨hB,?_⟩
     split at hj
     ·rename_i t he;exact(hI'.ol b _ he).1
     ·cases hj
    ·refine iQ (fun hk g hg=>?_) (g4 j)
     obtain⟨z,lv,hk⟩:=hk;obtain⟨e1,t,e2,e3⟩:=hg;rw [if_pos e1];simp only [e3];have:=(ke c.res rm hokr j t 0 z lv hk e2).1;simpa using this
    ·rw [hios]
     refine tJ pm args.toList 0 hal (fun j hj hio=>?_)
     rw [II];have hkj:=hpn j hj;have hbj:nth δ' j ≠ .bad:=by
      refine h2 _ ?_
      rw [hios,kB];exact Js (by simpa using pq pm 0 j hj hio)
     have havj:av a' j=args.toList.getD j undef:=(hV' j (by rw [hkj];exact hio)).trans (hav j hj);have hlv:∀lv,lv≠1→∀b,FB F' w.heap.size lv b→FB F' 0 lv b:=fun lv h1 b hb=>by
      match lv,h1 with
      | 0,_=>exact hb
      | _+2,_=>exact hb
     refine⟨hbj,.inr ?_⟩
     rcases mN hpm j hj with ⟨lv,hk,h1⟩ | ⟨z,lv,hk,h1⟩ | ⟨n,lv,hk,h1⟩
     ·rw [hk] at hio;cases hio
     ·have h5:=hI'.own (hkj.trans hk) hbj
      rw [havj] at h5;rw [hk];exact cm (hlv lv h1) (fun _ _=>rfl) (fun _ _ _=>⟨trivial,rfl⟩) h5
     ·have h5:=hI'.box (hkj.trans hk) hbj
      rw [havj] at h5;rw [hk];exact gk (hlv lv h1) (fun _ _=>rfl) (fun _ _ _=>⟨trivial,rfl⟩) h5
  cases e with
  | normal=>exact fin hp
  | exit i =>
   obtain⟨⟨_,_,_,_,h⟩,_⟩:=hp;cases h
  | ret =>
   refine fin (ex hp fun δ F O _ h=>?_)
   obtain⟨rs',h1,h2,h3⟩:=dY h;exact pi h1 h2 h3
  | _=>exact hp.elim
theorem CF (hT:okT P c.T=true) (hS:∀f S,bR c.S f=some S→ay c.G P f S) (hm:P.follows .mixedOrders=true) {Z:List (Nat × List Nat)} {f:FuncId} {fn:Func} (hf:P.funcs[f]?=some fn) (hname:(fn.name== "runtime.NumGoroutine")=false) {pm rm:List Kd} (hok:DD c Z fn pm rm=true) (hres:c.res=fn.results.toList) :
  ay c.G P f {pm:=pm,rm:=rm,f:=sU c Z fn}:=by
 intro ds rs us hd args w F ow hgl ha hF hO o a next Q hn
 have hbody:∃b,fn.body=some b:=by
  have hd':sU c Z fn ds=some (.ret rs us):=hd;unfold sU at hd';cases hb:fn.body with
  | none=>rw [hb] at hd';cases hd'
  | some b=>exact⟨b,rfl⟩
 obtain⟨b,hb⟩:=hbody;have hrun:(callFunc f args).run P w = .ok (.enter f args) w:=by
  have h1:¬fn.name= "runtime.NumGoroutine":=by simpa using hname
  simp [callFunc,hf,h1,hb]
 rw [hrun,Jf];refine Jj (Cz hT hS hm hf hok hres hd hgl ha hF hO) (fun e w' he=>?_)
 obtain⟨v,rfl,F',R',vs,h1,h2⟩:=he;exact hn v w' ⟨F',R',vs,h1,h2⟩
end
end Go.V

namespace Go.Proofs.Ytccaheogjpfhjaa
open Go Go.V
set_option maxRecDepth 100000
abbrev gl0:List (Nat × (Obj→Prop)):=[]
end Go.Proofs.Ytccaheogjpfhjaa

namespace Go.V
open Go.RowKit
set_option maxRecDepth 100000
section
variable {P:Program} {G:List (Nat × (Obj→Prop))}
theorem iu {f:FuncId} {S:FS} (he:∀args w,(callFunc f args).run P w = .ok (.enter f args) w)
  (h:∀ds rs us,S.f ds=some (.ret rs us)→∀(args:Array Value) (w:World) (F:Nat→Prop) (ow:Nat→Option Nat),gOk G w F→dN w F ow 0 S.pm ds args.toList→(∀b,F b→b<w.heap.size∧ow b=none)→(∀b i,ow b=some i→b<w.heap.size) →
   Calls P f args w fun e w'=>∃v,e = .returned v∧∃F' R vs,v=gP vs∧CallPost S args rs us w F ow F' R vs w'):ay G P f S:=by
 intro ds rs us hd args w F ow hg ha hF hO o a next Q hn
 rw [he,Jf];refine Jj (h ds rs us hd args w F ow hg ha hF hO) (fun e w' hv=>?_)
 obtain⟨v,rfl,F',R,vs,h1,h2⟩:=hv;exact hn v w' ⟨F',R,vs,h1,h2⟩
theorem so {w:World} {F:Nat→Prop}:∀(ks:List Kd) (ys:List Value),(ks.all fun k=>!lT k)=true→ks.length=ys.length→mH w F ks [] ys
 | [],[],_,_=>trivial
 | k::ks,y::ys,h,hl=>by
  simp only [Jw,Ix,IY] at h;simp only [mH,h.1];exact so ks ys h.2 (by simpa using hl)
 | [],_::_,_,hl=>by cases hl
 | _::_,[],_,hl=>by cases hl
theorem yU {w:World} {F:Nat→Prop} {ow:Nat→Option Nat} {k:Kd} {ds:List D} {l:List Value} (h:dN w F ow 0 [k] ds l):∃d y,ds=[d]∧l=[y]∧gF w F (fun g=>ow g=some 0) k d y:=by
 match ds,l,h with
 | [d],[y],h=>exact⟨d,y,rfl,rfl,h.1⟩
 | [],l,h=>cases l<;>exact h.elim
 | d::d'::ds,l,h =>
  match l,h with
  | [],h=>exact h.elim
  | [y],h=>exact h.2.elim
  | y::y'::ys,h=>exact h.2.elim
 | [d],[],h=>exact h.elim
 | [d],y::y'::ys,h=>exact h.2.elim
theorem Iq {w:World} {F own:Nat→Prop} {lv:Nat} {x y:Value} (h:gF w F own (.dat lv) (.v x) y):y=x∧flat x=true:=by
 rcases h with h | h
 ·cases h
 ·exact fd.1 h
theorem ET {S:FS} {args:Array Value} {rs:List D} {vs:List Value} {w w':World} {F:Nat→Prop} {ow:Nat→Option Nat} (R:Nat→Option Nat) (hB:Below w.heap.size w w') (hF:∀b,F b→b<w.heap.size∧ow b=none)
  (hR:∀b j,R b=some j→w.heap.size≤b∧b<w'.heap.size) (hio:(S.pm.all fun k=>!lT k)=true) (hl:S.pm.length=args.size) (h1:vs.length=S.rm.length) (h2:rs.length=S.rm.length)
  (hres:∀j,xh w' F w.heap.size (fun g=>R g=some j) (ah S.rm j) (nth rs j) (vs.getD j undef)):CallPost S args rs [] w F ow F R vs w' :=
 ⟨hB.os,hB.tape,hB.output,hB.size,fun b hb _=>hB.block b hb,fun _ h=>h,fun b hb=>⟨.inl hb,Nat.lt_of_lt_of_le (hF b hb).1 hB.size,by
  cases h:R b with
  | none=>rfl
  | some j=>exact absurd (hR b j h).1 (Nat.not_le.2 (hF b hb).1)⟩,hR,h1,h2,hres,so _ _ hio (by simpa using hl)⟩
end
end Go.V

end
