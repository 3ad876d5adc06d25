/-
  A part of the proof: contracts and plain forms of functions beneath the statement, made small by a program (names shortened, what is not needed left out).
-/
import Derived.Test.YtccaheogjpfhjaaGreatRows
import Derived.Test.YtccaheogjpfhjaaGreatM3
import Derived.ProofKit
import Derived.ChangeArms
open Bool renaming and_eq_true → ZE, false_eq_true → ZN, not_eq_true' → ZS, or_eq_true → ZX, not_false → aan, not_true → aaK
open Option renaming bind_eq_some_iff → ZF, map_eq_some_iff → ZK, bind_some → ZL, isSome_iff_exists → aaf, getD_some → aaA, map_some → aaE
open Option.some renaming injEq → ZG, inj → aaB
open Array renaming getD_eq_getD_getElem? → ZH, replicate → ZO, getElem?_setIfInBounds → aaa, getElem?_eq_getElem → aad, all_eq_true_iff_forall_mem → aah, getElem?_toList → aai, getElem?_eq_some_iff → aar, getElem?_append_left → aas, mapM_eq_mapM_toList → aaw
open List renaming getD_eq_getElem?_getD → ZI, getElem?_eq_some_iff → ZJ, getElem?_eq_getElem → ZM, getElem?_append_right → ZQ, all_eq_true → ZR, snd_lt_of_mem_zipIdx → ZU, getElem?_eq_none → ZZ, getD_cons_zero → aac, mem_append → aak, eq_nil_of_length_eq_zero → aam, replicate → aao, drop_zero → aap, mem_singleton → aaq, getElem?_append_left → aau, drop_eq_getElem_cons → aav, length_take → aay, getElem?_take_of_lt → aaz, nil_append → aaC, mem_filter → aaD, mapM_cons → aaG, mem_of_getElem? → aaH, mem_cons → aaJ, map_cons → aaL, replicate_succ → aaM, mem_map_of_mem → aaN, filter_congr → aaP, cons_append → aaR, drop_length → aaS, map_append → aaT, append_nil → aaV
open Nat renaming beq → ZP, zero_add → ZT, le_refl → aag, beq_refl → aaj, lt_or_ge → aax, ble → aaO
open Go.Region renaming binds → ZV, ready → aae
open Classical renaming choose → ZW, choose_spec → ZY
open Go.DataW renaming TrodAll → aab
open Go.Value renaming okWide → aal
open Int renaming toNat_natCast → aat
open Go.Oper renaming upon_enter → aaF
open Go.Calls renaming mono → aaI
open Go.Result renaming andThen_ok → aaQ
open Go.Ending renaming returned → aaU
set_option maxRecDepth 100000
set_option linter.unusedSimpArgs false
set_option linter.unusedVariables false
noncomputable section
namespace Go.V
open Go.RowKit
set_option maxRecDepth 100000
def tM (x y:List Nat):Bool:=x.all fun s=>!lF s y
def Po (c:Cx) (ops:List Oper) (x y:Oper):Bool:=tM (rdS c ops x) (wrS c y)&&tM (wrS c x) (rdS c ops y)&&tM (wrS c x) (wrS c y)
def LM (c:Cx) (x y:Oper):Bool :=
 match x.guard,y.guard,x.op,x.dst,y.op,y.dst with
 | none,none,.move (.tmp t),some d,.store _ (.tmp q) (.tmp s),none =>
  (match aq c.K t,aq c.K d,aq c.K q,aq c.K s with
   | .own _ _ _,.via r,.ref r',.dat _=>ZP r t&&ZP r' t && !ZP q t&&tM (d::fv d c.K 0) [q,t,s]
   | _,_,_,_=>false)
 | _,_,_,_,_,_=>false
def Pc (c:Cx) (x y:Oper):Bool :=
 match x.guard,y.guard,x.op,y.op,y.dst with
 | none,none,.call q,.move (.tmp t),some d =>
  (match aq c.K t,aq c.K d,q.callee with
   | .box _ _ _,.ref r',.value (.func f)=>(match dr c.S f with
    | some S=>(match kL c.K q.args.toList S.pm with
     | some ags=>ZP r' t&&lF t (dD ags)
     | none=>false)
    | none=>false)
   | _,_,_=>false)
 | _,_,_,_,_=>false
def CL (c:Cx) (ops:List Oper) (x y:Oper):Bool:=Pc c x y&&tM (rdS c ops x) (wrS c y)&&tM (wrS c x) (wrS c y)
def KY (c:Cx) (ops:List Oper) (x y:Oper):Bool:=Po c ops x y||LM c x y||LM c y x||CL c ops x y||CL c ops y x
def bef (ops:List Oper) (j:Nat):Nat→Oper→Bool
 | 0,_=>false
 | n+1,o=>o.after.toList.any fun e=>ZV .any e&&(ZP e.on j||match Oj ops e.on with
  | some q=>bef ops j n q
  | none=>false)
def QF (c:Cx) (ops:List Oper):Bool :=
 ops.zipIdx.all fun p=>(p.1.after.toList.all fun e=>!ZV .any e||decide (e.on<p.2))&&(ops.take p.2).zipIdx.all fun q=>KY c ops q.1 p.1||bef ops q.2 3 p.1
def kC (K:List Kd) (hl:List Nat):Bool :=
 hl.all fun s=>match aq K s with
  | .via r=>lF r hl
  | .ref r=>lF r hl
  | _=>true
def dV (c:Cx):Nat→Code→Bool
 | _,.skip=>true
 | _,.region _ ops d=>ops.toList.all (RD c ops.toList)&&(!d||QF c ops.toList)
 | b,.seq x y=>dV c b x&&dV c b y
 | b,.cond x t e=>aaO (eF c.K x) 2&&dV c b t&&dV c b e
 | _,.block id x=>dV c id x
 | b,.loop x=>dV c b x&&(match dr c.H b with
  | some (hl,xl)=>kC c.K hl&&kC c.K xl
  | none=>false)
 | _,.exit _=>true
 | _,.ret=>true
 | _,_=>false
section
variable {P:Program} {c:Cx} {B:Nat} {X:Nat→Prop} {w0:World} {F0 F:Nat→Prop} {O:Nat→Option (Nat × Nat)} {a:Act} {w:World} {δ:List D}
def Nk (c:Cx) (δ:List D) (k:Out→Option Out):Option Out:=oa c δ c.res fun rs=>qc δ c.ios fun us=>usK us (k (.ret rs us))
def LP (c:Cx) (B:Nat) (X:Nat→Prop) (w0:World) (F0:Nat→Prop) (V:Nat→Value) (k:Out→Option Out) (r:Out):Exit→Act→World→Prop
 | .normal,a,w=>iO c B X w0 F0 V (fun δ=>k (.nrm δ)) r a w
 | .exit id,a,w=>iO c B X w0 F0 V (fun δ=>k (.ext id δ)) r a w
 | .ret,a,w=>iO c B X w0 F0 V (fun δ=>Nk c δ k) r a w
 | _,_,_=>False
theorem km {x y:List Nat} (h:tM x y=true):∀s∈x,s∉y:=by
 intro s hs;unfold tM at h;rw [ZR] at h;simpa [fx] using h s hs
theorem Va {δ δ':List D} (h:δ.length=δ'.length) (hn:∀s,nth δ s=nth δ' s):δ=δ':=by
 refine List.ext_getElem h fun i h1 h2=>?_
 have:=hn i;rw [fp,fp,ZI,ZI,ZM h1,ZM h2] at this;exact this
theorem su:∀(ss:List Nat) (l δ δ':List D),δ.length=δ'.length→∀s∈ss,nth (aj δ ss l) s=nth (aj δ' ss l) s
 | t::ss,l,δ,δ',hl,s,hs=>by
  cases l with
  | nil=>rw [ll _ _ _ hs,ll _ _ _ hs]
  | cons d l =>
   simp only [aj];by_cases hm:s∈ss
   ·exact su ss l _ _ (by rw [gi,gi,hl]) s hm
   ·have:s=t:=by simpa [hm] using hs
    subst this;rw [aD _ _ _ _ hm,aD _ _ _ _ hm,bH,bH,hl]
theorem nS {A C:List Nat} {l m δ:List D} (h:∀s∈A,s∉C):aj (aj δ A l) C m=aj (aj δ C m) A l:=by
 refine Va (by simp only [dz]) fun s=>?_
 by_cases hA:s∈A
 ·rw [aD _ _ _ _ (h s hA)]
  exact su A l _ _ (by rw [dz]) s hA
 ·by_cases hC:s∈C
  ·rw [aD A _ _ _ hA]
   exact(su C m _ _ (by rw [dz]) s hC)
  ·rw [aD _ _ _ _ hC,aD _ _ _ _ hA,aD _ _ _ _ hA,aD _ _ _ _ hC]
theorem MG {n:Nat} {o p x z:D} (h:stD n o p x=some z):o ≠ .bad∧z ≠ .bad:=by
 unfold stD at h;split at h
 ·split at h
  ·split at h
   ·cases h;exact⟨by simp,by simp⟩
   ·cases h
  ·cases h
 ·split at h
  ·cases h;exact⟨by simp,by simp⟩
  ·cases h
 ·cases h
theorem FP (chk:Bool) (n:Nat) (b p y:D):∃E:Option D,(∀k:D→Option Out,stK chk n b p y k=E.bind k)∧∀z,E=some z→b ≠ .bad∧z ≠ .bad:=by
 cases chk
 ·exact⟨stD n b p y,fun _=>rfl,fun z hz=>MG hz⟩
 ·refine⟨(bq y).bind fun y=>stD n b p y,fun k=>by simp only [stK,Option.bind_assoc],fun z hz=>?_⟩
  obtain⟨y',_,h⟩:=ZF.1 hz;exact MG h
theorem Qj {ops:List Oper} {x y:Oper} (h:LM c x y=true) (δ:List D) (k:List D→Option Out):cJ c ops x δ (fun δ=>cJ c ops y δ k)=cJ c ops y δ (fun δ=>cJ c ops x δ k):=by
 unfold LM at h;split at h
 case h_2=>cases h
 rename_i t d ty q s hxg hyg hxo hxd hyo hyd;split at h
 case h_2=>cases h
 rename_i z lv io r0 r lv' hkt hkd hkq hks;simp only [ZE,ZS] at h;obtain⟨⟨⟨h1,h2⟩,h3⟩,h4⟩:=h;have e1:=aZ.1 h1;have e2:=aZ.1 h2;subst e1;subst e2;have hx:∀(δ:List D) (k:List D→Option Out),cJ c ops x δ k=(aa (nth δ r) (.ref 0 0)).bind fun z=>k (aj δ (d::fv d c.K 0) [z]):=by
  intro δ k;have hA:cf c x=some (.one [r] d fun is=>(fQ fun x=>aa x (.ref 0 0)) is):=by
   simp only [cf,hxo,hxd,Le,hkt,hkd,aaj]
  simp only [cJ,hA,hxg];rw [bB];show(aa (nth δ r) (.ref 0 0)).bind (fun z=>dR δ (d::fv d c.K 0) [z] k)=_
  exact congrArg _ (funext fun z=>bP _ _ _ _)
 have hy:∃E:D→D→D→Option D,(∀(δ:List D) (k:List D→Option Out),cJ c ops y δ k=(E (nth δ r) (nth δ q) (nth δ s)).bind fun b=>k (aj δ [r] [b]))∧∀a b e z,E a b e=some z→a ≠ .bad∧z ≠ .bad:=by
  cases hT:dr c.T ty with
  | none =>
   refine⟨fun _ _ _=>none,fun δ k=>?_,fun _ _ _ _ h=>by cases h⟩
   have hA:cf c y=none:=by simp only [cf,hyo,hyd,fE,hT]
   simp only [cJ,hA];rfl
  | some i =>
   have act:∀chk:Bool,cf c y=some (.many [q,r,s] [] [r] fun is k=>goP q r is fun b p is=>eV is 0 fun y=>stK chk i.n b p y fun b=>k [b]) →
     ∃E:D→D→D→Option D,(∀(δ:List D) (k:List D→Option Out),cJ c ops y δ k=(E (nth δ r) (nth δ q) (nth δ s)).bind fun b=>k (aj δ [r] [b]))∧∀a b e z,E a b e=some z→a ≠ .bad∧z ≠ .bad:=by
    intro chk hA;refine⟨fun a b e=>ZW (FP chk i.n a b e),fun δ k=>?_,fun a b e z h=>(ZY (FP chk i.n a b e)).2 z h⟩
    simp only [cJ,hA,hyg];rw [bB];simp only [goP,h3,ao];show stK chk i.n (nth δ r) (nth δ q) (nth δ s) (fun b=>dR δ [r] [b] k)=_
    rw [(ZY (FP chk i.n (nth δ r) (nth δ q) (nth δ s))).1];exact congrArg _ (funext fun b=>bP _ _ _ _)
   have hst:cf c y=NI c i q r (fh c.K r) (.tmp s):=by
    simp only [cf,hyo,hyd,fE,hT,Tp,hkq]
   unfold NI at hst;simp only [hks] at hst;split at hst
   ·exact act false (by rw [hst];simp only [rdP,h3])
   ·exact act true (by rw [hst];simp only [rdP,h3])
   ·refine⟨fun _ _ _=>none,fun δ k=>?_,fun _ _ _ _ h=>by cases h⟩
    simp only [cJ,hst];rfl
 obtain⟨E,hE,hEl⟩:=hy;have ap:=fun s hs=>km h4 s hs
 have hnq:∀m:List D,∀v∈[q,r,s],nth (aj δ (d::fv d c.K 0) m) v=nth δ v:=fun m v hv=>aD _ _ _ _ fun hm=>ap v hm hv
 simp only [hx,hE,hnq _ q (by simp),hnq _ r (by simp),hnq _ s (by simp)];cases hb:E (nth δ r) (nth δ q) (nth δ s) with
 | none=>cases aa (nth δ r) (.ref 0 0)<;>rfl
 | some b =>
  obtain⟨g1,g2⟩:=hEl _ _ _ _ hb;have hlive:∀a:D,a ≠ .bad→aa a (.ref 0 0)=some (.ref 0 0):=fun a ha=>by cases a<;>first | exact absurd rfl ha | rfl
  have hr:nth (aj δ [r] [b]) r=b:=by
   simp only [aj];rw [bH,if_pos];by_cases hl:r<δ.length
   ·exact hl
   ·exfalso
    rw [fp,ZI,ZZ (by omega)] at g1;exact g1 rfl
  simp only [hlive _ g1,hr,hlive _ g2,ZL];rw [nS (A:=d::fv d c.K 0) (C:=[r])];intro v hv hv';exact ap v hv (by simp at hv';simp [hv'])
theorem Pi {ops:List Oper} {x y:Oper} (h:Po c ops x y=true) (δ:List D) (k:List D→Option Out):cJ c ops x δ (fun δ=>cJ c ops y δ k)=cJ c ops y δ (fun δ=>cJ c ops x δ k):=by
 unfold Po at h;simp only [ZE] at h;obtain⟨⟨h1,h2⟩,h3⟩:=h;obtain⟨φ,hφ,hφr⟩:=rp c ops x;obtain⟨ψ,hψ,hψr⟩:=rp c ops y;have e1:∀l,ψ (aj δ (wrS c x) l)=ψ δ:=fun l=>hψr _ _ (kJ fun s hs=>aD _ _ _ _ fun hm=>km h2 s hm hs)
 have e2:∀l,φ (aj δ (wrS c y) l)=φ δ:=fun l=>hφr _ _ (kJ fun s hs=>aD _ _ _ _ (km h1 s hs))
 simp only [hφ,hψ,e1,e2];cases φ δ with
 | none=>cases ψ δ<;>rfl
 | some l =>
  cases ψ δ with
  | none=>rfl
  | some m =>
   simp only [ZL];rw [nS (km h3)]
theorem vn {δ:List D}:∀(ags:List Ag) (ds:List D),dh ags (ao δ (fX ags))=some ds→∀t∈dD ags,nth δ t ≠ .bad
 | [],_,_,t,ht=>by simp [dD] at ht
 | .d x chk::l,ds,h,t,ht=>by
  have ih:=vn (δ:=δ) l;simp only [dD] at ht;cases x with
  | tmp u =>
   simp only [ao] at h;cases chk
   ·simp only [dh] at h
    obtain⟨z,hz,_⟩:=ZK.1 h;exact ih z hz t ht
   ·simp only [dh] at h
    obtain⟨i,_,h⟩:=ZF.1 h;obtain⟨z,hz,_⟩:=ZK.1 h;exact ih z hz t ht
  | const v =>
   simp only [dh] at h;obtain⟨z,hz,_⟩:=ZK.1 h;exact ih z hz t ht
  | func f =>
   simp only [dh] at h;obtain⟨z,hz,_⟩:=ZK.1 h;exact ih z hz t ht
  | global g=>simp [dh] at h
 | .bor u r::l,ds,h,t,ht=>by
  have ih:=vn (δ:=δ) l;simp only [dD] at ht;cases hb:ZP u r
  ·simp only [fX,hb,ao,dh] at h
   obtain⟨i,_,h⟩:=ZF.1 h;obtain⟨z,hz,_⟩:=ZK.1 h;exact ih z hz t ht
  ·simp only [fX,hb,ao,dh] at h
   obtain⟨z,hz,_⟩:=ZK.1 h;exact ih z hz t ht
 | .io u r::l,ds,h,t,ht=>by
  have ih:=vn (δ:=δ) l;simp only [dD,aaJ] at ht;have lv:∀x y z:D,aa x y=some z→x ≠ .bad:=fun x y z hz e=>by subst e;cases hz
  cases hb:ZP u r
  ·simp only [fX,hb,ao,dh] at h
   obtain⟨i,hi,h⟩:=ZF.1 h;obtain⟨i',hi',h⟩:=ZF.1 h;obtain⟨z,hz,_⟩:=ZK.1 h;have e:i=nth δ r:=by
    unfold bn at hi;split at hi
    ·exact(aaB hi).symm
    ·cases hi
   rcases ht with rfl | ht
   ·rw [←e];exact lv _ _ _ hi'
   ·exact ih z hz t ht
  ·simp only [fX,hb,ao,dh] at h
   obtain⟨i',hi',h⟩:=ZF.1 h;obtain⟨z,hz,_⟩:=ZK.1 h;have e:=aZ.1 hb;rcases ht with rfl | ht
   ·rw [←e];exact lv _ _ _ hi'
   ·exact ih z hz t ht
theorem Wt {ops:List Oper} {x y:Oper} (h:CL c ops x y=true) (δ:List D) (k:List D→Option Out) (r:Out) (hs:cJ c ops x δ (fun δ=>cJ c ops y δ k)=some r):cJ c ops y δ (fun δ=>cJ c ops x δ k)=some r:=by
 unfold CL at h;simp only [ZE] at h;obtain⟨⟨h1,h2⟩,h3⟩:=h;unfold Pc at h1;split at h1
 case h_2=>cases h1
 rename_i q t d hxg hyg hxo hyo hyd;split at h1
 case h_2=>cases h1
 rename_i n lv io r' f hkt hkd hqc;split at h1
 case h_2=>cases h1
 rename_i S hS;split at h1
 case h_2=>cases h1
 rename_i ags hags;simp only [ZE] at h1;obtain⟨h4,h5⟩:=h1;have e4:=aZ.1 h4;subst e4;have hyA:cf c y=some (.one [r'] d fun is=>(fQ fun x=>aa x (.ref 0 0)) is):=by
  simp only [cf,hyo,hyd,Le,hkt,hkd,aaj]
 have hw:wrS c y=d::fv d c.K 0:=by
  unfold wrS;rw [hyA]
 have hy:∀(δ:List D) (k:List D→Option Out),cJ c ops y δ k=(aa (nth δ r') (.ref 0 0)).bind fun z=>k (aj δ (d::fv d c.K 0) [z]):=by
  intro δ k;simp only [cJ,hyA,hyg];rw [bB];show(aa (nth δ r') (.ref 0 0)).bind (fun z=>dR δ (d::fv d c.K 0) [z] k)=_
  exact congrArg _ (funext fun z=>bP _ _ _ _)
 have live:∀(δ:List D) (K:List D→Option Out) (r:Out),cJ c ops x δ K=some r→nth δ r' ≠ .bad:=by
  intro δ K r hr;have hm:r'∈dD ags:=by simpa [fx] using h5
  have fin:∀K':List D→Option Out,gJ [] ags (ao δ (fX ags)) K'=some r→nth δ r' ≠ .bad:=by
   intro K' h;rw [ir] at h;obtain⟨ds,hds,_⟩:=ZF.1 h;exact vn ags ds hds r' hm
  have hA:cf c x=Nl c x.dst q:=by simp only [cf,hxo]
  have hcl:∀A,cf c x=some A→mO c x.dst S q.args.toList=some A:=by
   intro A h;rw [hA] at h;unfold Nl at h;rw [hqc] at h;simp only [hS] at h;exact h
  cases hAc:cf c x with
  | none=>simp only [cJ,hAc] at hr;cases hr
  | some A =>
   have hA2:=hcl A hAc;unfold mO at hA2;simp only [hags] at hA2;simp only [cJ,hAc,hxg] at hr
   repeat' split at hA2
   all_goals first
    | (cases hA2;done)
    | (cases hA2;simp only [bB] at hr;exact fin _ hr)
    | skip
 have l1:=live δ _ r hs;obtain⟨φ,hφ,hφr⟩:=rp c ops x;rw [hw] at h2 h3;have e2:∀l,φ (aj δ (d::fv d c.K 0) l)=φ δ:=fun l=>hφr _ _ (kJ fun s hs=>aD _ _ _ _ (km h2 s hs))
 have hlive:∀a:D,a ≠ .bad→aa a (.ref 0 0)=some (.ref 0 0):=fun a ha=>by cases a<;>first | exact absurd rfl ha | rfl
 simp only [hφ,hy,e2] at hs ⊢;rw [hlive _ l1];cases hp:φ δ with
 | none=>rw [hp] at hs;cases hs
 | some l =>
  rw [hp] at hs;simp only [ZL] at hs ⊢;obtain⟨z,hz,hk⟩:=ZF.1 hs;have ez:z = .ref 0 0:=by
   unfold aa at hz;split at hz
   ·cases hz
   ·exact(aaB hz).symm
  subst ez;rw [nS (km h3)] at hk;exact hk
theorem WK {ops:List Oper} {x y:Oper} (h:CL c ops x y=true) (δ:List D) (k:List D→Option Out) (r:Out) (hs:cJ c ops y δ (fun δ=>cJ c ops x δ k)=some r):cJ c ops x δ (fun δ=>cJ c ops y δ k)=some r:=by
  unfold CL at h;simp only [ZE] at h;obtain⟨⟨h1,h2⟩,h3⟩:=h;unfold Pc at h1;split at h1
  case h_2=>cases h1
  rename_i q t d hxg hyg hxo hyo hyd;split at h1
  case h_2=>cases h1
  rename_i n lv io r' f hkt hkd hqc;split at h1
  case h_2=>cases h1
  rename_i S hS;split at h1
  case h_2=>cases h1
  rename_i ags hags;simp only [ZE] at h1;obtain⟨h4,h5⟩:=h1;have e4:=aZ.1 h4;subst e4;have hyA:cf c y=some (.one [r'] d fun is=>(fQ fun x=>aa x (.ref 0 0)) is):=by
    simp only [cf,hyo,hyd,Le,hkt,hkd,aaj]
  have hw:wrS c y=d::fv d c.K 0:=by
    unfold wrS;rw [hyA]
  have hy:∀(δ:List D) (k:List D→Option Out),cJ c ops y δ k=(aa (nth δ r') (.ref 0 0)).bind fun z=>k (aj δ (d::fv d c.K 0) [z]):=by
    intro δ k;simp only [cJ,hyA,hyg];rw [bB];show(aa (nth δ r') (.ref 0 0)).bind (fun z=>dR δ (d::fv d c.K 0) [z] k)=_
    exact congrArg _ (funext fun z=>bP _ _ _ _)
  obtain⟨φ,hφ,hφr⟩:=rp c ops x;rw [hw] at h2 h3;have e2:∀l,φ (aj δ (d::fv d c.K 0) l)=φ δ:=fun l=>hφr _ _ (kJ fun s hs=>aD _ _ _ _ (km h2 s hs))
  have hlive:∀a:D,a ≠ .bad→aa a (.ref 0 0)=some (.ref 0 0):=fun a ha=>by cases a<;>first | exact absurd rfl ha | rfl
  have hbad:∀(a z:D),aa a (.ref 0 0)=some z→a ≠ .bad∧z = .ref 0 0:=fun a z h=>by
    cases a<;>first | (cases h;done) | (exact⟨(fun e=>by cases e),(aaB h).symm⟩)
  simp only [hφ,hy,e2] at hs ⊢;obtain⟨z,hz,hs⟩:=ZF.1 hs;obtain⟨l1,rfl⟩:=hbad _ _ hz;cases hp:φ δ with
  | none=>rw [hp] at hs;cases hs
  | some l =>
    rw [hp] at hs;simp only [ZL] at hs ⊢;have hm:r'∈dD ags:=by simpa [fx] using h5
    have hln:nth (aj δ (wrS c x) l) r' ≠ .bad:=by
      have hfx:cJ c ops x δ (fun _=>some (.nrm []))=some (.nrm []):=by rw [hφ,hp];rfl
      have hA:cf c x=Nl c x.dst q:=by simp only [cf,hxo]
      have hcl:∀A,cf c x=some A→mO c x.dst S q.args.toList=some A:=by
        intro A h;rw [hA] at h;unfold Nl at h;rw [hqc] at h;simp only [hS] at h;exact h
      have key:∀(hw:List Nat) (cw:List Nat) (os vs:List D) (T:List D),(hw.length=vs.length)→r'∉hw→r'∉aY c.K hw→cw.length=os.length→(∀u∈os,u≠D.bad)→T=vs++os→nth (aj δ (hw++(cw++aY c.K hw)) T) r' ≠ .bad:=by
        intro hw cw os vs T hl hn1 hn2 hl2 hos hT;subst hT;have gen:∀(ss:List Nat) (ds δ:List D),nth δ r' ≠ .bad→(∀m:Nat,ss[m]?=some r'→∃u,ds[m]?=some u∧u≠D.bad)→nth (aj δ ss ds) r'≠D.bad:=by
          intro ss;induction ss with
          | nil=>exact fun ds δ h _=>h
          | cons s ss ih =>
            intro ds δ h hm;cases ds with
            | nil =>
              have hs:s≠r':=fun e=>by
                obtain⟨u,h1,_⟩:=hm 0 (by rw [e];rfl);cases h1
              simp only [aj];refine ih _ _ (by rw [cK _ _ _ _ (Ne.symm hs)];exact h) fun m hm'=>?_
              obtain⟨u,h1,_⟩:=hm (m+1) (by simpa using hm');cases h1
            | cons v ds =>
              simp only [aj];refine ih _ _ ?_ fun m hm'=>?_
              · by_cases hs:s=r'
                · subst hs
                  obtain⟨u,h1,h2⟩:=hm 0 rfl;cases h1;rw [bH,if_pos]
                  · exact h2
                  · refine Nat.lt_of_not_le fun hge=>h ?_
                    rw [fp,ZI,ZZ hge];rfl
                · rw [cK _ _ _ _ (Ne.symm hs)]
                  exact h
              · obtain⟨u,h1,h2⟩:=hm (m+1) (by simpa using hm')
                exact⟨u,by simpa using h1,h2⟩
        refine gen _ _ _ l1 fun m hm'=>?_
        rcases aax m hw.length with hc | hc
        · rw [aau hc] at hm'
          exact absurd (aaH hm') hn1
        · rw [ZQ hc] at hm'
          rcases aax (m - hw.length) cw.length with hc2 | hc2
          · refine⟨os[m - hw.length]'(by omega),?_,hos _ (List.getElem_mem _)⟩
            rw [ZQ (by omega),←hl,ZM (by omega)]
          · rw [ZQ hc2] at hm'
            exact absurd (aaH hm') hn2
      have hnd:∀dd,r'∉aY c.K [dd]:=fun dd hmm=>by
        have h0:∀(K:List Kd),aY K [dd]=fv dd K 0:=fun K=>by simp [aY,gp]
        rw [h0] at hmm;obtain⟨_,h1⟩:=Hk _ _ _ hmm;rw [Nat.sub_zero,hkt] at h1;rcases h1 with h1 | h1<;>cases h1
      have hwr:wrS c x=match cf c x with
        | none=>[]
        | some (.one _ d _)=>d::fv d c.K 0
        | some (.many _ hw cw _)=>hw++(cw++aY c.K hw):=rfl
      have hfin:∀(hd:List Nat) (vs:List D→List D) (T:List D→List D→List D),(∀rs,(vs rs).length=hd.length)→r'∉hd→r'∉aY c.K hd→wrS c x=hd++(dD ags++aY c.K hd)→(∀rs us,T rs us=vs rs++mO.outs us (dD ags)) →
          (∀K,cJ c ops x δ K=gJ [] ags (ao δ (fX ags)) fun ds=>callK (S.f ds) fun rs us=>lvC (mO.outs us (dD ags)) (K (aj δ (hd++(dD ags++aY c.K hd)) (T rs us))))→nth (aj δ (wrS c x) l) r' ≠ .bad:=by
        intro hd vs T hvs hn1 hn2 hwx hT hK;have hK1:=hK (fun _=>some (.nrm []));rw [hfx,ir] at hK1;obtain⟨ds,hds,hK1⟩:=ZF.1 hK1.symm;simp only [aaC] at hK1;have hK2:=fun K=>hK K
        unfold callK at hK1;split at hK1
        · rename_i rs us hrs
          obtain⟨_,hlv⟩:=oZ hK1;have hval:∀K,cJ c ops x δ K=lvC (mO.outs us (dD ags)) (K (aj δ (hd++(dD ags++aY c.K hd)) (T rs us))):=by
            intro K;rw [hK K,ir,hds];simp only [ZL,aaC,hrs,callK]
          have hne:=key hd (dD ags) (mO.outs us (dD ags)) (vs rs) (T rs us) (hvs rs).symm hn1 hn2 (by unfold mO.outs;rw [Gn]) hlv (hT rs us);have h8:=hval (fun δ'=>some (.nrm δ'));rw [hφ,hp,ZL] at h8;have h9:=(oZ h8.symm).1;simp only [ZG,Out.nrm.injEq] at h9;rw [←h9];exact hne
        · cases hK1
      cases hAc:cf c x with
      | none=>simp only [cJ,hAc] at hfx;cases hfx
      | some A =>
        have hA2:=hcl A hAc;rw [hAc] at hwr;unfold mO at hA2;simp only [hags] at hA2
        repeat' split at hA2
        all_goals first
          | (cases hA2;done)
          | (cases hA2;exact hfin [] (fun _=>[]) (fun _ us=>mO.outs us (dD ags)) (fun _=>rfl) (by simp) (by simp [aY]) hwr (fun _ _=>rfl) (fun K=>by
              simp only [cJ,hAc,hxg,bB];exact congrArg (gJ [] ags _) (funext fun ds=>congrArg (callK (S.f ds)) (funext fun rs=>funext fun us=>congrArg (lvC _) ((bP _ _ _ _).trans (congrArg K (congrArg (fun s=>aj δ s _) ((gp _ _).trans (congrArg _ (gp _ _))))))))))
          | (cases hA2;exact hfin [_] (fun rs=>[.bad]) (fun rs us=>.bad::mO.outs us (dD ags)) (fun _=>rfl) (fun h=>by rw [aaq.1 h] at hm;simp_all [fx]) (hnd _) hwr (fun _ _=>rfl) (fun K=>by
              simp only [cJ,hAc,hxg,bB];exact congrArg (gJ [] ags _) (funext fun ds=>congrArg (callK (S.f ds)) (funext fun rs=>funext fun us=>congrArg (lvC _) ((bP _ _ _ _).trans (congrArg K (congrArg (fun s=>aj δ s _) ((gp _ _).trans (congrArg _ (gp _ _))))))))))
          | (cases hA2;exact hfin [_] (fun rs=>[nth rs 0]) (fun rs us=>nth rs 0::mO.outs us (dD ags)) (fun _=>rfl) (fun h=>by rw [aaq.1 h] at hm;simp_all [fx]) (hnd _) hwr (fun _ _=>rfl) (fun K=>by
              simp only [cJ,hAc,hxg,bB];exact congrArg (gJ [] ags _) (funext fun ds=>congrArg (callK (S.f ds)) (funext fun rs=>funext fun us=>congrArg (lvC _) ((bP _ _ _ _).trans (congrArg K (congrArg (fun s=>aj δ s _) ((gp _ _).trans (congrArg _ (gp _ _))))))))))
          | (cases hA2;exact hfin [_] (fun rs=>[.tup rs]) (fun rs us=>.tup rs::mO.outs us (dD ags)) (fun _=>rfl) (fun h=>by rw [aaq.1 h] at hm;simp_all [fx]) (hnd _) hwr (fun _ _=>rfl) (fun K=>by
              simp only [cJ,hAc,hxg,bB];exact congrArg (gJ [] ags _) (funext fun ds=>congrArg (callK (S.f ds)) (funext fun rs=>funext fun us=>congrArg (lvC _) ((bP _ _ _ _).trans (congrArg K (congrArg (fun s=>aj δ s _) ((gp _ _).trans (congrArg _ (gp _ _))))))))))
    rw [hlive _ hln];simp only [ZL];rw [nS (km h3)];exact hs
theorem Sc {ops:List Oper} {x y:Oper} (h:KY c ops x y=true) (δ:List D) (k:List D→Option Out) (r:Out) (hs:cJ c ops x δ (fun δ=>cJ c ops y δ k)=some r):cJ c ops y δ (fun δ=>cJ c ops x δ k)=some r:=by
 unfold KY at h;simp only [ZX] at h;rcases h with (((h | h) | h) | h) | h
 ·exact(Pi h δ k).symm.trans hs
 ·exact(Qj h δ k).symm.trans hs
 ·exact(Qj h δ k).trans hs
 ·exact Wt h δ k r hs
 ·exact WK h δ k r hs
theorem Rw {ops:List Oper} {o:Oper} {k k':List D→Option Out} {δ:List D} {r:Out} (hk:∀δ,k δ=some r→k' δ=some r) (h:cJ c ops o δ k=some r):cJ c ops o δ k'=some r:=by
 obtain⟨φ,hφ,_⟩:=rp c ops o;rw [hφ] at h ⊢;obtain⟨l,hl,h⟩:=ZF.1 h;rw [hl];exact hk _ h
theorem zZ {ops:List Oper} {o:Oper} {k:List D→Option Out} {r:Out}:∀(pre post:List Oper) (δ:List D),(∀q∈pre,KY c ops q o=true)→ka c ops (pre++o::post) δ k=some r→cJ c ops o δ (fun δ=>ka c ops (pre++post) δ k)=some r
 | [],post,δ,_,h=>h
 | q::pre,post,δ,h,hr=>by
  simp only [aaR,ka] at hr ⊢;exact Sc (h q (by simp)) δ _ r (Rw (fun δ' h'=>zZ pre post δ' (fun q' hq'=>h q' (by simp [hq'])) h') hr)
def left (ops:List Oper) (listed:Array Bool):List Oper:=(ops.zipIdx.filter fun p=>!listed.getD p.2 true).map (·.1)
theorem Inv.drawn (h:Inv c B X w0 F0 F O a w δ) (n:Nat):Inv c B X w0 F0 F O a {w with drawn:=n} δ :=
 h.step (w':={w with drawn:=n}) (fun _=>False) rfl rfl rfl (fun _ _=>⟨rfl,.inl rfl⟩) (fun _ hb=>hb) (fun _ _=>rfl) (fun _ _ hp _=>⟨hp,rfl⟩) (fun _ _ _ hv hb=>⟨rfl,(h.root hv hb).2⟩) (fun _ hf=>hf.elim) h.fl h.ol (fun _ hb=>.inl hb) (aag _) rfl rfl rfl (fun _ _ _=>rfl)
theorem Ha {l:List Oper} {i:Nat} {o:Oper} (h:l[i]?=some o):l.zipIdx=(l.take i).zipIdx++(o,i)::(l.drop (i+1)).zipIdx (i+1):=by
 have hi:i<l.length:=(ZJ.1 h).1;have e:l=l.take i++(o::l.drop (i+1)):=by
  have h1:l[i]=o:=(ZJ.1 h).2
  conv=>lhs;rw [←List.take_append_drop i l,aav hi,h1]
 conv=>lhs;rw [e]
 rw [List.zipIdx_append,List.zipIdx_cons];have:(l.take i).length=i:=by rw [aay];omega
 simp [this]
theorem GV {l:List Oper} {listed:Array Bool} {i:Nat} {o:Oper} (h:l[i]?=some o) (hn:listed.getD i true=false) (hsz:i<listed.size) :
  left l listed=(((l.take i).zipIdx.filter fun p=>!listed.getD p.2 true).map (·.1))++o::((((l.drop (i+1)).zipIdx (i+1)).filter fun p=>!listed.getD p.2 true).map (·.1)) ∧
  left l (listed.setIfInBounds i true)=(((l.take i).zipIdx.filter fun p=>!listed.getD p.2 true).map (·.1))++((((l.drop (i+1)).zipIdx (i+1)).filter fun p=>!listed.getD p.2 true).map (·.1)):=by
 have hne:∀j,j≠i→(listed.setIfInBounds i true).getD j true=listed.getD j true:=fun j hj=>by
  simp only [ZH,aaa,Ne.symm hj,if_false]
 have hi:(listed.setIfInBounds i true).getD i true=true:=by
  simp [ZH,hsz]
 unfold left;rw [Ha h];simp only [List.filter_append,aaT,List.filter_cons,hn,hi,aan,aaK,if_true,ZN,if_false,aaL];refine⟨trivial,?_⟩
 congr 2
 ·refine aaP fun p hp=>?_
  have:=ZU hp;rw [aay] at this;rw [hne p.2 (by omega)]
 ·refine aaP fun p hp=>?_
  have:=List.le_snd_of_mem_zipIdx hp;rw [hne p.2 (by omega)]
def Cl (ops:Array Oper) (listed:Array Bool):Prop:=∀(m:Nat) (q:Oper),ops[m]?=some q→listed.getD m false=true→∀e∈q.after,ZV .any e=true→listed.getD e.on false=true
theorem Gd {ops:Array Oper} {listed:Array Bool} (hc:Cl ops listed) {j:Nat}:∀(n:Nat) (o:Oper),(∀e∈o.after,ZV .any e=true→listed.getD e.on false=true)→bef ops.toList j n o=true→listed.getD j false=true
 | 0,_,_,h=>by simp [bef] at h
 | n+1,o,ho,h=>by
  simp only [bef,List.any_eq_true,ZE,ZX] at h;obtain⟨e,he,hb,h⟩:=h;have hl:=ho e (by simpa using he) hb;rcases h with h | h
  ·rw [←aZ.1 h]
   exact hl
  ·split at h
   ·rename_i q hq
    rw [AA,aai] at hq;exact Gd hc n q (hc e.on q hq hl) h
   ·cases h
theorem FU {listed:Array Bool} {i x:Nat} (h:listed.getD x false=true):(listed.setIfInBounds i true).getD x false=true:=by
 rw [ZH] at h ⊢;rw [aaa];split
 ·split<;>rename_i h1 h2
  ·rfl
  ·subst h1
   rw [Array.getElem?_eq_none (by omega)] at h;cases h
 ·exact h
theorem Yv {ops:Array Oper} {listed:Array Bool} (hc:Cl ops listed) {i:Nat} {o:Oper} (ho:ops[i]?=some o) (hed:∀e∈o.after,ZV .any e=true→listed.getD e.on false=true):Cl ops (listed.setIfInBounds i true):=by
 intro m q hq hm e he hb;by_cases hmi:m=i
 ·subst hmi
  rw [ho] at hq;cases hq;exact FU (hed e he hb)
 ·refine FU (hc m q hq ?_ e he hb)
  rw [ZH,aaa,if_neg (fun e=>hmi e.symm)] at hm;rw [ZH];exact hm
theorem PL (hT:okT P c.T=true) (hS:∀f S,dr c.S f=some S→aw c.G P f S) {ops:Array Oper} (hany:QF c ops.toList=true) {V:Nat→Value} {Q:Exit→Act→World→Prop} {k:List D→Option Out} {r:Out} (hQ:∀a w,iO c B X w0 F0 V k r a w→Q .normal a w)
  (hok:∀o∈ops.toList,RD c ops.toList o=true) (hI:Inv c B X w0 F0 F O a w δ) (hV:IoV c V a) (hg:ka c ops.toList ops.toList δ k=some r):wpAny P .any ops Q ops.size (ZO ops.size false) a {w with drawn:=w.drawn+1}:=by
 have hedge:∀(i:Nat) (o:Oper),ops[i]?=some o→(∀e∈o.after,ZV .any e=true→e.on<i)∧∀(j:Nat) (q:Oper),j<i→ops[j]?=some q→bef ops.toList j 3 o=true∨KY c ops.toList q o=true:=by
  intro i o ho;have h0:=hany;unfold QF at h0;rw [ZR] at h0;have hl:ops.toList[i]?=some o:=by simpa using ho
  have h1:=h0 (o,i) (by rw [Ha hl];simp);simp only [ZE,ZX,ZS,decide_eq_true_eq,ZR] at h1;refine⟨fun e he hb=>(h1.1 e (by simpa using he)).resolve_left (by rw [hb];simp),fun j q hj hq=>?_⟩
  have hq':(ops.toList.take i)[j]?=some q:=by
   rw [aaz hj];simpa using hq
  exact(h1.2 (q,j) (by rw [Ha hq'];simp)).symm
 have main:∀(fuel:Nat) (listed:Array Bool) (F:Nat→Prop) (O:Nat→Option (Nat × Nat)) (a:Act) (w:World) (δ:List D),listed.size=ops.size→Cl ops listed→(left ops.toList listed).length≤fuel→Inv c B X w0 F0 F O a w δ→IoV c V a →
   ka c ops.toList (left ops.toList listed) δ k=some r→wpAny P .any ops Q fuel listed a w:=by
  intro fuel;have ready_mem:∀(listed:Array Bool) (i:Nat),i∈aae .any ops listed→∃o,ops[i]?=some o∧listed.getD i true=false∧∀e∈o.after,ZV .any e=true→listed.getD e.on false=true:=by
   intro listed i hi;unfold aae at hi;rw [aaD] at hi;obtain⟨hr,hi⟩:=hi;simp only [ZE,ZS] at hi;cases ho:ops[i]? with
   | none=>rw [ho] at hi;simp at hi
   | some o =>
    rw [ho] at hi;simp only [aaE,aaA,aah,ZX,ZS] at hi;exact⟨o,rfl,hi.1,fun e he hb=>(hi.2 e he).resolve_left (by rw [hb];simp)⟩
  have empty:∀(listed:Array Bool),listed.size=ops.size→aae .any ops listed=[]→left ops.toList listed=[]:=by
   intro listed hsz hr;have all:∀i,i<ops.size→listed.getD i true=true:=by
    intro i;induction i using Nat.strongRecOn with
    | _ i ih =>
     intro hi;cases hl:listed.getD i true with
     | true=>rfl
     | false =>
      exfalso;have ho:ops[i]?=some ops[i]:=aad hi;have hmem:i∈aae .any ops listed:=by
       unfold aae;rw [aaD];refine⟨List.mem_range.2 hi,?_⟩
       rw [hl,ho];simp only [aan,Bool.true_and,aaE,aaA,aah,ZX];intro e he;cases hb:ZV .any e
       ·exact .inl rfl
       right
       have h1:=(hedge i _ ho).1 e he hb;have h2:=ih e.on h1 (by omega);have h3:e.on<listed.size:=by omega
       rw [ZH,aad h3] at h2 ⊢;exact h2
      rw [hr] at hmem;cases hmem
   unfold left;rw [List.map_eq_nil_iff,List.filter_eq_nil_iff];rintro⟨o,i⟩ hp;have hi:=ZU hp;simp only [ZS,Bool.not_eq_false];exact all i (by simpa using hi)
  induction fuel with
  | zero =>
   intro listed F O a w δ hsz hcl hl hI hV hg;have h0:left ops.toList listed=[]:=aam (by omega);rw [h0] at hg;refine⟨?_,hQ a w ⟨⟨F,O,δ,hI,hg⟩,hV⟩⟩
   cases hr:aae .any ops listed with
   | nil=>rfl
   | cons i rest =>
    exfalso;obtain⟨o,ho,hn,_⟩:=ready_mem listed i (by rw [hr];simp);have hi:i<ops.size:=(aar.1 ho).1;have:=(GV (l:=ops.toList) (by simpa using ho) hn (by omega)).1;rw [h0] at this;simp at this
  | succ fuel ihf =>
   intro listed F O a w δ hsz hcl hl hI hV hg;refine⟨fun hr=>?_,fun i hi=>?_⟩
   ·rw [empty listed hsz hr] at hg
    exact hQ a w ⟨⟨F,O,δ,hI,hg⟩,hV⟩
   ·obtain⟨o,ho,hn,hed⟩:=ready_mem listed i hi
    have hilt:i<ops.size:=(aar.1 ho).1;obtain⟨e1,e2⟩:=GV (l:=ops.toList) (by simpa using ho) hn (by omega);rw [e1] at hg hl;have hfront:∀q∈(((ops.toList.take i).zipIdx.filter fun p=>!listed.getD p.2 true).map (·.1)),KY c ops.toList q o=true:=by
     intro q hq
     ·simp only [List.mem_map,aaD] at hq
      obtain⟨⟨q',j⟩,⟨hm1,hm2⟩,rfl⟩:=hq;have hj:=ZU hm1;rw [aay] at hj;have hget:ops[j]?=some q':=by
       have:=List.mem_zipIdx_iff_getElem?.1 hm1;simp only at this;rw [aaz (by omega)] at this;simpa using this
      rcases(hedge i o ho).2 j q' (by omega) hget with hbf | h
      ·exfalso
       have h3:=Gd hcl 3 o hed hbf;simp only [ZS] at hm2;have hjlt:j<listed.size:=by omega
       rw [ZH,aad hjlt] at h3 hm2;simp only [aaA] at h3 hm2;rw [h3] at hm2;cases hm2
      ·exact h
    ·replace hg:=zZ _ _ _ hfront hg
     rw [←e2] at hg;have h:=Hu hT hS (ops:=ops) (hok o (by simpa using Array.mem_of_getElem? ho)) hI hV hg Q;have ih:∀a w,iO c B X w0 F0 V (fun δ'=>ka c ops.toList (left ops.toList (listed.setIfInBounds i true)) δ' k) r a w→wpAny P .any ops Q fuel (listed.setIfInBounds i true) a w:=by
      rintro a w ⟨⟨F',O',δ',hI',hk'⟩,hV'⟩;exact ihf _ F' O' a w δ' (by simpa using hsz) (Yv hcl ho hed) (by rw [e2];simp only [List.length_append,List.length_cons] at hl ⊢;omega) hI' hV' hk'
     unfold wpOp;rw [ho];simp only;split
     ·rename_i hw
      rw [if_pos hw] at h;exact .inl (Oper.wp_mono ih h)
     ·rename_i hw
      rw [if_neg hw] at h;exact ih _ _ h
 have hleft:left ops.toList (ZO ops.size false)=ops.toList:=by
  unfold left;rw [List.filter_eq_self.2]
  ·simp
  ·rintro⟨o,i⟩ hp
   have hi:=ZU hp;have hi':i<ops.size:=by simpa using hi
   simp [ZH,hi']
 refine main ops.size _ F O a _ δ (by simp) (fun m q _ hm=>?_) ?_ (hI.drawn _) hV ?_
 ·rw [ZH,Array.getElem?_replicate] at hm
  split at hm<;>cases hm
 ·rw [hleft];simp
 ·rw [hleft];exact hg
theorem Kz (hT:okT P c.T=true) (hS:∀f S,dr c.S f=some S→aw c.G P f S) {ops:Array Oper} (hany:QF c ops.toList=true) (hm:P.follows .mixedOrders=true) {V:Nat→Value} {Q:Exit→Act→World→Prop} {k:List D→Option Out} {r:Out} (hQ:∀a w,iO c B X w0 F0 V k r a w→Q .normal a w)
  (hok:∀o∈ops.toList,RD c ops.toList o=true) (hI:Inv c B X w0 F0 F O a w δ) (hV:IoV c V a) (hg:ka c ops.toList ops.toList δ k=some r) (id:Nat):(Code.region id ops true).wp P Q a w:=wp_region_any hm (PL hT hS hany hQ hok hI hV hg)
theorem lq:∀(l:List ResultVar) (δ:List D) (k:List D→Option Out),oa c δ l k=(oa c δ l fun rs=>some (.nrm rs)).bind fun o=>match o with
  | .nrm rs=>k rs
  | _=>none
 | [],δ,k=>rfl
 | .tmp t::l,δ,k=>by
  simp only [oa,eM];rw [lq l δ fun rs=>k (nth δ t::rs),lq l δ fun rs=>some (.nrm (nth δ t::rs))];cases h:oa c δ l fun rs=>some (.nrm rs) with
  | none=>rfl
  | some o=>cases o<;>rfl
 | .cell s t::l,δ,k=>by
  simp only [oa];split
  ·rename_i i _
   simp only [eM];cases ba i.agg i.n 0 (nth δ s) with
   | none=>rfl
   | some y =>
    simp only [ZL];rw [lq l δ fun rs=>k (y::rs),lq l δ fun rs=>some (.nrm (y::rs))];cases h:oa c δ l fun rs=>some (.nrm rs) with
    | none=>rfl
    | some o=>cases o<;>rfl
  ·rfl
theorem zy:∀{us:List D} {o:Option Out} {r:Out},usK us o=some r↔(∀u∈us,u ≠ .bad)∧o=some r
 | [],o,r=>by simp [usK]
 | u::us,o,r=>by
  simp only [usK,ZF,aaJ,forall_eq_or_imp];constructor
  ·rintro⟨y,h1,h2⟩
   obtain⟨h3,h4⟩:=zy.1 h2;exact⟨⟨(bN h1).1,h3⟩,h4⟩
  ·rintro⟨⟨h1,h2⟩,h3⟩
   refine⟨u,?_,zy.2 ⟨h2,h3⟩⟩
   cases u<;>first | rfl | exact absurd rfl h1
theorem gg {δ:List D} {k:Out→Option Out} {r:Out} (h:Nk c δ k=some r):∃rs,oa c δ c.res (fun rs=>some (.nrm rs))=some (.nrm rs)∧(∀u∈ao δ c.ios,u ≠ .bad)∧k (.ret rs (ao δ c.ios))=some r:=by
 unfold Nk at h;simp only [bB] at h;rw [lq] at h;cases hh:oa c δ c.res fun rs=>some (.nrm rs) with
 | none=>rw [hh] at h;cases h
 | some o =>
  rw [hh] at h;cases o with
  | nrm rs =>
   simp only [ZL] at h;obtain⟨h1,h2⟩:=zy.1 h;exact⟨rs,rfl,h1,h2⟩
  | ext i δ=>cases h
  | ret x y=>cases h
theorem vz {δ:List D} {k:Out→Option Out} {r:Out} {rs:List D} (h1:oa c δ c.res (fun rs=>some (.nrm rs))=some (.nrm rs)) (h2:∀u∈ao δ c.ios,u ≠ .bad) (hk:k (.ret rs (ao δ c.ios))=some r):Nk c δ k=some r:=by
 unfold Nk;simp only [bB];rw [lq,h1];simp only [ZL];exact zy.2 ⟨h2,hk⟩
def carry (n:Nat) (hl:List Nat) (δ:List D):List D:=aj (Hj n) hl (ao δ hl)
theorem AR:∀n,Hj n=aao n .bad
 | 0=>rfl
 | n+1=>by simp [Hj,AR n,aaM]
theorem SV (n s:Nat):nth (Hj n) s = .bad:=by
 rw [fp,AR,ZI,List.getElem?_replicate];split<;>rfl
theorem kc (n:Nat) (hl:List Nat) (δ:List D) (k:List D→Option Out):gG n hl (ao δ hl) k=k (carry n hl δ):=by
 unfold gG carry;rw [bP,sq _ _ 0 (by rw [oX];omega),aap]
theorem oA (δ:List D):∀(l:List Nat),ao δ l=l.map (nth δ)
 | []=>rfl
 | _::l=>by simp [ao,oA δ l]
theorem Cg {hl:List Nat} {δ:List D} (s:Nat):nth (carry δ.length hl δ) s=if s∈hl then nth δ s else .bad:=by
 unfold carry;rw [oA,pT];have hlen:(Hj δ.length).length=δ.length:=by rw [AR];simp
 rw [hlen,SV];split
 ·split
  ·rfl
  ·rename_i h
   by_cases hb:nth δ s = .bad
   ·exact hb.symm
   ·exact absurd (Py hb) h
 ·rfl
theorem Inv.carry (h:Inv c B X w0 F0 F O a w δ) {hl:List Nat} (hk:kC c.K hl=true):Inv c B X w0 F0 F O a w (carry (jt c.K) hl δ):=by
 have e:jt c.K=δ.length:=by rw [lV,h.ld]
 rw [e];refine h.forget ?_ (fun s=>?_) (fun s r hv hb=>?_)
 ·unfold V.carry;rw [dz,AR];simp
 ·rw [Cg]
  split
  ·exact .inl rfl
  ·exact .inr rfl
 ·rw [Cg] at hb
  split at hb
  case isFalse=>exact absurd rfl hb
  rename_i hs;unfold kC at hk;rw [ZR] at hk;have hks:=hk s hs;have hr:r∈hl:=by
   rcases hv with e | e<;>rw [e] at hks<;>simpa [fx] using hks
  rw [Cg,if_pos hr];exact(h.root hv hb).2
theorem gC {V:Nat→Value} {k k':List D→Option Out} {r r':Out} (h:iO c B X w0 F0 V k r a w) (hk:∀δ F O,Inv c B X w0 F0 F O a w δ→k δ=some r→k' δ=some r'):iO c B X w0 F0 V k' r' a w:=by
 obtain⟨⟨F,O,δ,h1,h2⟩,h3⟩:=h;exact⟨⟨F,O,δ,h1,hk δ F O h1 h2⟩,h3⟩
theorem DL {V:Nat→Value} {b:Code} {bid:Nat} {hl xl:List Nat} (h1:kC c.K hl=true) (h2:kC c.K xl=true)
  (ih:∀(F:Nat→Prop) (O:Nat→Option (Nat × Nat)) (a:Act) (w:World) (δ:List D),Inv c B X w0 F0 F O a w δ→IoV c V a→∀(k:Out→Option Out) (r:Out),den c bid b δ k=some r→∀Q,(∀e a w,LP c B X w0 F0 V k r e a w→Q e a w)→b.wp P Q a w)
  {k:Out→Option Out} {r:Out} {Q:Exit→Act→World→Prop} (hQ:∀e a w,LP c B X w0 F0 V k r e a w→Q e a w) {o:Out}
  (ho:outK o (fun i s=>gG (jt c.K) xl s fun δ=>k (.ext i δ)) (fun x y=>k (.ret x y))=some r):∀(n:Nat) (F:Nat→Prop) (O:Nat→Option (Nat × Nat)) (a:Act) (w:World) (δ:List D),Inv c B X w0 F0 F O a w δ→IoV c V a →
  iter (fun s=>gG (jt c.K) hl s fun δ=>den c bid b δ (bS hl xl)) n (ao δ hl)=some o→Code.rounds P b Q n a w
 | 0,_,_,_,_,_,_,_,h=>by cases h
 | n+1,F,O,a,w,δ,hI,hV,h=>by
  simp only [iter,kc] at h;rw [rounds_succ];have hI':=hI.carry h1;cases hb:den c bid b (carry (jt c.K) hl δ) (bS hl xl) with
  | none=>rw [hb] at h;cases h
  | some ob =>
   rw [hb] at h;refine ih F O a w _ hI' hV _ ob hb _ (fun e a' w' hp=>?_)
   cases ob with
   | nrm s' =>
    simp only at h;cases e with
    | normal =>
     obtain⟨⟨F',O',δ',g1,g2⟩,g3⟩:=hp;simp only [bS,bB,ZG,Out.nrm.injEq] at g2;rw [←g2] at h;exact DL h1 h2 ih hQ ho n F' O' a' w' δ' g1 g3 h
    | exit i =>
     obtain⟨⟨F',O',δ',g1,g2⟩,g3⟩:=hp;simp [bS,bB] at g2
    | ret =>
     obtain⟨⟨F',O',δ',g1,g2⟩,g3⟩:=hp;obtain⟨rs,_,_,g4⟩:=gg g2;simp [bS] at g4
    | _=>exact hp.elim
   | ext i l =>
    simp only [ZG] at h;subst h;cases e with
    | normal =>
     obtain⟨⟨F',O',δ',g1,g2⟩,g3⟩:=hp;simp [bS,bB] at g2
    | exit j =>
     obtain⟨⟨F',O',δ',g1,g2⟩,g3⟩:=hp;simp only [bS,bB,ZG,Out.ext.injEq] at g2;obtain⟨rfl,rfl⟩:=g2;simp only [outK,kc] at ho;exact hQ (.exit j) _ _ ⟨⟨F',O',_,g1.carry h2,ho⟩,g3⟩
    | ret =>
     obtain⟨⟨F',O',δ',g1,g2⟩,g3⟩:=hp;obtain⟨rs,_,_,g4⟩:=gg g2;simp [bS] at g4
    | _=>exact hp.elim
   | ret x y =>
    simp only [ZG] at h;subst h;cases e with
    | normal =>
     obtain⟨⟨F',O',δ',g1,g2⟩,g3⟩:=hp;simp [bS,bB] at g2
    | exit j =>
     obtain⟨⟨F',O',δ',g1,g2⟩,g3⟩:=hp;simp [bS,bB] at g2
    | ret =>
     obtain⟨⟨F',O',δ',g1,g2⟩,g3⟩:=hp;obtain⟨rs,g5,g6,g4⟩:=gg g2;simp only [bS,ZG,Out.ret.injEq] at g4;obtain⟨rfl,rfl⟩:=g4;exact hQ .ret _ _ ⟨⟨F',O',δ',g1,vz g5 g6 ho⟩,g3⟩
    | _=>exact hp.elim
theorem jg (hT:okT P c.T=true) (hS:∀f S,dr c.S f=some S→aw c.G P f S) (hm:P.follows .mixedOrders=true) {V:Nat→Value}:∀(b:Code) (bid:Nat),dV c bid b=true→∀(F:Nat→Prop) (O:Nat→Option (Nat × Nat)) (a:Act) (w:World) (δ:List D),
  Inv c B X w0 F0 F O a w δ→IoV c V a→∀(k:Out→Option Out) (r:Out),den c bid b δ k=some r→∀Q,(∀e a w,LP c B X w0 F0 V k r e a w→Q e a w)→b.wp P Q a w
 | .skip,bid,_,F,O,a,w,δ,hI,hV,k,r,hg,Q,hQ=>wp_skip (hQ _ _ _ ⟨⟨F,O,δ,hI,hg⟩,hV⟩)
 | .region id ops d,bid,hok,F,O,a,w,δ,hI,hV,k,r,hg,Q,hQ=>by
  simp only [dV,ZE,ZR] at hok;have hq:∀a w,iO c B X w0 F0 V (fun δ=>k (.nrm δ)) r a w→Q .normal a w:=fun a w h=>hQ _ _ _ h
  cases d
  ·exact wp_region_list (yi hT hS hq ops.toList hok.1 F O a w δ hI hV hg)
  ·exact Kz hT hS (by simpa using hok.2) hm hq hok.1 hI hV hg id
 | .seq x y,bid,hok,F,O,a,w,δ,hI,hV,k,r,hg,Q,hQ=>by
  simp only [dV,ZE] at hok;refine wp_seq (jg hT hS hm x bid hok.1 F O a w δ hI hV _ r hg _ (fun e a' w' hp=>?_))
  cases e with
  | normal =>
   obtain⟨⟨F',O',δ',hI',hk'⟩,hV'⟩:=hp;exact jg hT hS hm y bid hok.2 F' O' a' w' δ' hI' hV' k r hk' Q hQ
  | exit id=>exact hQ _ _ _ hp
  | ret=>exact hQ _ _ _ hp
  | _=>exact hp.elim
 | .cond x t e,bid,hok,F,O,a,w,δ,hI,hV,k,r,hg,Q,hQ=>by
  simp only [dV,ZE] at hok;obtain⟨⟨hlv,hok1⟩,hok2⟩:=hok;have hop:=hI.opd (bO.1 hlv);have key:ifD (opD δ x) (den c bid t δ k) (den c bid e δ k)=some r:=by
   simp only [den] at hg;cases x with
   | tmp s=>simpa only [opC,eM,opD] using hg
   | const v=>simpa only [opC,opD] using hg
   | func f=>simpa only [opC,opD] using hg
   | global g=>simp [opC] at hg
  unfold ifD at key;split at key
  ·rename_i hd
   rw [hd] at hop;exact wp_cond_true (br hop).1 (jg hT hS hm t bid hok1 F O a w δ hI hV k r key Q hQ)
  ·rename_i hd
   rw [hd] at hop;exact wp_cond_false (br hop).1 (jg hT hS hm e bid hok2 F O a w δ hI hV k r key Q hQ)
  ·cases key
 | .block id b,bid,hok,F,O,a,w,δ,hI,hV,k,r,hg,Q,hQ=>by
  simp only [dV] at hok;refine wp_block (jg hT hS hm b id hok F O a w δ hI hV _ r hg _ (fun e a' w' hp=>?_))
  cases e with
  | normal=>exact hQ .normal _ _ hp
  | exit i =>
   simp only [Exit.inBlock];have hp':iO c B X w0 F0 V (fun δ=>Ej id (.ext i δ) k) r a' w':=hp;split
   ·rename_i hi
    refine hQ .normal _ _ (gC hp' fun δ F O _ h=>?_)
    simp only [Ej] at h;rw [aZ.2 (by simpa using hi)] at h;exact h
   ·rename_i hi
    refine hQ (.exit i) _ _ (gC hp' fun δ F O _ h=>?_)
    simp only [Ej] at h;cases hb:ZP i id
    ·rw [hb] at h;exact h
    ·exact absurd (by simpa using aZ.1 hb) hi
  | ret=>exact hQ .ret _ _ hp
  | _=>exact hp.elim
 | .loop b,bid,hok,F,O,a,w,δ,hI,hV,k,r,hg,Q,hQ=>by
  simp only [dV,ZE] at hok;obtain⟨hok1,hok2⟩:=hok;simp only [den] at hg;cases hH:dr c.H bid with
  | none=>rw [hH] at hg;cases hg
  | some hx =>
   obtain⟨hl,xl⟩:=hx;rw [hH] at hg hok2;simp only [ZE] at hok2;simp only [bB] at hg;obtain⟨o',h1,h2⟩:=ZF.1 hg;unfold aQ at h1;split at h1
   case isFalse=>cases h1
   rename_i hex;refine wp_loop_rounds (ZW hex) ?_
   refine DL (hl:=hl) (xl:=xl) hok2.1 hok2.2 (fun F O a w δ hI hV k r hg Q hQ=>jg hT hS hm b bid hok1 F O a w δ hI hV k r hg Q hQ) hQ h2 _ F O a w δ hI hV h1
 | .exit id,bid,_,F,O,a,w,δ,hI,hV,k,r,hg,Q,hQ=>wp_exit (hQ _ _ _ ⟨⟨F,O,δ,hI,hg⟩,hV⟩)
 | .ret,bid,_,F,O,a,w,δ,hI,hV,k,r,hg,Q,hQ=>wp_ret (hQ _ _ _ ⟨⟨F,O,δ,hI,hg⟩,hV⟩)
 | .label _,_,hok,_,_,_,_,_,_,_,_,_,_,_,_=>by simp [dV] at hok
 | .goto _,_,hok,_,_,_,_,_,_,_,_,_,_,_,_=>by simp [dV] at hok
 | .scope _,_,hok,_,_,_,_,_,_,_,_,_,_,_,_=>by simp [dV] at hok
end
end Go.V

namespace Go.V
open Go.RowKit
set_option maxRecDepth 100000
def yp:List ResultVar→List Nat
 | []=>[]
 | .tmp t::l=>t::yp l
 | .cell _ _::l=>yp l
def cr (c:Cx):List ResultVar→List Kd→Bool
 | [],[]=>true
 | .tmp t::l,.dat lv::m=>(match aq c.K t with
  | .dat l'=>aaO l' lv
  | _=>false)&&cr c l m
 | .tmp t::l,.own z lv false::m=>(match aq c.K t with
  | .own z' l' false=>ZP z' z&&aaO l' lv
  | _=>false) && !lF t (yp l)&&cr c l m
 | .cell s t::l,.dat lv::m=>(match aq c.K s with
  | .box _ l' _=>aaO l' lv
  | _=>false)&&(dr c.T t).isSome&&cr c l m
 | _,_=>false
def tH:Nat→List Kd→List Nat
 | _,[]=>[]
 | i,k::ks=>if mW k then i::tH (i+1) ks else tH (i+1) ks
def eqK:Kd→Kd→Bool
 | .dat a,.dat b=>ZP a b
 | .own a b io,.own a' b' io'=>ZP a a'&&ZP b b'&&io==io'
 | .box a b io,.box a' b' io'=>ZP a a'&&ZP b b'&&io==io'
 | _,_=>false
def Ko:List Kd→List Kd→Bool
 | [],_=>true
 | k::ks,l::ls=>eqK k l&&Ko ks ls
 | _,_=>false
section
variable {P:Program} {c:Cx} {B:Nat} {X:Nat→Prop} {w0:World} {F0 F:Nat→Prop} {O:Nat→Option (Nat × Nat)} {a:Act} {w:World} {δ:List D}
def pb (tmps:Array Value):ResultVar→Sem Value
 | .tmp t=>pure (tmps.getD t undef)
 | .cell a t=>do loadVar t (←asAddr (tmps.getD a undef))
theorem Ym {k l:Kd} (h:eqK k l=true):k=l:=by
 unfold eqK at h;split at h
 ·rw [aZ] at h;rw [h]
 ·simp only [ZE,aZ,beq_iff_eq] at h
  obtain⟨⟨rfl,rfl⟩,rfl⟩:=h;rfl
 ·simp only [ZE,aZ,beq_iff_eq] at h
  obtain⟨⟨rfl,rfl⟩,rfl⟩:=h;rfl
 ·cases h
theorem vh:∀{ks ls:List Kd},Ko ks ls=true→ks.length≤ls.length∧∀(i:Nat),i<ks.length→aq ls i=aq ks i
 | [],_,_=>⟨by simp,by simp⟩
 | k::ks,l::ls,h=>by
  simp only [Ko,ZE] at h;obtain⟨h1,h2⟩:=vh h.2;refine⟨by simp;exact h1,fun i hi=>?_⟩
  cases i with
  | zero=>simp only [aq];exact(Ym h.1).symm
  | succ i=>simp only [aq];exact h2 i (by simpa using hi)
 | _::_,[],h=>by simp [Ko] at h
def Xw (B:Nat) (O:Nat→Option (Nat × Nat)) (res:List ResultVar) (j:Nat) (g:Nat):Prop:=B≤g∧∃t,res[j]?=some (.tmp t)∧O g=some (t,0)
theorem lJ {w:World} {F:Nat→Prop} {B:Nat} {own own':Nat→Prop} {k:Kd} {d:D} {y:Value} (ho:(∃z lv,k = .own z lv false)→∀g,own g→own' g) (h:KO w F B own k d y):KO w F B own' k d y:=by
 rcases h with h | h
 ·exact .inl h
 ·refine .inr ?_
  cases k with
  | own z lv io =>
   cases io
   ·exact h.own fun _ _ hg=>⟨ho ⟨z,lv,rfl⟩ _ hg.1,hg.2⟩
   ·exact h
  | _=>exact h
theorem vE (hT:okT P c.T=true) (hI:Inv c B X w0 F0 F O a w δ):∀(res:List ResultVar) (rm:List Kd) (rs:List D),cr c res rm=true→oa c δ res (fun rs=>some (.nrm rs))=some (.nrm rs) →
  ∃vs:List Value,(res.mapM (pb a.tmps)).run P w = .ok vs w∧vs.length=rm.length∧rs.length=rm.length∧∀j,KO w F B (Xw B O res j) (aq rm j) (nth rs j) (vs.getD j undef)
 | [],[],rs,_,h=>by
  simp only [oa,ZG,Out.nrm.injEq] at h;subst h;exact⟨[],by simp,rfl,rfl,fun j=>.inl (by simp [nth])⟩
 | .tmp t::l,.dat lv::m,rs,hok,h=>by
  simp only [cr,ZE] at hok;simp only [oa,eM] at h;rw [lq] at h;obtain⟨o,h1,h2⟩:=ZF.1 h;split at h2
  case h_2=>cases h2
  rename_i rs';simp only [ZG,Out.nrm.injEq] at h2;subst h2;obtain⟨vs,g1,g2,g3,g4⟩:=vE hT hI l m rs' hok.2 h1;refine⟨a.tmps.getD t undef::vs,by simp [aaG,pb,g1],by simp [g2],by simp [g3],fun j=>?_⟩
  cases j with
  | zero =>
   simp only [aq,nth,aac];have hk:=hok.1;split at hk
   case h_2=>cases hk
   rename_i l' hkt;exact(iY (bO.1 hk) (hI.dat hkt))
  | succ j =>
   refine lJ (fun _ g hg=>?_) (g4 j)
   obtain⟨e1,t',e2,e3⟩:=hg;exact⟨e1,t',by simpa using e2,e3⟩
 | .tmp t::l,.own z lv false::m,rs,hok,h=>by
  simp only [cr,ZE] at hok;simp only [oa,eM] at h;rw [lq] at h;obtain⟨o,h1,h2⟩:=ZF.1 h;split at h2
  case h_2=>cases h2
  rename_i rs';simp only [ZG,Out.nrm.injEq] at h2;subst h2;obtain⟨vs,g1,g2,g3,g4⟩:=vE hT hI l m rs' hok.2 h1;refine⟨a.tmps.getD t undef::vs,by simp [aaG,pb,g1],by simp [g2],by simp [g3],fun j=>?_⟩
  cases j with
  | zero =>
   simp only [aq,nth,aac];have hk:=hok.1.1;split at hk
   case h_2=>cases hk
   rename_i z' l' hkt;simp only [ZE,aZ,bO] at hk;obtain⟨rfl,hle⟩:=hk;by_cases hb:nth δ t = .bad
   ·exact .inl hb
   ·exact .inr (dv (mM hle) (fun _ _=>rfl) (fun g _ hg=>⟨⟨⟨hg.2 rfl,t,rfl,hg.1⟩,hg.2 rfl⟩,rfl⟩) (hI.own hkt hb))
  | succ j =>
   refine lJ (fun _ g hg=>?_) (g4 j)
   obtain⟨e1,t',e2,e3⟩:=hg;exact⟨e1,t',by simpa using e2,e3⟩
 | .cell s t::l,.dat lv::m,rs,hok,h=>by
  simp only [cr,ZE] at hok;simp only [oa] at h;split at h
  case h_2=>cases h
  rename_i i hi;simp only [eM] at h;obtain⟨y,hy,h⟩:=ZF.1 h;rw [lq] at h;obtain⟨o,h1,h2⟩:=ZF.1 h;split at h2
  case h_2=>cases h2
  rename_i rs';simp only [ZG,Out.nrm.injEq] at h2;subst h2;obtain⟨vs,g1,g2,g3,g4⟩:=vE hT hI l m rs' hok.2 h1;have hk:=hok.1.1;split at hk
  case h_2=>cases hk
  rename_i n l' io hks;rw [bO] at hk;have hb:nth δ s ≠ .bad:=by
   intro e;rw [e] at hy;simp [ba] at hy
  obtain⟨mm,us,g,e,hd',a1,a2,a3,a4,a5,a6⟩:=hI.box hks hb;rw [hd'] at hy;simp only [ba,aap] at hy;have hcell:dQ w g 0 us:=qY a2 (fun i u hu=>by simpa using hu);obtain⟨v,hv,hr⟩:=Ax (P:=P) (tok hT hi) a3 a4 hcell hy;have hv':(pb a.tmps (.cell s t)).run P w = .ok v w:=by
   have e1:a.tmps.getD s undef = .pointer (some ⟨g,0,none⟩):=a1;simp only [pb,e1];simpa [Instr.loadAt,Instr.sureAddr,asAddr] using hv
  refine⟨v::vs,by simp [aaG,hv',g1],by simp [g2],by simp [g3],fun j=>?_⟩
  cases j with
  | zero =>
   simp only [aq,nth,aac];exact .inr (aK (mM hk) (fun _ _=>rfl) hr)
  | succ j =>
   refine lJ (fun _ g hg=>?_) (g4 j)
   obtain⟨e1,t',e2,e3⟩:=hg;exact⟨e1,t',by simpa using e2,e3⟩
 | [],_::_,_,hok,_=>by simp [cr] at hok
 | .tmp _::_,[],_,hok,_=>by simp [cr] at hok
 | .cell _ _::_,[],_,hok,_=>by simp [cr] at hok
 | .tmp _::_,.own _ _ true::_,_,hok,_=>by simp [cr] at hok
 | .tmp _::_,.box _ _ _::_,_,hok,_=>by simp [cr] at hok
 | .tmp _::_,.via _::_,_,hok,_=>by simp [cr] at hok
 | .tmp _::_,.ref _::_,_,hok,_=>by simp [cr] at hok
 | .tmp _::_,.tup _::_,_,hok,_=>by simp [cr] at hok
 | .tmp _::_,.no::_,_,hok,_=>by simp [cr] at hok
 | .tmp _::_,.itr::_,_,hok,_=>by simp [cr] at hok
 | .tmp _::_,.mpo::_,_,hok,_=>by simp [cr] at hok
 | .cell _ _::_,.own _ _ _::_,_,hok,_=>by simp [cr] at hok
 | .cell _ _::_,.box _ _ _::_,_,hok,_=>by simp [cr] at hok
 | .cell _ _::_,.via _::_,_,hok,_=>by simp [cr] at hok
 | .cell _ _::_,.ref _::_,_,hok,_=>by simp [cr] at hok
 | .cell _ _::_,.tup _::_,_,hok,_=>by simp [cr] at hok
 | .cell _ _::_,.no::_,_,hok,_=>by simp [cr] at hok
 | .cell _ _::_,.itr::_,_,hok,_=>by simp [cr] at hok
 | .cell _ _::_,.mpo::_,_,hok,_=>by simp [cr] at hok
def xu:List ResultVar→Nat→Nat→Option Nat
 | [],_,_=>none
 | .tmp t::l,s,j=>if t=s then some j else xu l s (j+1)
 | .cell _ _::l,s,j=>xu l s (j+1)
theorem yo:∀{res:List ResultVar} {j t:Nat},res[j]?=some (.tmp t)→t∈yp res
 | .tmp s::l,0,t,h=>by simp at h;simp [yp,h]
 | .cell _ _::l,0,t,h=>by simp at h
 | .tmp s::l,j+1,t,h=>by simp only [yp,aaJ];exact .inr (yo (by simpa using h))
 | .cell _ _::l,j+1,t,h=>by simp only [yp];exact yo (by simpa using h)
theorem nW:∀(res:List ResultVar) (rm:List Kd),cr c res rm=true→∀(j t i:Nat) (z lv:Nat),aq rm j = .own z lv false→res[j]?=some (.tmp t)→xu res t i=some (i+j)∧∃z' l',aq c.K t = .own z' l' false
 | [],[],_,j,t,i,z,lv,h,_=>by simp [aq] at h
 | .tmp s::l,.dat lv'::m,hok,j,t,i,z,lv,h,hj=>by
  simp only [cr,ZE] at hok;cases j with
  | zero=>simp [aq] at h
  | succ j =>
   obtain⟨h1,h2⟩:=nW l m hok.2 j t (i+1) z lv (by simpa [aq] using h) (by simpa using hj);refine⟨?_,h2⟩
   simp only [xu];rw [if_neg,h1]
   ·congr 1;omega
   ·rintro rfl
    obtain⟨z',l',hk⟩:=h2;rw [hk] at hok;cases hok.1
 | .tmp s::l,.own z0 lv0 false::m,hok,j,t,i,z,lv,h,hj=>by
  simp only [cr,ZE] at hok;cases j with
  | zero =>
   simp at hj;subst hj;refine⟨by simp [xu],?_⟩
   have hk:=hok.1.1;split at hk
   ·exact⟨_,_,‹_›⟩
   ·cases hk
  | succ j =>
   obtain⟨h1,h2⟩:=nW l m hok.2 j t (i+1) z lv (by simpa [aq] using h) (by simpa using hj);refine⟨?_,h2⟩
   simp only [xu];rw [if_neg,h1]
   ·congr 1;omega
   ·rintro rfl
    have hm:=hok.1.2;rw [fx] at hm;simp only [ZS,decide_eq_false_iff_not] at hm;exact hm (yo (by simpa using hj))
 | .cell s s'::l,.dat lv'::m,hok,j,t,i,z,lv,h,hj=>by
  simp only [cr,ZE] at hok;cases j with
  | zero=>simp [aq] at h
  | succ j =>
   obtain⟨h1,h2⟩:=nW l m hok.2 j t (i+1) z lv (by simpa [aq] using h) (by simpa using hj);refine⟨?_,h2⟩
   simp only [xu];rw [h1];congr 1;omega
 | [],_::_,hok,_,_,_,_,_,_,_=>by simp [cr] at hok
 | .tmp _::_,[],hok,_,_,_,_,_,_,_=>by simp [cr] at hok
 | .cell _ _::_,[],hok,_,_,_,_,_,_,_=>by simp [cr] at hok
 | .tmp _::_,.own _ _ true::_,hok,_,_,_,_,_,_,_=>by simp [cr] at hok
 | .tmp _::_,.box _ _ _::_,hok,_,_,_,_,_,_,_=>by simp [cr] at hok
 | .tmp _::_,.via _::_,hok,_,_,_,_,_,_,_=>by simp [cr] at hok
 | .tmp _::_,.ref _::_,hok,_,_,_,_,_,_,_=>by simp [cr] at hok
 | .tmp _::_,.tup _::_,hok,_,_,_,_,_,_,_=>by simp [cr] at hok
 | .tmp _::_,.no::_,hok,_,_,_,_,_,_,_=>by simp [cr] at hok
 | .tmp _::_,.itr::_,hok,_,_,_,_,_,_,_=>by simp [cr] at hok
 | .tmp _::_,.mpo::_,hok,_,_,_,_,_,_,_=>by simp [cr] at hok
 | .cell _ _::_,.own _ _ _::_,hok,_,_,_,_,_,_,_=>by simp [cr] at hok
 | .cell _ _::_,.box _ _ _::_,hok,_,_,_,_,_,_,_=>by simp [cr] at hok
 | .cell _ _::_,.via _::_,hok,_,_,_,_,_,_,_=>by simp [cr] at hok
 | .cell _ _::_,.ref _::_,hok,_,_,_,_,_,_,_=>by simp [cr] at hok
 | .cell _ _::_,.tup _::_,hok,_,_,_,_,_,_,_=>by simp [cr] at hok
 | .cell _ _::_,.no::_,hok,_,_,_,_,_,_,_=>by simp [cr] at hok
 | .cell _ _::_,.itr::_,hok,_,_,_,_,_,_,_=>by simp [cr] at hok
 | .cell _ _::_,.mpo::_,hok,_,_,_,_,_,_,_=>by simp [cr] at hok
theorem vg {w:World} {F:Nat→Prop} {ow:Nat→Option Nat}:∀(pm:List Kd) (ds:List D) (ys:List Value) (i:Nat),dU w F ow i pm ds ys→ds.length=pm.length∧ys.length=pm.length∧∀(j:Nat),j<pm.length→cR w F (fun g=>ow g=some (i+j)) (aq pm j) (nth ds j) (ys.getD j undef)
 | [],[],[],_,_=>⟨rfl,rfl,fun j h=>by simp at h⟩
 | k::pm,d::ds,y::ys,i,h=>by
  obtain⟨h1,h2⟩:=h;obtain⟨g1,g2,g3⟩:=vg pm ds ys (i+1) h2;refine⟨by simp [g1],by simp [g2],fun j hj=>?_⟩
  cases j with
  | zero=>exact h1
  | succ j =>
   have:=g3 j (by simpa using hj);simp only [aq,nth,List.getD_cons_succ];rw [show i+(j+1)=i+1+j from by omega];exact this
 | [],[],_::_,_,h=>h.elim
 | [],_::_,_,_,h=>h.elim
 | _::_,[],_,_,h=>h.elim
 | _::_,_::_,[],_,h=>h.elim
theorem Ez {w:World} {F:Nat→Prop} {δ:List D}:∀(pm:List Kd) (ys:List Value) (i:Nat),ys.length=pm.length→(∀(j:Nat),j<pm.length→mW (aq pm j)=true→nth δ (i+j) ≠ .bad∧cR w F (fun _=>True) (aq pm j) (nth δ (i+j)) (ys.getD j undef))→qI w F pm (ao δ (tH i pm)) ys
 | [],ys,i,_,_=>by simp [tH,ao,qI]
 | k::pm,[],i,hl,_=>by simp at hl
 | k::pm,y::ys,i,hl,h=>by
  have ih:=Ez pm ys (i+1) (by simpa using hl) (fun j hj hio=>by
   have:=h (j+1) (by simpa using hj) (by simpa [aq] using hio);rw [show i+1+j=i+(j+1) from by omega];simpa [aq] using this)
  cases hk:mW k with
  | true =>
   have h0:=h 0 (by simp) (by simpa [aq] using hk);simp only [tH,hk,if_true,ao,qI];exact⟨by simpa using h0.1,by simpa [aq] using h0.2,ih⟩
  | false=>simpa only [tH,hk,ZN,if_false,qI] using ih
theorem vM:∀(pm:List Kd) (i j:Nat),j<pm.length→mW (aq pm j)=true→i+j∈tH i pm
 | k::pm,i,0,_,h=>by
  simp only [aq] at h;simp [tH,h]
 | k::pm,i,j+1,hj,h=>by
  have ih:=vM pm (i+1) j (by simpa using hj) (by simpa [aq] using h);rw [show i+(j+1)=i+1+j from by omega];simp only [tH];split
  ·exact List.mem_cons_of_mem _ ih
  ·exact ih
theorem qK:∀(n:Nat) (l:List D) (s:Nat),l.length≤n→nth (ro n l) s=nth l s
 | 0,l,s,h=>by
  have:l=[]:=aam (by omega);subst this;simp [ro]
 | n+1,[],s,_=>by
  cases s with
  | zero=>simp [nth]
  | succ s=>simp only [nth];rw [qK n [] s (by simp)]
 | n+1,d::l,s,h=>by
  cases s with
  | zero=>simp [nth]
  | succ s=>simp only [nth];exact qK n l s (by simpa using h)
theorem rM:∀(n:Nat) (l:List D),(ro n l).length=n
 | 0,_=>rfl
 | n+1,[]=>by simp [ro,rM n []]
 | n+1,_::l=>by simp [ro,rM n l]
def PP (c:Cx) (fn:Func) (pm rm:List Kd):Bool :=
 (match fn.body with
  | some b=>dV c 0 b
  | none=>false)&&ZP (jt c.K) fn.ntmps&&Ko pm c.K&&kA pm&&cr c c.res rm&&decide (c.ios=tH 0 pm)
theorem sv:∀{pm:List Kd},kA pm=true→∀j,j<pm.length→(∃lv,aq pm j = .dat lv∧lv≠1)∨(∃z lv,aq pm j = .own z lv true∧lv≠1)∨∃n lv,aq pm j = .box n lv true∧lv≠1
 | m::pm,h,j,hj=>by
  obtain⟨h1,h2,h3⟩:=JZ h;cases j with
  | succ j=>exact sv h1 j (by simpa using hj)
  | zero =>
   simp only [aq];cases m with
   | dat lv =>
    refine .inl ⟨lv,rfl,?_⟩
    simp only [kA] at h;split at h
    case h_2=>cases h
    rename_i e1 e2;intro e;subst e;simp at e1
   | own z lv io =>
    cases io
    ·simp [kA] at h
    ·exact .inr (.inl ⟨z,lv,rfl,h2 z lv rfl⟩)
   | box n lv io =>
    cases io
    ·simp [kA] at h
    ·exact .inr (.inr ⟨n,lv,rfl,h3 n lv rfl⟩)
   | _=>simp [kA] at h
theorem SI (hT:okT P c.T=true) (hS:∀f S,dr c.S f=some S→aw c.G P f S) (hm:P.follows .mixedOrders=true) {f:FuncId} {fn:Func} (hf:P.funcs[f]?=some fn) {pm rm:List Kd} (hok:PP c fn pm rm=true) (hres:c.res=fn.results.toList)
  {ds rs us:List D} (hd:be c fn ds=some (.ret rs us)) {args:Array Value} {w:World} {F:Nat→Prop} {ow:Nat→Option Nat} (hgl:gOk c.G w F) (ha:dU w F ow 0 pm ds args.toList) (hF:∀b,F b→b<w.heap.size∧ow b=none) (hO:∀b i,ow b=some i→b<w.heap.size) :
  Calls P f args w fun e w'=>∃v,e = .returned v∧∃F' R vs,v=jW vs∧CallPost {pm:=pm,rm:=rm,f:=be c fn} args rs us w F ow F' R vs w':=by
 unfold PP at hok;simp only [ZE,decide_eq_true_eq] at hok;obtain⟨⟨⟨⟨⟨hcode,hlenK⟩,hpre⟩,hpm⟩,hokr⟩,hios⟩:=hok;rw [aZ,lV] at hlenK;obtain⟨hpl,hpn⟩:=vh hpre;obtain⟨hdl,hal,hargs⟩:=vg pm ds args.toList 0 ha;have hasz:args.size=pm.length:=by simpa using hal
 unfold be at hd;cases hb:fn.body with
 | none=>rw [hb] at hd;cases hd
 | some b =>
  rw [hb] at hd hcode;simp only at hd hcode;refine calls_of_wp hf hb ?_
  have hav:∀s,s<pm.length→av ({tmps:=args++ZO (fn.ntmps - args.size) undef,defers:=[]}:Act) s=args.toList.getD s undef:=fun s hs=>by
   have h1:s<args.size:=by omega
   simp only [av,ZH,ZI,aai];rw [aas h1]
  have hinit:Inv c w.heap.size (fun b=>ow b≠none) w F F (fun b=>(ow b).map fun i=>(i,0)) {tmps:=args++ZO (fn.ntmps - args.size) undef,defers:=[]} w (ro fn.ntmps ds):=by
   refine⟨by simp;omega,by rw [rM,hlenK],rfl,fun s=>?_,fun b hb=>⟨(hF b hb).1,by simp [(hF b hb).2]⟩,fun b p hp=>?_,fun _ h=>h,fun _ h=>.inl h,aag _,rfl,rfl,rfl,fun _ _ _=>rfl,hgl⟩
   ·unfold yJ
    rw [qK _ _ _ (by rw [hdl];omega)];by_cases hs:s<pm.length
    ·rw [hpn s hs,hav s hs]
     rcases hargs s hs with hbad | harg
     ·exact .inl hbad
     refine .inr ?_
     have hlv:∀lv,lv≠1→∀b,FB F 0 lv b→FB F w.heap.size lv b:=fun lv h1 b hb=>by
      match lv,h1 with
      | 0,_=>exact hb
      | _+2,_=>exact hb
     rcases sv hpm s hs with ⟨lv,hk,h1⟩ | ⟨z,lv,hk,h1⟩ | ⟨n,lv,hk,h1⟩
     ·rw [hk] at harg ⊢
      exact .inr (aK (hlv lv h1) (fun _ _=>rfl) harg)
     ·rw [hk] at harg ⊢
      exact .inr (dv (hlv lv h1) (fun _ _=>rfl) (fun g _ hg=>⟨⟨by simp only [ZT] at hg;simp [hg],fun h=>by cases h⟩,rfl⟩) harg)
     ·rw [hk] at harg ⊢
      exact .inr (gI (hlv lv h1) (fun _ _=>rfl) (fun g _ hg=>⟨⟨by simp only [ZT] at hg;simp [hg],fun h=>by cases h⟩,rfl⟩) harg)
    ·refine .inl ?_
     rw [fp,ZI,ZZ (by omega)];rfl
   ·obtain⟨i,hi,rfl⟩:=ZK.1 hp
    exact⟨hO b i hi,.inr (by rw [hi];simp)⟩
  refine jg hT hS hm b 0 hcode F _ _ w _ hinit (V:=av {tmps:=args++ZO (fn.ntmps - args.size) undef,defers:=[]}) (fun _ _=>rfl) _ _ hd _ (fun e a' w' hp=>?_)
  have fin:iO c w.heap.size (fun b=>ow b≠none) w F (av {tmps:=args++ZO (fn.ntmps - args.size) undef,defers:=[]}) (fun δ=>Nk c δ some) (.ret rs us) a' w'→a'.defers=[]∧∃v,(results fn a'.tmps).run P w' = .ok v w'∧∃v',aaU v = .returned v'∧∃F' R vs,v'=jW vs∧CallPost {pm:=pm,rm:=rm,f:=be c fn} args rs us w F ow F' R vs w':=by
   rintro⟨⟨F',O',δ',hI',hk⟩,hV'⟩;obtain⟨rs',h1,h2,h3⟩:=gg hk;simp only [ZG,Out.ret.injEq] at h3;obtain⟨rfl,rfl⟩:=h3;obtain⟨vs,g1,g2,g3,g4⟩:=vE (P:=P) hT hI' c.res rm rs' hokr h1;refine⟨hI'.df,jW vs,?_,_,rfl,F',fun b=>if w.heap.size≤b then(match O' b with
    | some (t,0)=>xu c.res t 0
    | _=>none) else none,vs,rfl,?_⟩
   ·have hrun:(fn.results.mapM (pb a'.tmps)).run P w' = .ok vs.toArray w':=by
     rw [aaw,←hres];simp [g1]
    have hrw:results fn a'.tmps=(do
      let vs ←fn.results.mapM (pb a'.tmps)
      pure (if h:vs.size=1 then vs[0] else .tuple vs)):=by
     unfold results;congr 1
    rw [hrw];simp only [Sem.run_bind,hrun,aaQ,Sem.run_pure];congr 1
    rcases vs with _ | ⟨y,_ | ⟨y',vs⟩⟩
    ·simp [jW]
    ·simp [jW]
    ·simp [jW]
   ·refine⟨hI'.os,hI'.tape,hI'.output,hI'.bb,fun b hb ho=>hI'.keep b hb (by simp [ho]),hI'.f0,fun b hb=>⟨hI'.fn b hb,(hI'.fl b hb).1,by simp only [(hI'.fl b hb).2];split<;>rfl⟩,fun b j hj=>?_,g2,g3,fun j=>?_,?_⟩
    ·split at hj
     case isFalse=>cases hj
     rename_i hB;refine⟨hB,?_⟩
     split at hj
     ·rename_i t he;exact(hI'.ol b _ he).1
     ·cases hj
    ·refine lJ (fun hk g hg=>?_) (g4 j)
     obtain⟨z,lv,hk⟩:=hk;obtain⟨e1,t,e2,e3⟩:=hg;rw [if_pos e1];simp only [e3];have:=(nW c.res rm hokr j t 0 z lv hk e2).1;simpa using this
    ·rw [hios]
     refine Ez pm args.toList 0 hal (fun j hj hio=>?_)
     rw [ZT];have hkj:=hpn j hj;have hbj:nth δ' j ≠ .bad:=by
      refine h2 _ ?_
      rw [hios,oA];exact aaN (by simpa using vM pm 0 j hj hio)
     have havj:av a' j=args.toList.getD j undef:=(hV' j (by rw [hkj];exact hio)).trans (hav j hj);have hlv:∀lv,lv≠1→∀b,FB F' w.heap.size lv b→FB F' 0 lv b:=fun lv h1 b hb=>by
      match lv,h1 with
      | 0,_=>exact hb
      | _+2,_=>exact hb
     refine⟨hbj,.inr ?_⟩
     rcases sv hpm j hj with ⟨lv,hk,h1⟩ | ⟨z,lv,hk,h1⟩ | ⟨n,lv,hk,h1⟩
     ·rw [hk] at hio;cases hio
     ·have h5:=hI'.own (hkj.trans hk) hbj
      rw [havj] at h5;rw [hk];exact dv (hlv lv h1) (fun _ _=>rfl) (fun _ _ _=>⟨trivial,rfl⟩) h5
     ·have h5:=hI'.box (hkj.trans hk) hbj
      rw [havj] at h5;rw [hk];exact gI (hlv lv h1) (fun _ _=>rfl) (fun _ _ _=>⟨trivial,rfl⟩) h5
  cases e with
  | normal=>exact fin hp
  | exit i =>
   obtain⟨⟨_,_,_,_,h⟩,_⟩:=hp;cases h
  | ret =>
   refine fin (gC hp fun δ F O _ h=>?_)
   obtain⟨rs',h1,h2,h3⟩:=gg h;exact vz h1 h2 h3
  | _=>exact hp.elim
theorem HG (hT:okT P c.T=true) (hS:∀f S,dr c.S f=some S→aw c.G P f S) (hm:P.follows .mixedOrders=true) {f:FuncId} {fn:Func} (hf:P.funcs[f]?=some fn) (hname:(fn.name== "runtime.NumGoroutine")=false) {pm rm:List Kd} (hok:PP c fn pm rm=true) (hres:c.res=fn.results.toList) :
  aw c.G P f {pm:=pm,rm:=rm,f:=be c fn}:=by
 intro ds rs us hd args w F ow hgl ha hF hO o a next Q hn
 have hbody:∃b,fn.body=some b:=by
  have hd':be c fn ds=some (.ret rs us):=hd;unfold be at hd';cases hb:fn.body with
  | none=>rw [hb] at hd';cases hd'
  | some b=>exact⟨b,rfl⟩
 obtain⟨b,hb⟩:=hbody;have hrun:(callFunc f args).run P w = .ok (.enter f args) w:=by
  have h1:¬fn.name= "runtime.NumGoroutine":=by simpa using hname
  simp [callFunc,hf,h1,hb]
 rw [hrun,aaF];refine aaI (SI hT hS hm hf hok hres hd hgl ha hF hO) (fun e w' he=>?_)
 obtain⟨v,rfl,F',R,vs,h1,h2⟩:=he;exact hn v w' ⟨F',R,vs,h1,h2⟩
end
end Go.V

namespace Go.V
set_option maxRecDepth 100000
def sl (s:List D) (i:Nat):D:=nth s i
def ifN (b:Bool) (t e:Option Out):Option Out :=
 match b with
 | true=>t
 | false=>e
theorem an {P:Program} {G:List (Nat × (Obj→Prop))}:∀(f:Nat) (S:FS),dr ([]:List (Nat × FS)) f=some S→aw G P f S:=by
 intro f S h;cases h
theorem ab {P:Program} {G:List (Nat × (Obj→Prop))} {g:Nat} {S0:FS} {l:List (Nat × FS)} (h0:aw G P g S0) (h:∀(f:Nat) (S:FS),dr l f=some S→aw G P f S):∀(f:Nat) (S:FS),dr ((g,S0)::l) f=some S→aw G P f S:=by
 intro f S hl;simp only [dr] at hl;split at hl
 ·rename_i hb
  have:=aZ.1 hb;subst this;cases hl;exact h0
 ·exact h f S hl
open Classical in
def MS (R:Nat→List D→Option Out) (ds:List D):Option Out :=
 if h:∃n,(R n ds).isSome=true then R (ZW h) ds else none
theorem Ry {R:Nat→List D→Option Out} {ds:List D} {r:Out} (h:MS R ds=some r):∃n,R n ds=some r:=by
 unfold MS at h;split at h
 ·exact⟨_,h⟩
 ·cases h
theorem Qi {R:Nat→List D→Option Out} {ds:List D} {r:Out} (h:∀n o,R n ds=some o→o=r) (n:Nat) (hn:R n ds=some r):MS R ds=some r:=by
 unfold MS;have hx:∃n,(R n ds).isSome=true:=⟨n,by rw [hn];rfl⟩
 rw [dif_pos hx];obtain⟨o,ho⟩:=aaf.1 (ZY hx);rw [ho,h _ _ ho]
theorem FO {P:Program} {G:List (Nat × (Obj→Prop))} {f:Nat} {S:FS} (h:∀ds,S.f ds=none):aw G P f S:=by
 intro ds rs us hd;rw [h] at hd;cases hd
theorem KK {P:Program} {G:List (Nat × (Obj→Prop))} {f:Nat} {pm rm:List Kd} {R:Nat→List D→Option Out} (h:∀n,aw G P f {pm:=pm,rm:=rm,f:=R n}):aw G P f {pm:=pm,rm:=rm,f:=MS R}:=by
 intro ds rs us hd args w F ow hg ha hF hO o a next Q hq
 obtain⟨n,hn⟩:=Ry hd;refine h n ds rs us hn args w F ow hg ha hF hO o a next Q fun v w' hv=>?_
 obtain⟨F',R',vs,h1,h2⟩:=hv;exact hq v w' ⟨F',R',vs,h1,⟨h2.os,h2.tape,h2.output,h2.size,h2.keep,h2.f0,h2.fn,h2.rn,h2.len,h2.lenD,h2.res,h2.us⟩⟩
open Go.RowKit
set_option maxRecDepth 100000
@[reducible] def oJ (K:List Kd) (fz:List Nat) (s:Nat) (k:Kd):Kd :=
 match k with
 | .own z lv false=>match lF s fz with
  | true=>.dat (It 1 lv)
  | false=>.own z lv false
 | .via r=>match lF r fz with
  | true=>.dat (It 1 (fh K r))
  | false=>.via r
 | .ref r=>match lF r fz with
  | true=>.dat (It 1 (fh K r))
  | false=>.ref r
 | k=>k
@[reducible] def LL (K:List Kd) (fz:List Nat):List Kd→Nat→List Kd
 | [],_=>[]
 | k::l,s=>oJ K fz s k::LL K fz l (Nat.succ s)
@[reducible] def rcx (c:Cx) (fz:List Nat):Cx:={c with K:=LL c.K fz c.K 0}
def Vn (p x:D):D :=
 match p with
 | .bad=>.bad
 | _=>x
@[reducible] def Uy (K:List Kd) (δ:List D):List Nat→(List D→Option Out)→Option Out
 | [],k=>k []
 | s::ss,k=>match aq K s with
  | .via r=>eV δ s fun p=>eV δ r fun x=>Uy K δ ss fun l=>k (Vn p x::l)
  | _=>Uy K δ ss fun l=>k (.bad::l)
def SL:List ResultVar→List Nat
 | []=>[]
 | .tmp t::l=>t::SL l
 | .cell a _::l=>a::SL l
def PR (c:Cx) (fz:List Nat):List Nat:=fz++aY c.K fz
def Vy (c:Cx) (fz:List Nat):Bool :=
 (fz.all fun s=>match aq c.K s with
  | .own _ _ false=>true
  | _=>false)&&((SL c.res).all fun s=>!lF s (PR c fz))&&(c.ios.all fun s=>!lF s (PR c fz))
section
variable {P:Program} {c:Cx} {B:Nat} {X:Nat→Prop} {w0:World} {F0 F:Nat→Prop} {O:Nat→Option (Nat × Nat)} {a:Act} {w:World} {δ:List D} {fz:List Nat}
theorem tN (K:List Kd) (fz:List Nat):∀(l:List Kd) (s:Nat),(LL K fz l s).length=l.length
 | [],_=>rfl
 | _::l,s=>by simp [LL,tN K fz l]
theorem Ku (K:List Kd) (fz:List Nat):∀(l:List Kd) (s i:Nat),aq (LL K fz l s) i=oJ K fz (s+i) (aq l i)
 | [],s,i=>by simp [LL,aq,oJ]
 | k::l,s,0=>by simp [LL,aq]
 | k::l,s,i+1=>by
  simp only [LL,aq];rw [Ku K fz l (Nat.succ s) i,show Nat.succ s+i=s+(i+1) by omega]
theorem qH (c:Cx) (fz:List Nat) (s:Nat):aq (rcx c fz).K s=oJ c.K fz s (aq c.K s):=by
 show aq (LL c.K fz c.K 0) s=_
 rw [Ku,ZT]
theorem uP (h:Vy c fz=true) {s:Nat} (hs:s∈fz):∃z lv,aq c.K s = .own z lv false:=by
 unfold Vy at h;simp only [ZE,ZR] at h;have:=h.1.1 s hs;split at this
 ·exact⟨_,_,‹_›⟩
 ·cases this
theorem tK {s:Nat} {l:List Nat} (h:s∈l):lF s l=true:=by rw [fx];exact decide_eq_true h
theorem lK {s:Nat} {l:List Nat} (h:s∉l):lF s l=false:=by rw [fx];exact decide_eq_false h
theorem Oc {r:Nat} (hr:r∉fz) (h:dP c.K r):aq (rcx c fz).K r=aq c.K r:=by
 rw [qH];unfold dP at h;generalize aq c.K r=k at h;cases k
 case own z lv io=>cases io<;>simp [oJ,lK hr]
 case box n lv io=>rfl
 case mpo=>rfl
 all_goals exact h.elim
theorem Od {r:Nat} (h:dP (rcx c fz).K r):dP c.K r∧aq (rcx c fz).K r=aq c.K r:=by
 unfold dP at h ⊢;rw [qH] at h ⊢;generalize aq c.K r=k at h;cases k
 case own z lv io =>
  refine⟨trivial,?_⟩
  cases io
  case true=>rfl
  by_cases hr:r∈fz
  ·simp [oJ,tK hr] at h
  ·simp [oJ,lK hr]
 case box n lv io=>exact⟨trivial,rfl⟩
 case mpo=>exact⟨trivial,rfl⟩
 case via r'=>by_cases hr:r'∈fz<;>simp [oJ,tK,lK,hr] at h
 case ref r'=>by_cases hr:r'∈fz<;>simp [oJ,tK,lK,hr] at h
 all_goals exact h.elim
theorem Uv (s:Nat):mW (aq (rcx c fz).K s)=mW (aq c.K s):=by
 rw [qH];generalize aq c.K s=k;cases k
 case own z lv io =>
  cases io
  case true=>rfl
  by_cases hr:s∈fz
  ·simp [oJ,tK hr,mW]
  ·simp [oJ,lK hr]
 case via r'=>by_cases hr:r'∈fz<;>simp [oJ,tK,lK,hr,mW]
 case ref r'=>by_cases hr:r'∈fz<;>simp [oJ,tK,lK,hr,mW]
 all_goals rfl
theorem MK {K K':List Kd} {r:Nat} (h:aq K' r=aq K r):rW K' r=rW K r:=by unfold rW;rw [h]
theorem XM {F':Nat→Prop} {b lv:Nat} (h1:F' b) (h2:B≤b):FB F' B (It 1 lv) b:=by
 rw [vJ]
 match lv with
 | 0=>exact⟨h1,h2⟩
 | 1=>exact⟨h1,h2⟩
 | n+2 =>
  rw [Nat.max_eq_right (by omega)];exact h1
def IE (K:List Kd) (δ:List D) (s:Nat):D :=
 match aq K s with
 | .via r=>Vn (nth δ s) (nth δ r)
 | _=>.bad
theorem Lw (K:List Kd) (δ:List D):∀(ss:List Nat) (k:List D→Option Out),Uy K δ ss k=k (ss.map (IE K δ))
 | [],_=>rfl
 | s::ss,k=>by
  simp only [Uy,aaL,IE];split
  ·simp only [eM]
   exact Lw K δ ss _
  ·exact Lw K δ ss _
theorem mZ (f:Nat→D):∀(ss:List Nat) (δ:List D) (s:Nat),s∈ss→nth (aj δ ss (ss.map f)) s=if s<δ.length then f s else .bad
 | i::ss,δ,s,h=>by
  simp only [aaL,aj];by_cases hs:s∈ss
  ·rw [mZ f ss _ s hs,gi]
  ·rw [aD _ _ _ _ hs]
   have:s=i:=by simpa [hs] using h
   subst this;exact bH _ _ _
open Classical in
theorem Inv.recast (h:Inv c B X w0 F0 F O a w δ) (hfz:Vy c fz=true):∃F' O',Inv (rcx c fz) B X w0 F0 F' O' a w (aj δ (aY c.K fz) ((aY c.K fz).map (IE c.K δ))):=by
 let G:Nat→Prop:=fun b=>∃s∈fz,O b=some (s,0)∧B≤b
 have hF:∀b,F b→F b∨G b:=fun b hb=>.inl hb
 have hG:∀(b s i:Nat),O b=some (s,i)→(i=0→s∉fz)→¬G b:=by
  rintro b s i h1 h2 ⟨s',h3,h4,_⟩;rw [h1] at h4;cases h4;exact h2 rfl h3
 refine⟨fun b=>F b∨G b,fun b=>if G b then none else O b,?_⟩
 have hO:∀(b s i:Nat),(i=0→s∉fz)→O b=some (s,i)→(if G b then none else O b)=some (s,i):=fun b s i h2 h1=>by rw [if_neg (hG b s i h1 h2),h1]
 have own:∀r∈fz,nth δ r ≠ .bad→bf w (FB (fun b=>F b∨G b) B (It 1 (fh c.K r))) (nth δ r) (av a r):=by
  intro r hr hb;obtain⟨z,lv,hk⟩:=uP hfz hr;have h0:=(h.slot r).resolve_left hb;rw [hk] at h0;have h1:=h0.resolve_left hb;simp only [fh,hk];refine aK (fun b hb=>?_) (fun _ _=>rfl) (lu h1)
  rcases hb with hb | hb
  ·exact mM (by rw [vJ];exact Nat.le_max_right _ _) b (iy hF b hb)
  ·exact XM (.inr ⟨r,hr,hb.1,hb.2 rfl⟩) (hb.2 rfl)
 refine⟨h.la.trans (tN _ _ _ _).symm,(dz _ _ _).trans (h.ld.trans (tN _ _ _ _).symm),h.df,fun s=>?_,fun b hb=>?_,fun b p hp=>?_,fun b hb=>.inl (h.f0 b hb),fun b hb=>?_,h.bb,h.os,h.tape,h.output,h.keep,GH (fun b hb=>.inl hb) (fun _ _=>rfl) h.gl⟩
 ·by_cases hd:s∈aY c.K fz
  ·by_cases hlt:s<δ.length
   case neg =>
    refine .inl ?_
    rw [mZ _ _ _ _ hd,if_neg hlt]
   have e:nth (aj δ (aY c.K fz) ((aY c.K fz).map (IE c.K δ))) s=IE c.K δ s:=by rw [mZ _ _ _ _ hd,if_pos hlt]
   obtain⟨r,hr,hk⟩:=sE _ hd;rcases hk with hk | hk
   case inr=>exact .inl (e.trans (by simp only [IE,hk]))
   have e2:IE c.K δ s=Vn (nth δ s) (nth δ r):=by simp only [IE,hk]
   by_cases hb:nth δ s = .bad
   ·refine .inl (e.trans (e2.trans ?_))
    rw [hb];rfl
   have e3:Vn (nth δ s) (nth δ r)=nth δ r:=by
    generalize nth δ s=q at hb;cases q<;>first | rfl | exact absurd rfl hb
   have h0:=(h.slot s).resolve_left hb;rw [hk] at h0;obtain⟨b1,b2,b3,b4⟩:=h0;refine .inr ?_
   rw [qH,hk,e,e2,e3];simp only [oJ,tK hr];exact .inr (by rw [b1];exact own r hr b3)
  have e:nth (aj δ (aY c.K fz) ((aY c.K fz).map (IE c.K δ))) s=nth δ s:=aD _ _ _ _ hd;by_cases hb:nth δ s = .bad
  ·exact .inl (e.trans hb)
  have h0:=(h.slot s).resolve_left hb;refine .inr ?_
  have hkeep:∀r,dP c.K r→nth (aj δ (aY c.K fz) ((aY c.K fz).map (IE c.K δ))) r=nth δ r:=fun r hr=>aD _ _ _ _ (qA hr _)
  rw [qH,e];generalize hk:aq c.K s=k at h0;cases k
  case dat lv=>exact h0.imp id (aK (iy hF) (fun _ _=>rfl))
  case own z lv io =>
   have h1:=h0.resolve_left hb;by_cases hs:s∈fz
   ·obtain⟨z',lv',hk'⟩:=uP hfz hs
    rw [hk] at hk';cases hk';simp only [oJ,tK hs];have ho:=own s hs hb;simp only [fh,hk] at ho;exact .inr ho
   ·have e2:oJ c.K fz s (.own z lv io) = .own z lv io:=by cases io<;>simp [oJ,lK hs]
    rw [e2];exact .inr (KB (iy hF) (fun _ _=>rfl) (fun g hg=>⟨⟨hO g s 0 (fun _=>hs) hg.1,hg.2⟩,rfl⟩) h1)
  case box n lv io =>
   have h1:=h0.resolve_left hb;have hs:s∉fz:=fun hs=>by
    obtain⟨z',lv',hk'⟩:=uP hfz hs;rw [hk] at hk';cases hk'
   exact .inr (vp (iy hF) (fun _ _=>rfl) (fun g hg=>⟨⟨hO g s 0 (fun _=>hs) hg.1,hg.2⟩,rfl⟩) h1)
  case itr =>
   have h1:=h0.resolve_left hb;have hs:s∉fz:=fun hs=>by
    obtain⟨z',lv',hk'⟩:=uP hfz hs;rw [hk] at hk';cases hk'
   exact .inr (KA (fun g hg=>⟨⟨hO g s 0 (fun _=>hs) hg.1,hg.2⟩,rfl⟩) h1)
  case mpo =>
   have h1:=h0.resolve_left hb;have hs:s∉fz:=fun hs=>by
    obtain⟨z',lv',hk'⟩:=uP hfz hs;rw [hk] at hk';cases hk'
   exact .inr (KM (fun g hg=>⟨⟨hO g s 0 (fun _=>hs) hg.1,hg.2⟩,rfl⟩) h1)
  case via r =>
   have hr:r∉fz:=fun hr=>hd (kh (.inl hk) _ hr)
   obtain⟨b1,b2,b3,b4⟩:=h0;simp only [oJ,lK hr];exact⟨b1,b2,by rw [hkeep r (lM b4)];exact b3,by rw [MK (Oc hr (lM b4))];exact b4⟩
  case ref r =>
   have hr:r∉fz:=fun hr=>hd (kh (.inr hk) _ hr)
   obtain⟨i,f,b1,b2,b3⟩:=h0;simp only [oJ,lK hr];exact⟨i,f,b1,by rw [hkeep r (ky b3)];exact b2,by rw [Oc hr (ky b3)];exact b3⟩
  case tup ms =>
   obtain⟨l,vs,b1,b2,b3⟩:=h0;exact⟨l,vs,b1,b2,fun i=>vI hF (fun _ _=>rfl) (fun g hg=>⟨hO g s (i+1) (fun h=>by omega) hg,rfl⟩) (b3 i)⟩
  case no=>trivial
 ·rcases hb with hb | hb
  ·obtain⟨h1,h2⟩:=h.fl b hb
   refine⟨h1,?_⟩
   simp only [h2];split<;>rfl
  ·obtain⟨s,h1,h2,h3⟩:=hb
   exact⟨(h.ol b _ h2).1,if_pos ⟨s,h1,h2,h3⟩⟩
 ·split at hp
  ·cases hp
  ·exact h.ol b p hp
 ·rcases hb with hb | ⟨s,h1,h2,h3⟩
  ·exact h.fn b hb
  ·exact .inr h3
theorem Inv.uncast (h:Inv (rcx c fz) B X w0 F0 F O a w δ):Inv c B X w0 F0 F O a w (aj δ (PR c fz) []):=by
 refine⟨h.la.trans (tN _ _ _ _),(dz _ _ _).trans (h.ld.trans (tN _ _ _ _)),h.df,fun s=>?_,h.fl,h.ol,h.f0,h.fn,h.bb,h.os,h.tape,h.output,h.keep,h.gl⟩
 by_cases hd:s∈PR c fz
 ·exact .inl (ll _ _ _ hd)
 have e:nth (aj δ (PR c fz) []) s=nth δ s:=aD _ _ _ _ hd;by_cases hb:nth δ s = .bad
 ·exact .inl (e.trans hb)
 have h0:=(h.slot s).resolve_left hb;refine .inr ?_
 have hs:s∉fz:=fun hs=>hd (List.mem_append_left _ hs)
 have hdp:s∉aY c.K fz:=fun hs=>hd (List.mem_append_right _ hs)
 have hkeep:∀r,r∉fz→dP c.K r→nth (aj δ (PR c fz) []) r=nth δ r:=fun r h1 h2=>aD _ _ _ _ fun hm=>by
  rcases aak.1 hm with hm | hm
  ·exact h1 hm
  ·exact qA h2 _ hm
 rw [qH] at h0;rw [e];generalize hk:aq c.K s=k at h0;cases k
 case own z lv io =>
  have e2:oJ c.K fz s (.own z lv io) = .own z lv io:=by cases io<;>simp [oJ,lK hs]
  rw [e2] at h0;exact h0
 case via r =>
  have hr:r∉fz:=fun hr=>hdp (kh (.inl hk) _ hr)
  simp only [oJ,lK hr] at h0;obtain⟨b1,b2,b3,b4⟩:=h0;obtain⟨g1,g2⟩:=Od (lM b4);exact⟨b1,b2,by rw [hkeep r hr g1];exact b3,by rw [←MK g2];exact b4⟩
 case ref r =>
  have hr:r∉fz:=fun hr=>hdp (kh (.inr hk) _ hr)
  simp only [oJ,lK hr] at h0;obtain⟨i,f,b1,b2,b3⟩:=h0;obtain⟨g1,g2⟩:=Od (ky b3);exact⟨i,f,b1,by rw [hkeep r hr g1];exact b2,by rw [←g2];exact b3⟩
 all_goals exact h0
end
end Go.V

namespace Go.V
open Go.RowKit
set_option maxRecDepth 100000
@[reducible] def wb (c:Cx) (Z:List (Nat × List Nat)):Nat→Code→List D→(Out→Option Out)→Option Out
 | _,.skip,δ,k=>k (.nrm δ)
 | _,.region id ops _,δ,k=>match dr Z id with
  | some fz=>Uy c.K δ (aY c.K fz) fun l=>dR δ (aY c.K fz) l fun δ'=>ka (rcx c fz) ops.toList ops.toList δ' fun δ2=>dR δ2 fz [] fun δ3=>dR δ3 (aY c.K fz) [] fun δ4=>k (.nrm δ4)
  | none=>ka c ops.toList ops.toList δ fun δ'=>k (.nrm δ')
 | bid,.seq a b,δ,k=>wb c Z bid a δ fun o=>Ts o (fun δ'=>wb c Z bid b δ' k) k
 | bid,.cond x t e,δ,k=>opC δ x fun q=>ifD q (wb c Z bid t δ k) (wb c Z bid e δ k)
 | _,.block id b,δ,k=>wb c Z id b δ fun o=>Ej id o k
 | bid,.loop b,δ,k=>match dr c.H bid with
  | none=>none
  | some (hl,xl) =>
   qc δ hl fun s=>(aQ (fun s=>gG (jt c.K) hl s fun δ=>wb c Z bid b δ (bS hl xl)) s).bind fun o =>
    outK o (fun i s=>gG (jt c.K) xl s fun δ=>k (.ext i δ)) (fun a b=>k (.ret a b))
 | _,.exit id,δ,k=>k (.ext id δ)
 | _,.ret,δ,k=>oa c δ c.res fun rs=>qc δ c.ios fun us=>usK us (k (.ret rs us))
 | _,_,_,_=>none
@[reducible] def wy (c:Cx) (Z:List (Nat × List Nat)) (fn:Func) (ds:List D):Option Out :=
 match fn.body with
 | none=>none
 | some b=>wb c Z 0 b (ro fn.ntmps ds) fun o=>match o with
  | .nrm δ=>oa c δ c.res fun rs=>qc δ c.ios fun us=>usK us (some (.ret rs us))
  | .ext _ _=>none
  | .ret rs us=>some (.ret rs us)
def gh (c:Cx) (Z:List (Nat × List Nat)):Nat→Code→Bool
 | _,.skip=>true
 | bid,.region id ops d=>match dr Z id with
  | some fz=>Vy c fz&&dV (rcx c fz) bid (.region id ops d)
  | none=>dV c bid (.region id ops d)
 | b,.seq x y=>gh c Z b x&&gh c Z b y
 | b,.cond x t e=>aaO (eF c.K x) 2&&gh c Z b t&&gh c Z b e
 | _,.block id x=>gh c Z id x
 | b,.loop x=>gh c Z b x&&(match dr c.H b with
  | some (hl,xl)=>kC c.K hl&&kC c.K xl
  | none=>false)
 | _,.exit _=>true
 | _,.ret=>true
 | _,_=>false
def Ut (c:Cx) (Z:List (Nat × List Nat)) (fn:Func) (pm rm:List Kd):Bool :=
 (match fn.body with
  | some b=>gh c Z 0 b
  | none=>false)&&ZP (jt c.K) fn.ntmps&&Ko pm c.K&&kA pm&&cr c c.res rm&&decide (c.ios=tH 0 pm)
section
variable {P:Program} {c:Cx} {B:Nat} {X:Nat→Prop} {w0:World} {F0 F:Nat→Prop} {O:Nat→Option (Nat × Nat)} {a:Act} {w:World} {δ:List D} {fz:List Nat}
theorem DF:∀(ss ts:List Nat) (δ:List D),aj (aj δ ss []) ts []=aj δ (ss++ts) []
 | [],_,_=>rfl
 | i::ss,ts,δ=>by
  simp only [aaR,aj];exact DF ss ts _
def unK (c:Cx) (fz:List Nat) (k:Out→Option Out) (o:Out):Option Out :=
 match o with
 | .nrm δ=>k (.nrm (aj δ (PR c fz) []))
 | _=>none
theorem Br {V:Nat→Value} {b:Code} {bid:Nat} {Z:List (Nat × List Nat)} {hl xl:List Nat} (h1:kC c.K hl=true) (h2:kC c.K xl=true)
  (ih:∀(F:Nat→Prop) (O:Nat→Option (Nat × Nat)) (a:Act) (w:World) (δ:List D),Inv c B X w0 F0 F O a w δ→IoV c V a→∀(k:Out→Option Out) (r:Out),wb c Z bid b δ k=some r→∀Q,(∀e a w,LP c B X w0 F0 V k r e a w→Q e a w)→b.wp P Q a w)
  {k:Out→Option Out} {r:Out} {Q:Exit→Act→World→Prop} (hQ:∀e a w,LP c B X w0 F0 V k r e a w→Q e a w) {o:Out}
  (ho:outK o (fun i s=>gG (jt c.K) xl s fun δ=>k (.ext i δ)) (fun x y=>k (.ret x y))=some r):∀(n:Nat) (F:Nat→Prop) (O:Nat→Option (Nat × Nat)) (a:Act) (w:World) (δ:List D),Inv c B X w0 F0 F O a w δ→IoV c V a →
  iter (fun s=>gG (jt c.K) hl s fun δ=>wb c Z bid b δ (bS hl xl)) n (ao δ hl)=some o→Code.rounds P b Q n a w
 | 0,_,_,_,_,_,_,_,h=>by cases h
 | n+1,F,O,a,w,δ,hI,hV,h=>by
  simp only [iter,kc] at h;rw [rounds_succ];have hI':=hI.carry h1;cases hb:wb c Z bid b (carry (jt c.K) hl δ) (bS hl xl) with
  | none=>rw [hb] at h;cases h
  | some ob =>
   rw [hb] at h;refine ih F O a w _ hI' hV _ ob hb _ (fun e a' w' hp=>?_)
   cases ob with
   | nrm s' =>
    simp only at h;cases e with
    | normal =>
     obtain⟨⟨F',O',δ',g1,g2⟩,g3⟩:=hp;simp only [bS,bB,ZG,Out.nrm.injEq] at g2;rw [←g2] at h;exact Br h1 h2 ih hQ ho n F' O' a' w' δ' g1 g3 h
    | exit i =>
     obtain⟨⟨F',O',δ',g1,g2⟩,g3⟩:=hp;simp [bS,bB] at g2
    | ret =>
     obtain⟨⟨F',O',δ',g1,g2⟩,g3⟩:=hp;obtain⟨rs,_,_,g4⟩:=gg g2;simp [bS] at g4
    | _=>exact hp.elim
   | ext i l =>
    simp only [ZG] at h;subst h;cases e with
    | normal =>
     obtain⟨⟨F',O',δ',g1,g2⟩,g3⟩:=hp;simp [bS,bB] at g2
    | exit j =>
     obtain⟨⟨F',O',δ',g1,g2⟩,g3⟩:=hp;simp only [bS,bB,ZG,Out.ext.injEq] at g2;obtain⟨rfl,rfl⟩:=g2;simp only [outK,kc] at ho;exact hQ (.exit j) _ _ ⟨⟨F',O',_,g1.carry h2,ho⟩,g3⟩
    | ret =>
     obtain⟨⟨F',O',δ',g1,g2⟩,g3⟩:=hp;obtain⟨rs,_,_,g4⟩:=gg g2;simp [bS] at g4
    | _=>exact hp.elim
   | ret x y =>
    simp only [ZG] at h;subst h;cases e with
    | normal =>
     obtain⟨⟨F',O',δ',g1,g2⟩,g3⟩:=hp;simp [bS,bB] at g2
    | exit j =>
     obtain⟨⟨F',O',δ',g1,g2⟩,g3⟩:=hp;simp [bS,bB] at g2
    | ret =>
     obtain⟨⟨F',O',δ',g1,g2⟩,g3⟩:=hp;obtain⟨rs,g5,g6,g4⟩:=gg g2;simp only [bS,ZG,Out.ret.injEq] at g4;obtain⟨rfl,rfl⟩:=g4;exact hQ .ret _ _ ⟨⟨F',O',δ',g1,vz g5 g6 ho⟩,g3⟩
    | _=>exact hp.elim
theorem jZ (hT:okT P c.T=true) (hS:∀f S,dr c.S f=some S→aw c.G P f S) (hm:P.follows .mixedOrders=true) {V:Nat→Value} {Z:List (Nat × List Nat)}:∀(b:Code) (bid:Nat),gh c Z bid b=true→∀(F:Nat→Prop) (O:Nat→Option (Nat × Nat)) (a:Act) (w:World) (δ:List D),
  Inv c B X w0 F0 F O a w δ→IoV c V a→∀(k:Out→Option Out) (r:Out),wb c Z bid b δ k=some r→∀Q,(∀e a w,LP c B X w0 F0 V k r e a w→Q e a w)→b.wp P Q a w
 | .skip,bid,_,F,O,a,w,δ,hI,hV,k,r,hg,Q,hQ=>wp_skip (hQ _ _ _ ⟨⟨F,O,δ,hI,hg⟩,hV⟩)
 | .region id ops d,bid,hok,F,O,a,w,δ,hI,hV,k,r,hg,Q,hQ=>by
  simp only [gh] at hok;simp only [wb] at hg;cases hH:dr Z id with
  | none =>
   rw [hH] at hok hg;exact jg hT hS hm (.region id ops d) bid hok F O a w δ hI hV k r hg Q hQ
  | some fz =>
   rw [hH] at hok hg;simp only [ZE] at hok;simp only [Lw,bP,DF] at hg;obtain⟨F2,O2,hI2⟩:=hI.recast hok.1;refine jg (c:=rcx c fz) hT hS hm (.region id ops d) bid hok.2 F2 O2 a w _ hI2 (fun s hs=>hV s (by rw [←Uv (fz:=fz)];exact hs)) (unK c fz k) r hg Q (fun e a w hp=>?_)
   cases e with
   | normal =>
    obtain⟨⟨F',O',δ',hI',hk'⟩,hV'⟩:=hp;exact hQ .normal _ _ ⟨⟨F',O',_,hI'.uncast,hk'⟩,fun s hs=>hV' s (by rw [Uv];exact hs)⟩
   | exit i=>obtain⟨⟨_,_,_,_,h⟩,_⟩:=hp;cases h
   | ret =>
    obtain⟨⟨_,_,_,_,h⟩,_⟩:=hp;obtain⟨rs,h1,h2,h3⟩:=gg h;cases h3
   | _=>exact hp.elim
 | .seq x y,bid,hok,F,O,a,w,δ,hI,hV,k,r,hg,Q,hQ=>by
  simp only [gh,ZE] at hok;refine wp_seq (jZ hT hS hm x bid hok.1 F O a w δ hI hV _ r hg _ (fun e a' w' hp=>?_))
  cases e with
  | normal =>
   obtain⟨⟨F',O',δ',hI',hk'⟩,hV'⟩:=hp;exact jZ hT hS hm y bid hok.2 F' O' a' w' δ' hI' hV' k r hk' Q hQ
  | exit id=>exact hQ _ _ _ hp
  | ret=>exact hQ _ _ _ hp
  | _=>exact hp.elim
 | .cond x t e,bid,hok,F,O,a,w,δ,hI,hV,k,r,hg,Q,hQ=>by
  simp only [gh,ZE] at hok;obtain⟨⟨hlv,hok1⟩,hok2⟩:=hok;have hop:=hI.opd (bO.1 hlv);have key:ifD (opD δ x) (wb c Z bid t δ k) (wb c Z bid e δ k)=some r:=by
   simp only [wb] at hg;cases x with
   | tmp s=>simpa only [opC,eM,opD] using hg
   | const v=>simpa only [opC,opD] using hg
   | func f=>simpa only [opC,opD] using hg
   | global g=>simp [opC] at hg
  unfold ifD at key;split at key
  ·rename_i hd
   rw [hd] at hop;exact wp_cond_true (br hop).1 (jZ hT hS hm t bid hok1 F O a w δ hI hV k r key Q hQ)
  ·rename_i hd
   rw [hd] at hop;exact wp_cond_false (br hop).1 (jZ hT hS hm e bid hok2 F O a w δ hI hV k r key Q hQ)
  ·cases key
 | .block id b,bid,hok,F,O,a,w,δ,hI,hV,k,r,hg,Q,hQ=>by
  simp only [gh] at hok;refine wp_block (jZ hT hS hm b id hok F O a w δ hI hV _ r hg _ (fun e a' w' hp=>?_))
  cases e with
  | normal=>exact hQ .normal _ _ hp
  | exit i =>
   simp only [Exit.inBlock];have hp':iO c B X w0 F0 V (fun δ=>Ej id (.ext i δ) k) r a' w':=hp;split
   ·rename_i hi
    refine hQ .normal _ _ (gC hp' fun δ F O _ h=>?_)
    simp only [Ej] at h;rw [aZ.2 (by simpa using hi)] at h;exact h
   ·rename_i hi
    refine hQ (.exit i) _ _ (gC hp' fun δ F O _ h=>?_)
    simp only [Ej] at h;cases hb:ZP i id
    ·rw [hb] at h;exact h
    ·exact absurd (by simpa using aZ.1 hb) hi
  | ret=>exact hQ .ret _ _ hp
  | _=>exact hp.elim
 | .loop b,bid,hok,F,O,a,w,δ,hI,hV,k,r,hg,Q,hQ=>by
  simp only [gh,ZE] at hok;obtain⟨hok1,hok2⟩:=hok;simp only [wb] at hg;cases hH:dr c.H bid with
  | none=>rw [hH] at hg;cases hg
  | some hx =>
   obtain⟨hl,xl⟩:=hx;rw [hH] at hg hok2;simp only [ZE] at hok2;simp only [bB] at hg;obtain⟨o',h1,h2⟩:=ZF.1 hg;unfold aQ at h1;split at h1
   case isFalse=>cases h1
   rename_i hex;refine wp_loop_rounds (ZW hex) ?_
   refine Br (hl:=hl) (xl:=xl) hok2.1 hok2.2 (fun F O a w δ hI hV k r hg Q hQ=>jZ hT hS hm b bid hok1 F O a w δ hI hV k r hg Q hQ) hQ h2 _ F O a w δ hI hV h1
 | .exit id,bid,_,F,O,a,w,δ,hI,hV,k,r,hg,Q,hQ=>wp_exit (hQ _ _ _ ⟨⟨F,O,δ,hI,hg⟩,hV⟩)
 | .ret,bid,_,F,O,a,w,δ,hI,hV,k,r,hg,Q,hQ=>wp_ret (hQ _ _ _ ⟨⟨F,O,δ,hI,hg⟩,hV⟩)
 | .label _,_,hok,_,_,_,_,_,_,_,_,_,_,_,_=>by simp [gh] at hok
 | .goto _,_,hok,_,_,_,_,_,_,_,_,_,_,_,_=>by simp [gh] at hok
 | .scope _,_,hok,_,_,_,_,_,_,_,_,_,_,_,_=>by simp [gh] at hok
theorem QN (hT:okT P c.T=true) (hS:∀f S,dr c.S f=some S→aw c.G P f S) (hm:P.follows .mixedOrders=true) {Z:List (Nat × List Nat)} {f:FuncId} {fn:Func} (hf:P.funcs[f]?=some fn) {pm rm:List Kd} (hok:Ut c Z fn pm rm=true) (hres:c.res=fn.results.toList)
  {ds rs us:List D} (hd:wy c Z fn ds=some (.ret rs us)) {args:Array Value} {w:World} {F:Nat→Prop} {ow:Nat→Option Nat} (hgl:gOk c.G w F) (ha:dU w F ow 0 pm ds args.toList) (hF:∀b,F b→b<w.heap.size∧ow b=none) (hO:∀b i,ow b=some i→b<w.heap.size) :
  Calls P f args w fun e w'=>∃v,e = .returned v∧∃F' R' vs,v=jW vs∧CallPost {pm:=pm,rm:=rm,f:=wy c Z fn} args rs us w F ow F' R' vs w':=by
 unfold Ut at hok;simp only [ZE,decide_eq_true_eq] at hok;obtain⟨⟨⟨⟨⟨hcode,hlenK⟩,hpre⟩,hpm⟩,hokr⟩,hios⟩:=hok;rw [aZ,lV] at hlenK;obtain⟨hpl,hpn⟩:=vh hpre;obtain⟨hdl,hal,hargs⟩:=vg pm ds args.toList 0 ha;have hasz:args.size=pm.length:=by simpa using hal
 unfold wy at hd;cases hb:fn.body with
 | none=>rw [hb] at hd;cases hd
 | some b =>
  rw [hb] at hd hcode;simp only at hd hcode;refine calls_of_wp hf hb ?_
  have hav:∀s,s<pm.length→av ({tmps:=args++ZO (fn.ntmps - args.size) undef,defers:=[]}:Act) s=args.toList.getD s undef:=fun s hs=>by
   have h1:s<args.size:=by omega
   simp only [av,ZH,ZI,aai];rw [aas h1]
  have hinit:Inv c w.heap.size (fun b=>ow b≠none) w F F (fun b=>(ow b).map fun i=>(i,0)) {tmps:=args++ZO (fn.ntmps - args.size) undef,defers:=[]} w (ro fn.ntmps ds):=by
   refine⟨by simp;omega,by rw [rM,hlenK],rfl,fun s=>?_,fun b hb=>⟨(hF b hb).1,by simp [(hF b hb).2]⟩,fun b p hp=>?_,fun _ h=>h,fun _ h=>.inl h,aag _,rfl,rfl,rfl,fun _ _ _=>rfl,hgl⟩
   ·unfold yJ
    rw [qK _ _ _ (by rw [hdl];omega)];by_cases hs:s<pm.length
    ·rw [hpn s hs,hav s hs]
     rcases hargs s hs with hbad | harg
     ·exact .inl hbad
     refine .inr ?_
     have hlv:∀lv,lv≠1→∀b,FB F 0 lv b→FB F w.heap.size lv b:=fun lv h1 b hb=>by
      match lv,h1 with
      | 0,_=>exact hb
      | _+2,_=>exact hb
     rcases sv hpm s hs with ⟨lv,hk,h1⟩ | ⟨z,lv,hk,h1⟩ | ⟨n,lv,hk,h1⟩
     ·rw [hk] at harg ⊢
      exact .inr (aK (hlv lv h1) (fun _ _=>rfl) harg)
     ·rw [hk] at harg ⊢
      exact .inr (dv (hlv lv h1) (fun _ _=>rfl) (fun g _ hg=>⟨⟨by simp only [ZT] at hg;simp [hg],fun h=>by cases h⟩,rfl⟩) harg)
     ·rw [hk] at harg ⊢
      exact .inr (gI (hlv lv h1) (fun _ _=>rfl) (fun g _ hg=>⟨⟨by simp only [ZT] at hg;simp [hg],fun h=>by cases h⟩,rfl⟩) harg)
    ·refine .inl ?_
     rw [fp,ZI,ZZ (by omega)];rfl
   ·obtain⟨i,hi,rfl⟩:=ZK.1 hp
    exact⟨hO b i hi,.inr (by rw [hi];simp)⟩
  refine jZ hT hS hm b 0 hcode F _ _ w _ hinit (V:=av {tmps:=args++ZO (fn.ntmps - args.size) undef,defers:=[]}) (fun _ _=>rfl) _ _ hd _ (fun e a' w' hp=>?_)
  have fin:iO c w.heap.size (fun b=>ow b≠none) w F (av {tmps:=args++ZO (fn.ntmps - args.size) undef,defers:=[]}) (fun δ=>Nk c δ some) (.ret rs us) a' w'→a'.defers=[]∧∃v,(results fn a'.tmps).run P w' = .ok v w'∧∃v',aaU v = .returned v'∧∃F' R' vs,v'=jW vs∧CallPost {pm:=pm,rm:=rm,f:=wy c Z fn} args rs us w F ow F' R' vs w':=by
   rintro⟨⟨F',O',δ',hI',hk⟩,hV'⟩;obtain⟨rs',h1,h2,h3⟩:=gg hk;simp only [ZG,Out.ret.injEq] at h3;obtain⟨rfl,rfl⟩:=h3;obtain⟨vs,g1,g2,g3,g4⟩:=vE (P:=P) hT hI' c.res rm rs' hokr h1;refine⟨hI'.df,jW vs,?_,_,rfl,F',fun b=>if w.heap.size≤b then(match O' b with
    | some (t,0)=>xu c.res t 0
    | _=>none) else none,vs,rfl,?_⟩
   ·have hrun:(fn.results.mapM (pb a'.tmps)).run P w' = .ok vs.toArray w':=by
     rw [aaw,←hres];simp [g1]
    have hrw:results fn a'.tmps=(do
      let vs ←fn.results.mapM (pb a'.tmps)
      pure (if h:vs.size=1 then vs[0] else .tuple vs)):=by
     unfold results;congr 1
    rw [hrw];simp only [Sem.run_bind,hrun,aaQ,Sem.run_pure];congr 1
    rcases vs with _ | ⟨y,_ | ⟨y',vs⟩⟩
    ·simp [jW]
    ·simp [jW]
    ·simp [jW]
   ·refine⟨hI'.os,hI'.tape,hI'.output,hI'.bb,fun b hb ho=>hI'.keep b hb (by simp [ho]),hI'.f0,fun b hb=>⟨hI'.fn b hb,(hI'.fl b hb).1,by simp only [(hI'.fl b hb).2];split<;>rfl⟩,fun b j hj=>?_,g2,g3,fun j=>?_,?_⟩
    ·split at hj
     case isFalse=>cases hj
     rename_i hB;refine⟨hB,?_⟩
     split at hj
     ·rename_i t he;exact(hI'.ol b _ he).1
     ·cases hj
    ·refine lJ (fun hk g hg=>?_) (g4 j)
     obtain⟨z,lv,hk⟩:=hk;obtain⟨e1,t,e2,e3⟩:=hg;rw [if_pos e1];simp only [e3];have:=(nW c.res rm hokr j t 0 z lv hk e2).1;simpa using this
    ·rw [hios]
     refine Ez pm args.toList 0 hal (fun j hj hio=>?_)
     rw [ZT];have hkj:=hpn j hj;have hbj:nth δ' j ≠ .bad:=by
      refine h2 _ ?_
      rw [hios,oA];exact aaN (by simpa using vM pm 0 j hj hio)
     have havj:av a' j=args.toList.getD j undef:=(hV' j (by rw [hkj];exact hio)).trans (hav j hj);have hlv:∀lv,lv≠1→∀b,FB F' w.heap.size lv b→FB F' 0 lv b:=fun lv h1 b hb=>by
      match lv,h1 with
      | 0,_=>exact hb
      | _+2,_=>exact hb
     refine⟨hbj,.inr ?_⟩
     rcases sv hpm j hj with ⟨lv,hk,h1⟩ | ⟨z,lv,hk,h1⟩ | ⟨n,lv,hk,h1⟩
     ·rw [hk] at hio;cases hio
     ·have h5:=hI'.own (hkj.trans hk) hbj
      rw [havj] at h5;rw [hk];exact dv (hlv lv h1) (fun _ _=>rfl) (fun _ _ _=>⟨trivial,rfl⟩) h5
     ·have h5:=hI'.box (hkj.trans hk) hbj
      rw [havj] at h5;rw [hk];exact gI (hlv lv h1) (fun _ _=>rfl) (fun _ _ _=>⟨trivial,rfl⟩) h5
  cases e with
  | normal=>exact fin hp
  | exit i =>
   obtain⟨⟨_,_,_,_,h⟩,_⟩:=hp;cases h
  | ret =>
   refine fin (gC hp fun δ F O _ h=>?_)
   obtain⟨rs',h1,h2,h3⟩:=gg h;exact vz h1 h2 h3
  | _=>exact hp.elim
theorem CT (hT:okT P c.T=true) (hS:∀f S,dr c.S f=some S→aw c.G P f S) (hm:P.follows .mixedOrders=true) {Z:List (Nat × List Nat)} {f:FuncId} {fn:Func} (hf:P.funcs[f]?=some fn) (hname:(fn.name== "runtime.NumGoroutine")=false) {pm rm:List Kd} (hok:Ut c Z fn pm rm=true) (hres:c.res=fn.results.toList) :
  aw c.G P f {pm:=pm,rm:=rm,f:=wy c Z fn}:=by
 intro ds rs us hd args w F ow hgl ha hF hO o a next Q hn
 have hbody:∃b,fn.body=some b:=by
  have hd':wy c Z fn ds=some (.ret rs us):=hd;unfold wy at hd';cases hb:fn.body with
  | none=>rw [hb] at hd';cases hd'
  | some b=>exact⟨b,rfl⟩
 obtain⟨b,hb⟩:=hbody;have hrun:(callFunc f args).run P w = .ok (.enter f args) w:=by
  have h1:¬fn.name= "runtime.NumGoroutine":=by simpa using hname
  simp [callFunc,hf,h1,hb]
 rw [hrun,aaF];refine aaI (QN hT hS hm hf hok hres hd hgl ha hF hO) (fun e w' he=>?_)
 obtain⟨v,rfl,F',R',vs,h1,h2⟩:=he;exact hn v w' ⟨F',R',vs,h1,h2⟩
end
end Go.V

namespace Go.V
open Go.RowKit Go.WideShapes Go.ChangeShapes
set_option maxRecDepth 100000
mutual
inductive Sh where
 | int (k:IntKind)
 | bool
 | str
 | sl (e:Sh)
 | st (l:ShL)
inductive ShL where
 | nil
 | cons (h:Sh) (t:ShL)
end
mutual
def Sh.size:Sh→Nat
 | .int _=>1
 | .bool=>1
 | .str=>1
 | .sl _=>1
 | .st l=>l.size
def ShL.size:ShL→Nat
 | .nil=>0
 | .cons h t=>h.size+t.size
end
def Sh.isSt:Sh→Bool
 | .st _=>true
 | _=>false
mutual
def Sh.flat:Sh→Bool
 | .int _=>true
 | .bool=>true
 | .str=>true
 | .sl _=>false
 | .st l=>l.flat
def ShL.flat:ShL→Bool
 | .nil=>true
 | .cons h t=>h.flat&&t.flat
end
def wrap (ag:Bool) (m:List D):D:=if ag then .agg m else nth m 0
mutual
def Sh.Is:Sh→List D→Prop
 | .int k,l=>∃n,l=[.v (.int k n)]∧k.min≤n∧n≤k.max
 | .bool,l=>∃b,l=[B b]
 | .str,l=>∃s,l=[T s]∧s.size≤maxLen
 | .sl e,l=>∃ds,l=[.arr e.size ds]∧ds.length≤maxLen∧∀d∈ds,∃m,e.Is m∧d=wrap e.isSt m
 | .st fs,l=>fs.Is l
def ShL.Is:ShL→List D→Prop
 | .nil,l=>l=[]
 | .cons h t,l=>∃a b,l=a++b∧h.Is a∧t.Is b
end
mutual
def Sh.ok (P:Program):Sh→TypeId→Bool
 | .int k,t=>match P.underlying t with
  | some (.int k')=>decide (k'=k)
  | _=>false
 | .bool,t=>match P.underlying t with
  | some .bool=>true
  | _=>false
 | .str,t=>match P.underlying t with
  | some .string=>true
  | _=>false
 | .sl e,t=>match P.underlying t with
  | some (.slice u)=>e.ok P u&&decide (P.cellsOf u=e.size)&&decide (0<e.size)
  | _=>false
 | .st l,t=>match P.underlying t with
  | some (.struct fs)=>l.ok P 0 fs.toList&&decide (P.cellsOf t=l.size)
  | _=>false
def ShL.ok (P:Program):ShL→Nat→List Field→Bool
 | .nil,_,[]=>true
 | .cons h t,off,f::fs=>decide (f.offset=off)&&h.ok P f.type&&decide (P.cellsOf f.type=h.size)&&t.ok P (off+h.size) fs
 | _,_,_=>false
end
section
variable {H:Type} {enc:TypeId × Value→H} {P:Program} {W:World}
theorem Sh.len_one {sh:Sh} (h:sh.isSt=false):sh.size=1:=by
 cases sh<;>simp_all [Sh.isSt,Sh.size]
theorem UH {a:Addr} {n:Nat} {vs:List Value} (h:W.cells? 0 a n=some vs):vs.length=n∧∀i u,vs[i]?=some u→W.cell? (a.add i)=some u:=by
 simp only [World.cells?,Nat.zero_le,if_true] at h;have hl:=mapM_some_length h;rw [List.length_range] at hl;refine⟨hl,fun i u hu=>?_⟩
 have hi:i<n:=by
  rw [←hl];exact(ZJ.1 hu).1
 rw [mapM_some_get h i i (by simp [hi]),hu]
theorem Vk (a:Addr) (i j:Nat):(a.add i).add j=a.add (i+j):=by
 unfold Addr.add;by_cases hi:i=0<;>by_cases hj:j=0<;>simp [hi,hj,Nat.add_assoc]
theorem RZ {a:Addr} {u:Value} (h:W.cell? a=some u):a.spot=none∧a.block<W.heap.size:=by
 unfold World.cell? at h;split at h
 case h_2=>cases h
 rename_i hb;split at h
 ·cases h
 rename_i hs;refine⟨by simpa using hs,?_⟩
 rcases aax a.block W.heap.size with h' | h'
 ·exact h'
 ·rw [Array.getElem?_eq_none h'] at hb;cases hb
theorem mQ {F:Nat→Prop} {d:D} {vs:List Value}:bW W F [d] vs↔RepC W F d vs:=by
 rw [aA];constructor
 ·rintro⟨v1,v2,rfl,h1,h2⟩
  rw [aW.1 h2,aaV];exact h1
 ·intro h
  exact⟨vs,[],by simp,h,aW.2 rfl⟩
theorem Rj {F:Nat→Prop} {sh:Sh} {L:List D} {vs:List Value} (hr:bW W F L vs) (hs:L.all D.single=true) (hl:L.length=sh.size):RepC W F (wrap sh.isSt L) vs∧(wrap sh.isSt L).width=sh.size:=by
 cases hb:sh.isSt
 ·have h1:=Sh.len_one hb
  match L,hl.trans h1 with
  | [d],_ =>
   simp only [wrap,ZN,if_false,nth];refine⟨mQ.1 hr,?_⟩
   rw [h1];exact(fI (by simpa using hs)).1
 ·simp only [wrap,if_true]
  refine⟨by rw [RepC];exact⟨hr,hs⟩,?_⟩
  simpa [D.width,D.cells] using hl
mutual
theorem Sh.opened:∀(sh:Sh) (t:TypeId) (fuel:Nat) (cs:List Value) (x:DataW H × List MemPlace),sh.ok P t=true→DataW.trod enc P W 0 (fun _=>true) true fuel t cs=some x →
  ∃L,sh.Is L∧bW W (·<W.heap.size) L cs∧L.all D.single=true∧L.length=sh.size
 | .int k,t,fuel,cs,x,hok,h=>by
  simp only [Sh.ok] at hok;split at hok
  case h_2=>cases hok
  rename_i k' hu;have hk:=of_decide_eq_true hok;subst hk;obtain⟨n,rfl,-,hw⟩:=DataW.trod_int hu h;simp only [Lit.wf,ZE,decide_eq_true_eq] at hw;refine⟨[.v (.int k' n)],⟨n,rfl,hw⟩,mQ.2 ?_,rfl,rfl⟩
  simp [RepC,V.flat]
 | .bool,t,fuel,cs,x,hok,h=>by
  simp only [Sh.ok] at hok;split at hok
  case h_2=>cases hok
  rename_i hu;obtain⟨n,rfl,-⟩:=DataW.trod_bool hu h;refine⟨[B n],⟨n,rfl⟩,mQ.2 ?_,rfl,rfl⟩
  simp [RepC,V.flat]
 | .str,t,fuel,cs,x,hok,h=>by
  simp only [Sh.ok] at hok;split at hok
  case h_2=>cases hok
  rename_i hu;obtain⟨s,rfl,-,hw⟩:=DataW.trod_string hu h;refine⟨[T s],⟨s,rfl,hw⟩,mQ.2 ?_,rfl,rfl⟩
  simp [RepC,V.flat]
 | .sl e,t,fuel,cs,x,hok,h=>by
  simp only [Sh.ok] at hok;split at hok
  case h_2=>cases hok
  rename_i u hu;simp only [ZE,decide_eq_true_eq] at hok;obtain⟨⟨hok,hz⟩,hpos⟩:=hok;rcases DataW.trod_slice hu h with ⟨rfl,-⟩ | ⟨a,len,cap,elems,rest,n,rfl,rfl,-,-,hle,hcap,hlen,hel,-⟩
  ·refine⟨[.arr e.size []],⟨[],rfl,by simp,by simp⟩,mQ.2 ?_,rfl,rfl⟩
   rw [RepC];exact⟨none,0,[],rfl,aag _,aW.2 rfl,by simp,by simp⟩
  ·have key:∀k,k≤len→∃ds us,ds.length=k∧us.length=k*e.size∧bW W (·<W.heap.size) ds us∧(∀d∈ds,d.width=e.size)∧(∀d∈ds,∃m,e.Is m∧d=wrap e.isSt m)∧∀i v,us[i]?=some v→W.cell? (a.add i)=some v:=by
    intro k;induction k with
    | zero=>exact fun _=>⟨[],[],rfl,by simp,aW.2 rfl,by simp,by simp,by simp⟩
    | succ k ih =>
     intro hk;obtain⟨ds,us,h1,h2,h3,h4,h5,h6⟩:=ih (by omega);have hi:=hel k (by omega);rw [ZM (by omega)] at hi;obtain⟨vs,hc,hd⟩:=ZF.1 hi;obtain⟨L,g1,g2,g3,g4⟩:=Sh.opened e u n vs _ hok hd;obtain⟨g5,g6⟩:=UH hc;obtain⟨g7,g8⟩:=Rj g2 g3 g4;rw [hz] at g5 g6;refine⟨ds++[wrap e.isSt L],us++vs,by simp [h1],by simp [h2,g5,Nat.succ_mul],(dN _ _ _).2 ⟨us,vs,rfl,h3,mQ.2 g7⟩,?_,?_,fun i v hv=>?_⟩
     ·intro d hd
      rcases aak.1 hd with hd | hd
      ·exact h4 d hd
      ·simp at hd;subst hd;exact g8
     ·intro d hd
      rcases aak.1 hd with hd | hd
      ·exact h5 d hd
      ·simp at hd;subst hd;exact⟨L,g1,rfl⟩
     ·rcases aax i us.length with hlt | hge
      ·rw [aau hlt] at hv
       exact h6 i v hv
      ·rw [ZQ hge] at hv
       have:=g6 _ v hv;rw [Vk,←h2] at this;rw [show us.length+(i - us.length)=i from by omega] at this;exact this
   obtain⟨ds,us,h1,h2,h3,h4,h5,h6⟩:=key len (aag _);refine⟨[.arr e.size ds],⟨ds,rfl,by omega,h5⟩,mQ.2 ?_,rfl,rfl⟩
   rw [RepC];refine⟨some a,cap,us,by rw [h1],by omega,h3,h4,fun hne=>?_⟩
   have hpl:0<us.length:=by
    rw [h2,←h1];exact Nat.mul_pos (List.length_pos_iff.2 hne) hpos
   have h0:=h6 0 _ (ZM hpl);have ha0:a.add 0=a:=by simp [Addr.add]
   rw [ha0] at h0;obtain⟨hsp,hbl⟩:=RZ h0;have ea:a=⟨a.block,a.off,none⟩:=by
    rw [←hsp]
   refine⟨a.block,a.off,by rw [←ea],hbl,fun i v hv=>?_⟩
   have:=h6 i v hv;unfold Addr.add at this;split at this
   ·rename_i hi0
    subst hi0;rw [Nat.add_zero,←ea];exact this
   ·rw [←hsp]
    rw [hsp];exact this
 | .st l,t,fuel,cs,x,hok,h=>by
  simp only [Sh.ok] at hok;split at hok
  case h_2=>cases hok
  rename_i fs hu;simp only [ZE,decide_eq_true_eq] at hok;obtain⟨xs,n,rfl,-,hlen,hxl,hf⟩:=DataW.trod_struct hu h;obtain⟨L,g1,g2,g3,g4⟩:=ShL.opened l 0 fs.toList n cs hok.1 (fun f hf'=>by
   obtain⟨i,hi,he⟩:=List.mem_iff_getElem.1 hf';have:=hf i f (by rw [←he];simp at hi ⊢);rw [ZM (by simp at hi;omega)] at this;exact⟨_,this⟩)
  rw [aap,←hok.2,←hlen,List.take_length] at g2;exact⟨L,g1,g2,g3,g4⟩
theorem ShL.opened:∀(l:ShL) (off:Nat) (fs:List Field) (fuel:Nat) (cs:List Value),l.ok P off fs=true→(∀f∈fs,∃x,DataW.trod enc P W 0 (fun _=>true) true fuel f.type ((cs.drop f.offset).take (P.cellsOf f.type))=some x) →
  ∃L,l.Is L∧bW W (·<W.heap.size) L ((cs.drop off).take l.size)∧L.all D.single=true∧L.length=l.size
 | .nil,off,[],fuel,cs,hok,h=>⟨[],rfl,by simp [ShL.size,aW],rfl,rfl⟩
 | .nil,off,_::_,fuel,cs,hok,h=>by simp [ShL.ok] at hok
 | .cons a t,off,[],fuel,cs,hok,h=>by simp [ShL.ok] at hok
 | .cons a t,off,f::fs,fuel,cs,hok,h=>by
  simp only [ShL.ok,ZE,decide_eq_true_eq] at hok;obtain⟨⟨⟨h1,h2⟩,h3⟩,h4⟩:=hok;obtain⟨x,hx⟩:=h f (by simp);obtain⟨L,g1,g2,g3,g4⟩:=Sh.opened a f.type fuel _ x h2 hx;obtain⟨M,k1,k2,k3,k4⟩:=ShL.opened t (off+a.size) fs fuel cs h4 (fun f hf=>h f (by simp [hf]));refine⟨L++M,⟨L,M,rfl,g1,k1⟩,(dN _ _ _).2 ⟨_,_,?_,g2,k2⟩,by simp [g3,k3],by simp [ShL.size,g4,k4]⟩
  rw [h1,h3,ShL.size,←List.drop_drop,←List.take_add]
end
def oY:D→Bool
 | .v _=>true
 | _=>false
theorem Vt {L:List D} (h:L.all oY=true):(D.agg L).isV=true:=by
 simp only [D.isV];refine ZR.2 fun d hd=>?_
 have:=ZR.1 h d hd;cases d<;>simp_all [oY]
mutual
theorem Sh.isV_of:∀(sh:Sh) (L:List D),sh.flat=true→sh.Is L→L.all oY=true
 | .int k,L,_,h=>by obtain⟨n,rfl,_⟩:=h;rfl
 | .bool,L,_,h=>by obtain⟨n,rfl⟩:=h;rfl
 | .str,L,_,h=>by obtain⟨n,rfl,_⟩:=h;rfl
 | .sl _,L,h,_=>by simp [Sh.flat] at h
 | .st l,L,h,hl=>ShL.isV_of l L (by simpa [Sh.flat] using h) hl
theorem ShL.isV_of:∀(sh:ShL) (L:List D),sh.flat=true→sh.Is L→L.all oY=true
 | .nil,L,_,h=>by cases h;rfl
 | .cons a t,L,h,hl=>by
  obtain⟨x,y,rfl,h1,h2⟩:=hl;simp only [ShL.flat,ZE] at h;rw [List.all_append,Sh.isV_of a x h.1 h1,ShL.isV_of t y h.2 h2];rfl
end
def Sh.IsV (sh:Sh) (d:D):Prop:=∃m,sh.Is m∧d=wrap sh.isSt m
theorem Sh.arg {sh:Sh} {t:TypeId} {v:Value} {d:DataW H} {ps:List MemPlace} {base:Nat} (hok:sh.ok P t=true) (hv:aal P W .any base t v) (h:DataW.Trod enc P W 0 (fun _=>true) true t v d ps) :
  ∃x,sh.IsV x∧bf W (·<W.heap.size) x v∧(sh.flat=true→x.isV=true):=by
 obtain⟨fuel,h⟩:=h;obtain⟨L,h1,h2,h3,h4⟩:=Sh.opened sh t fuel _ _ hok h;refine⟨_,⟨L,h1,rfl⟩,?_,fun hf=>?_⟩
 ·cases hb:sh.isSt
  ·have h1':=Sh.len_one hb
   have hone:v.cells.toList=[v]:=by
    cases sh<;>simp only [Sh.isSt,Bool.true_eq_false] at hb<;>simp only [Sh.ok] at hok<;>split at hok<;>rename_i hu
    ·obtain⟨n,rfl⟩:=okWide_int hu hv;rfl
    ·cases hok
    ·obtain⟨n,rfl⟩:=okWide_bool hu hv;rfl
    ·cases hok
    ·obtain⟨n,rfl⟩:=okWide_string hu hv;rfl
    ·cases hok
    ·obtain⟨_,_,_,rfl⟩:=okWide_slice hu hv;rfl
    ·cases hok
   match L,h4.trans h1' with
   | [e],_ =>
    simp only [wrap,ZN,if_false,nth];have hs:e.single=true:=by simpa using h3
    rw [hone] at h2;exact(gB hs).2 (mQ.1 h2)
  ·simp only [wrap,if_true]
   have:∃cs,v = .agg cs:=by
    cases sh<;>simp only [Sh.isSt,ZN] at hb;simp only [Sh.ok] at hok;split at hok
    case h_2=>cases hok
    rename_i hu;simp only [aal,hu] at hv;obtain⟨cs,h,_⟩:=hv;exact⟨cs,h⟩
   obtain⟨cs,rfl⟩:=this;refine⟨cs.toList,by simp,?_⟩
   rw [RepC];exact⟨by simpa [Value.cells] using h2,h3⟩
 ·have:=Sh.isV_of sh L hf h1
  cases hb:sh.isSt
  ·match L,h4.trans (Sh.len_one hb) with
   | [e],_ =>
    simp only [wrap,ZN,if_false,nth];cases e<;>simp [oY] at this;rfl
  ·simp only [wrap,if_true]
   exact Vt this
theorem Xt {k:IntKind} {x:D} (h:(Sh.int k).IsV x):∃n,x = .v (.int k n)∧k.min≤n∧n≤k.max:=by
 obtain⟨_,⟨n,rfl,h⟩,rfl⟩:=h;exact⟨n,rfl,h⟩
theorem YC {e:Sh} {x:D} (h:(Sh.sl e).IsV x):∃ds,x = .arr e.size ds∧ds.length≤maxLen∧∀d∈ds,e.IsV d:=by
 obtain⟨_,⟨n,rfl,h,h'⟩,rfl⟩:=h;exact⟨n,rfl,h,h'⟩
def Dt (P:Program):List Sh→List TypeId→List Kd→Bool
 | [],[],[]=>true
 | sh::shs,t::ts,.dat lv::ks=>sh.ok P t&&(ZP lv 2||(ZP lv 0&&sh.flat))&&Dt P shs ts ks
 | _,_,_=>false
def NU:List Sh→List D→Prop
 | [],[]=>True
 | sh::shs,d::ds=>sh.IsV d∧NU shs ds
 | _,_=>False
theorem WB {a b:Sh} {ds:List D} (h:NU [a,b] ds):∃x y,ds=[x,y]∧a.IsV x∧b.IsV y:=by
 match ds,h with
 | [x,y],⟨h1,h2,_⟩=>exact⟨x,y,rfl,h1,h2⟩
theorem PZ {base:Nat}:∀(shs:List Sh) (ts:List TypeId) (ks:List Kd) (vs:List Value) (ds:List (DataW H)) (ps:List MemPlace) (i:Nat),Dt P shs ts ks=true→aab enc P W 0 (fun _=>true) true ts vs ds ps →
  (∀(j:Nat) t v,ts[j]?=some t→vs[j]?=some v→aal P W .any base t v)→∃xs,NU shs xs∧dU W (·<W.heap.size) (fun _=>none) i ks xs vs
 | [],[],[],[],_,_,_,_,_,_=>⟨[],trivial,trivial⟩
 | [],[],[],_::_,[],_,_,_,h,_=>h.elim
 | [],[],[],_::_,_::_,_,_,_,h,_=>h.elim
 | sh::shs,t::ts,k::ks,[],[],_,_,_,h,_=>h.elim
 | sh::shs,t::ts,k::ks,[],_::_,_,_,_,h,_=>h.elim
 | sh::shs,t::ts,k::ks,_::_,[],_,_,_,h,_=>h.elim
 | sh::shs,t::ts,k::ks,v::vs,d::ds,ps,i,hok,h,hv=>by
  cases k<;>simp only [Dt,ZN] at hok;rename_i lv;simp only [ZE,ZX] at hok;obtain⟨⟨hok1,hlv⟩,hok2⟩:=hok;obtain⟨p,q,h1,h2,rfl⟩:=h;obtain⟨x,g1,g2,g3⟩:=Sh.arg hok1 (hv 0 t v rfl rfl) h1;obtain⟨xs,k1,k2⟩:=PZ shs ts ks vs ds q (i+1) hok2 h2 (fun j t v ht hv'=>hv (j+1) t v ht hv');refine⟨x::xs,⟨g1,k1⟩,.inr ?_,k2⟩
  rcases hlv with h' | ⟨h',hf⟩
  ·rw [aZ] at h'
   subst h';exact g2
  ·exact rJ (g3 hf) g2
 | [],[],_::_,_,_,_,_,hok,_,_=>by simp [Dt] at hok
 | [],_::_,_,_,_,_,_,hok,_,_=>by simp [Dt] at hok
 | _::_,[],_,_,_,_,_,hok,_,_=>by simp [Dt] at hok
 | _::_,_::_,[],_,_,_,_,hok,_,_=>by simp [Dt] at hok
theorem xY {W':World} (hl:laidOutB P=true):∀(ts:List TypeId) (vs:List Value) (ds:List (DataW H)) (ps:List MemPlace),(ts.all fun t=>P.readableRec t&&decide (t<P.types.size))=true →
  aab enc P W 0 (fun _=>true) true ts vs ds ps→Below W.heap.size W W'→(∀x∈ps,x.block<W.heap.size)→∀sp:Nat→Bool,(∀x∈ps,sp x.block=true)→aab enc P W' 0 sp true ts vs ds ps
 | [],[],[],_,_,h,_,_,_,_=>h
 | [],_::_,[],_,_,h,_,_,_,_=>h.elim
 | [],[],_::_,_,_,h,_,_,_,_=>h.elim
 | [],_::_,_::_,_,_,h,_,_,_,_=>h.elim
 | _::_,[],[],_,_,h,_,_,_,_=>h.elim
 | _::_,[],_::_,_,_,h,_,_,_,_=>h.elim
 | _::_,_::_,[],_,_,h,_,_,_,_=>h.elim
 | t::ts,v::vs,d::ds,ps,hr,h,hb,hlt,sp,hsp=>by
  obtain⟨p,q,h1,h2,rfl⟩:=h;simp only [List.all_cons,ZE,decide_eq_true_eq] at hr;refine⟨p,q,?_,xY hl ts vs ds q hr.2 h2 hb (fun x hx=>hlt x (by simp [hx])) sp (fun x hx=>hsp x (by simp [hx])),rfl⟩
  exact WideElems.Trod_stays hl hr.1.1 hr.1.2 h1 (fun x hx=>hb.same (hlt x (by simp [hx]))) (fun x hx=>hsp x (by simp [hx]))
end
section
variable {H:Type} {enc:TypeId × Value→H} {P:Program}
theorem IJ {f:Func} {s:ChangeSpec} {apart fresh handsOn again:Bool} {W W':World} {args:Array Value} {v:Value} {ds gs:List (DataW H)} {before pa pv:List MemPlace}
  (hW:DataW.Whole enc P f.params.toList s.vars apart W args.toList ds gs before)
  (hres:∀(b:Nat) (sp:Nat→Bool) (hd:Bool),aab enc P W' b sp hd f.resultTypes.toList (v.resultList f.resultTypes.size) (s.fn H (ds++gs)).results [])
  (hargs:∀sp:Nat→Bool,(∀p∈before,sp p.block=true)→aab enc P W' 0 sp true f.params.toList args.toList (s.fn H (ds++gs)).args pa)
  (hvars:∀sp:Nat→Bool,(∀p∈before,sp p.block=true)→DataW.TrodVars enc P W' sp s.vars (s.fn H (ds++gs)).vars pv)
  (hps:before=pa++pv) (hb:Below W.heap.size W W')
  (hok:∀(j:Nat) (t:TypeId) (r:Value),f.resultTypes[j]?=some t→(v.resultList f.resultTypes.size)[j]?=some r→aal P W' .any 0 t r) :
  s.post enc P f apart fresh handsOn again W args v W':=by
 have hlt:∀p∈before,p.block<W.heap.size:=fun p hp=>hW.lt p hp
 have hold:∀p∈before,(fun b=>decide (b<W.heap.size)) p.block=true:=fun p hp=>by simpa using hlt p hp
 refine⟨ds,gs,before,[],pa,pv,hW,hres _ _ _,hargs _ hold,hvars _ hold,World.keptBut_mono (fun p hp=>⟨hp,?_⟩) (hb.frame (·∈before)),fun _=>?_⟩
 ·rw [hps,aak] at hp
  exact Or.inr hp
 ·obtain⟨_,_,_,_,_,hz,hn⟩:=hW
  refine⟨hok,_,_,([]++pa)++pv,⟨[]++pa,pv,trodAll_append (hargs _ (fun _ _=>rfl)) (hres _ _ _),hvars _ (fun _ _=>rfl),rfl,?_,?_⟩,?_⟩
  ·intro b off hp
   have hin:MemPlace.cell b off∈before:=by rw [hps];simpa using hp
   rw [hb.frozen (hlt _ hin)];exact hz b off hin
  ·intro ha
   have:=hn ha;rw [hps] at this;simpa using this
  ·intro p hp _
   rw [hps];simpa using hp
theorem Fg {G:List (Nat × (Obj→Prop))} {f:FuncId} {S:FS} (hm:aw G P f S) {fn:Func} (hf:P.funcs[f]?=some fn) (hname:(fn.name== "runtime.NumGoroutine")=false) (hb:fn.body.isSome=true) {ds rs us:List D} (hd:S.f ds=some (.ret rs us)) {args:Array Value} {w:World} {F:Nat→Prop} {ow:Nat→Option Nat}
  (hgl:gOk G w F) (ha:dU w F ow 0 S.pm ds args.toList) (hF:∀b,F b→b<w.heap.size∧ow b=none) (hO:∀b i,ow b=some i→b<w.heap.size) :
  Calls P f args w fun e w'=>∃v,e = .returned v∧∃F' R vs,v=jW vs∧CallPost S args rs us w F ow F' R vs w':=by
 obtain⟨b,hb⟩:=aaf.1 hb;have h1:¬fn.name= "runtime.NumGoroutine":=by simpa using hname
 have hrun:(callFunc f args).run P w = .ok (.enter f args) w:=by simp [callFunc,hf,h1,hb]
 have h2:=hm ds rs us hd args w F ow hgl ha hF hO {(default:Oper) with dst:=some 0} {tmps:=#[undef],defers:=[]} (fun a w'=>∃F' R vs,a.tmps.getD 0 undef=jW vs∧CallPost S args rs us w F ow F' R vs w') (fun _ _ _=>False) (fun v w' h=>by
  obtain⟨F',R,vs,rfl,h⟩:=h;exact⟨F',R,vs,by simp [Act.put],h⟩)
 rw [hrun,aaF] at h2;refine aaI h2 fun e w' he=>?_
 cases e with
 | returned v =>
  obtain⟨F',R,vs,h3,h4⟩:=he;exact⟨v,rfl,F',R,vs,by simpa [Act.put] using h3,h4⟩
 | panicked c=>exact he.elim
 | outgrown=>obtain⟨_,_,h⟩:=he;exact h.elim
theorem Ub {G:List (Nat × (Obj→Prop))} {f:FuncId} {S:FS} (hm:aw G P f S) {fn:Func} (hf:P.funcs[f]?=some fn) (hname:(fn.name== "runtime.NumGoroutine")=false) (hbd:fn.body.isSome=true) (shs:List Sh) {rt:TypeId}
  (hl:laidOutB P=true) (hsh:Dt P shs fn.params.toList S.pm=true) (hrd:(fn.params.toList.all fun t=>P.readableRec t&&decide (t<P.types.size))=true)
  (hrm:S.rm=[.dat 0]) (hrt:fn.resultTypes=#[rt]) (hbool:P.underlying rt=some .bool)
  (hd:∀ds,NU shs ds→S.f ds=some (.ret [B true] [])) {s:ChangeSpec} (hvars:s.vars=[])
  (hs:∀ds:List (DataW H),ds.length=fn.params.size→s.fn H (ds++[])={results:=[.lit (.bool true)],args:=ds})
  {W:World} {base:Nat} {args:Array Value} {ds gs:List (DataW H)} {before:List MemPlace}
  (hval:∀(j:Nat) t v,fn.params[j]?=some t→args[j]?=some v→aal P W .any base t v) (hW:DataW.Whole enc P fn.params.toList s.vars false W args.toList ds gs before) (hgl:gOk G W fun b=>b<W.heap.size) {fresh handsOn again:Bool} :
  Calls P f args W fun e W'=>∃v,e = .returned v∧s.post enc P fn false fresh handsOn again W args v W':=by
 have hW':=hW;have hlt:∀p∈before,p.block<W.heap.size:=fun p hp=>hW.lt p hp
 obtain⟨p,q,hA,hV,rfl,hfz,hnd⟩:=hW;rw [hvars] at hV;have hgs:gs=[]∧q=[]:=by
  cases gs with
  | nil=>exact⟨rfl,hV⟩
  | cons _ _=>exact hV.elim
 obtain⟨rfl,rfl⟩:=hgs;obtain⟨xs,h1,h2⟩:=PZ (base:=base) shs fn.params.toList S.pm args.toList ds p 0 hsh hA (fun j t v ht hv=>hval j t v (by simpa using ht) (by simpa using hv));refine aaI (Fg hm hf hname hbd (hd xs h1) hgl h2 (fun b hb=>⟨hb,rfl⟩) (fun b i hi=>by cases hi)) fun e W' he=>?_
 obtain⟨v,rfl,F',R,vs,rfl,hp⟩:=he;refine⟨_,rfl,?_⟩
 have hlen:ds.length=fn.params.size:=by
  have:∀(ts:List TypeId) (vs:List Value) (ds:List (DataW H)) (ps:List MemPlace),aab enc P W 0 (fun _=>true) true ts vs ds ps→ds.length=ts.length:=by
   intro ts;induction ts with
   | nil =>
    intro vs ds ps h;cases ds with
    | nil=>rfl
    | cons _ _=>cases vs<;>exact h.elim
   | cons t ts ih =>
    intro vs ds ps h;cases vs with
    | nil=>exact h.elim
    | cons v vs =>
     cases ds with
     | nil=>exact h.elim
     | cons d ds =>
      obtain⟨_,_,_,h2,_⟩:=h;simp [ih _ _ _ h2]
  simpa using this _ _ _ _ hA
 have hB:Below W.heap.size W W':=⟨hp.os,hp.tape,hp.output,hp.size,fun b hb=>hp.keep b hb rfl⟩
 have hres:jW vs = .bool true:=by
  have hl1:=hp.len;rw [hrm] at hl1
  match vs,hl1 with
  | [y],_ =>
   have h0:=hp.res 0;rw [hrm] at h0;simp only [aq,nth,aac] at h0;rcases h0 with h0 | h0
   ·cases h0
   ·exact(cX.1 h0).1
 rw [hres];have hsd:=hs ds hlen;refine IJ (pa:=p) (pv:=[]) hW' (fun b sp hd'=>?_) (fun sp hsp=>?_) (fun sp _=>?_) rfl hB ?_
 ·rw [hsd,hrt]
  exact trodAll_mk1 (shut_bool hbool true)
 ·rw [hsd]
  exact xY hl _ _ _ _ hrd hA hB (fun x hx=>hlt x (by simp [hx])) sp (fun x hx=>hsp x (by simp [hx]))
 ·rw [hsd,hvars]
  rfl
 ·exact ok_one hrt rfl (okWide_bool_mk hbool true)
end
end Go.V

namespace Go.V
set_option maxRecDepth 100000
section
variable {k:IntKind} {a b:Int} {bl:Bool} {eq:List Nat}
@[simp] theorem bZ:bin .add bl eq (.v (.int k a)) (.v (.int k b))=some (.v (.int k (k.wrap (a+b)))):=by simp [bin,jX]
@[simp] theorem kZ:bin .sub bl eq (.v (.int k a)) (.v (.int k b))=some (.v (.int k (k.wrap (a - b)))):=by simp [bin,jX]
@[simp] theorem mf:bin .mul bl eq (.v (.int k a)) (.v (.int k b))=some (.v (.int k (k.wrap (a*b)))):=by simp [bin,jX]
@[simp] theorem EO:bin .quo bl eq (.v (.int k a)) (.v (.int k b))=if b=0 then none else some (.v (.int k (k.wrap (a.tdiv b)))):=by simp [bin,jX]
@[simp] theorem Qc:bin .rem bl eq (.v (.int k a)) (.v (.int k b))=if b=0 then none else some (.v (.int k (a.tmod b))):=by simp [bin,jX]
@[simp] theorem bp:bin .lss bl eq (.v (.int k a)) (.v (.int k b))=some (B (decide (a<b))):=by simp [bin,jX]
@[simp] theorem Qy:bin .leq bl eq (.v (.int k a)) (.v (.int k b))=some (B (decide (a≤b))):=by simp [bin,jX]
@[simp] theorem Ai:bin .gtr bl eq (.v (.int k a)) (.v (.int k b))=some (B (decide (b<a))):=by simp [bin,jX]
@[simp] theorem Bq:bin .geq bl eq (.v (.int k a)) (.v (.int k b))=some (B (decide (b≤a))):=by simp [bin,jX]
@[simp] theorem mw:bin .eql bl eq (.v (.int k a)) (.v (.int k b))=some (B (decide (a=b))):=by
 have:(a==b)=decide (a=b):=rfl;simp [bin,jX,this]
@[simp] theorem nG:bin .neq bl eq (.v (.int k a)) (.v (.int k b))=some (B (!decide (a=b))):=by
 have:(a != b) = !decide (a=b):=rfl;simp [bin,jX,this]
@[simp] theorem YE {a b:Bool}:bin .eql true eq (B a) (B b)=some (B (a==b)):=by simp [bin]
@[simp] theorem Ho {a b:Bool}:bin .neq true eq (B a) (B b)=some (B !(a==b)):=by simp [bin]
@[simp] theorem UE {a b:ByteArray}:bin .add bl eq (T a) (T b)=if a.size+b.size≤1152921504606846976 then some (T (a++b)) else none:=by simp [bin,yD]
@[simp] theorem Ui {a b:ByteArray}:bin .eql bl eq (T a) (T b)=some (B (decide (a=b))):=by
 have:(a.toList==b.toList)=decide (a=b):=by
  rw [Bool.eq_iff_iff,beq_iff_eq,decide_eq_true_eq];constructor
  ·intro h
   have h1:∀s:ByteArray,s.toList=s.data.toList:=fun s=>by simp [ByteArray.toList_eq]
   rw [h1,h1] at h;cases a;cases b;simp at h;simp [h]
  ·rintro rfl;rfl
 simp [bin,yD,this]
@[simp] theorem Zf {a b:ByteArray}:bin .neq bl eq (T a) (T b)=some (B (!decide (a=b))):=by
 have h:=Ui (a:=a) (b:=b) (bl:=bl) (eq:=eq);simp only [bin,yD,ZG,D.v.injEq,Value.bool.injEq] at h ⊢;rw [h]
@[simp] theorem lH {b:Bool}:un .not (B b)=some (B !b):=rfl
@[simp] theorem Zs:un .neg (.v (.int k a))=some (.v (.int k (k.wrap (-a)))):=by simp [un]
theorem ae (h1 : -9223372036854775808≤a) (h2:a<9223372036854775808):IntKind.i64.wrap a=a:=by
 simp [IntKind.wrap,IntKind.bits,IntKind.signed];split<;>omega
end
@[simp] theorem bt {c:Bool} {t e:Option Out}:ifD (B c) t e=if c=true then t else e:=by cases c<;>rfl
@[simp] theorem jn {c:Bool} {t e:Option Out}:ifN c t e=if c=true then t else e:=by cases c<;>rfl
@[simp] theorem sA {v:D} {c:Bool} {r:Option D}:af v (B c) true r=if c=true then r else some v:=by cases c<;>rfl
@[simp] theorem sc {v:D} {c:Bool} {r:Option D}:af v (B c) false r=if c=true then some v else r:=by cases c<;>rfl
@[simp] theorem Mj {v:D} {p:Bool} {l:List D} {r:Option D}:af v (.tup l) p r=some v:=rfl
@[simp] theorem Mz {p:Bool} {l:List D} {r:Option Out} {alt:List D} {k:List D→Option Out}:bX (.tup l) p r alt k=k alt:=rfl
def XZ (r:Option Out) (k:List D→Option Out):Option Out :=
 match r with
 | some (.nrm l)=>k l
 | _=>none
@[simp] theorem nT {l:List D} {k:List D→Option Out}:XZ (some (.nrm l)) k=k l:=rfl
@[simp] theorem MB {c:Bool} {r:Option Out} {alt:List D} {k:List D→Option Out}:bX (B c) true r alt k=if c=true then XZ r k else k alt:=by cases c<;>rfl
@[simp] theorem vF {c:Bool} {r:Option Out} {alt:List D} {k:List D→Option Out}:bX (B c) false r alt k=if c=true then k alt else XZ r k:=by cases c<;>rfl
@[simp] theorem mq {c:Bool} {a b:D}:aU (B c) a b=some (if c=true then a else b):=by cases c<;>rfl
@[simp] theorem bd {rs us:List D} {k:List D→List D→Option Out}:callK (some (.ret rs us)) k=k rs us:=rfl
@[simp] theorem cZ {i:Nat} {s:List D} {x:Nat→List D→Option Out} {r:List D→List D→Option Out}:outK (.ext i s) x r=x i s:=rfl
@[simp] theorem NG {a b:List D} {x:Nat→List D→Option Out} {r:List D→List D→Option Out}:outK (.ret a b) x r=r a b:=rfl
@[simp] theorem Zh {v:Value} {x:D}:aa (.v v) x=some x:=rfl
@[simp] theorem kg {z:Nat} {l:List D} {x:D}:aa (.arr z l) x=some x:=rfl
@[simp] theorem bV {l:List D} {x:D}:aa (.agg l) x=some x:=rfl
@[simp] theorem cI {i f:Nat} {x:D}:aa (.ref i f) x=some x:=rfl
@[simp] theorem Yy {l:List D} {x:D}:aa (.tup l) x=some x:=rfl
@[simp] theorem aS {z:Nat} {l:List D}:lenD false (.arr z l)=some (I l.length):=rfl
@[simp] theorem rz {s:ByteArray}:lenD true (T s)=some (I s.size):=rfl
@[simp] theorem aE {a:D} {l:List D}:sl (a::l) 0=a:=rfl
@[simp] theorem aX {a:D} {l:List D} {n:Nat}:sl (a::l) (n+1)=sl l n:=rfl
@[simp] theorem kF {ag:Bool} {n off:Nat} {l:List D}:ba ag n off (.agg l)=au ag n (l.drop off):=rfl
@[simp] theorem fS {ag:Bool} {n:Nat} {l:List D}:ldD ag n (.ptr l)=au ag n l:=rfl
@[simp] theorem He {off:Nat} {l:List D}:vW off (.ptr l)=some (.ptr (l.drop off)):=rfl
@[simp] theorem Zi {n:Nat} {l:List D}:au true n l=if n≤l.length then some (.agg (l.take n)) else none:=rfl
@[simp] theorem eJ {n:Nat} {a:D} {l:List D}:au false n (a::l)=some a:=rfl
@[simp] theorem mB {l:List D} {i f:Nat}:atD (.agg l) (.ref i f)=some (l.drop f):=rfl
@[simp] theorem kP {z:Nat} {l:List D} {i f:Nat}:atD (.arr z l) (.ref i f)=(l[i]?).map fun d=>d.cells.drop f:=rfl
@[simp] theorem Hx {off i f:Nat}:cW off (.ref i f)=some (.ref i (f+off)):=rfl
@[simp] theorem gu {z:Nat} {l:List D} {k:IntKind} {i:Nat}:aI z (.arr z l) (.v (.int k (i:Int)))=(l[i]?).map D.cells:=by simp [aI]
@[simp] theorem dm {z:Nat} {l:List D} {k:IntKind} {i:Nat}:dE z (.arr z l) (.v (.int k (i:Int)))=if i<l.length then some (.ref i 0) else none:=by simp [dE]
@[simp] theorem Nc {l:List D}:(D.agg l).cells=l:=rfl
@[simp] theorem Yx {v:Value}:(D.v v).cells=[.v v]:=rfl
@[simp] theorem WT {z:Nat} {l:List D}:(D.arr z l).cells=[.arr z l]:=rfl
@[simp] theorem Lh {v:Value}:bq (.v v)=some (.v v):=rfl
@[simp] theorem YH {l:List D}:bq (.agg l)=if l.all oY=true then some (.agg l) else none:=by
 have:(D.agg l).isV=l.all oY:=by
  simp only [D.isV];congr 1
 simp [bq,this]
@[simp] theorem Zw {v:Value}:oY (.v v)=true:=rfl
@[simp] theorem YU {z:Nat} {l:List D}:oY (.arr z l)=false:=rfl
@[simp] theorem YD {v:Value}:(D.v v).single=true:=rfl
@[simp] theorem XN {z:Nat} {l:List D}:(D.arr z l).single=true:=rfl
@[simp] theorem Rs {l:List D}:(D.agg l).width=l.length:=rfl
@[simp] theorem Zg {v:Value}:(D.v v).width=1:=rfl
@[simp] theorem Yw {z:Nat} {l:List D}:(D.arr z l).width=1:=rfl
@[simp] theorem Mp {n:Nat} {x:D}:bE n x=if x.cells.length=n∧x.cells.all D.single=true then some (.agg x.cells) else none:=rfl
@[simp] theorem VF {n i f:Nat} {l:List D} {x:D}:stD n (.agg l) (.ref i f) x=if x.cells.length=n∧f+n≤l.length∧x.cells.all D.single=true then some (.agg (dL l f x.cells)) else none:=rfl
@[simp] theorem Xj {l:List D} {f:Nat} {vs:List D}:dL l f vs=l.take f++vs++l.drop (f+vs.length):=rfl
@[simp] theorem kr {l:List D} {i:Nat}:aF (.tup l) i=match l[i]? with
  | some .bad=>none
  | some (.tup _)=>none
  | r=>r:=rfl
@[simp] theorem iT {l:List D} {i:Nat}:cv (.tup l) i = .tup (l.set i .bad):=rfl
@[simp] theorem jU {x:D}:bn (.ref 0 0) x=some x:=rfl
@[simp] theorem bv {z eb:Nat} {l m:List D}:bY z eb (.arr z l) (.arr z m)=if (l.length+m.length)*eb≤140737488355328∧l.length+m.length≤1152921504606846976 then some (.arr z (l++m)) else none:=by simp [bY]
@[simp] theorem Yh {z:Nat} {l:List D} {k:IntKind} {i:Nat}:aI z (.arr z l) (.v (.int k ((i:Int)+1)))=(l[i+1]?).map D.cells:=gu (i:=i+1)
@[simp] theorem Yt {z:Nat} {l:List D} {k:IntKind}:aI z (.arr z l) (.v (.int k 0))=(l[0]?).map D.cells:=gu (i:=0)
@[simp] theorem NR {z eb:Nat} {x:D} {k k':IntKind} {n m:Nat}:Nj z eb x (.v (.int k (n:Int))) (.v (.int k' (m:Int)))=if n≤m∧m*eb≤140737488355328∧m≤140737488355328 then some (.arr z (aao n x)) else none:=by
 have h:((n:Int)≤m∧(m:Int)*(eb:Int)≤140737488355328∧(m:Int)≤140737488355328)↔(n≤m∧m*eb≤140737488355328∧m≤140737488355328):=by
  rw [←Int.natCast_mul];omega
 simp only [Nj,Int.natCast_nonneg,true_and,h,aat]
theorem VU {n z i:Nat} {L c v:List D} (h:L[i]?=some (.agg c)) (hc:c.length=n) (hv:v.length=n) (hs:v.all D.single=true):stD n (.arr z L) (.ref i 0) (.agg v)=some (.arr z (L.set i (.agg v))):=by
 have e:(D.agg c).ofCells (dL c 0 v) = .agg v:=by
  simp only [D.ofCells,dL,List.take_zero,aaC,ZT,hv,←hc,aaS,aaV]
 have h2:(D.agg v).cells=v:=rfl;simp only [stD,h,h2,e,Rs,hc,hv,hs,ZT,aag,and_self,if_true,Nc]
theorem AX {z i:Nat} {L:List D} {v w:Value} (h:L[i]?=some (.v w)):stD 1 (.arr z L) (.ref i 0) (.v v)=some (.arr z (L.set i (.v v))):=by
 simp [stD,h,D.ofCells]
def om {β:Type} (f:β→D) (z:D) (l:List β) (i:Nat):List D:=(l.take i).map f++aao (l.length - i) z
section
variable {β:Type} {f:β→D} {z:D} {l:List β} {i:Nat}
theorem Pd:aao l.length z=om f z l 0:=by simp [om]
theorem PQ:om f z l l.length=l.map f:=by simp [om]
@[simp] theorem Mi (h:i≤l.length):(om f z l i).length=l.length:=by simp [om];omega
theorem Rq (h:i<l.length):(om f z l i)[i]?=some z:=by
 rw [om,ZQ (by simp;omega)];simp [List.getElem?_replicate];omega
theorem Ru {x:β} (h:l[i]?=some x):(om f z l i).set i (f x)=om f z l (i+1):=by
 have hi:i<l.length:=(ZJ.1 h).1;have hx:l[i]=x:=(ZJ.1 h).2;obtain⟨m,hm⟩:∃m,l.length - i=m+1:=⟨l.length - i - 1,by omega⟩
 rw [om,om,hm,show l.length - (i+1)=m from by omega,aaM,List.set_append_right _ _ (by simp;omega)];have:i - (List.map f (l.take i)).length=0:=by simp;omega
 rw [this,List.set_cons_zero,List.take_succ_eq_append_getElem hi,aaT,hx];simp
end
theorem ru {z i f:Nat} {L c:List D} {v:Value} (h:L[i]?=some (.agg c)) (hf:f<c.length):stD 1 (.arr z L) (.ref i f) (.v v)=some (.arr z (L.set i (.agg (dL c f [.v v])))):=by
 have h2:(D.v v).cells=[.v v]:=rfl;have h3:f+1≤c.length:=hf;simp [stD,h,h2,h3,D.ofCells]
def Xg {β:Type} (g:Nat→D) (f:β→D) (l:List β) (i:Nat):List D:=(List.range i).map g++(l.drop i).map f
section
variable {β:Type} {g:Nat→D} {f:β→D} {l:List β} {i:Nat}
@[simp] theorem UY (h:i≤l.length):(Xg g f l i).length=l.length:=by simp [Xg];omega
end
theorem dw {z:Nat}:ay z []=some (.arr z []):=rfl
@[simp] theorem fj {β:Type} {z:Nat} {l:List β} {f:β→D} (h:∀x,(f x).isV=true):dq (.arr z (l.map f))=some (.arr z (l.map f)):=by
 have:(l.map f).all D.isV=true:=by simp [h]
 simp only [dq,this,if_true]
theorem oS {z i j:Nat} {l:List D} {k k':IntKind} (h1:i≤j) (h2:j≤l.length):eT false z (.arr z l) (.v (.int k (i:Int))) (.v (.int k' (j:Int)))=some (.arr z ((l.take j).drop i)):=by
 simp only [eT,aat,true_and];rw [if_pos];omega
theorem uh {z i:Nat} {l:List D} {k:IntKind} (h:i≤l.length):fw false z (.arr z l) (.v (.int k (i:Int)))=some (.arr z (l.drop i)):=by
 simp only [fw,aat,true_and];rw [if_pos];omega
@[simp] theorem ZD {p:Prop} [Decidable p] {a b:Bool}:(if p then D.v (.bool a) else D.v (.bool b))=D.v (.bool (if p then a else b)):=by split<;>rfl
theorem CP {body:List D→Option Out}:∀(n:Nat) (s:List D) (o:Out),iter body n s=some o→∀m,n≤m→iter body m s=some o
 | 0,_,_,h,_,_=>by simp [iter] at h
 | n+1,s,o,h,m,hm=>by
  obtain⟨m,rfl⟩:∃q,m=q+1:=⟨m - 1,by omega⟩
  simp only [iter] at h ⊢;split at h
  ·rename_i s' hb
   exact CP n s' o h m (by omega)
  ·exact h
theorem OR {body:List D→Option Out} {s:List D} {o:Out} (n:Nat) (h:iter body n s=some o):aQ body s=some o:=by
 have hex:∃n,(iter body n s).isSome=true:=⟨n,by rw [h];rfl⟩
 unfold aQ;rw [dif_pos hex];obtain⟨o',ho⟩:=aaf.1 (ZY hex);rw [ho];have h1:=CP _ _ _ ho (max n (ZW hex)) (by omega);have h2:=CP _ _ _ h (max n (ZW hex)) (by omega);rw [h1] at h2;exact h2
inductive Runs (body:List D→Option Out):List D→Out→Prop where
 | ext {s:List D} {i:Nat} {δ:List D}:body s=some (.ext i δ)→Runs body s (.ext i δ)
 | ret {s:List D} {rs us:List D}:body s=some (.ret rs us)→Runs body s (.ret rs us)
 | nrm {s s':List D} {o:Out}:body s=some (.nrm s')→Runs body s' o→Runs body s o
theorem Runs.iter {body:List D→Option Out} {s:List D} {o:Out} (h:Runs body s o):∃n,V.iter body n s=some o:=by
 induction h with
 | ext h=>exact⟨1,by simp [V.iter,h]⟩
 | ret h=>exact⟨1,by simp [V.iter,h]⟩
 | nrm h _ ih =>
  obtain⟨n,hn⟩:=ih;exact⟨n+1,by simp [V.iter,h,hn]⟩
theorem Runs.loop {body:List D→Option Out} {s:List D} {o:Out} (h:Runs body s o):aQ body s=some o:=by
 obtain⟨n,hn⟩:=h.iter;exact OR n hn
def goL {α β:Type} (g:Nat→β→α→α ⊕ Out) (fin:α→Out):Nat→List β→α→Out
 | _,[],a=>fin a
 | i,x::l,a=>match g i x a with
  | .inl a'=>goL g fin (i+1) l a'
  | .inr o=>o
def Out.ends:Out→Bool
 | .nrm _=>false
 | _=>true
theorem Runs.one {body:List D→Option Out} {s:List D} {o:Out} (h:body s=some o) (ho:o.ends=true):Runs body s o:=by
 cases o with
 | nrm _=>simp [Out.ends] at ho
 | ext _ _=>exact .ext h
 | ret _ _=>exact .ret h
theorem Runs.list {α β:Type} {body:List D→Option Out} (l:List β) (st:Nat→α→List D) (Inv:Nat→α→Prop) (g:Nat→β→α→α ⊕ Out) (fin:α→Out)
  (hs:∀i x a,l[i]?=some x→Inv i a→match g i x a with
   | .inl a'=>body (st i a)=some (.nrm (st (i+1) a'))∧Inv (i+1) a'
   | .inr o=>body (st i a)=some o∧o.ends=true)
  (he:∀a,Inv l.length a→body (st l.length a)=some (fin a)∧(fin a).ends=true) (a:α) (h0:Inv 0 a):Runs body (st 0 a) (goL g fin 0 l a):=by
 have key:∀(n i:Nat) (a:α),i+n=l.length→Inv i a→Runs body (st i a) (goL g fin i (l.drop i) a):=by
  intro n;induction n with
  | zero =>
   intro i a hi hI;have:i=l.length:=by omega
   subst this;rw [aaS];exact Runs.one (he a hI).1 (he a hI).2
  | succ n ih =>
   intro i a hi hI;have hlt:i<l.length:=by omega
   rw [aav hlt];have h:=hs i l[i] a (ZM hlt) hI;simp only [goL];split at h
   ·exact .nrm h.1 (ih (i+1) _ (by omega) h.2)
   ·exact Runs.one h.1 h.2
 simpa using key l.length 0 a (by omega) h0
theorem Da {α β:Type} {body:List D→Option Out} (l:List β) (st:Nat→α→List D) (Inv:Nat→α→Prop) (g:Nat→β→α→α ⊕ Out) (fin:α→Out)
  (hs:∀i x a,l[i]?=some x→Inv i a→match g i x a with
   | .inl a'=>body (st i a)=some (.nrm (st (i+1) a'))∧Inv (i+1) a'
   | .inr o=>body (st i a)=some o∧o.ends=true)
  (he:∀a,Inv l.length a→body (st l.length a)=some (fin a)∧(fin a).ends=true) (a:α) (h0:Inv 0 a) {s0:List D} (h:s0=st 0 a):aQ body s0=some (goL g fin 0 l a):=by
 rw [h];exact(Runs.list l st Inv g fin hs he a h0).loop
theorem dn {body:List D→Option Out} (n:Nat) (st:Nat→List D) (o:Out) (hs:∀i,i<n→body (st i)=some (.nrm (st (i+1)))) (he:body (st n)=some o) (ho:o.ends=true) {s0:List D} (h:s0=st 0):aQ body s0=some o:=by
 rw [h];have key:∀(m i:Nat),i+m=n→Runs body (st i) o:=by
  intro m;induction m with
  | zero =>
   intro i hi;have:i=n:=by omega
   subst this;exact Runs.one he ho
  | succ m ih=>exact fun i hi=>.nrm (hs i (by omega)) (ih (i+1) (by omega))
 exact(key n 0 (by omega)).loop
def du {β:Type} (p:Nat→β→Bool):Nat→List β→Bool
 | _,[]=>true
 | i,x::l=>p i x&&du p (i+1) l
theorem dJ {β:Type} {body:List D→Option Out} (l:List β) (st:Nat→List D) (p:Nat→β→Bool) (o1 o2:Out) (hs:∀(i:Nat) (hi:i<l.length),body (st i)=some (if p i l[i]=true then .nrm (st (i+1)) else o1)) (he:body (st l.length)=some o2)
  (h1:o1.ends=true) (h2:o2.ends=true) {s0:List D} (h:s0=st 0):aQ body s0=some (if du p 0 l=true then o2 else o1):=by
 have e:∀(m:List β) (i:Nat),goL (fun i x (_:Unit)=>if p i x=true then .inl () else .inr o1) (fun _=>o2) i m ()=if du p i m=true then o2 else o1:=by
  intro m;induction m with
  | nil=>intro i;simp [goL,du]
  | cons x m ih =>
   intro i;simp only [goL,du];by_cases hp:p i x=true
   ·simp [hp,ih]
   ·simp [hp]
 rw [←e];refine Da l (fun i _=>st i) (fun _ _=>True) _ _ (fun i x a hx _=>?_) (fun _ _=>⟨he,h2⟩) () trivial h
 have hi:i<l.length:=(ZJ.1 hx).1;have hxe:l[i]=x:=(ZJ.1 hx).2;have:=hs i hi;rw [hxe] at this;by_cases hp:p i x=true
 ·simpa [hp] using this
 ·simpa [hp,h1] using this
def iD {α β:Type} (f:Nat→α→β→α):Nat→List β→α→α
 | _,[],a=>a
 | i,x::l,a=>iD f (i+1) l (f i a x)
theorem co {α β:Type} {body:List D→Option Out} (l:List β) (st:Nat→α→List D) (Inv:Nat→α→Prop) (f:Nat→α→β→α) (fin:α→Out) (a:α) (hs:∀(i:Nat) (a:α) (hi:i<l.length),Inv i a→body (st i a)=some (.nrm (st (i+1) (f i a l[i])))∧Inv (i+1) (f i a l[i]))
  (he:∀a,Inv l.length a→body (st l.length a)=some (fin a)) (h1:∀a,(fin a).ends=true) (h0:Inv 0 a) {s0:List D} (h:s0=st 0 a):aQ body s0=some (fin (iD f 0 l a)):=by
 have e:∀(m:List β) (i:Nat) (a:α),goL (fun i x a=>.inl (f i a x)) fin i m a=fin (iD f i m a):=by
  intro m;induction m with
  | nil=>intro i a;rfl
  | cons x m ih=>intro i a;simp only [goL,iD];exact ih (i+1) (f i a x)
 rw [←e l 0 a];refine Da l st Inv (fun i x a=>.inl (f i a x)) _ (fun i x a hx hI=>?_) (fun a hI=>⟨he a hI,h1 a⟩) a h0 h
 have hi:i<l.length:=(ZJ.1 hx).1;have hxe:l[i]=x:=(ZJ.1 hx).2;rw [←hxe];exact hs i a hi hI
theorem ax {body:List D→Option Out} {s0:List D} {K:Out→Option Out} {r:Option Out} (o:Out) (h:aQ body s0=some o) (hk:K o=r):(aQ body s0).bind K=r:=by
 rw [h];exact hk
theorem Vm {α:Type} {body:List D→Option Out} (st:α→List D) (Inv:α→Prop) (μ:α→Nat) (Q:α→Out→Prop)
  (hs:∀a,Inv a→(∃a',body (st a)=some (.nrm (st a'))∧Inv a'∧μ a'<μ a∧∀o,Q a' o→Q a o)∨∃o,body (st a)=some o∧o.ends=true∧Q a o) (a:α) (h:Inv a) {s0:List D} (h0:s0=st a):∃o,aQ body s0=some o∧Q a o:=by
 rw [h0];have key:∀(n:Nat) (a:α),μ a<n→Inv a→∃o,Runs body (st a) o∧Q a o:=by
  intro n;induction n with
  | zero=>exact fun a h=>by omega
  | succ n ih =>
   intro a hn hI;rcases hs a hI with ⟨a',h1,h2,h3,h4⟩ | ⟨o,h1,h2,h3⟩
   ·obtain⟨o,h5,h6⟩:=ih a' (by omega) h2
    exact⟨o,.nrm h1 h5,h4 o h6⟩
   ·exact⟨o,Runs.one h1 h2,h3⟩
 obtain⟨o,h1,h2⟩:=key (μ a+1) a (by omega) h;exact⟨o,h1.loop,h2⟩
theorem bu {α:Type} {body:List D→Option Out} {K:Out→Option Out} (R:Option Out→Prop) (st:α→List D) (Inv:α→Prop) (μ:α→Nat) (Q:Out→Prop)
  (hs:∀a,Inv a→(∃a',body (st a)=some (.nrm (st a'))∧Inv a'∧μ a'<μ a)∨∃o,body (st a)=some o∧o.ends=true∧Q o) (a:α) (h:Inv a) {s0:List D} (h0:s0=st a) (hk:∀o,Q o→R (K o)):R ((aQ body s0).bind K):=by
 obtain⟨o,h1,h2⟩:=Vm st Inv μ (fun _ o=>Q o) (fun a ha=>by
  rcases hs a ha with ⟨a',g1,g2,g3⟩ | h
  ·exact .inl ⟨a',g1,g2,g3,fun _ h=>h⟩
  ·exact .inr h) a h h0
 rw [h1];exact hk o h2
theorem gP:(type_of% @aE)∧(type_of% @aX)∧(type_of% @bV)∧(type_of% @cI)∧(type_of% @kg)∧(type_of% @jU)∧(∀{α β:Type} (a:α) (f:α→Option β),(some a).bind f=f a)∧(∀{α β:Type} (a:α) (f:α→β),(some a).map f=some (f a))∧(type_of% @bd)∧(type_of% @sA)∧(type_of% @sc)∧(type_of% @Mj)∧(type_of% @MB)∧(type_of% @vF)∧(type_of% @Mz)∧(type_of% @nT)∧(type_of% @mq)∧(type_of% @bt)∧(type_of% @jn)∧(∀{α:Type} {_h:Decidable True} (t e:α),(if True then t else e)=t)∧(∀{α:Type} {_h:Decidable False} (t e:α),(if False then t else e)=e)∧(type_of% @ZN)∧(type_of% @lH)∧(type_of% @aaK)∧(type_of% @aan)∧(type_of% @decide_true)∧(type_of% @decide_false)∧(type_of% @and_self)∧(type_of% @cZ)∧(type_of% @aaj)∧(type_of% @bp)∧(type_of% @Ai)∧(type_of% @Qy)∧(type_of% @Bq)∧(type_of% @mw)∧(type_of% @nG)∧(type_of% @bZ)∧(type_of% @kZ)∧(type_of% @mf)∧(type_of% @aS)∧(type_of% @rz)∧(∀{α β:Type} {l:List α} (f:α→β),(l.map f).length=l.length)∧(type_of% @fS)∧(type_of% @eJ)∧(type_of% @Lh)∧(type_of% @He)∧(∀{α:Type} {l:List α},l.drop 0=l)∧(∀{α:Type} {a:α} {l:List α} {i:Nat},(a::l).drop (i+1)=l.drop i)∧(type_of% @mB)∧(type_of% @dw) :=
 ⟨@aE,⟨@aX,⟨@bV,⟨@cI,⟨@kg,⟨@jU,⟨@ZL,⟨@aaE,⟨@bd,⟨@sA,⟨@sc,⟨@Mj,⟨@MB,⟨@vF,⟨@Mz,⟨@nT,⟨@mq,⟨@bt,⟨@jn,⟨@if_true,⟨@if_false,⟨@ZN,⟨@lH,⟨@aaK,⟨@aan,⟨@decide_true,⟨@decide_false,⟨@and_self,⟨@cZ,⟨@aaj,⟨@bp,⟨@Ai,⟨@Qy,⟨@Bq,⟨@mw,⟨@nG,⟨@bZ,⟨@kZ,⟨@mf,⟨@aS,⟨@rz,⟨@List.length_map,⟨@fS,⟨@eJ,⟨@Lh,⟨@He,⟨@aap,⟨@List.drop_succ_cons,⟨@mB,@dw⟩⟩⟩⟩⟩⟩⟩⟩⟩⟩⟩⟩⟩⟩⟩⟩⟩⟩⟩⟩⟩⟩⟩⟩⟩⟩⟩⟩⟩⟩⟩⟩⟩⟩⟩⟩⟩⟩⟩⟩⟩⟩⟩⟩⟩⟩⟩⟩⟩
end Go.V

end
