/-
  A part of the proof: contracts and plain forms of functions beneath the statement, made small by a program (names shortened, what is not needed left out).
-/
import Derived.Test.YtccaheogjpfhjaaGreatRows
import Derived.Test.YtccaheogjpfhjaaGreatM4
import Derived.Below
import Derived.Deep.Cut
import Derived.Deep.RegionHeld
import Derived.Handy
import Derived.OwnWalk
import Derived.Maps.AppendAt
import Derived.Lib.Builder
import Derived.BigCall
import Derived.WalkKit
open Option.some renaming injEq → ZE, inj → aai
open List renaming replicate → ZF, length_replicate → ZJ, getElem?_eq_some_iff → ZK, getD_eq_getElem?_getD → ZV, getElem?_append_right → ZW, getElem?_append_left → ZX, pairwise_iff_getElem → ZY, mem_singleton → aae
open Bool renaming and_eq_true → ZG, not_eq_true' → aaf
open Nat renaming le_refl → ZH, le_trans → ZM, mul → ZO, lt_of_lt_of_le → ZU, zero_le → aab, zero_add → aad, add → aaj
open Go.World renaming grownBy_alloc → ZI
open Array renaming getD_eq_getD_getElem? → ZL, getElem?_eq_some_iff → ZN, replicate → ZS, getElem?_push_size → ZZ
open Go.Value renaming ownBlock → ZP, int → ZR
open Go.Value.slice renaming injEq → ZQ
open Go.RowKit.Below renaming refl → ZT
open Go.Lib renaming cell_of_heap → aaa
open Go.Addr.mk renaming injEq → aac
open Option renaming getD_some → aag
open Go.Oper renaming upon_enter → aah
open Go.Region renaming ready → aak
set_option maxRecDepth 100000
set_option linter.unusedSimpArgs false
set_option linter.unusedVariables false
noncomputable section
namespace Go.V
open Go.RowKit
set_option maxRecDepth 100000
def Ob (f:(List D→Option Out)→Option Out) (k:List D→Option Out):Option Out:=f k
@[reducible] def tu (c:Cx) (J:List (Nat × List Nat)):Nat→Nat→Code→List D→(Out→Option Out)→Option Out
 | _,_,.skip,δ,k=>k (.nrm δ)
 | _,_,.region _ ops _,δ,k=>ka c ops.toList ops.toList δ fun δ'=>k (.nrm δ')
 | p,bid,.seq a b,δ,k=>match dr J p with
  | none=>tu c J (ZO 2 p) bid a δ fun o=>Ts o (fun δ'=>tu c J (aaj (ZO 2 p) 1) bid b δ' k) k
  | some hl=>Ob (fun j=>tu c J (ZO 2 p) bid a δ fun o=>Ts o (fun δ'=>qc δ' hl fun s=>j s) k) (fun s=>gG (jt c.K) hl s fun δ'=>tu c J (aaj (ZO 2 p) 1) bid b δ' k)
 | p,bid,.cond x t e,δ,k=>opC δ x fun q=>ifD q (tu c J (ZO 2 p) bid t δ k) (tu c J (aaj (ZO 2 p) 1) bid e δ k)
 | p,_,.block id b,δ,k=>tu c J (ZO 2 p) id b δ fun o=>Ej id o k
 | p,bid,.loop b,δ,k=>match dr c.H bid with
  | none=>none
  | some (hl,xl) =>
   qc δ hl fun s=>(aQ (fun s=>gG (jt c.K) hl s fun δ=>tu c J (ZO 2 p) bid b δ (bS hl xl)) s).bind fun o =>
    outK o (fun i s=>gG (jt c.K) xl s fun δ=>k (.ext i δ)) (fun a b=>k (.ret a b))
 | _,_,.exit id,δ,k=>k (.ext id δ)
 | _,_,.ret,δ,k=>oa c δ c.res fun rs=>qc δ c.ios fun us=>usK us (k (.ret rs us))
 | _,_,_,_,_=>none
@[reducible] def DD (c:Cx) (J:List (Nat × List Nat)) (fn:Func) (ds:List D):Option Out :=
 match fn.body with
 | none=>none
 | some b=>tu c J 1 0 b (ro fn.ntmps ds) fun o=>match o with
  | .nrm δ=>oa c δ c.res fun rs=>qc δ c.ios fun us=>usK us (some (.ret rs us))
  | .ext _ _=>none
  | .ret rs us=>some (.ret rs us)
def okJ (c:Cx) (J:List (Nat × List Nat)):Bool:=J.all fun p=>kC c.K p.2
theorem Ss {c:Cx}:∀{J:List (Nat × List Nat)} {p:Nat} {hl:List Nat},okJ c J=true→dr J p=some hl→kC c.K hl=true
 | [],_,_,_,h=>by cases h
 | (q,l)::J,p,hl,hJ,h=>by
  unfold okJ at hJ;rw [List.all_cons,ZG] at hJ;simp only [dr] at h;split at h
  ·cases h
   exact hJ.1
  ·exact Ss (J:=J) hJ.2 h
section
variable {P:Program} {c:Cx} {B:Nat} {X:Nat→Prop} {w0:World} {F0 F:Nat→Prop} {O:Nat→Option (Nat × Nat)} {a:Act} {w:World} {δ:List D}
theorem BE {V:Nat→Value} {J:List (Nat × List Nat)} {p:Nat} {b:Code} {bid:Nat} {hl xl:List Nat} (h1:kC c.K hl=true) (h2:kC c.K xl=true)
  (ih:∀(F:Nat→Prop) (O:Nat→Option (Nat × Nat)) (a:Act) (w:World) (δ:List D),Inv c B X w0 F0 F O a w δ→IoV c V a→∀(k:Out→Option Out) (r:Out),tu c J p bid b δ k=some r→∀Q,(∀e a w,LP c B X w0 F0 V k r e a w→Q e a w)→b.wp P Q a w)
  {k:Out→Option Out} {r:Out} {Q:Exit→Act→World→Prop} (hQ:∀e a w,LP c B X w0 F0 V k r e a w→Q e a w) {o:Out}
  (ho:outK o (fun i s=>gG (jt c.K) xl s fun δ=>k (.ext i δ)) (fun x y=>k (.ret x y))=some r):∀(n:Nat) (F:Nat→Prop) (O:Nat→Option (Nat × Nat)) (a:Act) (w:World) (δ:List D),Inv c B X w0 F0 F O a w δ→IoV c V a →
  iter (fun s=>gG (jt c.K) hl s fun δ=>tu c J p bid b δ (bS hl xl)) n (ao δ hl)=some o→Code.rounds P b Q n a w
 | 0,_,_,_,_,_,_,_,h=>by cases h
 | n+1,F,O,a,w,δ,hI,hV,h=>by
  simp only [iter,kc] at h;rw [rounds_succ];have hI':=hI.carry h1;cases hb:tu c J p bid b (carry (jt c.K) hl δ) (bS hl xl) with
  | none=>rw [hb] at h;cases h
  | some ob =>
   rw [hb] at h;refine ih F O a w _ hI' hV _ ob hb _ (fun e a' w' hp=>?_)
   cases ob with
   | nrm s' =>
    simp only at h;cases e with
    | normal =>
     obtain⟨⟨F',O',δ',g1,g2⟩,g3⟩:=hp;simp only [bS,bB,ZE,Out.nrm.injEq] at g2;rw [←g2] at h;exact BE h1 h2 ih hQ ho n F' O' a' w' δ' g1 g3 h
    | exit i =>
     obtain⟨⟨F',O',δ',g1,g2⟩,g3⟩:=hp;simp [bS,bB] at g2
    | ret =>
     obtain⟨⟨F',O',δ',g1,g2⟩,g3⟩:=hp;obtain⟨rs,_,_,g4⟩:=gg g2;simp [bS] at g4
    | _=>exact hp.elim
   | ext i l =>
    simp only [ZE] at h;subst h;cases e with
    | normal =>
     obtain⟨⟨F',O',δ',g1,g2⟩,g3⟩:=hp;simp [bS,bB] at g2
    | exit j =>
     obtain⟨⟨F',O',δ',g1,g2⟩,g3⟩:=hp;simp only [bS,bB,ZE,Out.ext.injEq] at g2;obtain⟨rfl,rfl⟩:=g2;simp only [outK,kc] at ho;exact hQ (.exit j) _ _ ⟨⟨F',O',_,g1.carry h2,ho⟩,g3⟩
    | ret =>
     obtain⟨⟨F',O',δ',g1,g2⟩,g3⟩:=hp;obtain⟨rs,_,_,g4⟩:=gg g2;simp [bS] at g4
    | _=>exact hp.elim
   | ret x y =>
    simp only [ZE] at h;subst h;cases e with
    | normal =>
     obtain⟨⟨F',O',δ',g1,g2⟩,g3⟩:=hp;simp [bS,bB] at g2
    | exit j =>
     obtain⟨⟨F',O',δ',g1,g2⟩,g3⟩:=hp;simp [bS,bB] at g2
    | ret =>
     obtain⟨⟨F',O',δ',g1,g2⟩,g3⟩:=hp;obtain⟨rs,g5,g6,g4⟩:=gg g2;simp only [bS,ZE,Out.ret.injEq] at g4;obtain⟨rfl,rfl⟩:=g4;exact hQ .ret _ _ ⟨⟨F',O',δ',g1,vz g5 g6 ho⟩,g3⟩
    | _=>exact hp.elim
theorem gL (hT:okT P c.T=true) (hS:∀f S,dr c.S f=some S→aw c.G P f S) (hm:P.follows .mixedOrders=true) {V:Nat→Value} {J:List (Nat × List Nat)} (hJ:okJ c J=true):∀(b:Code) (p bid:Nat),dV c bid b=true→∀(F:Nat→Prop) (O:Nat→Option (Nat × Nat)) (a:Act) (w:World) (δ:List D),
  Inv c B X w0 F0 F O a w δ→IoV c V a→∀(k:Out→Option Out) (r:Out),tu c J p bid b δ k=some r→∀Q,(∀e a w,LP c B X w0 F0 V k r e a w→Q e a w)→b.wp P Q a w
 | .skip,p,bid,_,F,O,a,w,δ,hI,hV,k,r,hg,Q,hQ=>wp_skip (hQ _ _ _ ⟨⟨F,O,δ,hI,hg⟩,hV⟩)
 | .region id ops d,p,bid,hok,F,O,a,w,δ,hI,hV,k,r,hg,Q,hQ=>by
  simp only [dV,ZG,List.all_eq_true] at hok;have hq:∀a w,iO c B X w0 F0 V (fun δ=>k (.nrm δ)) r a w→Q .normal a w:=fun a w h=>hQ _ _ _ h
  cases d
  ·exact wp_region_list (yi hT hS hq ops.toList hok.1 F O a w δ hI hV hg)
  ·exact Kz hT hS (by simpa using hok.2) hm hq hok.1 hI hV hg id
 | .seq x y,p,bid,hok,F,O,a,w,δ,hI,hV,k,r,hg,Q,hQ=>by
  simp only [dV,ZG] at hok;simp only [tu] at hg;cases hH:dr J p with
  | none =>
   rw [hH] at hg;refine wp_seq (gL hT hS hm hJ x _ bid hok.1 F O a w δ hI hV _ r hg _ (fun e a' w' hp=>?_))
   cases e with
   | normal =>
    obtain⟨⟨F',O',δ',hI',hk'⟩,hV'⟩:=hp;exact gL hT hS hm hJ y _ bid hok.2 F' O' a' w' δ' hI' hV' k r hk' Q hQ
   | exit id=>exact hQ _ _ _ hp
   | ret=>exact hQ _ _ _ hp
   | _=>exact hp.elim
  | some hl =>
   rw [hH] at hg;simp only [Ob] at hg;have hlive:=Ss hJ hH;refine wp_seq (gL hT hS hm hJ x _ bid hok.1 F O a w δ hI hV _ r hg _ (fun e a' w' hp=>?_))
   cases e with
   | normal =>
    obtain⟨⟨F',O',δ',hI',hk'⟩,hV'⟩:=hp;simp only [Ts,bB,kc] at hk';exact gL hT hS hm hJ y _ bid hok.2 F' O' a' w' _ (hI'.carry hlive) hV' k r hk' Q hQ
   | exit id=>exact hQ _ _ _ hp
   | ret=>exact hQ _ _ _ hp
   | _=>exact hp.elim
 | .cond x t e,p,bid,hok,F,O,a,w,δ,hI,hV,k,r,hg,Q,hQ=>by
  simp only [dV,ZG] at hok;obtain⟨⟨hlv,hok1⟩,hok2⟩:=hok;have hop:=hI.opd (bO.1 hlv);have key:ifD (opD δ x) (tu c J (ZO 2 p) bid t δ k) (tu c J (aaj (ZO 2 p) 1) bid e δ k)=some r:=by
   simp only [tu] at hg;cases x with
   | tmp s=>simpa only [opC,eM,opD] using hg
   | const v=>simpa only [opC,opD] using hg
   | func f=>simpa only [opC,opD] using hg
   | global g=>simp [opC] at hg
  unfold ifD at key;split at key
  ·rename_i hd
   rw [hd] at hop;exact wp_cond_true (br hop).1 (gL hT hS hm hJ t _ bid hok1 F O a w δ hI hV k r key Q hQ)
  ·rename_i hd
   rw [hd] at hop;exact wp_cond_false (br hop).1 (gL hT hS hm hJ e _ bid hok2 F O a w δ hI hV k r key Q hQ)
  ·cases key
 | .block id b,p,bid,hok,F,O,a,w,δ,hI,hV,k,r,hg,Q,hQ=>by
  simp only [dV] at hok;refine wp_block (gL hT hS hm hJ b _ id hok F O a w δ hI hV _ r hg _ (fun e a' w' hp=>?_))
  cases e with
  | normal=>exact hQ .normal _ _ hp
  | exit i =>
   simp only [Exit.inBlock];have hp':iO c B X w0 F0 V (fun δ=>Ej id (.ext i δ) k) r a' w':=hp;split
   ·rename_i hi
    refine hQ .normal _ _ (gC hp' fun δ F O _ h=>?_)
    simp only [Ej] at h;rw [aZ.2 (by simpa using hi)] at h;exact h
   ·rename_i hi
    refine hQ (.exit i) _ _ (gC hp' fun δ F O _ h=>?_)
    simp only [Ej] at h;cases hb:Nat.beq i id
    ·rw [hb] at h;exact h
    ·exact absurd (by simpa using aZ.1 hb) hi
  | ret=>exact hQ .ret _ _ hp
  | _=>exact hp.elim
 | .loop b,p,bid,hok,F,O,a,w,δ,hI,hV,k,r,hg,Q,hQ=>by
  simp only [dV,ZG] at hok;obtain⟨hok1,hok2⟩:=hok;simp only [tu] at hg;cases hH:dr c.H bid with
  | none=>rw [hH] at hg;cases hg
  | some hx =>
   obtain⟨hl,xl⟩:=hx;rw [hH] at hg hok2;simp only [ZG] at hok2;simp only [bB] at hg;obtain⟨o',h1,h2⟩:=Option.bind_eq_some_iff.1 hg;unfold aQ at h1;split at h1
   case isFalse=>cases h1
   rename_i hex;refine wp_loop_rounds (Classical.choose hex) ?_
   refine BE (hl:=hl) (xl:=xl) hok2.1 hok2.2 (fun F O a w δ hI hV k r hg Q hQ=>gL hT hS hm hJ b _ bid hok1 F O a w δ hI hV k r hg Q hQ) hQ h2 _ F O a w δ hI hV h1
 | .exit id,p,bid,_,F,O,a,w,δ,hI,hV,k,r,hg,Q,hQ=>wp_exit (hQ _ _ _ ⟨⟨F,O,δ,hI,hg⟩,hV⟩)
 | .ret,p,bid,_,F,O,a,w,δ,hI,hV,k,r,hg,Q,hQ=>wp_ret (hQ _ _ _ ⟨⟨F,O,δ,hI,hg⟩,hV⟩)
 | .label _,_,_,hok,_,_,_,_,_,_,_,_,_,_,_,_=>by simp [dV] at hok
 | .goto _,_,_,hok,_,_,_,_,_,_,_,_,_,_,_,_=>by simp [dV] at hok
 | .scope _,_,_,hok,_,_,_,_,_,_,_,_,_,_,_,_=>by simp [dV] at hok
theorem Re (hT:okT P c.T=true) (hS:∀f S,dr c.S f=some S→aw c.G P f S) (hm:P.follows .mixedOrders=true) {J:List (Nat × List Nat)} (hJ:okJ c J=true) {f:FuncId} {fn:Func} (hf:P.funcs[f]?=some fn) {pm rm:List Kd} (hok:PP c fn pm rm=true) (hres:c.res=fn.results.toList)
  {ds rs us:List D} (hd:DD c J fn ds=some (.ret rs us)) {args:Array Value} {w:World} {F:Nat→Prop} {ow:Nat→Option Nat} (hgl:gOk c.G w F) (ha:dU w F ow 0 pm ds args.toList) (hF:∀b,F b→b<w.heap.size∧ow b=none) (hO:∀b i,ow b=some i→b<w.heap.size) :
  Calls P f args w fun e w'=>∃v,e = .returned v∧∃F' R vs,v=jW vs∧CallPost {pm:=pm,rm:=rm,f:=DD c J fn} args rs us w F ow F' R vs w':=by
 unfold PP at hok;simp only [ZG,decide_eq_true_eq] at hok;obtain⟨⟨⟨⟨⟨hcode,hlenK⟩,hpre⟩,hpm⟩,hokr⟩,hios⟩:=hok;rw [aZ,lV] at hlenK;obtain⟨hpl,hpn⟩:=vh hpre;obtain⟨hdl,hal,hargs⟩:=vg pm ds args.toList 0 ha;have hasz:args.size=pm.length:=by simpa using hal
 unfold DD at hd;cases hb:fn.body with
 | none=>rw [hb] at hd;cases hd
 | some b =>
  rw [hb] at hd hcode;simp only at hd hcode;refine calls_of_wp hf hb ?_
  have hav:∀s,s<pm.length→av ({tmps:=args++ZS (fn.ntmps - args.size) undef,defers:=[]}:Act) s=args.toList.getD s undef:=fun s hs=>by
   have h1:s<args.size:=by omega
   simp only [av,ZL,ZV,Array.getElem?_toList];rw [Array.getElem?_append_left h1]
  have hinit:Inv c w.heap.size (fun b=>ow b≠none) w F F (fun b=>(ow b).map fun i=>(i,0)) {tmps:=args++ZS (fn.ntmps - args.size) undef,defers:=[]} w (ro fn.ntmps ds):=by
   refine⟨by simp;omega,by rw [rM,hlenK],rfl,fun s=>?_,fun b hb=>⟨(hF b hb).1,by simp [(hF b hb).2]⟩,fun b p hp=>?_,fun _ h=>h,fun _ h=>.inl h,ZH _,rfl,rfl,rfl,fun _ _ _=>rfl,hgl⟩
   ·unfold yJ
    rw [qK _ _ _ (by rw [hdl];omega)];by_cases hs:s<pm.length
    ·rw [hpn s hs,hav s hs]
     rcases hargs s hs with hbad | harg
     ·exact .inl hbad
     refine .inr ?_
     have hlv:∀lv,lv≠1→∀b,FB F 0 lv b→FB F w.heap.size lv b:=fun lv h1 b hb=>by
      match lv,h1 with
      | 0,_=>exact hb
      | _+2,_=>exact hb
     rcases sv hpm s hs with ⟨lv,hk,h1⟩ | ⟨z,lv,hk,h1⟩ | ⟨n,lv,hk,h1⟩
     ·rw [hk] at harg ⊢
      exact .inr (aK (hlv lv h1) (fun _ _=>rfl) harg)
     ·rw [hk] at harg ⊢
      exact .inr (dv (hlv lv h1) (fun _ _=>rfl) (fun g _ hg=>⟨⟨by simp only [aad] at hg;simp [hg],fun h=>by cases h⟩,rfl⟩) harg)
     ·rw [hk] at harg ⊢
      exact .inr (gI (hlv lv h1) (fun _ _=>rfl) (fun g _ hg=>⟨⟨by simp only [aad] at hg;simp [hg],fun h=>by cases h⟩,rfl⟩) harg)
    ·refine .inl ?_
     rw [fp,ZV,List.getElem?_eq_none (by omega)];rfl
   ·obtain⟨i,hi,rfl⟩:=Option.map_eq_some_iff.1 hp
    exact⟨hO b i hi,.inr (by rw [hi];simp)⟩
  refine gL hT hS hm hJ b 1 0 hcode F _ _ w _ hinit (V:=av {tmps:=args++ZS (fn.ntmps - args.size) undef,defers:=[]}) (fun _ _=>rfl) _ _ hd _ (fun e a' w' hp=>?_)
  have fin:iO c w.heap.size (fun b=>ow b≠none) w F (av {tmps:=args++ZS (fn.ntmps - args.size) undef,defers:=[]}) (fun δ=>Nk c δ some) (.ret rs us) a' w'→a'.defers=[]∧∃v,(results fn a'.tmps).run P w' = .ok v w'∧∃v',Ending.returned v = .returned v'∧∃F' R vs,v'=jW vs∧CallPost {pm:=pm,rm:=rm,f:=DD c J fn} args rs us w F ow F' R vs w':=by
   rintro⟨⟨F',O',δ',hI',hk⟩,hV'⟩;obtain⟨rs',h1,h2,h3⟩:=gg hk;simp only [ZE,Out.ret.injEq] at h3;obtain⟨rfl,rfl⟩:=h3;obtain⟨vs,g1,g2,g3,g4⟩:=vE (P:=P) hT hI' c.res rm rs' hokr h1;refine⟨hI'.df,jW vs,?_,_,rfl,F',fun b=>if w.heap.size≤b then(match O' b with
    | some (t,0)=>xu c.res t 0
    | _=>none) else none,vs,rfl,?_⟩
   ·have hrun:(fn.results.mapM (pb a'.tmps)).run P w' = .ok vs.toArray w':=by
     rw [Array.mapM_eq_mapM_toList,←hres];simp [g1]
    have hrw:results fn a'.tmps=(do
      let vs ←fn.results.mapM (pb a'.tmps)
      pure (if h:vs.size=1 then vs[0] else .tuple vs)):=by
     unfold results;congr 1
    rw [hrw];simp only [Sem.run_bind,hrun,Result.andThen_ok,Sem.run_pure];congr 1
    rcases vs with _ | ⟨y,_ | ⟨y',vs⟩⟩
    ·simp [jW]
    ·simp [jW]
    ·simp [jW]
   ·refine⟨hI'.os,hI'.tape,hI'.output,hI'.bb,fun b hb ho=>hI'.keep b hb (by simp [ho]),hI'.f0,fun b hb=>⟨hI'.fn b hb,(hI'.fl b hb).1,by simp only [(hI'.fl b hb).2];split<;>rfl⟩,fun b j hj=>?_,g2,g3,fun j=>?_,?_⟩
    ·split at hj
     case isFalse=>cases hj
     rename_i hB;refine⟨hB,?_⟩
     split at hj
     ·rename_i t he;exact(hI'.ol b _ he).1
     ·cases hj
    ·refine lJ (fun hk g hg=>?_) (g4 j)
     obtain⟨z,lv,hk⟩:=hk;obtain⟨e1,t,e2,e3⟩:=hg;rw [if_pos e1];simp only [e3];have:=(nW c.res rm hokr j t 0 z lv hk e2).1;simpa using this
    ·rw [hios]
     refine Ez pm args.toList 0 hal (fun j hj hio=>?_)
     rw [aad];have hkj:=hpn j hj;have hbj:nth δ' j ≠ .bad:=by
      refine h2 _ ?_
      rw [hios,oA];exact List.mem_map_of_mem (by simpa using vM pm 0 j hj hio)
     have havj:av a' j=args.toList.getD j undef:=(hV' j (by rw [hkj];exact hio)).trans (hav j hj);have hlv:∀lv,lv≠1→∀b,FB F' w.heap.size lv b→FB F' 0 lv b:=fun lv h1 b hb=>by
      match lv,h1 with
      | 0,_=>exact hb
      | _+2,_=>exact hb
     refine⟨hbj,.inr ?_⟩
     rcases sv hpm j hj with ⟨lv,hk,h1⟩ | ⟨z,lv,hk,h1⟩ | ⟨n,lv,hk,h1⟩
     ·rw [hk] at hio;cases hio
     ·have h5:=hI'.own (hkj.trans hk) hbj
      rw [havj] at h5;rw [hk];exact dv (hlv lv h1) (fun _ _=>rfl) (fun _ _ _=>⟨trivial,rfl⟩) h5
     ·have h5:=hI'.box (hkj.trans hk) hbj
      rw [havj] at h5;rw [hk];exact gI (hlv lv h1) (fun _ _=>rfl) (fun _ _ _=>⟨trivial,rfl⟩) h5
  cases e with
  | normal=>exact fin hp
  | exit i =>
   obtain⟨⟨_,_,_,_,h⟩,_⟩:=hp;cases h
  | ret =>
   refine fin (gC hp fun δ F O _ h=>?_)
   obtain⟨rs',h1,h2,h3⟩:=gg h;exact vz h1 h2 h3
  | _=>exact hp.elim
theorem RR (hT:okT P c.T=true) (hS:∀f S,dr c.S f=some S→aw c.G P f S) (hm:P.follows .mixedOrders=true) {J:List (Nat × List Nat)} (hJ:okJ c J=true) {f:FuncId} {fn:Func} (hf:P.funcs[f]?=some fn) (hname:(fn.name== "runtime.NumGoroutine")=false) {pm rm:List Kd} (hok:PP c fn pm rm=true) (hres:c.res=fn.results.toList) :
  aw c.G P f {pm:=pm,rm:=rm,f:=DD c J fn}:=by
 intro ds rs us hd args w F ow hgl ha hF hO o a next Q hn
 have hbody:∃b,fn.body=some b:=by
  have hd':DD c J fn ds=some (.ret rs us):=hd;unfold DD at hd';cases hb:fn.body with
  | none=>rw [hb] at hd';cases hd'
  | some b=>exact⟨b,rfl⟩
 obtain⟨b,hb⟩:=hbody;have hrun:(callFunc f args).run P w = .ok (.enter f args) w:=by
  have h1:¬fn.name= "runtime.NumGoroutine":=by simpa using hname
  simp [callFunc,hf,h1,hb]
 rw [hrun,aah];refine Calls.mono (Re hT hS hm hJ hf hok hres hd hgl ha hF hO) (fun e w' he=>?_)
 obtain⟨v,rfl,F',R,vs,h1,h2⟩:=he;exact hn v w' ⟨F',R,vs,h1,h2⟩
end
theorem MP {f:(List D→Option Out)→Option Out} {k:List D→Option Out} {r:Option Out} (p:List D→Prop) (hk:∀s,p s→k s=r) (hf:∀j:List D→Option Out,(∀s,p s→j s=r)→f j=r):Ob f k=r:=hf k hk
end Go.V

namespace Go.V
open Go.RowKit
set_option maxRecDepth 100000
theorem qV {l:Array Bool} {i:Nat} {d:Bool} (h:i<l.size):(l.push false).getD i d=l.getD i d:=by
 simp [ZL,Array.getElem?_push_lt h,h]
section
variable {P:Program} {init:Array Oper} {o:Oper} {Q:Exit→Act→World→Prop} {Wl:Act→World→Prop}
theorem yL (hg:∀e∈o.after,e.on<init.size) {listed:Array Bool} (hsz:listed.size=init.size) (hall:∀i,i<init.size→listed.getD i false=true):∀i,i∈aak .any (init.push o) (listed.push false)↔i=init.size:=by
 intro i;unfold aak;rw [List.mem_filter,List.mem_range,Array.size_push];constructor
 ·rintro⟨h1,h2⟩
  by_cases hi:i<init.size
  ·exfalso
   rw [qV (by omega)] at h2;have h3:=hall i hi;rw [ZL,Array.getElem?_eq_getElem (by omega)] at h2 h3;simp only [aag] at h2 h3;rw [h3] at h2;simp at h2
  ·omega
 ·rintro rfl
  refine⟨by omega,?_⟩
  have e1:(listed.push false).getD init.size true=false:=by
   rw [←hsz,ZL];simp
  rw [e1,ZZ];simp only [Bool.not_false,Bool.true_and,Option.map_some,aag,Array.all_eq_true_iff_forall_mem,Bool.or_eq_true];intro e he
  right
  rw [qV (by have:=hg e he;omega)];exact hall _ (hg e he)
end
end Go.V

namespace Go.V
open Go.RowKit
set_option maxRecDepth 100000
section
variable {P:Program} {c:Cx} {B:Nat} {X:Nat→Prop} {w0:World} {F0 F:Nat→Prop} {O:Nat→Option (Nat × Nat)} {a:Act} {w:World} {δ:List D} {fz:List Nat}
end
end Go.V

namespace Go.Proofs.YtccaheogjpfhjaaGreat
open Go Go.V
set_option maxRecDepth 100000
abbrev gl0:List (Nat × (Obj→Prop)):=[]
end Go.Proofs.YtccaheogjpfhjaaGreat

namespace Go.V
open Go.RowKit
set_option maxRecDepth 100000
section
variable {P:Program} {G:List (Nat × (Obj→Prop))}
theorem kR {f:FuncId} {S:FS} (he:∀args w,(callFunc f args).run P w = .ok (.enter f args) w)
  (h:∀ds rs us,S.f ds=some (.ret rs us)→∀(args:Array Value) (w:World) (F:Nat→Prop) (ow:Nat→Option Nat),gOk G w F→dU w F ow 0 S.pm ds args.toList→(∀b,F b→b<w.heap.size∧ow b=none)→(∀b i,ow b=some i→b<w.heap.size) →
   Calls P f args w fun e w'=>∃v,e = .returned v∧∃F' R vs,v=jW vs∧CallPost S args rs us w F ow F' R vs w'):aw G P f S:=by
 intro ds rs us hd args w F ow hg ha hF hO o a next Q hn
 rw [he,aah];refine Calls.mono (h ds rs us hd args w F ow hg ha hF hO) (fun e w' hv=>?_)
 obtain⟨v,rfl,F',R,vs,h1,h2⟩:=hv;exact hn v w' ⟨F',R,vs,h1,h2⟩
theorem Ky {w:World} {F:Nat→Prop}:∀(ks:List Kd) (ys:List Value),(ks.all fun k=>!mW k)=true→ks.length=ys.length→qI w F ks [] ys
 | [],[],_,_=>trivial
 | k::ks,y::ys,h,hl=>by
  simp only [List.all_cons,ZG,aaf] at h;simp only [qI,h.1];exact Ky ks ys h.2 (by simpa using hl)
 | [],_::_,_,hl=>by cases hl
 | _::_,[],_,hl=>by cases hl
end
end Go.V

namespace Go.Proofs.YtccaheogjpfhjaaGreat
open Go.V
set_option maxRecDepth 100000
theorem fW:Tryz.prog.follows .mixedOrders=true:=by kernel_rfl
theorem aC {c:Cx} {S:FS} {f:FuncId} {fn:Func} (hS:∀f S,dr c.S f=some S→aw c.G Tryz.prog f S) (hf:Tryz.prog.funcs[f]?=some fn) (hres:c.res=fn.results.toList) (hF:S.f=be c fn)
  (hb:(okT Tryz.prog c.T&&(!(fn.name== "runtime.NumGoroutine")&&PP c fn S.pm S.rm))=true):aw c.G Tryz.prog f S:=by
 obtain⟨pm,rm,g⟩:=S;cases hF;simp only [ZG,aaf] at hb;exact HG hb.1 hS fW hf hb.2.1 hb.2.2 hres
@[reducible] def ty3:TI:={n:=1,zero:=[.v (.int .i64 0)],ik:=some .i64}
@[reducible] def ty4:TI:={n:=1,zero:=[.v (.bool false)],bl:=true}
@[reducible] def ty5:TI:={n:=1,zero:=[.v (.int .u8 0)],ik:=some .u8}
@[reducible] def ty9:TI:={n:=1,zero:=[.v (.string ⟨#[]⟩)],str:=true}
@[reducible] def Pm:TI:={n:=1,zero:=[.arr 1 []],elem:=5,ez:=1,eb:=1}
@[reducible] def IL:TI:={n:=1,zero:=[.arr 2 []],elem:=67,ez:=2,eb:=16}
@[reducible] def VN:TI:={n:=1,zero:=[.arr 4 []],elem:=76,ez:=4,eb:=32}
@[reducible] def eO:TI:={n:=1,zero:=[.arr 1 []],elem:=3,ez:=1,eb:=8}
@[reducible] def FT:TI:={n:=1,zero:=[.arr 2 []],elem:=129,ez:=2,eb:=24}
@[reducible] def ql:TI:={n:=1,zero:=[.arr 4 []],elem:=99,ez:=4,eb:=40}
@[reducible] def pd:TI:={n:=1,zero:=[.arr 1 []],elem:=9,ez:=1,eb:=16}
@[reducible] def Io:TI:={agg:=true,n:=2,zero:=[.arr 4 [],.arr 1 []],fs:=[(0,41),(1,42)]}
@[reducible] def qm:TI:={agg:=true,n:=3,zero:=[.v (.int .i64 0),.v (.int .i64 0),.v (.int .i64 0)],fs:=[(0,3),(1,3),(2,3)],eq:=[1,1,1]}
@[reducible] def UC:TI:={n:=1,zero:=[.v (.int .u64 0)],ik:=some .u64}
@[reducible] def Se:TI:={agg:=true,n:=3,zero:=[.arr 1 [],.v (.int .i64 0),.v (.int .u64 0)],fs:=[(0,22),(1,3),(2,61)]}
@[reducible] def DT:TI:={agg:=true,n:=2,zero:=[.v (.int .i64 0),.v (.int .i64 0)],fs:=[(0,3),(1,3)],eq:=[1,1]}
@[reducible] def UZ:TI:={n:=1,zero:=[.arr 1 []],elem:=34,ez:=1,eb:=24}
@[reducible] def Zj:TI:={n:=1,zero:=[.arr 1 []],elem:=4,ez:=1,eb:=1}
@[reducible] def Sx:TI:={agg:=true,n:=4,zero:=[.v (.int .i64 0),.v (.int .i64 0),.v (.int .i64 0),.v (.bool false)],fs:=[(0,3),(1,3),(2,3),(3,4)],eq:=[1,1,1,2]}
@[reducible] def tp:TI:={agg:=true,n:=4,zero:=[.v (.string ⟨#[]⟩),.v (.int .i64 0),.v (.int .i64 0),.v (.int .i64 0)],fs:=[(0,9),(1,3),(2,3),(3,3)],eq:=[3,1,1,1]}
@[reducible] def sO:TI:={agg:=true,n:=2,zero:=[.v (.string ⟨#[]⟩),.v (.int .i64 0)],fs:=[(0,9),(1,3)],eq:=[3,1]}
@[reducible] def uA:Cx:={K:=[Yc,Yc,.no,.no,Y,Y,Yc,Y,Yc,Y,Y,Yc,Y,Y,Y,Y,Yc,Y,Yc,Y,Yc,Y,Yc,Y,Y,Y],T:=[(3,ty3),(4,ty4),(26,VN),(76,Sx)],S:=[],H:=[(0,([0,1,12,13],[]))],res:=[.tmp 4],ios:=[],G:=gl0}
def kD:List D→Option Out:=be uA Tryz.f7
@[reducible] def tG:FS:={pm:=[Yc,Yc],rm:=[Y],f:=kD}
theorem Fk:aw gl0 Tryz.prog 7 tG:=aC (c:=uA) an Tryz.func7 rfl rfl (by kernel_rfl)
@[reducible] def xA:Cx:={K:=[Yc,Yc,.no,.no,Y,Y,Yc,Y,Yc,Y,Y,Yc,Y,Y,Y,Y,Yc,Y,Yc,Y,Yc,Y,Yc,Y,Y,Y],T:=[(3,ty3),(9,ty9),(41,ql),(99,tp)],S:=[],H:=[(0,([0,1,12,13],[]))],res:=[.tmp 4],ios:=[],G:=gl0}
def jy:List D→Option Out:=be xA Tryz.f19
@[reducible] def qd:FS:={pm:=[Yc,Yc],rm:=[Y],f:=jy}
theorem xR:aw gl0 Tryz.prog 19 qd:=aC (c:=xA) an Tryz.func19 rfl rfl (by kernel_rfl)
@[reducible] def wL:Cx:={K:=[Yc,Yc,.no,.no,Y,Y,Yc,Y,Yc,Y,Y,Yc,Y,Y,Y,Y,Yc,Y,Yc,Y,Yc,Y,Yc,Y,Y,Y],T:=[(3,ty3),(9,ty9),(42,pd)],S:=[],H:=[(0,([0,1,12,13],[]))],res:=[.tmp 4],ios:=[],G:=gl0}
def lX:List D→Option Out:=be wL Tryz.f53
@[reducible] def xc:FS:={pm:=[Yc,Yc],rm:=[Y],f:=lX}
theorem Jj:aw gl0 Tryz.prog 53 xc:=aC (c:=wL) an Tryz.func53 rfl rfl (by kernel_rfl)
@[reducible] def sZ:Cx:={K:=[Yc,Yc,.box 2 2 false,.box 2 2 false,Y,Yr 2,Yc,Yr 3,Yc,Y,Y,Yr 2,Yc,Yr 3,Yc,Y,Y],T:=[(9,ty9),(41,ql),(42,pd),(44,Io),(99,tp)],S:=[(19,qd),(53,xc)],H:=[],res:=[.tmp 4],ios:=[],G:=gl0}
def jO:List D→Option Out:=be sZ Tryz.f17
@[reducible] def sQ:FS:={pm:=[Yc,Yc],rm:=[Y],f:=jO}
theorem DZ:aw gl0 Tryz.prog 17 sQ:=aC (c:=sZ) (ab xR (ab Jj an)) Tryz.func17 rfl rfl (by kernel_rfl)
@[reducible] def pV:Cx:={K:=[.box 3 2 true,.no,Y,Y,Yr 0,Yr 0,Yr 0,Y,Yr 0,Yr 0,Yr 0,Yc,Y,Y,Yr 0,Yr 0,Yr 0,Yc,Yr 0,Yr 0,Yr 0,Y,Yc,Y,Y,Yr 0,Yr 0,Yr 0,Y,Y,Yr 0,Yr 0,Yr 0,Yr 0,Yr 0,Yr 0,Y,Y,Y,Y,Y,Y,Yr 0,Yr 0,Yr 0,Yr 0,Yr 0,Y,Yr 0,Yr 0,Yr 0,Yc,Y,Y,Y,Yr 0,Yr 0,Yr 0,Y,Y,Y,Y],T:=[(3,ty3),(5,ty5),(22,Pm),(61,UC),(63,Se)],S:=[],H:=[],res:=[.tmp 2],ios:=[0],G:=gl0}
def dK:List D→Option Out:=be pV Tryz.f115
@[reducible] def pR:FS:={pm:=[.box 3 2 true],rm:=[Y],f:=dK}
theorem Bg:aw gl0 Tryz.prog 115 pR:=aC (c:=pV) an Tryz.func115 rfl rfl (by kernel_rfl)
@[reducible] def pK:Cx:={K:=[.box 3 2 true,Y,.no,.no,Y,Y,Y,Y,Yr 0,Y,Y,Y,Y,Y,Yr 0,Y,Y,Y,Y,Y],T:=[(3,ty3)],S:=[(115,pR)],H:=[],res:=[.tmp 4],ios:=[0],G:=gl0}
def ah:List D→Option Out:=be pK Tryz.f65
@[reducible] def bw:FS:={pm:=[.box 3 2 true,Y],rm:=[Y],f:=ah}
theorem bz:aw gl0 Tryz.prog 65 bw:=aC (c:=pK) (ab Bg an) Tryz.func65 rfl rfl (by kernel_rfl)
@[reducible] def oL:Cx:={K:=[.box 3 2 true,Yc,.no,.no,Y,Yc,Yr 0,Yc,Y,Y,Yc,Y],T:=[(3,ty3),(34,eO)],S:=[(65,bw)],H:=[],res:=[.tmp 4],ios:=[0],G:=gl0}
def ak:List D→Option Out:=be oL Tryz.f64
@[reducible] def cm:FS:={pm:=[.box 3 2 true,Yc],rm:=[Y],f:=ak}
theorem cn:aw gl0 Tryz.prog 64 cm:=aC (c:=oL) (ab bz an) Tryz.func64 rfl rfl (by kernel_rfl)
@[reducible] def pU:Cx:={K:=[.box 3 2 true,.no,Y,Yr 0,Yr 0,Yb,Y,Yb,Y],T:=[(3,ty3),(34,eO)],S:=[(64,cm)],H:=[],res:=[.tmp 2],ios:=[0],G:=gl0}
def eG:List D→Option Out:=be pU Tryz.f24
@[reducible] def pu:FS:={pm:=[.box 3 2 true],rm:=[Y],f:=eG}
theorem At:aw gl0 Tryz.prog 24 pu:=aC (c:=pU) (ab cn an) Tryz.func24 rfl rfl (by kernel_rfl)
@[reducible] def rX:Cx:={K:=[.box 3 2 true,Y,.no,.no,Y,Yr 0,Y,Y,Y],T:=[(3,ty3)],S:=[(65,bw)],H:=[],res:=[.tmp 4],ios:=[0],G:=gl0}
def aP:List D→Option Out:=be rX Tryz.f25
@[reducible] def cH:FS:={pm:=[.box 3 2 true,Y],rm:=[Y],f:=aP}
theorem cY:aw gl0 Tryz.prog 25 cH:=aC (c:=rX) (ab bz an) Tryz.func25 rfl rfl (by kernel_rfl)
@[reducible] def Ds:Cx:={K:=[Y,Y,Y,.no,.no,.no,Y,Y,Y,Y,Y,Y,Y,Y,Y],T:=[(3,ty3)],S:=[],H:=[],res:=[.tmp 6],ios:=[],G:=gl0}
def cV:List D→Option Out:=be Ds Tryz.f80
@[reducible] def eD:FS:={pm:=[Y,Y,Y],rm:=[Y],f:=cV}
theorem eX:aw gl0 Tryz.prog 80 eD:=aC (c:=Ds) an Tryz.func80 rfl rfl (by kernel_rfl)
@[reducible] def wS:Cx:={K:=[Y,.no,Y,Y,Y],T:=[],S:=[(80,eD)],H:=[],res:=[.tmp 2],ios:=[],G:=gl0}
def dZ:List D→Option Out:=be wS Tryz.f66
@[reducible] def my:FS:={pm:=[Y],rm:=[Y],f:=dZ}
theorem qG:aw gl0 Tryz.prog 66 my:=aC (c:=wS) (ab eX an) Tryz.func66 rfl rfl (by kernel_rfl)
@[reducible] def oW:Cx:={K:=[.box 3 2 true,Y,Y,.no,.no,.no,Yo 2 0,Yo 2 0,Y,Y,.box 2 0 false,Y,Y,Y,Y,Y,Y,Yo 2 0,Yr 0,Y,Y,Y,Y,.via 7,Y,Y,Y,Y,Y,Yr 0,.via 7,Y,Y,.via 7,Y,Yr 7,Y,Y,Yr 0,Y,Y,Yr 10,Y,Y,Y,Yr 0,Yr 10,Y,Y,Y,Y,.via 7,Y,Y,Yr 7,Yr 7,Yr 10,Y,Y,Y,Yr 10,Yo 2 0,Y,Yb,Yo 2 0,Y,Yr 10,Y,Y,Yr 0,Yr 10,Y,Y,Y,Y,.via 7,Y,Y,Yr 7,Yr 7,Yr 10,Y,Y,Y,Yr 10,Yo 2 0,Y,Yb,Yo 2 0,.via 7,Y,Y,Y,Y,Yr 0,Y,.via 7,Y,.via 7,Y,Yr 7,Yr 7,Y,.via 7,Y,Yr 7,Yr 7,Y,Y,Yr 7,Y,Yo 2 0],T:=[(3,ty3),(23,IL),(67,DT)],S:=[(25,cH),(65,bw)],H:=[(0,([0,7,8],[0,7])),(3,([0,7,90,91],[0,7]))],res:=[.tmp 6],ios:=[0],G:=gl0}
def gD:List D→Option Out:=be oW Tryz.f67
@[reducible] def oC:FS:={pm:=[.box 3 2 true,Y,Y],rm:=[Yo 2 0],f:=gD}
theorem ym:aw gl0 Tryz.prog 67 oC:=aC (c:=oW) (ab cY (ab bz an)) Tryz.func67 rfl rfl (by kernel_rfl)
@[reducible] def nz:Cx:={K:=[.box 3 2 true,Y,Y,.no,.no,.no,Yo 2 0,Yo 2 0,Y,Y,Y,Y,Y,Y,Y,Y,Y,Y,Y,Yr 0,Y,Y,Y,Y,Yo 2 0,Yr 0,Y,Y,Yo 2 0,Yr 0,.via 7,Y,Y,Yr 0,Y,Y,Y,.via 7,Y,Yr 0,Yb,Y,Yr 7,Yr 7,Y,Y,Yo 2 0,Y,Yb,Yo 2 0,Y,Y,Yr 0,Y,Y,.via 7,Y,Y,Y,Yo 2 0,Y,Yb,Yo 2 0,Y,Y,Y,Y,Yo 2 0,Yo 2 0],T:=[(3,ty3),(23,IL),(34,eO),(67,DT)],S:=[(25,cH),(64,cm),(65,bw),(66,my),(67,oC)],H:=[(1,([0,7,9],[0,7]))],res:=[.tmp 6],ios:=[0],G:=gl0}
def fZ:List D→Option Out:=be nz Tryz.f26
@[reducible] def nu:FS:={pm:=[.box 3 2 true,Y,Y],rm:=[Yo 2 0],f:=fZ}
theorem vU:aw gl0 Tryz.prog 26 nu:=aC (c:=nz) (ab cY (ab cn (ab bz (ab qG (ab ym an))))) Tryz.func26 rfl rfl (by kernel_rfl)
@[reducible] def mN:Cx:={K:=[Yc,.no,Y,Y,Yo 2 0,Yr 10,Y,Y,Yc,Yc,.box 3 2 false,Yr 10,Y,Yr 10,Y,Yr 10,Y,Y,Y,Yo 2 0,Y,Y,Yr 10,Y,Y,Yo 2 0],T:=[(3,ty3),(22,Pm),(23,IL),(61,UC),(63,Se),(67,DT)],S:=[(24,pu),(25,cH),(26,nu)],H:=[],res:=[.tmp 2,.tmp 3,.tmp 4],ios:=[],G:=gl0}
def fK:List D→Option Out:=be mN Tryz.f4
@[reducible] def mK:FS:={pm:=[Yc],rm:=[Y,Y,Yo 2 0],f:=fK}
theorem uF:aw gl0 Tryz.prog 4 mK:=aC (c:=mN) (ab At (ab cY (ab vU an))) Tryz.func4 rfl rfl (by kernel_rfl)
@[reducible] def tc:Cx:={K:=[Yc,.no,Y,.no,.box 2 0 false,Yc,Y,Y,Y,Yc,Y,Yr 4,Y,Y,Y,Y,Yr 4,Y,Y,Y,Y,Y,Yc,Y,Y],T:=[(3,ty3),(23,IL),(67,DT)],S:=[(66,my)],H:=[(0,([0,5,6,7],[0]))],res:=[.tmp 2],ios:=[],G:=gl0}
def jJ:List D→Option Out:=be tc Tryz.f73
@[reducible] def sS:FS:={pm:=[Yc],rm:=[Y],f:=jJ}
theorem Eg:aw gl0 Tryz.prog 73 sS:=aC (c:=tc) (ab qG an) Tryz.func73 rfl rfl (by kernel_rfl)
@[reducible] def uk:Cx:={K:=[Y,Y,Yc,.no,.no,.no,Y,Y,Y,Y,Y,Y,Y,Y,Yc,Y,Y],T:=[],S:=[(66,my),(73,sS)],H:=[],res:=[.tmp 6],ios:=[],G:=gl0}
def kU:List D→Option Out:=be uk Tryz.f31
@[reducible] def uu:FS:={pm:=[Y,Y,Yc],rm:=[Y],f:=kU}
theorem Gb:aw gl0 Tryz.prog 31 uu:=aC (c:=uk) (ab qG (ab Eg an)) Tryz.func31 rfl rfl (by kernel_rfl)
@[reducible] def wY:Cx:={K:=[Yc,.no,Y,Y,.no,.box 2 0 false,Yc,Y,Y,Y,Yc,Y,Y,Yr 5,Y,Yr 5,Y,Y,Y,Y,Y],T:=[(3,ty3),(23,IL),(67,DT)],S:=[],H:=[(0,([3,6,7,8],[3]))],res:=[.tmp 2],ios:=[],G:=gl0}
def mE:List D→Option Out:=be wY Tryz.f74
@[reducible] def wO:FS:={pm:=[Yc],rm:=[Y],f:=mE}
theorem IQ:aw gl0 Tryz.prog 74 wO:=aC (c:=wY) an Tryz.func74 rfl rfl (by kernel_rfl)
@[reducible] def zD:Cx:={K:=[Yc,Y,.no,.no,Y,.no,Y,Yc,Y,Y,Y,Yc,Y,Y,Y,Y,Y],T:=[(3,ty3),(34,eO)],S:=[],H:=[(0,([1,7,8,9],[]))],res:=[.tmp 4],ios:=[],G:=gl0}
def gK:List D→Option Out:=be zD Tryz.f117
@[reducible] def AY:FS:={pm:=[Yc,Y],rm:=[Y],f:=gK}
theorem LS:aw gl0 Tryz.prog 117 AY:=aC (c:=zD) an Tryz.func117 rfl rfl (by kernel_rfl)
@[reducible] def tF:Cx:={K:=[Y,Y,.box 2 0 false,.no,Y,Y,Y,Yr 2,Y,Yr 2,Y,Yr 2,Y,Yr 2,Y],T:=[(3,ty3),(67,DT)],S:=[],H:=[],res:=[.tmp 4,.tmp 5],ios:=[],G:=gl0}
def kW:List D→Option Out:=be tF Tryz.f132
@[reducible] def uD:FS:={pm:=[Y,Y],rm:=[Y,Y],f:=kW}
theorem Ft:aw gl0 Tryz.prog 132 uD:=aC (c:=tF) an Tryz.func132 rfl rfl (by kernel_rfl)
@[reducible] def Be:Cx:={K:=[Yc,.no,Yo 1 0,Yo 1 0,Yc,Yo 1 0],T:=[(3,ty3),(34,eO)],S:=[],H:=[],res:=[.tmp 2],ios:=[],G:=gl0}
def eW:List D→Option Out:=be Be Tryz.f119
@[reducible] def nN:FS:={pm:=[Yc],rm:=[Yo 1 0],f:=eW}
theorem sL:aw gl0 Tryz.prog 119 nN:=aC (c:=Be) an Tryz.func119 rfl rfl (by kernel_rfl)
@[reducible] def Bu:Cx:={K:=[Yc,Y,Y,Y,Y,Y,Y,.no,.no,.no,.box 2 0 false,.no,.no,.no,Yo 1 0,Y,Y,Y,Y,Y,Yo 1 0,Y,Y,.tup [Y,Y],Y,Y,.tup [Y,Y],Y,Y,Y,Y,Y,Y,Y,Y,Y,Y,Y,Y,Y,Y,Y,Y,Y,Y,Y,Y,Yc,Yo 1 0,Y,Y,Y,Y,Y,Y,Y,Y,Y,Y,.via 20,Y,Y,Y,Y,Y,Y,Y,Yr 20,Y,Y,.via 20,Y,Y,Y,Y,Y,Y,Y,Y,Yr 20,Yo 1 0],T:=[(3,ty3),(34,eO),(67,DT)],S:=[(119,nN),(132,uD)],H:=[(0,([1,5,6,16,17,20,21],[20])),(2,([1,5,6,16,17,20,21,22],[1,5,6,16,17,20,21]))],res:=[.tmp 14,.tmp 15],ios:=[],G:=gl0}
def nE:List D→Option Out:=be Bu Tryz.f118
@[reducible] def zY:FS:={pm:=[Yc,Y,Y,Y,Y,Y,Y],rm:=[Yo 1 0,Y],f:=nE}
theorem Ms:aw gl0 Tryz.prog 118 zY:=aC (c:=Bu) (ab sL (ab Ft an)) Tryz.func118 rfl rfl (by kernel_rfl)
@[reducible] def wQ (k:List D→Option Out):Cx:={K:=[Yc,Y,Y,Yc,Yc,.no,.no,.no,.no,.no,Yo 4 0,Y,Y,Y,.box 2 0 false,.no,Y,Yb,Y,Yb,Y,Y,Yc,Y,Y,Y,Yc,Y,Yc,Y,Y,Y,Y,Y,Y,Yc,Y,Y,Yc,Y,Yc,Y,Y,Yc,Y,Y,Y,Y,Yc,Y,Yc,Y,Y,Yb,Y,Y,Y,Yb,Y,Y,Y,Yr 14,Y,Yr 14,Y,Y,Y,.tup [Yo 1 0,Y],Yc,Y,Y,Y,Y,Y,Y,.tup [Yo 1 0,Y],Yb,Y,Y,Y,.tup [Yo 4 0,Y],Yb,Y,Y,Yc,Yc,Yo 1 0,Y,Yb,Yb,.tup [Yo 4 0,Y],Yb,Y,Y,Y,Y,Y,Y,Y,Y,Y,Y,Y,Yo 4 0,Yb,Yo 4 0,Y,Y],T:=[(3,ty3),(4,ty4),(23,IL),(26,VN),(34,eO),(67,DT),(74,Zj),(76,Sx)],S:=[(75,{pm:=[Yc,Y,Y,Yc,Yc],rm:=[Yo 4 0,Y],f:=k}),(117,AY),(118,zY),(119,nN)],H:=[(0,([0,1,2,3,4,12],[0,1,2,3,4,12])),(2,([0,1,2,3,4,12,43,44,45],[])),(4,([0,1,2,3,4,12,13,14,43,44,45,53,54,55],[0,1,2,3,4,12,43,44,45]))],res:=[.tmp 10,.tmp 11],ios:=[],G:=gl0}
def dH:Nat→List D→Option Out
 | 0,_=>none
 | n+1,ds=>be (wQ (dH n)) Tryz.f75 ds
def qF:List D→Option Out:=MS dH
@[reducible] def mc:FS:={pm:=[Yc,Y,Y,Yc,Yc],rm:=[Yo 4 0,Y],f:=qF}
theorem ui:∀n:Nat,aw gl0 Tryz.prog 75 {pm:=[Yc,Y,Y,Yc,Yc],rm:=[Yo 4 0,Y],f:=dH n}
 | 0=>FO (fun _=>rfl)
 | n+1=>by
  have ih:=ui n;exact HG (P:=Tryz.prog) (c:=wQ (dH n)) (fn:=Tryz.f75) (pm:=mc.pm) (rm:=mc.rm) (by kernel_rfl) (ab ih (ab LS (ab Ms (ab sL an)))) fW Tryz.func75 (by kernel_rfl) (by kernel_rfl) rfl
theorem Jr:aw gl0 Tryz.prog 75 mc:=KK ui
@[reducible] def tI:Cx:={K:=[Y,Y,Yc,.no,.no,.no,Yo 4 0,Y,.via 25,Y,Yb,Y,Yo 4 0,Y,.no,.box 4 0 false,Yc,Y,Y,Y,Y,Y,Y,Y,Y,Yo 1 0,.via 25,Y,Y,Y,Y,.via 25,Y,Yr 25,Y,.tup [Yo 4 0,Y],.via 25,Y,Y,Yc,.tup [Yo 4 0,Y],Yb,Y,Y,Y,Yc,Y,Y,Y,Y,Yb,Y,Y,Y,Yb,Y,Yr 15,Y,Y,Y,Yo 4 0,Y,Yb,Yo 4 0,Y,Y,Yo 4 0],T:=[(3,ty3),(4,ty4),(23,IL),(26,VN),(34,eO),(67,DT),(76,Sx)],S:=[(74,wO),(75,mc)],H:=[(0,([0,1,2,8,25,27,28],[0,1,2,8,25])),(2,([10,12,46,47],[12])),(4,([10,12,13,46,47,50,51,52],[10,12,46,47]))],res:=[.tmp 6,.tmp 7],ios:=[],G:=gl0}
def kH:List D→Option Out:=be tI Tryz.f32
@[reducible] def uL:FS:={pm:=[Y,Y,Yc],rm:=[Yo 4 0,Y],f:=kH}
theorem GT:aw gl0 Tryz.prog 32 uL:=aC (c:=tI) (ab IQ (ab Jr an)) Tryz.func32 rfl rfl (by kernel_rfl)
@[reducible] def qJ:Cx:={K:=[Y,Y,Yc,.no,.no,.no,Yo 4 0,Y,Y,Y,Yc,Y,Y,Y,Y,Yc,.tup [Yo 4 0,Y],Yo 4 0,Y],T:=[(26,VN)],S:=[(31,uu),(32,uL)],H:=[],res:=[.tmp 6,.tmp 7],ios:=[],G:=gl0}
def jk:List D→Option Out:=be qJ Tryz.f6
@[reducible] def rQ:FS:={pm:=[Y,Y,Yc],rm:=[Yo 4 0,Y],f:=jk}
theorem CM:aw gl0 Tryz.prog 6 rQ:=aC (c:=qJ) (ab Gb (ab GT an)) Tryz.func6 rfl rfl (by kernel_rfl)
@[reducible] def pF:Cx:={K:=[Yc,.no,Y,Y,.no,Yc,.no,Y,Yc,Y,Y,Y,Yc,Yc,Yc,Y,Y,Y,Yc,Y,Y,Y,Y,Y,Y,Y,Y],T:=[(3,ty3),(34,eO),(72,UZ)],S:=[],H:=[(0,([3,8,9,10],[3])),(2,([3,8,9,10,14,15,16],[3,8,9,10]))],res:=[.tmp 2],ios:=[],G:=gl0}
def iI:List D→Option Out:=be pF Tryz.f34
@[reducible] def pX:FS:={pm:=[Yc],rm:=[Y],f:=iI}
theorem Aa:aw gl0 Tryz.prog 34 pX:=aC (c:=pF) an Tryz.func34 rfl rfl (by kernel_rfl)
@[reducible] def wH:Cx:={K:=[Y,Y,Y,.no,.no,.no,Y,Y,Y,Y,Y,Y,Y,Y,Y],T:=[(3,ty3)],S:=[],H:=[],res:=[.tmp 6],ios:=[],G:=gl0}
def bK:List D→Option Out:=be wH Tryz.f76
@[reducible] def cD:FS:={pm:=[Y,Y,Y],rm:=[Y],f:=bK}
theorem cE:aw gl0 Tryz.prog 76 cD:=aC (c:=wH) an Tryz.func76 rfl rfl (by kernel_rfl)
@[reducible] def oV:Cx:={K:=[Y,.no,Y,Y,Y],T:=[],S:=[(76,cD)],H:=[],res:=[.tmp 2],ios:=[],G:=gl0}
def cT:List D→Option Out:=be oV Tryz.f68
@[reducible] def jV:FS:={pm:=[Y],rm:=[Y],f:=cT}
theorem ke:aw gl0 Tryz.prog 68 jV:=aC (c:=oV) (ab cE an) Tryz.func68 rfl rfl (by kernel_rfl)
@[reducible] def rV:Cx:={K:=[Yc,.no,Y,.no,.box 2 0 false,Yc,Y,Y,Y,Yc,Y,Yr 4,Y,Y,Y,Y,Yr 4,Y,Y,Y,Y,Y,Yc,Y,Y],T:=[(3,ty3),(23,IL),(67,DT)],S:=[(68,jV)],H:=[(0,([0,5,6,7],[0]))],res:=[.tmp 2],ios:=[],G:=gl0}
def gj:List D→Option Out:=be rV Tryz.f69
@[reducible] def rO:FS:={pm:=[Yc],rm:=[Y],f:=gj}
theorem rh:aw gl0 Tryz.prog 69 rO:=aC (c:=rV) (ab ke an) Tryz.func69 rfl rfl (by kernel_rfl)
@[reducible] def tR:Cx:={K:=[Y,Y,Yc,.no,.no,.no,Y,Y,Y,Y,Y,Y,Y,Y,Yc,Y,Y],T:=[],S:=[(68,jV),(69,rO)],H:=[],res:=[.tmp 6],ios:=[],G:=gl0}
def kK:List D→Option Out:=be tR Tryz.f27
@[reducible] def GL:FS:={pm:=[Y,Y,Yc],rm:=[Y],f:=kK}
theorem Hn:aw gl0 Tryz.prog 27 GL:=aC (c:=tR) (ab ke (ab rh an)) Tryz.func27 rfl rfl (by kernel_rfl)
@[reducible] def Do:Cx:={K:=[Yc,.no,Y,Y,.no,.box 2 0 false,Yc,Y,Y,Y,Yc,Y,Y,Yr 5,Y,Yr 5,Y,Y,Y,Y,Y],T:=[(3,ty3),(23,IL),(67,DT)],S:=[],H:=[(0,([3,6,7,8],[3]))],res:=[.tmp 2],ios:=[],G:=gl0}
def pM:List D→Option Out:=be Do Tryz.f28
@[reducible] def ND:FS:={pm:=[Yc],rm:=[Y],f:=pM}
theorem Np:aw gl0 Tryz.prog 28 ND:=aC (c:=Do) an Tryz.func28 rfl rfl (by kernel_rfl)
@[reducible] def xm:Cx:={K:=[Yc,Y,.no,.box 4 0 false,Y,Y,.box 2 0 false,Yc,Yr 3,Y,Yc,Y,Yr 3,Y,Yr 6,Y,Yr 6,Y,Yr 6,Y,Yr 6,Y],T:=[(3,ty3),(4,ty4),(23,IL),(67,DT),(76,Sx)],S:=[],H:=[],res:=[.tmp 4,.tmp 5],ios:=[],G:=gl0}
def mx:List D→Option Out:=be xm Tryz.f116
@[reducible] def xn:FS:={pm:=[Yc,Y],rm:=[Y,Y],f:=mx}
theorem qE:aw gl0 Tryz.prog 116 xn:=aC (c:=xm) an Tryz.func116 rfl rfl (by kernel_rfl)
@[reducible] def wv:Cx:={K:=[Yc,Yc,Y,.no,.no,.box 4 0 false,Y,Y,Y,Y,Y,.tup [Y,Y],Yc,Y,.tup [Y,Y],Y,Y,Yr 5,Y,Y,Y,Yr 5,Y,Y,Y,Y,Yr 5,Y,Y,Y,Yc,Yc,Yc,Y,Y,Y,Y,Yr 5,Y,Y,Y,Yc,Y,Y,Y,Yr 5,Y,Y,Yr 5,Y,Y,Y,Y,Y,Y,Yr 5,Y,Y,Yr 5,Y,Y,Y,Y,Y,Y,Yc,Y,Yc,Yc,Y,Yc,Y,Y],T:=[(3,ty3),(4,ty4),(34,eO),(72,UZ),(76,Sx)],S:=[(116,xn)],H:=[(0,([0,5,7,8,9],[])),(2,([0,5,7,8,9,10],[0,5,7,8,9]))],res:=[.tmp 6],ios:=[],G:=gl0}
def jE:List D→Option Out:=be wv Tryz.f71
@[reducible] def JM:FS:={pm:=[Yc,Yc,Y],rm:=[Y],f:=jE}
theorem xS:aw gl0 Tryz.prog 71 JM:=aC (c:=wv) (ab qE an) Tryz.func71 rfl rfl (by kernel_rfl)
@[reducible] def rH:Cx:={K:=[Yc,.no,Y,Y,Y,Y,Yc,Y,Y,Yc,Y,Y,Y,Y,Yc,Yc,Yc,Y,Y,Y,Y,Yc,Y,Y,Y,Y,Y,Y,Y],T:=[(3,ty3),(34,eO),(72,UZ)],S:=[],H:=[(0,([9,10,11],[])),(2,([5,9,10,11,16,17,18],[9,10,11]))],res:=[.tmp 2,.tmp 3,.tmp 4],ios:=[],G:=gl0}
def lQ:List D→Option Out:=be rH Tryz.f70
@[reducible] def CC:FS:={pm:=[Yc],rm:=[Y,Y,Y],f:=lQ}
theorem Dm:aw gl0 Tryz.prog 70 CC:=aC (c:=rH) an Tryz.func70 rfl rfl (by kernel_rfl)
@[reducible] def pP:Cx:={K:=[Y,Y,Y,.no,.no,.no,Y,Y,Y,Y,Y,Y,Y,Y,Y,Y,Y,Y,Y,Y,Y,Y,Y,Y,Y,Y,Y,Y,Y],T:=[(3,ty3),(5,ty5),(9,ty9)],S:=[(76,cD)],H:=[(0,([0,1,2,7],[0,1,2]))],res:=[.tmp 6],ios:=[],G:=gl0}
def fP:List D→Option Out:=be pP Tryz.f93
@[reducible] def kM:FS:={pm:=[Y,Y,Y],rm:=[Y],f:=fP}
theorem px:aw gl0 Tryz.prog 93 kM:=aC (c:=pP) (ab cE an) Tryz.func93 rfl rfl (by kernel_rfl)
@[reducible] def wz:Cx:={K:=[Y,.no,Y,Y,Y],T:=[],S:=[(93,kM)],H:=[],res:=[.tmp 2],ios:=[],G:=gl0}
def jw:List D→Option Out:=be wz Tryz.f121
@[reducible] def qy:FS:={pm:=[Y],rm:=[Y],f:=jw}
theorem xh:aw gl0 Tryz.prog 121 qy:=aC (c:=wz) (ab px an) Tryz.func121 rfl rfl (by kernel_rfl)
@[reducible] def wl:Cx:={K:=[Y,.box 2 0 false,Y,Yr 1,Y,Y,Y,Yr 1,Y,Y,Y],T:=[(3,ty3),(9,ty9),(129,sO)],S:=[(76,cD),(121,qy)],H:=[],res:=[.tmp 2],ios:=[],G:=gl0}
def ma:List D→Option Out:=be wl Tryz.f91
@[reducible] def xM:FS:={pm:=[Y],rm:=[Y],f:=ma}
theorem Il:aw gl0 Tryz.prog 91 xM:=aC (c:=wl) (ab cE (ab xh an)) Tryz.func91 rfl rfl (by kernel_rfl)
@[reducible] def xg:Cx:={K:=[Yc,.no,Y,Y,.box 2 0 false,Yc,Y,Y,Y,Y,Yc,Y,Y,Y,Y,Y,Y,Y,Y,Yc,Y,Y,Yc,Yc,Y,Yr 4,Y,Y,Y,Y,Y,Yc,Y,Y],T:=[(3,ty3),(9,ty9),(40,FT),(129,sO)],S:=[(76,cD),(91,xM)],H:=[(0,([0,5,6,7],[0]))],res:=[.tmp 2],ios:=[],G:=gl0}
def mD:List D→Option Out:=be xg Tryz.f45
@[reducible] def yf:FS:={pm:=[Yc],rm:=[Y],f:=mD}
theorem Jd:aw gl0 Tryz.prog 45 yf:=aC (c:=xg) (ab cE (ab Il an)) Tryz.func45 rfl rfl (by kernel_rfl)
@[reducible] def Bi:Cx:={K:=[Yc,Y,.no,.no,Y,Y,.box 4 0 false,Yc,Y,Y,Y,Y,Yc,Y,Yr 6,Y,Y,Y,Y,Y],T:=[(3,ty3),(9,ty9),(41,ql),(99,tp)],S:=[],H:=[(0,([1,7,8,9],[]))],res:=[.tmp 4],ios:=[],G:=gl0}
def kB:List D→Option Out:=be Bi Tryz.f122
@[reducible] def sy:FS:={pm:=[Yc,Y],rm:=[Y],f:=kB}
theorem Am:aw gl0 Tryz.prog 122 sy:=aC (c:=Bi) an Tryz.func122 rfl rfl (by kernel_rfl)
@[reducible] def tB:Cx:={K:=[Y,.no,Y,Y,Y],T:=[],S:=[(76,cD)],H:=[],res:=[.tmp 2],ios:=[],G:=gl0}
def iK:List D→Option Out:=be tB Tryz.f140
@[reducible] def uZ:FS:={pm:=[Y],rm:=[Y],f:=iK}
theorem Hb:aw gl0 Tryz.prog 140 uZ:=aC (c:=tB) (ab cE an) Tryz.func140 rfl rfl (by kernel_rfl)
@[reducible] def AH:Cx:={K:=[Y,.box 4 0 false,Y,Yr 1,Y,Y,Y,Yr 1,Y,Y,Y,Y,Yr 1,Y,Y,Y,Y,Yr 1,Y,Y,Y],T:=[(3,ty3),(9,ty9),(99,tp)],S:=[(76,cD),(121,qy),(140,uZ)],H:=[],res:=[.tmp 2],ios:=[],G:=gl0}
def nR:List D→Option Out:=be AH Tryz.f133
@[reducible] def Ad:FS:={pm:=[Y],rm:=[Y],f:=nR}
theorem Mv:aw gl0 Tryz.prog 133 Ad:=aC (c:=AH) (ab cE (ab xh (ab Hb an))) Tryz.func133 rfl rfl (by kernel_rfl)
@[reducible] def uO:Cx:={K:=[Yc,Y,Y,.no,.no,.no,Y,.no,.box 4 0 false,Yc,Y,Y,Y,Yc,Y,Yr 8,Y,Y,Y,Y,Yr 8,Y,Y,Y,Y,Y],T:=[(3,ty3),(9,ty9),(41,ql),(99,tp)],S:=[],H:=[(0,([1,2,9,10,11],[]))],res:=[.tmp 6],ios:=[],G:=gl0}
def lp:List D→Option Out:=be uO Tryz.f134
@[reducible] def uM:FS:={pm:=[Yc,Y,Y],rm:=[Y],f:=lp}
theorem Fq:aw gl0 Tryz.prog 134 uM:=aC (c:=uO) an Tryz.func134 rfl rfl (by kernel_rfl)
@[reducible] def wZ:Cx:={K:=[Yc,.no,Y,Y,.box 4 0 false,Yc,Y,Y,Y,Y,Yc,Y,Y,Y,Y,Y,Y,Y,Y,Yc,Y,Y,Yc,Yc,Y,Yr 4,Y,Y,Y,Y,Y,Yc,Y,Yc,Yr 4,Y,Yr 4,Y,Y,Y,Y,Yc,Y,Y],T:=[(3,ty3),(9,ty9),(41,ql),(99,tp)],S:=[(76,cD),(133,Ad),(134,uM)],H:=[(0,([0,5,6,7],[0]))],res:=[.tmp 2],ios:=[],G:=gl0}
def jH:List D→Option Out:=be wZ Tryz.f123
@[reducible] def qx:FS:={pm:=[Yc],rm:=[Y],f:=jH}
theorem xL:aw gl0 Tryz.prog 123 qx:=aC (c:=wZ) (ab cE (ab Mv (ab Fq an))) Tryz.func123 rfl rfl (by kernel_rfl)
@[reducible] def sM:Cx:={K:=[Yc,Yc,.no,.no,Y,.no,Y,Yc,Y,Y,Y,Yc,Y,Yc,Y,Y,Y,Y,Yc,Y,Y,Yc,Y,Y,Y],T:=[(3,ty3),(9,ty9),(42,pd)],S:=[(122,sy),(123,qx)],H:=[(0,([0,1,7,8,9],[0,1]))],res:=[.tmp 4],ios:=[],G:=gl0}
def gQ:List D→Option Out:=be sM Tryz.f92
@[reducible] def na:FS:={pm:=[Yc,Yc],rm:=[Y],f:=gQ}
theorem te:aw gl0 Tryz.prog 92 na:=aC (c:=sM) (ab Am (ab xL an)) Tryz.func92 rfl rfl (by kernel_rfl)
@[reducible] def ri:Cx:={K:=[Yc,.box 2 2 false,Y,Yr 1,Yc,Yr 1,Yc,Y],T:=[(9,ty9),(41,ql),(42,pd),(44,Io),(99,tp)],S:=[(92,na)],H:=[],res:=[.tmp 2],ios:=[],G:=gl0}
def gr:List D→Option Out:=be ri Tryz.f46
@[reducible] def lT:FS:={pm:=[Yc],rm:=[Y],f:=gr}
theorem rN:aw gl0 Tryz.prog 46 lT:=aC (c:=ri) (ab te an) Tryz.func46 rfl rfl (by kernel_rfl)
@[reducible] def xt:Cx:={K:=[Y,.no,Y,Y,Y],T:=[],S:=[(93,kM)],H:=[],res:=[.tmp 2],ios:=[],G:=gl0}
def mu:List D→Option Out:=be xt Tryz.f47
@[reducible] def wM:FS:={pm:=[Y],rm:=[Y],f:=mu}
theorem IM:aw gl0 Tryz.prog 47 wM:=aC (c:=xt) (ab px an) Tryz.func47 rfl rfl (by kernel_rfl)
@[reducible] def fM:Cx:={K:=[Y,Y,.no,.no,Y,Y,Y,Y,Y,Y,Y,Y,Y,Y,Y,Y,Y,Y],T:=[(3,ty3),(9,ty9)],S:=[],H:=[],res:=[.tmp 4],ios:=[],G:=gl0}
def cL:List D→Option Out:=be fM Tryz.f135
@[reducible] def fO:FS:={pm:=[Y,Y],rm:=[Y],f:=cL}
theorem lg:aw gl0 Tryz.prog 135 fO:=aC (c:=fM) an Tryz.func135 rfl rfl (by kernel_rfl)
@[reducible] def nx:Cx:={K:=[Y,Y,.no,.no,Y,Y,Y,Y],T:=[],S:=[(135,fO)],H:=[],res:=[.tmp 4],ios:=[],G:=gl0}
def gf:List D→Option Out:=be nx Tryz.f124
@[reducible] def nt:FS:={pm:=[Y,Y],rm:=[Y],f:=gf}
theorem vO:aw gl0 Tryz.prog 124 nt:=aC (c:=nx) (ab lg an) Tryz.func124 rfl rfl (by kernel_rfl)
@[reducible] def tV:Cx:={K:=[Yc,Y,.no,.no,Yo 1 0,Y,Yo 1 0,Y,Y,.box 2 0 false,Yo 1 0,Y,Y,Y,Yc,Y,Y,Y,Y,Yc,Y,Y,Yr 9,Y,Y,Y,Y,Y,Y,Yr 9,Y,Y,Yc,Y,Yc,Yc,Y,Y,Y,Y,Y,Y,Y,Y,Y,Yo 1 0,Yo 1 0,Y,Yb,Yo 1 0,Y,Yc,Y,Yc,Yc,Y,Y,Y,Yo 1 0],T:=[(3,ty3),(9,ty9),(34,eO),(40,FT),(129,sO)],S:=[(124,nt)],H:=[(0,([0,1,6],[6])),(2,([0,1,6,7,14,15,16],[0,1,6,7]))],res:=[.tmp 4,.tmp 5],ios:=[],G:=gl0}
def iM:List D→Option Out:=be tV Tryz.f94
@[reducible] def uT:FS:={pm:=[Yc,Y],rm:=[Yo 1 0,Y],f:=iM}
theorem GS:aw gl0 Tryz.prog 94 uT:=aC (c:=tV) (ab vO an) Tryz.func94 rfl rfl (by kernel_rfl)
@[reducible] def tA:Cx:={K:=[Yc,Yc,Y,.no,.no,.no,Yo 4 0,Y,Yo 4 0,.no,Y,Yc,Yc,Y,Y,Yo 4 0,Yo 4 0,Yc,Yo 4 0,Yc,Y,Y,Y,Yc,Y,.via 8,Yc,Y,Y,Yr 8,Yr 8,Y,Y,Y,Yr 8,Yr 8,Y,.via 8,Y,Y,Yo 4 0,Yo 4 0],T:=[(3,ty3),(9,ty9),(41,ql),(42,pd),(99,tp)],S:=[(92,na),(122,sy),(123,qx)],H:=[(0,([0,2,8,19,20,21],[8]))],res:=[.tmp 6,.tmp 7],ios:=[],G:=gl0}
def gn:List D→Option Out:=be tA Tryz.f101
@[reducible] def oq:FS:={pm:=[Yc,Yc,Y],rm:=[Yo 4 0,Y],f:=gn}
theorem uI:aw gl0 Tryz.prog 101 oq:=aC (c:=tA) (ab te (ab Am (ab xL an))) Tryz.func101 rfl rfl (by kernel_rfl)
@[reducible] def qZ:Cx:={K:=[Yc,Yc,.no,.no,Yo 4 0,Y,Yc,Yc,.tup [Yo 4 0,Y],Yo 4 0,Y],T:=[(41,ql)],S:=[(101,oq)],H:=[],res:=[.tmp 4,.tmp 5],ios:=[],G:=gl0}
def iX:List D→Option Out:=be qZ Tryz.f95
@[reducible] def qU:FS:={pm:=[Yc,Yc],rm:=[Yo 4 0,Y],f:=iX}
theorem Di:aw gl0 Tryz.prog 95 qU:=aC (c:=qZ) (ab uI an) Tryz.func95 rfl rfl (by kernel_rfl)
@[reducible] def vd:Cx:={K:=[Yc,Yc,Y,.no,.box 2 2 false,.no,.box 2 1 false,Y,Yb,Y,Yo 1 0,.no,Y,Yb,.box 2 1 false,.tup [Yo 1 0,Y],Yc,Y,.tup [Yo 1 0,Y],Yb,Y,Yo 1 0,Yb,Y,Y,Y,Yb,Y,Yo 1 0,Yc,Y,Yc,Yc,Y,Yb,Yo 1 0,Y,Y,Y,Y,.tup [Yo 4 0,Y],Yr 4,Yc,.via 10,.tup [Yo 4 0,Y],Yb,Y,Yb,Yo 1 0,Yr 4,Yc,Yo 1 0,.via 10,Yb,Yb,Y,Y,Y,Yb,Y,Y,Y,Y,Yb],T:=[(3,ty3),(9,ty9),(34,eO),(40,FT),(41,ql),(42,pd),(44,Io),(99,tp),(129,sO)],S:=[(46,lT),(94,uT),(95,qU)],H:=[(0,([0,4,6,9,10,22,23,24],[4,6,9,10]))],res:=[.cell 6 44,.tmp 7],ios:=[],G:=gl0}
def lk:List D→Option Out:=be vd Tryz.f48
@[reducible] def um:FS:={pm:=[Yc,Yc,Y],rm:=[Yb,Y],f:=lk}
theorem GJ:aw gl0 Tryz.prog 48 um:=aC (c:=vd) (ab rN (ab GS (ab Di an))) Tryz.func48 rfl rfl (by kernel_rfl)
@[reducible] def uc:Cx:={K:=[Yc,Yc,Y,.no,.box 2 2 false,.no,.box 2 1 false,Y,Yc,Y,Y,Y,Yc,Y,Y,Y,Y,Y,Y,Y,Y,Y,Yc,Yc,Y,.tup [Yb,Y],Yb,Y],T:=[(41,ql),(42,pd),(44,Io)],S:=[(45,yf),(46,lT),(47,wM),(48,um)],H:=[],res:=[.cell 6 44,.tmp 7],ios:=[],G:=gl0}
def li:List D→Option Out:=be uc Tryz.f15
@[reducible] def tL:FS:={pm:=[Yc,Yc,Y],rm:=[Yb,Y],f:=li}
theorem FI:aw gl0 Tryz.prog 15 tL:=aC (c:=uc) (ab Jd (ab rN (ab IM (ab GJ an)))) Tryz.func15 rfl rfl (by kernel_rfl)
@[reducible] def qL:Cx:={K:=[Y,Y,.no,.no,Y,Y,Y,Y,Y,Y,Y,Y,Y,Y,Y,Y,Y,Y,Y,Y,Y,Y,Y,Y,Y,Y],T:=[(3,ty3),(5,ty5),(9,ty9)],S:=[(80,eD)],H:=[(0,([0,1,5],[0,1]))],res:=[.tmp 4],ios:=[],G:=gl0}
def fg:List D→Option Out:=be qL Tryz.f98
@[reducible] def jb:FS:={pm:=[Y,Y],rm:=[Y],f:=fg}
theorem lO:aw gl0 Tryz.prog 98 jb:=aC (c:=qL) (ab eX an) Tryz.func98 rfl rfl (by kernel_rfl)
@[reducible] def wP:Cx:={K:=[Y,.box 2 0 false,Y,Yr 1,Y,Y,Y,Yr 1,Y,Y,Y],T:=[(3,ty3),(9,ty9),(129,sO)],S:=[(80,eD),(98,jb)],H:=[],res:=[.tmp 2],ios:=[],G:=gl0}
def mC:List D→Option Out:=be wP Tryz.f96
@[reducible] def wU:FS:={pm:=[Y],rm:=[Y],f:=mC}
theorem Jq:aw gl0 Tryz.prog 96 wU:=aC (c:=wP) (ab eX (ab lO an)) Tryz.func96 rfl rfl (by kernel_rfl)
@[reducible] def wJ:Cx:={K:=[Yc,.no,Y,Y,.box 2 0 false,Yc,Y,Y,Y,Y,Yc,Y,Y,Y,Y,Y,Y,Y,Y,Yc,Y,Y,Yc,Yc,Y,Yr 4,Y,Y,Y,Y,Y,Yc,Y,Y],T:=[(3,ty3),(9,ty9),(40,FT),(129,sO)],S:=[(80,eD),(96,wU)],H:=[(0,([0,5,6,7],[0]))],res:=[.tmp 2],ios:=[],G:=gl0}
def mz:List D→Option Out:=be wJ Tryz.f49
@[reducible] def xC:FS:={pm:=[Yc],rm:=[Y],f:=mz}
theorem Jt:aw gl0 Tryz.prog 49 xC:=aC (c:=wJ) (ab eX (ab Jq an)) Tryz.func49 rfl rfl (by kernel_rfl)
@[reducible] def xk:Cx:={K:=[Yc,Y,.no,.no,Y,Y,.box 4 0 false,Yc,Y,Y,Y,Y,Yc,Y,Yr 6,Y,Y,Y,Y,Y],T:=[(3,ty3),(9,ty9),(41,ql),(99,tp)],S:=[],H:=[(0,([1,7,8,9],[]))],res:=[.tmp 4],ios:=[],G:=gl0}
def jA:List D→Option Out:=be xk Tryz.f125
@[reducible] def qB:FS:={pm:=[Yc,Y],rm:=[Y],f:=jA}
theorem wV:aw gl0 Tryz.prog 125 qB:=aC (c:=xk) an Tryz.func125 rfl rfl (by kernel_rfl)
@[reducible] def zU:Cx:={K:=[Y,.box 4 0 false,Y,Yr 1,Y,Y,Y,Yr 1,Y,Y,Y,Y,Yr 1,Y,Y,Y,Y,Yr 1,Y,Y,Y],T:=[(3,ty3),(9,ty9),(99,tp)],S:=[(80,eD),(98,jb)],H:=[],res:=[.tmp 2],ios:=[],G:=gl0}
def nO:List D→Option Out:=be zU Tryz.f136
@[reducible] def Ba:FS:={pm:=[Y],rm:=[Y],f:=nO}
theorem Mh:aw gl0 Tryz.prog 136 Ba:=aC (c:=zU) (ab eX (ab lO an)) Tryz.func136 rfl rfl (by kernel_rfl)
@[reducible] def wG:Cx:={K:=[Yc,.no,Y,Y,.box 4 0 false,.no,.box 4 0 false,Yc,Y,Y,Y,Y,Yc,Y,Y,Y,Y,Y,Y,Y,Y,Yc,Y,Y,Yc,Yc,Y,Yr 4,Y,Y,Y,Y,Yc,Y,Yc,Y,Y,Y,Yc,Y,Yr 6,Y,Yr 4,Y,Y,Y,Yr 6,Y,Yr 4,Y,Y,Y,Y,Y,Yc,Y,Y],T:=[(3,ty3),(9,ty9),(41,ql),(99,tp)],S:=[(80,eD),(136,Ba)],H:=[(0,([0,7,8,9],[0])),(2,([0,4,7,8,9,34,35,36],[0,7,8,9]))],res:=[.tmp 2],ios:=[],G:=gl0}
def jB:List D→Option Out:=be wG Tryz.f126
@[reducible] def qu:FS:={pm:=[Yc],rm:=[Y],f:=jB}
theorem wN:aw gl0 Tryz.prog 126 qu:=aC (c:=wG) (ab eX (ab Mh an)) Tryz.func126 rfl rfl (by kernel_rfl)
@[reducible] def uy:Cx:={K:=[Yc,Yc,.no,.no,Y,.no,Y,Yc,Y,Y,Y,Yc,Y,Yc,Y,Y,Y,Y,Yc,Y,Y,Yc,Y,Y,Y],T:=[(3,ty3),(9,ty9),(42,pd)],S:=[(125,qB),(126,qu)],H:=[(0,([0,1,7,8,9],[0,1]))],res:=[.tmp 4],ios:=[],G:=gl0}
def fu:List D→Option Out:=be uy Tryz.f97
@[reducible] def oT:FS:={pm:=[Yc,Yc],rm:=[Y],f:=fu}
theorem oh:aw gl0 Tryz.prog 97 oT:=aC (c:=uy) (ab wV (ab wN an)) Tryz.func97 rfl rfl (by kernel_rfl)
@[reducible] def wX:Cx:={K:=[Yc,.box 2 2 false,Y,Yr 1,Yc,Yr 1,Yc,Y],T:=[(9,ty9),(41,ql),(42,pd),(44,Io),(99,tp)],S:=[(97,oT)],H:=[],res:=[.tmp 2],ios:=[],G:=gl0}
def gZ:List D→Option Out:=be wX Tryz.f50
@[reducible] def qz:FS:={pm:=[Yc],rm:=[Y],f:=gZ}
theorem qh:aw gl0 Tryz.prog 50 qz:=aC (c:=wX) (ab oh an) Tryz.func50 rfl rfl (by kernel_rfl)
@[reducible] def xP:Cx:={K:=[Y,.no,Y,Y,Y],T:=[],S:=[(98,jb)],H:=[],res:=[.tmp 2],ios:=[],G:=gl0}
def lU:List D→Option Out:=be xP Tryz.f51
@[reducible] def xI:FS:={pm:=[Y],rm:=[Y],f:=lU}
theorem Iv:aw gl0 Tryz.prog 51 xI:=aC (c:=xP) (ab lO an) Tryz.func51 rfl rfl (by kernel_rfl)
@[reducible] def tD:Cx:={K:=[Y,Y,.no,.no,Y,Y,Y,Y,Y,Y],T:=[(3,ty3)],S:=[],H:=[],res:=[.tmp 4],ios:=[],G:=gl0}
def iR:List D→Option Out:=be tD Tryz.f127
@[reducible] def uW:FS:={pm:=[Y,Y],rm:=[Y],f:=iR}
theorem Gu:aw gl0 Tryz.prog 127 uW:=aC (c:=tD) an Tryz.func127 rfl rfl (by kernel_rfl)
@[reducible] def xd:Cx:={K:=[Yc,Y,.no,.no,Y,Y,.box 2 0 false,Yc,Y,Y,Y,Y,Yc,Y,Yr 6,Y,Y,Y,Y,Y],T:=[(3,ty3),(9,ty9),(40,FT),(129,sO)],S:=[],H:=[(0,([1,7,8,9],[]))],res:=[.tmp 4],ios:=[],G:=gl0}
def jD:List D→Option Out:=be xd Tryz.f128
@[reducible] def wR:FS:={pm:=[Yc,Y],rm:=[Y],f:=jD}
theorem Ja:aw gl0 Tryz.prog 128 wR:=aC (c:=xd) an Tryz.func128 rfl rfl (by kernel_rfl)
@[reducible] def Ap:Cx:={K:=[Yc,Y,.no,.no,Yo 1 0,Y,Yo 1 0,Y,Y,Y,Y,Y,Y,Y,Y,Y,Y,Y,Y,Y,Y,Y,Y,Y,Y,Y,Y,Yc,Y,Y,Y,Y,Y,Y,Y,Y,Y,Yo 1 0,Y,Yb,Yo 1 0,Y,Yc,Y,Yc,Yc,Y,Y,Y,Yo 1 0],T:=[(3,ty3),(9,ty9),(34,eO),(40,FT),(129,sO)],S:=[(127,uW),(128,wR)],H:=[(0,([0,1,6,7],[6])),(2,([0,1,6,7,8,9],[0,1,6,7,8]))],res:=[.tmp 4,.tmp 5],ios:=[],G:=gl0}
def kG:List D→Option Out:=be Ap Tryz.f99
@[reducible] def zR:FS:={pm:=[Yc,Y],rm:=[Yo 1 0,Y],f:=kG}
theorem Av:aw gl0 Tryz.prog 99 zR:=aC (c:=Ap) (ab Gu (ab Ja an)) Tryz.func99 rfl rfl (by kernel_rfl)
@[reducible] def xj:Cx:={K:=[Yc,Yc,Y,.no,.no,.no,Yo 4 0,Y,Yo 4 0,.no,Y,Yo 4 0,Yc,Yo 4 0,Yc,Y,Y,Y,Yc,Y,.via 8,.via 8,Y,Y,Yr 8,Yr 8,Y,Y,Y,Yr 8,Yr 8,Y,.via 8,Y,Y,Yo 4 0],T:=[(3,ty3),(9,ty9),(41,ql),(42,pd),(99,tp)],S:=[(125,qB),(126,qu)],H:=[(0,([2,8,14,15,16],[8]))],res:=[.tmp 6,.tmp 7],ios:=[],G:=gl0}
def jv:List D→Option Out:=be xj Tryz.f100
@[reducible] def yb:FS:={pm:=[Yc,Yc,Y],rm:=[Yo 4 0,Y],f:=jv}
theorem wW:aw gl0 Tryz.prog 100 yb:=aC (c:=xj) (ab wV (ab wN an)) Tryz.func100 rfl rfl (by kernel_rfl)
@[reducible] def xo:Cx:={K:=[Yc,.no,Yo 1 0,Yo 1 0,Yc,Yo 1 0],T:=[(9,ty9),(42,pd)],S:=[],H:=[],res:=[.tmp 2],ios:=[],G:=gl0}
def mv:List D→Option Out:=be xo Tryz.f89
@[reducible] def wx:FS:={pm:=[Yc],rm:=[Yo 1 0],f:=mv}
theorem xf:aw gl0 Tryz.prog 89 wx:=aC (c:=xo) an Tryz.func89 rfl rfl (by kernel_rfl)
@[reducible] def BC:Cx:={K:=[Yc,Yc,Y,.no,.box 2 2 false,.no,.box 2 1 false,Y,Yb,Y,Yo 1 0,.no,Y,Yb,Y,.box 2 1 false,.tup [Yo 1 0,Y],Yc,Y,.tup [Yo 1 0,Y],Yb,Y,Y,Y,Y,Yb,Y,Y,Y,Yb,Y,Yo 1 0,Yc,Y,Yc,Yc,Y,Yb,Yo 1 0,Y,Yr 4,Yc,.via 10,Y,Y,Y,.tup [Yo 4 0,Y],Yr 4,Yc,.via 10,.tup [Yo 4 0,Y],Yb,Y,Yb,Yr 4,Yc,Yo 1 0,.via 10,Yb,Yb,Y,Y,Y,Yb,Y,Y,Y,Y,Yb],T:=[(3,ty3),(9,ty9),(34,eO),(40,FT),(41,ql),(42,pd),(44,Io),(99,tp),(129,sO)],S:=[(50,qz),(89,wx),(97,oT),(99,zR),(100,yb)],H:=[(0,([0,4,6,10,25,26,27],[4,6,10]))],res:=[.cell 6 44,.tmp 7],ios:=[],G:=gl0}
def nP:List D→Option Out:=be BC Tryz.f52
@[reducible] def An:FS:={pm:=[Yc,Yc,Y],rm:=[Yb,Y],f:=nP}
theorem Lq:aw gl0 Tryz.prog 52 An:=aC (c:=BC) (ab qh (ab xf (ab oh (ab Av (ab wW an))))) Tryz.func52 rfl rfl (by kernel_rfl)
@[reducible] def uV:Cx:={K:=[Yc,Yc,Y,.no,.box 2 2 false,.no,.box 2 1 false,Y,Yc,Y,Y,Y,Yc,Y,Y,Y,Y,Y,Y,Y,Y,Y,Yc,Yc,Y,.tup [Yb,Y],Yb,Y],T:=[(41,ql),(42,pd),(44,Io)],S:=[(49,xC),(50,qz),(51,xI),(52,An)],H:=[],res:=[.cell 6 44,.tmp 7],ios:=[],G:=gl0}
def kN:List D→Option Out:=be uV Tryz.f16
@[reducible] def tE:FS:={pm:=[Yc,Yc,Y],rm:=[Yb,Y],f:=kN}
theorem EV:aw gl0 Tryz.prog 16 tE:=aC (c:=uV) (ab Jt (ab qh (ab Iv (ab Lq an)))) Tryz.func16 rfl rfl (by kernel_rfl)
@[reducible] def tm:Cx:={K:=[Yc,Yc,.no,.no,Yo 4 0,Y,Yc,Yc,.tup [Yo 4 0,Y],Yo 4 0,Y],T:=[(41,ql)],S:=[(101,oq)],H:=[],res:=[.tmp 4,.tmp 5],ios:=[],G:=gl0}
def jN:List D→Option Out:=be tm Tryz.f54
@[reducible] def sR:FS:={pm:=[Yc,Yc],rm:=[Yo 4 0,Y],f:=jN}
theorem DU:aw gl0 Tryz.prog 54 sR:=aC (c:=tm) (ab uI an) Tryz.func54 rfl rfl (by kernel_rfl)
@[reducible] def mU:Cx:={K:=[Yc,.box 2 2 false,.box 2 1 false,Y,Yb,Y,.tup [Yo 4 0,Y],Yr 1,Yc,Yr 1,Yc,.tup [Yo 4 0,Y],Yb,Y,Y,Y,Y,Yb,Yb,Yb],T:=[(9,ty9),(41,ql),(42,pd),(44,Io),(99,tp)],S:=[(54,sR)],H:=[],res:=[.cell 2 44,.tmp 3],ios:=[],G:=gl0}
def er:List D→Option Out:=be mU Tryz.f18
@[reducible] def mP:FS:={pm:=[Yc],rm:=[Yb,Y],f:=er}
theorem tX:aw gl0 Tryz.prog 18 mP:=aC (c:=mU) (ab DU an) Tryz.func18 rfl rfl (by kernel_rfl)
@[reducible] def pH:Cx:={K:=[.box 3 2 true,.no,Yo 2 0,Yo 2 0,.no,Y,Yb,Y,Y,Y,Yb,Y,Y,Y,Y,Y,Yr 0,Y,Y,Y,Y,Y,Y,Y,Y,Yr 0,Y,Y,Y,Yo 2 0,Y,Y,Y,Yr 0,Y,Y,Y,Y,Y,Yb,Yo 2 0,Y,.via 3,Y,Y,Y,Yo 2 0,Yo 2 0],T:=[(3,ty3),(9,ty9),(40,FT),(42,pd),(129,sO)],S:=[(25,cH),(65,bw)],H:=[(0,([0,3,6,7,8],[0,3]))],res:=[.tmp 2],ios:=[0],G:=gl0}
def dk:List D→Option Out:=be pH Tryz.f86
@[reducible] def pi:FS:={pm:=[.box 3 2 true],rm:=[Yo 2 0],f:=dk}
theorem pL:aw gl0 Tryz.prog 86 pi:=aC (c:=pH) (ab cY (ab bz an)) Tryz.func86 rfl rfl (by kernel_rfl)
@[reducible] def sY:Cx:={K:=[.box 3 2 true,Yc,.no,.no,Y,Yc,Yr 0,Yc,Y,Y,Yc,Y],T:=[(9,ty9),(42,pd)],S:=[(65,bw)],H:=[],res:=[.tmp 4],ios:=[0],G:=gl0}
def dp:List D→Option Out:=be sY Tryz.f90
@[reducible] def jT:FS:={pm:=[.box 3 2 true,Yc],rm:=[Y],f:=dp}
theorem jM:aw gl0 Tryz.prog 90 jT:=aC (c:=sY) (ab bz an) Tryz.func90 rfl rfl (by kernel_rfl)
@[reducible] def mI:Cx:={K:=[.box 3 2 true,.no,Yo 2 0,Yo 2 0,Y,Y,Yr 0,Yo 2 0,Yr 0,.via 3,Y,Y,Yr 0,Y,Y,Y,.via 3,Y,Yr 0,Yb,Y,Yr 3,Yr 3,Y,Y,.via 3,Y,Yr 0,Yb,Y,Yr 3,Yr 3,Y,Y,Y,Y,Yr 0,Y,Y,.via 3,Y,Y,Y,.via 3,.via 3,Y,Y,Y,Y,.via 3,Y,Y,Y,Y,Yb,Y,Y,Yb,Yo 2 0,Yo 2 0],T:=[(3,ty3),(5,ty5),(9,ty9),(22,Pm),(34,eO),(40,FT),(42,pd),(129,sO)],S:=[(64,cm),(65,bw),(86,pi),(90,jT)],H:=[(1,([0,3,5],[0,3]))],res:=[.tmp 2],ios:=[0],G:=gl0}
def fR:List D→Option Out:=be mI Tryz.f43
@[reducible] def mJ:FS:={pm:=[.box 3 2 true],rm:=[Yo 2 0],f:=fR}
theorem vf:aw gl0 Tryz.prog 43 mJ:=aC (c:=mI) (ab cn (ab bz (ab pL (ab jM an)))) Tryz.func43 rfl rfl (by kernel_rfl)
@[reducible] def pq:Cx:={K:=[.box 3 2 true,.no,Y,Y,Y,Yr 0,Y,Y,Y,Y,Y,Y,Y,Yr 0,Yb,Y,Y,Y],T:=[(3,ty3),(9,ty9),(42,pd)],S:=[(65,bw),(90,jT)],H:=[(0,([0,3,4],[0,3]))],res:=[.tmp 2],ios:=[0],G:=gl0}
def cM:List D→Option Out:=be pq Tryz.f88
@[reducible] def pD:FS:={pm:=[.box 3 2 true],rm:=[Y],f:=cM}
theorem pQ:aw gl0 Tryz.prog 88 pD:=aC (c:=pq) (ab bz (ab jM an)) Tryz.func88 rfl rfl (by kernel_rfl)
@[reducible] def mH:Cx:={K:=[.box 3 2 true,.no,Y,Y,Y,Yr 0,Y,Y,Y,Yr 0,Yb,Y,Y,Y,Yr 0,Y,Y,Y,Y,Y,Y,Y,Y,Y,Y,Y,Yr 0,Y,Y,Yr 0,Y],T:=[(3,ty3),(9,ty9),(42,pd)],S:=[(65,bw),(88,pD),(90,jT)],H:=[(1,([0,3,4],[0,3]))],res:=[.tmp 2],ios:=[0],G:=gl0}
def en:List D→Option Out:=be mH Tryz.f44
@[reducible] def mR:FS:={pm:=[.box 3 2 true],rm:=[Y],f:=en}
theorem ua:aw gl0 Tryz.prog 44 mR:=aC (c:=mH) (ab bz (ab pQ (ab jM an))) Tryz.func44 rfl rfl (by kernel_rfl)
@[reducible] def nZ:Cx:={K:=[.box 3 2 true,Yc,.no,.no,Yo 4 0,Yo 4 0,Y,.no,.box 2 0 false,Yr 0,Y,Yc,Y,Y,Y,Yc,Y,Yo 4 0,Yr 8,Y,Y,Y,Y,Y,Y,Yr 0,Yb,Y,Y,Yb,Yo 4 0,Y,Yr 0,Y,Y,Y,Y,Yo 4 0],T:=[(3,ty3),(9,ty9),(34,eO),(40,FT),(41,ql),(99,tp),(129,sO)],S:=[(64,cm),(65,bw)],H:=[(0,([0,5,6,11,12,13],[0,5]))],res:=[.tmp 4],ios:=[0],G:=gl0}
def dW:List D→Option Out:=be nZ Tryz.f87
@[reducible] def yU:FS:={pm:=[.box 3 2 true,Yc],rm:=[Yo 4 0],f:=dW}
theorem yC:aw gl0 Tryz.prog 87 yU:=aC (c:=nZ) (ab cn (ab bz an)) Tryz.func87 rfl rfl (by kernel_rfl)
@[reducible] def po:Cx:={K:=[.box 3 2 true,.no,.box 3 0 false,Y,.box 3 0 false,Yr 0,Y,Y,Y,Y,Yr 0,Y,Y,Y,Yr 4,Y,Yr 0,Y,Y,Yr 4,Yr 0,Y,Y,Y,Yr 0,Yb,Y,Yr 4,Y,Y,Yr 0,Yr 4,Y,Yr 4,Y,Y,Yb,Y,Yr 4,Y],T:=[(3,ty3),(34,eO),(53,qm)],S:=[(64,cm),(65,bw)],H:=[],res:=[.cell 2 53],ios:=[0],G:=gl0}
def eL:List D→Option Out:=be po Tryz.f102
@[reducible] def qb:FS:={pm:=[.box 3 2 true],rm:=[Y],f:=eL}
theorem zF:aw gl0 Tryz.prog 102 qb:=aC (c:=po) (ab cn (ab bz an)) Tryz.func102 rfl rfl (by kernel_rfl)
@[reducible] def Aw:Cx:={K:=[Yc,Y,Y,.no,.no,.no,Y,.no,Y,Yc,Y,Y,Y,Yc,Y,Y,Y,Y,Y,Y,Y],T:=[(3,ty3),(34,eO)],S:=[(80,eD)],H:=[(0,([1,2,9,10,11],[]))],res:=[.tmp 6],ios:=[],G:=gl0}
def nF:List D→Option Out:=be Aw Tryz.f129
@[reducible] def AV:FS:={pm:=[Yc,Y,Y],rm:=[Y],f:=nF}
theorem LU:aw gl0 Tryz.prog 129 AV:=aC (c:=Aw) (ab eX an) Tryz.func129 rfl rfl (by kernel_rfl)
@[reducible] def uJ:Cx:={K:=[Yc,.no,Y,Yc,Y,Y,Y,Yc,Y,Y],T:=[(3,ty3),(34,eO)],S:=[(80,eD),(129,AV)],H:=[],res:=[.tmp 2],ios:=[],G:=gl0}
def kT:List D→Option Out:=be uJ Tryz.f103
@[reducible] def tC:FS:={pm:=[Yc],rm:=[Y],f:=kT}
theorem Fz:aw gl0 Tryz.prog 103 tC:=aC (c:=uJ) (ab eX (ab LU an)) Tryz.func103 rfl rfl (by kernel_rfl)
@[reducible] def wm:Cx:={K:=[Y,.box 3 0 false,Y,Yr 1,Y,Y,Y,Yr 1,Y,Yr 1,Y,Y,Y,Y,Yr 1,Y,Yr 1,Y,Y,Y,Y,Yr 1,Y,Y,Y],T:=[(3,ty3),(53,qm)],S:=[],H:=[],res:=[.tmp 2],ios:=[],G:=gl0}
def mj:List D→Option Out:=be wm Tryz.f104
@[reducible] def xz:FS:={pm:=[Y],rm:=[Y],f:=mj}
theorem Jm:aw gl0 Tryz.prog 104 xz:=aC (c:=wm) an Tryz.func104 rfl rfl (by kernel_rfl)
@[reducible] def rv:Cx:={K:=[Y,.no,Y,Y,Y],T:=[],S:=[(80,eD)],H:=[],res:=[.tmp 2],ios:=[],G:=gl0}
def iZ:List D→Option Out:=be rv Tryz.f105
@[reducible] def qX:FS:={pm:=[Y],rm:=[Y],f:=iZ}
theorem Cd:aw gl0 Tryz.prog 105 qX:=aC (c:=rv) (ab eX an) Tryz.func105 rfl rfl (by kernel_rfl)
@[reducible] def uj:Cx:={K:=[Yc,Y,Y,.no,.box 3 0 false,.no,Y,Yc,Y,Y,Y,Y,Y,Y,Y,Y,Y],T:=[(3,ty3),(53,qm)],S:=[(103,tC),(104,xz),(105,qX)],H:=[],res:=[.tmp 6],ios:=[],G:=gl0}
def iU:List D→Option Out:=be uj Tryz.f56
@[reducible] def oO:FS:={pm:=[Yc,Y,Y],rm:=[Y],f:=iU}
theorem uR:aw gl0 Tryz.prog 56 oO:=aC (c:=uj) (ab Fz (ab Jm (ab Cd an))) Tryz.func56 rfl rfl (by kernel_rfl)
@[reducible] def lz:Cx:={K:=[.box 3 2 true,Yc,.no,.no,Yo 1 0,Yo 1 0,Y,Y,Yc,Y,Y,Y,Y,Yr 0,Y,Yo 1 0,Y,Yb,Yo 1 0,Yr 0,Y,Yo 1 0,Yr 0,Yc,Y,Yb,Y,Yb,Yo 1 0,Yo 1 0],T:=[(3,ty3),(34,eO)],S:=[(25,cH),(64,cm)],H:=[(0,([0,1,5,6],[0,1,5]))],res:=[.tmp 4],ios:=[0],G:=gl0}
def dl:List D→Option Out:=be lz Tryz.f58
@[reducible] def lA:FS:={pm:=[.box 3 2 true,Yc],rm:=[Yo 1 0],f:=dl}
theorem tq:aw gl0 Tryz.prog 58 lA:=aC (c:=lz) (ab cY (ab cn an)) Tryz.func58 rfl rfl (by kernel_rfl)
@[reducible] def ot:Cx:={K:=[Yc,.no,Y,.no,Y,Yc,Y,Y,Y,Yc,Y,Y,Y,Y,Y,Yc,Y,Y],T:=[(3,ty3),(34,eO)],S:=[(76,cD)],H:=[(0,([0,5,6,7],[0]))],res:=[.tmp 2],ios:=[],G:=gl0}
def gO:List D→Option Out:=be ot Tryz.f107
@[reducible] def oe:FS:={pm:=[Yc],rm:=[Y],f:=gO}
theorem yM:aw gl0 Tryz.prog 107 oe:=aC (c:=ot) (ab cE an) Tryz.func107 rfl rfl (by kernel_rfl)
@[reducible] def wC:Cx:={K:=[Y,.box 3 0 false,Y,Yr 1,Y,Y,Y,Yr 1,Y,Yr 1,Y,Y,Y,Y,Yr 1,Y,Yr 1,Y,Y,Y,Y,Yr 1,Y,Y,Y],T:=[(3,ty3),(53,qm)],S:=[],H:=[],res:=[.tmp 2],ios:=[],G:=gl0}
def lW:List D→Option Out:=be wC Tryz.f108
@[reducible] def xp:FS:={pm:=[Y],rm:=[Y],f:=lW}
theorem Ib:aw gl0 Tryz.prog 108 xp:=aC (c:=wC) an Tryz.func108 rfl rfl (by kernel_rfl)
@[reducible] def rR:Cx:={K:=[Y,.no,Y,Y,Y],T:=[],S:=[(76,cD)],H:=[],res:=[.tmp 2],ios:=[],G:=gl0}
def jc:List D→Option Out:=be rR Tryz.f109
@[reducible] def qN:FS:={pm:=[Y],rm:=[Y],f:=jc}
theorem Co:aw gl0 Tryz.prog 109 qN:=aC (c:=rR) (ab cE an) Tryz.func109 rfl rfl (by kernel_rfl)
@[reducible] def lC:Cx:={K:=[Yc,Y,Y,.no,.box 3 0 false,.no,Y,Yc,Y,Y,Y,Y,Y,Y,Y,Y,Y],T:=[(3,ty3),(53,qm)],S:=[(107,oe),(108,xp),(109,qN)],H:=[],res:=[.tmp 6],ios:=[],G:=gl0}
def dS:List D→Option Out:=be lC Tryz.f59
@[reducible] def iq:FS:={pm:=[Yc,Y,Y],rm:=[Y],f:=dS}
theorem lw:aw gl0 Tryz.prog 59 iq:=aC (c:=lC) (ab yM (ab Ib (ab Co an))) Tryz.func59 rfl rfl (by kernel_rfl)
@[reducible] def rI:Cx:={K:=[Yc,Y,Y,.no,.no,.no,Y,Y,Y,Yc,Y,Y,Y,Y,Yc,Y,Y,Y,Y,Y,Y,Y,Y,Y,Y,Yc,Y,Y,Yc,Y,Y,Y,Y,Y,Y],T:=[(3,ty3),(34,eO)],S:=[(76,cD)],H:=[(0,([0,1,2,9,10,11],[]))],res:=[.tmp 6],ios:=[],G:=gl0}
def jm:List D→Option Out:=be rI Tryz.f110
@[reducible] def rE:FS:={pm:=[Yc,Y,Y],rm:=[Y],f:=jm}
theorem BL:aw gl0 Tryz.prog 110 rE:=aC (c:=rI) (ab cE an) Tryz.func110 rfl rfl (by kernel_rfl)
@[reducible] def re:Cx:={K:=[Yc,Yc,.no,.no,Y,Yc,Yc,Y,Y,Y],T:=[(3,ty3),(34,eO)],S:=[(110,rE)],H:=[],res:=[.tmp 4],ios:=[],G:=gl0}
def iW:List D→Option Out:=be re Tryz.f60
@[reducible] def qS:FS:={pm:=[Yc,Yc],rm:=[Y],f:=iW}
theorem Cv:aw gl0 Tryz.prog 60 qS:=aC (c:=re) (ab BL an) Tryz.func60 rfl rfl (by kernel_rfl)
@[reducible] def Hc:Cx:={K:=[Yc,.no,Y,Y,.no,Y,Yc,Y,Y,Y,Yc,Y,Y,Y,Y,Y,Y],T:=[(3,ty3),(34,eO)],S:=[],H:=[(0,([3,6,7,8],[3]))],res:=[.tmp 2],ios:=[],G:=gl0}
def oD:List D→Option Out:=be Hc Tryz.f113
@[reducible] def yj:FS:={pm:=[Yc],rm:=[Y],f:=oD}
theorem GQ:aw gl0 Tryz.prog 113 yj:=aC (c:=Hc) an Tryz.func113 rfl rfl (by kernel_rfl)
@[reducible] def ud:Cx:={K:=[Yc,Y,Y,.no,.box 3 0 false,.no,Yo 1 0,Y,Y,Y,Yo 1 0,Y,Y,Yc,Y,Y,Y,Yc,Y,Y,Yo 1 0,Y,Y,Yr 4,Y,Y,Y,Yr 4,Y,Y,Y,Y,Yo 1 0,Y,Y,Y,Y,Y,Y,Y,Y,Y,Y,Y,Y,Y,Y,Y,Yo 1 0,Y,Yb,Yo 1 0,Yo 1 0],T:=[(3,ty3),(34,eO),(53,qm)],S:=[(76,cD),(113,yj)],H:=[(0,([8,9,10,11],[10]))],res:=[.tmp 6,.tmp 7],ios:=[],G:=gl0}
def lh:List D→Option Out:=be ud Tryz.f111
@[reducible] def uq:FS:={pm:=[Yc,Y,Y],rm:=[Yo 1 0,Y],f:=lh}
theorem Hp:aw gl0 Tryz.prog 111 uq:=aC (c:=ud) (ab cE (ab GQ an)) Tryz.func111 rfl rfl (by kernel_rfl)
@[reducible] def xB:Cx:={K:=[Yc,Y,.no,.box 3 0 false,Y,Y,.no,Y,Yc,Y,Y,Y,Yc,Y,Y,Y,Yr 3,Y,Y,Y,Yr 3,Y,Y,Y,Y,Y,Y],T:=[(3,ty3),(34,eO),(53,qm)],S:=[],H:=[(0,([3,5,8,9,10],[5]))],res:=[.tmp 4],ios:=[],G:=gl0}
def mF:List D→Option Out:=be xB Tryz.f112
@[reducible] def xT:FS:={pm:=[Yc,Y],rm:=[Y],f:=mF}
theorem JP:aw gl0 Tryz.prog 112 xT:=aC (c:=xB) an Tryz.func112 rfl rfl (by kernel_rfl)
@[reducible] def sN:Cx:={K:=[Yc,Y,Y,.no,.box 3 0 false,.no,Y,Y,Yb,Y,Yc,Y,Y,.tup [Yo 1 0,Y],Yc,Y,Y,.tup [Yo 1 0,Y],Yb,Y,Yb,Y,Y,Y],T:=[(3,ty3),(34,eO),(53,qm)],S:=[(111,uq),(112,xT)],H:=[],res:=[.tmp 6,.tmp 7],ios:=[],G:=gl0}
def ct:List D→Option Out:=be sN Tryz.f61
@[reducible] def jQ:FS:={pm:=[Yc,Y,Y],rm:=[Y,Y],f:=ct}
theorem nl:aw gl0 Tryz.prog 61 jQ:=aC (c:=sN) (ab Hp (ab JP an)) Tryz.func61 rfl rfl (by kernel_rfl)
@[reducible] def yd:Cx:={K:=[Yc,Y,Y,.no,.box 3 0 false,.no,Y,Yc,Y,Y,Y,Yc,Y,Yc,Y,Y,Yr 4,Y,Y,Y,Y,Y,Y],T:=[(3,ty3),(34,eO),(53,qm)],S:=[(113,yj)],H:=[],res:=[.tmp 6],ios:=[],G:=gl0}
def dG:List D→Option Out:=be yd Tryz.f62
@[reducible] def mG:FS:={pm:=[Yc,Y,Y],rm:=[Y],f:=dG}
theorem qD:aw gl0 Tryz.prog 62 mG:=aC (c:=yd) (ab GQ an) Tryz.func62 rfl rfl (by kernel_rfl)
@[reducible] def nA:Cx:={K:=[Yc,Y,Y,Yc,.no,.box 3 0 false,.no,.no,Y,Y,Y,Y,.no,Y,Y,Y,Yc,Y,Y,Y,Y,Y,Yc,Yc,Y,Y,Y,Yc,Y,Y,Y,Yc,Y,.tup [Y,Y],Yc,Y,Y,Yc,Y,Y,.tup [Y,Y],Y,Y,Y,Y,Y,Y,Y,Y,Y,Yc,Y,Yc,Y,Y,Y,Y,Y],T:=[(3,ty3),(34,eO),(53,qm)],S:=[(59,iq),(60,qS),(61,jQ),(62,mG)],H:=[(0,([0,2,5,10,11,27,28,29],[0,2,5,10,11]))],res:=[.tmp 8,.tmp 9],ios:=[],G:=gl0}
def gc:List D→Option Out:=be nA Tryz.f21
@[reducible] def nB:FS:={pm:=[Yc,Y,Y,Yc],rm:=[Y,Y],f:=gc}
theorem wa:aw gl0 Tryz.prog 21 nB:=aC (c:=nA) (ab lw (ab Cv (ab nl (ab qD an)))) Tryz.func21 rfl rfl (by kernel_rfl)
@[reducible] def wI:Cx:={K:=[Yc,Yc,.no,.no,Y,Y,Y,Yc,Y,Y,Y,Y,Yc,Y,Y,Y,Y,Y,Yc,Y,Yc,Y,Yc,Y,Yc,Y,Y,Yc,Y,Yc,Y,Yc,Y,Yc,Y,Y,Yc,Y,Yc,Y,Y],T:=[(3,ty3),(34,eO)],S:=[],H:=[(0,([0,1,5],[0,1]))],res:=[.tmp 4],ios:=[],G:=gl0}
def mo:List D→Option Out:=be wI Tryz.f131
@[reducible] def JY:FS:={pm:=[Yc,Yc],rm:=[Y],f:=mo}
theorem IU:aw gl0 Tryz.prog 131 JY:=aC (c:=wI) an Tryz.func131 rfl rfl (by kernel_rfl)
@[reducible] def Bv:Cx:={K:=[Yc,.no,Y,Y,.no,Y,Yc,Y,Y,Y,Yc,Y,Y,Y,Y,Y,Y],T:=[(3,ty3),(34,eO)],S:=[],H:=[(0,([3,6,7,8],[3]))],res:=[.tmp 2],ios:=[],G:=gl0}
def jf:List D→Option Out:=be Bv Tryz.f137
@[reducible] def nC:FS:={pm:=[Yc],rm:=[Y],f:=jf}
theorem sF:aw gl0 Tryz.prog 137 nC:=aC (c:=Bv) an Tryz.func137 rfl rfl (by kernel_rfl)
@[reducible] def Bn:Cx:={K:=[Yc,Y,Y,.no,.box 3 0 false,.no,Y,Y,Y,Y,Yc,Y,Y,Yc,Y,Y,Y,Y,Y,Yr 4,Y,Y,Y,Y,Y,Y,Yr 4,Y,Y,Y,Y,Y,Y,Y,Y,Y,Y,Yr 4,Y,Y,Y],T:=[(3,ty3),(34,eO),(53,qm)],S:=[(137,nC)],H:=[],res:=[.tmp 6],ios:=[],G:=gl0}
def nL:List D→Option Out:=be Bn Tryz.f138
@[reducible] def AZ:FS:={pm:=[Yc,Y,Y],rm:=[Y],f:=nL}
theorem Mf:aw gl0 Tryz.prog 138 AZ:=aC (c:=Bn) (ab sF an) Tryz.func138 rfl rfl (by kernel_rfl)
@[reducible] def tj:Cx:={K:=[Yc,Y,.no,.no,Yo 1 0,Y,Y,Yo 1 0,Y,Y,Y,Yc,Y,Y,Yc,Y,Y,Y,Y,Y,Y,Y,Y,Y,Y,Y,Y,Y,Y,Y,Y,Y,Yo 1 0,Y,Yb,Yo 1 0,Yo 1 0],T:=[(3,ty3),(34,eO)],S:=[(137,nC)],H:=[(0,([5,6,7,8],[7]))],res:=[.tmp 4],ios:=[],G:=gl0}
def jI:List D→Option Out:=be tj Tryz.f141
@[reducible] def ta:FS:={pm:=[Yc,Y],rm:=[Yo 1 0],f:=jI}
theorem Ew:aw gl0 Tryz.prog 141 ta:=aC (c:=tj) (ab sF an) Tryz.func141 rfl rfl (by kernel_rfl)
@[reducible] def wt:Cx:={K:=[Yc,Y,Y,.no,.box 3 0 false,.no,Y,Y,.no,Y,Yc,Y,Yb,Y,Y,Y,Yb,Y,Y,Y,Yr 4,Y,Y,Y,Yr 4,Y,Y,Y,Y,Y,Y],T:=[(3,ty3),(34,eO),(53,qm)],S:=[(141,ta)],H:=[(0,([4,7,12,13,14],[7]))],res:=[.tmp 6],ios:=[],G:=gl0}
def mg:List D→Option Out:=be wt Tryz.f139
@[reducible] def ya:FS:={pm:=[Yc,Y,Y],rm:=[Y],f:=mg}
theorem JS:aw gl0 Tryz.prog 139 ya:=aC (c:=wt) (ab Ew an) Tryz.func139 rfl rfl (by kernel_rfl)
@[reducible] def wk:Cx:={K:=[Yc,Y,Y,Y,.no,.box 3 0 false,.no,.no,Y,Y,Yc,Y,Y,Y,Yc,Y,Yc,Y,Y,Yr 5,Y,Y,Y,Y,Y,Yc,Y,Y,Y,Y,Yc,Y,Y,Y],T:=[(3,ty3),(34,eO),(53,qm)],S:=[(137,nC),(138,AZ),(139,ya)],H:=[],res:=[.tmp 8,.tmp 9],ios:=[],G:=gl0}
def lY:List D→Option Out:=be wk Tryz.f130
@[reducible] def Jo:FS:={pm:=[Yc,Y,Y,Y],rm:=[Y,Y],f:=lY}
theorem wK:aw gl0 Tryz.prog 130 Jo:=aC (c:=wk) (ab sF (ab Mf (ab JS an))) Tryz.func130 rfl rfl (by kernel_rfl)
@[reducible] def Bh:Cx:={K:=[Yc,Yc,.no,.no,Y,Y,Yc,Y,Yc,Y,Y,Yc,Y,Y,Y,Y,Yc,Y,Yc,Y,Yc,Y,Yc,Y,Y,Y],T:=[(3,ty3),(34,eO)],S:=[],H:=[(0,([0,1,12,13],[]))],res:=[.tmp 4],ios:=[],G:=gl0}
def lj:List D→Option Out:=be Bh Tryz.f12
@[reducible] def zP:FS:={pm:=[Yc,Yc],rm:=[Y],f:=lj}
theorem Lj:aw gl0 Tryz.prog 12 zP:=aC (c:=Bh) an Tryz.func12 rfl rfl (by kernel_rfl)
open Go Go.Proofs Go.V Go.RowKit Go.Lib
set_option maxRecDepth 100000
theorem OE (g j:Nat):((⟨g,0,none⟩:Addr).add j)=⟨g,j,none⟩:=by cases j<;>simp [Addr.add]
theorem NW {xs:List Value} {cur:Array Value} {n:Nat} (h:cur.toList.take n=xs):∀(i:Nat) (u:Value),xs[i]?=some u→cur[i]?=some u:=fun i u hu=>by
 subst h;rw [List.getElem?_take] at hu;split at hu
 ·simpa using hu
 ·cases hu
theorem bF {w:World} (o:Obj) {n:Nat} (h:n=w.heap.size):(w.alloc o).heap[n]?=some o:=by
 subst h;exact ZZ
theorem fq {w:World} (o:Obj) {n:Nat} {x:Obj} (h:w.heap[n]?=some x):(w.alloc o).heap[n]?=some x :=
 ((ZI w o none).block n (ZN.1 h).1 (by simp)).trans h
theorem kv {w:World} {o:Obj} {a:Addr} {v:Value} (h:w.cell? a=some v):(w.alloc o).cell? a=some v :=
 (ZI w o none).cell h (by simp)
theorem Xc:(Tryz.prog.info? 3).map (fun i=>(i.zero,i.size,i.bytes))=some (some (.int .i64 0),1,8):=by kernel_rfl
theorem Yq:(Tryz.prog.info? 34).map (fun i=>(i.zero,i.size,i.bytes))=some (some (.slice none 0 0),1,24):=by kernel_rfl
theorem KE {w:World} {base e size n:Nat} {v:Value} {xs:List Value} (h:w.ownsRow base e size v (n+1) xs):∃g cap,v = .slice (some ⟨g,0,none⟩) (n+1) cap:=by
 obtain⟨_,⟨rfl,h⟩ | ⟨g,cap,cur,rfl,_⟩⟩:=h
 ·cases h
 ·exact⟨g,cap,rfl⟩
theorem aJ {w w':World} {B b:Nat} {o:Obj} (h:Below B w w') (hb:w.heap[b]?=some o) (hB:b<B):w'.heap[b]?=some o:=(h.block b hB).trans hb
theorem aG {w:World} {b:Nat} {o:Obj} (h:w.heap[b]?=some o):b<w.heap.size:=(ZN.1 h).1
theorem nY {W:World} {b t:Nat} {a0 a1 a2 a3:Value} (h:W.heap[b]?=some (.cells #[a0,a1,a2,a3] t (0,0))) :
  W.cell? ⟨b,0,none⟩=some a0∧W.cell? ⟨b,1,none⟩=some a1∧W.cell? ⟨b,2,none⟩=some a2∧W.cell? ⟨b,3,none⟩=some a3:=by
 refine⟨?_,?_,?_,?_⟩<;>rw [aaa h]<;>rfl
def tz (W:World) (B:Nat) (v:Value) (o:List Int):Prop:=∃g cap cur,v = .slice (some ⟨g,0,none⟩) o.length cap∧B≤g∧W.heap[g]?=some (.cells cur 3 (0,0)) ∧
 o.length≤cap∧cap≤cur.size∧∀(i:Nat) (u:Value),(o.map (ZR .i64))[i]?=some u→cur[i]?=some u
theorem tz.kept {W W':World} {B:Nat} {v:Value} {o:List Int} (h:tz W B v o) (hk:∀(g:Nat) (cur:Array Value),W.heap[g]?=some (.cells cur 3 (0,0))→W'.heap[g]?=W.heap[g]?):tz W' B v o:=by
 obtain⟨g,cap,cur,h1,h2,h5,h6⟩:=h;exact⟨g,cap,cur,h1,h2,(hk g cur h5).trans h5,h6⟩
theorem tz.below {W W':World} {B:Nat} {v:Value} {o:List Int} (h:tz W B v o) (hb:Below W.heap.size W W'):tz W' B v o :=
 h.kept fun g cur hg=>hb.block g (ZN.1 hg).1
theorem tz.of {W:World} {B b:Nat} {v:Value} {o:List Int} (h:W.ownsRow b 3 1 v o.length (o.map (ZR .i64))) (hb:B≤b) (hn:v ≠ .slice none 0 0):tz W B v o:=by
 obtain⟨_,⟨hv,_⟩ | ⟨g,cap,cur,rfl,hge,hg,hcap,_,hcs,ht⟩⟩:=h
 ·exact absurd hv hn
 ·exact⟨g,cap,cur,rfl,by omega,hg,hcap,by omega,NW ht⟩
structure LstO (W:World) (B:Nat) (v:Value) (L:List (List Int)) (vs:List Value):Prop where
 own:W.ownsRow B 34 1 v L.length vs
 row:∀(i:Nat) (s:List Int),L[i]?=some s→∃y,vs[i]?=some y∧tz W B y s
theorem LstO.cell {W:World} {B g cap n:Nat} {L:List (List Int)} {vs:List Value} (h:LstO W B (.slice (some ⟨g,0,none⟩) n cap) L vs) {i:Nat} {s:List Int} (hi:L[i]?=some s):∃y,W.cell? ⟨g,i,none⟩=some y∧tz W B y s:=by
 obtain⟨y,h1,h2⟩:=h.row i s hi;have:=h.own.cells (g:=g) rfl i y h1;rw [OE] at this;exact⟨y,this,h2⟩
theorem LstO.below {W W':World} {B:Nat} {v:Value} {L:List (List Int)} {vs:List Value} (h:LstO W B v L vs) (hb:Below W.heap.size W W'):LstO W' B v L vs :=
 ⟨h.own.kept (row:=none) ⟨hb.os,hb.tape,hb.output,hb.size,fun k hk _=>hb.block k hk⟩ (by cases hv:v.ownBlock<;>simp),fun i s hi=>by
  obtain⟨y,h1,h2⟩:=h.row i s hi;exact⟨y,h1,h2.below hb⟩⟩
theorem LstO.ne {W:World} {B g:Nat} {v:Value} {L:List (List Int)} {vs:List Value} (h:LstO W B v L vs) {cur:Array Value} (hg:W.heap[g]?=some (.cells cur 3 (0,0))):some g≠v.ownBlock:=by
 obtain⟨_,⟨rfl,_⟩ | ⟨g',cap,cur',rfl,_,hg',_⟩⟩:=h.own
 ·simp [ZP]
 ·intro e
  simp only [ZP,ZE] at e;rw [e,hg'] at hg;simp at hg
theorem LstO.grow {W W':World} {B:Nat} {v v' y:Value} {L:List (List Int)} {s:List Int} {vs:List Value} (h:LstO W B v L vs) (hy:tz W B y s) (ho:W'.ownsRow B 34 1 v' (L.length+1) (vs++[y])) (hg:W.grownBy W' v.ownBlock):LstO W' B v' (L++[s]) (vs++[y]):=by
 have hk:∀(g:Nat) (cur:Array Value),W.heap[g]?=some (.cells cur 3 (0,0))→W'.heap[g]?=W.heap[g]?:=fun g cur hc=>hg.block g (ZN.1 hc).1 (h.ne hc)
 have hlen:vs.length=L.length:=by simpa using h.own.1
 refine⟨by rw [List.length_append];exact ho,fun i t hi=>?_⟩
 rcases Nat.lt_or_ge i L.length with h1 | h1
 ·rw [ZX h1] at hi
  obtain⟨z,z1,z2⟩:=h.row i t hi;exact⟨z,by rw [ZX (by omega)];exact z1,z2.kept hk⟩
 ·rw [ZW h1] at hi
  have h0:i - L.length=0:=by
   have:=(ZK.1 hi).1;simp at this;omega
  rw [h0] at hi;simp at hi;subst hi;exact⟨y,by rw [ZW (by omega),show i - vs.length=0 by omega];rfl,hy.kept hk⟩
def Oq (N:Nat) (vs:List Value):Prop:=(∀y∈vs,∃b n c,y = .slice (some ⟨b,0,none⟩) n c∧b<N)∧vs.Pairwise fun a b=>a.ownBlock≠b.ownBlock
theorem Oq.grow {N N':Nat} {vs:List Value} {b n c:Nat} (h:Oq N vs) (hb:N≤b) (hb':b<N') (hN:N≤N'):Oq N' (vs++[.slice (some ⟨b,0,none⟩) n c]):=by
 refine⟨fun y hy=>?_,List.pairwise_append.2 ⟨h.2,by simp,fun x hx y hy=>?_⟩⟩
 ·rcases List.mem_append.1 hy with hy | hy
  ·obtain⟨b',n',c',e,h1⟩:=h.1 y hy
   exact⟨b',n',c',e,by omega⟩
  ·exact⟨b,n,c,aae.1 hy,hb'⟩
 ·obtain⟨b',n',c',rfl,h1⟩:=h.1 x hx
  rw [aae.1 hy];simp only [ZP,ne_eq,ZE];omega
theorem Oq.mono {N N':Nat} {vs:List Value} (h:Oq N vs) (hN:N≤N'):Oq N' vs:=⟨fun y hy=>by
 obtain⟨b,n,c,e,h1⟩:=h.1 y hy;exact⟨b,n,c,e,by omega⟩,h.2⟩
structure Grd (W:World) (B g cap:Nat) (bs cs:Nat→Nat) (wd ht:Nat) (f:Nat→Nat→Int):Prop where
 hB:B≤g
 out:∃cur,W.heap[g]?=some (.cells cur 34 (0,0))∧cap≤cur.size∧∀y,y<ht→cur[y]?=some (.slice (some ⟨bs y,0,none⟩) wd (cs y))
 hcap:ht≤cap
 row:∀y,y<ht→B≤bs y∧wd≤cs y∧∃cur,W.heap[bs y]?=some (.cells cur 3 (0,0))∧cs y≤cur.size∧∀x,x<wd→cur[x]?=some (.int .i64 (f y x))
 inj:∀y z,y<ht→z<ht→bs y=bs z→y=z
section
variable {W W':World} {B g cap wd ht:Nat} {bs cs:Nat→Nat} {f:Nat→Nat→Int}
theorem Grd.cell (h:Grd W B g cap bs cs wd ht f) {y:Nat} (hy:y<ht):W.cell? ⟨g,y,none⟩=some (.slice (some ⟨bs y,0,none⟩) wd (cs y)):=by
 obtain⟨cur,h1,_,h2⟩:=h.out;rw [aaa h1];exact h2 y hy
theorem Grd.num (h:Grd W B g cap bs cs wd ht f) {y x:Nat} (hy:y<ht) (hx:x<wd):W.cell? ⟨bs y,x,none⟩=some (.int .i64 (f y x)):=by
 obtain⟨_,_,cur,h1,_,h2⟩:=h.row y hy;rw [aaa h1];exact h2 x hx
theorem Grd.fz (h:Grd W B g cap bs cs wd ht f) {y:Nat} (hy:y<ht) (x:Nat):W.frozen? ⟨bs y,x,none⟩=false:=by
 obtain⟨_,_,cur,h1,_⟩:=h.row y hy;exact Lib.frozen_of_heap h1 x
theorem Grd.ne (h:Grd W B g cap bs cs wd ht f) {y:Nat} (hy:y<ht):g≠bs y:=by
 obtain⟨_,_,cur,h1,_⟩:=h.row y hy;obtain⟨cur',h2,_⟩:=h.out;intro e;rw [e,h1] at h2;simp at h2
theorem Grd.ltg (h:Grd W B g cap bs cs wd ht f):g<W.heap.size:=by
 obtain⟨cur',h2,_⟩:=h.out;exact aG h2
theorem Grd.ltb (h:Grd W B g cap bs cs wd ht f) {y:Nat} (hy:y<ht):bs y<W.heap.size:=by
 obtain⟨_,_,cur,h1,_⟩:=h.row y hy;exact aG h1
theorem Grd.kept (h:Grd W B g cap bs cs wd ht f) (hg:W'.heap[g]?=W.heap[g]?) (hb:∀y,y<ht→W'.heap[bs y]?=W.heap[bs y]?):Grd W' B g cap bs cs wd ht f:=by
 refine⟨h.hB,?_,h.hcap,fun y hy=>?_,h.inj⟩
 ·obtain⟨cur,h1,h2⟩:=h.out
  exact⟨cur,hg.trans h1,h2⟩
 ·obtain⟨h0,h00,cur,h1,h2⟩:=h.row y hy
  exact⟨h0,h00,cur,(hb y hy).trans h1,h2⟩
theorem Grd.below (h:Grd W B g cap bs cs wd ht f) (hb:Below W.heap.size W W'):Grd W' B g cap bs cs wd ht f :=
 h.kept (hb.block g h.ltg) fun y hy=>hb.block _ (h.ltb hy)
theorem Grd.set (h:Grd W B g cap bs cs wd ht f) {y x:Nat} (hy:y<ht) (hx:x<wd) (n:Int):Grd (W.setCell ⟨bs y,x,none⟩ (.int .i64 n)) B g cap bs cs wd ht (fun r c=>if r=y∧c=x then n else f r c):=by
 refine⟨h.hB,?_,h.hcap,fun z hz=>?_,h.inj⟩
 ·obtain⟨cur,h1,h2⟩:=h.out
  exact⟨cur,(heap_setCell_other W ⟨bs y,x,none⟩ g _ (h.ne hy)).trans h1,h2⟩
 ·obtain⟨h0,h00,cur,h1,h2,h3⟩:=h.row z hz
  by_cases e:z=y
  ·subst e
   refine⟨h0,h00,cur.setIfInBounds x (.int .i64 n),heap_setCell_same _ _ _ _ _ _ h1,by simpa using h2,fun c hc=>?_⟩
   by_cases e2:c=x
   ·subst e2
    simp [show c<cur.size by omega]
   ·rw [Array.getElem?_setIfInBounds_ne (fun h=>e2 h.symm)]
    simp only [e2,and_false,if_false];exact h3 c hc
  ·refine⟨h0,h00,cur,(heap_setCell_other W ⟨bs y,x,none⟩ _ _ (fun h4=>e (h.inj z y hz hy h4))).trans h1,h2,fun c hc=>?_⟩
   simp only [e,false_and,if_false];exact h3 c hc
theorem Grd.congr (h:Grd W B g cap bs cs wd ht f) {f':Nat→Nat→Int} (he:∀y x,y<ht→x<wd→f y x=f' y x):Grd W B g cap bs cs wd ht f':=by
 refine⟨h.hB,h.out,h.hcap,fun y hy=>?_,h.inj⟩
 obtain⟨h0,h00,cur,h1,h2,h3⟩:=h.row y hy;exact⟨h0,h00,cur,h1,h2,fun x hx=>by rw [h3 x hx,he y x hy hx]⟩
end
structure KeptG (bs:Nat→Nat) (ht:Nat) (W W':World):Prop where
 os:W'.os=W.os
 tape:W'.tape=W.tape
 output:W'.output=W.output
 size:W.heap.size≤W'.heap.size
 block:∀b,b<W.heap.size→(∀y,y<ht→b≠bs y)→W'.heap[b]?=W.heap[b]?
theorem KeptG.of {bs:Nat→Nat} {ht:Nat} {W W':World} (h:Below W.heap.size W W'):KeptG bs ht W W':=⟨h.os,h.tape,h.output,h.size,fun b hb _=>h.block b hb⟩
theorem KeptG.trans {bs:Nat→Nat} {ht:Nat} {W W' W'':World} (h:KeptG bs ht W W') (h':KeptG bs ht W' W''):KeptG bs ht W W'' :=
 ⟨h'.os.trans h.os,h'.tape.trans h.tape,h'.output.trans h.output,ZM h.size h'.size,fun b hb hn=>(h'.block b (ZU hb h.size) hn).trans (h.block b hb hn)⟩
theorem KeptG.set {bs:Nat→Nat} {ht y x:Nat} {W:World} {v:Value} (hy:y<ht):KeptG bs ht W (W.setCell ⟨bs y,x,none⟩ v) :=
 ⟨rfl,rfl,rfl,by simp [World.setCell],fun b _ hn=>heap_setCell_other W ⟨bs y,x,none⟩ b v (hn y hy)⟩
theorem KeptG.below {bs:Nat→Nat} {ht B:Nat} {W W':World} (h:KeptG bs ht W W') (hB:B≤W.heap.size) (hb:∀y,y<ht→B≤bs y):Below B W W' :=
 ⟨h.os,h.tape,h.output,h.size,fun b hlt=>h.block b (by omega) fun y hy e=>by have:=hb y hy;omega⟩
theorem XY {W:World} {B g cap wd ht:Nat} {vs:List Value} (h:LstO W B (.slice (some ⟨g,0,none⟩) ht cap) (ZF ht (ZF wd (-1))) vs) (hd:Oq W.heap.size vs) :
  ∃bs cs,Grd W B g cap bs cs wd ht fun _ _=>-1:=by
 have hlen:vs.length=ht:=by simpa using h.own.1
 have ho:=h.own;rw [ZJ] at ho;have key:∀y,y<ht→∃b c,vs[y]?=some (.slice (some ⟨b,0,none⟩) wd c)∧tz W B (.slice (some ⟨b,0,none⟩) wd c) (ZF wd (-1)):=fun y hy=>by
  obtain⟨v,h1,h2⟩:=h.row y (ZF wd (-1)) (by simp [hy]);have h3:=h2;obtain⟨b,c,cur,rfl,_⟩:=h3;rw [ZJ] at h1 h2;exact⟨b,c,h1,h2⟩
 have hbs:∀y:Nat,∃b:Nat,∀b' n c,vs[y]?=some (.slice (some ⟨b',0,none⟩) n c)→b'=b:=fun y=>by
  cases hv:vs[y]? with
  | none=>exact⟨0,fun b' n c e=>by cases e⟩
  | some v =>
   by_cases hs:∃b' n c,v = .slice (some ⟨b',0,none⟩) n c
   ·obtain⟨b',n,c,rfl⟩:=hs
    exact⟨b',fun b'' n' c' e=>by simp only [ZE,ZQ,aac,and_true] at e;exact e.1.symm⟩
   ·exact⟨0,fun b' n c e=>absurd ⟨b',n,c,aai e⟩ hs⟩
 have hcs:∀y:Nat,∃c:Nat,∀A n c',vs[y]?=some (.slice A n c')→c'=c:=fun y=>by
  cases hv:vs[y]? with
  | none=>exact⟨0,fun b' n c e=>by cases e⟩
  | some v =>
   by_cases hs:∃A n c,v = .slice A n c
   ·obtain⟨A,n,c,rfl⟩:=hs
    exact⟨c,fun A' n' c' e=>by simp only [ZE,ZQ] at e;exact e.2.2.symm⟩
   ·exact⟨0,fun A n c e=>absurd ⟨A,n,c,aai e⟩ hs⟩
 obtain⟨bs,hbs⟩:=Classical.axiomOfChoice hbs;obtain⟨cs,hcs⟩:=Classical.axiomOfChoice hcs;have key2:∀y,y<ht→vs[y]?=some (.slice (some ⟨bs y,0,none⟩) wd (cs y))∧tz W B (.slice (some ⟨bs y,0,none⟩) wd (cs y)) (ZF wd (-1)):=fun y hy=>by
  obtain⟨b,c,h1,h2⟩:=key y hy;have e1:=hbs y b wd c h1;have e2:=hcs y _ wd c h1;subst e1 e2;exact⟨h1,h2⟩
 refine⟨bs,cs,?_,?_,?_,fun y hy=>?_,fun y z hy hz e=>?_⟩
 ·obtain⟨_,⟨hv,_⟩ | ⟨g',cap',cur,hv,hge,_⟩⟩:=ho
  ·cases hv
  ·cases hv;exact hge
 ·obtain⟨_,⟨hv,_⟩ | ⟨g',cap',cur,hv,hge,hg,hcap,_,hcs',ht'⟩⟩:=ho
  ·cases hv
  ·cases hv
   exact⟨cur,hg,by omega,fun y hy=>NW ht' y _ (key2 y hy).1⟩
 ·obtain⟨_,⟨hv,_⟩ | ⟨g',cap',cur,hv,hge,hg,hcap,_,hcs',ht'⟩⟩:=ho
  ·cases hv
  ·cases hv
   simpa using hcap
 ·obtain⟨b,c,cur,hv,h2,h3,h4,h5,h6⟩:=(key2 y hy).2
  simp only [ZQ,ZE,aac,and_true] at hv;obtain⟨e1,-,e2⟩:=hv;rw [←e1] at h2 h3;rw [←e2,ZJ] at h4;rw [←e2] at h5;exact⟨h2,h4,cur,h3,h5,fun x hx=>h6 x _ (by simp [hx])⟩
 ·rcases Nat.lt_trichotomy y z with h1 | h1 | h1
  ·have:=(ZY.1 hd.2) y z (by omega) (by omega) h1
   rw [(ZK.1 (key2 y hy).1).2,(ZK.1 (key2 z hz).1).2] at this;exact absurd (by simp [ZP,e]) this
  ·exact h1
  ·have:=(ZY.1 hd.2) z y (by omega) (by omega) h1
   rw [(ZK.1 (key2 y hy).1).2,(ZK.1 (key2 z hz).1).2] at this;exact absurd (by simp [ZP,e]) this
end Go.Proofs.YtccaheogjpfhjaaGreat

namespace Go.Proofs.YtccaheogjpfhjaaGreat
open Go Go.Proofs Go.V Go.RowKit Go.Lib
set_option maxRecDepth 100000
theorem OV {α:Type} (n:Nat) (a:α):ZF (n+1) a=ZF n a++[a]:=List.replicate_succ'
set_option maxHeartbeats 4000000 in
set_option maxRecDepth 1000000 in
theorem Hw (wd ht:Nat) (hw:wd≤8) (hh:ht≤8) (w:World):Calls Tryz.prog 30 #[.int .i64 (wd:Int),.int .i64 (ht:Int)] w fun e w'=>∃g cap bs cs,e = .returned (.slice (some ⟨g,0,none⟩) ht cap)∧Grd w' w.heap.size g cap bs cs wd ht (fun _ _=>-1)∧Below w.heap.size w w':=by
 obtain⟨i0,hi,hz0,hz1,hz2⟩:=info_parts Xc;obtain⟨i5,hi5,hy0,hy1,hy2⟩:=info_parts Yq
 go_enter Tryz.func30,Tryz.ntmps30
 go_wp2
 go_loopw [5,6] (fun vG vy wr=>∃(y g cap:Nat) (vs:List Value),vy = .int .i64 y∧y≤ht∧vG = .slice (some ⟨g,0,none⟩) y cap∧LstO wr w.heap.size vG (ZF y (ZF wd (-1))) vs∧Oq wr.heap.size vs∧Below w.heap.size w wr) (fun _ vy _=>ht - (intOf vy).toNat)
 case atStart =>
  refine⟨0,w.heap.size,0,[],rfl,aab _,rfl,⟨⟨rfl,.inr ⟨_,0,#[],rfl,ZH _,bF _ rfl,ZH _,aab _,rfl,rfl⟩⟩,fun i s hi=>by simp at hi⟩,⟨fun y hy=>(by cases hy),List.Pairwise.nil⟩,(ZT _ w).alloc (ZH _) _⟩
 case round =>
  obtain⟨y,g,cap,vs,rfl,hyl,rfl,hL,hD,hb⟩:=hrel;by_cases hp:y<ht
  ·have hpi:(y:Int)<(ht:Int):=by omega
   obtain⟨W1,rfl⟩:∃W1,W1=wr:=⟨_,rfl⟩
   go_wp2
   go_loopw [7,8] (fun vr vx wq=>∃(x b c:Nat),vx = .int .i64 x∧x≤wd∧vr = .slice (some ⟨b,0,none⟩) x c∧wq.ownsRow W1.heap.size 3 1 (.slice (some ⟨b,0,none⟩) x c) x ((ZF x (-1:Int)).map (ZR .i64))∧Below W1.heap.size W1 wq) (fun _ vx _=>wd - (intOf vx).toNat)
   case atStart =>
    exact⟨0,_,_,rfl,aab _,rfl,⟨rfl,.inr ⟨_,0,#[],rfl,ZH _,bF _ rfl,ZH _,aab _,rfl,rfl⟩⟩,(ZT _ W1).alloc (ZH _) _⟩
   case round =>
    obtain⟨wq,rfl⟩:∃wq,wq=wr:=⟨_,rfl⟩
    obtain⟨x,b,c,rfl,hxl,rfl,hrow,hbq⟩:=hrel;by_cases hq:x<wd
    ·have hqi:(x:Int)<(wd:Int):=by omega
     have hmx:x+1≤maxLen:=by unfold maxLen;omega
     go_wp2_with (at_builtin;refine wpList_append_own _ rfl _ _ 34 rfl W1.heap.size 3 i0 (.int .i64 0) 1 8 Tryz.underlying34 hi hz0 hz1 hz2 rfl (by decide) (.slice (some ⟨b,0,none⟩) x c) _ _ rfl (hrow.alloc _) ⟨wq.heap.size,0,none⟩ 1 1 [.int .i64 (-1)] rfl rfl (cell_one_new _ _ _) (by intro u hu;simp at hu;subst hu;rfl) hmx (by omega) (ZM hbq.size (ZI wq _ none).size) ?_;intro v2 w4 hown2 hgrow2 hnil2;obtain⟨b2,c2,rfl⟩:=KE hown2)
     refine⟨⟨x+1,b2,c2,congrArg (ZR .i64) (by omega),by omega,rfl,?_,(hbq.alloc hbq.size _).grown hgrow2 (ZM hbq.size (ZI wq _ none).size) (fun k hk=>(hrow.lt k hk).1)⟩,?_⟩
     ·rw [OV,List.map_append]
      exact hown2
     ·show wd - ((x:Int)+1).toNat<wd - (x:Int).toNat
      omega
    ·have hqi:¬(x:Int)<(wd:Int):=by omega
     have hxe:x=wd:=by omega
     subst hxe;have hr:tz wq W1.heap.size (.slice (some ⟨b,0,none⟩) x c) (ZF x (-1)):=tz.of (by rw [ZJ];exact hrow) (ZH _) (by simp);have hbl:W1.heap.size≤b∧b<wq.heap.size:=by
      obtain⟨b',c',cur,e',hbge,hcell,_⟩:=hr;simp only [ZQ,ZE,aac,and_true] at e';obtain⟨rfl,-,-⟩:=e';exact⟨hbge,aG hcell⟩
     obtain⟨hbge,hblt⟩:=hbl;have hL1:=hL.below hbq;have hL2:=hL1.below ((ZT _ wq).alloc (ZH _) (.cells #[.slice (some ⟨b,0,none⟩) x c] 34));have hr3:tz (wq.alloc (.cells #[.slice (some ⟨b,0,none⟩) x c] 34)) w.heap.size (.slice (some ⟨b,0,none⟩) x c) (ZF x (-1)):=by
      obtain⟨b',c',cur',e,h1,h2,h3⟩:=hr.below ((ZT _ wq).alloc (ZH _) (.cells #[.slice (some ⟨b,0,none⟩) x c] 34));exact⟨b',c',cur',e,ZM hb.size h1,h2,h3⟩
     have hmx:y+1≤maxLen:=by unfold maxLen;omega
     have hown:=hL2.own;rw [ZJ] at hown;have hbs:w.heap.size≤(wq.alloc (.cells #[.slice (some ⟨b,0,none⟩) x c] 34)).heap.size:=ZM hb.size (ZM hbq.size (ZI wq _ none).size)
     go_wp2_with (at_builtin;refine wpList_append_own _ rfl _ _ 72 rfl w.heap.size 34 i5 (.slice none 0 0) 1 24 Tryz.underlying72 hi5 hy0 hy1 hy2 rfl (by decide) (.slice (some ⟨g,0,none⟩) y cap) _ _ rfl hown ⟨wq.heap.size,0,none⟩ 1 1 [.slice (some ⟨b,0,none⟩) x c] rfl rfl (cell_one_new _ _ _) (by intro u hu;simp at hu;subst hu;rfl) hmx (by omega) hbs ?_;intro v6 w6 hown6 hgrow6 hnil6;have hL6:=hL2.grow hr3 (by rw [ZJ];exact hown6) hgrow6;obtain⟨g6,cap6,rfl⟩:=KE hown6)
     have hsz:=hgrow6.size;refine⟨⟨y+1,g6,cap6,_,congrArg (ZR .i64) (by omega),by omega,rfl,?_,hD.grow (b:=b) (n:=x) (c:=c) hbge (ZU (ZU hblt (ZI wq _ none).size) hsz) (ZM (ZM hbq.size (ZI wq _ none).size) hsz),?_⟩,?_⟩
     ·rw [OV]
      exact hL6
     ·exact((hb.trans (hbq.mono hb.size)).alloc (ZM hb.size hbq.size) _).grown hgrow6 hbs (fun k hk=>(hL2.own.lt k hk).1)
     ·show ht - ((y:Int)+1).toNat<ht - (y:Int).toNat
      omega
  ·have hpi:¬(y:Int)<(ht:Int):=by omega
   have hye:y=ht:=by omega
   subst hye;obtain⟨bs,cs,hG⟩:=XY hL hD
   go_wp2
   go_ret
   exact⟨g,cap,rfl,⟨bs,cs,hG⟩,hb⟩
set_option maxRecDepth 100000
def mkP (f:Nat→Nat→Int) (X Y a:Nat) (n:Int) (y x:Nat):Nat→Nat→Int:=fun r c=>if Y≤r∧X≤c∧c<X+a∧(r<y∨(r=y∧c<x)) then n else f r c
def mkA (f:Nat→Nat→Int) (X Y a b:Nat) (n:Int):Nat→Nat→Int:=fun r c=>if Y≤r∧r<Y+b∧X≤c∧c<X+a then n else f r c
theorem Kw (f:Nat→Nat→Int) (X Y a:Nat) (n:Int):mkP f X Y a n Y X=f:=by
 funext r c
 unfold mkP;rw [if_neg (by omega)]
theorem NH (f:Nat→Nat→Int) (X Y a:Nat) (n:Int) (y x:Nat) (hy:Y≤y) (hx:X≤x) (hx2:x<X+a):(fun r c=>if r=y∧c=x then n else mkP f X Y a n y x r c)=mkP f X Y a n y (x+1):=by
 funext r c
 unfold mkP;by_cases h:r=y∧c=x
 ·rw [if_pos h,if_pos (by omega)]
 ·rw [if_neg h]
  by_cases h2:Y≤r∧X≤c∧c<X+a∧(r<y∨(r=y∧c<x))
  ·rw [if_pos h2,if_pos (by omega)]
  ·rw [if_neg h2,if_neg (by omega)]
theorem QA (f:Nat→Nat→Int) (X Y a:Nat) (n:Int) (y:Nat) (hy:Y≤y):mkP f X Y a n y (X+a)=mkP f X Y a n (y+1) X:=by
 funext r c
 unfold mkP;by_cases h2:Y≤r∧X≤c∧c<X+a∧(r<y∨(r=y∧c<X+a))
 ·rw [if_pos h2,if_pos (by omega)]
 ·rw [if_neg h2,if_neg (by omega)]
theorem Qh (f:Nat→Nat→Int) (X Y a b:Nat) (n:Int):mkP f X Y a n (Y+b) X=mkA f X Y a b n:=by
 funext r c
 unfold mkP mkA;by_cases h2:Y≤r∧r<Y+b∧X≤c∧c<X+a
 ·rw [if_pos h2,if_pos (by omega)]
 ·rw [if_neg h2,if_neg (by omega)]
abbrev plV (n X Y:Int) (t:Bool):Value:=.agg #[.int .i64 n,.int .i64 X,.int .i64 Y,.bool t]
abbrev plO (n X Y:Int) (t:Bool):Obj:=.cells #[.int .i64 n,.int .i64 X,.int .i64 Y,.bool t] 76 (0,0)
theorem aN {W:World} {b:Nat} {n X Y:Int} {t:Bool} (h:W.heap[b]?=some (plO n X Y t)):W.cell? ⟨b,0,none⟩=some (.int .i64 n)∧W.cell? ⟨b,1,none⟩=some (.int .i64 X)∧W.cell? ⟨b,2,none⟩=some (.int .i64 Y)∧W.cell? ⟨b,3,none⟩=some (.bool t):=nY h
set_option maxHeartbeats 4000000 in
set_option maxRecDepth 1000000 in
theorem Cu (w:World) (B g cap wd ht:Nat) (bs cs:Nat→Nat) (f:Nat→Nat→Int) (hG:Grd w B g cap bs cs wd ht f) (hw8:wd≤8) (hh8:ht≤8) (pv:Value) (k:Int) (X Y a b:Nat) (t:Bool) (n:Int)
  (ha:X+a≤wd) (hb:Y+b≤ht)
  (hsz:∀W,Below w.heap.size w W→Calls Tryz.prog 116 #[pv,plV k X Y t] W fun e W'=>e = .returned (.tuple #[.int .i64 (a:Int),.int .i64 (b:Int)])∧Below W.heap.size W W') :
  Calls Tryz.prog 72 #[.slice (some ⟨g,0,none⟩) ht cap,pv,plV k X Y t,.int .i64 n] w fun e w'=>e = .returned (.tuple #[])∧Grd w' B g cap bs cs wd ht (mkA f X Y a b n)∧KeptG bs ht w w':=by
 go_enter Tryz.func72,Tryz.ntmps72
 have B1:Below w.heap.size w (w.alloc (plO k X Y t)):=(ZT _ w).alloc (ZH _) _;have p1:(w.alloc (plO k X Y t)).heap[w.heap.size]?=some (plO k X Y t):=bF _ rfl;have hc1:=hsz _ B1;have l1:w.heap.size<(w.alloc (plO k X Y t)).heap.size:=aG p1
 go_wp2_with (go_at_call 116;refine hc1.mono ?_;rintro e w2 ⟨rfl,hB2⟩;have p2:=aJ hB2 p1 l1;have d0:=(aN p2).1;have d1:=(aN p2).2.1;have d2:=(aN p2).2.2.1;have d3:=(aN p2).2.2.2)
 have B2:Below w.heap.size w w2:=B1.trans (hB2.mono B1.size);have hG2:=hG.below B2;have l2:w.heap.size<w2.heap.size:=aG p2;clear d0 d1 d2 d3 hc1 p1 l1;generalize w.alloc (plO k X Y t)=W1 at *;clear hB2 B1;obtain⟨N,hN⟩:∃N,N=w.heap.size:=⟨_,rfl⟩
 have hNb:∀y,y<ht→N≠bs y:=fun y hy=>by have:=hG.ltb hy;omega
 rw [←hN] at p2 l2 ⊢;have K2:KeptG bs ht w w2:=KeptG.of B2;have HN:Hid _:=hN;clear hN hsz
 go_loopw [10] (fun vy wr=>∃(y:Nat),vy = .int .i64 y∧Y≤y∧y≤Y+b∧Grd wr B g cap bs cs wd ht (mkP f X Y a n y X)∧KeptG bs ht w2 wr) (fun vy _=>Y+b - (intOf vy).toNat)
 case atStart=>exact⟨Y,rfl,ZH _,by omega,by rw [Kw];exact hG2,KeptG.of (ZT _ _)⟩
 case round =>
  obtain⟨y,rfl,hy1,hy2,hGr,hK⟩:=hrel;have pr:=(hK.block N l2 hNb).trans p2;obtain⟨c0,c1,c2,c3⟩:=aN pr;by_cases hp:y<Y+b
  ·have hpi:(y:Int)<(Y:Int)+(b:Int):=by omega
   have hyt:y<ht:=by omega
   have hyi:(y:Int)<(ht:Int):=by omega
   obtain⟨W1,rfl⟩:∃W1,W1=wr:=⟨_,rfl⟩
   go_wp2
   clear c0 c1 c2 c3
   go_loopw [11] (fun vx wr=>∃(x:Nat),vx = .int .i64 x∧X≤x∧x≤X+a∧Grd wr B g cap bs cs wd ht (mkP f X Y a n y x)∧KeptG bs ht w2 wr) (fun vx _=>X+a - (intOf vx).toNat)
   case atStart=>exact⟨X,rfl,ZH _,by omega,hGr,hK⟩
   case round =>
    clear pr hGr hK;obtain⟨x,rfl,hx1,hx2,hGx,hKx⟩:=hrel;have pr:=(hKx.block N l2 hNb).trans p2;obtain⟨c0,c1,c2,c3⟩:=aN pr;by_cases hq:x<X+a
    ·have hqi:(x:Int)<(X:Int)+(a:Int):=by omega
     have hxt:x<wd:=by omega
     have hxi:(x:Int)<(wd:Int):=by omega
     have e1:=hGx.cell hyt;have e2:=hGx.num hyt hxt;have e3:=hGx.fz hyt x;have hS:=hGx.set hyt hxt n;rw [NH f X Y a n y x hy1 hx1 hq] at hS;have hKS:=hKx.trans (KeptG.set (v:=.int .i64 n) (x:=x) hyt)
     go_wp2
     refine⟨⟨x+1,congrArg (ZR .i64) (by omega),by omega,by omega,hS,hKS⟩,?_⟩
     show X+a - ((x:Int)+1).toNat<X+a - (x:Int).toNat
     omega
    ·have hqi:¬(x:Int)<(X:Int)+(a:Int):=by omega
     have hxe:x=X+a:=by omega
     rw [hxe,QA f X Y a n y hy1] at hGx;clear hxe
     go_wp2
     refine⟨⟨y+1,congrArg (ZR .i64) (by omega),by omega,by omega,hGx,hKx⟩,?_⟩
     show Y+b - ((y:Int)+1).toNat<Y+b - (y:Int).toNat
     omega
  ·have hpi:¬(y:Int)<(Y:Int)+(b:Int):=by omega
   have hye:y=Y+b:=by omega
   rw [hye,Qh] at hGr;clear hye
   go_wp2
   go_end0
   exact⟨rfl,hGr,K2.trans hK⟩
end Go.Proofs.YtccaheogjpfhjaaGreat

end
