/-
  A part of the proof: contracts and plain forms of functions beneath the statement, made small by a program (names shortened, what is not needed left out).
-/
import Derived.Test.YtccaheogjpfhjaaGreatRows
import Derived.Test.YtccaheogjpfhjaaGreatM11
open Go.IntKind renaming i64 → ZE, u64 → aad
open Go.Value renaming int → ZF, bool → aae
open Option renaming bind_some → ZG, map_some → ZU, getD_some → aal
open Bool renaming false_eq_true → ZH, and_eq_true → ZK, not_true → ZP, not_false → ZY
open List renaming length_map → ZI, range → ZJ, getElem_mem → ZN, all_eq_true → ZS, map_set → ZW, drop_zero → ZX, length_range → ZZ, drop_eq_getElem_cons → aaa, getElem?_eq_getElem → aac, drop_succ_cons → aaf, length_append → aah, mem_singleton → aai, length_cons → aak
open Int renaming eq_ofNat_of_zero_le → ZL, natCast_mul → ZO
open Nat renaming beq_refl → ZM, mul_le_mul → ZQ, ble → ZR, mul_le_mul_right → ZV, ble_eq → aab, succ_mul → aag
open Go.BinOp renaming add → ZT, gtr → aaj
set_option maxRecDepth 100000
set_option linter.unusedSimpArgs false
set_option linter.unusedVariables false
noncomputable section
namespace Go.Proofs.YtccaheogjpfhjaaGreat
open Go Go.V
set_option maxRecDepth 100000
def jC (l:List Lf):Bool:=(l.all fun x=>decide (1≤x.1∧x.1≤2))&&decide (l.length≤4)
theorem Dl {β:Type} (p:β→Bool):∀(l:List β) (i:Nat),du (fun _ x=>p x) i l=l.all p
 | [],_=>rfl
 | x::l,i=>by simp only [du,List.all_cons];rw [Dl p l]
theorem Xa {n:Nat}:decide ((n:Int)≤4)=decide (n≤4):=by
 by_cases h:n≤4
 ·have h':(n:Int)≤4:=by omega
  simp [h,h']
 ·have h':¬(n:Int)≤4:=by omega
  simp [h,h']
theorem tg (l:List Lf) (h:l.length≤1000):gT [lfs l]=some (.ret [B (jC l)] []):=by
 rw [DN];simp only [aS,ZI,ZG];refine ax _ (dJ l (fun i=>[lfs l,lfs l,I l.length,I i]) (fun _ x=>decide (1≤x.1∧x.1≤2)) (.ret [B false] []) (.ext 0 [lfs l]) (fun i hi=>?_) ?_ rfl rfl rfl) ?_
 ·have hw:ZE.wrap ((i:Int)+1)=(i:Int)+1:=ae (by omega) (by omega)
  obtain⟨x,hx⟩:∃x,l[i]=x:=⟨_,rfl⟩
  by_cases h1:x.1=1
  ·have hd:1≤x.1∧x.1≤2:=by omega
   simp -implicitDefEqProofs [hi,hw,hx,h1,oY]
  ·by_cases h2:x.1=2
   ·simp -implicitDefEqProofs [hi,hw,hx,h1,h2,oY]
   ·have hd:¬(1≤x.1∧x.1≤2):=by omega
    simp -implicitDefEqProofs [hi,hw,hx,h1,h2,hd,oY]
 ·simp -implicitDefEqProofs
 ·rw [Dl]
  unfold jC;cases l.all fun x=>decide (1≤x.1∧x.1≤2)<;>simp [Xa]
theorem IV (l:List Lf) (h:l.length≤1000):lZ [lfs l]=some (.ret [B (jC l)] []):=by
 rw [JV];simp only [aS,ZI,ZG];refine ax _ (dJ l (fun i=>[lfs l,lfs l,I l.length,I i]) (fun _ x=>decide (1≤x.1∧x.1≤2)) (.ret [B false] []) (.ext 0 [lfs l]) (fun i hi=>?_) ?_ rfl rfl rfl) ?_
 ·have hw:ZE.wrap ((i:Int)+1)=(i:Int)+1:=ae (by omega) (by omega)
  obtain⟨x,hx⟩:∃x,l[i]=x:=⟨_,rfl⟩
  have e1:=eY x.1 1 2;cases hd:decide (1≤x.1∧x.1≤2)
  ·rw [hd] at e1
   simp -implicitDefEqProofs [hi,hw,hx,e1,hd,oY]
  ·rw [hd] at e1
   simp -implicitDefEqProofs [hi,hw,hx,e1,hd,oY]
 ·simp -implicitDefEqProofs
 ·rw [Dl]
  unfold jC;cases l.all fun x=>decide (1≤x.1∧x.1≤2)<;>simp [Xa]
def szF (a:Nat × Nat) (x:Lf):Nat × Nat:=if x.1=1 then(a.1*2,a.2) else(a.1,a.2*2)
def szL (l:List Lf):Nat × Nat:=l.foldl szF (1,1)
theorem UJ {i:Nat} (h:i≤4):2 ^ i≤16:=Nat.pow_le_pow_right (by omega) h
theorem PH {a:Nat × Nat} {x:Lf} {i:Nat} (h:a.1≤2 ^ i∧a.2≤2 ^ i):(szF a x).1≤2 ^ (i+1)∧(szF a x).2≤2 ^ (i+1):=by
 rw [Nat.pow_succ];unfold szF;split<;>simp only<;>omega
theorem TG (l:List Lf) (h:l.length≤4):(szL l).1≤16∧(szL l).2≤16:=by
 have key:∀(l:List Lf) (a:Nat × Nat) (i:Nat),a.1≤2 ^ i∧a.2≤2 ^ i→(l.foldl szF a).1≤2 ^ (i+l.length)∧(l.foldl szF a).2≤2 ^ (i+l.length):=by
  intro l;induction l with
  | nil=>intro a i h;exact h
  | cons x l ih =>
   intro a i h;have:=ih (szF a x) (i+1) (PH h);rw [aak,show i+(l.length+1)=i+1+l.length by omega];exact this
 have:=key l (1,1) 0 (by simp);have h2:=UJ (i:=0+l.length) (by omega);unfold szL;omega
theorem CQ (l:List Lf) (h:l.length≤4):jl [lfs l]=some (.ret [I ((szL l).1:Int),I ((szL l).2:Int)] []):=by
 rw [Cn];simp only [aS,ZI,ZG];refine ax _ (co l (fun i (a:Nat × Nat)=>[I (a.1:Int),I (a.2:Int),lfs l,I l.length,I i]) (fun i a=>a.1≤2 ^ i∧a.2≤2 ^ i) (fun _=>szF) (fun a=>.ext 0 [I (a.1:Int),I (a.2:Int)]) (1,1) (fun i a hi ha=>⟨?_,PH ha⟩) (fun a ha=>?_) (fun _=>rfl) (by simp) rfl) ?_
 ·have hw:ZE.wrap ((i:Int)+1)=(i:Int)+1:=ae (by omega) (by omega)
  have hp:=UJ (i:=i) (by omega);obtain⟨x,hx⟩:∃x,l[i]=x:=⟨_,rfl⟩
  have w1:ZE.wrap ((a.1:Int)*2)=((a.1*2:Nat):Int):=by rw [ae (by omega) (by omega)];omega
  have w2:ZE.wrap ((a.2:Int)*2)=((a.2*2:Nat):Int):=by rw [ae (by omega) (by omega)];omega
  by_cases h1:x.1=1
  ·simp -implicitDefEqProofs [hi,hw,hx,h1,oY,szF,w1]
  ·simp -implicitDefEqProofs [hi,hw,hx,h1,oY,szF,w2]
 ·simp -implicitDefEqProofs
 ·rw [eC]
  simp -implicitDefEqProofs [szL]
theorem JD (l:List Lf) (h:l.length≤4):mb [lfs l]=some (.ret [I ((szL l).1:Int),I ((szL l).2:Int)] []):=by
 rw [JT];simp only [aS,ZI,ZG];refine ax _ (co l (fun i (a:Nat × Nat)=>[I (a.1:Int),I (a.2:Int),lfs l,I l.length,I i]) (fun i a=>a.1≤2 ^ i∧a.2≤2 ^ i) (fun _=>szF) (fun a=>.ext 0 [I (a.1:Int),I (a.2:Int)]) (1,1) (fun i a hi ha=>⟨?_,PH ha⟩) (fun a ha=>?_) (fun _=>rfl) (by simp) rfl) ?_
 ·have hw:ZE.wrap ((i:Int)+1)=(i:Int)+1:=ae (by omega) (by omega)
  have hp:=UJ (i:=i) (by omega);obtain⟨x,hx⟩:∃x,l[i]=x:=⟨_,rfl⟩
  have w1:ZE.wrap ((a.1:Int)*2)=((a.1*2:Nat):Int):=by rw [ae (by omega) (by omega)];omega
  have w2:ZE.wrap ((a.2:Int)*2)=((a.2*2:Nat):Int):=by rw [ae (by omega) (by omega)];omega
  by_cases h1:x.1=1
  ·simp -implicitDefEqProofs [hi,hw,hx,h1,oY,szF,w1]
  ·simp -implicitDefEqProofs [hi,hw,hx,h1,oY,szF,w2]
 ·simp -implicitDefEqProofs
 ·rw [eC]
  simp -implicitDefEqProofs [szL]
def G0 (c r:Nat):Gd3:=(ZJ r).map fun y=>(ZJ c).map fun x=>[(((y*c+x:Nat):Int),true)]
def sB:Gd3→List Lf→Prop
 | G,[]=>GOk G∧1≤(bj G 0).length
 | G,f::l=>GOk G∧sB (Lx G f) l
def piL (l:List Lf):List Lf:=bj (bj (l.foldl Lx (G0 (szL l).1 (szL l).2)) 0) 0
set_option maxHeartbeats 2000000 in
theorem xF (l:List Lf) (h:l.length≤4) (hok:sB (G0 (szL l).1 (szL l).2) l):gX [lfs l]=some (.ret [lfs (piL l)] []):=by
 rw [Ig];have es:=CQ l h;obtain⟨hc,hr⟩:=TG l h;unfold piL;generalize (szL l).1=c at *;generalize (szL l).2=r at *;have m0:ay 1 []=some (nj []):=rfl;simp -implicitDefEqProofs [es,m0,-bv];refine ax _ (je r (fun y a=>[lfs l,I (c:Int),I (r:Int),iJ a,I (y:Int)]) (fun y=>(ZJ c).map fun x=>[(((y*c+x:Nat):Int),true)]) (fun a=>.ext 0 [lfs l,iJ a]) (fun y a hy ha=>?_) (fun a ha=>?_) (fun _=>rfl) (by simp)) ?_
 ·have hy':(y:Int)<(r:Int):=by omega
  have hwy:ZE.wrap ((y:Int)+1)=((y+1:Nat):Int):=by rw [ae (by omega) (by omega)];omega
  have hmr:=Yn ((ZJ c).map fun x=>[(((y*c+x:Nat):Int),true)]);have hap:=XK a ((ZJ c).map fun x=>[(((y*c+x:Nat):Int),true)]) (by omega);simp -implicitDefEqProofs only [aE,aX,ZG,bp,hy',decide_true,bt,if_true,m0];refine ax _ (je c (fun x b=>[lfs l,I (c:Int),I (r:Int),iJ a,I (y:Int),nj b,I (x:Int)]) (fun x=>[(((y*c+x:Nat):Int),true)]) (fun b=>.ext 2 [lfs l,I (c:Int),I (r:Int),iJ a,I (y:Int),nj b]) (fun x b hx hb=>?_) (fun b hb=>?_) (fun _=>rfl) (by simp)) ?_
  ·have hx':(x:Int)<(c:Int):=by omega
   have hmul:y*c≤16*16:=ZQ (by omega) hc;have hwm:ZE.wrap ((y:Int)*(c:Int))=((y*c:Nat):Int):=by rw [ae (by rw [←ZO];omega) (by rw [←ZO];omega),ZO]
   have hwa:ZE.wrap (((y*c:Nat):Int)+(x:Int))=((y*c+x:Nat):Int):=by rw [ae (by omega) (by omega)];omega
   have hb1:=To ((y*c+x:Nat):Int) true;have hm1:=XS (((y*c+x:Nat):Int),true);have hm2:=XI [(((y*c+x:Nat):Int),true)];have hap:=XA b [(((y*c+x:Nat):Int),true)] (by omega);have hwx:ZE.wrap ((x:Int)+1)=((x+1:Nat):Int):=by rw [ae (by omega) (by omega)];omega
   simp -implicitDefEqProofs only [aE,aX,ZG,bp,hx',decide_true,bt,if_true,mf,hwm,bZ,hwa,hb1,hm1,hm2,hap,hwx]
  ·have hn:¬(c:Int)<(c:Int):=by omega
   simp -implicitDefEqProofs only [aE,aX,ZG,bp,hn,decide_false,bt,ZH,if_false]
  ·show outK (.ext 2 [lfs l,I (c:Int),I (r:Int),iJ a,I (y:Int),nj ((ZJ c).map fun x=>[(((y*c+x:Nat):Int),true)])]) _ _=_
   simp -implicitDefEqProofs only [cZ,jn,ZM,if_true,aE,aX,hmr,hap,ZG,bZ,hwy]
 ·have hn:¬(r:Int)<(r:Int):=by omega
  simp -implicitDefEqProofs only [aE,aX,ZG,bp,hn,decide_false,bt,ZH,if_false]
 ·show outK (.ext 0 [lfs l,iJ (G0 c r)]) _ _=_
  simp -implicitDefEqProofs only [cZ,jn,ZM,if_true,aE,aX,aS,ZI,ZG];have hdrop:∀(i:Nat) (hi:i<l.length),l.drop i=l[i]::l.drop (i+1):=fun i hi=>aaa hi
  refine ax _ (co l (fun i (G:Gd3)=>[iJ G,lfs l,I l.length,I i]) (fun i G=>sB G (l.drop i)) (fun _=>Lx) (fun G=>.ext 4 [iJ G]) (G0 c r) (fun i G hi hG=>?_) (fun G hG=>?_) (fun _=>rfl) (by simpa using hok) rfl) ?_
  ·rw [hdrop i hi] at hG
   refine⟨?_,hG.2⟩
   have hw:ZE.wrap ((i:Int)+1)=(i:Int)+1:=ae (by omega) (by omega);have ef:=Ev G l[i] hG.1;obtain⟨x,hx⟩:∃x,l[i]=x:=⟨_,rfl⟩
   rw [hx] at ef ⊢;simp -implicitDefEqProofs [hi,hw,hx,oY,ef]
  ·simp -implicitDefEqProofs
  ·rw [eC]
   have hfin:sB (l.foldl Lx (G0 c r)) []:=by
    have key:∀(l:List Lf) (G:Gd3),sB G l→sB (l.foldl Lx G) []:=by
     intro l;induction l with
     | nil=>intro G h;exact h
     | cons f l ih=>intro G h;exact ih _ h.2
    exact key l _ hok
   generalize l.foldl Lx (G0 c r)=G at *;obtain⟨hG,hc1⟩:=hfin;have hr1:=hG.r1;have g0:=pE (l:=G) (i:=0) (by omega);have e0:=elP (R:=bj G 0) (x:=0) (by omega);have hat:atD (iJ G) (.ref 0 0)=some [nj (bj G 0)]:=by
    rw [g0];simp [show 0<G.length by omega]
   have hrf:dE 1 (iJ G) (I 0)=some (.ref 0 0):=by
    have:=dm (z:=1) (l:=G.map nj) (k:=.i64) (i:=0);rw [if_pos (by simp;omega)] at this;exact this
   simp -implicitDefEqProofs only [cZ,jn,ZM,if_true,aE,aX,kg,cI,ZG,hrf,hat,eJ,ZU,fS,show aI 1 (nj (bj G 0)) (I 0)=some [lfs (bj (bj G 0) 0)] from e0]
theorem CK (l:List Lf) (h:l.length≤1000) (hok:jC l=true→sB (G0 (szL l).1 (szL l).2) l∧(piL l).length≤1000):gk [lfs l]=some (.ret [ints (if jC l=true then(piL l).map (·.1) else []),B (jC l)] []):=by
 have ea:=tg l h;rw [CJ];have m0:ay 1 []=some (ints []):=rfl;cases hg:jC l
 ·rw [hg] at ea
  simp -implicitDefEqProofs [ea,m0]
 ·rw [hg] at ea
  obtain⟨ho,hl⟩:=hok hg;have h4:l.length≤4:=by
   unfold jC at hg;simp only [ZK,decide_eq_true_eq] at hg;exact hg.2
  have ef:=xF l h4 ho;generalize piL l=p at *;simp -implicitDefEqProofs only [ea,bd,aE,lH,ZP,bt,ZH,if_false,m0,ZG,ef,aS,ZI,if_true];refine ax _ (co p (fun i (a:List Int)=>[ints a,lfs p,I p.length,I i]) (fun i a=>a.length=i) (fun _ a x=>a++[x.1]) (fun a=>.ext 0 [ints a]) [] (fun i a hi ha=>⟨?_,by simp [ha]⟩) (fun a ha=>?_) (fun _=>rfl) rfl rfl) ?_
  ·have hw:ZE.wrap ((i:Int)+1)=(i:Int)+1:=ae (by omega) (by omega)
   obtain⟨x,hx⟩:∃x,p[i]=x:=⟨_,rfl⟩
   have hm:ay 1 [I x.1]=some (ints [x.1]):=by simp [ay,eA]
   have hc:dq (ints [x.1])=some (ints [x.1]):=fj fun p=>rfl
   have hap:=Ci I 1 8 a [x.1] (by simp;omega) (by omega);simp -implicitDefEqProofs [hi,hw,hx,oY,hm,hc,hap,-bv]
  ·simp -implicitDefEqProofs
  ·have e:∀(l:List Lf) (k:Nat) (a:List Int),iD (fun _ a (x:Lf)=>a++[x.1]) k l a=a++l.map (·.1):=by
    intro l;induction l with
    | nil=>intro k a;simp [iD]
    | cons x l ih=>intro k a;simp only [iD];rw [ih];simp
   rw [e];simp -implicitDefEqProofs
set_option maxRecDepth 100000
theorem KC {γ:Type} {body:List D→Option Out} (n:Nat) (a0:List γ) (st:Nat→List γ→List D) (g:Nat→γ) (fin:List γ→Out) (hs:∀(i:Nat) (a:List γ),i<n→a.length=a0.length+i→body (st i a)=some (.nrm (st (i+1) (a++[g i])))) (he:∀a,body (st n a)=some (fin a))
  (h1:∀a,(fin a).ends=true) {s0:List D} (h:s0=st 0 a0):aQ body s0=some (fin (a0++(ZJ n).map g)):=by
 have e:∀(l:List Nat) (k:Nat) (a:List γ),iD (fun _ a x=>a++[g x]) k l a=a++l.map g:=by
  intro l;induction l with
  | nil=>intro k a;simp [iD]
  | cons x l ih=>intro k a;simp only [iD];rw [ih];simp
 have:=co (body:=body) (ZJ n) st (fun i a=>a.length=a0.length+i) (fun _ a x=>a++[g x]) fin a0 (fun i a hi ha=>⟨by
  have hi':i<n:=by simpa using hi
  have e:(ZJ n)[i]=i:=by simp
  rw [e];exact hs i a hi' ha,by simp [ha];omega⟩) (fun a ha=>by simp only [ZZ] at ha ⊢;exact he a) h1 rfl h
 rw [this,e]
abbrev il (P:List (List Int)):D:=.arr 1 (P.map fun p=>ints p)
def nI (l:List Int) (i:Nat):Int:=l.getD i 0
theorem YG {l:List Int} {i:Nat} (h:i<l.length):nI l i=l[i]:=by
 unfold nI;rw [List.getD_eq_getElem?_getD,aac h];rfl
def og (q:List Int):List Int:=(ZJ q.length).map fun i=>-nI q (q.length - 1 - i)
def Hq (p q:List Int) (o:Bool):List Int:=if o then q++p else p++q
theorem Rl (q:List Int):(og q).length=q.length:=by simp [og]
theorem TP (x:Int):ay 1 [I x]=some (ints [x]):=by simp [ay,eA]
theorem Qb (l:List Int):dq (ints l)=some (ints l):=fj fun p=>rfl
def smI (q:List Int):Prop:=q.length≤1000∧∀x∈q,-1000≤x∧x≤1000
theorem JW (q:List Int) (h:smI q):gV [ints q]=some (.ret [ints (og q)] []):=by
 obtain⟨h,hx⟩:=h;rw [Jf];have hw0:ZE.wrap ((q.length:Int) - 1)=(q.length:Int) - 1:=ae (by omega) (by omega);simp only [aS,ZI,ZG,kZ,hw0];refine ax _ (je q.length (fun i a=>[ints q,ints a,I ((q.length:Int) - 1 - i)]) (fun i=>-nI q (q.length - 1 - i)) (fun a=>.ext 0 [ints a]) (fun i a hi ha=>?_) (fun a ha=>?_) (fun _=>rfl) (by simp)) ?_
 ·have hj:(q.length:Int) - 1 - (i:Int)=((q.length - 1 - i:Nat):Int):=by omega
  have hjl:q.length - 1 - i<q.length:=by omega
  have hg:=YG hjl;have hv:=hx _ (ZN hjl);have hwn:ZE.wrap (((q.length - 1 - i:Nat):Int) - 1)=(q.length:Int) - 1 - ((i+1:Nat):Int):=by rw [ae (by omega) (by omega)];omega
  have hm:=TP (-nI q (q.length - 1 - i));have hc:=Qb [-nI q (q.length - 1 - i)];have ha:=Ci I 1 8 a [-nI q (q.length - 1 - i)] (by simp;omega) (by omega);rw [hj];generalize q.length - 1 - i=j at *;have hwg:ZE.wrap (-q[j]) = -q[j]:=ae (by omega) (by omega);rw [hg] at hm hc ha ⊢;simp -implicitDefEqProofs [hjl,hm,hc,ha,hwn,hwg,-bv]
 ·have hj:(q.length:Int) - 1 - (q.length:Int) = -1:=by omega
  rw [hj];simp -implicitDefEqProofs
 ·show outK (.ext 0 [ints (og q)]) _ _=_
  simp -implicitDefEqProofs
theorem LK (p q:List Int) (o:Bool) (h:p.length+q.length≤1000):jj [ints p,ints q,B o]=some (.ret [ints (Hq p q o)] []):=by
 rw [LG];have e1:=nQ p (by omega);have e2:=nQ q (by omega);have c1:=Qb p;have c2:=Qb q;have a1:=Ci I 1 8 p q (by omega) (by omega);have a2:=Ci I 1 8 q p (by omega) (by omega);cases o<;>simp -implicitDefEqProofs [e1,e2,c1,c2,a1,a2,Hq,-bv]
def TJ (P:List (List Int)) (c:Nat) (o:Bool) (y:Nat):List (List Int):=(ZJ (c / 2)).map fun k=>Hq (bj P (y*c+k)) (og (bj P (y*c+c - 1 - k))) o
def Tn (P:List (List Int)) (c r:Nat) (o:Bool) (y:Nat):List (List Int):=(ZJ c).map fun k=>Hq (bj P (y*c+k)) (og (bj P ((r - 1 - y)*c+k))) o
def VD (g:Nat→List (List Int)) (n:Nat):List (List Int):=(ZJ n).foldl (fun a y=>a++g y) []
def Me (s:Nat × Nat × List (List Int)) (f:Lf):Nat × Nat × List (List Int) :=
 if f.1=1 then(s.1 / 2,s.2.1,VD (TJ s.2.2 s.1 f.2) s.2.1) else(s.1,s.2.1 / 2,VD (Tn s.2.2 s.1 s.2.1 f.2) (s.2.1 / 2))
structure SOk (s:Nat × Nat × List (List Int)):Prop where
 c2:s.1≤16
 r2:s.2.1≤16
 ln:s.2.2.length=s.2.1*s.1
 ps:∀p∈s.2.2,p.length≤16∧∀x∈p,-1000≤x∧x≤1000
theorem Lc {y k r c:Nat} (hy:y<r) (hk:k<c):y*c+k<r*c:=by
 have h1:y*c+k<(y+1)*c:=by rw [aag];omega
 exact Nat.lt_of_lt_of_le h1 (ZV c hy)
theorem Ux {P:List (List Int)} {j:Nat} (h:j<P.length):dE 1 (il P) (I (j:Int))=some (.ref j 0):=by rw [dm,if_pos (by simpa using h)]
theorem atP {P:List (List Int)} {j:Nat} (h:j<P.length):atD (il P) (.ref j 0)=some [ints (bj P j)]:=by
 rw [pE h];simp [h]
theorem XH (p:List Int):ay 1 [ints p]=some (il [p]):=by simp [ay,eA]
theorem PI (a:List (List Int)) (p:List Int) (h:a.length≤1000):bY 1 24 (il a) (il [p])=some (il (a++[p])):=Ci (fun p=>ints p) 1 24 a [p] (by simp;omega) (by omega)
theorem jq {n:Nat} (h:n≤100000) {z:Int} (e:z=(n:Int)):ZE.wrap z=(n:Int):=by
 subst e;exact ae (by omega) (by omega)
def pW:Nat × Nat × List (List Int)→List Lf→Prop
 | s,[]=>SOk s∧1≤s.2.2.length
 | s,f::l=>SOk s∧pW (Me s f) l
def S0 (c r:Nat):Nat × Nat × List (List Int):=(c,r,(ZJ (c*r)).map fun i=>[((i+1:Nat):Int)])
def piS (l:List Lf):List Int:=bj (l.foldl Me (S0 (szL l).1 (szL l).2)).2.2 0
set_option maxRecDepth 100000
theorem St {s:Nat × Nat × List (List Int)} (h:SOk s) {j:Nat} (hj:j<s.2.2.length):(bj s.2.2 j).length≤16∧smI (bj s.2.2 j):=by
 rw [pE hj];obtain⟨h1,h2⟩:=h.ps _ (ZN hj);exact⟨h1,by omega,h2⟩
theorem KD {P:List (List Int)} {c r:Nat} (h:SOk (c,r,P)) {i j:Nat} (hi:i<P.length) (hj:j<P.length) (o:Bool) :
  gV [ints (bj P j)]=some (.ret [ints (og (bj P j))] [])∧jj [ints (bj P i),ints (og (bj P j)),B o]=some (.ret [ints (Hq (bj P i) (og (bj P j)) o)] []):=by
 obtain⟨a1,a2⟩:=St h (j:=i) hi;obtain⟨b1,b2⟩:=St h (j:=j) hj;exact⟨JW _ b2,LK _ _ o (by rw [Rl];simp only at a1 b1;omega)⟩
set_option maxHeartbeats 4000000 in
theorem Jv (l:List Lf) (h:l.length≤4) (hok:pW (S0 (szL l).1 (szL l).2) l):mh [lfs l]=some (.ret [ints (piS l)] []):=by
 rw [JL];have es:=JD l h;obtain⟨hc,hr⟩:=TG l h;unfold piS;generalize (szL l).1=c at *;generalize (szL l).2=r at *;have hcr:c*r≤16*16:=ZQ hc hr;have hwm:ZE.wrap ((c:Int)*(r:Int))=((c*r:Nat):Int):=jq (by omega) (by rw [ZO]);simp -implicitDefEqProofs [es,-bv,-VF];refine ax _ (je (c*r) (fun i a=>[lfs l,I (c:Int),I (r:Int),il a,I (i:Int)]) (fun i=>[((i+1:Nat):Int)]) (fun a=>.ext 0 [lfs l,I (c:Int),I (r:Int),il a]) (fun i a hi ha=>?_) (fun a ha=>?_) (fun _=>rfl) (by simp)) ?_
 ·have hi':(i:Int)<((c*r:Nat):Int):=by omega
  have hw:ZE.wrap ((i:Int)+1)=((i+1:Nat):Int):=jq (by omega) (by omega);have hm:=TP ((i+1:Nat):Int);have hm2:=XH [((i+1:Nat):Int)];have hap:=PI a [((i+1:Nat):Int)] (by omega);simp -implicitDefEqProofs only [aE,aX,ZG,mf,hwm,bp,hi',decide_true,bt,if_true,bZ,hw,hm,hm2,hap]
 ·have hn:¬((c*r:Nat):Int)<((c*r:Nat):Int):=by omega
  simp -implicitDefEqProofs only [aE,aX,ZG,mf,hwm,bp,hn,decide_false,bt,ZH,if_false]
 ·show outK (.ext 0 [lfs l,I (c:Int),I (r:Int),il (S0 c r).2.2]) _ _=_
  simp -implicitDefEqProofs only [cZ,jn,ZM,if_true,aE,aX,aS,ZI,ZG];have hdrop:∀(i:Nat) (hi:i<l.length),l.drop i=l[i]::l.drop (i+1):=fun i hi=>aaa hi
  refine ax _ (co l (fun i (s:Nat × Nat × List (List Int))=>[I (s.1:Int),I (s.2.1:Int),il s.2.2,lfs l,I l.length,I i]) (fun i s=>pW s (l.drop i)) (fun _=>Me) (fun s=>.ext 2 [il s.2.2]) (S0 c r) (fun i s hi hs=>?_) (fun s hs=>?_) (fun _=>rfl) (by simpa using hok) rfl) ?_
  ·rw [hdrop i hi] at hs
   refine⟨?_,hs.2⟩
   have hsok:=hs.1;clear hs hok hdrop;obtain⟨c,r,P⟩:=s;obtain⟨hc,hr,hP,-⟩:=id hsok;replace hc:c≤16:=hc;replace hr:r≤16:=hr;replace hP:P.length=r*c:=hP;have hw:ZE.wrap ((i:Int)+1)=((i+1:Nat):Int):=jq (by omega) (by omega);obtain⟨x,hx⟩:∃x,l[i]=x:=⟨_,rfl⟩
   have hi':(i:Int)<(l.length:Int):=by omega
   have el:aI 2 (lfs l) (I (i:Int))=some [I x.1,B x.2]:=by
    rw [←hx];simp [hi]
   have hst:stD 2 (D.agg [I 0,B false]) (D.ref 0 0) (lf x)=some (lf x):=by simp
   have hq:=SH (n:=c) (by omega);have hqr:=SH (n:=r) (by omega);have m0:D.arr 1 []=il []:=rfl;have hchk:bq (lf x)=some (lf x):=by simp [oY]
   have hrc:r*c≤16*16:=ZQ hr hc;have h2le:[I x.1,B x.2].length=2:=rfl;rw [hx];obtain⟨al,o⟩:=x;simp only at el;by_cases hal:al=1
   ·subst hal
    have tk:au true 2 [I 1,B o]=some (lf (1,o)):=by simp
    simp -implicitDefEqProofs only [aE,aX,bp,hi',decide_true,bt,if_true,ZG,el,ZU,fS,tk,hchk,hst,bV,cI,mB,ZX,eJ,mw,m0];refine ax _ (co (ZJ r) (fun y (a:List (List Int))=>[I (c:Int),I (r:Int),il P,lf (1,o),il a,I (y:Int),lfs l,I l.length,I i]) (fun y a=>a.length≤y*16) (fun _ a y=>a++TJ P c o y) (fun a=>.ext 4 [I (c:Int),I (r:Int),il P,il a,lfs l,I l.length,I i]) [] (fun y a hy ha=>?_) (fun a ha=>?_) (fun _=>rfl) (by simp) rfl) ?_
    ·have hyr:y<r:=by simpa using hy
     have e:(ZJ r)[y]=y:=by simp
     rw [e];refine⟨?_,by rw [aah,aag];simp [TJ];omega⟩
     have hy':(y:Int)<(r:Int):=by omega
     have hwy:ZE.wrap ((y:Int)+1)=((y+1:Nat):Int):=jq (by omega) (by omega);have hya:y*16≤16*16:=ZV 16 (by omega);have hyc:y*c≤16*16:=ZQ (by omega) hc;have hwm:ZE.wrap ((y:Int)*(c:Int))=((y*c:Nat):Int):=jq (by omega) (by rw [ZO]);simp -implicitDefEqProofs only [aE,aX,bp,hy',decide_true,bt,if_true,ZG];refine ax _ (KC (c / 2) a (fun k b=>[I (c:Int),I (r:Int),il P,lf (1,o),il b,I (y:Int),I (k:Int),lfs l,I l.length,I i]) (fun k=>Hq (bj P (y*c+k)) (og (bj P (y*c+c - 1 - k))) o) (fun b=>.ext 6 [I (c:Int),I (r:Int),il P,lf (1,o),il b,I (y:Int),lfs l,I l.length,I i]) (fun k b hk hb=>?_) (fun b=>?_) (fun _=>rfl) rfl) ?_
     ·have hk':(k:Int)<((c / 2:Nat):Int):=by omega
      have hk2:k<c:=by omega
      have hj1:y*c+k<P.length:=by rw [hP];exact Lc hyr hk2
      have hj2:y*c+c - 1 - k<P.length:=by
       have:=Lc (k:=c - 1 - k) hyr (by omega:c - 1 - k<c);rw [hP];omega
      have w1:ZE.wrap (((y*c:Nat):Int)+(k:Int))=((y*c+k:Nat):Int):=jq (by omega) (by omega);have w2:ZE.wrap (((y*c:Nat):Int)+(c:Int))=((y*c+c:Nat):Int):=jq (by omega) (by omega);have w3:ZE.wrap (((y*c+c:Nat):Int) - 1)=((y*c+c - 1:Nat):Int):=jq (by omega) (by omega);have w4:ZE.wrap (((y*c+c - 1:Nat):Int) - (k:Int))=((y*c+c - 1 - k:Nat):Int):=jq (by omega) (by omega);have r1:=Ux hj1;have r2:=Ux hj2;have t1:=atP hj1;have t2:=atP hj2;obtain⟨f1,f2⟩:=KD hsok hj1 hj2 o;have hm:=XH (Hq (bj P (y*c+k)) (og (bj P (y*c+c - 1 - k))) o);have hap:=PI b (Hq (bj P (y*c+k)) (og (bj P (y*c+c - 1 - k))) o) (by omega);have hwk:ZE.wrap ((k:Int)+1)=((k+1:Nat):Int):=jq (by omega) (by omega);simp -implicitDefEqProofs only [aE,aX,hq,ZG,bp,hk',decide_true,bt,if_true,kg,cI,bV,mf,hwm,bZ,w1,r1,t1,eJ,w2,kZ,w3,w4,r2,t2,f1,bd,mB,aaf,ZX,f2,hm,hap,hwk]
     ·have hn:¬((c / 2:Nat):Int)<((c / 2:Nat):Int):=by omega
      simp -implicitDefEqProofs only [aE,aX,hq,ZG,bp,hn,decide_false,bt,ZH,if_false]
     ·show outK (.ext 6 [I (c:Int),I (r:Int),il P,lf (1,o),il (a++TJ P c o y),I (y:Int),lfs l,I l.length,I i]) _ _=_
      simp -implicitDefEqProofs only [cZ,jn,ZM,if_true,aE,aX,bZ,hwy,ZG]
    ·rw [ZZ]
     have hn:¬(r:Int)<(r:Int):=by omega
     simp -implicitDefEqProofs only [aE,aX,ZG,bp,hn,decide_false,bt,ZH,if_false]
    ·rw [eC]
     show outK (.ext 4 [I (c:Int),I (r:Int),il P,il (VD (TJ P c o) r),lfs l,I l.length,I i]) _ _=_
     simp -implicitDefEqProofs only [cZ,jn,ZM,if_true,aE,aX,hq,bZ,hw,ZG,Me]
   ·have hdec:decide (al=1)=false:=by simp [hal]
    have tk:au true 2 [I al,B o]=some (lf (al,o)):=by simp
    simp -implicitDefEqProofs only [aE,aX,bp,hi',decide_true,bt,if_true,ZG,el,ZU,fS,tk,hchk,hst,bV,cI,mB,ZX,eJ,mw,hdec,ZH,if_false,m0];refine ax _ (co (ZJ (r / 2)) (fun y (a:List (List Int))=>[I (c:Int),I (r:Int),il P,lf (al,o),il a,I (y:Int),lfs l,I l.length,I i]) (fun y a=>a.length≤y*16) (fun _ a y=>a++Tn P c r o y) (fun a=>.ext 8 [I (c:Int),I (r:Int),il P,il a,lfs l,I l.length,I i]) [] (fun y a hy ha=>?_) (fun a ha=>?_) (fun _=>rfl) (by simp) rfl) ?_
    ·have hyr2:y<r / 2:=by simpa using hy
     have hyr:y<r:=by omega
     have e:(ZJ (r / 2))[y]=y:=by simp
     rw [e];refine⟨?_,by rw [aah,aag];simp [Tn];omega⟩
     have hy':(y:Int)<((r / 2:Nat):Int):=by omega
     have hwy:ZE.wrap ((y:Int)+1)=((y+1:Nat):Int):=jq (by omega) (by omega);have hya:y*16≤16*16:=ZV 16 (by omega);have hyc:y*c≤16*16:=ZQ (by omega) hc;have hzc:(r - 1 - y)*c≤16*16:=ZQ (by omega) hc;have hwm:ZE.wrap ((y:Int)*(c:Int))=((y*c:Nat):Int):=jq (by omega) (by rw [ZO]);simp -implicitDefEqProofs only [aE,aX,hqr,bp,hy',decide_true,bt,if_true,ZG];refine ax _ (KC c a (fun k b=>[I (c:Int),I (r:Int),il P,lf (al,o),il b,I (y:Int),I (k:Int),lfs l,I l.length,I i]) (fun k=>Hq (bj P (y*c+k)) (og (bj P ((r - 1 - y)*c+k))) o) (fun b=>.ext 10 [I (c:Int),I (r:Int),il P,lf (al,o),il b,I (y:Int),lfs l,I l.length,I i]) (fun k b hk hb=>?_) (fun b=>?_) (fun _=>rfl) rfl) ?_
     ·have hk':(k:Int)<(c:Int):=by omega
      have hj1:y*c+k<P.length:=by rw [hP];exact Lc hyr hk
      have hj2:(r - 1 - y)*c+k<P.length:=by rw [hP];exact Lc (by omega) hk
      have w1:ZE.wrap (((y*c:Nat):Int)+(k:Int))=((y*c+k:Nat):Int):=jq (by omega) (by omega);have w2:ZE.wrap ((r:Int) - 1)=((r - 1:Nat):Int):=jq (by omega) (by omega);have w3:ZE.wrap (((r - 1:Nat):Int) - (y:Int))=((r - 1 - y:Nat):Int):=jq (by omega) (by omega);have w5:ZE.wrap (((r - 1 - y:Nat):Int)*(c:Int))=(((r - 1 - y)*c:Nat):Int):=jq (by omega) (by rw [ZO]);have w4:ZE.wrap ((((r - 1 - y)*c:Nat):Int)+(k:Int))=(((r - 1 - y)*c+k:Nat):Int):=jq (by omega) (by omega);have r1:=Ux hj1;have r2:=Ux hj2;have t1:=atP hj1;have t2:=atP hj2;obtain⟨f1,f2⟩:=KD hsok hj1 hj2 o;have hm:=XH (Hq (bj P (y*c+k)) (og (bj P ((r - 1 - y)*c+k))) o);have hap:=PI b (Hq (bj P (y*c+k)) (og (bj P ((r - 1 - y)*c+k))) o) (by omega);have hwk:ZE.wrap ((k:Int)+1)=((k+1:Nat):Int):=jq (by omega) (by omega);simp -implicitDefEqProofs only [aE,aX,ZG,bp,hk',decide_true,bt,if_true,kg,cI,bV,mf,hwm,bZ,w1,r1,t1,eJ,w2,kZ,w3,w5,w4,r2,t2,f1,bd,mB,aaf,ZX,f2,hm,hap,hwk]
     ·have hn:¬(c:Int)<(c:Int):=by omega
      simp -implicitDefEqProofs only [aE,aX,ZG,bp,hn,decide_false,bt,ZH,if_false]
     ·show outK (.ext 10 [I (c:Int),I (r:Int),il P,lf (al,o),il (a++Tn P c r o y),I (y:Int),lfs l,I l.length,I i]) _ _=_
      simp -implicitDefEqProofs only [cZ,jn,ZM,if_true,aE,aX,bZ,hwy,ZG]
    ·rw [ZZ]
     have hn:¬((r / 2:Nat):Int)<((r / 2:Nat):Int):=by omega
     simp -implicitDefEqProofs only [aE,aX,hqr,ZG,bp,hn,decide_false,bt,ZH,if_false]
    ·rw [eC]
     show outK (.ext 8 [I (c:Int),I (r:Int),il P,il (VD (Tn P c r o) (r / 2)),lfs l,I l.length,I i]) _ _=_
     simp -implicitDefEqProofs only [cZ,jn,ZM,if_true,aE,aX,hqr,bZ,hw,ZG,Me,hal,if_false]
  ·simp -implicitDefEqProofs
  ·rw [eC]
   have hfin:pW (l.foldl Me (S0 c r)) []:=by
    have key:∀(l:List Lf) (s:Nat × Nat × List (List Int)),pW s l→pW (l.foldl Me s) []:=by
     intro l;induction l with
     | nil=>intro G h;exact h
     | cons f l ih=>intro G h;exact ih _ h.2
    exact key l _ hok
   generalize l.foldl Me (S0 c r)=s at *;obtain⟨hG,hc1⟩:=hfin;have h0:0<s.2.2.length:=by omega
   have r1:dE 1 (il s.2.2) (I 0)=some (.ref 0 0):=Ux h0;have t1:=atP h0;simp -implicitDefEqProofs only [cZ,jn,ZM,if_true,aE,aX,kg,cI,ZG,r1,t1,eJ]
set_option maxRecDepth 100000
def Vc (G:Gd3):Bool:=ZR 1 G.length&&ZR G.length 16&&ZR (bj G 0).length 16&&G.all fun r=>Nat.beq r.length (bj G 0).length&&r.all fun p=>ZR p.length 16
def okB:Gd3→List Lf→Bool
 | G,[]=>Vc G&&ZR 1 (bj G 0).length
 | G,f::l=>Vc G&&okB (Lx G f) l
theorem Qg {G:Gd3} (h:Vc G=true):GOk G:=by
 simp only [Vc,ZK,aab,ZS,Nat.beq_eq] at h;obtain⟨⟨⟨h1,h2⟩,h3⟩,h4⟩:=h;refine⟨h1,h2,h3,fun y hy=>?_,fun y hy x hx=>?_⟩
 ·rw [pE hy]
  exact(h4 _ (ZN hy)).1
 ·have hg:=h4 _ (ZN hy)
  rw [pE hy];rw [pE (by rw [hg.1];exact hx)];exact hg.2 _ (ZN _)
theorem US:∀{l:List Lf} {G:Gd3},okB G l=true→sB G l
 | [],G,h=>by
  simp only [okB,ZK,aab] at h;exact⟨Qg h.1,h.2⟩
 | f::l,G,h=>by
  simp only [okB,ZK] at h;exact⟨Qg h.1,US h.2⟩
def Vo (s:Nat × Nat × List (List Int)):Bool:=ZR s.1 16&&ZR s.2.1 16&&Nat.beq s.2.2.length (s.2.1*s.1)&&s.2.2.all fun p=>ZR p.length 16&&p.all fun x=>ZR x.natAbs 1000
def SC:Nat × Nat × List (List Int)→List Lf→Bool
 | s,[]=>Vo s&&ZR 1 s.2.2.length
 | s,f::l=>Vo s&&SC (Me s f) l
theorem Qt {s:Nat × Nat × List (List Int)} (h:Vo s=true):SOk s:=by
 simp only [Vo,ZK,aab,ZS,Nat.beq_eq] at h;obtain⟨⟨⟨h1,h2⟩,h3⟩,h4⟩:=h;exact⟨h1,h2,h3,fun p hp=>⟨(h4 p hp).1,fun x hx=>by have:=(h4 p hp).2 x hx;omega⟩⟩
theorem Qa:∀{l:List Lf} {s:Nat × Nat × List (List Int)},SC s l=true→pW s l
 | [],s,h=>by
  simp only [SC,ZK,aab] at h;exact⟨Qt h.1,h.2⟩
 | f::l,s,h=>by
  simp only [SC,ZK] at h;exact⟨Qt h.1,Qa h.2⟩
def yz (x:Int):Int:=if -x<x then x else -x
def Xv (l:List Lf):Bool:=okB (G0 (szL l).1 (szL l).2) l&&SC (S0 (szL l).1 (szL l).2) l&&ZR (piL l).length 16&&((piS l).map (fun x=>yz x - 1)==(piL l).map (·.1))&&(piS l).all fun x=>ZR x.natAbs 1000
def chs:List Lf:=[(1,false),(1,true),(2,false),(2,true)]
def SN:Nat→List (List Lf)
 | 0=>[[]]
 | n+1=>(SN n).flatMap fun l=>chs.map fun x=>x::l
theorem Nm:∀(l:List Lf),(l.all fun x=>decide (1≤x.1∧x.1≤2))=true→l∈SN l.length
 | [],_=>by simp [SN]
 | x::l,h=>by
  simp only [List.all_cons,ZK,decide_eq_true_eq] at h;have ih:=Nm l h.2;simp only [aak,SN,List.mem_flatMap,List.mem_map];refine⟨l,ih,x,?_,rfl⟩
  obtain⟨a,b⟩:=x;have ha:a=1∨a=2:=by have:=h.1;simp only at this;omega
  rcases ha with rfl | rfl<;>cases b<;>simp [chs]
theorem VG:((ZJ 5).all fun n=>(SN n).all Xv)=true:=by kernel_rfl
theorem TE {l:List Lf} (h:jC l=true):Xv l=true:=by
 unfold jC at h;simp only [ZK,decide_eq_true_eq] at h;have h1:=ZS.1 VG l.length (by simp;omega);exact ZS.1 h1 l (Nm l h.1)
set_option maxRecDepth 100000
theorem OB {l:List Lf} (h:jC l=true):l.length≤4:=by
 unfold jC at h;simp only [ZK,decide_eq_true_eq] at h;exact h.2
structure ChkP (l:List Lf):Prop where
 imp:sB (G0 (szL l).1 (szL l).2) l
 spc:pW (S0 (szL l).1 (szL l).2) l
 ln:(piL l).length≤16
 eq:(piS l).map (fun x=>yz x - 1)=(piL l).map (·.1)
 sm:∀x∈piS l,-1000≤x∧x≤1000
theorem Ff {l:List Lf} (h:jC l=true):ChkP l:=by
 have hc:=TE h;unfold Xv at hc;simp only [ZK,aab,ZS,beq_iff_eq] at hc;obtain⟨⟨⟨⟨h1,h2⟩,h3⟩,h4⟩,h5⟩:=hc;exact⟨US h1,Qa h2,h3,h4,fun x hx=>by have:=h5 x hx;omega⟩
def Hs (l:List Lf):List Int:=if jC l=true then(piL l).map (·.1) else []
theorem Aj (l:List Lf) (h:l.length≤1000):gk [lfs l]=some (.ret [ints (Hs l),B (jC l)] []) :=
 CK l h fun hg=>⟨(Ff hg).imp,by have:=(Ff hg).ln;omega⟩
theorem Mu (x:Int) (h : -1000≤x∧x≤1000):nM [I x]=some (.ret [I (yz x)] []):=by
 rw [LR];have hw:ZE.wrap (-x) = -x:=ae (by omega) (by omega);have e:=IH x (-x);unfold yz;simp -implicitDefEqProofs [hw,e]
theorem CI (l:List Lf) (h:l.length≤1000):jd [lfs l]=some (.ret [ints (Hs l),B (jC l)] []):=by
 have ea:=IV l h;rw [CV];unfold Hs;cases hg:jC l
 ·rw [hg] at ea
  simp -implicitDefEqProofs [ea]
 ·rw [hg] at ea
  have hk:=Ff hg;have ef:=Jv l (OB hg) hk.spc;have heq:=hk.eq;have hsm:=hk.sm;have hln:(piS l).length≤16:=by
   have:=congrArg List.length heq;simp only [ZI] at this;have:=hk.ln;omega
  rw [if_pos rfl,←heq];generalize piS l=p at *;simp -implicitDefEqProofs only [ea,bd,aE,lH,ZP,bt,ZH,if_false,ZG,ef,aS,ZI];refine ax _ (co p (fun i (a:List Int)=>[ints a,ints p,I p.length,I i]) (fun i a=>a.length=i) (fun _ a x=>a++[yz x - 1]) (fun a=>.ext 0 [ints a]) [] (fun i a hi ha=>⟨?_,by simp [ha]⟩) (fun a ha=>?_) (fun _=>rfl) rfl rfl) ?_
  ·have hw:ZE.wrap ((i:Int)+1)=(i:Int)+1:=ae (by omega) (by omega)
   have hv:=hsm _ (ZN hi);obtain⟨x,hx⟩:∃x,p[i]=x:=⟨_,rfl⟩
   rw [hx] at hv;have e1:=Mu x hv;have ha1 : -1000≤yz x∧yz x≤1000:=by unfold yz;split<;>omega
   have hw2:ZE.wrap (yz x - 1)=yz x - 1:=ae (by omega) (by omega);have hm:=TP (yz x - 1);have hc:=Qb [yz x - 1];have hap:=Ci I 1 8 a [yz x - 1] (by simp;omega) (by omega);simp -implicitDefEqProofs [hi,hw,hx,e1,hw2,hm,hc,hap,-bv]
  ·simp -implicitDefEqProofs
  ·have e:∀(l:List Int) (k:Nat) (a:List Int),iD (fun _ a (x:Int)=>a++[yz x - 1]) k l a=a++l.map (fun x=>yz x - 1):=by
    intro l;induction l with
    | nil=>intro k a;simp [iD]
    | cons x l ih=>intro k a;simp only [iD];rw [ih];simp
   rw [e];simp -implicitDefEqProofs
theorem yT (l:List Lf) (hg:jC l=true) (k j:Nat) (hk:k<(piL l).length) (hj:j=2*k+1∨j=2*k+2):∃b,dX [lfs l,I (j:Int)]=some (.ret [I (nLf (piL l) k).1,B b,B true] []):=by
 have h4:=OB hg;have hc:=Ff hg;have ea:=tg l (by omega);rw [hg] at ea;have ef:=xF l h4 hc.imp;have hln:=hc.ln;rw [PB hk];generalize piL l=p at *;have hwc:ZE.wrap (2*(p.length:Int))=2*(p.length:Int):=ae (by omega) (by omega);have ec:ji [lfs l]=some (.ret [I (2*(p.length:Int))] []):=by
  rw [BU];simp -implicitDefEqProofs [ef,hwc]
 have ew:=cg (j:Int) 1 (2*(p.length:Int));have hd:decide ((1:Int)≤(j:Int)∧(j:Int)≤2*(p.length:Int))=true:=by
  simp only [decide_eq_true_eq];omega
 rw [hd] at ew;have ei:jS [lfs l,I (j:Int)]=some (.ret [B true] []):=by
  rw [Ei];simp -implicitDefEqProofs [ea,ec,ew]
 have w1:ZE.wrap ((j:Int) - 1)=((j - 1:Nat):Int):=by rw [ae (by omega) (by omega)];omega
 have hq:=SH (n:=j - 1) (by omega);have hjk:(j - 1) / 2=k:=by omega
 rw [hjk] at hq;obtain⟨x,hx⟩:∃x,p[k]=x:=⟨_,rfl⟩
 have el:aI 2 (lfs p) (I (k:Int))=some [I x.1,B x.2]:=by
  rw [←hx];simp [hk]
 rw [yG];refine⟨x.2==decide ((j:Int).tmod 2=1),?_⟩
 rw [hx];simp -implicitDefEqProofs [ei,ef,w1,hq,el,oY,-EO,-gu]
set_option maxRecDepth 100000
theorem PE (a b c d:Int):ay 1 [I a,I b,I c,I d]=some (iP [a,b,c,d]):=vb (l:=[a,b,c,d])
theorem YB (a b c:Int):ay 1 [I a,I b,I c]=some (iP [a,b,c]):=vb (l:=[a,b,c])
theorem Ue (c:Cur) (B:Nat) (h:c.ok B) (hB:B≤10000000000):∃v c',eG [aR c]=some (.ret [I v] [aR c'])∧0≤v∧v≤9∧c'.ok (B+4):=by
 obtain⟨v1,c1,e1,m1,k1⟩:=gE c [1,0,9,3] B h (by omega) (by simp) (by simp);obtain⟨v2,c2,e2,m2,k2⟩:=gE c1 [2,3,4,5,6,3,4,8,v1] (B+2) k1 (by omega) (by simp) (by simp);have h1:=PE 1 0 9 3;have h2:ay 1 [I 2,I 3,I 4,I 5,I 6,I 3,I 4,I 8,I v1]=some (iP [2,3,4,5,6,3,4,8,v1]):=vb (l:=[2,3,4,5,6,3,4,8,v1]);refine⟨v2,c2,?_,?_,?_,k2⟩
 ·rw [zT]
  simp -implicitDefEqProofs only [bV,cI,ZG,h1,jU,e1,bd,aE,h2,e2]
 ·simp at m1 m2
  omega
 ·simp at m1 m2
  omega
theorem Dp (a b:Int):cO [(0,1),(1,1)] [D.v (ZF ZE 0),D.v (ZF ZE 0)] [I a,I b]=some (pce (a,b)):=by simp [cO,iG]
theorem WD (p:Int × Int):ay 2 [pce p]=some (pcs [p]):=by simp [ay,eA]
theorem TB (p q:Int × Int):ay 2 [pce p,pce q]=some (pcs [p,q]):=by simp [ay,eA]
theorem QI (l:Ps):dq (pcs l)=some (pcs l):=fj fun p=>rfl
theorem Qo {l m:Ps} (h:l.length+m.length≤1048577):bY 2 16 (pcs l) (pcs m)=some (pcs (l++m)):=by
 rw [bv,if_pos (by simp only [ZI];omega)];simp
theorem Us {l:Ps} {j:Nat} (h:j<l.length):dE 2 (pcs l) (I (j:Int))=some (.ref j 0):=by rw [dm,if_pos (by rw [ZI];exact h)]
theorem YP {l:Ps} {j:Nat} (h:j<l.length):atD (pcs l) (.ref j 0)=some [I l[j].1,I l[j].2]:=by simp [h]
theorem YK {l:Ps} {j:Nat} (h:j<l.length):atD (pcs l) (.ref j 1)=some [I l[j].2]:=by simp [h]
theorem YJ {l:Ps} {j:Nat} (h:j<l.length) (a:Int):stD 1 (pcs l) (.ref j 0) (I a)=some (pcs (l.set j (a,l[j].2))):=by
 rw [ru (c:=[I l[j].1,I l[j].2]) (by simp [h]) (by simp)];show some (D.arr 2 ((l.map pce).set j (pce (a,l[j].2))))=some (D.arr 2 ((l.set j (a,l[j].2)).map pce))
 rw [ZW]
theorem Zn {l:Ps} {j:Nat} (h:j<l.length) (a:Int):stD 1 (pcs l) (.ref j 1) (I a)=some (pcs (l.set j (l[j].1,a))):=by
 rw [ru (c:=[I l[j].1,I l[j].2]) (by simp [h]) (by simp)];show some (D.arr 2 ((l.map pce).set j (pce (l[j].1,a))))=some (D.arr 2 ((l.set j (l[j].1,a)).map pce))
 rw [ZW]
theorem Zr {l:Ps} {j:Nat} (h:j<l.length) (x:Int × Int):stD 2 (pcs l) (.ref j 0) (pce x)=some (pcs (l.set j x)):=by
 have e:=VU (n:=2) (z:=2) (L:=l.map pce) (i:=j) (c:=[I l[j].1,I l[j].2]) (v:=[I x.1,I x.2]) (by simp [h]) rfl rfl rfl;refine e.trans ?_
 show some (D.arr 2 ((l.map pce).set j (pce x)))=some (D.arr 2 ((l.set j x).map pce))
 rw [ZW]
def lN (l:Ps):Prop:=∀p∈l,(1≤p.1∧p.1≤8)∧1≤p.2∧p.2≤8
theorem BZ {l:Ps} (h:lN l) {x:Int × Int} (hx:(1≤x.1∧x.1≤8)∧1≤x.2∧x.2≤8) (j:Nat):lN (l.set j x):=fun p hp=>by
 rcases List.mem_or_eq_of_mem_set hp with hp | rfl
 ·exact h p hp
 ·exact hx
theorem Hi {l:Ps} (h:lN l) {x:Int × Int} (hx:(1≤x.1∧x.1≤8)∧1≤x.2∧x.2≤8):lN (l++[x]):=fun p hp=>by
 rcases List.mem_append.1 hp with hp | hp
 ·exact h p hp
 ·rw [aai.1 hp]
  exact hx
set_option maxHeartbeats 2000000 in
theorem Vv (c:Cur) (w h:Int) (B:Nat) (hc:c.ok B) (hB:B≤10000000000) (hw:1≤w∧w≤8) (hh:1≤h∧h≤8):∃l c',gD [aR c,I w,I h]=some (.ret [pcs l] [aR c'])∧lN l∧1≤l.length∧l.length≤8∧c'.ok (B+100):=by
 obtain⟨v0,c0,e0,l0,u0,k0⟩:=dg c 6 B hc (by omega) (by omega);obtain⟨n0,rfl⟩:=ZL l0;have hb:=Dp w h;have hm:=WD (w,h);rw [yH];simp -implicitDefEqProofs only [hb,hm,ZG,bV,jU,e0,bd,aE];refine bu (fun r=>∃l c',r=some (.ret [pcs l] [aR c'])∧lN l∧1≤l.length∧l.length≤8∧c'.ok (B+100)) (fun s:Cur × Ps × Nat=>[aR s.1,pcs s.2.1,I (s.2.2:Int)])
  (fun s=>s.2.2≤6∧s.1.ok (B+2+6*(6 - s.2.2))∧lN s.2.1∧1≤s.2.1.length∧s.2.1.length≤8) (fun s=>s.2.2) (fun o=>∃l c',o = .ext 0 [aR c',pcs l]∧lN l∧1≤l.length∧l.length≤8∧c'.ok (B+40)) (fun s hs=>?_) (c0,[(w,h)],n0)
  ⟨by show n0≤6;omega,k0.mono (by omega),(fun p hp=>by rw [aai.1 hp];exact⟨hw,hh⟩),by simp,by simp⟩ rfl (fun o ho=>?_)
 ·obtain⟨c,l,n⟩:=s
  obtain⟨h1,h2,h3,h4,h5⟩:=hs;replace h1:n≤6:=h1;replace h2:c.ok (B+2+6*(6 - n)):=h2;replace h3:lN l:=h3;replace h4:1≤l.length:=h4;replace h5:l.length≤8:=h5;have hwn:ZE.wrap ((n:Int) - 1)=(n:Int) - 1:=ae (by omega) (by omega);by_cases hgo:0<n∧l.length<8
  ·obtain⟨g1,g2⟩:=hgo
   have g1':(0:Int)<(n:Int):=by omega
   have g2':(l.length:Int)<8:=by omega
   obtain⟨v1,c1,e1,l1,u1,k1⟩:=dg c (l.length:Int) _ h2 (by omega) (by omega);obtain⟨j,rfl⟩:=ZL l1;have hj:j<l.length:=by omega
   obtain⟨b2,c2,e2,k2⟩:=ly c1 2 _ k1 (by omega) (by omega);have hsj:=h3 l[j] (ZN hj);have r1:=Us hj;have r2:=YP hj;have r3:=YJ hj;have r4:=Zn hj;have hn1:∃m:Nat,n=m+1:=⟨n - 1,by omega⟩
   obtain⟨m,rfl⟩:=hn1;have hnm:((m+1:Nat):Int) - 1=(m:Int):=by omega
   rw [hnm] at hwn;generalize hp:l[j]=p at *;obtain⟨pw,ph⟩:=p;simp only at hsj r2 r3 r4;have cutW:∀c2:Cur,c2.ok (B+2+6*(6 - (m+1))+2+2)→1<pw→∃v3 c3,ah [aR c2,I (ZE.wrap (pw - 1))]=some (.ret [I v3] [aR c3])∧ZE.wrap (1+v3)=1+v3∧ZE.wrap (pw - (1+v3))=pw - (1+v3)∧(1≤1+v3∧1+v3≤8)∧(1≤pw - (1+v3)∧pw - (1+v3)≤8)∧c3.ok (B+2+6*(6 - m)):=fun c2 hk hpw=>by
    have hwp:ZE.wrap (pw - 1)=pw - 1:=ae (by omega) (by omega);obtain⟨v3,c3,e3,l3,u3,k3⟩:=dg c2 (pw - 1) _ hk (by omega) (by omega);exact⟨v3,c3,by rw [hwp];exact e3,ae (by omega) (by omega),ae (by omega) (by omega),by omega,by omega,k3.mono (by omega)⟩
   have cutH:∀c2:Cur,c2.ok (B+2+6*(6 - (m+1))+2+2)→1<ph→∃v3 c3,ah [aR c2,I (ZE.wrap (ph - 1))]=some (.ret [I v3] [aR c3])∧ZE.wrap (1+v3)=1+v3∧ZE.wrap (ph - (1+v3))=ph - (1+v3)∧(1≤1+v3∧1+v3≤8)∧(1≤ph - (1+v3)∧ph - (1+v3)≤8)∧c3.ok (B+2+6*(6 - m)):=fun c2 hk hpw=>by
    have hwp:ZE.wrap (ph - 1)=ph - 1:=ae (by omega) (by omega);obtain⟨v3,c3,e3,l3,u3,k3⟩:=dg c2 (ph - 1) _ hk (by omega) (by omega);exact⟨v3,c3,by rw [hwp];exact e3,ae (by omega) (by omega),ae (by omega) (by omega),by omega,by omega,k3.mono (by omega)⟩
   by_cases hA:b2=true∧1<pw
   ·obtain⟨rfl,hpw⟩:=hA
    obtain⟨v3,c3,e3,w1,w2,q1,q2,k3⟩:=cutW c2 k2 hpw;have hm2:=WD (pw - (1+v3),ph);have hck:=QI [(pw - (1+v3),ph)];have hap:=Qo (l:=l.set j (1+v3,ph)) (m:=[(pw - (1+v3),ph)]) (by simp;omega);have hst:=r3 (1+v3);refine .inl ⟨(c3,l.set j (1+v3,ph)++[(pw - (1+v3),ph)],m),?_,⟨by show m≤6;omega,k3,Hi (BZ h3 ⟨q1,hsj.2⟩ j) ⟨q2,hsj.2⟩,by simp,by simp;omega⟩,by show m<m+1;omega⟩
    simp -implicitDefEqProofs [g1',g2',e1,r1,r2,e2,hpw,e3,w1,w2,hst,hm2,hck,hap,hwn,-dm,-kP,-bv]
   ·by_cases hB2:1<ph
    ·obtain⟨v3,c3,e3,w1,w2,q1,q2,k3⟩:=cutH c2 k2 hB2
     have hm2:=WD (pw,ph - (1+v3));have hck:=QI [(pw,ph - (1+v3))];have hap:=Qo (l:=l.set j (pw,1+v3)) (m:=[(pw,ph - (1+v3))]) (by simp;omega);have hst:=r4 (1+v3);refine .inl ⟨(c3,l.set j (pw,1+v3)++[(pw,ph - (1+v3))],m),?_,⟨by show m≤6;omega,k3,Hi (BZ h3 ⟨hsj.1,q1⟩ j) ⟨hsj.1,q2⟩,by simp,by simp;omega⟩,by show m<m+1;omega⟩
     cases b2
     ·simp -implicitDefEqProofs [g1',g2',e1,r1,r2,e2,hB2,e3,w1,w2,hst,hm2,hck,hap,hwn,-dm,-kP,-bv]
     ·have hpw:¬1<pw:=fun h=>hA ⟨rfl,h⟩
      simp -implicitDefEqProofs [g1',g2',e1,r1,r2,e2,hpw,hB2,e3,w1,w2,hst,hm2,hck,hap,hwn,-dm,-kP,-bv]
    ·refine .inl ⟨(c2,l,m),?_,⟨by show m≤6;omega,(show c2.ok (B+2+6*(6 - m)) from k2.mono (by omega)),h3,h4,h5⟩,by show m<m+1;omega⟩
     cases b2
     ·simp -implicitDefEqProofs [g1',g2',e1,r1,r2,e2,hB2,hwn,-dm,-kP,-bv]
     ·have hpw:¬1<pw:=fun h=>hA ⟨rfl,h⟩
      simp -implicitDefEqProofs [g1',g2',e1,r1,r2,e2,hpw,hB2,hwn,-dm,-kP,-bv]
  ·refine .inr ⟨.ext 0 [aR c,pcs l],?_,rfl,l,c,rfl,h3,h4,h5,h2.mono (by omega)⟩
   by_cases g1:0<n
   ·have g1':(0:Int)<(n:Int):=by omega
    have g2':¬(l.length:Int)<8:=by omega
    simp -implicitDefEqProofs [g1',g2',g1]
   ·have g1':¬(0:Int)<(n:Int):=by omega
    simp -implicitDefEqProofs [g1',g1]
 ·obtain⟨l,c',rfl,h1,h2,h3,h4⟩:=ho
  simp -implicitDefEqProofs only [cZ,jn,ZM,if_true,aE,aX,kg,cI,ZG,aS,ZI];refine bu (fun r=>∃l c',r=some (.ret [pcs l] [aR c'])∧lN l∧1≤l.length∧l.length≤8∧c'.ok (B+100)) (fun s:Cur × Ps × Nat=>[aR s.1,pcs s.2.1,I (l.length:Int),I (s.2.2:Int)])
   (fun s=>s.2.2≤l.length∧s.1.ok (B+40+2*s.2.2)∧lN s.2.1∧s.2.1.length=l.length) (fun s=>l.length - s.2.2) (fun o=>∃l' c',o = .ext 3 [aR c',pcs l']∧lN l'∧l'.length=l.length∧c'.ok (B+100)) (fun s hs=>?_) (c',l,0) ⟨Nat.zero_le _,h4,h1,rfl⟩ rfl (fun o ho=>?_)
  ·obtain⟨c,m,i⟩:=s
   obtain⟨g1,g2,g3,g4⟩:=hs;replace g1:i≤l.length:=g1;replace g2:c.ok (B+40+2*i):=g2;replace g3:lN m:=g3;replace g4:m.length=l.length:=g4;have hwi:ZE.wrap ((i:Int)+1)=(i:Int)+1:=ae (by omega) (by omega);by_cases hi:i<l.length
   ·have hi':(i:Int)<(l.length:Int):=by omega
    have him:i<m.length:=by omega
    obtain⟨b,c1,e1,k1⟩:=ly c 3 _ g2 (by omega) (by omega);have r1:=Us him;have r2:=YP him;have r3:=YK him;have r4:=Zr him (m[i].2,m[i].1);have hs:=g3 m[i] (ZN him);have hb:=Dp m[i].2 m[i].1;cases b
    ·refine .inl ⟨(c1,m,i+1),?_,⟨by show i+1≤l.length;omega,(show c1.ok (B+40+2*(i+1)) from k1.mono (by omega)),g3,g4⟩,by show l.length - (i+1)<l.length - i;omega⟩
     simp -implicitDefEqProofs [hi',e1,hwi]
    ·refine .inl ⟨(c1,m.set i (m[i].2,m[i].1),i+1),?_,⟨by show i+1≤l.length;omega,(show c1.ok (B+40+2*(i+1)) from k1.mono (by omega)),BZ g3 ⟨hs.2,hs.1⟩ i,by show(m.set i (m[i].2,m[i].1)).length=l.length;rw [List.length_set];exact g4⟩,by show l.length - (i+1)<l.length - i;omega⟩
     generalize m[i]=p at *;obtain⟨pw,ph⟩:=p;simp -implicitDefEqProofs [hi',e1,r1,r2,r3,hb,r4,hwi,-dm,-kP]
   ·have hi':¬(i:Int)<(l.length:Int):=by omega
    refine .inr ⟨.ext 3 [aR c,pcs m],?_,rfl,m,c,rfl,g3,g4,g2.mono (by omega)⟩
    simp -implicitDefEqProofs [hi']
  ·obtain⟨l',c2,rfl,g1,g2,g3⟩:=ho
   exact⟨l',c2,by simp -implicitDefEqProofs,g1,by omega,by omega,g3⟩
theorem Sy (c:Cur) (w h:Int) (B:Nat) (hc:c.ok B) (hB:B≤1000000000):∃l c',fZ [aR c,I w,I h]=some (.ret [pcs l] [aR c'])∧l.length≤10∧c'.ok (B+200):=by
 have b1:=Dp 1 2;have b2:=Dp 2 2;have b3:=Dp 1 1;have b4:=Dp 5 1;have m1:=TB (1,2) (2,2);have m2:=WD (1,1);have m3:=TB (2,2) (5,1);have s1:=fT w;have s2:=fT h;rw [vX];cases hw:bD w
 ·rw [hw] at s1
  simp -implicitDefEqProofs [s1,b1,b2,m1];exact⟨[(1,2),(2,2)],c,⟨rfl,rfl,rfl,rfl⟩,by simp,hc.mono (by omega)⟩
 cases hh:bD h
 ·rw [hw] at s1
  rw [hh] at s2;simp -implicitDefEqProofs [s1,s2,b1,b2,m1];exact⟨[(1,2),(2,2)],c,⟨rfl,rfl,rfl,rfl⟩,by simp,hc.mono (by omega)⟩
 rw [hw] at s1;rw [hh] at s2;obtain⟨b,c1,e1,k1⟩:=ly c 12 B hc (by omega) (by omega);cases b
 ·have hw':1≤w∧w≤8:=by simpa [bD] using hw
  have hh':1≤h∧h≤8:=by simpa [bD] using hh
  obtain⟨l,c2,e2,q1,q2,q3,k2⟩:=Vv c1 w h _ k1 (by omega) hw' hh';obtain⟨v3,c3,e3,l3,u3,k3⟩:=dg c2 (l.length:Int) _ k2 (by omega) (by omega);obtain⟨j,rfl⟩:=ZL l3;have hj:j<l.length:=by omega
  obtain⟨v4,c4,e4,l4,u4,k4⟩:=dg c3 16 _ k3 (by omega) (by omega);have r1:=Us hj;by_cases a0:v4=0
  ·subst a0
   obtain⟨v5,c5,e5,q5,k5⟩:=gE c4 [0,8,9,1] _ k4 (by omega) (by simp) (by simp);have ha:=PE 0 8 9 1;have r2:=YJ hj v5;refine⟨l.set j (v5,l[j].2),c5,?_,by simp;omega,k5.mono (by omega)⟩
   simp -implicitDefEqProofs [s1,s2,e1,e2,e3,e4,ha,e5,r1,r2,-dm]
  by_cases a1:v4=1
  ·subst a1
   have hck:=QI [(1,1)];have hap:=Qo (l:=l) (m:=[(1,1)]) (by simp;omega);refine⟨l++[(1,1)],c4,?_,by simp;omega,k4.mono (by omega)⟩
   simp -implicitDefEqProofs [s1,s2,e1,e2,e3,e4,b3,m2,hck,hap,-bv]
  by_cases a2:v4=2
  ·subst a2
   obtain⟨v5,c5,e5,l5,u5,k5⟩:=dg c4 2 _ k4 (by omega) (by omega);obtain⟨n5,rfl⟩:=ZL l5;have w5:ZE.wrap (8+(n5:Int))=((8+n5:Nat):Int):=by rw [ae (by omega) (by omega)];omega
   obtain⟨n6,hn6⟩:∃n6,n6=8+n5:=⟨_,rfl⟩
   rw [←hn6] at w5;simp -implicitDefEqProofs [s1,s2,e1,e2,e3,e4,e5,w5];refine bu (fun r=>∃l c',r=some (.ret [pcs l] [aR c'])∧l.length≤10∧c'.ok (B+200)) (fun m:Ps=>[aR c5,pcs m,I (n6:Int)]) (fun m=>m.length≤n6) (fun m=>n6 - m.length) (fun o=>∃m:Ps,o = .ext 1 [aR c5,pcs m]∧m.length≤10) (fun m hm=>?_) l (by omega) rfl (fun o ho=>?_)
   ·have hck:=QI [(1,1)]
    have hap:=Qo (l:=m) (m:=[(1,1)]) (by simp;omega);by_cases hlt:m.length<n6
    ·have hlt':(m.length:Int)<(n6:Int):=by omega
     exact .inl ⟨m++[(1,1)],by simp -implicitDefEqProofs [hlt',hlt,b3,m2,hck,hap,-bv],by simp;omega,by simp;omega⟩
    ·have hlt':¬(m.length:Int)<(n6:Int):=by omega
     exact .inr ⟨.ext 1 [aR c5,pcs m],by simp -implicitDefEqProofs [hlt',hlt],rfl,m,rfl,by omega⟩
   ·obtain⟨m,rfl,hm⟩:=ho
    exact⟨m,c5,by simp -implicitDefEqProofs,hm,k5.mono (by omega)⟩
  by_cases a3:v4=3
  ·subst a3
   refine⟨[(2,2),(5,1)],c4,?_,by simp,k4.mono (by omega)⟩
   simp -implicitDefEqProofs [s1,s2,e1,e2,e3,e4,b2,b4,m3]
  ·refine⟨l,c4,?_,by omega,k4.mono (by omega)⟩
   simp -implicitDefEqProofs [s1,s2,e1,e2,e3,e4,a0,a1,a2,a3]
 ·refine⟨[(1,2),(2,2)],c1,?_,by simp,k1.mono (by omega)⟩
  simp -implicitDefEqProofs [s1,s2,e1,b1,b2,m1]
set_option maxRecDepth 100000
theorem YY {l:List Lf} {j:Nat} (h:j<l.length):dE 2 (lfs l) (I (j:Int))=some (.ref j 0):=by rw [dm,if_pos (by rw [ZI];exact h)]
theorem Zm {l:List Lf} {j:Nat} (h:j<l.length) (a:Int):stD 1 (lfs l) (.ref j 0) (I a)=some (lfs (l.set j (a,l[j].2))):=by
 rw [ru (c:=[I l[j].1,B l[j].2]) (by simp [h]) (by simp)];show some (D.arr 2 ((l.map lf).set j (lf (a,l[j].2))))=some (D.arr 2 ((l.set j (a,l[j].2)).map lf))
 rw [ZW]
theorem Zv (a b:Int):ay 1 [I a,I b]=some (iP [a,b]):=vb (l:=[a,b])
set_option maxHeartbeats 2000000 in
theorem Vl (c:Cur) (B:Nat) (hc:c.ok B) (hB:B≤900000000):∃l c',fm [aR c]=some (.ret [lfs l] [aR c'])∧l.length≤5∧c'.ok (B+100):=by
  obtain⟨v0,c0,e0,l0,u0,k0⟩:=dg c 4 B hc (by omega) (by omega);obtain⟨b1,c1,e1,k1⟩:=ly c0 8 _ k0 (by omega) (by omega);have hst:∃(n:Nat) (cl:Cur) (v2:Int),n≤5∧cl.ok (B+6)∧(b1=true→ah [aR c1,I 2]=some (.ret [I v2] [aR cl])∧ZE.wrap (4+v2)=(n:Int))∧(b1=false→aR c1=aR cl∧v0=(n:Int)):=by
    cases b1
    · exact⟨v0.toNat,c1,0,by omega,k1.mono (by omega),(fun h=>by cases h),fun _=>⟨rfl,by omega⟩⟩
    · obtain⟨v2,c2,e2,l2,u2,k2⟩:=dg c1 2 _ k1 (by omega) (by omega)
      exact⟨(4+v2).toNat,c2,v2,by omega,k2,(fun _=>⟨e2,by rw [ae (by omega) (by omega)];omega⟩),fun h=>by cases h⟩
  obtain⟨n,cl,v2,hn,kl,ht,hf⟩:=hst;have a0:=Zv 1 2;have a1:=YB 0 3 (-1);rw [yO];cases b1
  all_goals first
    | (obtain⟨hcl,hn0⟩:=hf rfl
       simp -implicitDefEqProofs only [bV,cI,ZG,jU,e0,e1,bd,aE,bZ,hn0,bt,ZH,if_false,hcl])
    | (obtain⟨e2,hn0⟩:=ht rfl
       simp -implicitDefEqProofs only [bV,cI,ZG,jU,e0,e1,bd,aE,bZ,bt,if_true,e2,hn0])
  all_goals
    clear ht hf e1 k1 e0 k0;refine bu (fun r=>∃l c',r=some (.ret [lfs l] [aR c'])∧l.length≤5∧c'.ok (B+100)) (fun s:Cur × List Lf=>[aR s.1,lfs s.2,I (n:Int)])
      (fun s=>s.2.length≤n∧s.1.ok (B+6+4*s.2.length)) (fun s=>n - s.2.length) (fun o=>∃l c',o = .ext 0 [aR c',lfs l,I (n:Int)]∧l.length=n∧c'.ok (B+40)) (fun s hs=>?_) (cl,[]) ⟨by simp,kl⟩ rfl (fun o ho=>?_)
    · obtain⟨c,l⟩:=s
      obtain⟨h1,h2⟩:=hs;replace h1:l.length≤n:=h1;replace h2:c.ok (B+6+4*l.length):=h2;by_cases hg:l.length<n
      · have hg':(l.length:Int)<(n:Int):=by omega
        obtain⟨v,c2,e2,m2,k2⟩:=gE c [1,2] _ h2 (by omega) (by simp) (by simp);obtain⟨b,c3,e3,k3⟩:=ly c2 2 _ k2 (by omega) (by omega);have hb:=To v b;have hm:=XS (v,b);have hck:=QC [(v,b)];have hap:=Ci lf 2 16 l [(v,b)] (by simp;omega) (by omega);refine .inl ⟨(c3,l++[(v,b)]),?_,⟨by show(l++[(v,b)]).length≤n;simp;omega,k3.mono (by show B+6+4*l.length+2+2≤B+6+4*(l++[(v,b)]).length;simp;omega)⟩,by show n - (l++[(v,b)]).length<n - l.length;simp;omega⟩
        simp -implicitDefEqProofs [hg',a0,e2,e3,hb,hm,hck,hap,-bv]
      · have hg':¬(l.length:Int)<(n:Int):=by omega
        refine .inr ⟨.ext 0 [aR c,lfs l,I (n:Int)],?_,rfl,l,c,rfl,by omega,h2.mono (by omega)⟩
        simp -implicitDefEqProofs [hg']
    · obtain⟨l,cw,rfl,hwl,kw⟩:=ho
      obtain⟨b5,d5,f5,k5⟩:=ly cw 24 _ kw (by omega) (by omega);by_cases hn0:0<n
      · have hn0':(0:Int)<(n:Int):=by omega
        cases b5
        · refine⟨l,d5,?_,by omega,k5.mono (by omega)⟩
          simp -implicitDefEqProofs [hn0,f5]
        · obtain⟨p6,d6,f6,r6,s6,k6⟩:=dg d5 (n:Int) _ k5 (by omega) (by omega)
          obtain⟨p7,d7,f7,m7,k7⟩:=gE d6 [0,3,-1] _ k6 (by omega) (by simp) (by simp);obtain⟨j,rfl⟩:=ZL r6;have hj:j<l.length:=by omega
          have g1:=YY hj;have g2:=Zm hj p7;have g3:cW 0 (D.ref j 0)=some (D.ref j 0):=rfl;refine⟨l.set j (p7,l[j].2),d7,?_,by simp;omega,k7.mono (by omega)⟩
          simp -implicitDefEqProofs [hn0,f5,f6,a1,f7,g1,g2,g3,-dm,-kP,-bv]
      · have hn0':¬(0:Int)<(n:Int):=by omega
        refine⟨l,cw,?_,by omega,kw.mono (by omega)⟩
        simp -implicitDefEqProofs [hn0]
theorem Es (l:List Int) (h:Bytes l):∃x:List Lf,fL [gw l]=some (.ret [lfs x] [])∧x.length≤5:=by
 obtain⟨x,c1,e1,hx,k1⟩:=Vl ⟨l,0,0⟩ 0 (Uw h) (by omega);replace e1:fm [D.agg [gw l,I 0,D.v (ZF aad 0)]]=_:=e1;have hb:=Ld l;have ed:gd [gw l]=some (.ret [lfs x] []):=by
  rw [wg];simp -implicitDefEqProofs [hb,e1]
 refine⟨x,?_,hx⟩
 rw [uG];simp -implicitDefEqProofs [ed]
set_option maxRecDepth 100000
theorem wF {ws:List Int} {q1 q2 q3 m:Int} (h:tr ws q1 q2 q3 m=true):jG [ints ws,aL q1 q2 q3,I m,I 0]=some (.ret (nm q1 q2 q3 m ws) []):=by
 have hb:bE 3 (aL q1 q2 q3)=some (aL q1 q2 q3):=by simp [bE]
 have hf3:ba true 3 0 (aL q1 q2 q3)=some (aL q1 q2 q3):=by simp [ba,D.cells,D.ofCells,au]
 have e1:=xy h;rw [ID];unfold nm;obtain⟨⟨ok,c,bs,n⟩,hw⟩:∃x,fA q1 q2 q3 m ws 0=x:=⟨_,rfl⟩
 rw [hw] at e1;cases ok
 ·simp -implicitDefEqProofs [hb,hf3,e1,QO,hw]
 ·simp -implicitDefEqProofs [hb,hf3,e1,QO,h,hw]
theorem Au (ws:List Int) (q1 q2 q3 m:Int) (h:ws.length≤1048576):iH [ints ws,aL q1 q2 q3,I m]=some (.ret (nm q1 q2 q3 m ws) []):=by
 have hb:bE 3 (aL q1 q2 q3)=some (aL q1 q2 q3):=by simp [bE]
 have hf3:ba true 3 0 (aL q1 q2 q3)=some (aL q1 q2 q3):=by simp [ba,D.cells,D.ofCells,au]
 have e1:=tY ws q1 q2 q3 m (by omega);rw [zM];cases ha:tr ws q1 q2 q3 m
 ·rw [ha] at e1
  unfold nm;simp -implicitDefEqProofs [hb,hf3,e1,ha]
 ·rw [ha] at e1
  have e2:=wF ha;have e3:nm q1 q2 q3 m ws=[nth (nm q1 q2 q3 m ws) 0,nth (nm q1 q2 q3 m ws) 1,nth (nm q1 q2 q3 m ws) 2]:=by
   unfold nm;split<;>rfl
  unfold nm at e2 ⊢;by_cases hw:tr ws q1 q2 q3 m=true∧(fA q1 q2 q3 m ws 0).1=true
  ·rw [if_pos hw] at e2 ⊢
   simp -implicitDefEqProofs [hb,hf3,e1,e2]
  ·rw [if_neg hw] at e2 ⊢
   simp -implicitDefEqProofs [hb,hf3,e1,e2]
set_option maxRecDepth 100000
theorem rG (x0:D):dA [x0] =
  ((aa x0 (D.ref 0 0)).bind fun z=>(bn z x0).bind fun i=>(aa i i).bind fun i=>callK (ah [i,D.v (ZF ZE 10)]) fun rs us=>(aa (sl us 0) (sl us 0)).bind fun _u =>
 (bin ZT false [] (D.v (ZF ZE 1)) (sl rs 0)).bind fun z=>(aa (sl us 0) (D.ref 0 0)).bind fun z_1=>(bn z_1 (sl us 0)).bind fun i=>(aa i i).bind fun i =>
 callK (aP [i,D.v (ZF ZE 12)]) fun rs us=>(aa (sl us 0) (sl us 0)).bind fun _u=>ifD (sl rs 0) ((aa (sl us 0) (D.ref 0 0)).bind fun z=>(ay 1
 [D.v (ZF ZE 0),D.v (ZF ZE 24),D.v (ZF ZE 25),D.v (ZF ZE 22)]).bind fun a=>(bn z (sl us 0)).bind fun i=>(aa i i).bind fun i =>
 callK (ak [i,a]) fun rs us=>(aa (sl us 0) (sl us 0)).bind fun _u=>(aQ (fun s=>(aa (sl s 2) (D.ref 0 0)).bind fun z=>((aa z (sl s 2)).bind (lenD false)).bind fun z =>
 (bin BinOp.lss false [] z (sl s 3)).bind fun z=>ifD z ((aa (sl s 0) (D.ref 0 0)).bind fun z=>(bn z (sl s 0)).bind fun i=>(aa i i).bind fun i=>callK (ah [i,D.v (ZF ZE 12)])
 fun rs us=>(aa (sl us 0) (sl us 0)).bind fun _u=>(bin ZT false [] (D.v (ZF ZE 4)) (sl rs 0)).bind fun z=>(ay 1 [z]).bind fun a=>(dq a).bind fun b =>
 (bY 1 8 (sl s 2) b).bind fun y=>some (Out.nrm [sl us 0,sl s 1,y,sl s 3])) (some (Out.ext 0 [sl s 0,sl s 1,sl s 2,sl s 3]))) [sl us 0,D.agg [D.v (ZF ZE 0),D.v (ZF ZE 0),
 D.v (ZF ZE 0)],D.arr 1 [],sl rs 0]).bind fun o=>outK o (fun i s=>ifN (i.beq 0) ((aa (sl s 0) (D.ref 0 0)).bind fun z=>(bn z (sl s 0)).bind fun i=>(aa i i).bind fun i =>
 callK (ah [i,D.v (ZF ZE 3)]) fun rs us=>(aa (sl us 0) (sl us 0)).bind fun _u=>(bin ZT false [] (D.v (ZF ZE 1)) (sl rs 0)).bind fun z =>
 (aa (sl us 0) (D.ref 0 0)).bind fun z_2=>(bn z_2 (sl us 0)).bind fun i=>(aa i i).bind fun i=>callK (ah [i,D.v (ZF ZE 20)]) fun rs us =>
 (aa (sl us 0) (sl us 0)).bind fun _u=>(bin ZT false [] (D.v (ZF ZE 5)) (sl rs 0)).bind fun z_3=>(cO [(0,1),(1,1),(2,1)] [D.v (ZF ZE 0),D.v (ZF ZE 0),
 D.v (ZF ZE 0)] [z,D.v (ZF ZE 4),z_3]).bind fun z=>(stD 3 (D.agg [D.v (ZF ZE 0),D.v (ZF ZE 0),D.v (ZF ZE 0)]) (D.ref 0 0) z).bind
 fun b=>(aa (sl us 0) (D.ref 0 0)).bind fun z=>(bn z (sl us 0)).bind fun i=>(aa i i).bind fun i=>callK (aP [i,D.v (ZF ZE 16)]) fun rs us=>(aa (sl us 0) (sl us 0)).bind
 fun _u=>ifD (sl rs 0) ((aa (sl us 0) (D.ref 0 0)).bind fun z=>(bn z (sl us 0)).bind fun i=>(aa i i).bind fun i=>callK (eL [i]) fun rs us=>(aa (sl us 0) (sl us 0)).bind fun _u =>
 (stD 3 b (D.ref 0 0) (sl rs 0)).bind fun b=>(bin aaj false [] (sl s 3) (D.v (ZF ZE 0))).bind fun z=>(af D.bad z true (aa (sl us 0) (D.ref 0 0))).bind fun z_4=>bX z true ((bn z_4
 (sl us 0)).bind fun i=>(aa i i).bind fun i=>callK (aP [i,D.v (ZF ZE 20)]) fun rs us=>(aa (sl us 0) (sl us 0)).bind fun _u=>some (Out.nrm [sl rs 0,sl us 0])) [D.tup [],
 sl us 0] fun outs=>(aU z (sl outs 0) (D.v (aae false))).bind fun z=>ifD z ((aa (sl s 2) (D.ref 0 0)).bind fun z=>(aa (sl outs 1) (D.ref 0 0)).bind fun z_5=>(bn z_5 (sl outs 1)).bind fun i =>
 (aa i i).bind fun i=>callK (ah [i,sl s 3]) fun rs us=>(aa (sl us 0) (sl us 0)).bind fun _u=>(aa (sl us 0) (D.ref 0 0)).bind fun z_6=>(ay 1 [D.v (ZF ZE 600),D.v
 (ZF ZE 601),D.v (ZF ZE 0),D.v (ZF ZE 60)]).bind fun a=>(bn z_6 (sl us 0)).bind fun i=>(aa i i).bind fun i=>callK (ak [i,a]) fun rs_1 us =>
 (aa (sl us 0) (sl us 0)).bind fun _u=>((aa z (sl s 2)).bind fun b=>dE 1 b (sl rs 0)).bind fun z=>(stD 1 (sl s 2) z (sl rs_1 0)).bind fun b_1=>(ba true 3 0 b).bind fun z=>(aa (sl us 0) (D.ref 0
 0)).bind fun z_7=>(aa (sl us 0) (D.ref 0 0)).bind fun z_8=>(ay 1 [D.v (ZF ZE 30),D.v (ZF ZE 2000),D.v (ZF ZE 2001),D.v (ZF ZE 0)]).bind fun a =>
 (bn z_8 (sl us 0)).bind fun i=>(aa i i).bind fun i=>callK (ak [i,a]) fun rs us=>(aa (sl us 0) (sl us 0)).bind fun _u=>(ay 1 [D.v (ZF ZE 30),D.v (ZF ZE
 40),D.v (ZF ZE 50),D.v (ZF ZE 60),D.v (ZF ZE 25),D.v (ZF ZE 100),sl rs 0]).bind fun a=>(bn z_7 (sl us 0)).bind fun i=>(aa i i).bind fun i =>
 callK (ak [i,a]) fun rs us=>(aa (sl us 0) (sl us 0)).bind fun _u=>(stD 3 (sl s 1) (D.ref 0 0) z).bind fun b=>(ba true 3 0 b).bind fun y=>(aa (sl us 0) (sl us 0)).bind fun _u=>some
 (Out.ret [b_1,y,sl rs 0] [sl us 0])) ((ba true 3 0 b).bind fun z=>(aa (sl outs 1) (D.ref 0 0)).bind fun z_5=>(aa (sl outs 1) (D.ref 0 0)).bind fun z_6=>(ay 1 [D.v (ZF ZE 30),D.v
 (ZF ZE 2000),D.v (ZF ZE 2001),D.v (ZF ZE 0)]).bind fun a=>(bn z_6 (sl outs 1)).bind fun i=>(aa i i).bind fun i=>callK (ak [i,a]) fun rs us =>
 (aa (sl us 0) (sl us 0)).bind fun _u=>(ay 1 [D.v (ZF ZE 30),D.v (ZF ZE 40),D.v (ZF ZE 50),D.v (ZF ZE 60),D.v (ZF ZE 25),D.v
 (ZF ZE 100),sl rs 0]).bind fun a=>(bn z_5 (sl us 0)).bind fun i=>(aa i i).bind fun i=>callK (ak [i,a]) fun rs us=>(aa (sl us 0) (sl us 0)).bind fun _u=>(stD 3 (sl s 1)
 (D.ref 0 0) z).bind fun b=>(ba true 3 0 b).bind fun y=>(aa (sl us 0) (sl us 0)).bind fun _u=>some (Out.ret [sl s 2,y,sl rs 0] [sl us 0]))) ((bin aaj false [] (sl s 3) (D.v (ZF ZE
 0))).bind fun z=>(af D.bad z true (aa (sl us 0) (D.ref 0 0))).bind fun z_4=>bX z true ((bn z_4 (sl us 0)).bind fun i=>(aa i i).bind fun i=>callK (aP [i,D.v (ZF ZE 20)])
 fun rs us=>(aa (sl us 0) (sl us 0)).bind fun _u=>some (Out.nrm [sl rs 0,sl us 0])) [D.tup [],sl us 0] fun outs=>(aU z (sl outs 0) (D.v (aae false))).bind fun z=>ifD z ((aa (sl s 2)
 (D.ref 0 0)).bind fun z=>(aa (sl outs 1) (D.ref 0 0)).bind fun z_5=>(bn z_5 (sl outs 1)).bind fun i=>(aa i i).bind fun i=>callK (ah [i,sl s 3]) fun rs us=>(aa (sl us 0) (sl us 0)).bind
 fun _u=>(aa (sl us 0) (D.ref 0 0)).bind fun z_6=>(ay 1 [D.v (ZF ZE 600),D.v (ZF ZE 601),D.v (ZF ZE 0),D.v (ZF ZE 60)]).bind fun a=>(bn z_6
 (sl us 0)).bind fun i=>(aa i i).bind fun i=>callK (ak [i,a]) fun rs_1 us=>(aa (sl us 0) (sl us 0)).bind fun _u=>((aa z (sl s 2)).bind fun b=>dE 1 b (sl rs 0)).bind fun z=>(stD 1 (sl
 s 2) z (sl rs_1 0)).bind fun b_1=>(ba true 3 0 b).bind fun z=>(aa (sl us 0) (D.ref 0 0)).bind fun z_7=>(aa (sl us 0) (D.ref 0 0)).bind fun z_8=>(ay 1 [D.v (ZF ZE 30),D.v (ZF
 ZE 2000),D.v (ZF ZE 2001),D.v (ZF ZE 0)]).bind fun a=>(bn z_8 (sl us 0)).bind fun i=>(aa i i).bind fun i=>callK (ak [i,a]) fun rs us=>(aa (sl us
 0) (sl us 0)).bind fun _u=>(ay 1 [D.v (ZF ZE 30),D.v (ZF ZE 40),D.v (ZF ZE 50),D.v (ZF ZE 60),D.v (ZF ZE 25),D.v (ZF
 ZE 100),sl rs 0]).bind fun a=>(bn z_7 (sl us 0)).bind fun i=>(aa i i).bind fun i=>callK (ak [i,a]) fun rs us=>(aa (sl us 0) (sl us 0)).bind fun _u=>(stD 3 (sl s 1) (D.ref 0 0)
 z).bind fun b=>(ba true 3 0 b).bind fun y=>(aa (sl us 0) (sl us 0)).bind fun _u=>some (Out.ret [b_1,y,sl rs 0] [sl us 0])) ((ba true 3 0 b).bind fun z=>(aa (sl outs 1) (D.ref 0 0)).bind fun z_5 =>
 (aa (sl outs 1) (D.ref 0 0)).bind fun z_6=>(ay 1 [D.v (ZF ZE 30),D.v (ZF ZE 2000),D.v (ZF ZE 2001),D.v (ZF ZE 0)]).bind fun a=>(bn z_6
 (sl outs 1)).bind fun i=>(aa i i).bind fun i=>callK (ak [i,a]) fun rs us=>(aa (sl us 0) (sl us 0)).bind fun _u=>(ay 1 [D.v (ZF ZE 30),D.v (ZF ZE 40),D.v
 (ZF ZE 50),D.v (ZF ZE 60),D.v (ZF ZE 25),D.v (ZF ZE 100),sl rs 0]).bind fun a=>(bn z_5 (sl us 0)).bind fun i=>(aa i i).bind fun i=>callK
 (ak [i,a]) fun rs us=>(aa (sl us 0) (sl us 0)).bind fun _u=>(stD 3 (sl s 1) (D.ref 0 0) z).bind fun b=>(ba true 3 0 b).bind fun y=>(aa (sl us 0) (sl us 0)).bind fun _u=>some (Out.ret [sl
 s 2,y,sl rs 0] [sl us 0])))) none) fun a b=>some (Out.ret a b)) ((aQ (fun s=>(aa (sl s 2) (D.ref 0 0)).bind fun z=>((aa z (sl s 2)).bind (lenD false)).bind fun z =>
 (bin BinOp.lss false [] z (sl s 3)).bind fun z=>ifD z ((aa (sl s 0) (D.ref 0 0)).bind fun z=>(bn z (sl s 0)).bind fun i=>(aa i i).bind fun i=>callK (ah [i,D.v (ZF ZE 12)])
 fun rs us=>(aa (sl us 0) (sl us 0)).bind fun _u=>(bin ZT false [] (D.v (ZF ZE 4)) (sl rs 0)).bind fun z=>(ay 1 [z]).bind fun a=>(dq a).bind fun b =>
 (bY 1 8 (sl s 2) b).bind fun y=>some (Out.nrm [sl us 0,sl s 1,y,sl s 3])) (some (Out.ext 0 [sl s 0,sl s 1,sl s 2,sl s 3]))) [sl us 0,D.agg [D.v (ZF ZE 0),D.v (ZF ZE 0),
 D.v (ZF ZE 0)],D.arr 1 [],z]).bind fun o=>outK o (fun i s=>ifN (i.beq 0) ((aa (sl s 0) (D.ref 0 0)).bind fun z=>(bn z (sl s 0)).bind fun i=>(aa i i).bind fun i =>
 callK (ah [i,D.v (ZF ZE 3)]) fun rs us=>(aa (sl us 0) (sl us 0)).bind fun _u=>(bin ZT false [] (D.v (ZF ZE 1)) (sl rs 0)).bind fun z =>
 (aa (sl us 0) (D.ref 0 0)).bind fun z_2=>(bn z_2 (sl us 0)).bind fun i=>(aa i i).bind fun i=>callK (ah [i,D.v (ZF ZE 20)]) fun rs us =>
 (aa (sl us 0) (sl us 0)).bind fun _u=>(bin ZT false [] (D.v (ZF ZE 5)) (sl rs 0)).bind fun z_3=>(cO [(0,1),(1,1),(2,1)] [D.v (ZF ZE 0),D.v (ZF ZE 0),
 D.v (ZF ZE 0)] [z,D.v (ZF ZE 4),z_3]).bind fun z=>(stD 3 (D.agg [D.v (ZF ZE 0),D.v (ZF ZE 0),D.v (ZF ZE 0)]) (D.ref 0 0) z).bind
 fun b=>(aa (sl us 0) (D.ref 0 0)).bind fun z=>(bn z (sl us 0)).bind fun i=>(aa i i).bind fun i=>callK (aP [i,D.v (ZF ZE 16)]) fun rs us =>
 (aa (sl us 0) (sl us 0)).bind fun _u=>ifD (sl rs 0) ((aa (sl us 0) (D.ref 0 0)).bind fun z=>(bn z (sl us 0)).bind fun i=>(aa i i).bind fun i=>callK (eL [i]) fun rs us =>
 (aa (sl us 0) (sl us 0)).bind fun _u=>(stD 3 b (D.ref 0 0) (sl rs 0)).bind fun b=>(bin aaj false [] (sl s 3) (D.v (ZF ZE 0))).bind fun z=>(af D.bad z true (aa (sl us 0)
 (D.ref 0 0))).bind fun z_4=>bX z true ((bn z_4 (sl us 0)).bind fun i=>(aa i i).bind fun i=>callK (aP [i,D.v (ZF ZE 20)]) fun rs us=>(aa (sl us 0) (sl us 0)).bind fun _u =>
 some (Out.nrm [sl rs 0,sl us 0])) [D.tup [],sl us 0] fun outs=>(aU z (sl outs 0) (D.v (aae false))).bind fun z=>ifD z ((aa (sl s 2) (D.ref 0 0)).bind fun z=>(aa (sl outs 1) (D.ref 0 0)).bind
 fun z_5=>(bn z_5 (sl outs 1)).bind fun i=>(aa i i).bind fun i=>callK (ah [i,sl s 3]) fun rs us=>(aa (sl us 0) (sl us 0)).bind fun _u=>(aa (sl us 0) (D.ref 0 0)).bind fun z_6 =>
 (ay 1 [D.v (ZF ZE 600),D.v (ZF ZE 601),D.v (ZF ZE 0),D.v (ZF ZE 60)]).bind fun a=>(bn z_6 (sl us 0)).bind fun i=>(aa i i).bind fun i=>callK
 (ak [i,a]) fun rs_1 us=>(aa (sl us 0) (sl us 0)).bind fun _u=>((aa z (sl s 2)).bind fun b=>dE 1 b (sl rs 0)).bind fun z=>(stD 1 (sl s 2) z (sl rs_1 0)).bind fun b_1=>(ba true 3 0
 b).bind fun z=>(aa (sl us 0) (D.ref 0 0)).bind fun z_7=>(aa (sl us 0) (D.ref 0 0)).bind fun z_8=>(ay 1 [D.v (ZF ZE 30),D.v (ZF ZE 2000),D.v (ZF ZE 2001),
 D.v (ZF ZE 0)]).bind fun a=>(bn z_8 (sl us 0)).bind fun i=>(aa i i).bind fun i=>callK (ak [i,a]) fun rs us=>(aa (sl us 0) (sl us 0)).bind fun _u=>(ay 1 [D.v (ZF
 ZE 30),D.v (ZF ZE 40),D.v (ZF ZE 50),D.v (ZF ZE 60),D.v (ZF ZE 25),D.v (ZF ZE 100),sl rs 0]).bind fun a=>(bn z_7 (sl us
 0)).bind fun i=>(aa i i).bind fun i=>callK (ak [i,a]) fun rs us=>(aa (sl us 0) (sl us 0)).bind fun _u=>(stD 3 (sl s 1) (D.ref 0 0) z).bind fun b=>(ba true 3 0 b).bind fun y=>(aa (sl
 us 0) (sl us 0)).bind fun _u=>some (Out.ret [b_1,y,sl rs 0] [sl us 0])) ((ba true 3 0 b).bind fun z=>(aa (sl outs 1) (D.ref 0 0)).bind fun z_5=>(aa (sl outs 1) (D.ref 0 0)).bind fun z_6=>(ay 1 [D.v
 (ZF ZE 30),D.v (ZF ZE 2000),D.v (ZF ZE 2001),D.v (ZF ZE 0)]).bind fun a=>(bn z_6 (sl outs 1)).bind fun i=>(aa i i).bind fun i=>callK
 (ak [i,a]) fun rs us=>(aa (sl us 0) (sl us 0)).bind fun _u=>(ay 1 [D.v (ZF ZE 30),D.v (ZF ZE 40),D.v (ZF ZE 50),D.v (ZF ZE 60),
 D.v (ZF ZE 25),D.v (ZF ZE 100),sl rs 0]).bind fun a=>(bn z_5 (sl us 0)).bind fun i=>(aa i i).bind fun i=>callK (ak [i,a]) fun rs us=>(aa (sl us 0) (sl us
 0)).bind fun _u=>(stD 3 (sl s 1) (D.ref 0 0) z).bind fun b=>(ba true 3 0 b).bind fun y=>(aa (sl us 0) (sl us 0)).bind fun _u=>some (Out.ret [sl s 2,y,sl rs 0] [sl us 0]))) ((bin aaj false [] (sl s 3)
 (D.v (ZF ZE 0))).bind fun z=>(af D.bad z true (aa (sl us 0) (D.ref 0 0))).bind fun z_4=>bX z true ((bn z_4 (sl us 0)).bind fun i=>(aa i i).bind fun i=>callK (aP [i,D.v
 (ZF ZE 20)]) fun rs us=>(aa (sl us 0) (sl us 0)).bind fun _u=>some (Out.nrm [sl rs 0,sl us 0])) [D.tup [],sl us 0] fun outs=>(aU z (sl outs 0) (D.v (aae false))).bind fun z=>ifD z
 ((aa (sl s 2) (D.ref 0 0)).bind fun z=>(aa (sl outs 1) (D.ref 0 0)).bind fun z_5=>(bn z_5 (sl outs 1)).bind fun i=>(aa i i).bind fun i=>callK (ah [i,sl s 3]) fun rs us =>
 (aa (sl us 0) (sl us 0)).bind fun _u=>(aa (sl us 0) (D.ref 0 0)).bind fun z_6=>(ay 1 [D.v (ZF ZE 600),D.v (ZF ZE 601),D.v (ZF ZE 0),D.v (ZF
 ZE 60)]).bind fun a=>(bn z_6 (sl us 0)).bind fun i=>(aa i i).bind fun i=>callK (ak [i,a]) fun rs_1 us=>(aa (sl us 0) (sl us 0)).bind fun _u=>((aa z (sl s 2)).bind fun b =>
 dE 1 b (sl rs 0)).bind fun z=>(stD 1 (sl s 2) z (sl rs_1 0)).bind fun b_1=>(ba true 3 0 b).bind fun z=>(aa (sl us 0) (D.ref 0 0)).bind fun z_7=>(aa (sl us 0) (D.ref 0 0)).bind fun z_8=>(ay 1 [D.v
 (ZF ZE 30),D.v (ZF ZE 2000),D.v (ZF ZE 2001),D.v (ZF ZE 0)]).bind fun a=>(bn z_8 (sl us 0)).bind fun i=>(aa i i).bind fun i=>callK
 (ak [i,a]) fun rs us=>(aa (sl us 0) (sl us 0)).bind fun _u=>(ay 1 [D.v (ZF ZE 30),D.v (ZF ZE 40),D.v (ZF ZE 50),D.v (ZF ZE 60),
 D.v (ZF ZE 25),D.v (ZF ZE 100),sl rs 0]).bind fun a=>(bn z_7 (sl us 0)).bind fun i=>(aa i i).bind fun i=>callK (ak [i,a]) fun rs us=>(aa (sl us 0) (sl us
 0)).bind fun _u=>(stD 3 (sl s 1) (D.ref 0 0) z).bind fun b=>(ba true 3 0 b).bind fun y=>(aa (sl us 0) (sl us 0)).bind fun _u=>some (Out.ret [b_1,y,sl rs 0] [sl us 0])) ((ba true 3 0 b).bind fun z =>
 (aa (sl outs 1) (D.ref 0 0)).bind fun z_5=>(aa (sl outs 1) (D.ref 0 0)).bind fun z_6=>(ay 1 [D.v (ZF ZE 30),D.v (ZF ZE 2000),D.v (ZF ZE 2001),D.v (ZF
 ZE 0)]).bind fun a=>(bn z_6 (sl outs 1)).bind fun i=>(aa i i).bind fun i=>callK (ak [i,a]) fun rs us=>(aa (sl us 0) (sl us 0)).bind fun _u=>(ay 1 [D.v (ZF ZE
 30),D.v (ZF ZE 40),D.v (ZF ZE 50),D.v (ZF ZE 60),D.v (ZF ZE 25),D.v (ZF ZE 100),sl rs 0]).bind fun a=>(bn z_5 (sl us 0)).bind
 fun i=>(aa i i).bind fun i=>callK (ak [i,a]) fun rs us=>(aa (sl us 0) (sl us 0)).bind fun _u=>(stD 3 (sl s 1) (D.ref 0 0) z).bind fun b=>(ba true 3 0 b).bind fun y=>(aa (sl us 0)
 (sl us 0)).bind fun _u=>some (Out.ret [sl s 2,y,sl rs 0] [sl us 0])))) none) fun a b=>some (Out.ret a b))):=by kernel_rfl
set_option maxRecDepth 100000
theorem Ye (a:Int):ay 1 [I a]=some (iP [a]):=vb (l:=[a])
theorem XB (l:List Int):dq (iP l)=some (iP l):=fj fun p=>rfl
theorem Xm {l m:List Int} (h:l.length+m.length≤1048577):bY 1 8 (iP l) (iP m)=some (iP (l++m)):=by
 rw [bv,if_pos (by simp only [ZI];omega)];simp
theorem Pq (c:Cur) (ws:List Int) (B:Nat) (hc:c.ok B) (hB:B≤1000000000) (hw:ws.length≤30):∃bs c',dl [aR c,ints ws]=some (.ret [ints bs] [aR c'])∧bs.length≤40∧c'.ok (B+100):=by
 rw [tn];refine bu (fun r=>∃bs c',r=some (.ret [ints bs] [aR c'])∧bs.length≤40∧c'.ok (B+100)) (fun s:Cur × List Int × Nat=>[aR s.1,ints ws,ints s.2.1,I (s.2.2:Int)])
  (fun s=>1≤s.2.2∧s.2.2≤31∧s.1.ok (B+2*s.2.2)∧s.2.1.length<s.2.2) (fun s=>40 - s.2.2) (fun o=>∃bs c',o = .ext 0 [aR c',ints ws,ints bs]∧bs.length≤32∧c'.ok (B+70)) (fun s hs=>?_) (c,[],1)
  ⟨by simp,by simp,hc.mono (by omega),by simp⟩ rfl (fun o ho=>?_)
 ·obtain⟨c,l,n⟩:=s
  obtain⟨h0,h1,h2,h3⟩:=hs;replace h0:1≤n:=h0;replace h1:n≤31:=h1;replace h2:c.ok (B+2*n):=h2;replace h3:l.length<n:=h3;have hwn:ZE.wrap ((n:Int)+1)=((n+1:Nat):Int):=by rw [ae (by omega) (by omega)];omega
  by_cases hg:n<ws.length
  ·have hg':(n:Int)<(ws.length:Int):=by omega
   obtain⟨b,c2,e2,k2⟩:=ly c 3 _ h2 (by omega) (by omega);have hm:=Ye (n:Int);have hck:=XB [(n:Int)];have hap:=Xm (l:=l) (m:=[(n:Int)]) (by simp;omega);cases b
   ·refine .inl ⟨(c2,l,n+1),?_,⟨by show 1≤n+1;omega,by show n+1≤31;omega,k2.mono (by show B+2*n+2≤B+2*(n+1);omega),by show l.length<n+1;omega⟩,by show 40 - (n+1)<40 - n;omega⟩
    simp -implicitDefEqProofs [hg',e2,hwn]
   ·refine .inl ⟨(c2,l++[(n:Int)],n+1),?_,⟨by show 1≤n+1;omega,by show n+1≤31;omega,k2.mono (by show B+2*n+2≤B+2*(n+1);omega),by show(l++[(n:Int)]).length<n+1;simp;omega⟩,by show 40 - (n+1)<40 - n;omega⟩
    simp -implicitDefEqProofs [hg',e2,hwn,hm,hck,hap,-bv]
  ·have hg':¬(n:Int)<(ws.length:Int):=by omega
   refine .inr ⟨.ext 0 [aR c,ints ws,ints l],?_,rfl,l,c,rfl,by omega,h2.mono (by omega)⟩
   simp -implicitDefEqProofs [hg']
 ·obtain⟨l,c,rfl,h1,h2⟩:=ho
  obtain⟨b,c2,e2,k2⟩:=ly c 16 _ h2 (by omega) (by omega);cases b
  ·refine⟨l,c2,?_,by omega,k2.mono (by omega)⟩
   simp -implicitDefEqProofs [e2]
  ·obtain⟨v,c3,e3,m3,k3⟩:=gE c2 [0,1,(ws.length:Int),-1] _ k2 (by omega) (by simp) (by simp)
   have h4:=PE 0 1 (ws.length:Int) (-1);have hm:=Ye v;have hck:=XB [v];have hap:=Xm (l:=l) (m:=[v]) (by simp;omega);refine⟨l++[v],c3,?_,by simp;omega,k3.mono (by omega)⟩
   simp -implicitDefEqProofs [e2,h4,e3,hm,hck,hap,-bv]
theorem XF (c:Cur) (B:Nat) (hc:c.ok B) (hB:B≤1000000000):∃q1 q2 q3 c',eL [aR c]=some (.ret [aL q1 q2 q3] [aR c'])∧c'.ok (B+20):=by
 obtain⟨v1,c1,e1,l1,u1,k1⟩:=dg c 4 B hc (by omega) (by omega);obtain⟨v2,c2,e2,l2,u2,k2⟩:=dg c1 4 _ k1 (by omega) (by omega);obtain⟨v3,c3,e3,l3,u3,k3⟩:=dg c2 5 _ k2 (by omega) (by omega);obtain⟨v4,c4,e4,l4,u4,k4⟩:=dg c3 24 _ k3 (by omega) (by omega);have w1:ZE.wrap (1+v1)=1+v1:=ae (by omega) (by omega);have w2:ZE.wrap (1+v1+v2)=1+v1+v2:=ae (by omega) (by omega);have w3:ZE.wrap (1+v1+v2+v3)=1+v1+v2+v3:=ae (by omega) (by omega);have w4:ZE.wrap (1+v1+v2+1)=1+v1+v2+1:=ae (by omega) (by omega);obtain⟨v5,c5,e5,m5,k5⟩:=gE c4 [54,55,0] _ k4 (by omega) (by simp) (by simp);obtain⟨v6,c6,e6,m6,k6⟩:=gE c4 [0,-1,1+v1+v2,1+v1+v2+1] _ k4 (by omega) (by simp) (by simp);have h3:=YB 54 55 0;have h4:=PE 0 (-1) (1+v1+v2) (1+v1+v2+1);rw [Bp];by_cases g0:v4=0
 ·subst g0
  refine⟨1+v1,1+v1+v2,v5,c5,?_,k5.mono (by omega)⟩
  simp -implicitDefEqProofs [e1,e2,e3,e4,w1,w2,w3,h3,e5,cO,iG]
 ·by_cases g1:v4=1
  ·subst g1
   refine⟨v6,1+v1+v2,1+v1+v2+v3,c6,?_,k6.mono (by omega)⟩
   simp -implicitDefEqProofs [e1,e2,e3,e4,w1,w2,w3,w4,h4,e6,cO,iG]
  ·refine⟨1+v1,1+v1+v2,1+v1+v2+v3,c4,?_,k4.mono (by omega)⟩
   simp -implicitDefEqProofs [e1,e2,e3,e4,w1,w2,w3,g0,g1,cO,iG]
set_option maxRecDepth 100000
theorem YT {l:List Int} {j:Nat} (h:j<l.length):dE 1 (ints l) (I (j:Int))=some (.ref j 0):=by rw [dm,if_pos (by rw [ZI];exact h)]
theorem Zq {l:List Int} {j:Nat} (h:j<l.length) (x:Int):stD 1 (ints l) (.ref j 0) (I x)=some (ints (l.set j x)):=by
 have e:=AX (z:=1) (i:=j) (L:=l.map I) (v:=.int .i64 x) (w:=.int .i64 l[j]) (by rw [List.getElem?_map,aac h];rfl);refine e.trans ?_
 show some (D.arr 1 ((l.map I).set j (I x)))=some (D.arr 1 ((l.set j x).map I))
 rw [ZW]
theorem ZB (a b c d e f g:Int):ay 1 [I a,I b,I c,I d,I e,I f,I g]=some (iP [a,b,c,d,e,f,g]):=vb (l:=[a,b,c,d,e,f,g])
set_option maxHeartbeats 2000000 in
theorem Nw (c:Cur) (B:Nat) (hc:c.ok B) (hB:B≤900000000):∃ws q1 q2 q3 m c',dA [aR c]=some (.ret [ints ws,aL q1 q2 q3,I m] [aR c'])∧ws.length≤25∧c'.ok (B+200):=by
  have tail:∀cz:Cur,cz.ok (B+100)→∃v7 c7 v8 c8,ak [aR cz,iP [30,2000,2001,0]]=some (.ret [I v7] [aR c7])∧ak [aR c7,iP [30,40,50,60,25,100,v7]]=some (.ret [I v8] [aR c8])∧c8.ok (B+200):=fun cz hz=>by
    obtain⟨v7,c7,e7,m7,k7⟩:=gE cz [30,2000,2001,0] _ hz (by omega) (by simp) (by simp);obtain⟨v8,c8,e8,m8,k8⟩:=gE c7 [30,40,50,60,25,100,v7] _ k7 (by omega) (by simp) (by simp);exact⟨v7,c7,v8,c8,e7,e8,k8.mono (by omega)⟩
  obtain⟨v0,c0,e0,l0,u0,k0⟩:=dg c 10 B hc (by omega) (by omega);have w0:ZE.wrap (1+v0)=1+v0:=ae (by omega) (by omega);obtain⟨b1,c1,e1,k1⟩:=ly c0 12 _ k0 (by omega) (by omega);have hst:∃(n:Nat) (cl:Cur),n≤25∧cl.ok (B+6)∧(b1=true→ak [aR c1,iP [0,24,25,22]]=some (.ret [I (n:Int)] [aR cl]))∧(b1=false→aR c1=aR cl∧ZE.wrap (1+v0)=(n:Int)):=by
    cases b1
    · exact⟨(1+v0).toNat,c1,by omega,k1.mono (by omega),(fun h=>by cases h),fun _=>⟨rfl,by omega⟩⟩
    · obtain⟨v2,c2,e2,m2,k2⟩:=gE c1 [0,24,25,22] _ k1 (by omega) (by simp) (by simp)
      have:0≤v2∧v2≤25:=by simp at m2;omega
      exact⟨v2.toNat,c2,by omega,k2,(fun _=>by rw [show((v2.toNat:Nat):Int)=v2 by omega];exact e2),fun h=>by cases h⟩
  obtain⟨n,cl,hn,kl,ht,hf⟩:=hst;have a0:=PE 0 24 25 22;have a1:=PE 30 2000 2001 0;have a2:=PE 600 601 0 60;rw [rG];cases b1
  all_goals first
    | (obtain⟨hcl,hn0⟩:=hf rfl
       simp -implicitDefEqProofs only [bV,cI,ZG,jU,e0,e1,bd,aE,bZ,hn0,bt,ZH,if_false,hcl])
    | (have e2:=ht rfl
       simp -implicitDefEqProofs only [bV,cI,ZG,jU,e0,e1,bd,aE,bZ,bt,if_true,a0,e2])
  all_goals
    clear ht hf e1 k1 e0 k0;refine bu (fun r=>∃ws q1 q2 q3 m c',r=some (.ret [ints ws,aL q1 q2 q3,I m] [aR c'])∧ws.length≤25∧c'.ok (B+200)) (fun s:Cur × List Int=>[aR s.1,aL 0 0 0,ints s.2,I (n:Int)])
      (fun s=>s.2.length≤n∧s.1.ok (B+6+2*s.2.length)) (fun s=>n - s.2.length) (fun o=>∃ws c',o = .ext 0 [aR c',aL 0 0 0,ints ws,I (n:Int)]∧ws.length=n∧c'.ok (B+60)) (fun s hs=>?_) (cl,[]) ⟨by simp,kl⟩ rfl (fun o ho=>?_)
    · obtain⟨c,l⟩:=s
      obtain⟨h1,h2⟩:=hs;replace h1:l.length≤n:=h1;replace h2:c.ok (B+6+2*l.length):=h2;by_cases hg:l.length<n
      · have hg':(l.length:Int)<(n:Int):=by omega
        obtain⟨v,c2,e2,l2,u2,k2⟩:=dg c 12 _ h2 (by omega) (by omega);have w2:ZE.wrap (4+v)=4+v:=ae (by omega) (by omega);have hm:=Ye (4+v);have hck:=XB [4+v];have hap:=Xm (l:=l) (m:=[4+v]) (by simp;omega);refine .inl ⟨(c2,l++[4+v]),?_,⟨by show(l++[4+v]).length≤n;simp;omega,k2.mono (by show B+6+2*l.length+2≤B+6+2*(l++[4+v]).length;simp;omega)⟩,by show n - (l++[4+v]).length<n - l.length;simp;omega⟩
        simp -implicitDefEqProofs [hg',e2,w2,hm,hck,hap,-bv]
      · have hg':¬(l.length:Int)<(n:Int):=by omega
        refine .inr ⟨.ext 0 [aR c,aL 0 0 0,ints l,I (n:Int)],?_,rfl,l,c,rfl,by omega,h2.mono (by omega)⟩
        simp -implicitDefEqProofs [hg']
    · obtain⟨ws,cw,rfl,hwl,kw⟩:=ho
      obtain⟨p1,d1,f1,r1,s1,k1⟩:=dg cw 3 _ kw (by omega) (by omega);obtain⟨p2,d2,f2,r2,s2,k2⟩:=dg d1 20 _ k1 (by omega) (by omega);obtain⟨b3,d3,f3,k3⟩:=ly d2 16 _ k2 (by omega) (by omega);have w1:ZE.wrap (1+p1)=1+p1:=ae (by omega) (by omega);have w2:ZE.wrap (5+p2)=5+p2:=ae (by omega) (by omega);have hr:∃q1 q2 q3 d4,(b3=true→eL [aR d3]=some (.ret [aL q1 q2 q3] [aR d4]))∧(b3=false→d3=d4∧q1=1+p1∧q2=4∧q3=5+p2)∧d4.ok (B+90):=by
        cases b3
        · exact⟨1+p1,4,5+p2,d3,(fun h=>by cases h),(fun _=>⟨rfl,rfl,rfl,rfl⟩),k3.mono (by omega)⟩
        · obtain⟨q1,q2,q3,d4,f4,k4⟩:=XF d3 _ k3 (by omega)
          exact⟨q1,q2,q3,d4,(fun _=>f4),(fun h=>by cases h),k4.mono (by omega)⟩
      obtain⟨q1,q2,q3,d4,hq1,hq2,k4⟩:=hr;obtain⟨b5,d5,f5,k5⟩:=ly d4 20 _ k4 (by omega) (by omega);have aT:=fun v=>ZB 30 40 50 60 25 100 v
      cases b3
      all_goals first
        | obtain⟨rfl,hqa,hqb,hqc⟩:=hq2 rfl
        | have f4:=hq1 rfl
      all_goals
        by_cases hn0:0<n
        · have hn0':(0:Int)<(n:Int):=by omega
          cases b5
          · obtain⟨v7,c7,v8,c8,e7,e8,k8⟩:=tail d5 (k5.mono (by omega))
            refine⟨ws,q1,q2,q3,v8,c8,?_,by omega,k8⟩
            first
              | (simp -implicitDefEqProofs [f1,f2,f3,w1,w2,hqa,hqb,hqc,cO,iG,hn0,f5,a1,e7,aT,e8];done)
              | (simp -implicitDefEqProofs [f1,f2,f3,w1,w2,f4,cO,iG,hn0,f5,a1,e7,aT,e8];done)
          · obtain⟨p6,d6,f6,r6,s6,k6⟩:=dg d5 (n:Int) _ k5 (by omega) (by omega)
            obtain⟨p7,d7,f7,m7,k7⟩:=gE d6 [600,601,0,60] _ k6 (by omega) (by simp) (by simp);obtain⟨j,rfl⟩:=ZL r6;have hj:j<ws.length:=by omega
            have g1:=YT hj;have g2:=Zq hj p7;obtain⟨v7,c7,v8,c8,e7,e8,k8⟩:=tail d7 (k7.mono (by omega));refine⟨ws.set j p7,q1,q2,q3,v8,c8,?_,by simp;omega,k8⟩
            first
              | (simp -implicitDefEqProofs [f1,f2,f3,w1,w2,hqa,hqb,hqc,cO,iG,hn0,f5,f6,a2,f7,g1,g2,a1,e7,aT,e8,-dm,-kP,-bv];done)
              | (simp -implicitDefEqProofs [f1,f2,f3,w1,w2,f4,cO,iG,hn0,f5,f6,a2,f7,g1,g2,a1,e7,aT,e8,-dm,-kP,-bv];done)
        · have hn0':¬(0:Int)<(n:Int):=by omega
          obtain⟨v7,c7,v8,c8,e7,e8,k8⟩:=tail _ (k4.mono (show B+90≤B+100 by omega));refine⟨ws,q1,q2,q3,v8,c8,?_,by omega,k8⟩
          first
            | (simp -implicitDefEqProofs [f1,f2,f3,w1,w2,hqa,hqb,hqc,cO,iG,hn0,a1,e7,aT,e8];done)
            | (simp -implicitDefEqProofs [f1,f2,f3,w1,w2,f4,cO,iG,hn0,a1,e7,aT,e8];done)
set_option maxRecDepth 100000
theorem Oo {q1 q2 q3 m:Int} {ws:List Int} (h:tr ws q1 q2 q3 m=true):(fA q1 q2 q3 m ws 0).2.2.1.length≤1048576:=by
 have h1:=rj (n:=ws.length) (last:=Fw q2 m ws) (lc:=lcW q1 q2 q3 m ws) ws.length (Nat.le_refl _) 0;have h2:=(Bm h).1.len;show(fG _ _ _ _ _).2.2.1.length≤_
 omega
theorem yg (l:List Int) (h:Bytes l):∃ws q1 q2 q3 m bs,eH [gw l]=some (.ret [ints ws,aL q1 q2 q3,I m,ints bs] [])∧ws.length≤25∧bs.length≤1048576:=by
 obtain⟨ws,q1,q2,q3,m,c1,e1,hw,k1⟩:=Nw ⟨l,0,0⟩ 0 (Uw h) (by omega);replace e1:dA [D.agg [gw l,I 0,D.v (ZF aad 0)]]=_:=e1;obtain⟨b,c2,e2,k2⟩:=ly c1 2 _ k1 (by omega) (by omega);have ha:=tY ws q1 q2 q3 m (by omega);have hb:=Ld l;have hf3:ba true 3 0 (aL q1 q2 q3)=some (aL q1 q2 q3):=by simp [ba,D.cells,D.ofCells,au]
 rw [rq];have brk:∀cz:Cur,cz.ok 300→∃bs cy,dl [aR cz,ints ws]=some (.ret [ints bs] [aR cy])∧bs.length≤1048576:=fun cz hz=>by
  obtain⟨bs,cy,e,h1,-⟩:=Pq cz ws 300 hz (by omega) (by omega);exact⟨bs,cy,e,by omega⟩
 cases hk:tr ws q1 q2 q3 m
 ·rw [hk] at ha
  obtain⟨bs,cy,e3,hl⟩:=brk c1 (k1.mono (by omega));refine⟨ws,q1,q2,q3,m,bs,?_,hw,hl⟩
  simp -implicitDefEqProofs [hb,e1,ha,e3]
 ·rw [hk] at ha
  have hp:=wF hk;cases b
  ·obtain⟨bs,cy,e3,hl⟩:=brk c2 (k2.mono (by omega))
   refine⟨ws,q1,q2,q3,m,bs,?_,hw,hl⟩
   simp -implicitDefEqProofs [hb,e1,ha,e2,e3]
  ·by_cases hw2:(fA q1 q2 q3 m ws 0).1=true
   ·unfold nm at hp
    rw [if_pos ⟨hk,hw2⟩] at hp;refine⟨ws,q1,q2,q3,m,(fA q1 q2 q3 m ws 0).2.2.1,?_,hw,Oo hk⟩
    simp -implicitDefEqProofs [hb,e1,ha,e2,hp]
   ·unfold nm at hp
    rw [if_neg fun hh=>hw2 hh.2] at hp;obtain⟨bs,cy,e3,hl⟩:=brk c2 (k2.mono (by omega));refine⟨ws,q1,q2,q3,m,bs,?_,hw,hl⟩
    simp -implicitDefEqProofs [hb,e1,ha,e2,hp,e3]
set_option maxRecDepth 100000
theorem DO (l:List Int) (h:Bytes l):∃(w hh:Int) (ps:Ps),fK [gw l]=some (.ret [I w,I hh,pcs ps] [])∧ps.length≤10:=by
 obtain⟨v1,c1,e1,l1,u1,k1⟩:=Ue ⟨l,0,0⟩ 0 (Uw h) (by omega);replace e1:eG [D.agg [gw l,I 0,D.v (ZF aad 0)]]=_:=e1;obtain⟨v2,c2,e2,l2,u2,k2⟩:=Ue c1 _ k1 (by omega);obtain⟨b,c3,e3,k3⟩:=ly c2 12 _ k2 (by omega) (by omega);have hb:=Ld l;rw [ue];cases b
 ·obtain⟨ps,c4,e4,hl,k4⟩:=Sy c3 v1 v2 _ k3 (by omega)
  refine⟨v1,v2,ps,?_,hl⟩
  simp -implicitDefEqProofs [hb,e1,e2,e3,e4]
 ·have p1:=Dp 2 2
  have p2:=Dp 5 1;have hm:=TB (2,2) (5,1);refine⟨3,3,[(2,2),(5,1)],?_,by simp⟩
  simp -implicitDefEqProofs [hb,e1,e2,e3,p1,p2,hm]
theorem IX (l:List Int) (h:Bytes l):∃(f:List Srt) (x:Stg) (u:ByteArray),gH [gw l]=some (.ret [srs f,bR x,T u] [])∧FIn f∧OkT x∧u.size≤1000:=by
 have h0:Cur.ok ⟨l,0,0⟩ 100000:=(Uw h).mono (by omega);have e1:=KL h0;obtain⟨k1,hx,hf⟩:=YI (Uw h) (by omega);replace e1:cU [D.agg [gw l,I 0,D.v (ZF aad 0)]]=_:=e1;generalize se ⟨l,0,0⟩=sx at *;generalize (fo ⟨l,0,0⟩).1=f at *;obtain⟨c1,x⟩:=sx;simp only at e1 k1 hx;obtain⟨b,c2,e2,k2⟩:=ly c1 12 _ k1 (by omega) (by omega);have hb:=Ld l;have z0:∀y:Stg,stD 2 (.agg [.arr 4 [],.arr 1 []]) (.ref 0 0) (bR y)=some (bR y):=fun y=>by simp
 have z3:∀y:Stg,ba true 2 0 (bR y)=some (bR y):=fun y=>by simp
 rw [yq];cases b
 ·obtain⟨u,c3,e3,hu,k3⟩:=Ks c2 _ k2 (by omega)
  refine⟨f,x,u,?_,hf,hx,by have:=hu.sz;omega⟩
  simp -implicitDefEqProofs [hb,e1,z0,z3,e2,e3]
 ·obtain⟨g,c3,e3,hg,k3⟩:=Sb c2 _ k2 (by omega)
  obtain⟨u,c4,e4,hu,k4⟩:=Ks c3 _ k3 (by omega);refine⟨g,x,u,?_,⟨by have:=hg.ln;omega,fun y hy=>by have:=hg.sz y hy;omega⟩,hx,by have:=hu.sz;omega⟩
  simp -implicitDefEqProofs [hb,e1,z0,z3,e2,e3,e4]
set_option maxRecDepth 100000
theorem SE (r:Option (List Pl)):iQ r=[pls (r.getD []),B r.isSome]:=by cases r<;>rfl
theorem Zo (w h:Int) (l:Ps):aF (D.tup [I w,I h,pcs l]) 0=some (I w)∧aF (D.tup [I w,I h,pcs l]) 1=some (I h)∧aF (D.tup [I w,I h,pcs l]) 2=some (pcs l):=⟨rfl,rfl,rfl⟩
theorem ZA (l:List Int) (b:Bool):aF (D.tup [ints l,B b]) 0=some (ints l)∧aF (cv (D.tup [ints l,B b]) 0) 1=some (B b):=⟨rfl,rfl⟩
theorem Zz (f:List Srt) (x:Stg) (u:ByteArray):aF (D.tup [srs f,bR x,T u]) 0=some (srs f)∧aF (D.tup [srs f,bR x,T u]) 1=some (bR x)∧aF (D.tup [srs f,bR x,T u]) 2=some (T u):=⟨rfl,rfl,rfl⟩
theorem Zx (x:Stg) (b:Bool):aF (D.tup [bR x,B b]) 0=some (bR x)∧aF (D.tup [bR x,B b]) 1=some (B b):=⟨rfl,rfl⟩
theorem Zt (ws bs:List Int) (q1 q2 q3 m:Int):aF (D.tup [ints ws,aL q1 q2 q3,I m,ints bs]) 0=some (ints ws)∧aF (D.tup [ints ws,aL q1 q2 q3,I m,ints bs]) 1=some (aL q1 q2 q3)∧aF (D.tup [ints ws,aL q1 q2 q3,I m,ints bs]) 2=some (I m)∧aF (D.tup [ints ws,aL q1 q2 q3,I m,ints bs]) 3=some (ints bs):=⟨rfl,rfl,rfl,rfl⟩
theorem WW (a:Int) (b:Bool):aF (D.tup [I a,B b]) 0=some (I a)∧aF (D.tup [I a,B b]) 1=some (B b):=⟨rfl,rfl⟩
theorem YW (a:Int) (b c:Bool):aF (D.tup [I a,B b,B c]) 0=some (I a)∧aF (D.tup [I a,B b,B c]) 1=some (B b)∧aF (D.tup [I a,B b,B c]) 2=some (B c):=⟨rfl,rfl,rfl⟩
theorem Zy (l:List Int) (a:Int) (b:Bool):aF (D.tup [ints l,I a,B b]) 0=some (ints l)∧aF (D.tup [ints l,I a,B b]) 1=some (I a)∧aF (D.tup [ints l,I a,B b]) 2=some (B b)∧aF (cv (D.tup [ints l,I a,B b]) 0) 1=some (I a)∧aF (cv (D.tup [ints l,I a,B b]) 0) 2=some (B b):=⟨rfl,rfl,rfl,rfl,rfl⟩
theorem VC (q1 q2 q3 m:Int) (ws:List Int):∃(l:List Int) (a:Int) (b:Bool),nm q1 q2 q3 m ws=[ints l,I a,B b]∧l.length≤1048576∧∀c,Mq q1 q2 q3 m ws c→b=true∧a≤c:=by
 unfold nm;by_cases h:tr ws q1 q2 q3 m=true∧(fA q1 q2 q3 m ws 0).1=true
 ·rw [if_pos h]
  exact⟨_,_,_,rfl,Oo h.1,fun c hc=>⟨rfl,hc.2.2⟩⟩
 ·rw [if_neg h]
  exact⟨_,_,_,rfl,by simp,fun c hc=>absurd ⟨hc.1,hc.2.1⟩ h⟩
theorem RI (x:List Lf):∀k:Nat,∀hk:k<(Hs x).length,∀j:Nat,(j=2*k+1∨j=2*k+2)→∃b,dX [lfs x,I (j:Int)]=some (.ret [I (Hs x)[k],B b,B true] []):=by
 intro k hk j hj;cases hg:jC x
 ·simp [Hs,hg] at hk
 ·have hl:(Hs x)=(piL x).map (·.1):=by simp [Hs,hg]
  have hk':k<(piL x).length:=by rw [hl] at hk;simpa using hk
  obtain⟨b,e⟩:=yT x hg k j hk' hj;refine⟨b,?_⟩
  rw [e,PB hk'];simp [hl]
theorem Vj (x:List Lf):(Hs x).length≤16:=by
 unfold Hs;split
 ·rename_i h
  have:=(Ff h).ln;simpa using this
 ·simp
set_option maxHeartbeats 8000000 in
theorem Wf (code more:List Int) (hb1:∀n∈code,0≤n∧n≤255) (hb2:∀n∈more,0≤n∧n≤255) (hl1:code.length≤9223372036854775807) (hl2:more.length≤9223372036854775807):nH [gw code,gw more]=some (.ret [B true] []):=by
 rw [LZ];simp -implicitDefEqProofs only [aS,ZI,ZG,bZ,Ai];cases decide ((1048576:Int)<ZE.wrap ((code.length:Int)+(more.length:Int)))
 case true=>rfl
 obtain⟨w,h,ps,e1,hp⟩:=DO code ⟨hb1,hl1⟩;have e2:=qQ w h ps (by omega);have e3:=Ce w h ps (by omega);have hfree:=fun q=>zN (w:=w) (h:=h) (l:=ps) (q:=q) (by omega)
 have hql:∀q,nk w h ps=some q→q.length≤1048576:=fun q hq=>(Gs hq).1.1
 generalize nk w h ps=r at *;rw [SE] at e2 e3;have hq:=Gh (r.getD []) (by cases r;simp;exact hql _ rfl);obtain⟨t1,t2,t3⟩:=Zo w h ps;obtain⟨v1,v2⟩:=HZ (r.getD []) r.isSome;have v3:aF (D.tup [pls (r.getD []),B r.isSome]) 1=some (B r.isSome):=rfl;simp -implicitDefEqProofs only [bt,ZH,if_false,e1,bd,t1,t2,t3,e2,e3,v1,v2,v3,ZG,Ho,beq_self_eq_true,ZP,ZY,sc,sA,hq,aE,vF,nT,lH,mq];refine MP (fun s=>s=[gw more]) ?_ (fun j hj=>?_)
 rotate_left
 ·cases r with
  | none =>
   simp -implicitDefEqProofs only [Option.isSome_none,ZH,if_false];exact hj _ rfl
  | some q =>
   have hf:=hfree q rfl;obtain⟨u1,u2⟩:=WW 0 true;simp -implicitDefEqProofs only [Option.isSome_some,if_true,aal,hf,bd,u1,u2,ZG,lH,ZP,sc,ZH,if_false,nG,decide_true,mq,bt];exact hj _ rfl
 ·rintro s rfl
  clear e1 e2 e3 hfree hql hq t1 t2 t3 v1 v2 v3;obtain⟨x,e1,hx⟩:=Es more ⟨hb2,hl2⟩;have e2:=Aj x (by omega);have e3:=CI x (by omega);have hor:=RI x;have hol:=Vj x;generalize Hs x=o at *;generalize jC x=g at *;obtain⟨t1,t2⟩:=ZA o g;have hq:=AQ o (by omega);simp -implicitDefEqProofs only [bt,ZH,if_false,e1,bd,t1,t2,e2,e3,ZG,Ho,beq_self_eq_true,ZP,ZY,sc,sA,hq,aE,vF,nT,lH,mq,aS,ZI];refine ax _ (dn o.length (fun k=>[gw more,lfs x,ints o,I (o.length:Int),I (k:Int)]) (.ext 0 [gw more]) (fun k hk=>?_) ?_ rfl rfl) ?_
  ·have hk':(k:Int)<(o.length:Int):=by omega
   have hwk:ZE.wrap ((k:Int)+1)=((k+1:Nat):Int):=jq (by omega) (by omega);have w1:ZE.wrap (2*(k:Int))=((2*k:Nat):Int):=jq (by omega) (by omega);have w2:ZE.wrap (((2*k:Nat):Int)+1)=((2*k+1:Nat):Int):=jq (by omega) (by omega);have w3:ZE.wrap (((2*k:Nat):Int)+2)=((2*k+2:Nat):Int):=jq (by omega) (by omega);obtain⟨b1,f1⟩:=hor k hk (2*k+1) (.inl rfl);obtain⟨b2,f2⟩:=hor k hk (2*k+2) (.inr rfl);have e4:aI 1 (ints o) (I (k:Int))=some [I o[k]]:=by simp [hk]
   obtain⟨u1,u2,u3⟩:=YW o[k] b1 true;obtain⟨y1,y2,y3⟩:=YW o[k] b2 true;simp -implicitDefEqProofs only [aE,aX,bp,hk',decide_true,ZG,bt,if_true,e4,ZU,fS,eJ,Lh,mf,w1,bZ,w2,f1,bd,u1,u2,u3,w3,f2,y1,y2,y3,lH,ZP,sc,sA,mq,ZH,if_false,nG,hwk,ZY]
  ·have hn:¬(o.length:Int)<(o.length:Int):=by omega
   simp -implicitDefEqProofs only [aE,aX,bp,hn,decide_false,bt,ZH,if_false,ZG]
  ·clear e1 e2 e3 hor hol hq t1 t2
   obtain⟨f,st,u,e1,hf,ht,hu⟩:=IX more ⟨hb2,hl2⟩;have e2:=Fo f st u hf ht.ok (by have:=ht.st;omega) hu;have e3:=GE f st u hf ht.ok (by have:=ht.st;omega) hu;have z0:∀y:Stg,stD 2 (.agg [.arr 4 [],.arr 1 []]) (.ref 0 0) (bR y)=some (bR y):=fun y=>by simp
   have z3:∀y:Stg,ba true 2 0 (bR y)=some (bR y):=fun y=>by simp
   have hlq:((swR f st u).getD ([],[])).1.length≤1048576∧((swR f st u).getD ([],[])).2.length≤1048576:=by
    cases hr:swR f st u with
    | none=>simp
    | some y =>
     obtain⟨a1,a2,a3⟩:=TQ ht.ok (by have:=ht.st;omega) hu hr;have:=a1.1;simp only [aal];omega
   have hq:=Ea ((swR f st u).getD ([],[])) hlq.1 hlq.2;have hback:∀y,swR f st u=some y→st.2=[]→er [bR y]=some (.ret [bR (st.1,[]),B true] []):=fun y hy h0=>by
    have:st=(st.1,[]):=by rw [←h0]
    rw [this] at hy;exact Uc ht.ok hu hy
   generalize swR f st u=r at *;obtain⟨t1,t2,t3⟩:=Zz f st u;obtain⟨u1,u2⟩:=Zx (r.getD ([],[])) r.isSome;simp -implicitDefEqProofs only [cZ,jn,ZM,if_true,aE,aX,e1,bd,t1,t2,t3,z0,z3,ZG,e2,e3,u1,u2,Ho,beq_self_eq_true,ZP,ZY,sc,sA,hq,vF,nT,lH,mq,bt,ZH,if_false];refine MP (fun s=>s=[gw more]) ?_ (fun j hj=>?_)
   rotate_left
   ·cases r with
    | none =>
     simp -implicitDefEqProofs only [Option.isSome_none,ZH,if_false,sc,sA,Mj,ZG,mq,bt];exact hj _ rfl
    | some y =>
     have hjj:=hj _ rfl;have hqb:=xG st.1 ht.ok.1;by_cases h0:st.2=[]
     ·have hd:=hback y rfl h0
      obtain⟨x1,x2⟩:=st;simp only at h0 hd hqb;subst h0;simp -implicitDefEqProofs [hd,hqb,hjj]
     ·have hl0:¬(st.2.length:Int)=0:=by
       have:=List.length_pos_iff.2 h0;omega
      simp -implicitDefEqProofs [h0,hl0,hjj]
   ·rintro s rfl
    clear e1 e2 e3 z0 z3 hlq hq hback t1 t2 t3 u1 u2;obtain⟨ws,q1,q2,q3,m,bs,e1,hw,hbl⟩:=yg more ⟨hb2,hl2⟩;obtain⟨c,b,e2,hc⟩:=vV ws bs q1 q2 q3 m (by omega) hbl;have e3:=AL ws q1 q2 q3 m (by omega);have e4:=Au ws q1 q2 q3 m (by omega);obtain⟨l,a,b',hbe,hll,hat⟩:=VC q1 q2 q3 m ws;rw [hbe] at e3 e4;have hq:=AQ l hll;obtain⟨t1,t2,t3,t4⟩:=Zt ws bs q1 q2 q3 m;obtain⟨u1,u2⟩:=WW c b;obtain⟨y1,y2,y3,y4,y5⟩:=Zy l a b';have z0:stD 3 (.agg [I 0,I 0,I 0]) (.ref 0 0) (aL q1 q2 q3)=some (aL q1 q2 q3):=by simp
    have z3:ba true 3 0 (aL q1 q2 q3)=some (aL q1 q2 q3):=by simp
    cases b
    ·simp -implicitDefEqProofs [e1,e2,e3,e4,hq,t1,t2,t3,t4,u1,u2,y1,y2,y3,y4,y5]
    ·obtain⟨rfl,hle⟩:=hat c (hc rfl)
     simp -implicitDefEqProofs [e1,e2,e3,e4,hq,t1,t2,t3,t4,u1,u2,y1,y2,y3,y4,y5,hle]
end Go.Proofs.YtccaheogjpfhjaaGreat

end
