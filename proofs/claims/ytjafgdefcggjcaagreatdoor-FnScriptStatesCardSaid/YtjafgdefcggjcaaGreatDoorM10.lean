/-
  A part of the proof: contracts and plain forms of functions beneath the statement, made small by a program (names shortened, what is not needed left out).
-/
import Derived.Test.YtjafgdefcggjcaaGreatDoorRows
import Derived.Test.YtjafgdefcggjcaaGreatDoorTie
import Derived.Test.YtjafgdefcggjcaaGreatDoorCards
import Derived.Test.YtjafgdefcggjcaaGreatDoorM9
import Derived.Maps.AppendAt
open Int renaming reduceLT → aiT, reduceLE → aiU, reduceEq → aiV, natCast_add → aju
open List renaming range → aiW, all_eq_true → ai0, getElem_mem → ai1, take_succ_eq_append_getElem → ai4, eq_nil_of_length_eq_zero → ai6, getElem?_eq_getElem → ai7, length_eq_one_iff → ajb, length_map → ajd, length_cons → aje, getD_eq_getElem?_getD → ajf, length_append → ajh, take_length → ajl, foldl_append → ajq, append_assoc → ajr, length_singleton → ajt, length_range → ajB, drop_eq_getElem_cons → ajC, take_of_length_le → ajF, mem_range → ajH, mem_cons → ajI, length_pos_iff → ajK, mem_singleton → ajO, mem_map → ajP, length_drop → ajR, not_mem_nil → ajS, range_succ → ajT, nil_append → ajU, map_append → ajV, replicate → ajX
open Bool renaming and_eq_true → aiX, false_and → ajp, false_eq_true → ajy, true_and → ajA
open Go.IntKind renaming i64 → aiY
open Go.Value renaming int → aiZ, string → ajk, slice → ajG, ownBlock → ajY
open Nat renaming le_refl → ai2, le_trans → ai3, le_of_eq → ai5, zero_le → ajc, pow_le_pow_right → ajg, mul_le_mul → ajj, mul_comm → ajn, lt_of_lt_of_le → ajo, mul_le_mul_right → ajv, zero_add → ajw, succ_mul → ajE, add_sub_cancel → ajN
open ByteArray renaming size_append → ai8
open Option renaming bind_some → ai9, getD_some → ajs, isSome_iff_exists → ajD
open Go.Lib renaming cell_of_heap → aja, frozen_of_heap → ajz
open Option.some renaming injEq → aji
open Array renaming getElem?_eq_some_iff → ajm
open Go.Proofs renaming enters_of → ajx
open Go.World renaming setCell → ajJ, ownsRow_nil → ajQ
open Go.ByteArray renaming toList_eq → ajL
open Go.BinOp renaming add → ajM
open Go.RowKit.Below renaming refl → ajW
set_option maxRecDepth 100000
set_option linter.unusedSimpArgs false
set_option linter.unusedVariables false
noncomputable section
namespace Go.Proofs.YtjafgdefcggjcaaGreatDoor
open Go Go.V
def iA (c:Cn) (w:ByteArray) (r:List Int):ByteArray × Cn :=
 if w=dZ then(if tkB c.m (r.getD 0 0)=true then(mtT (tkR c.m (r.getD 0 0)),{c with m:=tkR c.m (r.getD 0 0)}) else(noT,c))
 else if w=bT then(if shB c.m=true then cj 32 (shR c.m) else noT,c)
 else if w=dP then(if rlB c.s (r.getD 0 0)=true then(cj 32 (rlV c.s (r.getD 0 0)),{c with s:=rsS c.s (rlV c.s (r.getD 0 0))}) else(noT,c))
 else if w=gV then(if cuB c.s (r.getD 0 0) (r.getD 1 0)=true then(stT (cuR c.s (r.getD 0 0) (r.getD 1 0)),{c with s:=cuR c.s (r.getD 0 0) (r.getD 1 0)}) else(noT,c))
 else(if (tz c.s (r.getD 0 0)).isSome=true then aI (Bw c.s (r.getD 0 0)) else noT,c)
theorem Bj {m:Me} {g:Int} (hm:cr m=true):cr (tkR m g)=true:=by
 unfold tkR;split
 ·rename_i h
  have h':=h;unfold tkB asB at h';simp only [aiX,decide_eq_true_eq] at h';obtain⟨⟨-,h0,h1⟩,h2⟩:=h';have hp:=IE hm h0 h1;simp only [cr,in6,aiX,decide_eq_true_eq] at hm ⊢;unfold reM;dsimp only;omega
 ·decide
theorem NB {l:List Slp} {i n:Int}:cA (cuR l i n)=true:=by
 unfold cuR;split
 ·rename_i h
  unfold cuB at h;simp only [aiX] at h;exact h.2
 ·rfl
theorem Cb {l:List Slp} {n:Int} (hg:cA l=true):(rlV l n).length≤8∧∀x∈rlV l n,0≤x∧x≤20:=by
 have h8:=dE hg;unfold rlV;split
 ·rename_i h
  unfold rlB at h;simp only [aiX] at h;obtain⟨v,hv⟩:=ajD.1 h.2;have hb:=adq (l:=l) (i:=l.length) (n:=n.toNat) (v:=v) (ai2 _) (by rw [ajl];exact hv);refine⟨by rw [rB];exact h8,fun x hx=>?_⟩
  obtain⟨j,hj,rfl⟩:=List.getElem_of_mem hx;have hj':j<l.length:=by rw [rB] at hj;exact hj
  have:=hb j hj';rw [ajf,ai7 hj,ajs] at this;have hok:=dW hg l[j] (ai1 hj');have hC:=UC hj' hok.2.1;omega
 ·simp
theorem ZG {l:List Slp} {n:Int}:0≤Bw l n∧Bw l n≤400:=by
 unfold Bw tz;by_cases h:rlA l n=true
 ·rw [if_pos h]
  obtain⟨-,h1,h2⟩:=rC.1 h;cases hq:Kc (fun k=>(de l k).isSome) n.toNat (401 - n.toNat) with
  | none=>simp
  | some k =>
   have:=ZM _ _ _ _ hq;dsimp only;omega
 ·rw [if_neg h]
  simp
theorem Hz {l:List Int} (h:l.length=2):∃a b,l=[a,b]:=by
 match l,h with
 | [a,b],_=>exact⟨a,b,rfl⟩
theorem JY {l:List Int} (h:l.length=3):∃a b c,l=[a,b,c]:=by
 match l,h with
 | [a,b,c],_=>exact⟨a,b,c,rfl⟩
theorem va {l:List Int} (h:∀x∈l,-1000000000000000000<x∧x<1000000000000000000):ae7 l:=fun x hx=>by
 have:=h x hx;omega
theorem nw (c:Cn) (x y:Value) (n:Int) (w:ByteArray) (r:List Int) (hm:cr c.m=true) (hs:cA c.s=true)
  (hw:(w=dZ∧r.length=1)∨(w=bT∧r.length=0)∨(w=dP∧r.length=1)∨(w=gV∧r.length=2)∨(w=bA∧r.length=1)) :
  cH [cnD c x y n,T w,ai r]=some (.ret [T (iA c w r).1] [cnD (iA c w r).2 x y n]):=by
 rw [zM];have h8:=dE hs;rcases hw with ⟨rfl,hr⟩ | ⟨rfl,hr⟩ | ⟨rfl,hr⟩ | ⟨rfl,hr⟩ | ⟨rfl,hr⟩
 ·obtain⟨a,rfl⟩:=ajb.1 hr
  have hel:aq 1 (ai [a]) (D.v (aiZ aiY 0))=some [I a]:=rfl;have e1:=LK c.m a;have e2:=pl (Bj (g:=a) hm);have hmc:iA c dZ [a]=if tkB c.m a=true then(mtT (tkR c.m a),{c with m:=tkR c.m a}) else(noT,c):=rfl;rw [hmc];cases hq:tkB c.m a<;>rw [hq] at e1<;>simp -implicitDefEqProofs only [aw,aiT,aiU,aiV,Ai,hel,e1,e2,t0G,t1G,t2V,sF,sO,aae,bO,cf,bm,aV,VX,nF,nX]
 ·obtain rfl:=ai6 hr
  have e1:=MA c.m;have hb:∀z∈shR c.m,0≤z∧z≤1000:=by
   unfold shR;split
   ·rename_i h
    exact(UQ h).2.2
   ·simp
  have hl3:(shR c.m).length≤3:=by
   unfold shR;split<;>simp [shL]
  have e2:=vl (shR c.m) (by omega) (va fun z hz=>by have:=hb z hz;omega) (fun z hz=>by have:=hb z hz;omega);have hmc:iA c bT []=(if shB c.m=true then cj 32 (shR c.m) else noT,c):=rfl;rw [hmc];cases hq:shB c.m<;>rw [hq] at e1<;>simp -implicitDefEqProofs only [aw,aiT,aiU,aiV,uO,mr,e1,e2,t0A,lN,t1V,aae,bO,cf,bm,aV,nF,nX]
 ·obtain⟨a,rfl⟩:=ajb.1 hr
  have hel:aq 1 (ai [a]) (D.v (aiZ aiY 0))=some [I a]:=rfl;have e1:=QN c.s a (by omega);have hmc:iA c dP [a]=if rlB c.s a=true then(cj 32 (rlV c.s a),{c with s:=rsS c.s (rlV c.s a)}) else(noT,c):=rfl;obtain⟨hv1,hv2⟩:=Cb (n:=a) hs;have e2:=vl (rlV c.s a) (by omega) (va fun z hz=>by have:=hv2 z hz;omega) (fun z hz=>by have:=hv2 z hz;omega);rw [hmc];cases hq:rlB c.s a
  ·rw [hq] at e1
   simp -implicitDefEqProofs only [aw,aiT,aiU,aiV,ue,vf,ux,hel,e1,t0A,t1V,aaI,bO,cf,bm,aV]
  ·rw [hq] at e1
   have hlen:(rlV c.s a).length=c.s.length:=by unfold rlV;rw [if_pos hq,rB]
   have e3:=Qo c.s (rlV c.s a) (by omega) hlen;simp -implicitDefEqProofs only [aw,aiT,aiU,aiV,ue,vf,ux,hel,e1,e2,e3,t0A,t1V,aaI,acC,bO,cf,bm,aV]
 ·obtain⟨a,b,rfl⟩:=Hz hr
  have hel:aq 1 (ai [a,b]) (D.v (aiZ aiY 0))=some [I a]:=rfl;have hel1:aq 1 (ai [a,b]) (D.v (aiZ aiY 1))=some [I b]:=rfl;have e1:=NX c.s a b (by omega);have hck:=NB (l:=c.s) (i:=a) (n:=b);have h8':=dE hck;have e2:=uR (cuR c.s a b) (by omega) (dW hck);have hmc:iA c gV [a,b]=if cuB c.s a b=true then(stT (cuR c.s a b),{c with s:=cuR c.s a b}) else(noT,c):=rfl;rw [hmc];cases hq:cuB c.s a b<;>rw [hq] at e1<;>simp -implicitDefEqProofs only [aw,aiT,aiU,aiV,Gc,Hv,Ge,Js,hel,hel1,e1,e2,t0A,t1V,aaI,acC,bO,cf,bm,aV,nF,nX]
 ·obtain⟨a,rfl⟩:=ajb.1 hr
  have hel:aq 1 (ai [a]) (D.v (aiZ aiY 0))=some [I a]:=rfl;have e1:=Gz c.s a (by omega);have hmb:=ZG (l:=c.s) (n:=a);have e2:=oa (n:=Bw c.s a) (by omega) (by omega);have hmc:iA c bA [a]=(if (tz c.s a).isSome=true then aI (Bw c.s a) else noT,c):=rfl;rw [hmc];cases hq:(tz c.s a).isSome<;>rw [hq] at e1<;>simp -implicitDefEqProofs only [aw,aiT,aiU,aiV,tv,oP,sP,vn,hel,e1,e2,t0V,t1V,aaI,bO,cf,bm,aV,nF,nX]
theorem ON {l:List Fo} {i:Nat} (h:i<l.length):aq 2 (fos l) (I (i:Int))=some [I l[i].1,B l[i].2]:=by simp [h,D.cells]
theorem tk2 (a b:D):an true 2 [a,b]=some (.agg [a,b]):=rfl
theorem yN (x:Fo):aM (D.agg [I x.1,B x.2])=some (fo x):=rfl
theorem qF (a b:D) (x:Fo):stD 2 (D.agg [a,b]) (D.ref 0 0) (fo x)=some (fo x):=rfl
theorem gE (x:Fo) (k:Nat):aa (fo x) (D.ref 0 k)=some (D.ref 0 k):=rfl
theorem wj (x:Fo):(atD (fo x) (D.ref 0 0)).bind (an false 1)=some (I x.1):=rfl
theorem ZY (x:Fo):(atD (fo x) (D.ref 0 1)).bind (an false 1)=some (B x.2):=rfl
theorem Ek (l:List Fo) (h:l.length≤1000000):lM [fos l]=some (.ret [B (ro l)] []):=by
 rw [Rg];simp -implicitDefEqProofs only [aw,aiT,aiU,aiV];refine aG _ (pY l (fun i=>[fos l,fos l,I l.length,I i]) (fun _ x=>decide (1≤x.1∧x.1≤2)) (.ret [B false] []) (.ext 0 [fos l]) (fun i hi=>?_) ?_ rfl rfl rfl) ?_
 ·have hil:(i:Int)<l.length:=by omega
  have e1:=ON hi;have e2:=br l[i].1 1 2;by_cases hc:1≤l[i].1∧l[i].1≤2
  ·simp -implicitDefEqProofs only [aw,aiT,aiU,aiV,hil,e1,tk2,yN,qF,gE,wj,e2,hc,wI (show i≤1000000 by omega)]
  ·simp -implicitDefEqProofs only [aw,aiT,aiU,aiV,hil,e1,tk2,yN,qF,gE,wj,e2,hc,wI (show i≤1000000 by omega)]
 ·have:¬(l.length:Int)<l.length:=by omega
  simp -implicitDefEqProofs only [aw,aiT,aiU,aiV,this]
 ·rw [wG]
  unfold ro;have h4:decide ((l.length:Int)≤4)=decide (l.length≤4):=by
   by_cases h:l.length≤4
   ·rw [decide_eq_true h,decide_eq_true (by omega)]
   ·rw [decide_eq_false h,decide_eq_false (by omega)]
  cases hq:l.all fun x=>decide (1≤x.1∧x.1≤2)
  ·simp -implicitDefEqProofs only [aw,aiT,aiU,aiV,sT,ajp]
  ·simp -implicitDefEqProofs only [aw,aiT,aiU,aiV,h4,ajA]
def szS (s:Nat × Nat) (f:Fo):Nat × Nat:=if f.1=1 then(s.1*2,s.2) else(s.1,s.2*2)
theorem OX {l:List Fo} {i:Nat} (h:i<l.length):szF (l.take (i+1))=szS (szF (l.take i)) l[i]:=by
 unfold szF;rw [ai4 h,ajq];rfl
theorem ZN {l:List Fo} (h4:l.length≤4):∀i,i≤l.length→(szF (l.take i)).1≤2 ^ i∧(szF (l.take i)).2≤2 ^ i
 | 0,_=>by simp [szF]
 | i+1,hi=>by
  have ih:=ZN h4 i (by omega);rw [OX (by omega),Nat.pow_succ];unfold szS;split<;>dsimp only<;>omega
theorem Dq (l:List Fo) (h4:l.length≤4):lH [fos l]=some (.ret [I ((szF l).1:Int),I ((szF l).2:Int)] []):=by
 rw [Sa];simp -implicitDefEqProofs only [aw,aiT,aiU,aiV];refine aG (.ext 0 [I ((szF l).1:Int),I ((szF l).2:Int)]) (aY l.length (fun i=>[I ((szF (l.take i)).1:Int),I ((szF (l.take i)).2:Int),fos l,I l.length,I (i:Int)]) _ (fun i hi=>?_) ?_ rfl rfl) ?_
 ·have hil:(i:Int)<l.length:=by omega
  have e1:=ON hi;have hb:=ZN h4 i (by omega);have hp:2 ^ i≤2 ^ 4:=ajg (by decide) (by omega);rw [OX hi];generalize szF (l.take i)=s at hb;unfold szS;have w1:aiY.wrap ((s.1:Int)*2)=((s.1*2:Nat):Int):=by rw [ah (by omega) (by omega)];omega
  have w2:aiY.wrap ((s.2:Int)*2)=((s.2*2:Nat):Int):=by rw [ah (by omega) (by omega)];omega
  by_cases hc:l[i].1=1
  ·have hcd:=decide_eq_true hc
   rw [if_pos hc];simp -implicitDefEqProofs only [aw,aiT,aiU,aiV,hil,e1,tk2,yN,qF,gE,wj,hcd,wI (show i≤1000000 by omega),w1,w2]
  ·have hcd:=decide_eq_false hc
   rw [if_neg hc];simp -implicitDefEqProofs only [aw,aiT,aiU,aiV,hil,e1,tk2,yN,qF,gE,wj,hcd,wI (show i≤1000000 by omega),w1,w2]
 ·rw [ajl]
  have:¬(l.length:Int)<l.length:=by omega
  simp -implicitDefEqProofs only [aw,aiT,aiU,aiV,this]
 ·simp -implicitDefEqProofs only [aw,aiT,aiU,aiV]
theorem BO (p:List Int):(qL p).length=p.length:=by simp [qL]
theorem Ye {p:List Int} {j:Nat} (h:j<p.length):(qL p).take (j+1)=(qL p).take j++[-(p[p.length - 1 - j]'(by omega))]:=by
 rw [ai4 (by rw [BO];exact h)];congr 2
 unfold qL;rw [List.getElem_map,List.getElem_reverse]
theorem Dy (p:List Int) (h:p.length≤1000) (hb:∀x∈p,-1000000≤x∧x≤1000000):lG [ai p]=some (.ret [ai (qL p)] []):=by
 rw [Ri];have w0:aiY.wrap ((p.length:Int) - 1)=(p.length:Int) - 1:=ah (by omega) (by omega);simp -implicitDefEqProofs only [aw,aiT,aiU,aiV,w0];refine aG (.ext 0 [ai (qL p)]) (aY p.length (fun j=>[ai p,ai ((qL p).take j),I ((p.length:Int) - 1 - (j:Int))]) _ (fun j hj=>?_) ?_ rfl ?_) ?_
 ·have hge:(0:Int)≤(p.length:Int) - 1 - (j:Int):=by omega
  have hix:(p.length:Int) - 1 - (j:Int)=((p.length - 1 - j:Nat):Int):=by omega
  have e1:=qi (l:=p) (i:=p.length - 1 - j) (by omega);rw [←hix] at e1;have hx:=hb _ (ai1 (show p.length - 1 - j<p.length by omega));have ht:=Ye hj;generalize p[p.length - 1 - j]=v at *;have hu:un UnOp.neg (I v)=some (I (-v)):=by rw [Uk,ah (by omega) (by omega)]
  have hm:aA 1 [I (-v)]=some (.arr 1 [I (-v)]):=rfl;have hck:cR (.arr 1 [I (-v)])=some (.arr 1 [I (-v)]):=kX [-v];have ha:bB 1 8 (ai ((qL p).take j)) (.arr 1 [I (-v)])=some (ai ((qL p).take j++[-v])):=eL (m:=[-v]) (by simp;omega);rw [←ht] at ha;have w1:aiY.wrap ((p.length:Int) - 1 - (j:Int) - 1)=(p.length:Int) - 1 - ((j+1:Nat):Int):=by rw [ah (by omega) (by omega)];omega
  simp -implicitDefEqProofs only [aw,aiT,aiU,aiV,hge,e1,hu,hm,hck,ha,w1]
 ·have hge:¬(0:Int)≤(p.length:Int) - 1 - (p.length:Int):=by omega
  rw [ajF (by rw [BO];exact ai2 _)];simp -implicitDefEqProofs only [aw,aiT,aiU,aiV,hge]
 ·rw [show((0:Nat):Int)=0 from rfl,Int.sub_zero]
  rfl
 ·simp -implicitDefEqProofs only [aw,aiT,aiU,aiV]
theorem GF (a b:List Int) (o:Bool) (ha:a.length≤1000) (hb:b.length≤1000):nk [ai a,ai b,B o]=some (.ret [ai (abp a b o)] []):=by
 rw [UN];have o1:=nZ a (by omega);have o2:=nZ b (by omega);have c1:=kX a;have c2:=kX b;have a1:=eL (l:=a) (m:=b) (by omega);have a2:=eL (l:=b) (m:=a) (by omega);unfold abp;cases o<;>simp -implicitDefEqProofs only [aw,aiT,aiU,aiV,o1,o2,c1,c2,a1,a2]
theorem UO {n:Int} (h : -1000000≤n∧n≤1000000):jd [I n]=some (.ret [I (Fb n)] []):=by
 rw [TY];have hu:un UnOp.neg (I n)=some (I (-n)):=by rw [Uk,ah (by omega) (by omega)]
 have e1:=QR n (-n);simp -implicitDefEqProofs only [aw,aiT,aiU,aiV,hu,e1];rfl
def okG (l:List Fo):Bool:=(aiW (l.length+1)).all fun n=>(kF l n).2.2.all fun p=>p.all fun x=>decide (-100≤x∧x≤100)
theorem Ym:uS.all okG=true:=by decide +kernel
structure PlOk (l:List Fo) (n:Nat):Prop where
 c:(kF l n).1≤16
 r:(kF l n).2.1≤16
 len:(kF l n).2.2.length=(kF l n).1*(kF l n).2.1
 p:∀p∈(kF l n).2.2,p.length=2 ^ n
 b:∀p∈(kF l n).2.2,∀x∈p,-100≤x∧x≤100
theorem UM:∀(l:List Fo),l.length≤4→(szF l).1≤16∧(szF l).2≤16:=fun l h4=>by
 have:=ZN h4 l.length (ai2 _);rw [ajl] at this;have hp:2 ^ l.length≤2 ^ 4:=ajg (by decide) h4;omega
theorem aiQ {l:List Fo} (hl:l∈uS) (h4:l.length≤4) {n:Nat} (hn:n<l.length):PlOk l n:=by
 have h1:=ai0.1 JG l hl;have h2:=ai0.1 Ym l hl;unfold okF at h1;simp only [aiX,decide_eq_true_eq] at h1;have h3:=ai0.1 h1.2 n (ajH.2 hn);simp only [aiX,decide_eq_true_eq] at h3;obtain⟨-,⟨⟨g1,g2⟩,g3⟩,g4⟩:=h3;have hs:=UM (l.drop n) (by rw [ajR];omega);refine⟨by omega,by omega,g3,fun p hp=>?_,fun p hp=>?_⟩
 ·have:=ai0.1 g4 p hp
  simpa using this
 ·have:=ai0.1 (ai0.1 h2 n (ajH.2 (by omega))) p hp
  intro x hx;have:=ai0.1 this x hx;simpa using this
theorem Zn {l:List Fo} {n:Nat} (h:n<l.length):kF l (n+1)=Tn (kF l n) l[n]:=by
 unfold kF;rw [ai4 h,ajq];rfl
def nV {α:Type} (F:Nat→Nat→α) (w j:Nat):List α:=(aiW j).flatMap fun r=>(aiW w).map (F r)
theorem FZ {α:Type} (F:Nat→Nat→α) (w j:Nat):nV F w (j+1)=nV F w j++(aiW w).map (F j):=by simp [nV,ajT]
theorem KD {α:Type} (F:Nat→Nat→α) (w:Nat):∀j,(nV F w j).length=j*w
 | 0=>by simp [nV]
 | j+1=>by rw [FZ,ajh,KD F w j,ajd,ajB,ajE]
theorem jj {α:Type} (g:Nat→α) (k:Nat):(aiW (k+1)).map g=(aiW k).map g++[g k]:=by simp [ajT]
theorem Vs {a b:Nat} (ha:a≤16) (hb:b≤16):aiY.wrap ((a:Int)*(b:Int))=((a*b:Nat):Int):=by
 have h:a*b≤16*16:=ajj ha hb;rw [←Int.natCast_mul,ah (by omega) (by omega)]
theorem VL {a b:Nat} (h:a+b≤1000000):aiY.wrap ((a:Int)+(b:Int))=((a+b:Nat):Int):=by rw [ah (by omega) (by omega)];omega
theorem ZV {a b:Nat} (h:b≤a) (ha:a≤1000000):aiY.wrap ((a:Int) - (b:Int))=((a - b:Nat):Int):=by rw [ah (by omega) (by omega)];omega
theorem sL {a:Nat} (ha:a≤1000000):bin BinOp.quo false [] (I (a:Int)) (D.v (aiZ aiY 2))=some (I ((a / 2:Nat):Int)):=by
 rw [md,if_neg (by decide),Int.tdiv_eq_ediv_of_nonneg (by omega),ah (by omega) (by omega)];congr 3
theorem XN {a:Nat} (h:1≤a) (ha:a≤1000000):aiY.wrap ((a:Int) - 1)=((a - 1:Nat):Int):=by rw [ah (by omega) (by omega)];omega
theorem vQ {ps:List (List Int)} {i:Nat} (h:i<ps.length):ps.getD i []=ps[i]:=by simp [h]
abbrev hF (c:Nat) (ps:List (List Int)) (o:Bool) (j k:Nat):List Int:=abp (ps.getD (j*c+k) []) (qL (ps.getD (j*c+c - 1 - k) [])) o
abbrev vF (c r:Nat) (ps:List (List Int)) (o:Bool) (j k:Nat):List Int:=abp (ps.getD (j*c+k) []) (qL (ps.getD ((r - 1 - j)*c+k) [])) o
theorem afW {s:Nat × Nat × List (List Int)} {f:Fo} (h:f.1=1):Tn s f=(s.1 / 2,s.2.1,nV (hF s.1 s.2.2 f.2) (s.1 / 2) s.2.1):=by
 unfold Tn;rw [if_pos h];rfl
theorem afe {s:Nat × Nat × List (List Int)} {f:Fo} (h:¬f.1=1):Tn s f=(s.1,s.2.1 / 2,nV (vF s.1 s.2.1 s.2.2 f.2) s.1 (s.2.1 / 2)):=by
 unfold Tn;rw [if_neg h];rfl
theorem QK (l:List Fo) (hl:l∈uS) (h4:l.length≤4) (hfin:du l≠[]∧0<(kF l l.length).2.2.length):lF [fos l]=some (.ret [ai (du l)] []):=by
 rw [RM];have hz:=UM l h4;have e1:=Dq l h4;simp -implicitDefEqProofs only [aw,aiT,aiU,aiV,e1,t0V,t1V];have hp0:kF l 0=((szF l).1,(szF l).2,(aiW ((szF l).1*(szF l).2)).map fun i=>[((i:Nat):Int)+1]):=rfl;have hcr:(szF l).1*(szF l).2≤16*16:=ajj hz.1 hz.2;have hmul:=Vs hz.1 hz.2;refine aG (.ext 0 [fos l,I ((szF l).1:Int),I ((szF l).2:Int),fC (kF l 0).2.2]) (aY ((szF l).1*(szF l).2) (fun i=>[fos l,I ((szF l).1:Int),I ((szF l).2:Int),fC ((aiW i).map fun i=>[((i:Nat):Int)+1]),I (i:Int)]) _ (fun i hi=>?_) ?_ rfl rfl) ?_
 ·have hil:(i:Int)<(((szF l).1*(szF l).2:Nat):Int):=by omega
  have hm:aA 1 [I (((i+1:Nat)):Int)]=some (ai [((i+1:Nat):Int)]):=rfl;have ht:=xA [((i+1:Nat):Int)];have ha:=IG (l:=(aiW i).map fun i=>[((i:Nat):Int)+1]) (m:=[[((i+1:Nat):Int)]]) (by simp;omega);have hsn:=jj (fun i=>[((i:Nat):Int)+1]) i;rw [show([((i+1:Nat):Int)]:List Int)=[(i:Int)+1] from by rw [aju];rfl,←hsn] at ha;rw [show([((i+1:Nat):Int)]:List Int)=[(i:Int)+1] from by rw [aju];rfl] at ht hm;simp -implicitDefEqProofs only [aw,aiT,aiU,aiV,hmul,hil,wI (show i≤1000000 by omega),hm,ht,ha]
 ·have hil:¬(((szF l).1*(szF l).2:Nat):Int)<(((szF l).1*(szF l).2:Nat):Int):=by omega
  simp -implicitDefEqProofs only [aw,aiT,aiU,aiV,hmul,hil];rw [hp0]
 simp -implicitDefEqProofs only [aw,aiT,aiU,aiV];refine aG (.ext 2 [fC (kF l l.length).2.2]) (aY l.length (fun i=>[I ((kF l i).1:Int),I ((kF l i).2.1:Int),fC (kF l i).2.2,fos l,I l.length,I (i:Int)]) _ (fun i hi=>?_) ?_ rfl ?_) ?_
 ·have hil:(i:Int)<l.length:=by omega
  have hk:=aiQ hl h4 hi;have e1:=ON hi;rw [Zn hi];obtain⟨k1,k2,k3,k4,k5⟩:=hk;generalize kF l i=s at k1 k2 k3 k4 k5;obtain⟨c,r,ps⟩:=s;dsimp only at k1 k2 k3 k4 k5 ⊢;have hpl:∀q,q<ps.length→((ps.getD q []).length≤1000∧∀x∈ps.getD q [],-1000000≤x∧x≤1000000):=by
   intro q hq;rw [vQ hq];have hm:=ai1 hq;have hp2:2 ^ i≤2 ^ 4:=ajg (by decide) (by omega);refine⟨by rw [k4 _ hm];omega,fun x hx=>?_⟩
   have:=k5 _ hm x hx;omega
  have hps:ps.length≤256:=by
   have:c*r≤16*16:=ajj k1 k2;omega
  by_cases hc:l[i].1=1
  ·have hcd:=decide_eq_true hc
   rw [afW hc];simp -implicitDefEqProofs only [aw,aiT,aiU,aiV,hil,e1,tk2,yN,qF,gE,wj,hcd];refine aG (.ext 4 [I (c:Int),I (r:Int),fC ps,fC (nV (hF c ps l[i].2) (c / 2) r),fos l,I l.length,I (i:Int)])
    (aY r (fun j=>[I (c:Int),I (r:Int),fC ps,fo l[i],fC (nV (hF c ps l[i].2) (c / 2) j),I (j:Int),fos l,I l.length,I (i:Int)]) _ (fun j hj=>?_) ?_ rfl rfl) ?_
   ·have hjr:(j:Int)<r:=by omega
    simp -implicitDefEqProofs only [aw,aiT,aiU,aiV,hjr];refine aG (.ext 6 [I (c:Int),I (r:Int),fC ps,fo l[i],fC (nV (hF c ps l[i].2) (c / 2) (j+1)),I (j:Int),fos l,I l.length,I (i:Int)])
     (aY (c / 2) (fun k=>[I (c:Int),I (r:Int),fC ps,fo l[i],fC (nV (hF c ps l[i].2) (c / 2) j++(aiW k).map (hF c ps l[i].2 j)),I (j:Int),I (k:Int),fos l,I l.length,I (i:Int)]) _ (fun k hk=>?_) ?_ rfl ?_) ?_
    ·have hkc:(k:Int)<((c / 2:Nat):Int):=by omega
     have hjc:j*c+c≤ps.length:=by
      rw [k3,←ajE,ajn c r];exact ajv _ hj
     have h1:j*c+k<ps.length:=by omega
     have h2:j*c+c - 1 - k<ps.length:=by omega
     have m1:=Vs (a:=j) (b:=c) (by omega) k1;have a1:=VL (a:=j*c) (b:=k) (by omega);have a2:=VL (a:=j*c) (b:=c) (by omega);have a3:=XN (a:=j*c+c) (by omega) (by omega);have a4:=ZV (a:=j*c+c - 1) (b:=k) (by omega) (by omega);have r1:=xr h1;have r2:=xr h2;have t1:=Ft h1;have t2:=Ft h2;obtain⟨q1,q2⟩:=hpl _ h1;obtain⟨q3,q4⟩:=hpl _ h2;rw [←vQ h1] at t1;rw [←vQ h2] at t2;have e2:=Dy _ q3 q4;have e3:=GF (ps.getD (j*c+k) []) (qL (ps.getD (j*c+c - 1 - k) [])) l[i].2 q1 (by rw [BO];exact q3);have hsn:=jj (hF c ps l[i].2 j) k;have hrl:(nV (hF c ps l[i].2) (c / 2) j).length≤256:=by
      rw [KD];exact ajj (show j≤16 by omega) (show c / 2≤16 by omega)
     have ha:=IG (l:=nV (hF c ps l[i].2) (c / 2) j++(aiW k).map (hF c ps l[i].2 j)) (m:=[hF c ps l[i].2 j k]) (by simp only [ajh,ajd,ajB,ajt];omega);rw [ajr,←hsn] at ha;have ht:=xA (hF c ps l[i].2 j k);simp -implicitDefEqProofs only [aw,aiT,aiU,aiV,sL (show c≤1000000 by omega),hkc,m1,a1,a2,a3,a4,r1,r2,t1,t2,e2,e3,gE,ZY,ht,ha,wI (show k≤1000000 by omega)]
    ·have hkc:¬((c / 2:Nat):Int)<((c / 2:Nat):Int):=by omega
     rw [←FZ];simp -implicitDefEqProofs only [aw,aiT,aiU,aiV,sL (show c≤1000000 by omega),hkc]
    ·simp
    ·simp -implicitDefEqProofs only [aw,aiT,aiU,aiV,wI (show j≤1000000 by omega)]
   ·have hjr:¬(r:Int)<r:=by omega
    simp -implicitDefEqProofs only [aw,aiT,aiU,aiV,hjr]
   ·simp -implicitDefEqProofs only [aw,aiT,aiU,aiV,sL (show c≤1000000 by omega),wI (show i≤1000000 by omega)]
  ·have hcd:=decide_eq_false hc
   rw [afe hc];simp -implicitDefEqProofs only [aw,aiT,aiU,aiV,hil,e1,tk2,yN,qF,gE,wj,hcd];refine aG (.ext 8 [I (c:Int),I (r:Int),fC ps,fC (nV (vF c r ps l[i].2) c (r / 2)),fos l,I l.length,I (i:Int)])
    (aY (r / 2) (fun j=>[I (c:Int),I (r:Int),fC ps,fo l[i],fC (nV (vF c r ps l[i].2) c j),I (j:Int),fos l,I l.length,I (i:Int)]) _ (fun j hj=>?_) ?_ rfl rfl) ?_
   ·have hjr:(j:Int)<((r / 2:Nat):Int):=by omega
    simp -implicitDefEqProofs only [aw,aiT,aiU,aiV,sL (show r≤1000000 by omega),hjr];refine aG (.ext 10 [I (c:Int),I (r:Int),fC ps,fo l[i],fC (nV (vF c r ps l[i].2) c (j+1)),I (j:Int),fos l,I l.length,I (i:Int)])
     (aY c (fun k=>[I (c:Int),I (r:Int),fC ps,fo l[i],fC (nV (vF c r ps l[i].2) c j++(aiW k).map (vF c r ps l[i].2 j)),I (j:Int),I (k:Int),fos l,I l.length,I (i:Int)]) _ (fun k hk=>?_) ?_ rfl ?_) ?_
    ·have hkc:(k:Int)<(c:Int):=by omega
     have hjc:j*c+c≤ps.length:=by
      rw [k3,←ajE,ajn c r];exact ajv _ (by omega)
     have hjc2:(r - 1 - j)*c+c≤ps.length:=by
      rw [k3,←ajE,ajn c r];exact ajv _ (by omega)
     have h1:j*c+k<ps.length:=by omega
     have h2:(r - 1 - j)*c+k<ps.length:=by omega
     have m1:=Vs (a:=j) (b:=c) (by omega) k1;have m2:=Vs (a:=r - 1 - j) (b:=c) (by omega) k1;have a1:=VL (a:=j*c) (b:=k) (by omega);have a2:=VL (a:=(r - 1 - j)*c) (b:=k) (by omega);have a3:=XN (a:=r) (by omega) (by omega);have a4:=ZV (a:=r - 1) (b:=j) (by omega) (by omega);have r1:=xr h1;have r2:=xr h2;have t1:=Ft h1;have t2:=Ft h2;obtain⟨q1,q2⟩:=hpl _ h1;obtain⟨q3,q4⟩:=hpl _ h2;rw [←vQ h1] at t1;rw [←vQ h2] at t2;have e2:=Dy _ q3 q4;have e3:=GF (ps.getD (j*c+k) []) (qL (ps.getD ((r - 1 - j)*c+k) [])) l[i].2 q1 (by rw [BO];exact q3);have hsn:=jj (vF c r ps l[i].2 j) k;have hrl:(nV (vF c r ps l[i].2) c j).length≤256:=by
      rw [KD];exact ajj (show j≤16 by omega) (show c≤16 by omega)
     have ha:=IG (l:=nV (vF c r ps l[i].2) c j++(aiW k).map (vF c r ps l[i].2 j)) (m:=[vF c r ps l[i].2 j k]) (by simp only [ajh,ajd,ajB,ajt];omega);rw [ajr,←hsn] at ha;have ht:=xA (vF c r ps l[i].2 j k);simp -implicitDefEqProofs only [aw,aiT,aiU,aiV,hkc,m1,m2,a1,a2,a3,a4,r1,r2,t1,t2,e2,e3,gE,ZY,ht,ha,wI (show k≤1000000 by omega)]
    ·have hkc:¬(c:Int)<(c:Int):=by omega
     rw [←FZ];simp -implicitDefEqProofs only [aw,aiT,aiU,aiV,hkc]
    ·simp
    ·simp -implicitDefEqProofs only [aw,aiT,aiU,aiV,wI (show j≤1000000 by omega)]
   ·have hjr:¬((r / 2:Nat):Int)<((r / 2:Nat):Int):=by omega
    simp -implicitDefEqProofs only [aw,aiT,aiU,aiV,sL (show r≤1000000 by omega),hjr]
   ·simp -implicitDefEqProofs only [aw,aiT,aiU,aiV,sL (show r≤1000000 by omega),wI (show i≤1000000 by omega)]
 ·have:¬(l.length:Int)<l.length:=by omega
  simp -implicitDefEqProofs only [aw,aiT,aiU,aiV,this]
 ·rw [hp0]
  rfl
 ·have hlt:=hfin.2
  have r1:fd 1 (fC (kF l l.length).2.2) (D.v (aiZ aiY 0))=some (.ref 0 0):=xr (i:=0) hlt;have t1:=Ft (i:=0) hlt;rw [←vQ hlt] at t1;simp -implicitDefEqProofs only [aw,aiT,aiU,aiV,r1,t1];rfl
def ZS (a:List Int × List Int) (p:Int × Nat):List Int × List Int :=
 (a.1.set (Fb p.1 - 1).toNat (if p.1<0 then 2*(p.2:Int)+2 else 2*(p.2:Int)+1),a.2.set (Fb p.1 - 1).toNat (if p.1<0 then 2*(p.2:Int)+1 else 2*(p.2:Int)+2))
def nB (p:List Int) (n:Nat):List Int × List Int:=(p.take n).zipIdx.foldl ZS (ajX p.length 0,ajX p.length 0)
theorem PY (l:List Fo) (n:Nat):Ad l n=nB (du l) n:=rfl
theorem Lt {p:List Int} {n:Nat} (h:n<p.length):nB p (n+1)=ZS (nB p n) (p[n],n):=by
 unfold nB;rw [ai4 h,List.zipIdx_append,ajq,List.length_take,Nat.min_eq_left (by omega)];simp
theorem wX (p:List Int):∀n,n≤p.length→(nB p n).1.length=p.length∧(nB p n).2.length=p.length
 | 0,_=>by simp [nB]
 | n+1,h=>by
  have ih:=wX p n (by omega);rw [Lt (by omega)];simp only [ZS,List.length_set];exact ih
theorem OO (l:List Fo) (p:List Int) (he:lF [fos l]=some (.ret [ai p] [])) (hp:p.length≤1000) (hr:∀x∈p,(0≤Fb x - 1∧Fb x - 1<(p.length:Int)) ∧ -1000000≤x∧x≤1000000) :
  kE [fos l]=some (.ret [ai (nB p p.length).1,ai (nB p p.length).2] []):=by
 rw [Pz];have hm:=AD (n:=p.length) (by omega);simp -implicitDefEqProofs only [aw,aiT,aiU,aiV,he,hm];refine aG (.ext 0 [ai (nB p p.length).1,ai (nB p p.length).2]) (aY p.length (fun i=>[ai (nB p i).1,ai (nB p i).2,ai p,I p.length,I (i:Int)]) _ (fun i hi=>?_) ?_ rfl rfl) ?_
 ·have hil:(i:Int)<p.length:=by omega
  have e1:=qi hi;obtain⟨⟨h1,h2⟩,h3⟩:=hr _ (ai1 hi);obtain⟨l1,l2⟩:=wX p i (by omega);rw [Lt hi];unfold ZS;dsimp only;generalize nB p i=s at l1 l2;obtain⟨a,b⟩:=s;dsimp only at l1 l2 ⊢;have ea:=UO h3;generalize p[i]=x at *;have w1:aiY.wrap (2*(i:Int))=2*(i:Int):=ah (by omega) (by omega);have w2:aiY.wrap (2*(i:Int)+1)=2*(i:Int)+1:=ah (by omega) (by omega);have w3:aiY.wrap (2*(i:Int)+2)=2*(i:Int)+2:=ah (by omega) (by omega);have w4:aiY.wrap (Fb x - 1)=((Fb x - 1).toNat:Int):=by rw [ah (by omega) (by omega)];omega
  have hk:(Fb x - 1).toNat<p.length:=by omega
  generalize (Fb x - 1).toNat=k at *;have r1:=qr (l:=a) (i:=k) (by omega);have r2:=qr (l:=b) (i:=k) (by omega);have s1:=pN a k (2*(i:Int)+1) (by omega);have s2:=pN a k (2*(i:Int)+2) (by omega);have s3:=pN b k (2*(i:Int)+1) (by omega);have s4:=pN b k (2*(i:Int)+2) (by omega);by_cases hx:x<0
  ·simp -implicitDefEqProofs only [aw,aiT,aiU,aiV,hil,e1,w1,w2,w3,hx,ea,w4,r1,r2,s1,s2,s3,s4,wI (show i≤1000000 by omega)]
  ·simp -implicitDefEqProofs only [aw,aiT,aiU,aiV,hil,e1,w1,w2,w3,hx,ea,w4,r1,r2,s1,s2,s3,s4,wI (show i≤1000000 by omega)]
 ·have:¬(p.length:Int)<p.length:=by omega
  simp -implicitDefEqProofs only [aw,aiT,aiU,aiV,this]
 ·simp -implicitDefEqProofs only [aw,aiT,aiU,aiV]
def qN (cols:Nat) (l:List Int):Nat→ByteArray
 | 0=>⟨⟨[]⟩⟩
 | i+1=>qN cols l i++aI (l.getD i 0)++Ll cols i
theorem OT (cols:Nat) (l:List Int):∀i,i≤l.length→ae (qN cols l i)++ae (qS cols i (l.drop i))=ae (qS cols 0 l)
 | 0,_=>by simp [qN,rV]
 | i+1,h=>by
  have ih:=OT cols l i (by omega);rw [←ih,ajC (show i<l.length by omega)];have hg:l.getD i 0=l[i]:=by simp [show i<l.length by omega]
  simp only [qN,qS,hg,bh,ajr]
theorem Sp (cols:Nat) (l:List Int):qN cols l l.length=qS cols 0 l:=by
 have:=OT cols l l.length (ai2 _);rw [List.drop_length] at this;apply bP;rw [←this];simp [qS,rV]
theorem ab8 (cols i:Nat):(Ll cols i).size=1:=by
 unfold Ll;split<;>rfl
theorem FA (cols:Nat) (l:List Int) (h:∀n∈l,0≤n∧n≤1000):∀i,i≤l.length→(qN cols l i).size≤5*i
 | 0,_=>ai2 0
 | i+1,hi=>by
  have ih:=FA cols l h i (by omega);have hg:l.getD i 0=l[i]:=by simp [show i<l.length by omega]
  have hx:=h _ (ai1 (show i<l.length by omega));have hz:=bX 3 (n:=l[i]) hx.1 (by omega);have h1:=ab8 cols i;simp only [qN,hg,ai8];omega
theorem HO (l:List Fo) (hg:ro l=true) (c:Nat) (p q:List Int) (hc:(szF l).1=c) (hc0:0<c) (hc1:c≤1000) (he:kE [fos l]=some (.ret [ai p,ai q] [])) (hp:p.length≤1000) (hr:∀x∈p,0≤x∧x≤1000) :
  gK [fos l]=some (.ret [T (qS c 0 p),B true] []):=by
 rw [IA];have h4:l.length≤4:=by
  unfold ro at hg;simp only [aiX,decide_eq_true_eq] at hg;exact hg.2
 have e1:=Ek l (by omega);rw [hg] at e1;have e2:=Dq l h4;rw [hc] at e2;simp -implicitDefEqProofs only [aw,aiT,aiU,aiV,e1,e2,t0V,t1V,he,t0A,lN,t1A];refine aG (.ext 0 [T (qS c 0 p)]) (aY p.length (fun i=>[I (c:Int),T (qN c p i),ai p,I p.length,I (i:Int)]) _ (fun i hi=>?_) ?_ rfl rfl) ?_
 ·have hil:(i:Int)<p.length:=by omega
  have e1:=qi hi;have hx:=hr _ (ai1 hi);have e2:=bR (n:=p[i]) (by omega) (by omega);have hz:=FA c p hr i (by omega);have hz2:=bX 3 (n:=p[i]) hx.1 (by omega);have hgd:p.getD i 0=p[i]:=by simp [hi]
  have a1:bin ajM false [] (T (qN c p i)) (T (aI p[i]))=some (T (qN c p i++aI p[i])):=by rw [fT,if_pos (by omega)]
  have hrem:bin BinOp.rem false [] (I (i:Int)) (I (c:Int))=some (I ((i % c:Nat):Int)):=by
   rw [aar,if_neg (by omega),Int.tmod_eq_emod_of_nonneg (by omega)];congr 3
  have w1:=XN (a:=c) (by omega) (by omega);by_cases hq:i % c=c - 1
  ·have hq':((i % c:Nat):Int)=((c - 1:Nat):Int):=by rw [hq]
   have a2:bin ajM false [] (T (qN c p i++aI p[i])) (D.v (ajk {data:={toList:=[47]}}))=some (T (qN c p (i+1))):=by
    rw [show(D.v (ajk {data:={toList:=[47]}}))=T ⟨⟨[47]⟩⟩ from rfl,fT,if_pos (by rw [ai8,Hm];omega)];simp only [qN,hgd,Ll,hq,if_true]
   simp -implicitDefEqProofs only [aw,aiT,aiU,aiV,hil,e1,e2,a1,hrem,w1,hq',a2,wI (show i≤1000000 by omega)]
  ·have hq':¬((i % c:Nat):Int)=((c - 1:Nat):Int):=by omega
   have a2:bin ajM false [] (T (qN c p i++aI p[i])) (D.v (ajk {data:={toList:=[44]}}))=some (T (qN c p (i+1))):=by
    rw [show(D.v (ajk {data:={toList:=[44]}}))=T ⟨⟨[44]⟩⟩ from rfl,fT,if_pos (by rw [ai8,Hm];omega)];simp only [qN,hgd,Ll,hq,if_false]
   simp -implicitDefEqProofs only [aw,aiT,aiU,aiV,hil,e1,e2,a1,hrem,w1,hq',a2,wI (show i≤1000000 by omega)]
 ·have:¬(p.length:Int)<p.length:=by omega
  rw [Sp];simp -implicitDefEqProofs only [aw,aiT,aiU,aiV,this]
 ·simp -implicitDefEqProofs only [aw,aiT,aiU,aiV]
theorem yo (l:List Fo) (h:l.length≤1000000):dN [fos l]=some (.ret [B (ro l)] []):=by
 rw [MK];simp -implicitDefEqProofs only [aw,aiT,aiU,aiV];refine aG _ (pY l (fun i=>[fos l,fos l,I l.length,I i]) (fun _ x=>decide (1≤x.1∧x.1≤2)) (.ret [B false] []) (.ext 0 [fos l]) (fun i hi=>?_) ?_ rfl rfl rfl) ?_
 ·have hil:(i:Int)<l.length:=by omega
  have e1:=ON hi;by_cases h1:l[i].1=1
  ·have h1d:=decide_eq_true h1
   have hc:(1≤l[i].1∧l[i].1≤2)=True:=eq_true (by omega);simp -implicitDefEqProofs only [aw,aiT,aiU,aiV,hil,e1,tk2,yN,qF,gE,wj,h1d,decide_not,hc,wI (show i≤1000000 by omega)]
  ·have h1d:=decide_eq_false h1
   by_cases h2:l[i].1=2
   ·have h2d:=decide_eq_true h2
    have hc:(1≤l[i].1∧l[i].1≤2)=True:=eq_true (by omega);simp -implicitDefEqProofs only [aw,aiT,aiU,aiV,hil,e1,tk2,yN,qF,gE,wj,h1d,h2d,decide_not,hc,wI (show i≤1000000 by omega)]
   ·have h2d:=decide_eq_false h2
    have hc:(1≤l[i].1∧l[i].1≤2)=False:=eq_false (by omega);simp -implicitDefEqProofs only [aw,aiT,aiU,aiV,hil,e1,tk2,yN,qF,gE,wj,h1d,h2d,decide_not,hc,wI (show i≤1000000 by omega)]
 ·have:¬(l.length:Int)<l.length:=by omega
  simp -implicitDefEqProofs only [aw,aiT,aiU,aiV,this]
 ·rw [wG]
  unfold ro;have h4:decide ((l.length:Int)≤4)=decide (l.length≤4):=by
   by_cases h:l.length≤4
   ·rw [decide_eq_true h,decide_eq_true (by omega)]
   ·rw [decide_eq_false h,decide_eq_false (by omega)]
  cases hq:l.all fun x=>decide (1≤x.1∧x.1≤2)
  ·simp -implicitDefEqProofs only [aw,aiT,aiU,aiV,sT,ajp]
  ·simp -implicitDefEqProofs only [aw,aiT,aiU,aiV,h4,ajA]
theorem wb (l:List Fo) (h4:l.length≤4):eU [fos l]=some (.ret [I ((szF l).1:Int),I ((szF l).2:Int)] []):=by
 rw [JA];simp -implicitDefEqProofs only [aw,aiT,aiU,aiV];refine aG (.ext 0 [I ((szF l).1:Int),I ((szF l).2:Int)]) (aY l.length (fun i=>[I ((szF (l.take i)).1:Int),I ((szF (l.take i)).2:Int),fos l,I l.length,I (i:Int)]) _ (fun i hi=>?_) ?_ rfl rfl) ?_
 ·have hil:(i:Int)<l.length:=by omega
  have e1:=ON hi;have hb:=ZN h4 i (by omega);have hp:2 ^ i≤2 ^ 4:=ajg (by decide) (by omega);rw [OX hi];generalize szF (l.take i)=s at hb;unfold szS;have w1:aiY.wrap ((s.1:Int)*2)=((s.1*2:Nat):Int):=by rw [ah (by omega) (by omega)];omega
  have w2:aiY.wrap ((s.2:Int)*2)=((s.2*2:Nat):Int):=by rw [ah (by omega) (by omega)];omega
  by_cases hc:l[i].1=1
  ·have hcd:=decide_eq_true hc
   rw [if_pos hc];simp -implicitDefEqProofs only [aw,aiT,aiU,aiV,hil,e1,tk2,yN,qF,gE,wj,hcd,wI (show i≤1000000 by omega),w1,w2]
  ·have hcd:=decide_eq_false hc
   rw [if_neg hc];simp -implicitDefEqProofs only [aw,aiT,aiU,aiV,hil,e1,tk2,yN,qF,gE,wj,hcd,wI (show i≤1000000 by omega),w1,w2]
 ·rw [ajl]
  have:¬(l.length:Int)<l.length:=by omega
  simp -implicitDefEqProofs only [aw,aiT,aiU,aiV,this]
 ·simp -implicitDefEqProofs only [aw,aiT,aiU,aiV]
theorem MR (l:List Fo):cR (fos l)=some (fos l):=qg fun _=>rfl
theorem tF {l m:List Fo} (h:l.length+m.length≤1000000):bB 2 16 (fos l) (fos m)=some (fos (l++m)):=by
 rw [gH,if_pos (by simp only [ajd];omega)];simp
theorem Vc (a:Int) (b:Bool):dp [(0,1),(1,1)] [D.v (aiZ aiY 0),D.v (Value.bool false)] [I a,B b]=some (D.agg [I a,B b]):=rfl
def vV (o:List Lf):List Lf:=o.reverse.map fun x=>(x.1,!x.2)
theorem JV (o:List Lf):(vV o).length=o.length:=by simp [vV]
theorem ZC {p:List Lf} {j:Nat} (h:j<p.length):(vV p).take (j+1)=(vV p).take j++[((p[p.length - 1 - j]'(by omega)).1,!(p[p.length - 1 - j]'(by omega)).2)]:=by
 rw [ai4 (by rw [JV];exact h)];congr 2
 unfold vV;rw [List.getElem_map,List.getElem_reverse]
theorem Pm (p o:List Lf) (b:Bool) (hp:p.length≤1000) (ho:o.length≤1000):sG [fos p,fos o,B b]=some (.ret [fos (lW p o b)] []):=by
 rw [Yk];have w0:aiY.wrap ((o.length:Int) - 1)=(o.length:Int) - 1:=ah (by omega) (by omega);simp -implicitDefEqProofs only [aw,aiT,aiU,aiV,w0];refine aG (.ext 0 [fos p,B b,fos (vV o)]) (aY o.length (fun j=>[fos p,fos o,B b,fos ((vV o).take j),I ((o.length:Int) - 1 - (j:Int))]) _ (fun j hj=>?_) ?_ rfl ?_) ?_
 ·have hge:(0:Int)≤(o.length:Int) - 1 - (j:Int):=by omega
  have hix:(o.length:Int) - 1 - (j:Int)=((o.length - 1 - j:Nat):Int):=by omega
  have e1:=ON (l:=o) (i:=o.length - 1 - j) (by omega);rw [←hix] at e1;have ht:=ZC hj;generalize o[o.length - 1 - j]=v at *;have hm:aA 2 [D.agg [I v.1,B !v.2]]=some (fos [(v.1,!v.2)]):=rfl;have hck:=MR [(v.1,!v.2)];have ha:=tF (l:=(vV o).take j) (m:=[(v.1,!v.2)]) (by simp;omega);rw [←ht] at ha;have w1:aiY.wrap ((o.length:Int) - 1 - (j:Int) - 1)=(o.length:Int) - 1 - ((j+1:Nat):Int):=by rw [ah (by omega) (by omega)];omega
  simp -implicitDefEqProofs only [aw,aiT,aiU,aiV,hge,e1,Vc,hm,hck,ha,w1]
 ·have hge:¬(0:Int)≤(o.length:Int) - 1 - (o.length:Int):=by omega
  rw [ajF (by rw [JV];exact ai2 _)];simp -implicitDefEqProofs only [aw,aiT,aiU,aiV,hge]
 ·rw [show((0:Nat):Int)=0 from rfl,Int.sub_zero]
  rfl
 ·have c1:=MR p
  have hl:=JV o;have a1:=tF (l:=vV o) (m:=p) (by omega);have a2:=tF (l:=[]) (m:=p) (by simp;omega);rw [ajU] at a2;have a2':bB 2 16 (D.arr 2 []) (fos p)=some (fos p):=a2;have a3:=tF (l:=p) (m:=vV o) (by omega);have hlv:aa (fos (vV o)) (D.ref 0 0)=some (D.ref 0 0):=rfl;have hlv2:aa (D.ref 0 0) (fos (vV o))=some (fos (vV o)):=rfl;unfold lW;cases b<;>simp -implicitDefEqProofs only [aw,aiT,aiU,aiV,c1,a1,a2',a3,hlv,hlv2]
  ·rfl
  ·rfl
abbrev yU (r:List (List Lf)):D:=.arr 1 (r.map fun p=>fos p)
abbrev kl (ps:Pls):D:=.arr 1 (ps.map fun r=>yU r)
theorem Ol {r:List (List Lf)} {i:Nat} (h:i<r.length):aq 1 (yU r) (I (i:Int))=some [fos r[i]]:=by simp [h]
theorem Uw {r:Pls} {i:Nat} (h:i<r.length):aq 1 (kl r) (I (i:Int))=some [yU r[i]]:=by simp [h]
theorem Ue (p:List Lf):aA 1 [fos p]=some (yU [p]):=by simp [aA,kx]
theorem TR (r:List (List Lf)):aA 1 [yU r]=some (kl [r]):=by simp [aA,kx]
theorem Uf {l m:List (List Lf)} (h:l.length+m.length≤1000000):bB 1 24 (yU l) (yU m)=some (yU (l++m)):=by
 rw [gH,if_pos (by simp;omega),←ajV]
theorem Ua {l m:Pls} (h:l.length+m.length≤1000000):bB 1 24 (kl l) (kl m)=some (kl (l++m)):=by
 rw [gH,if_pos (by simp;omega),←ajV]
theorem acj {ps:Pls} {y x:Nat} (hy:y<ps.length) (hx:x<ps[y].length):atF ps y x=ps[y][x]:=by
 unfold atF;simp [hy,hx]
structure RectF (ps:Pls) (rows cols m:Nat):Prop where
 r:ps.length=rows
 c:∀row∈ps,row.length=cols
 p:∀row∈ps,∀p∈row,p.length=m
theorem adX (x:Fo):gu 2 (fo x)=some (fo x):=rfl
theorem Ml (ps:Pls) (f:Fo) (rows cols m:Nat) (h:RectF ps rows cols m) (hr:rows≤1000) (hr0:0<rows) (hc:cols≤1000) (hm:m≤1000):mp [kl ps,fo f]=some (.ret [kl (Xz ps f)] []):=by
 rw [LJ];obtain⟨h1,h2,h3⟩:=h;have hp0:0<ps.length:=by omega
 have e0:aq 1 (kl ps) (D.v (aiZ aiY 0))=some [yU ps[0]]:=Uw (i:=0) hp0;have hc0:=h2 _ (ai1 hp0);have hlen:∀y (hy:y<ps.length) x (hx:x<ps[y].length),ps[y][x].length≤1000:=fun y hy x hx=>by
  rw [h3 _ (ai1 hy) _ (ai1 hx)];exact hm
 by_cases hf:f.1=2
 ·have hfd:=decide_eq_true hf
  unfold Xz;rw [if_pos hf];simp -implicitDefEqProofs only [aw,aiT,aiU,aiV,adX,e0,gE,wj,hfd];refine aG (.ext 0 [kl ((aiW (ps.length / 2)).map fun y=>(aiW (ps.getD y []).length).map fun x=>lW (atF ps y x) (atF ps (ps.length - 1 - y) x) f.2)])
   (aY (ps.length / 2) (fun j=>[kl ps,fo f,I (ps.length:Int),kl ((aiW j).map fun y=>(aiW (ps.getD y []).length).map fun x=>lW (atF ps y x) (atF ps (ps.length - 1 - y) x) f.2),I (j:Int)]) _ (fun j hj=>?_) ?_ rfl rfl) ?_
  ·have hjl:(j:Int)<((ps.length / 2:Nat):Int):=by omega
   have hjp:j<ps.length:=by omega
   have e1:=Uw hjp;have hcj:=h2 _ (ai1 hjp);have hgj:ps.getD j []=ps[j]:=by simp [hjp]
   simp -implicitDefEqProofs only [aw,aiT,aiU,aiV,sL (show ps.length≤1000000 by omega),hjl,e1];refine aG (.ext 2 [kl ps,fo f,I (ps.length:Int),kl ((aiW j).map fun y=>(aiW (ps.getD y []).length).map fun x=>lW (atF ps y x) (atF ps (ps.length - 1 - y) x) f.2),I (j:Int),yU ((aiW (ps.getD j []).length).map fun x=>lW (atF ps j x) (atF ps (ps.length - 1 - j) x) f.2)])
    (aY ps[j].length (fun k=>[kl ps,fo f,I (ps.length:Int),kl ((aiW j).map fun y=>(aiW (ps.getD y []).length).map fun x=>lW (atF ps y x) (atF ps (ps.length - 1 - y) x) f.2),I (j:Int),yU ((aiW k).map fun x=>lW (atF ps j x) (atF ps (ps.length - 1 - j) x) f.2),I (ps[j].length:Int),I (k:Int)]) _ (fun k hk=>?_) ?_ rfl rfl) ?_
   ·have hkl:(k:Int)<(ps[j].length:Int):=by omega
    have e2:=Ol (r:=ps[j]) hk;have hop:ps.length - 1 - j<ps.length:=by omega
    have hco:=h2 _ (ai1 hop);have e3:=Uw hop;have hko:k<(ps[ps.length - 1 - j]).length:=by omega
    have e4:=Ol (r:=ps[ps.length - 1 - j]) hko;have a3:=XN (a:=ps.length) (by omega) (by omega);have a4:=ZV (a:=ps.length - 1) (b:=j) (by omega) (by omega);have e5:=Pm ps[j][k] (ps[ps.length - 1 - j][k]) f.2 (hlen _ hjp _ hk) (hlen _ hop _ hko);have hsn:=jj (fun x=>lW (atF ps j x) (atF ps (ps.length - 1 - j) x) f.2) k;rw [acj hjp hk,acj hop hko] at hsn;have ht:=Ue (lW ps[j][k] (ps[ps.length - 1 - j][k]) f.2);have ha:=Uf (l:=(aiW k).map fun x=>lW (atF ps j x) (atF ps (ps.length - 1 - j) x) f.2) (m:=[lW ps[j][k] (ps[ps.length - 1 - j][k]) f.2]) (by simp;omega);rw [←hsn] at ha;simp -implicitDefEqProofs only [aw,aiT,aiU,aiV,hkl,e1,e2,e3,e4,a3,a4,gE,ZY,e5,ht,ha,wI (show k≤1000000 by omega)]
   ·have hkl:¬(ps[j].length:Int)<(ps[j].length:Int):=by omega
    rw [hgj];simp -implicitDefEqProofs only [aw,aiT,aiU,aiV,hkl]
   ·have hsn:=jj (fun y=>(aiW (ps.getD y []).length).map fun x=>lW (atF ps y x) (atF ps (ps.length - 1 - y) x) f.2) j
    have ht:=TR ((aiW (ps.getD j []).length).map fun x=>lW (atF ps j x) (atF ps (ps.length - 1 - j) x) f.2);have ha:=Ua (l:=(aiW j).map fun y=>(aiW (ps.getD y []).length).map fun x=>lW (atF ps y x) (atF ps (ps.length - 1 - y) x) f.2) (m:=[(aiW (ps.getD j []).length).map fun x=>lW (atF ps j x) (atF ps (ps.length - 1 - j) x) f.2]) (by simp;omega);rw [←hsn] at ha;simp -implicitDefEqProofs only [aw,aiT,aiU,aiV,ht,ha,wI (show j≤1000000 by omega)]
  ·have hjl:¬((ps.length / 2:Nat):Int)<((ps.length / 2:Nat):Int):=by omega
   simp -implicitDefEqProofs only [aw,aiT,aiU,aiV,sL (show ps.length≤1000000 by omega),hjl]
  ·simp -implicitDefEqProofs only [aw,aiT,aiU,aiV]
 ·have hfd:=decide_eq_false hf
  unfold Xz;rw [if_neg hf];have hg0:ps.getD 0 []=ps[0]:=by simp [hp0]
  rw [hg0,hc0];simp -implicitDefEqProofs only [aw,aiT,aiU,aiV,adX,e0,gE,wj,hfd];rw [hc0];refine aG (.ext 4 [kl ((aiW ps.length).map fun y=>(aiW (cols / 2)).map fun x=>lW (atF ps y x) (atF ps y (cols - 1 - x)) f.2)])
   (aY ps.length (fun j=>[fo f,I (cols:Int),kl ((aiW j).map fun y=>(aiW (cols / 2)).map fun x=>lW (atF ps y x) (atF ps y (cols - 1 - x)) f.2),kl ps,I (ps.length:Int),I (j:Int)]) _ (fun j hj=>?_) ?_ rfl rfl) ?_
  ·have hjl:(j:Int)<(ps.length:Int):=by omega
   have e1:=Uw hj;have hcj:=h2 _ (ai1 hj);simp -implicitDefEqProofs only [aw,aiT,aiU,aiV,hjl,e1];refine aG (.ext 6 [fo f,I (cols:Int),kl ((aiW j).map fun y=>(aiW (cols / 2)).map fun x=>lW (atF ps y x) (atF ps y (cols - 1 - x)) f.2),yU ((aiW (cols / 2)).map fun x=>lW (atF ps j x) (atF ps j (cols - 1 - x)) f.2),kl ps,I (ps.length:Int),I (j:Int)])
    (aY (cols / 2) (fun k=>[fo f,I (cols:Int),kl ((aiW j).map fun y=>(aiW (cols / 2)).map fun x=>lW (atF ps y x) (atF ps y (cols - 1 - x)) f.2),yU ps[j],yU ((aiW k).map fun x=>lW (atF ps j x) (atF ps j (cols - 1 - x)) f.2),I (k:Int),kl ps,I (ps.length:Int),I (j:Int)]) _ (fun k hk=>?_) ?_ rfl rfl) ?_
   ·have hkl:(k:Int)<((cols / 2:Nat):Int):=by omega
    have hk1:k<ps[j].length:=by omega
    have hk2:cols - 1 - k<ps[j].length:=by omega
    have e2:=Ol (r:=ps[j]) hk1;have e4:=Ol (r:=ps[j]) hk2;have a3:=XN (a:=cols) (by omega) (by omega);have a4:=ZV (a:=cols - 1) (b:=k) (by omega) (by omega);have e5:=Pm ps[j][k] (ps[j][cols - 1 - k]) f.2 (hlen _ hj _ hk1) (hlen _ hj _ hk2);have hsn:=jj (fun x=>lW (atF ps j x) (atF ps j (cols - 1 - x)) f.2) k;rw [acj hj hk1,acj hj hk2] at hsn;have ht:=Ue (lW ps[j][k] (ps[j][cols - 1 - k]) f.2);have ha:=Uf (l:=(aiW k).map fun x=>lW (atF ps j x) (atF ps j (cols - 1 - x)) f.2) (m:=[lW ps[j][k] (ps[j][cols - 1 - k]) f.2]) (by simp;omega);rw [←hsn] at ha;simp -implicitDefEqProofs only [aw,aiT,aiU,aiV,sL (show cols≤1000000 by omega),hkl,e2,e4,a3,a4,gE,ZY,e5,ht,ha,wI (show k≤1000000 by omega)]
   ·have hkl:¬((cols / 2:Nat):Int)<((cols / 2:Nat):Int):=by omega
    simp -implicitDefEqProofs only [aw,aiT,aiU,aiV,sL (show cols≤1000000 by omega),hkl]
   ·have hsn:=jj (fun y=>(aiW (cols / 2)).map fun x=>lW (atF ps y x) (atF ps y (cols - 1 - x)) f.2) j
    have ht:=TR ((aiW (cols / 2)).map fun x=>lW (atF ps j x) (atF ps j (cols - 1 - x)) f.2);have ha:=Ua (l:=(aiW j).map fun y=>(aiW (cols / 2)).map fun x=>lW (atF ps y x) (atF ps y (cols - 1 - x)) f.2) (m:=[(aiW (cols / 2)).map fun x=>lW (atF ps j x) (atF ps j (cols - 1 - x)) f.2]) (by simp;omega);rw [←hsn] at ha;simp -implicitDefEqProofs only [aw,aiT,aiU,aiV,ht,ha,wI (show j≤1000000 by omega)]
  ·have hjl:¬(ps.length:Int)<(ps.length:Int):=by omega
   simp -implicitDefEqProofs only [aw,aiT,aiU,aiV,hjl]
  ·simp -implicitDefEqProofs only [aw,aiT,aiU,aiV]
def okH (l:List Fo):Bool:=decide (0<(gx l l.length).length)&&decide (0<((gx l l.length).getD 0 []).length)&&decide (du l≠[])&&decide (0<(kF l l.length).2.2.length)
 && decide ((fk l).length≤16)&&decide ((du l).length≤16)&&(du l).all fun x=>decide (-100≤x∧x≤100)
theorem wZ:uS.all okH=true:=by decide +kernel
theorem WM {l:List Fo} {n:Nat} (h:n<l.length):gx l (n+1)=Xz (gx l n) l[n]:=by
 unfold gx;rw [ai4 h,ajq];rfl
theorem agQ {l:List Fo} (hl:l∈uS) {n:Nat} (hn:n<l.length):RectF (gx l n) (szF (l.drop n)).2 (szF (l.drop n)).1 (2 ^ n):=by
 have h1:=ai0.1 JG l hl;unfold okF at h1;simp only [aiX,decide_eq_true_eq] at h1;have h3:=ai0.1 h1.2 n (ajH.2 hn);simp only [aiX,decide_eq_true_eq] at h3;have h4:=h3.1;unfold af2 at h4;simp only [aiX,decide_eq_true_eq] at h4;refine⟨h4.1,fun row hrow=>?_,fun row hrow p hp=>?_⟩
 ·have:=ai0.1 h4.2 row hrow
  simp only [aiX,decide_eq_true_eq] at this;exact this.1
 ·have:=ai0.1 h4.2 row hrow
  simp only [aiX,decide_eq_true_eq] at this;have:=ai0.1 this.2 p hp;simpa using this
theorem Ut:∀(l:List Fo) (a b:Nat),0<a→0<b→0<(l.foldl (fun s f=>if f.1=1 then(s.1*2,s.2) else(s.1,s.2*2)) (a,b)).1∧0<(l.foldl (fun s f=>if f.1=1 then(s.1*2,s.2) else(s.1,s.2*2)) (a,b)).2
 | [],a,b,ha,hb=>⟨ha,hb⟩
 | f::l,a,b,ha,hb=>by
  rw [List.foldl_cons];split
  ·exact Ut l (a*2) b (by omega) hb
  ·exact Ut l a (b*2) ha (by omega)
theorem agh (x:Fo):bf true 2 0 (fo x)=some (fo x):=rfl
theorem Wd (ps:Pls):aa (kl ps) (D.ref 0 0)=some (D.ref 0 0):=rfl
theorem Tb (ps:Pls):aa (D.ref 0 0) (kl ps)=some (kl ps):=rfl
theorem Qp (l:List Fo) (hl:l∈uS) (h4:l.length≤4):fM [fos l]=some (.ret [fos (fk l)] []):=by
 rw [RZ];have hz:=UM l h4;have e1:=wb l h4;have hH:=ai0.1 wZ l hl;unfold okH at hH;simp only [aiX,decide_eq_true_eq] at hH;have hn1:=hH.1.1.1.1.1.1;have hn2:=hH.1.1.1.1.1.2;clear hH;have hp0:gx l 0=(aiW (szF l).2).map fun y=>(aiW (szF l).1).map fun x=>[(((y*(szF l).1+x:Nat):Int),true)]:=rfl
 have hp0':kl (gx l 0)=kl ((aiW (szF l).2).map fun y=>(aiW (szF l).1).map fun x=>[(((y*(szF l).1+x:Nat):Int),true)]):=rfl;simp -implicitDefEqProofs only [aw,aiT,aiU,aiV,e1,t0V,t1V];refine aG (.ext 0 [fos l,kl (gx l 0)]) (aY (szF l).2 (fun y=>[fos l,I ((szF l).1:Int),I ((szF l).2:Int),kl ((aiW y).map fun y=>(aiW (szF l).1).map fun x=>[(((y*(szF l).1+x:Nat):Int),true)]),I (y:Int)]) _ (fun y hy=>?_) ?_ rfl rfl) ?_
 ·have hyl:(y:Int)<((szF l).2:Int):=by omega
  simp -implicitDefEqProofs only [aw,aiT,aiU,aiV,hyl];refine aG (.ext 2 [fos l,I ((szF l).1:Int),I ((szF l).2:Int),kl ((aiW y).map fun y=>(aiW (szF l).1).map fun x=>[(((y*(szF l).1+x:Nat):Int),true)]),I (y:Int),yU ((aiW (szF l).1).map fun x=>[(((y*(szF l).1+x:Nat):Int),true)])])
   (aY (szF l).1 (fun x=>[fos l,I ((szF l).1:Int),I ((szF l).2:Int),kl ((aiW y).map fun y=>(aiW (szF l).1).map fun x=>[(((y*(szF l).1+x:Nat):Int),true)]),I (y:Int),yU ((aiW x).map fun x=>[(((y*(szF l).1+x:Nat):Int),true)]),I (x:Int)]) _ (fun x hx=>?_) ?_ rfl rfl) ?_
  ·have hxl:(x:Int)<((szF l).1:Int):=by omega
   have m1:=Vs (a:=y) (b:=(szF l).1) (by omega) hz.1;have hb:y*(szF l).1≤16*16:=ajj (by omega) hz.1;have a1:=VL (a:=y*(szF l).1) (b:=x) (by omega);have hm:aA 2 [D.agg [I ((y*(szF l).1+x:Nat):Int),B true]]=some (fos [(((y*(szF l).1+x:Nat):Int),true)]):=rfl;have ht:=Ue [(((y*(szF l).1+x:Nat):Int),true)];have hsn:=jj (fun x=>[(((y*(szF l).1+x:Nat):Int),true)]) x;have ha:=Uf (l:=(aiW x).map fun x=>[(((y*(szF l).1+x:Nat):Int),true)]) (m:=[[(((y*(szF l).1+x:Nat):Int),true)]]) (by simp;omega);rw [←hsn] at ha;simp -implicitDefEqProofs only [aw,aiT,aiU,aiV,hxl,m1,a1,Vc,hm,ht,ha,wI (show x≤1000000 by omega)]
  ·have hxl:¬((szF l).1:Int)<((szF l).1:Int):=by omega
   simp -implicitDefEqProofs only [aw,aiT,aiU,aiV,hxl]
  ·have hsn:=jj (fun y=>(aiW (szF l).1).map fun x=>[(((y*(szF l).1+x:Nat):Int),true)]) y
   have ht:=TR ((aiW (szF l).1).map fun x=>[(((y*(szF l).1+x:Nat):Int),true)]);have ha:=Ua (l:=(aiW y).map fun y=>(aiW (szF l).1).map fun x=>[(((y*(szF l).1+x:Nat):Int),true)]) (m:=[(aiW (szF l).1).map fun x=>[(((y*(szF l).1+x:Nat):Int),true)]]) (by simp;omega);rw [←hsn] at ha;simp -implicitDefEqProofs only [aw,aiT,aiU,aiV,ht,ha,wI (show y≤1000000 by omega)]
 ·have hyl:¬((szF l).2:Int)<((szF l).2:Int):=by omega
  simp -implicitDefEqProofs only [aw,aiT,aiU,aiV,hyl];rw [hp0']
 simp -implicitDefEqProofs only [aw,aiT,aiU,aiV];refine aG (.ext 4 [kl (gx l l.length)]) (aY l.length (fun i=>[kl (gx l i),fos l,I l.length,I (i:Int)]) _ (fun i hi=>?_) ?_ rfl rfl) ?_
 ·have hil:(i:Int)<l.length:=by omega
  have e1:=ON hi;have hk:=agQ hl hi;have hs:=UM (l.drop i) (by rw [ajR];omega);have hs2:=Ut (l.drop i) 1 1 (by decide) (by decide);have hp:2 ^ i≤2 ^ 4:=ajg (by decide) (by omega);have e2:=Ml _ l[i] _ _ _ hk (by omega) hs2.2 (by omega) (by omega);rw [WM hi];simp -implicitDefEqProofs only [aw,aiT,aiU,aiV,hil,e1,tk2,yN,qF,agh,Wd,Tb,e2,wI (show i≤1000000 by omega)]
 ·have:¬(l.length:Int)<l.length:=by omega
  simp -implicitDefEqProofs only [aw,aiT,aiU,aiV,this]
 ·have r1:fd 1 (kl (gx l l.length)) (D.v (aiZ aiY 0))=some (.ref 0 0):=by
   have:fd 1 (kl (gx l l.length)) (I ((0:Nat):Int))=_:=lI;rw [if_pos (by simpa using hn1)] at this;exact this
  have t1:(atD (kl (gx l l.length)) (.ref 0 0)).bind (an false 1)=some (yU (gx l l.length)[0]):=by simp [hn1]
  have hg:(gx l l.length).getD 0 []=(gx l l.length)[0]:=by simp [hn1]
  rw [hg] at hn2;have e1:aq 1 (yU (gx l l.length)[0]) (D.v (aiZ aiY 0))=some [fos (gx l l.length)[0][0]]:=Ol (i:=0) hn2;have hL:fk l=(gx l l.length)[0][0]:=acj hn1 hn2;rw [hL];simp -implicitDefEqProofs only [aw,aiT,aiU,aiV,Wd,Tb,r1,t1,e1]
def YO (l:List Fo):ByteArray:=qS (szF l).1 0 (Ad l (du l).length).1
def abR (l:List Fo):Prop:=l.length≤4∧∀f∈l,(f.1=1∨f.1=2)∧f.2=true
theorem Ta {l:List Fo} (h:abR l):ro l=true:=by
 unfold ro;simp only [aiX,decide_eq_true_eq,ai0];refine⟨fun f hf=>?_,h.1⟩
 have:=(h.2 f hf).1;omega
theorem Zs {l:List Fo} (hl:l∈uS):Yf l true (fk l).length=(Ad l (du l).length).1∧(fk l).length=(szF l).1*(szF l).2∧(du l).length=(szF l).1*(szF l).2 ∧
  (1≤(szF l).1∧(szF l).1≤16∧1≤(szF l).2∧(szF l).2≤16)∧(∀x∈fk l,0≤x.1∧x.1<((fk l).length:Int))∧(∀x∈du l,0≤Fb x - 1∧Fb x - 1<((du l).length:Int)) ∧
  (∀n∈(Ad l (du l).length).1,0≤n∧n≤100):=by
 have h1:=ai0.1 JG l hl;unfold okF at h1;simp only [aiX,decide_eq_true_eq,ai0] at h1;obtain⟨⟨⟨⟨⟨⟨⟨a,b⟩,c⟩,d⟩,e⟩,f⟩,g⟩,_⟩:=h1;exact⟨a,b,c,by omega,e,f,g⟩
theorem WG {l:List Fo} (h:abR l):gK [fos l]=some (.ret [T (YO l),B true] []):=by
 have hl:=FP h.1 h.2;obtain⟨f1,f2,f3,f4,f5,f6,f7⟩:=Zs hl;have hH:=ai0.1 wZ l hl;unfold okH at hH;simp only [aiX,decide_eq_true_eq,ai0] at hH;obtain⟨⟨⟨⟨⟨⟨_,_⟩,h3⟩,h4⟩,h5⟩,h6⟩,h7⟩:=hH;have e1:=QK l hl h.1 ⟨h3,h4⟩;have e2:=OO l (du l) e1 (by omega) fun x hx=>⟨f6 x hx,by have:=h7 x hx;omega⟩
 rw [←PY] at e2;have hlen:=(wX (du l) (du l).length (ai2 _)).1;rw [←PY] at hlen;exact HO l (Ta h) (szF l).1 _ _ rfl (by omega) (by omega) e2 (by omega) fun x hx=>by have:=f7 x hx;omega
theorem XV {l:List Fo} (h:abR l):Ch [fos l]=some (.ret [T (YO l),B true] []):=by
 have hl:=FP h.1 h.2;obtain⟨f1,f2,f3,f4,f5,f6,f7⟩:=Zs hl;have hp:Uu true (fk l)=(Ad l (du l).length).1:=by
  rw [←f1];unfold Yf Uu;rw [ajl]
 have hlen:(Uu true (fk l)).length=(fk l).length:=Gt _ _;have hH:=ai0.1 wZ l hl;unfold okH at hH;simp only [aiX,decide_eq_true_eq,ai0] at hH;obtain⟨⟨⟨⟨⟨⟨_,_⟩,h3⟩,h4⟩,h5⟩,h6⟩,h7⟩:=hH;have e0:Ch [fos l]=aeD (fos l):=rfl;rw [e0];unfold aeD;rw [yo l (by have:=h.1;omega),Ta h,wb l h.1,Qp l hl h.1];have o1:ae5 (some (.ret [B true] []))=some true:=rfl;have o2:∀a b:Int,ZW (some (.ret [I a,I b] []))=some (a,b):=fun _ _=>rfl
 have o3:aac (some (.ret [fos (fk l)] []))=some (fk l):=Ss _;rw [o1,o2,o3];simp only [ai9,Bool.true_eq_false,if_false,Int.toNat_natCast];have hdiv:(fk l).length / (szF l).1=(szF l).2:=by
  rw [f2,ajn];exact Nat.mul_div_cancel _ (by omega)
 rw [hdiv];have hok:Ww (szF l).1 (szF l).2 (fk l):=by
  refine⟨by omega,by omega,by rw [f2,ajn],by omega,f5,fun n hn=>?_⟩
  rw [hp] at hn;have:=f7 n hn;omega
 rw [if_pos ⟨by omega,hok⟩];rw [Sq (by omega) _ _ 0 (by rw [hlen,f2,ajn]) (Nat.zero_mod _),hp];rfl
theorem Bc {l:List Nt} (h:eC l=true):(∀x∈l,lu x=true)∧l.length≤24:=by
 unfold eC at h;simp only [aiX,decide_eq_true_eq] at h;refine⟨?_,h.2⟩
 have key:∀(p:Nat→Nt→Bool) (m:List Nt) (i:Nat),jD p i m=true→∀x∈m,∃j,p j x=true:=by
  intro p m;induction m with
  | nil=>intro i _ x hx;cases hx
  | cons y m ih =>
   intro i hi x hx;simp only [jD,aiX] at hi;rcases ajI.1 hx with rfl | hx
   ·exact⟨i,hi.1⟩
   ·exact ih (i+1) hi.2 x hx
 intro x hx;obtain⟨j,hj⟩:=key _ _ _ h.1 x hx;simp only [pNt,aiX] at hj;exact hj.1
theorem Qx (l:List Nt) (hg:∀x∈l,lu x=true) (hl:l.length≤1048576):pz [nts l]=some (.ret [T (jT l 7)] []):=by
 rw [QF];simp -implicitDefEqProofs only [aL,ajd,ai9];refine bL (fun r=>r=_) (fun(a:ByteArray × Int × Nat)=>[T a.1,I a.2.1,nts l,I (l.length:Int),I (a.2.2:Int)]) (fun a=>a.2.2≤l.length∧(0≤a.2.1∧a.2.1≤9972)∧a.1++jT (l.drop a.2.2) a.2.1=jT l 7∧a.1.size≤44*a.2.2)
  (fun a=>l.length - a.2.2) (fun o=>o = .ext 0 [T (jT l 7)]) ?_ (⟨#[]⟩,7,0) ⟨ajc _,⟨by decide,by decide⟩,by apply bP;rw [bh];rfl,ai2 _⟩ rfl ?_
 ·rintro⟨s,c,i⟩ ⟨h1,h2,h3,h4⟩
  simp only at h1 h2 h3 h4;by_cases hp:i<l.length
  ·left
   have hpi:(i:Int)<(l.length:Int):=by omega
   have hx:lu l[i]=true:=hg _ (ai1 hp);have hck:=pi c l[i];have hel:aq 3 (nts l) (I (i:Int))=some (nt l[i]).cells:=by simp [hp]
   have lx:∀x:Nt,(ldD true 3 (.ptr (nt x).cells)).bind aM=some (nt x):=fun x=>by simp
   have hz:=Qa hx hck;have hw:aiY.wrap ((i:Int)+1)=((i+1:Nat):Int):=by rw [ah (by omega) (by omega)];omega
   have hadd:bin ajM false [] (T s) (T (lnT l[i] (ckN c l[i])))=some (T (s++lnT l[i] (ckN c l[i]))):=by rw [fT,if_pos (by omega)]
   refine⟨(s++lnT l[i] (ckN c l[i]),ckN c l[i],i+1),?_,⟨hp,hck,?_,?_⟩,by simp only;omega⟩
   ·simp -implicitDefEqProofs only [ak,aE,bg,hpi,decide_true,ai9,aH,if_true,hel,Option.map_some,lx,YU,Od,Ao h2 hx,am,EP hx hck,hadd,bv,hw]
   ·rw [←h3,ajC hp]
    apply bP;simp only [jT,bh,ajr]
   ·rw [ai8]
    simp only;omega
  ·right
   have hpi:¬(i:Int)<(l.length:Int):=by omega
   rw [List.drop_eq_nil_of_le (by omega)] at h3;have h5:s=jT l 7:=by
    rw [←h3];apply bP;rw [bh];simp [jT,ae]
   refine⟨_,?_,rfl,rfl⟩
   simp -implicitDefEqProofs only [ak,aE,bg,hpi,decide_false,ai9,aH,ajy,if_false,h5]
 ·rintro o rfl
  simp -implicitDefEqProofs only [bF,Nat.beq_refl,ep,if_true,ak]
theorem WS (s:ByteArray):tP [T s]=some (.ret [T (if s.size≤300 then s else⟨#[]⟩),B (decide (s.size≤300))] []):=by
 rw [XF];by_cases h:s.size≤300
 ·have h':¬(300:Int)<(s.size:Int):=by omega
  simp -implicitDefEqProofs only [dV,eY,h',h,decide_false,decide_true,ai9,aH,ajy,if_false,if_true]
 ·have h':(300:Int)<(s.size:Int):=by omega
  simp -implicitDefEqProofs only [dV,eY,h',h,decide_false,decide_true,ai9,aH,if_false,if_true]
theorem PV (l:List Nt) (hg:∀x∈l,lu x=true) (hl:l.length≤1048576):se [nts l]=some (.ret [T (jT l 7)] []):=by
 simp only [se,Sj,ai9];rw [if_pos ⟨hg,hl⟩]
def jtS (l:List Nt):ByteArray × Bool:=if eC l=true∧(jT l 7).size≤300 then(jT l 7,true) else(⟨#[]⟩,false)
def anS (s:ByteArray) (x:Nt):ByteArray × Bool:=if (jrS s).2=true then jtS ((jrS s).1++[x]) else(⟨#[]⟩,false)
theorem uw (s:ByteArray):(jrS s).1.length≤24:=by
 unfold jrS;split
 ·exact agV s
 ·exact ajc _
theorem Zv (x:Nt):gu 3 (nt x)=some (nt x):=by simp
theorem GR (s:ByteArray) (x:Nt) (h:s.size≤1048576):jN [T s,nt x]=some (.ret [T (anS s x).1,B (anS s x).2] []):=by
 rw [GE];have e1:=iN s h;have hlen:=uw s;unfold anS;generalize jrS s=R at *;obtain⟨l,p⟩:=R;simp only at e1 hlen ⊢;have ha0:bB 3 24 (.arr 3 []) (nts l)=some (nts l):=xw (l:=[]) (m:=l) (by simp;omega);have hap:=xw (l:=l) (m:=[x]) (by simp;omega);simp -implicitDefEqProofs only [Zv,ai9,e1,am,tp0,tc0,ahU,be,UU,ha0,Od,TE,hap,bj];have hl2:(l++[x]).length≤1048576:=by rw [ajh,ajt];omega
 have hg:=eA (l++[x]) hl2;cases p
 ·simp -implicitDefEqProofs
 unfold jtS;cases hgd:eC (l++[x])
 ·simp -implicitDefEqProofs [hg,hgd]
 ·have hall:=(Bc hgd).1
  have hT:=Qx (l++[x]) hall hl2;have hI:=WS (jT (l++[x]) 7);rw [hgd] at hg;generalize l++[x]=m at *;by_cases hz:(jT m 7).size≤300<;>simp -implicitDefEqProofs [hg,hT,hI,hz]
theorem aex {x:Nt} (hx:lu x=true) {g m:Int} (h0:0≤m) (h : -m≤g∧g≤m) (hm:m≤1000000000) : -(m+99999)≤xF g x∧xF g x≤m+99999:=by
 obtain⟨h1,h2,h3⟩:=nG.1 hx;unfold xF;split
 ·rw [ah (by omega) (by omega)];omega
 ·rw [ah (by omega) (by omega)];omega
theorem ade (d:Int):∀(l:List Nt) (s m:Int),(∀x∈l,lu x=true)→0≤m → -m≤s∧s≤m→m+99999*l.length≤1000000000 → -(m+99999*l.length)≤bD l s d∧bD l s d≤m+99999*l.length
 | [],s,m,_,_,h,_=>by simpa [bD] using h
 | x::l,s,m,hx,h0,h,hm=>by
  simp only [aje,aju,Int.mul_add] at hm ⊢;have e:bD (x::l) s d=bD l (if x.1≤d then xF s x else s) d:=rfl;rw [e];have hb:=aex (hx x (by simp)) h0 h (by omega);have:=ade d l (if x.1≤d then xF s x else s) (m+99999) (fun y hy=>hx y (by simp [hy])) (by omega) (by split<;>omega) (by omega);omega
theorem acO:∀(l:List Nt) (i:Nat) (a:Int × Int × Int) (m:Int),(∀x∈l,lu x=true)→0≤m → -m≤a.1∧a.1≤m → -m≤a.2.1∧a.2.1≤m→m+99999*l.length≤1000000000 →
  -(m+99999*l.length)≤(DF mL i l a).2.1∧(DF mL i l a).2.1≤m+99999*l.length
 | [],i,a,m,_,_,_,h2,_=>by simpa [DF] using h2
 | x::l,i,a,m,hx,h0,h,h2,hm=>by
  simp only [aje,aju,Int.mul_add] at hm ⊢;have e:DF mL i (x::l) a=DF mL (i+1) l (mL i a x):=rfl;rw [e];have hb:=aex (hx x (by simp)) h0 h (by omega);have:=acO l (i+1) (mL i a x) (m+99999) (fun y hy=>hx y (by simp [hy])) (by omega) (by unfold mL;split<;>dsimp only<;>omega) (by unfold mL;split<;>dsimp only<;>omega) (by omega);omega
theorem Uy {l:List Nt} {s d:Int} : -1000000000≤(if eO l s d=true then bD l s d else 0)∧(if eO l s d=true then bD l s d else 0)≤1000000000:=by
 split
 ·rename_i h
  unfold eO at h;simp only [aiX,decide_eq_true_eq] at h;obtain⟨⟨h1,h2⟩,h3⟩:=h;obtain⟨g1,g2⟩:=Bc h1;have:=ade d l s 1000000 g1 (by omega) (by omega) (by omega);omega
 ·omega
theorem UT {l:List Nt} {s:Int} : -1000000000≤(gP l s).1∧(gP l s).1≤1000000000:=by
 unfold gP;split
 ·rename_i h
  unfold gp at h;simp only [aiX,decide_eq_true_eq] at h;obtain⟨⟨h1,h2⟩,h3⟩:=h;obtain⟨g1,g2⟩:=Bc h1;have:=acO l 0 (s,0,-1) 1000000 g1 (by omega) (by dsimp only;omega) (by dsimp only;omega) (by omega);omega
 ·decide
def kz (c:Cn) (w:ByteArray) (r:List Int):ByteArray × Cn :=
 if w=kV then(if eW (c.t++[r.getD 0 0])=true then(aI ((c.t.length+1:Nat):Int),{c with t:=c.t++[r.getD 0 0]}) else(noT,c))
 else if w=bS then(aI (Fm c.t),c)
 else if w=cG then(cj 32 [((gy c.t c.t.length).1:Int),((gy c.t c.t.length).2:Int)],c)
 else if w=eP then(if (anS c.j (r.getD 0 0,r.getD 1 0,r.getD 2 0)).2=true then(aI ((jrS (anS c.j (r.getD 0 0,r.getD 1 0,r.getD 2 0)).1).1.length:Int),{c with j:=(anS c.j (r.getD 0 0,r.getD 1 0,r.getD 2 0)).1}) else(noT,c))
 else if w=cE then(if eO (jrS c.j).1 (r.getD 0 0) (r.getD 1 0)=true then aI (bD (jrS c.j).1 (r.getD 0 0) (r.getD 1 0)) else noT,c)
 else if w=cB then(if gp (jrS c.j).1 (r.getD 0 0)=true then aI (gP (jrS c.j).1 (r.getD 0 0)).1 else noT,c)
 else if w=er then(if ro (c.f++[(r.getD 0 0,true)])=true then(aI ((c.f.length+1:Nat):Int),{c with f:=c.f++[(r.getD 0 0,true)]}) else(noT,c))
 else(YO c.f,c)
theorem rT {l:List Int} (h:eW l=true):1≤l.length∧l.length≤40∧∀n∈l,-500≤n∧n≤500:=by
 unfold eW at h;simp only [aiX,decide_eq_true_eq,ai0] at h;exact⟨h.1.1,h.1.2,h.2⟩
theorem Yn {l:List Int} (h:eW l=true) : -500≤Fm l∧Fm l≤500:=by
 obtain⟨h1,h2,h3⟩:=rT h;have hp:=(xu l [] List.Pairwise.nil).2;rw [ajU] at hp;unfold Fm;have hix:(l.length - 1) / 2<(xv l).length:=by rw [Ji];omega
 rw [ajf,ai7 hix,ajs];exact h3 _ (hp.mem_iff.1 (ai1 hix))
theorem Vp (l:List Int):∀n,n≤l.length→(gy l n).1≤l.length∧(gy l n).2≤l.length+1
 | 0,_=>by simp [gy]
 | n+1,h=>by
  have ih:=Vp l n (by omega);have hm:=ZK (l:=l) (i:=n) (by omega);rw [vU];unfold Pq;split
  ·dsimp only;omega
  ·exact ih
theorem OH (s:ByteArray) (x:Nt):(anS s x).1.size≤300:=by
 unfold anS jtS;split
 ·split
  ·rename_i h
   exact h.2
  ·exact ajc _
 ·exact ajc _
theorem ky (a b c:Int):dp [(0,1),(1,1),(2,1)] [D.v (aiZ aiY 0),D.v (aiZ aiY 0),D.v (aiZ aiY 0)] [I a,I b,I c]=some (nt (a,b,c)):=rfl
structure CnOk (c:Cn):Prop where
 m:cr c.m=true
 s:cA c.s=true
 t:eW c.t=true
 j:c.j.size≤300
 f:abR c.f
theorem iJ (c:Cn) (x y:Value) (n:Int) (w:ByteArray) (r:List Int) (hk:CnOk c)
  (hw:(w=kV∧r.length=1)∨(w=bS∧r.length=0)∨(w=cG∧r.length=0)∨(w=eP∧r.length=3)∨(w=cE∧r.length=2)∨(w=cB∧r.length=1)∨(w=er∧r.length=1)∨(w=bM∧r.length=0)) :
  cW [cnD c x y n,T w,ai r]=some (.ret [T (kz c w r).1] [cnD (kz c w r).2 x y n]):=by
 rw [CC];obtain⟨hm,hs,ht,hj,hf⟩:=hk;obtain⟨t1,t2,t3⟩:=rT ht;rcases hw with ⟨rfl,hr⟩ | ⟨rfl,hr⟩ | ⟨rfl,hr⟩ | ⟨rfl,hr⟩ | ⟨rfl,hr⟩ | ⟨rfl,hr⟩ | ⟨rfl,hr⟩ | ⟨rfl,hr⟩
 ·obtain⟨a,rfl⟩:=ajb.1 hr
  have hel:aq 1 (ai [a]) (D.v (aiZ aiY 0))=some [I a]:=rfl;have e1:=nZ c.t (by omega);have hmk:aA 1 [I a]=some (ai [a]):=rfl;have ha:=eL (l:=c.t) (m:=[a]) (by simp;omega);have e2:=uQ (c.t++[a]) (by simp;omega);have e3:=bR (n:=((c.t.length+1:Nat):Int)) (by omega) (by omega);have hmc:kz c kV [a]=if eW (c.t++[a])=true then(aI ((c.t.length+1:Nat):Int),{c with t:=c.t++[a]}) else(noT,c):=rfl;have hlen:(((c.t++[a]).length:Nat):Int)=((c.t.length+1:Nat):Int):=by simp
  rw [hmc];cases hq:eW (c.t++[a])<;>rw [hq] at e2<;>simp -implicitDefEqProofs only [aw,aiT,aiU,aiV,Sl,hel,e1,e2,hmk,ha,adT,ahT,bO,cf,bm,aV,hlen,e3]
 ·obtain rfl:=ai6 hr
  have e1:=Kv c.t (by omega);rw [ht,if_pos rfl] at e1;have hb:=Yn ht;have e2:=oa (n:=Fm c.t) (by omega) (by omega);have hmc:kz c bS []=(aI (Fm c.t),c):=rfl;rw [hmc];simp -implicitDefEqProofs only [aw,aiT,aiU,aiV,IH,yK,e1,e2,t0V,t1V,adT,bO,cf,bm,aV]
 ·obtain rfl:=ai6 hr
  have e1:=CA c.t (by omega);rw [ht,if_pos rfl,if_pos rfl] at e1;have hb:=Vp c.t c.t.length (ai2 _);have hbb:∀z∈[((gy c.t c.t.length).1:Int),((gy c.t c.t.length).2:Int)],-1000000000000000000<z∧z<1000000000000000000:=by
   intro z hz;simp only [ajI,ajS,or_false] at hz;rcases hz with rfl | rfl<;>omega
  have e2:=vl [((gy c.t c.t.length).1:Int),((gy c.t c.t.length).2:Int)] (by simp) (va hbb) hbb;have hmk:aA 1 [I ((gy c.t c.t.length).1:Int),I ((gy c.t c.t.length).2:Int)]=some (ai [((gy c.t c.t.length).1:Int),((gy c.t c.t.length).2:Int)]):=rfl;have hmc:kz c cG []=(cj 32 [((gy c.t c.t.length).1:Int),((gy c.t c.t.length).2:Int)],c):=rfl;rw [hmc];simp -implicitDefEqProofs only [aw,aiT,aiU,aiV,Lg,Bi,EE,e1,e2,hmk,t0V,t1V,t2V,adT,bO,cf,bm,aV]
 ·obtain⟨a,b,d,rfl⟩:=JY hr
  have hel:aq 1 (ai [a,b,d]) (D.v (aiZ aiY 0))=some [I a]:=rfl;have hel1:aq 1 (ai [a,b,d]) (D.v (aiZ aiY 1))=some [I b]:=rfl;have hel2:aq 1 (ai [a,b,d]) (D.v (aiZ aiY 2))=some [I d]:=rfl;have e1:=GR c.j (a,b,d) (by omega);have hz:=OH c.j (a,b,d);have e2:=iN (anS c.j (a,b,d)).1 (by omega);have hl:=uw (anS c.j (a,b,d)).1;have e3:=bR (n:=((jrS (anS c.j (a,b,d)).1).1.length:Int)) (by omega) (by omega);have hmc:kz c eP [a,b,d]=if (anS c.j (a,b,d)).2=true then(aI ((jrS (anS c.j (a,b,d)).1).1.length:Int),{c with j:=(anS c.j (a,b,d)).1}) else(noT,c):=rfl;rw [hmc];cases hq:(anS c.j (a,b,d)).2<;>rw [hq] at e1<;>simp -implicitDefEqProofs only [aw,aiT,aiU,aiV,NJ,Rt,TL,KU,hel,hel1,hel2,ky,e1,e2,e3,t0V,t0A,lN,t1V,aep,aic,bO,cf,bm,aV]
 ·obtain⟨a,b,rfl⟩:=Hz hr
  have hel:aq 1 (ai [a,b]) (D.v (aiZ aiY 0))=some [I a]:=rfl;have hel1:aq 1 (ai [a,b]) (D.v (aiZ aiY 1))=some [I b]:=rfl;have e1:=iN c.j (by omega);have hl:=uw c.j;have e2:=Hc (jrS c.j).1 a b (by omega);have hb:=Uy (l:=(jrS c.j).1) (s:=a) (d:=b);have e3:=oa (n:=if eO (jrS c.j).1 a b=true then bD (jrS c.j).1 a b else 0) (by omega) (by omega);have hmc:kz c cE [a,b]=(if eO (jrS c.j).1 a b=true then aI (bD (jrS c.j).1 a b) else noT,c):=rfl;rw [hmc];cases hq:eO (jrS c.j).1 a b<;>rw [hq] at e2 e3<;>simp only [if_true,if_false,ajy] at e2 e3<;>simp -implicitDefEqProofs only [aw,aiT,aiU,aiV,Lq,Br,ES,Jm,Ew,hel,hel1,e1,e2,e3,t0V,t0A,lN,t1V,aep,bO,cf,bm,aV,nF,nX]
 ·obtain⟨a,rfl⟩:=ajb.1 hr
  have hel:aq 1 (ai [a]) (D.v (aiZ aiY 0))=some [I a]:=rfl;have e1:=iN c.j (by omega);have hl:=uw c.j;have e2:=GA (jrS c.j).1 a (by omega);have hb:=UT (l:=(jrS c.j).1) (s:=a);have e3:=oa (n:=(gP (jrS c.j).1 a).1) (by omega) (by omega);have hmc:kz c cB [a]=(if gp (jrS c.j).1 a=true then aI (gP (jrS c.j).1 a).1 else noT,c):=rfl;rw [hmc];cases hq:gp (jrS c.j).1 a<;>rw [hq] at e2<;>simp -implicitDefEqProofs only [aw,aiT,aiU,aiV,LB,AB,DH,HQ,Ex,DK,hel,e1,e2,e3,t0V,t0A,lN,t1V,t2V,aep,bO,cf,bm,aV,nF,nX]
 ·obtain⟨a,rfl⟩:=ajb.1 hr
  have hel:aq 1 (ai [a]) (D.v (aiZ aiY 0))=some [I a]:=rfl;have h4:=hf.1;have hck:=MR c.f;have ha0:bB 2 16 (D.arr 2 []) (fos c.f)=some (fos c.f):=tF (l:=[]) (m:=c.f) (by simp;omega);have hmk:aA 2 [D.agg [I a,B true]]=some (fos [(a,true)]):=rfl;have ha:=tF (l:=c.f) (m:=[(a,true)]) (by simp;omega);have e2:=Ek (c.f++[(a,true)]) (by simp;omega);have e3:=bR (n:=((c.f.length+1:Nat):Int)) (by omega) (by omega);have hmc:kz c er [a]=if ro (c.f++[(a,true)])=true then(aI ((c.f.length+1:Nat):Int),{c with f:=c.f++[(a,true)]}) else(noT,c):=rfl;have hlen:(((c.f++[(a,true)]).length:Nat):Int)=((c.f.length+1:Nat):Int):=by simp
  rw [hmc];cases hq:ro (c.f++[(a,true)])<;>rw [hq] at e2<;>simp -implicitDefEqProofs only [aw,aiT,aiU,aiV,Nx,Rh,Uo,Lu,Uc,UI,La,hel,hck,ha0,Vc,hmk,ha,e2,e3,af0,ahN,bO,cf,bm,aV,hlen]
 ·obtain rfl:=ai6 hr
  have e1:=WG hf;have hmc:kz c bM []=(YO c.f,c):=rfl;rw [hmc];simp -implicitDefEqProofs only [aw,aiT,aiU,aiV,HX,yr,Bl,Dn,BK,AU,Di,e1,t0V,t1V,af0,bO,cf,bm,aV]
def tS (w:ByteArray):Bool:=decide (w=dZ)||decide (w=bT)||decide (w=dP)||decide (w=gV)||decide (w=bA)
def bq (c:Cn) (w rest:ByteArray) (r:List Int):ByteArray × Cn :=
 if shN w = -1 then MW c w rest else if tS w=true then iA c w r else kz c w r
def eu (c:Cn) (t:ByteArray):ByteArray × Cn :=
 match rdL t with
 | none=>(pV,c)
 | some (w,rest,r)=>bq c w rest r
theorem Tp {w:ByteArray} (h1:¬shN w = -2) (h2:¬shN w = -1):w=dZ∨w=bT∨w=dP∨w=gV∨w=bA∨w=kV∨w=bS∨w=cG∨w=eP∨w=cE∨w=cB∨w=er∨w=bM:=by
 unfold shN at h1 h2;by_cases g0:w=bT∨w=bS∨w=cG∨w=bM
 ·rcases g0 with g | g | g | g<;>simp [g]
 rw [if_neg g0] at h1 h2;by_cases g1:w=ln∨w=kq∨w=fG
 ·rw [if_pos g1] at h2
  exact absurd rfl h2
 rw [if_neg g1] at h1 h2;by_cases g2:w=dZ∨w=dP∨w=bA∨w=kV∨w=cB∨w=er
 ·rcases g2 with g | g | g | g | g | g<;>simp [g]
 rw [if_neg g2] at h1 h2;by_cases g3:w=gV∨w=cE
 ·rcases g3 with g | g<;>simp [g]
 rw [if_neg g3] at h1 h2;by_cases g4:w=eP
 ·simp [g4]
 rw [if_neg g4] at h1;exact absurd rfl h1
theorem WF {w:ByteArray} (h:shN w = -1):w=fG∨w=ln∨w=kq:=by
 unfold shN at h;split at h
 ·cases h
 split at h
 ·rename_i g
  rcases g with g | g | g<;>simp [g]
 split at h
 ·cases h
 split at h
 ·cases h
 split at h<;>cases h
theorem YC {t w:ByteArray} {ws:List ByteArray} (h:aC 32 t=w::ws) (hne:ws≠[]):w.size+1≤t.size:=by
 have hc:(aC 32 t).map ae=aW 32 (ae t):=by
  unfold aC;rw [List.map_map]
  conv=>rhs;rw [←List.map_id (aW 32 (ae t))]
  exact List.map_congr_left fun l _=>cS l
 have hj:=nJ 32 (ae t);rw [←hc,h] at hj;obtain⟨v,vs,rfl⟩:=List.exists_cons_of_ne_nil hne;simp only [List.map_cons,ex] at hj;have:=congrArg List.length hj;rw [ajh,aje] at this;show(ae w).length+1≤(ae t).length
 omega
set_option maxHeartbeats 1000000 in
theorem Wx (c:Cn) (x y:Value) (n:Int) (t:ByteArray) (hk:CnOk c) (ht:t.size≤1000000) :
  lz [cnD c x y n,T t]=some (.ret [T (eu c t).1] [cnD (eu c t).2 x y n]):=by
 rw [CU];have e1:=ga t 32 (by omega);have e1':ce [T t,D.v (aiZ IntKind.u8 32)]=some (.ret [txs (aC 32 t)] []):=e1;have hsz:∀v∈aC 32 t,v.size≤4294967296:=fun v hv=>by have:=fL 32 t v hv;omega
 have hwl:(aC 32 t).length≤1000001:=by
  rw [fb];have h1:=fc 32 (ae t);have h2:=cZ t;omega
 unfold eu rdL;cases hs:aC 32 t with
 | nil =>
  exfalso;have:aC 32 t≠[]:=by
   unfold aC;simp [dv]
  exact this hs
 | cons w ws =>
 rw [hs] at e1' hsz hwl;have hel:aq 1 (txs (w::ws)) (D.v (aiZ aiY 0))=some [T w]:=rfl;have e2:=NR w;dsimp only;by_cases h2:shN w = -2
 ·have h2d:=decide_eq_true h2
  rw [if_pos h2];simp -implicitDefEqProofs only [aw,aiT,aiU,aiV,e1',hel,e2,h2d,cf]
 have h2d:=decide_eq_false h2;rw [if_neg h2];by_cases h1:shN w = -1
 ·have h1d:=decide_eq_true h1
  rw [if_pos h1];by_cases hne:ws=[]
  ·subst hne
   have hl1:(([w]:List ByteArray).length:Int)=1:=rfl;rw [if_pos rfl];simp -implicitDefEqProofs only [aw,aiT,aiU,aiV,e1',hel,e2,h2d,h1d,hl1,cf]
  ·have hl1:¬(((w::ws).length:Nat):Int)=1:=by
    have:=ajK.2 hne;rw [aje];omega
   rw [if_neg hne];have hlong:=YC hs hne;have hwr:aiY.wrap ((w.size:Int)+1)=((w.size+1:Nat):Int):=by rw [ah (by omega) (by omega)];omega
   have hx:cU true 0 (T t) (I ((w.size+1:Nat):Int))=some (T (t.extract (w.size+1) t.size)):=Gn hlong;have e3:=WK c x y n w (t.extract (w.size+1) t.size) (WF h1) (by simp;omega);have hst:bq c w (t.extract (w.size+1) t.size) []=MW c w (t.extract (w.size+1) t.size):=by
    unfold bq;rw [if_pos h1]
   dsimp only;rw [hst];simp -implicitDefEqProofs only [aw,aiT,aiU,aiV,e1',hel,e2,h2d,h1d,hl1,hwr,hx,bO,jV,cf,e3]
 have h1d:=decide_eq_false h1;rw [if_neg h1];have hx:cU false 1 (txs (w::ws)) (D.v (aiZ aiY 1))=some (txs ws):=by
  have:=mV (z:=1) (l:=(w::ws).map T) (i:=1) (k:=.i64) (by simp);exact this
 have e3:=RJ ws (shN w) (by rw [aje] at hwl;omega) (fun v hv=>hsz v (by simp [hv]));cases hn:cF ws with
 | none =>
  rw [hn] at e3;dsimp only at e3 ⊢;have q0:∀b,ao (D.tup [ai [],b]) 0=some (ai []):=fun _=>rfl
  simp -implicitDefEqProofs only [aw,aiT,aiU,aiV,e1',hel,e2,h2d,h1d,hx,e3,q0,t1V,cf]
 | some r =>
  rw [hn] at e3;dsimp only at e3 ⊢;have hrl:=(mU _ _ hn).1;have q0:∀b,ao (D.tup [ai r,b]) 0=some (ai r):=fun _=>rfl
  rw [←hrl] at e3;by_cases hr:(r.length:Int)=shN w
  case neg =>
   have hrd:=decide_eq_false hr;rw [hrd] at e3;rw [if_neg hr];simp -implicitDefEqProofs only [aw,aiT,aiU,aiV,e1',hel,e2,h2d,h1d,hx,e3,q0,t1V,cf]
  rw [decide_eq_true hr] at e3;rw [if_pos hr];dsimp only;rcases Tp h2 h1 with rfl | rfl | rfl | rfl | rfl | rfl | rfl | rfl | rfl | rfl | rfl | rfl | rfl
  ·have hl:r.length=1:=by
    have h0:shN dZ=1:=by decide
    rw [h0] at hr;omega
   have e4:=nw c x y n dZ r hk.m hk.s (.inl ⟨rfl,hl⟩);have hst:bq c dZ ⟨⟨[]⟩⟩ r=iA c dZ r:=by
    unfold bq;rw [if_neg h1,if_pos (show tS dZ=true by decide)]
   rw [hst];simp -implicitDefEqProofs only [aw,aiT,aiU,aiV,e1',hel,e2,h2d,h1d,hx,e3,q0,t1V,Ai,Ro,Xl,Yx,Og,bO,jV,cf,e4]
  ·have hl:r.length=0:=by
    have h0:shN bT=0:=by decide
    rw [h0] at hr;omega
   have e4:=nw c x y n bT r hk.m hk.s (.inr (.inl ⟨rfl,hl⟩));have hst:bq c bT ⟨⟨[]⟩⟩ r=iA c bT r:=by
    unfold bq;rw [if_neg h1,if_pos (show tS bT=true by decide)]
   rw [hst];simp -implicitDefEqProofs only [aw,aiT,aiU,aiV,e1',hel,e2,h2d,h1d,hx,e3,q0,t1V,uO,mr,EK,II,KH,bO,jV,cf,e4]
  ·have hl:r.length=1:=by
    have h0:shN dP=1:=by decide
    rw [h0] at hr;omega
   have e4:=nw c x y n dP r hk.m hk.s (.inr (.inr (.inl ⟨rfl,hl⟩)));have hst:bq c dP ⟨⟨[]⟩⟩ r=iA c dP r:=by
    unfold bq;rw [if_neg h1,if_pos (show tS dP=true by decide)]
   rw [hst];simp -implicitDefEqProofs only [aw,aiT,aiU,aiV,e1',hel,e2,h2d,h1d,hx,e3,q0,t1V,ue,vf,ux,Yq,Oo,bO,jV,cf,e4]
  ·have hl:r.length=2:=by
    have h0:shN gV=2:=by decide
    rw [h0] at hr;omega
   have e4:=nw c x y n gV r hk.m hk.s (.inr (.inr (.inr (.inl ⟨rfl,hl⟩))));have hst:bq c gV ⟨⟨[]⟩⟩ r=iA c gV r:=by
    unfold bq;rw [if_neg h1,if_pos (show tS gV=true by decide)]
   rw [hst];simp -implicitDefEqProofs only [aw,aiT,aiU,aiV,e1',hel,e2,h2d,h1d,hx,e3,q0,t1V,Gc,Hv,Ge,Js,RD,bO,jV,cf,e4]
  ·have hl:r.length=1:=by
    have h0:shN bA=1:=by decide
    rw [h0] at hr;omega
   have e4:=nw c x y n bA r hk.m hk.s (.inr (.inr (.inr (.inr (⟨rfl,hl⟩)))));have hst:bq c bA ⟨⟨[]⟩⟩ r=iA c bA r:=by
    unfold bq;rw [if_neg h1,if_pos (show tS bA=true by decide)]
   rw [hst];simp -implicitDefEqProofs only [aw,aiT,aiU,aiV,e1',hel,e2,h2d,h1d,hx,e3,q0,t1V,tv,oP,sP,vn,uc,bO,jV,cf,e4]
  ·have hl:r.length=1:=by
    have h0:shN kV=1:=by decide
    rw [h0] at hr;omega
   have e4:=iJ c x y n kV r hk (.inl ⟨rfl,hl⟩);have hst:bq c kV ⟨⟨[]⟩⟩ r=kz c kV r:=by
    unfold bq;rw [if_neg h1,if_neg (show ¬tS kV=true by decide)]
   rw [hst];simp -implicitDefEqProofs only [aw,aiT,aiU,aiV,e1',hel,e2,h2d,h1d,hx,e3,q0,t1V,Qc,US,Nk,Sv,RQ,bO,jV,cf,e4]
  ·have hl:r.length=0:=by
    have h0:shN bS=0:=by decide
    rw [h0] at hr;omega
   have e4:=iJ c x y n bS r hk (.inr (.inl ⟨rfl,hl⟩));have hst:bq c bS ⟨⟨[]⟩⟩ r=kz c bS r:=by
    unfold bq;rw [if_neg h1,if_neg (show ¬tS bS=true by decide)]
   rw [hst];simp -implicitDefEqProofs only [aw,aiT,aiU,aiV,e1',hel,e2,h2d,h1d,hx,e3,q0,t1V,EB,yw,Eh,GL,wM,bO,jV,cf,e4]
  ·have hl:r.length=0:=by
    have h0:shN cG=0:=by decide
    rw [h0] at hr;omega
   have e4:=iJ c x y n cG r hk (.inr (.inr (.inl ⟨rfl,hl⟩)));have hst:bq c cG ⟨⟨[]⟩⟩ r=kz c cG r:=by
    unfold bq;rw [if_neg h1,if_neg (show ¬tS cG=true by decide)]
   rw [hst];simp -implicitDefEqProofs only [aw,aiT,aiU,aiV,e1',hel,e2,h2d,h1d,hx,e3,q0,t1V,Je,AJ,GQ,Lk,yL,bO,jV,cf,e4]
  ·have hl:r.length=3:=by
    have h0:shN eP=3:=by decide
    rw [h0] at hr;omega
   have e4:=iJ c x y n eP r hk (.inr (.inr (.inr (.inl ⟨rfl,hl⟩))));have hst:bq c eP ⟨⟨[]⟩⟩ r=kz c eP r:=by
    unfold bq;rw [if_neg h1,if_neg (show ¬tS eP=true by decide)]
   rw [hst];simp -implicitDefEqProofs only [aw,aiT,aiU,aiV,e1',hel,e2,h2d,h1d,hx,e3,q0,t1V,LG,Qr,LF,NZ,Ng,bO,jV,cf,e4]
  ·have hl:r.length=2:=by
    have h0:shN cE=2:=by decide
    rw [h0] at hr;omega
   have e4:=iJ c x y n cE r hk (.inr (.inr (.inr (.inr (.inl ⟨rfl,hl⟩)))));have hst:bq c cE ⟨⟨[]⟩⟩ r=kz c cE r:=by
    unfold bq;rw [if_neg h1,if_neg (show ¬tS cE=true by decide)]
   rw [hst];simp -implicitDefEqProofs only [aw,aiT,aiU,aiV,e1',hel,e2,h2d,h1d,hx,e3,q0,t1V,Ip,Ak,Ih,Lp,yQ,bO,jV,cf,e4]
  ·have hl:r.length=1:=by
    have h0:shN cB=1:=by decide
    rw [h0] at hr;omega
   have e4:=iJ c x y n cB r hk (.inr (.inr (.inr (.inr (.inr (.inl ⟨rfl,hl⟩))))));have hst:bq c cB ⟨⟨[]⟩⟩ r=kz c cB r:=by
    unfold bq;rw [if_neg h1,if_neg (show ¬tS cB=true by decide)]
   rw [hst];simp -implicitDefEqProofs only [aw,aiT,aiU,aiV,e1',hel,e2,h2d,h1d,hx,e3,q0,t1V,Ij,AR,GK,Li,yc,bO,jV,cf,e4]
  ·have hl:r.length=1:=by
    have h0:shN er=1:=by decide
    rw [h0] at hr;omega
   have e4:=iJ c x y n er r hk (.inr (.inr (.inr (.inr (.inr (.inr (.inl ⟨rfl,hl⟩)))))));have hst:bq c er ⟨⟨[]⟩⟩ r=kz c er r:=by
    unfold bq;rw [if_neg h1,if_neg (show ¬tS er=true by decide)]
   rw [hst];simp -implicitDefEqProofs only [aw,aiT,aiU,aiV,e1',hel,e2,h2d,h1d,hx,e3,q0,t1V,Lv,QE,KM,NE,Pk,bO,jV,cf,e4]
  ·have hl:r.length=0:=by
    have h0:shN bM=0:=by decide
    rw [h0] at hr;omega
   have e4:=iJ c x y n bM r hk (.inr (.inr (.inr (.inr (.inr (.inr (.inr (⟨rfl,hl⟩))))))));have hst:bq c bM ⟨⟨[]⟩⟩ r=kz c bM r:=by
    unfold bq;rw [if_neg h1,if_neg (show ¬tS bM=true by decide)]
   rw [hst];simp -implicitDefEqProofs only [aw,aiT,aiU,aiV,e1',hel,e2,h2d,h1d,hx,e3,q0,t1V,Dk,yI,Ee,Iz,wJ,bO,jV,cf,e4]
theorem aay {β:Type} {p:Nat→β→Bool}:∀(l:List β) (s:Nat),(∀(i:Nat) (hi:i<l.length),p (s+i) l[i]=true)→jD p s l=true
 | [],_,_=>rfl
 | x::l,s,h=>by
  simp only [jD,aiX];refine⟨h 0 (by simp),aay l (s+1) fun i hi=>?_⟩
  have:=h (i+1) (by simpa using hi);rwa [show s+(i+1)=s+1+i by omega] at this
theorem ab2 {l:List Slp} {n:Nat} (h:cA l=true) (hv:(de l n).isSome=true):cA (rsS l (ctl l l.length n))=true:=by
 have h':=h;have hok:=agT (fun x hx=>dW h x hx) hv;have h8:=dE h;unfold cA at h' ⊢;simp only [aiX,decide_eq_true_eq] at h' ⊢;refine⟨aay _ 0 fun i hi=>?_,by rw [nD];exact h8⟩
 rw [nD] at hi;have hp:=Ph l 0 h'.1 i hi;rw [ajw] at hp ⊢;have hc:∀j,j<l.length→j<(ctl l l.length n).length:=fun j hj=>by rw [rB];exact hj
 have ha:=Ud l (ctl l l.length n) i hi (hc i hi);have hoki:=hok _ (ai1 (show i<(rsS l (ctl l l.length n)).length by rw [nD];exact hi));unfold pS at hp ⊢;simp only [aiX] at hp ⊢;refine⟨?_,?_⟩
 ·unfold okS
  simp only [aiX,decide_eq_true_eq];exact hoki
 ·rw [ha]
  cases i with
  | zero=>rfl
  | succ i =>
   have hi':i<l.length:=by omega
   have hb:=Ud l (ctl l l.length n) i hi' (hc i hi');have e1:(rsS l (ctl l l.length n)).getD (i+1 - 1) (0,0)=(rsS l (ctl l l.length n))[i]'(by rw [nD];exact hi'):=by
    rw [ajN,ajf,ai7 (by rw [nD];exact hi'),ajs]
   have e2:l.getD (i+1 - 1) (0,0)=l[i]:=by
    rw [ajN,ajf,ai7 hi',ajs]
   rw [e1,hb];rw [e2] at hp;exact hp.2
theorem aew {s:ByteArray} (h:(pSt s).isSome=true):cA (stO (pSt s))=true:=by
 unfold pSt at h ⊢;split at h
 ·rename_i hc
  rw [if_pos hc];exact hc.1
 ·cases h
theorem aeF {s:ByteArray} (h:(pM s).isSome=true):cr (meO (pM s))=true:=by
 obtain⟨ns,hns⟩:=ajD.1 h;obtain⟨h1,h2,-⟩:=Yi hns;rw [hns]
 match ns,h1 with
 | [a,b,c],_=>exact h2
theorem ag4 {c:Cn} (hk:CnOk c) (w rest:ByteArray):CnOk (MW c w rest).2:=by
 unfold MW;split
 ·split
  ·rename_i h
   exact⟨hk.m,aew h,hk.t,hk.j,hk.f⟩
  ·exact hk
 ·split
  ·exact hk
  ·rename_i h
   have hp:cr (meO (pM rest))=true:=aeF (by
    cases hq:(pM rest).isSome
    ·exact absurd hq h
    ·rfl)
   split
   ·split
    ·rename_i hj
     exact⟨BA hj,hk.s,hk.t,hk.j,hk.f⟩
    ·exact hk
   ·exact⟨hp,hk.s,hk.t,hk.j,hk.f⟩
theorem agR {c:Cn} (hk:CnOk c) (w:ByteArray) (r:List Int):CnOk (iA c w r).2:=by
 unfold iA;split
 ·split
  ·exact⟨Bj hk.m,hk.s,hk.t,hk.j,hk.f⟩
  ·exact hk
 split
 ·exact hk
 split
 ·split
  ·rename_i h
   refine⟨hk.m,?_,hk.t,hk.j,hk.f⟩
   have h':=h;unfold rlB at h';simp only [aiX] at h';unfold rlV;rw [if_pos h];exact ab2 hk.s h'.2
  ·exact hk
 split
 ·split
  ·exact⟨hk.m,NB,hk.t,hk.j,hk.f⟩
  ·exact hk
 ·exact hk
theorem ae9 {c:Cn} (hk:CnOk c) (w:ByteArray) (r:List Int):CnOk (kz c w r).2:=by
 unfold kz;split
 ·split
  ·rename_i h
   exact⟨hk.m,hk.s,h,hk.j,hk.f⟩
  ·exact hk
 split
 ·exact hk
 split
 ·exact hk
 split
 ·split
  ·exact⟨hk.m,hk.s,hk.t,OH _ _,hk.f⟩
  ·exact hk
 split
 ·exact hk
 split
 ·exact hk
 split
 ·split
  ·rename_i h
   refine⟨hk.m,hk.s,hk.t,hk.j,?_,?_⟩
   ·unfold ro at h
    simp only [aiX,decide_eq_true_eq] at h;exact h.2
   ·unfold ro at h
    simp only [aiX,ai0,decide_eq_true_eq] at h;intro f hf;have hb:=h.1 f hf;rcases List.mem_append.1 hf with g | g
    ·exact hk.f.2 f g
    ·rw [ajO] at g
     subst g;dsimp only at hb ⊢;exact⟨by omega,rfl⟩
  ·exact hk
 ·exact hk
theorem aeY {c:Cn} (hk:CnOk c) (t:ByteArray):CnOk (eu c t).2:=by
 unfold eu;split
 ·exact hk
 ·unfold bq
  split
  ·exact ag4 hk _ _
  ·split
   ·exact agR hk _ _
   ·exact ae9 hk _ _
def cn0:Cn:={m:=m0,s:=[],t:=[0],j:=⟨⟨[]⟩⟩,f:=[]}
theorem agS:CnOk cn0:=⟨rfl,rfl,rfl,ajc _,ajc _,fun f hf=>by cases hf⟩
def aN (s:ByteArray):List ByteArray:=(aC 10 s).take ((aC 10 s).length - 1)
def kf (s:ByteArray):Bool:=decide (s.size≤2000)&&(decide (s=⟨⟨[]⟩⟩)||decide ((ae s).getLast?=some 10))
def okC (s:ByteArray):Bool:=kf s&&decide ((aN s).length≤40)
theorem oc (s:ByteArray) (h:s.size≤1048576):gg [T s]=some (.ret [txs (if kf s=true then aN s else []),B (okC s)] []):=by
 rw [Ni];have e1:ce [T s,D.v (aiZ IntKind.u8 10)]=some (.ret [txs (aC 10 s)] []):=ga s 10 (by omega);have hne:0<(aC 10 s).length:=by
  rw [fb];exact ajK.2 (dv _ _)
 have hwl:(aC 10 s).length≤1048577:=by
  rw [fb];have h1:=fc 10 (ae s);have h2:=cZ s;omega
 have a3:aiY.wrap (((aC 10 s).length:Int) - 1)=(((aC 10 s).length - 1:Nat):Int):=by rw [ah (by omega) (by omega)];omega
 have hx:dH false 1 (txs (aC 10 s)) (D.v (aiZ aiY 0)) (I (((aC 10 s).length - 1:Nat):Int))=some (txs (aN s)):=by
  have:=mK (z:=1) (l:=(aC 10 s).map T) (i:=0) (j:=(aC 10 s).length - 1) (k:=.i64) (k':=.i64) (ajc _) (by simp);have e:dH false 1 (txs (aC 10 s)) (D.v (aiZ aiY 0)) (I (((aC 10 s).length - 1:Nat):Int))=_:=this;rw [e];unfold aN;simp [List.map_take]
 have h40:decide (((aN s).length:Int)≤40)=decide ((aN s).length≤40):=by
  by_cases h:(aN s).length≤40
  ·rw [decide_eq_true h,decide_eq_true (by omega)]
  ·rw [decide_eq_false h,decide_eq_false (by omega)]
 unfold okC;by_cases h1:s.size≤2000
 ·have h1':¬(2000:Int)<s.size:=by omega
  by_cases h2:s=⟨⟨[]⟩⟩
  ·have hE:kf s=true:=by
    unfold kf;rw [decide_eq_true h1,decide_eq_true h2];rfl
   have hq:bin BinOp.neq false [] (T s) (D.v (ajk {data:={toList:=[]}}))=some (B false):=by
    rw [ir,h2];rfl
   rw [hE];simp -implicitDefEqProofs only [aw,aiT,aiU,aiV,h1',hq,e1,a3,hx,h40,ajA]
  ·have hq:bin BinOp.neq false [] (T s) (D.v (ajk {data:={toList:=[]}}))=some (B true):=by
    rw [ir,decide_eq_false h2];rfl
   have hlen:0<(ae s).length:=by
    rcases Nat.eq_zero_or_pos (ae s).length with e | e
    ·exfalso
     apply h2;apply bP;rw [ai6 e];rfl
    ·exact e
   have hsz:s.size=(ae s).length:=rfl;have a4:aiY.wrap ((s.size:Int) - 1)=((s.size - 1:Nat):Int):=by rw [ah (by omega) (by omega)];omega
   have hch:kA (T s) (I ((s.size - 1:Nat):Int))=some (U ((ae s)[s.size - 1]'(by omega)).toNat):=by
    have:=oO (s:=s) (k:=.i64) (i:=s.size - 1);rw [ai7 (by omega)] at this;exact this
   have hlast:(ae s).getLast?=some ((ae s)[s.size - 1]'(by omega)):=by
    rw [List.getLast?_eq_getElem?,ai7 (by omega)];rfl
   generalize (ae s)[s.size - 1]'(by omega)=v at hch hlast;by_cases hv:v=10
   ·have hE:kf s=true:=by
     unfold kf;rw [hlast,hv,decide_eq_true h1];simp
    have hv':(v.toNat:Int)=10:=by rw [hv];rfl
    rw [hE];simp -implicitDefEqProofs only [aw,aiT,aiU,aiV,h1',hq,a4,hch,hv',e1,a3,hx,h40,ajA,ne_eq,not_true_eq_false]
   ·have hE:kf s=false:=by
     unfold kf;rw [hlast,decide_eq_false h2];simp [hv]
    have hv':¬(v.toNat:Int)=10:=fun e=>hv (UInt8.toNat_inj.1 (by have e2:(10:UInt8).toNat=10:=rfl;omega))
    rw [hE];simp -implicitDefEqProofs only [aw,aiT,aiU,aiV,h1',hq,a4,hch,hv',e1,ajp,ne_eq,not_false_eq_true];rfl
 ·have h1':(2000:Int)<s.size:=by omega
  have hE:kf s=false:=by
   unfold kf;rw [decide_eq_false h1,ajp]
  rw [hE];simp -implicitDefEqProofs only [aw,aiT,aiU,aiV,h1',ajp];rfl
theorem BR:∀(l:List Slp),(∀x∈l,(1≤x.1∧x.1≤200)∧0≤x.2∧x.2≤20)→(stT l).size≤8*l.length
 | [],_=>ajc _
 | x::l,h=>by
  have ih:=BR l fun y hy=>h y (by simp [hy])
  have h1:=(Hu (h x (by simp))).2.2;simp only [stT,ai8,aje];omega
theorem sw {n:Int} (h0 : -1000000000000000000<n) (h1:n<1000000000000000000):(aI n).size≤21:=by
 have:=oM (c:=32) (ns:=[n]) (va fun x hx=>by rw [ajO] at hx;subst hx;exact⟨h0,h1⟩);rw [JU] at this;simpa using this
theorem aaB {m:Me} (h:cr m=true):(mtT m).size≤57:=by
 have:=xB (c:=45) (ns:=meL m) fun n hn=>by have:=OK h n hn;omega
 exact this
theorem ab9 {f:List Fo} (h:abR f):(YO f).size≤100:=by
 have hl:=FP h.1 h.2;obtain⟨f1,f2,f3,f4,f5,f6,f7⟩:=Zs hl;have hH:=ai0.1 wZ f hl;unfold okH at hH;simp only [aiX,decide_eq_true_eq,ai0] at hH;obtain⟨⟨⟨⟨⟨⟨_,_⟩,h3⟩,h4⟩,h5⟩,h6⟩,h7⟩:=hH;have hlen:=(wX (du f) (du f).length (ai2 _)).1;rw [←PY] at hlen;unfold YO;rw [←Sp];have:=FA (szF f).1 (Ad f (du f).length).1 (fun n hn=>by have:=f7 n hn;omega) _ (ai2 _);omega
theorem Tj {c:Cn} (hk:CnOk c) (t:ByteArray):(eu c t).1.size≤1000:=by
 have s2:okT.size=2:=rfl;have s3:noT.size=2:=rfl;have s4:pV.size=4:=rfl;unfold eu;split
 ·exact ai3 (ai5 s4) (by decide)
 ·unfold bq
  split
  ·unfold MW
   split
   ·split
    ·exact ai3 (ai5 s2) (by decide)
    ·exact ai3 (ai5 s3) (by decide)
   ·split
    ·exact ai3 (ai5 s3) (by decide)
    ·split
     ·split
      ·rename_i hj
       have:=aaB (BA hj);dsimp only;omega
      ·exact ai3 (ai5 s3) (by decide)
     ·exact ai3 (ai5 s2) (by decide)
  ·split
   ·rename_i w rest r _ _ _
    unfold iA;split
    ·split
     ·have:=aaB (Bj (g:=r.getD 0 0) hk.m)
      dsimp only;omega
     ·exact ai3 (ai5 s3) (by decide)
    split
    ·dsimp only
     split
     ·have hb:∀z∈shR c.m,0≤z∧z≤1000:=by
       unfold shR;split
       ·rename_i h
        exact(UQ h).2.2
       ·contradiction
      have hl3:(shR c.m).length≤3:=by
       unfold shR;split
       ·exact ai2 3
       ·contradiction
      have:=oM (c:=32) (ns:=shR c.m) (va fun z hz=>by have:=hb z hz;omega);omega
     ·exact ai3 (ai5 s3) (by decide)
    split
    ·split
     ·obtain⟨hv1,hv2⟩:=Cb (n:=r.getD 0 0) hk.s
      have:=oM (c:=32) (ns:=rlV c.s (r.getD 0 0)) (va fun z hz=>by have:=hv2 z hz;omega);dsimp only;omega
     ·exact ai3 (ai5 s3) (by decide)
    split
    ·split
     ·have hck:=NB (l:=c.s) (i:=r.getD 0 0) (n:=r.getD 1 0)
      have:=BR _ (dW hck);have:=dE hck;dsimp only;omega
     ·exact ai3 (ai5 s3) (by decide)
    ·dsimp only
     split
     ·have hmb:=ZG (l:=c.s) (n:=r.getD 0 0)
      have:=sw (n:=Bw c.s (r.getD 0 0)) (by omega) (by omega);omega
     ·exact ai3 (ai5 s3) (by decide)
   ·rename_i w rest r _ _ _
    obtain⟨t1,t2,t3⟩:=rT hk.t;unfold kz;split
    ·split
     ·have:=sw (n:=((c.t.length+1:Nat):Int)) (by omega) (by omega)
      dsimp only;omega
     ·exact ai3 (ai5 s3) (by decide)
    split
    ·have hb:=Yn hk.t
     have:=sw (n:=Fm c.t) (by omega) (by omega);dsimp only;omega
    split
    ·have hb:=Vp c.t c.t.length (ai2 _)
     have hbb:∀z∈[((gy c.t c.t.length).1:Int),((gy c.t c.t.length).2:Int)],-1000000000000000000<z∧z<1000000000000000000:=by
      intro z hz;simp only [ajI,ajS,or_false] at hz;rcases hz with rfl | rfl<;>omega
     have:=oM (c:=32) (ns:=[((gy c.t c.t.length).1:Int),((gy c.t c.t.length).2:Int)]) (va hbb);dsimp only;simp only [aje,List.length_nil] at this;omega
    split
    ·split
     ·have hl:=uw (anS c.j (r.getD 0 0,r.getD 1 0,r.getD 2 0)).1
      have:=sw (n:=((jrS (anS c.j (r.getD 0 0,r.getD 1 0,r.getD 2 0)).1).1.length:Int)) (by omega) (by omega);dsimp only;omega
     ·exact ai3 (ai5 s3) (by decide)
    split
    ·dsimp only
     split
     ·rename_i hq
      have hb:=Uy (l:=(jrS c.j).1) (s:=r.getD 0 0) (d:=r.getD 1 0);rw [if_pos hq] at hb;have:=sw (n:=bD (jrS c.j).1 (r.getD 0 0) (r.getD 1 0)) (by omega) (by omega);omega
     ·exact ai3 (ai5 s3) (by decide)
    split
    ·dsimp only
     split
     ·have hb:=UT (l:=(jrS c.j).1) (s:=r.getD 0 0)
      have:=sw (n:=(gP (jrS c.j).1 (r.getD 0 0)).1) (by omega) (by omega);omega
     ·exact ai3 (ai5 s3) (by decide)
    split
    ·split
     ·have h4:=hk.f.1
      have:=sw (n:=((c.f.length+1:Nat):Int)) (by omega) (by omega);dsimp only;omega
     ·exact ai3 (ai5 s3) (by decide)
    ·have:=ab9 hk.f
     dsimp only;omega
structure Rn where
 c:Cn
 out:ByteArray
 no:List Int
 wh:List Int
def oE (a:Rn) (i:Nat) (l:ByteArray):Rn :=
 {c:=(eu a.c l).2,out:=a.out++((eu a.c l).1++⟨⟨[10]⟩⟩),no:=if (eu a.c l).1=noT then a.no++[((i+1:Nat):Int)] else a.no,
  wh:=if (eu a.c l).1=pV then a.wh++[((i+1:Nat):Int)] else a.wh}
def dQ (L:List ByteArray):Nat→Rn
 | 0=>{c:=cn0,out:=⟨⟨[]⟩⟩,no:=[],wh:=[]}
 | i+1=>oE (dQ L i) i (L.getD i ⟨⟨[]⟩⟩)
theorem Cj (L:List ByteArray):∀i,CnOk (dQ L i).c∧(dQ L i).out.size≤1001*i∧(dQ L i).no.length≤i∧(dQ L i).wh.length≤i
 | 0=>⟨agS,ajc _,ajc _,ajc _⟩
 | i+1=>by
  obtain⟨h1,h2,h3,h4⟩:=Cj L i;have hs:=Tj h1 (L.getD i ⟨⟨[]⟩⟩);refine⟨aeY h1 _,?_,?_,?_⟩
  ·show((dQ L i).out++((eu (dQ L i).c (L.getD i ⟨⟨[]⟩⟩)).1++⟨⟨[10]⟩⟩)).size≤_
   rw [ai8,ai8,Hm];omega
  ·show(if _ then _ else _:List Int).length≤_
   split
   ·simp;omega
   ·omega
  ·show(if _ then _ else _:List Int).length≤_
   split
   ·simp;omega
   ·omega
open Go Go.V Go.RowKit Go.Shelf
def cnL (c:Cn) (x y:Value) (n:Int):List D:=[I c.m.1,I c.m.2.1,I c.m.2.2,sls c.s,ai c.t,T c.j,fos c.f,.raw x,.raw y,I n]
theorem aeM {w:World} {F:Nat→Prop} {own:Nat→Prop} {c:Cn} {x y:Value} {n:Int} {b t:Nat} {us:List Value} (hk:w.heap[b]?=some (.cells us.toArray t (0,0))) (hr:cm w F (cnL c x y n) us) (ho:own b) :
  Gx w F own 10 (cnD c x y n) (.pointer (some ⟨b,0,none⟩)):=⟨cnL c x y n,us,b,t,rfl,rfl,hk,hr,rfl,rfl,ho⟩
structure LineL (w w':World) (F F':Nat→Prop) (b:Nat) (c:Cn) (x y:Value) (us:List Value) (t:Nat):Prop where
 os:w'.os=w.os
 tape:w'.tape=w.tape
 output:w'.output=w.output
 size:w.heap.size≤w'.heap.size
 keep:∀k,k<w.heap.size→k≠b→w'.heap[k]?=w.heap[k]?
 f0:∀k,F k→F' k
 fn:∀k,F' k→(F k∨w.heap.size≤k)∧k<w'.heap.size
 box:w'.heap[b]?=some (.cells us.toArray t (0,0))
 rep:cm w' F' (cnL c x y 0) us
theorem abJ {w:World} {F:Nat→Prop} {b t:Nat} {us:List Value} {c:Cn} {x y:Value} (hF:∀k,F k→k<w.heap.size∧k≠b) (hgl:gOk gl0 w F) (hk:w.heap[b]?=some (.cells us.toArray t (0,0))) (hr:cm w F (cnL c x y 0) us) (hc:CnOk c) (s:ByteArray) (hs:s.size≤1000000) :
  Calls Tryz.prog 57 #[.pointer (some ⟨b,0,none⟩),.string s] w fun e w'=>e = .returned (.string (eu c s).1)∧∃F' us' t',LineL w w' F F' b (eu c s).2 x y us' t':=by
 have hb:b<w.heap.size:=(ajm.1 hk).1;have he:=Wx c x y 0 s hc hs;have ha:fB w F (fun k=>if k=b then some 0 else none) 0 rv.pm [cnD c x y 0,T s] (#[Value.pointer (some ⟨b,0,none⟩),.string s]:Array Value).toList :=
  show eX w F (fun g=>(if g=b then some 0 else none)=some 0) (.box 10 2 true) (cnD c x y 0) (.pointer (some ⟨b,0,none⟩))∧eX w F _ (.dat 0) (T s) (.string s)∧True from
   ⟨.inr (aeM hk hr (by simp)),.inr (ct.2 ⟨rfl,rfl⟩),trivial⟩
 refine(mh (ajx Tryz.func57 (by kernel_rfl) rfl) CS he hgl ha (fun k hk'=>⟨(hF k hk').1,if_neg (hF k hk').2⟩) (fun k i h=>by
  split at h
  ·rename_i e
   rw [e];exact hb
  ·cases h)).mono ?_
 rintro e w' ⟨v,rfl,F',R,vs,rfl,hpost⟩;have hl:=hpost.len
 match vs,hl with
 | [y0],hl =>
  have r0:=(hpost.res 0).resolve_left (by intro h;cases h);replace r0:bU w' _ (T (eu c s).1) y0:=r0;obtain⟨rfl,-⟩:=ct.1 r0;refine⟨rfl,?_⟩
  have hu:=hpost.us;replace hu:cnD (eu c s).2 x y 0 ≠ .bad∧eX w' F' (fun _=>True) (.box 10 2 true) (cnD (eu c s).2 x y 0) (.pointer (some ⟨b,0,none⟩))∧True:=hu;have hbx:=hu.2.1.resolve_left hu.1;replace hbx:Gx w' F' (fun _=>True) 10 (cnD (eu c s).2 x y 0) (.pointer (some ⟨b,0,none⟩)):=hbx;obtain⟨l,us',g,t',h1,h2,h3,h4,h5,h6,-⟩:=hbx;cases h1;cases h2;exact⟨F',us',t',⟨hpost.os,hpost.tape,hpost.output,hpost.size,fun k hk' hne=>hpost.keep k hk' (if_neg hne),hpost.f0,fun k hk'=>⟨(hpost.fn k hk').1,(hpost.fn k hk').2.1⟩,h3,h4⟩⟩
theorem PF {w:World} {F:Nat→Prop} (hF:∀b,F b→b<w.heap.size) (hgl:gOk gl0 w F) (s:ByteArray) (hs:s.size≤1048576) :
  Calls Tryz.prog 55 #[.string s] w fun e w'=>Below w.heap.size w w'∧∃A c,e = .returned (.tuple #[.slice A (if kf s=true then aN s else []).length c,.bool (okC s)]) ∧
   ((if kf s=true then aN s else [])≠[]→∃b o,A=some ⟨b,o,none⟩∧b<w'.heap.size∧w.heap.size≤b∧∀(i:Nat) (x:ByteArray),(if kf s=true then aN s else [])[i]?=some x→w'.cell? ⟨b,o+i,none⟩=some (.string x)):=by
 refine(td (ajx Tryz.func55 (by kernel_rfl) rfl) AF gg rfl (oc s hs) (args:=#[.string s]) hgl (show eX w F _ (.dat 0) (T s) (.string s)∧True from⟨.inr (ct.2 ⟨rfl,rfl⟩),trivial⟩) hF).mono ?_
 rintro e w' ⟨hB,F',R,vs,rfl,hpost⟩;refine⟨hB,?_⟩
 generalize (if kf s=true then aN s else [])=L at *;have hl:=hpost.len
 match vs,hl with
 | [y0,y1],hl =>
  have r0:=(hpost.res 0).resolve_left (by intro h;cases h);have r1:=(hpost.res 1).resolve_left (by intro h;cases h);replace r0:bU w' _ (txs L) y0:=r0;replace r1:bU w' _ (B (okC s)) y1:=r1;obtain⟨rfl,-⟩:=ct.1 r1;obtain⟨A,c,us,h1,h2,h3,h4,h5⟩:=qy r0;have hus:∀(l:List ByteArray) (us:List Value) (G:Nat→Prop),cm w' G (l.map T) us→us=l.map ajk:=by
   intro l;induction l with
   | nil=>intro us G h;exact aZ.1 h
   | cons x l ih =>
    intro us G h;obtain⟨v1,v2,rfl,q1,q2⟩:=ax.1 h;simp only [RepC] at q1;rw [ih v2 G q2,q1.1];rfl
  rw [hus _ _ _ h3] at h5;rw [ajd] at h1;refine⟨A,c,by rw [h1];rfl,fun hne=>?_⟩
  obtain⟨b,o,h6,h7,h8⟩:=h5 (by simpa using hne);exact⟨b,o,h6,(hpost.fn b h7.1).2.1,h7.2,fun i x hx=>h8 i _ (by rw [List.getElem?_map,hx];rfl)⟩
abbrev us0 (b:Nat):List Value:=[.int .i64 0,.int .i64 0,.int .i64 0,.slice none 0 0,.slice (some ⟨b,0,none⟩) 1 1,.string ⟨#[]⟩,.slice none 0 0,.slice none 0 0,.slice none 0 0,.int .i64 0]
abbrev wS (w:World):World:=(w.alloc (.cells #[.int .i64 0] 3)).alloc (.cells (us0 w.heap.size).toArray 59)
set_option maxHeartbeats 4000000 in
set_option maxRecDepth 1000000 in
theorem OD (w:World):Calls Tryz.prog 56 #[] w fun e w'=>e = .returned (.pointer (some ⟨w.heap.size+1,0,none⟩))∧w'=wS w:=by
 go_enter Tryz.func56,Tryz.ntmps56
 go_wp2
 go_ret
 exact⟨rfl,rfl⟩
theorem Qb {w:World} {F:Nat→Prop} {c:Cn} {x y:Value} {n:Int} {us:List Value} (h:cm w F (cnL c x y n) us) :
  ∃sV tV fV,us=[.int .i64 c.m.1,.int .i64 c.m.2.1,.int .i64 c.m.2.2,sV,tV,.string c.j,fV,x,y,.int .i64 n]∧RepC w F (sls c.s) [sV]∧RepC w F (ai c.t) [tV]∧RepC w F (fos c.f) [fV]∧(∃A k d,x = .slice A k d)∧∃A k d,y = .slice A k d:=by
 unfold cnL at h;obtain⟨v0,r0,rfl,g0,h⟩:=ax.1 h;obtain⟨v1,r1,rfl,g1,h⟩:=ax.1 h;obtain⟨v2,r2,rfl,g2,h⟩:=ax.1 h;obtain⟨v3,r3,rfl,g3,h⟩:=ax.1 h;obtain⟨v4,r4,rfl,g4,h⟩:=ax.1 h;obtain⟨v5,r5,rfl,g5,h⟩:=ax.1 h;obtain⟨v6,r6,rfl,g6,h⟩:=ax.1 h;obtain⟨v7,r7,rfl,g7,h⟩:=ax.1 h;obtain⟨v8,r8,rfl,g8,h⟩:=ax.1 h;obtain⟨v9,r9,rfl,g9,h⟩:=ax.1 h;obtain rfl:=aZ.1 h;obtain⟨sV,rfl,-⟩:=lP _ _ rfl g3;obtain⟨tV,rfl,-⟩:=lP _ _ rfl g4;obtain⟨fV,rfl,-⟩:=lP _ _ rfl g6;simp only [RepC] at g0 g1 g2 g5 g7 g8 g9;obtain⟨rfl,-⟩:=g0;obtain⟨rfl,-⟩:=g1;obtain⟨rfl,-⟩:=g2;obtain⟨rfl,-⟩:=g5;obtain⟨rfl,g7⟩:=g7;obtain⟨rfl,g8⟩:=g8;obtain⟨rfl,-⟩:=g9;exact⟨sV,tV,fV,rfl,g3,g4,g6,g7,g8⟩
theorem YH {w:World} {F:Nat→Prop} {c:Cn} {x y:Value} {n:Int} {sV tV fV:Value} (h3:RepC w F (sls c.s) [sV]) (h4:RepC w F (ai c.t) [tV]) (h6:RepC w F (fos c.f) [fV]) (hx:∃A k d,x = .slice A k d) (hy:∃A k d,y = .slice A k d) :
  cm w F (cnL c x y n) [.int .i64 c.m.1,.int .i64 c.m.2.1,.int .i64 c.m.2.2,sV,tV,.string c.j,fV,x,y,.int .i64 n]:=by
 unfold cnL;refine ax.2 ⟨[_],_,rfl,lq rfl,ax.2 ⟨[_],_,rfl,lq rfl,ax.2 ⟨[_],_,rfl,lq rfl,ax.2 ⟨[_],_,rfl,h3,ax.2 ⟨[_],_,rfl,h4,ax.2 ⟨[_],_,rfl,lq rfl,ax.2 ⟨[_],_,rfl,h6,ax.2 ⟨[_],_,rfl,?_,ax.2 ⟨[_],_,rfl,?_,ax.2 ⟨[_],[],rfl,lq rfl,aZ.2 rfl⟩⟩⟩⟩⟩⟩⟩⟩⟩⟩
 ·simp only [RepC]
  exact⟨trivial,hx⟩
 ·simp only [RepC]
  exact⟨trivial,hy⟩
structure RunI (w W2 wr:World) (F F':Nat→Prop) (a:Rn) (us:List Value) (t:Nat) (nv wv:Value):Prop where
 bx:wr.heap[w.heap.size+1]?=some (.cells us.toArray t (0,0))
 rep:cm wr F' (cnL a.c nv wv 0) us
 f0:∀k,F k→F' k
 fn:∀k,F' k→(F k∨w.heap.size≤k)∧k<wr.heap.size∧k≠w.heap.size+1∧nv.ownBlock≠some k∧wv.ownBlock≠some k
 no:wr.ownsRow W2.heap.size 3 1 nv a.no.length (a.no.map (aiZ .i64))
 wh:wr.ownsRow W2.heap.size 3 1 wv a.wh.length (a.wh.map (aiZ .i64))
 ap:∀k,nv.ownBlock=some k→wv.ownBlock≠some k
 bl:Below w.heap.size w wr
 sz:W2.heap.size≤wr.heap.size
 old:∀k,k<W2.heap.size→k≠w.heap.size+1→wr.heap[k]?=W2.heap[k]?
theorem xj {W:World} {base e size n:Nat} {v:Value} {xs:List Value} (h:W.ownsRow base e size v n xs) {k:Nat} (hk:v.ownBlock=some k):k<W.heap.size:=by
 obtain⟨_,⟨rfl,_⟩ | ⟨g,cap,cur,rfl,hge,hg,_⟩⟩:=h
 ·simp [ajY] at hk
 ·simp only [ajY,aji] at hk
  subst hk;exact(ajm.1 hg).1
theorem sq {W W':World} {base e size n:Nat} {v:Value} {xs:List Value} (h:W.ownsRow base e size v n xs) (hk:∀k,v.ownBlock=some k→W'.heap[k]?=W.heap[k]?):W'.ownsRow base e size v n xs:=by
 obtain⟨h1,h2 | ⟨g,cap,cur,rfl,h3,h4,r⟩⟩:=h
 ·exact⟨h1,.inl h2⟩
 ·exact⟨h1,.inr ⟨g,cap,cur,rfl,h3,(hk g rfl).trans h4,r⟩⟩
theorem abf {w W2 wr wr':World} {F F' F2:Nat→Prop} {a:Rn} {us us2:List Value} {t t2:Nat} {nv wv:Value} {l:ByteArray} (h:RunI w W2 wr F F' a us t nv wv) (hb2:w.heap.size+1<W2.heap.size) (hl:LineL wr wr' F' F2 (w.heap.size+1) (eu a.c l).2 nv wv us2 t2) :
  RunI w W2 wr' F F2 {a with c:=(eu a.c l).2} us2 t2 nv wv:=by
 have hkn:∀k,nv.ownBlock=some k→wr'.heap[k]?=wr.heap[k]?:=fun k hk=>hl.keep k (xj h.no hk) (by have:=im h.no hk;omega)
 have hkw:∀k,wv.ownBlock=some k→wr'.heap[k]?=wr.heap[k]?:=fun k hk=>hl.keep k (xj h.wh hk) (by have:=im h.wh hk;omega)
 refine⟨hl.box,hl.rep,fun k hk=>hl.f0 k (h.f0 k hk),fun k hk=>?_,sq h.no hkn,sq h.wh hkw,h.ap,?_,ai3 h.sz hl.size,fun k hk hne=>(hl.keep k (ajo hk h.sz) hne).trans (h.old k hk hne)⟩
 ·obtain⟨h1,h2⟩:=hl.fn k hk
  have hsz:=h.sz;have hws:=h.bl.size;rcases h1 with h1 | h1
  ·obtain⟨g1,g2,g3,g4,g5⟩:=h.fn k h1
   exact⟨g1,h2,g3,g4,g5⟩
  ·refine⟨.inr (by omega),h2,by omega,fun e=>?_,fun e=>?_⟩
   ·have:=xj h.no e
    omega
   ·have:=xj h.wh e
    omega
 ·exact h.bl.trans ⟨hl.os,hl.tape,hl.output,hl.size,fun k hk=>hl.keep k (by have:=h.bl.size;omega) (by omega)⟩
theorem aeO {w W2 wr w2:World} {F F':Nat→Prop} {a:Rn} {us:List Value} {t:Nat} {nv wv v':Value} {o:Obj} {z:Int} (h:RunI w W2 wr F F' a us t nv wv) (hb2:w.heap.size+1<W2.heap.size)
  (hown:w2.ownsRow W2.heap.size 3 1 v' (a.no.length+1) (a.no.map (aiZ .i64)++[.int .i64 z])) (hgrow:(wr.alloc o).grownBy w2 nv.ownBlock) (hat:v'.ownBlock=nv.ownBlock∨v'.ownBlock=some (wr.alloc o).heap.size) :
  ∃us' t',RunI w W2 (w2.setCell ⟨w.heap.size+1,7,none⟩ v') F F' {a with no:=a.no++[z]} us' t' v' wv:=by
 obtain⟨g',cap',rfl⟩:=oQ hown;have hsza:(wr.alloc o).heap.size=wr.heap.size+1:=by simp
 have hbox:w2.heap[w.heap.size+1]?=_:=eS h.bx hgrow (fun e=>by have:=im h.no e;omega);obtain⟨sV,tV,fV,rfl,r3,r4,r6,r7,r8⟩:=Qb h.rep;have hset:=heap_setCell_same _ (w.heap.size+1) 7 _ _ (.slice (some ⟨g',0,none⟩) (a.no.length+1) cap') hbox;have hkeep:∀k,k<wr.heap.size→k≠w.heap.size+1→nv.ownBlock≠some k→(w2.setCell ⟨w.heap.size+1,7,none⟩ (.slice (some ⟨g',0,none⟩) (a.no.length+1) cap')).heap[k]?=wr.heap[k]?:=by
  intro k hk hne hn;rw [heap_setCell_other _ _ _ _ (by simpa using hne)];rw [hgrow.block k (by omega) (fun e=>hn e.symm)];exact heap_alloc_old wr o hk
 have hmono:∀k,F' k→(w2.setCell ⟨w.heap.size+1,7,none⟩ (.slice (some ⟨g',0,none⟩) (a.no.length+1) cap')).heap[k]?=wr.heap[k]?:=fun k hk=>by
  obtain⟨-,g2,g3,g4,g5⟩:=h.fn k hk;exact hkeep k g2 g3 g4
 have hsz2:wr.heap.size+1≤w2.heap.size:=by have:=hgrow.size;omega
 have hszs:(w2.setCell ⟨w.heap.size+1,7,none⟩ (.slice (some ⟨g',0,none⟩) (a.no.length+1) cap')).heap.size=w2.heap.size:=by simp [ajJ]
 have hg:(ajG (some ⟨g',0,none⟩) (a.no.length+1) cap').ownBlock=some g':=rfl;have hgn:g'≠w.heap.size+1:=fun e=>by
  have:=im hown hg;omega
 have hws:=h.bl.size;have hRz:=h.sz;refine⟨_,_,⟨hset,YH (RepC_mono (fun _ h=>h) hmono _ _ r3) (RepC_mono (fun _ h=>h) hmono _ _ r4) (RepC_mono (fun _ h=>h) hmono _ _ r6) ⟨_,_,_,rfl⟩ r8,h.f0,fun k hk=>?_,?_,?_,?_,?_,by rw [hszs];omega,fun k hk hne=>(hkeep k (by omega) hne (fun e=>by have:=im h.no e;omega)).trans (h.old k hk hne)⟩⟩
 ·obtain⟨g1,g2,g3,g4,g5⟩:=h.fn k hk
  have hnew:(ajG (some ⟨g',0,none⟩) (a.no.length+1) cap').ownBlock≠some k:=fun e=>by
   rcases hat with e2 | e2
   ·rw [e2] at e
    exact g4 e
   ·rw [e2] at e
    simp only [aji] at e;omega
  exact⟨g1,by rw [hszs];omega,g3,hnew,g5⟩
 ·have e:({a with no:=a.no++[z]}:Rn).no.length=a.no.length+1:=by simp
  have e2:({a with no:=a.no++[z]}:Rn).no.map (aiZ .i64)=a.no.map (aiZ .i64)++[.int .i64 z]:=by simp
  rw [e,e2];exact sq hown fun k hk=>heap_setCell_other _ _ _ _ (by
   rw [hg] at hk;cases hk;simpa using hgn)
 ·exact sq h.wh fun k hk=>hkeep k (xj h.wh hk) (by have:=im h.wh hk;omega) (fun e=>h.ap k e hk)
 ·intro k hk
  rcases hat with e2 | e2
  ·rw [e2] at hk
   exact h.ap k hk
  ·rw [e2] at hk
   simp only [aji] at hk;intro e;have:=xj h.wh e;omega
 ·have b1:Below w.heap.size w w2:=(h.bl.alloc h.bl.size o).grown hgrow (by omega) (fun j hj=>by have:=im h.no hj;omega)
  exact b1.setCell (by simp) _
theorem afM {w W2 wr w2:World} {F F':Nat→Prop} {a:Rn} {us:List Value} {t:Nat} {nv wv v':Value} {o:Obj} {z:Int} (h:RunI w W2 wr F F' a us t nv wv) (hb2:w.heap.size+1<W2.heap.size)
  (hown:w2.ownsRow W2.heap.size 3 1 v' (a.wh.length+1) (a.wh.map (aiZ .i64)++[.int .i64 z])) (hgrow:(wr.alloc o).grownBy w2 wv.ownBlock) (hat:v'.ownBlock=wv.ownBlock∨v'.ownBlock=some (wr.alloc o).heap.size) :
  ∃us' t',RunI w W2 (w2.setCell ⟨w.heap.size+1,8,none⟩ v') F F' {a with wh:=a.wh++[z]} us' t' nv v':=by
 obtain⟨g',cap',rfl⟩:=oQ hown;have hsza:(wr.alloc o).heap.size=wr.heap.size+1:=by simp
 have hbox:w2.heap[w.heap.size+1]?=_:=eS h.bx hgrow (fun e=>by have:=im h.wh e;omega);obtain⟨sV,tV,fV,rfl,r3,r4,r6,r7,r8⟩:=Qb h.rep;have hset:=heap_setCell_same _ (w.heap.size+1) 8 _ _ (.slice (some ⟨g',0,none⟩) (a.wh.length+1) cap') hbox;have hkeep:∀k,k<wr.heap.size→k≠w.heap.size+1→wv.ownBlock≠some k→(w2.setCell ⟨w.heap.size+1,8,none⟩ (.slice (some ⟨g',0,none⟩) (a.wh.length+1) cap')).heap[k]?=wr.heap[k]?:=by
  intro k hk hne hn;rw [heap_setCell_other _ _ _ _ (by simpa using hne)];rw [hgrow.block k (by omega) (fun e=>hn e.symm)];exact heap_alloc_old wr o hk
 have hmono:∀k,F' k→(w2.setCell ⟨w.heap.size+1,8,none⟩ (.slice (some ⟨g',0,none⟩) (a.wh.length+1) cap')).heap[k]?=wr.heap[k]?:=fun k hk=>by
  obtain⟨-,g2,g3,g4,g5⟩:=h.fn k hk;exact hkeep k g2 g3 g5
 have hsz2:wr.heap.size+1≤w2.heap.size:=by have:=hgrow.size;omega
 have hszs:(w2.setCell ⟨w.heap.size+1,8,none⟩ (.slice (some ⟨g',0,none⟩) (a.wh.length+1) cap')).heap.size=w2.heap.size:=by simp [ajJ]
 have hg:(ajG (some ⟨g',0,none⟩) (a.wh.length+1) cap').ownBlock=some g':=rfl;have hgn:g'≠w.heap.size+1:=fun e=>by
  have:=im hown hg;omega
 have hws:=h.bl.size;have hRz:=h.sz;refine⟨_,_,⟨hset,YH (RepC_mono (fun _ h=>h) hmono _ _ r3) (RepC_mono (fun _ h=>h) hmono _ _ r4) (RepC_mono (fun _ h=>h) hmono _ _ r6) r7 ⟨_,_,_,rfl⟩,h.f0,fun k hk=>?_,?_,?_,?_,?_,by rw [hszs];omega,fun k hk hne=>(hkeep k (by omega) hne (fun e=>by have:=im h.wh e;omega)).trans (h.old k hk hne)⟩⟩
 ·obtain⟨g1,g2,g3,g4,g5⟩:=h.fn k hk
  have hnew:(ajG (some ⟨g',0,none⟩) (a.wh.length+1) cap').ownBlock≠some k:=fun e=>by
   rcases hat with e2 | e2
   ·rw [e2] at e
    exact g5 e
   ·rw [e2] at e
    simp only [aji] at e;omega
  exact⟨g1,by rw [hszs];omega,g3,g4,hnew⟩
 ·exact sq h.no fun k hk=>hkeep k (xj h.no hk) (by have:=im h.no hk;omega) (fun e=>h.ap k hk e)
 ·have e:({a with wh:=a.wh++[z]}:Rn).wh.length=a.wh.length+1:=by simp
  have e2:({a with wh:=a.wh++[z]}:Rn).wh.map (aiZ .i64)=a.wh.map (aiZ .i64)++[.int .i64 z]:=by simp
  rw [e,e2];exact sq hown fun k hk=>heap_setCell_other _ _ _ _ (by
   rw [hg] at hk;cases hk;simpa using hgn)
 ·intro k hk
  rcases hat with e2 | e2
  ·intro e
   rw [e2] at e;exact h.ap k hk e
  ·intro e
   rw [e2] at e;simp only [aji] at e;have:=xj h.no hk;omega
 ·have b1:Below w.heap.size w w2:=(h.bl.alloc h.bl.size o).grown hgrow (by omega) (fun j hj=>by have:=im h.wh hj;omega)
  exact b1.setCell (by simp) _
theorem FJ {w W2 wr:World} {F F':Nat→Prop} {a a':Rn} {us:List Value} {t:Nat} {nv wv:Value} (h:RunI w W2 wr F F' a us t nv wv) (h1:a'.c=a.c) (h2:a'.no=a.no) (h3:a'.wh=a.wh):RunI w W2 wr F F' a' us t nv wv:=by
 obtain⟨p1,p2,p3,p4,p5,p6,p7,p8,p9,p10⟩:=h;exact⟨p1,by rw [h1];exact p2,p3,p4,by rw [h2];exact p5,by rw [h3];exact p6,p7,p8,p9,p10⟩
theorem afX:noT.toList=[110,111]:=by
 rw [show noT.toList=noT.data.toList from by simp [ajL]]
theorem aaK:pV.toList=[119,104,97,116]:=by
 rw [show pV.toList=pV.data.toList from by simp [ajL]]
theorem ahW {r:ByteArray}:(r.toList==[110,111])=decide (r=noT):=by
 rw [←afX];by_cases h:r=noT
 ·rw [h,decide_eq_true rfl];simp
 ·rw [decide_eq_false h,beq_eq_false_iff_ne]
  exact fun e=>h (sd e)
theorem aeS {r:ByteArray}:(r.toList==[119,104,97,116])=decide (r=pV):=by
 rw [←aaK];by_cases h:r=pV
 ·rw [h,decide_eq_true rfl];simp
 ·rw [decide_eq_false h,beq_eq_false_iff_ne]
  exact fun e=>h (sd e)
set_option maxHeartbeats 4000000 in
set_option maxRecDepth 1000000 in
theorem Zf (s:ByteArray) (hs:s.size≤1048576) (w:World) (F:Nat→Prop) (hF:∀b,F b→b<w.heap.size) (hgl:gOk gl0 w F) (hok:okC s=true) :
  Calls Tryz.prog 41 #[.string s] w fun e w'=>∃W2 wr F' us t nv wv,w.heap.size+1<W2.heap.size∧RunI w W2 wr F F' (dQ (aN s) (aN s).length) us t nv wv∧w'=wr.setCell ⟨w.heap.size+1,9,none⟩ (.int .i64 (aN s).length) ∧
   e = .returned (.tuple #[.pointer (some ⟨w.heap.size+1,0,none⟩),.string (dQ (aN s) (aN s).length).out,.bool true]):=by
 have hok':=hok;unfold okC at hok';simp only [aiX,decide_eq_true_eq] at hok';obtain⟨hE,h40⟩:=hok';have hE':=hE;unfold kf at hE';simp only [aiX,decide_eq_true_eq] at hE';have hLz:∀l∈aN s,l.size≤1000000:=fun l hl=>by
  have:=fL 10 s l (List.mem_of_mem_take hl);omega
 have b1:Below w.heap.size w (wS w):=((ajW _ w).alloc (ai2 _) _).alloc (by simp) _;have hszS:(wS w).heap.size=w.heap.size+2:=by simp
 have k0:(wS w).heap[w.heap.size]?=some (.cells #[.int .i64 0] 3 (0,0)):=(heap_alloc_old _ _ (by simp)).trans (heap_alloc_new w _);have k1:(wS w).heap[w.heap.size+1]?=some (.cells (us0 w.heap.size).toArray 59 (0,0)):=by
  have:=heap_alloc_new (w.alloc (.cells #[.int .i64 0] 3)) (.cells (us0 w.heap.size).toArray 59);simpa using this
 have hst:=OD w;have hc1:=PF (w:=wS w) (F:=F) (fun b hb=>ajo (hF b hb) b1.size) (iu (fun _ h=>h) (fun b hb=>b1.block b (hF b hb)) hgl) s hs;simp only [hE,hok,if_true] at hc1;generalize aN s=L at *;generalize hW1:wS w=W1 at *
 go_enter Tryz.func41,Tryz.ntmps41
 go_wp2_with (go_at_call 56;refine hst.mono ?_)
 rintro e _ ⟨rfl,rfl⟩
 go_wp2_with (go_at_call 55;refine hc1.mono ?_)
 rintro e W2 ⟨b2,A,c,rfl,hA⟩;have hB2:=b1.trans (b2.mono b1.size);have k0:=(b2.block _ (by omega)).trans k0;have k1:=(b2.block _ (by omega)).trans k1;have hb2:w.heap.size+1<W2.heap.size:=by have:=b2.size;omega
 have hAA:∀(i:Nat) (h:i<L.length),∃b o,A=some ⟨b,o,none⟩∧b<W2.heap.size∧b≠w.heap.size+1∧W2.cell? ⟨b,o+i,none⟩=some (.string L[i]):=fun i h=>by
  obtain⟨b,o,h1,h2,h3,h4⟩:=hA (fun e=>by rw [e] at h;simp at h);exact⟨b,o,h1,h2,by omega,h4 i _ (ai7 h)⟩
 clear hA hc1 hst
 go_wp2
 go_loopw [8,23] (fun v8 v23 wr=>∃(i:Nat) (F':Nat→Prop) (us:List Value) (t:Nat) (nv wv:Value),v8 = .string (dQ L i).out∧v23 = .int .i64 i∧i≤L.length∧RunI w W2 wr F F' (dQ L i) us t nv wv) (fun v8 v23 wr=>L.length - (match v23 with | .int _ n=>n.toNat | _=>0))
 case atStart =>
  refine⟨0,fun k=>F k∨k=w.heap.size,us0 w.heap.size,59,.slice none 0 0,.slice none 0 0,rfl,rfl,ajc _,⟨k1,?_,fun k hk=>.inl hk,fun k hk=>?_,ajQ _ _ _ _,ajQ _ _ _ _,(fun k hk=>by cases hk),hB2,ai2 _,fun k hk _=>rfl⟩⟩
  ·refine YH (c:=cn0) lV ?_ lV ⟨_,_,_,rfl⟩ ⟨_,_,_,rfl⟩
   simp only [RepC];refine⟨some ⟨w.heap.size,0,none⟩,1,[.int .i64 0],rfl,ai2 _,pd [0],fun d hd=>?_,fun _=>⟨_,_,rfl,.inr rfl,fun j u hu=>?_⟩⟩
   ·obtain⟨n,_,rfl⟩:=ajP.1 hd
    rfl
   ·rw [aja k0,ajw]
    simpa using hu
  ·rcases hk with hk | rfl
   ·have:=hF k hk
    exact⟨.inl hk,by omega,by omega,(fun e=>by cases e),(fun e=>by cases e)⟩
   ·exact⟨.inr (ai2 _),by omega,by omega,(fun e=>by cases e),(fun e=>by cases e)⟩
 case round =>
  obtain⟨i,F',us,t,nv,wv,rfl,rfl,hi,RI⟩:=hrel;obtain⟨ro1,ro2,ro3,ro4⟩:=Cj L i;by_cases hp:i<L.length
  ·have hpi:(i:Int)<(L.length:Int):=by omega
   obtain⟨b,o,rfl,hbz,hbn,hcell⟩:=hAA i hp;have cw:wr.cell? ⟨b,o+i,none⟩=some (.string L[i]):=(World.cell?_of_block (RI.old b hbz hbn)).trans hcell;have hcl:=abJ (b:=w.heap.size+1) (fun k hk=>⟨(RI.fn k hk).2.1,(RI.fn k hk).2.2.1⟩) (iu RI.f0 (fun k hk=>RI.bl.block k (hF k hk)) hgl) RI.bx RI.rep ro1 L[i] (hLz _ (ai1 hp));have hrun:dQ L (i+1)=oE (dQ L i) i L[i]:=by
    show oE (dQ L i) i (L.getD i ⟨⟨[]⟩⟩)=_
    simp [hp]
   have hrz:=Tj ro1 L[i]
   go_wp2_with (go_at_call 57;refine hcl.mono ?_)
   rintro e W3 ⟨rfl,F2,us2,t2,hl⟩;have RI2:=abf RI hb2 hl;obtain⟨i0,hi0,hz0,hz1,hz2⟩:=info_parts Xr;have hno1:W3.ownsRow W2.heap.size 3 1 nv (dQ L i).no.length ((dQ L i).no.map (aiZ .i64)):=RI2.no;have hwh1:W3.ownsRow W2.heap.size 3 1 wv (dQ L i).wh.length ((dQ L i).wh.map (aiZ .i64)):=RI2.wh;obtain⟨nA,nn,nc,rfl⟩:=Pp hno1;obtain⟨wA,wn,wc,rfl⟩:=Pp hwh1;have hsz3:=RI2.sz;obtain⟨sV,tV,fV,hus,r3,r4,r6,r7,r8⟩:=Qb RI2.rep;have c7:W3.cell? ⟨w.heap.size+1,7,none⟩=some (.slice nA nn nc):=by
    rw [aja RI2.bx,hus];rfl
   have c8:W3.cell? ⟨w.heap.size+1,8,none⟩=some (.slice wA wn wc):=by
    rw [aja RI2.bx,hus];rfl
   generalize hrep:(eu (dQ L i).c L[i]).1=rp at *;have hq1:=ahW (r:=rp);have hq2:=aeS (r:=rp);by_cases hno:rp=noT
   ·rw [decide_eq_true hno] at hq1
    subst hus
    go_wp2_with (first
     | (at_builtin;refine wpList_append_own_at _ rfl _ _ 38 rfl W2.heap.size 3 i0 (.int .i64 0) 1 8 Tryz.underlying38 hi0 hz0 hz1 hz2 rfl (by decide) _ _ _ rfl (hno1.alloc _) ⟨W3.heap.size,0,none⟩ 1 1 [.int .i64 ((i:Int)+1)] rfl rfl (cell_one_new _ _ _) (by intro u hu;simp at hu;subst hu;rfl) (by unfold maxLen;omega) (by omega) (by simp;omega) ?_;intro v' w2 hown' hgrow hnil hat;obtain⟨g',cap',rfl⟩:=oQ hown';have hbk:w2.heap[w.heap.size+1]?=_:=eS RI2.bx hgrow (fun e=>by have:=im RI2.no e;omega);have d7:w2.cell? ⟨w.heap.size+1,7,none⟩=some (.slice nA nn nc):=(by rw [aja hbk];rfl);have e7:w2.frozen? ⟨w.heap.size+1,7,none⟩=false:=ajz hbk 7)
     | go_in)
    obtain⟨us3,t3,RI3⟩:=aeO (z:=(i:Int)+1) RI2 hb2 hown' hgrow hat;refine⟨⟨i+1,F2,us3,t3,_,_,?_,congrArg (aiZ .i64) (by omega),by omega,FJ RI3 ?_ ?_ ?_⟩,?_⟩
    ·rw [hrun]
     unfold oE;rw [hrep,hno]
    ·rw [hrun]
     rfl
    ·rw [hrun]
     unfold oE;dsimp only;rw [hrep,if_pos hno,show((i+1:Nat):Int)=(i:Int)+1 by omega]
    ·rw [hrun]
     unfold oE;dsimp only;rw [hrep,if_neg (fun e=>by rw [hno] at e;revert e;decide)]
    ·show L.length - ((i:Int)+1).toNat<L.length - (i:Int).toNat
     omega
   ·rw [decide_eq_false hno] at hq1
    by_cases hwh:rp=pV
    ·rw [decide_eq_true hwh] at hq2
     subst hus
     go_wp2_with (first
      | (at_builtin;refine wpList_append_own_at _ rfl _ _ 38 rfl W2.heap.size 3 i0 (.int .i64 0) 1 8 Tryz.underlying38 hi0 hz0 hz1 hz2 rfl (by decide) _ _ _ rfl (hwh1.alloc _) ⟨W3.heap.size,0,none⟩ 1 1 [.int .i64 ((i:Int)+1)] rfl rfl (cell_one_new _ _ _) (by intro u hu;simp at hu;subst hu;rfl) (by unfold maxLen;omega) (by omega) (by simp;omega) ?_;intro v' w2 hown' hgrow hnil hat;obtain⟨g',cap',rfl⟩:=oQ hown';have hbk:w2.heap[w.heap.size+1]?=_:=eS RI2.bx hgrow (fun e=>by have:=im RI2.wh e;omega);have d7:w2.cell? ⟨w.heap.size+1,8,none⟩=some (.slice wA wn wc):=(by rw [aja hbk];rfl);have e7:w2.frozen? ⟨w.heap.size+1,8,none⟩=false:=ajz hbk 8)
      | go_in)
     obtain⟨us3,t3,RI3⟩:=afM (z:=(i:Int)+1) RI2 hb2 hown' hgrow hat;refine⟨⟨i+1,F2,us3,t3,_,_,?_,congrArg (aiZ .i64) (by omega),by omega,FJ RI3 ?_ ?_ ?_⟩,?_⟩
     ·rw [hrun]
      unfold oE;rw [hrep,hwh]
     ·rw [hrun]
      rfl
     ·rw [hrun]
      unfold oE;dsimp only;rw [hrep,if_neg hno]
     ·rw [hrun]
      unfold oE;dsimp only;rw [hrep,if_pos hwh,show((i+1:Nat):Int)=(i:Int)+1 by omega]
     ·show L.length - ((i:Int)+1).toNat<L.length - (i:Int).toNat
      omega
    ·rw [decide_eq_false hwh] at hq2
     go_wp2
     refine⟨⟨i+1,F2,us2,t2,_,_,?_,congrArg (aiZ .i64) (by omega),by omega,FJ RI2 ?_ ?_ ?_⟩,?_⟩
     ·rw [hrun]
      unfold oE;rw [hrep]
     ·rw [hrun]
      rfl
     ·rw [hrun]
      unfold oE;dsimp only;rw [hrep,if_neg hno]
     ·rw [hrun]
      unfold oE;dsimp only;rw [hrep,if_neg hwh]
     ·show L.length - ((i:Int)+1).toNat<L.length - (i:Int).toNat
      omega
  ·have hpi:¬(i:Int)<(L.length:Int):=by omega
   obtain rfl:i=L.length:=by omega
   obtain⟨sV,tV,fV,hus,r3,r4,r6,r7,r8⟩:=Qb RI.rep;have c9:wr.cell? ⟨w.heap.size+1,9,none⟩=some (.int .i64 0):=by
    rw [aja RI.bx,hus];rfl
   have f9:wr.frozen? ⟨w.heap.size+1,9,none⟩=false:=ajz RI.bx 9
   go_wp2
   go_ret3
   exact⟨W2,hb2,wr,⟨F',us,t,nv,wv,RI⟩,rfl,rfl⟩
set_option maxHeartbeats 4000000 in
set_option maxRecDepth 1000000 in
theorem adV (s:ByteArray) (hs:s.size≤1048576) (w:World) (F:Nat→Prop) (hF:∀b,F b→b<w.heap.size) (hgl:gOk gl0 w F) (hok:okC s=false) :
  Calls Tryz.prog 41 #[.string s] w fun e w'=>Below (wS w).heap.size (wS w) w'∧e = .returned (.tuple #[.pointer (some ⟨w.heap.size+1,0,none⟩),.string ⟨#[]⟩,.bool false]):=by
 have b1:Below w.heap.size w (wS w):=((ajW _ w).alloc (ai2 _) _).alloc (by simp) _;have hst:=OD w;have hc1:=PF (w:=wS w) (F:=F) (fun b hb=>ajo (hF b hb) b1.size) (iu (fun _ h=>h) (fun b hb=>b1.block b (hF b hb)) hgl) s hs;simp only [hok] at hc1;generalize (if kf s=true then aN s else [])=L at hc1;generalize hW1:wS w=W1 at *
 go_enter Tryz.func41,Tryz.ntmps41
 go_wp2_with (go_at_call 56;refine hst.mono ?_)
 rintro e _ ⟨rfl,rfl⟩
 go_wp2_with (go_at_call 55;refine hc1.mono ?_)
 rintro e W2 ⟨b2,A,c,rfl,hA⟩
 go_wp2
 go_ret3
 exact⟨b2,rfl⟩
theorem afg {w:World} {G:Nat→Prop} {base e:Nat} {v:Value} {l:List Int} (h:w.ownsRow base e 1 v l.length (l.map (aiZ .i64))) (hG:∀k,v.ownBlock=some k→G k):RepC w G (ai l) [v]:=by
 obtain⟨h1,⟨rfl,h2⟩ | ⟨g,cap,cur,rfl,h2,h3,h4,h5,h6,h7⟩⟩:=h
 ·rw [ai6 h2]
  exact lV
 ·simp only [RepC]
  refine⟨_,cap,l.map (aiZ .i64),by rw [ajd],by rw [ajd];exact h4,pd _,fun d hd=>?_,fun _=>⟨g,0,rfl,hG g rfl,fun j u hu=>?_⟩⟩
  ·obtain⟨n,_,rfl⟩:=ajP.1 hd
   rfl
  ·rw [aja h3,ajw]
   rw [←h7,List.getElem?_take] at hu;split at hu
   ·simpa using hu
   ·cases hu
def cnP (a:Rn) (n:Int):D:=.ptr [I a.c.m.1,I a.c.m.2.1,I a.c.m.2.2,sls a.c.s,ai a.c.t,T a.c.j,fos a.c.f,ai a.no,ai a.wh,I n]
theorem aaf {w:World} {G:Nat→Prop} {a:Rn} {n:Int} {b t:Nat} {sV tV fV nv wv:Value} (hb:w.heap[b]?=some (.cells #[.int .i64 a.c.m.1,.int .i64 a.c.m.2.1,.int .i64 a.c.m.2.2,sV,tV,.string a.c.j,fV,nv,wv,.int .i64 n] t (0,0))) (hG:G b)
  (h3:RepC w G (sls a.c.s) [sV]) (h4:RepC w G (ai a.c.t) [tV]) (h6:RepC w G (fos a.c.f) [fV]) (h7:RepC w G (ai a.no) [nv]) (h8:RepC w G (ai a.wh) [wv]):bU w G (cnP a n) (.pointer (some ⟨b,0,none⟩)):=by
 simp only [cnP,bU,RepC];refine⟨b,0,[.int .i64 a.c.m.1,.int .i64 a.c.m.2.1,.int .i64 a.c.m.2.2,sV,tV,.string a.c.j,fV,nv,wv,.int .i64 n],rfl,?_,rfl,hG,fun j u hu=>?_⟩
 ·refine ax.2 ⟨[_],_,rfl,lq rfl,ax.2 ⟨[_],_,rfl,lq rfl,ax.2 ⟨[_],_,rfl,lq rfl,ax.2 ⟨[_],_,rfl,h3,ax.2 ⟨[_],_,rfl,h4,ax.2 ⟨[_],_,rfl,lq rfl,ax.2 ⟨[_],_,rfl,h6,ax.2 ⟨[_],_,rfl,h7,ax.2 ⟨[_],_,rfl,h8,ax.2 ⟨[_],[],rfl,lq rfl,aZ.2 rfl⟩⟩⟩⟩⟩⟩⟩⟩⟩⟩
 ·rw [aja hb,ajw]
  simpa using hu
def ot (s:ByteArray):Rn:=if okC s=true then dQ (aN s) (aN s).length else dQ [] 0
def As (ds:List D):Option Out:=match ds with
 | [d]=>(Ae d).bind fun s=>if s.size≤1048576 then some (.ret [cnP (ot s) (if okC s=true then((aN s).length:Int) else 0),T (ot s).out,B (okC s)] []) else none
 | _=>none
theorem GS (s:ByteArray) (hs:s.size≤1048576):As [T s]=some (.ret [cnP (ot s) (if okC s=true then((aN s).length:Int) else 0),T (ot s).out,B (okC s)] []):=by
 have e:As [T s]=(Ae (T s)).bind fun s=>if s.size≤1048576 then some (.ret [cnP (ot s) (if okC s=true then((aN s).length:Int) else 0),T (ot s).out,B (okC s)] []) else none:=rfl
 rw [e,show Ae (T s)=some s from rfl,ai9,if_pos hs]
@[reducible] def nx:FS:={pm:=[.dat 0],rm:=[.dat 2,.dat 0,.dat 0],f:=As}
theorem rG:au gl0 Tryz.prog 41 nx:=by
 have he:∀args w,(callFunc 41 args).run Tryz.prog w = .ok (.enter 41 args) w:=ajx Tryz.func41 (by kernel_rfl) rfl;refine cd he fun ds rs us hd args w F ow hg ha hF _=>?_
 obtain⟨d,y,rfl,h2,h3⟩:=ny ha;replace hd:As [d]=some (.ret rs us):=hd;obtain⟨s,hs,hd'⟩:=Option.bind_eq_some_iff.1 hd;clear hd;obtain rfl:=Gl hs;split at hd'
 case isFalse=>cases hd'
 rename_i hz;cases hd';obtain⟨rfl,_⟩:=Fk h3;rw [GX h2];cases hok:okC s with
 | false =>
  refine(adV s hz w F (fun b hb=>(hF b hb).1) hg hok).mono ?_
  rintro e w' ⟨hB,rfl⟩;have b1:Below w.heap.size w (wS w):=((ajW _ w).alloc (ai2 _) _).alloc (by simp) _;have hszS:(wS w).heap.size=w.heap.size+2:=by simp
  have k0:(wS w).heap[w.heap.size]?=some (.cells #[.int .i64 0] 3 (0,0)):=(heap_alloc_old _ _ (by simp)).trans (heap_alloc_new w _);have k1:(wS w).heap[w.heap.size+1]?=some (.cells (us0 w.heap.size).toArray 59 (0,0)):=by
   have:=heap_alloc_new (w.alloc (.cells #[.int .i64 0] 3)) (.cells (us0 w.heap.size).toArray 59);simpa using this
  have k0:=(hB.block _ (by omega)).trans k0;have k1:=(hB.block _ (by omega)).trans k1;have hB2:=b1.trans (hB.mono b1.size);have hR:ot s=dQ [] 0:=by unfold ot;rw [hok];rfl
  rw [hR]
  let F':Nat→Prop:=fun k=>F k∨(w.heap.size≤k∧k<w'.heap.size)
  have hsz':=hB.size;refine⟨_,rfl,F',fun _=>none,[.pointer (some ⟨w.heap.size+1,0,none⟩),.string ⟨#[]⟩,.bool false],rfl,
   ⟨hB2.os,hB2.tape,hB2.output,hB2.size,fun b hb _=>hB2.block b hb,fun b hb=>.inl hb,fun b hb=>?_,fun b j h=>(by cases h),rfl,rfl,fun j=>?_,trivial⟩⟩
  ·rcases hb with hb | hb
   ·exact⟨.inl hb,ajo (hF b hb).1 hB2.size,rfl⟩
   ·exact⟨.inr hb.1,hb.2,rfl⟩
  ·match j with
   | 0 =>
    refine .inr (show bU w' F' _ _ from aaf (a:=dQ [] 0) (n:=0) k1 (.inr ⟨by omega,by omega⟩) lV ?_ lV lV lV)
    simp only [RepC];refine⟨some ⟨w.heap.size,0,none⟩,1,[.int .i64 0],rfl,ai2 _,pd [0],fun d hd=>?_,fun _=>⟨_,_,rfl,.inr ⟨ai2 _,by omega⟩,fun j u hu=>?_⟩⟩
    ·obtain⟨n,_,rfl⟩:=ajP.1 hd
     rfl
    ·rw [aja k0,ajw]
     simpa using hu
   | 1=>exact .inr (show bU w' _ (T _) _ from ct.2 ⟨rfl,rfl⟩)
   | 2=>exact .inr (show bU w' _ (B _) _ from ct.2 ⟨rfl,rfl⟩)
   | j+3=>exact .inl rfl
 | true =>
  refine(Zf s hz w F (fun b hb=>(hF b hb).1) hg hok).mono ?_
  rintro e w' ⟨W2,wr,F2,us,t,nv,wv,hb2,RI,rfl,rfl⟩;have hR:ot s=dQ (aN s) (aN s).length:=by unfold ot;rw [hok];rfl
  rw [hR,if_pos rfl];generalize dQ (aN s) (aN s).length=a at *;obtain⟨sV,tV,fV,rfl,r3,r4,r6,-,-⟩:=Qb RI.rep;have hset:=heap_setCell_same _ (w.heap.size+1) 9 _ _ (.int .i64 (aN s).length) RI.bx;have hB2:Below w.heap.size w (wr.setCell ⟨w.heap.size+1,9,none⟩ (.int .i64 (aN s).length)):=RI.bl.setCell (by simp) _;have hszs:(wr.setCell ⟨w.heap.size+1,9,none⟩ (.int .i64 (aN s).length)).heap.size=wr.heap.size:=by simp [ajJ]
  have hkeep:∀k,k≠w.heap.size+1→(wr.setCell ⟨w.heap.size+1,9,none⟩ (.int .i64 (aN s).length)).heap[k]?=wr.heap[k]?:=fun k hk=>heap_setCell_other _ _ _ _ (by simpa using hk)
  generalize wr.setCell ⟨w.heap.size+1,9,none⟩ (.int .i64 (aN s).length)=w' at *
  let F':Nat→Prop:=fun k=>F2 k∨(w.heap.size≤k∧k<w'.heap.size)
  have hws:=RI.bl.size;have hbz:=(ajm.1 RI.bx).1;have hmono:∀(d:D) (vs:List Value),RepC wr F2 d vs→RepC w' F' d vs:=fun d vs h=>RepC_mono (fun k hk=>.inl hk) (fun k hk=>hkeep k (RI.fn k hk).2.2.1) d vs h
  have hrow:∀(v:Value) (l:List Int),wr.ownsRow W2.heap.size 3 1 v l.length (l.map (aiZ .i64))→RepC w' F' (ai l) [v]:=fun v l h=>by
   have h':w'.ownsRow W2.heap.size 3 1 v l.length (l.map (aiZ .i64)):=sq h fun k hk=>hkeep k (by have:=im h hk;omega)
   exact afg h' fun k hk=>.inr ⟨by have:=im h' hk;omega,xj h' hk⟩
  refine⟨_,rfl,F',fun _=>none,[.pointer (some ⟨w.heap.size+1,0,none⟩),.string a.out,.bool true],rfl,
   ⟨hB2.os,hB2.tape,hB2.output,hB2.size,fun b hb _=>hB2.block b hb,fun b hb=>.inl (RI.f0 b hb),fun b hb=>?_,fun b j h=>(by cases h),rfl,rfl,fun j=>?_,trivial⟩⟩
  ·rcases hb with hb | hb
   ·obtain⟨g1,g2,-⟩:=RI.fn b hb
    exact⟨g1,by omega,rfl⟩
   ·exact⟨.inr hb.1,hb.2,rfl⟩
  ·match j with
   | 0=>exact .inr (show bU w' F' _ _ from aaf hset (.inr ⟨by omega,by omega⟩) (hmono _ _ r3) (hmono _ _ r4) (hmono _ _ r6) (hrow nv a.no RI.no) (hrow wv a.wh RI.wh))
   | 1=>exact .inr (show bU w' _ (T _) _ from ct.2 ⟨rfl,rfl⟩)
   | 2=>exact .inr (show bU w' _ (B _) _ from ct.2 ⟨rfl,rfl⟩)
   | j+3=>exact .inl rfl
end Go.Proofs.YtjafgdefcggjcaaGreatDoor

namespace Go.Proofs.YtjafgdefcggjcaaGreatDoor
open Go.V
set_option maxRecDepth 100000
@[reducible] def Fs:TI:={agg:=true,n:=7,zero:=[.v (.int .i64 0),.v (.int .i64 0),.v (.int .i64 0),.arr 2 [],.arr 1 [],.v (.string ⟨#[]⟩),.arr 2 []],fs:=[(0,29),(3,33),(4,38),(5,9),(6,57)]}
@[reducible] def ad6:TI:={agg:=true,n:=3,zero:=[.v (.string ⟨#[]⟩),.v (.string ⟨#[]⟩),.arr 1 []],fs:=[(0,9),(1,9),(2,38)]}
@[reducible] def oD:Cx:={K:=[.box 7 2 true,Y,.no,.no,Y,.box 3 0 false,Y,.tup [Y,Y],Y,.tup [Y,Y],Y,Y,Y,Y,.tup [Y,Y],Yr 0,Yr 0,Yr 0,Yr 0,Y,Y,Yb,.tup [Y,Y],Y,Y,Yr 0,Yr 0,Y,Y,Yr 0,Yr 0,Yr 0,Y,Y],T:=[(3,ty3),(9,ty9),(29,gQ),(33,gS),(38,dq),(57,oq),(61,Fs),(128,aam)],S:=[(118,pc),(163,my),(164,wx)],H:=[],res:=[.tmp 4],ios:=[0],G:=gl2}
def gk:List D→Option Out:=aX oD Tryz.f120
@[reducible] def oI:FS:={pm:=[.box 7 2 true,Y],rm:=[Y],f:=gk}
theorem yW:au gl2 Tryz.prog 120 oI:=ay (c:=oD) (ab vW (ab (aJ CL qE) (ab (aJ mN Ks) al))) Tryz.func120 rfl rfl (by kernel_rfl)
@[reducible] def oA:Cx:={K:=[.box 7 2 true,Y,.no,.no,Y,.box 3 0 false,.box 3 0 false,Y,.tup [Y,Y,Y],Yr 0,Yr 0,Yr 0,Y,Y,.tup [Y,Y,Y],Y,Y,Y,Y,Y,Yr 0,Y,Yr 0,Yr 0,Y,Y],T:=[(3,ty3),(9,ty9),(29,gQ),(33,gS),(38,dq),(57,oq),(61,Fs)],S:=[(163,my),(165,xT)],H:=[],res:=[.tmp 4],ios:=[0],G:=gl1}
def gj:List D→Option Out:=aX oA Tryz.f121
@[reducible] def oF:FS:={pm:=[.box 7 2 true,Y],rm:=[Y],f:=gj}
theorem yV:au gl1 Tryz.prog 121 oF:=ay (c:=oA) (ab qE (ab (aJ JP Mo) al)) Tryz.func121 rfl rfl (by kernel_rfl)
@[reducible] def tW:Cx:={K:=[Y,.no,Yo 2 0,Y,Yo 2 0,Yb,Yo 2 0,Y,Yb,Yb,Y,Y,Yb,Yb,Yo 2 0,Yb,Yb,Y,Yb,Yb,Y,Y,Yb,Yo 2 0,.via 4,Y,Y,Y,.via 4,Y,Y,Y,Y,Yo 2 0,Yo 2 0],T:=[(3,ty3),(9,ty9),(33,gS),(38,dq),(75,om)],S:=[(36,gb),(86,kM),(166,pb)],H:=[(0,([0,4,5],[0,4]))],res:=[.tmp 2,.tmp 3],ios:=[],G:=gl2}
def jK:List D→Option Out:=aX tW Tryz.f122
@[reducible] def uq:FS:={pm:=[Y],rm:=[Yo 2 0,Y],f:=jK}
theorem GY:au gl2 Tryz.prog 122 uq:=ay (c:=tW) (ab (aJ mN iD) (ab oT (ab (aJ CL wz) al))) Tryz.func122 rfl rfl (by kernel_rfl)
@[reducible] def oG:Cx:={K:=[.box 7 2 true,Y,.no,.no,Y,Yb,Y,.tup [Yb,Y],Yr 0,Yr 0,Yr 0,Yc,Y,.tup [Yb,Y],Yb,Y,Y,Y,Yr 0,Yr 0,Yr 0,Yr 0,Yc,Yb,Yb,Yr 0,Yr 0,Yb,Y],T:=[(9,ty9),(29,gQ),(33,gS),(38,dq),(57,oq),(61,Fs),(75,om)],S:=[(134,pX),(167,Es),(168,KN)],H:=[],res:=[.tmp 4],ios:=[0],G:=gl1}
def gn:List D→Option Out:=aX oG Tryz.f123
@[reducible] def ov:FS:={pm:=[.box 7 2 true,Y],rm:=[Y],f:=gn}
theorem yZ:au gl1 Tryz.prog 123 ov:=ay (c:=oG) (ab qc (ab (aJ JP RB) (ab (aJ JP Ya) al))) Tryz.func123 rfl rfl (by kernel_rfl)
@[reducible] def wW:Cx:={K:=[.box 7 2 true,Y,Y,.no,.no,.no,Y,Yc,Y,.tup [Yc,Y],Yr 0,Yr 0,Yr 0,Yc,Y,Y,.tup [Yc,Y],Yc,Y,Y,Y,Yr 0,Yc,Yr 0,Yr 0,Yc,Y],T:=[(9,ty9),(29,gQ),(33,gS),(38,dq),(57,oq),(61,Fs),(75,om)],S:=[(166,pb),(169,zO)],H:=[],res:=[.tmp 6],ios:=[0],G:=gl1}
def lj:List D→Option Out:=aX wW Tryz.f124
@[reducible] def ww:FS:={pm:=[.box 7 2 true,Y,Y],rm:=[Y],f:=lj}
theorem Kq:au gl1 Tryz.prog 124 ww:=ay (c:=wW) (ab wz (ab (aJ JP PH) al)) Tryz.func124 rfl rfl (by kernel_rfl)
@[reducible] def we:Cx:={K:=[.box 7 2 true,Y,.no,.no,Y,Yr 0,Yo 1 0,Yr 0,Yr 0,Yr 0,Yc,Yo 1 0,Y,Yb,Yb,Yr 0,Yr 0,Yr 0,Yr 0,Yr 0,Yc,Y,Yr 0,Yr 0,Yr 0,Yc,Y,Y],T:=[(3,ty3),(9,ty9),(29,gQ),(33,gS),(38,dq),(57,oq),(61,Fs)],S:=[(170,gh),(171,nz)],H:=[],res:=[.tmp 4],ios:=[0],G:=gl1}
def kO:List D→Option Out:=aX we Tryz.f125
@[reducible] def vL:FS:={pm:=[.box 7 2 true,Y],rm:=[Y],f:=kO}
theorem KE:au gl1 Tryz.prog 125 vL:=ay (c:=we) (ab jb (ab (aJ JP sR) al)) Tryz.func125 rfl rfl (by kernel_rfl)
@[reducible] def tf:Cx:={K:=[Yc,.no,Y,Y,Yc,Y,Y,Y,Yc,Y,Y,Y,Y,Yc,Y],T:=[(3,ty3),(9,ty9)],S:=[(87,jm),(233,sB)],H:=[],res:=[.tmp 2,.tmp 3],ios:=[],G:=gl1}
def iP:List D→Option Out:=aX tf Tryz.f206
@[reducible] def tg:FS:={pm:=[Yc],rm:=[Y,Y],f:=iP}
theorem Fx:au gl1 Tryz.prog 206 tg:=ay (c:=tf) (ab (aJ JP mu) (ab FF al)) Tryz.func206 rfl rfl (by kernel_rfl)
@[reducible] def uh:Cx:={K:=[Y,Y,.no,.box 3 0 false,Y,Y,Yo 3 0,Y,.tup [Yo 3 0,Y],Y,.tup [Yo 3 0,Y],Yo 3 0,Y,Y,Y,Y,Y,Y,Y,Y,Yo 3 0,Y,Yb,Yb,.tup [Y,Y],Y,Y],T:=[(3,ty3),(48,CJ),(121,kn)],S:=[(53,gc),(133,vq),(206,tg)],H:=[],res:=[.tmp 4,.tmp 5],ios:=[],G:=gl2}
def jO:List D→Option Out:=aX uh Tryz.f172
@[reducible] def uC:FS:={pm:=[Y,Y],rm:=[Y,Y],f:=jO}
theorem He:au gl2 Tryz.prog 172 uC:=ay (c:=uh) (ab iQ (ab (aJ mN Dr) (ab (aJ CL Fx) al))) Tryz.func172 rfl rfl (by kernel_rfl)
@[reducible] def ur:Cx:={K:=[.box 7 2 true,Y,.no,.box 3 0 false,Y,Y,Y,Yb,Y,.tup [Y,Y],Yr 0,Yr 0,Yr 0,Y,Y,.tup [Y,Y],Y,Y,Yr 0,Y,Yr 0,Yr 0,.tup [Yo 3 0,Y],Y,.tup [Yo 3 0,Y],Yb,Y,Yb,Y,Y,Y],T:=[(3,ty3),(9,ty9),(29,gQ),(33,gS),(38,dq),(48,CJ),(57,oq),(61,Fs),(121,kn)],S:=[(53,gc),(170,gh),(172,uC)],H:=[],res:=[.tmp 4],ios:=[0],G:=gl2}
def kb:List D→Option Out:=aX ur Tryz.f126
@[reducible] def tQ:FS:={pm:=[.box 7 2 true,Y],rm:=[Y],f:=kb}
theorem HF:au gl2 Tryz.prog 126 tQ:=ay (c:=ur) (ab iQ (ab (aJ CL jb) (ab He al))) Tryz.func126 rfl rfl (by kernel_rfl)
@[reducible] def uF:Cx:={K:=[.box 7 2 true,Y,.no,.no,Y,Yr 0,Yo 2 0,Yr 0,Yr 0,Yr 0,Yc,Yo 2 0,Y,Y,Yb,Yb,Yr 0,Yr 0,Yr 0,Yr 0,Yr 0,Yc,Y,Yr 0,Yr 0,Yr 0,Yc,Y,Y],T:=[(3,ty3),(4,ty4),(9,ty9),(29,gQ),(33,gS),(38,dq),(57,oq),(61,Fs),(147,ET)],S:=[(170,gh),(173,yj)],H:=[],res:=[.tmp 4],ios:=[0],G:=gl1}
def ke:List D→Option Out:=aX uF Tryz.f127
@[reducible] def uM:FS:={pm:=[.box 7 2 true,Y],rm:=[Y],f:=ke}
theorem HS:au gl1 Tryz.prog 127 uM:=ay (c:=uF) (ab jb (ab (aJ JP qB) al)) Tryz.func127 rfl rfl (by kernel_rfl)
@[reducible] def Ev:Cx:={K:=[Yc,.no,Yo 1 0,Yo 1 0,Yo 1 0,Yc,Yo 1 0,.via 3,.no,Yo 1 0],T:=[(3,ty3),(38,dq)],S:=[(235,KK)],H:=[],res:=[.tmp 2],ios:=[],G:=gl0}
def pA:List D→Option Out:=aX Ev Tryz.f209
@[reducible] def DA:FS:={pm:=[Yc],rm:=[Yo 1 0],f:=pA}
theorem RT:au gl0 Tryz.prog 209 DA:=ay (c:=Ev) (ab Xj al) Tryz.func209 rfl rfl (by kernel_rfl)
@[reducible] def wt:Cx:={K:=[Yc,.no,Y,Y,Yc,Y,Y,Yc,Yb,Yc,Y,Y,Y,Yb,Y],T:=[(3,ty3),(38,dq)],S:=[(171,nz),(209,DA)],H:=[],res:=[.tmp 2,.tmp 3],ios:=[],G:=gl0}
def kH:List D→Option Out:=aX wt Tryz.f176
@[reducible] def vG:FS:={pm:=[Yc],rm:=[Y,Y],f:=kH}
theorem JO:au gl0 Tryz.prog 176 vG:=ay (c:=wt) (ab sR (ab RT al)) Tryz.func176 rfl rfl (by kernel_rfl)
@[reducible] def vN:Cx:={K:=[.box 7 2 true,Yc,.no,.box 3 2 false,Y,Yb,Y,Yb,Y,Y,Y,Y,Y,Y,Y,Y,Y,.tup [Yo 3 0,Y],Yr 0,Yr 0,Yr 0,Y,.tup [Yo 3 0,Y],Yb,Y,Yr 3,Y,Y,Y,.tup [Yo 1 0,Y],Yr 0,Yr 0,Yr 0,Y,.tup [Yo 1 0,Y],Yb,Y,Y,Y,Yb,Y,Y,Y,Yr 0,Yr 0,Yr 0,Yc,Yr 3,Yc,Yc,Y,.tup [Y,Y],Y,Y,Y,Y,Y,Yr 0,Yr 0,Yr 0,Yc,.tup [Y,Y],Y,Y,Y,Y,Y,.tup [Y,Y,Y],Yr 0,Yr 0,Yr 0,Yc,.tup [Y,Y,Y],Y,Y,Y,Y,Y,Yb,Y,Y,Y,Yb,Yr 3,Yc,Yc,Y,Yr 3,Yc,Yc,Y,.tup [Y,Y],Y,Y,Y,Y,Y,.tup [Y,Y,Y],Yb,Yr 3,Yc,Yc,Y,.tup [Y,Y,Y],Y,Y,Y,Y,Y,Y,.tup [Y,Y],Yr 0,Yr 0,Yr 0,Yc,.tup [Y,Y],Y,Y,Y],T:=[(3,ty3),(9,ty9),(29,gQ),(33,gS),(38,dq),(57,oq),(61,Fs),(75,om),(107,ad6),(147,ET)],S:=[(53,gc),(134,pX),(170,gh),(174,yO),(175,tC),(176,vG),(177,rh),(178,uu),(179,uz),(180,tO)],H:=[],res:=[.tmp 4],ios:=[0],G:=gl2}
def lh:List D→Option Out:=aX vN Tryz.f128
@[reducible] def vP:FS:={pm:=[.box 7 2 true,Yc],rm:=[Y],f:=lh}
theorem JB:au gl2 Tryz.prog 128 vP:=ay (c:=vN) (ab iQ (ab (aJ CL qc) (ab (aJ CL jb) (ab (aJ mN Mz) (ab (aJ mN Ib) (ab (aJ mN JO) (ab (aJ mN CM) (ab (aJ mN HL) (ab (aJ mN Hp) (ab (aJ CL Jf) al)))))))))) Tryz.func128 rfl rfl (by kernel_rfl)
@[reducible] def qt:Cx:={K:=[.box 7 2 true,Yc,.no,.box 3 2 false,Y,Y,Yr 3,Y,Y,Y,.tup [Y,Y],Yr 0,Yr 3,Y,.tup [Y,Y],Y,Y,Yr 0,Yr 0,Y,Y,Y,Y,Yr 0,Yr 3,Y,Y,Y,Y,Yr 0,Yr 3,Yc,Yc,Y,Y,Y,Y,.tup [Yo 2 0,Y],Yr 0,Yr 3,Y,.tup [Yo 2 0,Y],Yb,Y,Yr 0,Yr 0,Y,Y,Y,Y,Yr 0,Yr 3,Yc,Yc,Y,Y,Y,Y,Yr 0,Yr 3,Yc,Yc,Y,Yr 3,Yc,Yc,Y,Y,Y,Y,Yr 0,Yr 3,Yc,Yc,Y,Y,Y,Y,Yr 0,Yr 3,Yc,Yc,Y,Yr 3,Yc,Yc,Y,Yr 3,Yc,Yc,Y,Y,Y,Y,Y,Yr 0,Yr 3,Yc,Yc,Y,Y,Yr 0,Yc,Y],T:=[(3,ty3),(9,ty9),(29,gQ),(33,gS),(38,dq),(57,oq),(61,Fs),(75,om),(107,ad6),(121,kn)],S:=[(118,pc),(119,An),(120,oI),(121,oF),(122,uq),(123,ov),(124,ww),(125,vL),(126,tQ),(127,uM),(128,vP)],H:=[],res:=[.tmp 4],ios:=[0],G:=gl2}
def aO:List D→Option Out:=aX qt Tryz.f80
@[reducible] def qk:FS:={pm:=[.box 7 2 true,Yc],rm:=[Y],f:=aO}
theorem Af:au gl2 Tryz.prog 80 qk:=ay (c:=qt) (ab vW (ab (aJ mN OJ) (ab yW (ab (aJ CL yV) (ab GY (ab (aJ CL yZ) (ab (aJ CL Kq) (ab (aJ CL KE) (ab HF (ab (aJ CL HS) (ab JB al))))))))))) Tryz.func80 rfl rfl (by kernel_rfl)
@[reducible] def sx:Cx:={K:=[.box 7 2 true,Y,.no,.no,Y,.box 3 1 false,Y,.box 7 2 false,Y,.tup [Yb,Y],Y,.tup [Yb,Y],Yb,Y,Y,Y,Yr 0,Yr 0,Yc,Yb,Y,Y,Y,Yr 0,Yc,Yr 0,Y],T:=[(9,ty9),(29,gQ),(33,gS),(38,dq),(57,oq),(61,Fs),(107,ad6)],S:=[(79,ya),(80,qk)],H:=[],res:=[.tmp 4],ios:=[0],G:=gl2}
def fU:List D→Option Out:=aX sx Tryz.f58
@[reducible] def sN:FS:={pm:=[.box 7 2 true,Y],rm:=[Y],f:=fU}
theorem FM:au gl2 Tryz.prog 58 sN:=ay (c:=sx) (ab MB (ab Af al)) Tryz.func58 rfl rfl (by kernel_rfl)
@[reducible] def vK:Cx:={K:=[Y,.no,.box 7 2 false,Yo 1 0,Y,Yb,Y,.box 7 2 false,Yo 1 0,.no,Y,.tup [Yb,Y],Y,.tup [Yb,Y],Yb,Y,Y,Y,Y,Yb,Yb,Yo 1 0,Yb,Y,Y,Y,Yb,Y,Yo 1 0,Y,Y,Yb,Yo 1 0,Y,Yc,Yo 1 0],T:=[(3,ty3),(9,ty9),(29,gQ),(33,gS),(38,dq),(57,oq),(61,Fs),(62,Iw)],S:=[(54,tw),(58,sN)],H:=[(0,([2,7,8,22,23,24],[2,7,8]))],res:=[.cell 2 61,.tmp 3,.tmp 4],ios:=[],G:=gl2}
def eQ:List D→Option Out:=aX vK Tryz.f42
@[reducible] def ie:FS:={pm:=[Y],rm:=[Yc,Yo 1 0,Y],f:=eQ}
theorem li:au gl2 Tryz.prog 42 ie:=ay (c:=vK) (ab (aJ mN zQ) (ab FM al)) Tryz.func42 rfl rfl (by kernel_rfl)
@[reducible] def ru:Cx:={K:=[Y,.no,Y,Y,.box 7 2 false,Yb,Y,.tup [Yc,Yo 1 0,Y],Y,.tup [Yc,Yo 1 0,Y],Yc,Yb,Y,Yr 4,Y,Y],T:=[(9,ty9),(29,gQ),(33,gS),(38,dq),(57,oq),(61,Fs)],S:=[(42,ie)],H:=[],res:=[.tmp 2,.tmp 3],ios:=[],G:=gl2}
def hX:List D→Option Out:=aX ru Tryz.f12
@[reducible] def rj:FS:={pm:=[Y],rm:=[Y,Y],f:=hX}
theorem CP:au gl2 Tryz.prog 12 rj:=ay (c:=ru) (ab li al) Tryz.func12 rfl rfl (by kernel_rfl)
@[reducible] def ry:Cx:={K:=[Y,.no,Y,Y,Yc,Y,Y,.tup [Yc,Y,Y],Y,.tup [Yc,Y,Y],Yc,Y,Y,Y,Y,Yc,Yc,Yc,Y],T:=[(3,ty3),(9,ty9),(29,gQ),(33,gS),(38,dq),(57,oq),(59,Zu)],S:=[(41,nx)],H:=[],res:=[.tmp 2,.tmp 3],ios:=[],G:=gl0}
def hP:List D→Option Out:=aX ry Tryz.f11
@[reducible] def qU:FS:={pm:=[Y],rm:=[Y,Y],f:=hP}
theorem Cy:au gl0 Tryz.prog 11 qU:=ay (c:=ry) (ab rG al) Tryz.func11 rfl rfl (by kernel_rfl)
@[reducible] def wH:Cx:={K:=[Y,.no,.box 3 0 false,Y,.box 7 2 false,Yb,Y,.tup [Yc,Yo 1 0,Y],Y,.tup [Yc,Yo 1 0,Y],Yc,Yb,Y,Yr 4,Y,Y],T:=[(3,ty3),(9,ty9),(29,gQ),(33,gS),(38,dq),(57,oq),(61,Fs)],S:=[(42,ie)],H:=[],res:=[.cell 2 29,.tmp 3],ios:=[],G:=gl2}
def kZ:List D→Option Out:=aX wH Tryz.f18
@[reducible] def vC:FS:={pm:=[Y],rm:=[Y,Y],f:=kZ}
theorem KB:au gl2 Tryz.prog 18 vC:=ay (c:=wH) (ab li al) Tryz.func18 rfl rfl (by kernel_rfl)
@[reducible] def vZ:Cx:={K:=[Y,.no,.box 3 0 false,Y,Yc,Y,Y,.tup [Yc,Y,Y],Y,.tup [Yc,Y,Y],Yc,Y,Y,Y,Y,Y,Yc,Yc,Yc,Y],T:=[(3,ty3),(9,ty9),(29,gQ),(33,gS),(38,dq),(57,oq),(59,Zu)],S:=[(41,nx)],H:=[],res:=[.cell 2 29,.tmp 3],ios:=[],G:=gl0}
def kL:List D→Option Out:=aX vZ Tryz.f17
@[reducible] def wV:FS:={pm:=[Y],rm:=[Y,Y],f:=kL}
theorem JN:au gl0 Tryz.prog 17 wV:=ay (c:=vZ) (ab rG al) Tryz.func17 rfl rfl (by kernel_rfl)
@[reducible] def ub:Cx:={K:=[Y,.no,Yo 2 0,Y,.box 7 2 false,Yb,Y,.tup [Yc,Yo 1 0,Y],Y,.tup [Yc,Yo 1 0,Y],Yc,Yb,Y,Yo 2 0,Yr 4,Yc,Yo 2 0,Y],T:=[(9,ty9),(29,gQ),(33,gS),(38,dq),(57,oq),(61,Fs),(75,om)],S:=[(42,ie)],H:=[],res:=[.tmp 2,.tmp 3],ios:=[],G:=gl2}
def jI:List D→Option Out:=aX ub Tryz.f21
@[reducible] def tB:FS:={pm:=[Y],rm:=[Yo 2 0,Y],f:=jI}
theorem GP:au gl2 Tryz.prog 21 tB:=ay (c:=ub) (ab li al) Tryz.func21 rfl rfl (by kernel_rfl)
@[reducible] def uj:Cx:={K:=[Y,.no,Yo 2 0,Y,Yc,Y,Y,.tup [Yc,Y,Y],Y,.tup [Yc,Y,Y],Yc,Y,Y,Y,Y,Yo 2 0,Yc,Yc,Yc,Yc,Yo 2 0],T:=[(3,ty3),(9,ty9),(29,gQ),(33,gS),(38,dq),(57,oq),(59,Zu),(75,om)],S:=[(41,nx)],H:=[],res:=[.tmp 2,.tmp 3],ios:=[],G:=gl0}
def jS:List D→Option Out:=aX uj Tryz.f20
@[reducible] def tE:FS:={pm:=[Y],rm:=[Yo 2 0,Y],f:=jS}
theorem Ia:au gl0 Tryz.prog 20 tE:=ay (c:=uj) (ab rG al) Tryz.func20 rfl rfl (by kernel_rfl)
@[reducible] def tr:Cx:={K:=[Y,.no,Yo 1 0,Y,.box 7 2 false,Yb,Y,Yo 1 0,Y,Y,.tup [Yc,Yo 1 0,Y],Y,.tup [Yc,Yo 1 0,Y],Yc,Yb,Y,Yo 1 0,Yb,Y,Y,Y,Y,Yb,Y,Y,Y,Y,Y,Y,Y,Yo 1 0,Y,Y,Yb,Yo 1 0,Y,Yo 1 0,Y],T:=[(3,ty3),(9,ty9),(29,gQ),(33,gS),(38,dq),(57,oq),(61,Fs),(62,Iw)],S:=[(42,ie)],H:=[(0,([6,7,17,18,19],[6,7]))],res:=[.tmp 2,.tmp 3],ios:=[],G:=gl2}
def fW:List D→Option Out:=aX tr Tryz.f26
@[reducible] def sH:FS:={pm:=[Y],rm:=[Yo 1 0,Y],f:=fW}
theorem FU:au gl2 Tryz.prog 26 sH:=ay (c:=tr) (ab li al) Tryz.func26 rfl rfl (by kernel_rfl)
@[reducible] def sv:Cx:={K:=[Y,.no,Yc,Y,Yc,Y,Y,Yc,.no,Y,.tup [Yc,Y,Y],Y,.tup [Yc,Y,Y],Yc,Y,Y,Y,Y,Yc,Yc,Yc,Yc,Yo 1 0,Yc,Yc,Yc,Yc,Yc,Y,Y,Y,Yc,Y,Yc,Y,Yc,Y,Yc],T:=[(3,ty3),(9,ty9),(29,gQ),(33,gS),(38,dq),(57,oq),(59,Zu)],S:=[(41,nx),(46,nW),(47,GI)],H:=[(0,([7,27,28,29],[7]))],res:=[.tmp 2,.tmp 3],ios:=[],G:=gl0}
def iW:List D→Option Out:=aX sv Tryz.f25
@[reducible] def tc:FS:={pm:=[Y],rm:=[Yc,Y],f:=iW}
theorem Fw:au gl0 Tryz.prog 25 tc:=ay (c:=sv) (ab rG (ab rD (ab Va al))) Tryz.func25 rfl rfl (by kernel_rfl)
end Go.Proofs.YtjafgdefcggjcaaGreatDoor

end
