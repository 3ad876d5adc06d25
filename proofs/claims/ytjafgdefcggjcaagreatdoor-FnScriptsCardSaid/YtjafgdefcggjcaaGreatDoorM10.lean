/-
  A part of the proof: contracts and plain forms of functions beneath the statement, made small by a program (names shortened, what is not needed left out).
-/
import Derived.Test.YtjafgdefcggjcaaGreatDoorRows
import Derived.Test.YtjafgdefcggjcaaGreatDoorTie
import Derived.Test.YtjafgdefcggjcaaGreatDoorCards
import Derived.Test.YtjafgdefcggjcaaGreatDoorM9
import Derived.Maps.AppendAt
open Int renaming reduceLT → aik, reduceLE → ail, reduceEq → aim, natCast_add → aiV
open List renaming range → ain, all_eq_true → air, getElem_mem → ais, take_succ_eq_append_getElem → aiv, eq_nil_of_length_eq_zero → aix, getElem?_eq_getElem → aiy, length_eq_one_iff → aiC, length_map → aiE, length_cons → aiF, getD_eq_getElem?_getD → aiG, length_append → aiI, take_length → aiM, foldl_append → aiR, append_assoc → aiS, length_singleton → aiU, length_range → ai2, drop_eq_getElem_cons → ai3, take_of_length_le → ai6, mem_range → ai8, mem_cons → ai9, length_pos_iff → ajb, mem_singleton → ajf, mem_map → ajg, length_drop → aji, not_mem_nil → ajj, range_succ → ajk, nil_append → ajl, map_append → ajm, replicate → ajo
open Bool renaming and_eq_true → aio, false_and → aiQ, false_eq_true → aiZ, true_and → ai1
open Go.IntKind renaming i64 → aip
open Go.Value renaming int → aiq, string → aiL, slice → ai7, ownBlock → ajp
open Nat renaming le_refl → ait, le_trans → aiu, le_of_eq → aiw, zero_le → aiD, pow_le_pow_right → aiH, mul_le_mul → aiK, mul_comm → aiO, lt_of_lt_of_le → aiP, mul_le_mul_right → aiW, zero_add → aiX, succ_mul → ai5, add_sub_cancel → aje
open ByteArray renaming size_append → aiz
open Option renaming bind_some → aiA, getD_some → aiT, isSome_iff_exists → ai4
open Go.Lib renaming cell_of_heap → aiB, frozen_of_heap → ai0
open Option.some renaming injEq → aiJ
open Array renaming getElem?_eq_some_iff → aiN
open Go.Proofs renaming enters_of → aiY
open Go.World renaming setCell → aja, ownsRow_nil → ajh
open Go.ByteArray renaming toList_eq → ajc
open Go.BinOp renaming add → ajd
open Go.RowKit.Below renaming refl → ajn
set_option maxRecDepth 100000
set_option linter.unusedSimpArgs false
set_option linter.unusedVariables false
noncomputable section
namespace Go.Proofs.YtjafgdefcggjcaaGreatDoor
open Go Go.V
def iw (c:Cn) (w:ByteArray) (r:List Int):ByteArray × Cn :=
 if w=ef then(if tkB c.m (r.getD 0 0)=true then(mtT (tkR c.m (r.getD 0 0)),{c with m:=tkR c.m (r.getD 0 0)}) else(noT,c))
 else if w=bU then(if shB c.m=true then cf 32 (shR c.m) else noT,c)
 else if w=dO then(if rlB c.s (r.getD 0 0)=true then(cf 32 (rlV c.s (r.getD 0 0)),{c with s:=rsS c.s (rlV c.s (r.getD 0 0))}) else(noT,c))
 else if w=gO then(if cuB c.s (r.getD 0 0) (r.getD 1 0)=true then(stT (cuR c.s (r.getD 0 0) (r.getD 1 0)),{c with s:=cuR c.s (r.getD 0 0) (r.getD 1 0)}) else(noT,c))
 else(if (sY c.s (r.getD 0 0)).isSome=true then aI (AB c.s (r.getD 0 0)) else noT,c)
theorem Bh {m:Me} {g:Int} (hm:ct m=true):ct (tkR m g)=true:=by
 unfold tkR;split
 ·rename_i h
  have h':=h;unfold tkB asB at h';simp only [aio,decide_eq_true_eq] at h';obtain⟨⟨-,h0,h1⟩,h2⟩:=h';have hp:=GL hm h0 h1;simp only [ct,in6,aio,decide_eq_true_eq] at hm ⊢;unfold reM;dsimp only;omega
 ·decide
theorem Pm {l:List Slp} {i n:Int}:cB (cuR l i n)=true:=by
 unfold cuR;split
 ·rename_i h
  unfold cuB at h;simp only [aio] at h;exact h.2
 ·rfl
theorem BQ {l:List Slp} {n:Int} (hg:cB l=true):(rlV l n).length≤8∧∀x∈rlV l n,0≤x∧x≤20:=by
 have h8:=dT hg;unfold rlV;split
 ·rename_i h
  unfold rlB at h;simp only [aio] at h;obtain⟨v,hv⟩:=ai4.1 h.2;have hb:=acH (l:=l) (i:=l.length) (n:=n.toNat) (v:=v) (ait _) (by rw [aiM];exact hv);refine⟨by rw [rc];exact h8,fun x hx=>?_⟩
  obtain⟨j,hj,rfl⟩:=List.getElem_of_mem hx;have hj':j<l.length:=by rw [rc] at hj;exact hj
  have:=hb j hj';rw [aiG,aiy hj,aiT] at this;have hok:=dW hg l[j] (ais hj');have hC:=Uf hj' hok.2.1;omega
 ·simp
theorem Yf {l:List Slp} {n:Int}:0≤AB l n∧AB l n≤400:=by
 unfold AB sY;by_cases h:rlA l n=true
 ·rw [if_pos h]
  obtain⟨-,h1,h2⟩:=rf.1 h;cases hq:Jr (fun k=>(cY l k).isSome) n.toNat (401 - n.toNat) with
  | none=>simp
  | some k =>
   have:=Zz _ _ _ _ hq;dsimp only;omega
 ·rw [if_neg h]
  simp
theorem GC {l:List Int} (h:l.length=2):∃a b,l=[a,b]:=by
 match l,h with
 | [a,b],_=>exact⟨a,b,rfl⟩
theorem JM {l:List Int} (h:l.length=3):∃a b c,l=[a,b,c]:=by
 match l,h with
 | [a,b,c],_=>exact⟨a,b,c,rfl⟩
theorem uo {l:List Int} (h:∀x∈l,-1000000000000000000<x∧x<1000000000000000000):afc l:=fun x hx=>by
 have:=h x hx;omega
theorem nb (c:Cn) (x y:Value) (n:Int) (w:ByteArray) (r:List Int) (hm:ct c.m=true) (hs:cB c.s=true)
  (hw:(w=ef∧r.length=1)∨(w=bU∧r.length=0)∨(w=dO∧r.length=1)∨(w=gO∧r.length=2)∨(w=bA∧r.length=1)) :
  cI [cnD c x y n,T w,ai r]=some (.ret [T (iw c w r).1] [cnD (iw c w r).2 x y n]):=by
 rw [yX];have h8:=dT hs;rcases hw with ⟨rfl,hr⟩ | ⟨rfl,hr⟩ | ⟨rfl,hr⟩ | ⟨rfl,hr⟩ | ⟨rfl,hr⟩
 ·obtain⟨a,rfl⟩:=aiC.1 hr
  have hel:ao 1 (ai [a]) (D.v (aiq aip 0))=some [I a]:=rfl;have e1:=Lj c.m a;have e2:=px (Bh (g:=a) hm);have hmc:iw c ef [a]=if tkB c.m a=true then(mtT (tkR c.m a),{c with m:=tkR c.m a}) else(noT,c):=rfl
  rw [hmc];cases hq:tkB c.m a<;>rw [hq] at e1<;>simp -implicitDefEqProofs only [aq,aik,ail,aim,AQ,hel,e1,e2,t0G,t1G,t2V,wV,wU,Zl,bR,ci,bm,aT,Wu,nr,nD]
 ·obtain rfl:=aix hr
  have e1:=LA c.m;have hb:∀z∈shR c.m,0≤z∧z≤1000:=by
   unfold shR;split
   ·rename_i h
    exact(Ua h).2.2
   ·simp
  have hl3:(shR c.m).length≤3:=by
   unfold shR;split<;>simp [shL]
  have e2:=uN (shR c.m) (by omega) (uo fun z hz=>by have:=hb z hz;omega) (fun z hz=>by have:=hb z hz;omega);have hmc:iw c bU []=(if shB c.m=true then cf 32 (shR c.m) else noT,c):=rfl;rw [hmc];cases hq:shB c.m<;>rw [hq] at e1<;>simp -implicitDefEqProofs only [aq,aik,ail,aim,uM,lV,e1,e2,t0A,lG,t1V,Zl,bR,ci,bm,aT,nr,nD]
 ·obtain⟨a,rfl⟩:=aiC.1 hr
  have hel:ao 1 (ai [a]) (D.v (aiq aip 0))=some [I a]:=rfl;have e1:=QW c.s a (by omega);have hmc:iw c dO [a]=if rlB c.s a=true then(cf 32 (rlV c.s a),{c with s:=rsS c.s (rlV c.s a)}) else(noT,c):=rfl
  obtain⟨hv1,hv2⟩:=BQ (n:=a) hs;have e2:=uN (rlV c.s a) (by omega) (uo fun z hz=>by have:=hv2 z hz;omega) (fun z hz=>by have:=hv2 z hz;omega);rw [hmc];cases hq:rlB c.s a
  ·rw [hq] at e1
   simp -implicitDefEqProofs only [aq,aik,ail,aim,uc,uS,ue,hel,e1,t0A,t1V,aaa,bR,ci,bm,aT]
  ·rw [hq] at e1
   have hlen:(rlV c.s a).length=c.s.length:=by unfold rlV;rw [if_pos hq,rc]
   have e3:=QZ c.s (rlV c.s a) (by omega) hlen;simp -implicitDefEqProofs only [aq,aik,ail,aim,uc,uS,ue,hel,e1,e2,e3,t0A,t1V,aaa,adV,bR,ci,bm,aT]
 ·obtain⟨a,b,rfl⟩:=GC hr
  have hel:ao 1 (ai [a,b]) (D.v (aiq aip 0))=some [I a]:=rfl;have hel1:ao 1 (ai [a,b]) (D.v (aiq aip 1))=some [I b]:=rfl;have e1:=OB c.s a b (by omega);have hck:=Pm (l:=c.s) (i:=a) (n:=b);have h8':=dT hck;have e2:=uB (cuR c.s a b) (by omega) (dW hck);have hmc:iw c gO [a,b]=if cuB c.s a b=true then(stT (cuR c.s a b),{c with s:=cuR c.s a b}) else(noT,c):=rfl
  rw [hmc];cases hq:cuB c.s a b<;>rw [hq] at e1<;>simp -implicitDefEqProofs only [aq,aik,ail,aim,Fv,Gd,FC,Jc,hel,hel1,e1,e2,t0A,t1V,aaa,adV,bR,ci,bm,aT,nr,nD]
 ·obtain⟨a,rfl⟩:=aiC.1 hr
  have hel:ao 1 (ai [a]) (D.v (aiq aip 0))=some [I a]:=rfl;have e1:=FV c.s a (by omega);have hmb:=Yf (l:=c.s) (n:=a);have e2:=ni (n:=AB c.s a) (by omega) (by omega);have hmc:iw c bA [a]=(if (sY c.s a).isSome=true then aI (AB c.s a) else noT,c):=rfl;rw [hmc];cases hq:(sY c.s a).isSome<;>rw [hq] at e1<;>simp -implicitDefEqProofs only [aq,aik,ail,aim,sw,ov,sX,uu,hel,e1,e2,t0V,t1V,aaa,bR,ci,bm,aT,nr,nD]
theorem Mj {l:List Fo} {i:Nat} (h:i<l.length):ao 2 (fos l) (I (i:Int))=some [I l[i].1,B l[i].2]:=by simp [h,D.cells]
theorem tk2 (a b:D):an true 2 [a,b]=some (.agg [a,b]):=rfl
theorem xJ (x:Fo):aL (D.agg [I x.1,B x.2])=some (fo x):=rfl
theorem qr (a b:D) (x:Fo):stD 2 (D.agg [a,b]) (D.ref 0 0) (fo x)=some (fo x):=rfl
theorem gE (x:Fo) (k:Nat):aa (fo x) (D.ref 0 k)=some (D.ref 0 k):=rfl
theorem wd (x:Fo):(atD (fo x) (D.ref 0 0)).bind (an false 1)=some (I x.1):=rfl
theorem ZJ (x:Fo):(atD (fo x) (D.ref 0 1)).bind (an false 1)=some (B x.2):=rfl
theorem Dk (l:List Fo) (h:l.length≤1000000):lI [fos l]=some (.ret [B (qR l)] []):=by
 rw [Ps];simp -implicitDefEqProofs only [aq,aik,ail,aim];refine aG _ (pX l (fun i=>[fos l,fos l,I l.length,I i]) (fun _ x=>decide (1≤x.1∧x.1≤2)) (.ret [B false] []) (.ext 0 [fos l]) (fun i hi=>?_) ?_ rfl rfl rfl) ?_
 ·have hil:(i:Int)<l.length:=by omega
  have e1:=Mj hi;have e2:=bp l[i].1 1 2;by_cases hc:1≤l[i].1∧l[i].1≤2
  ·simp -implicitDefEqProofs only [aq,aik,ail,aim,hil,e1,tk2,xJ,qr,gE,wd,e2,hc,wI (show i≤1000000 by omega)]
  ·simp -implicitDefEqProofs only [aq,aik,ail,aim,hil,e1,tk2,xJ,qr,gE,wd,e2,hc,wI (show i≤1000000 by omega)]
 ·have:¬(l.length:Int)<l.length:=by omega
  simp -implicitDefEqProofs only [aq,aik,ail,aim,this]
 ·rw [uZ]
  unfold qR;have h4:decide ((l.length:Int)≤4)=decide (l.length≤4):=by
   by_cases h:l.length≤4
   ·rw [decide_eq_true h,decide_eq_true (by omega)]
   ·rw [decide_eq_false h,decide_eq_false (by omega)]
  cases hq:l.all fun x=>decide (1≤x.1∧x.1≤2)
  ·simp -implicitDefEqProofs only [aq,aik,ail,aim,sI,aiQ]
  ·simp -implicitDefEqProofs only [aq,aik,ail,aim,h4,ai1]
def szS (s:Nat × Nat) (f:Fo):Nat × Nat:=if f.1=1 then(s.1*2,s.2) else(s.1,s.2*2)
theorem Ml {l:List Fo} {i:Nat} (h:i<l.length):szF (l.take (i+1))=szS (szF (l.take i)) l[i]:=by
 unfold szF;rw [aiv h,aiR];rfl
theorem ZO {l:List Fo} (h4:l.length≤4):∀i,i≤l.length→(szF (l.take i)).1≤2 ^ i∧(szF (l.take i)).2≤2 ^ i
 | 0,_=>by simp [szF]
 | i+1,hi=>by
  have ih:=ZO h4 i (by omega);rw [Ml (by omega),Nat.pow_succ];unfold szS;split<;>dsimp only<;>omega
theorem Ew (l:List Fo) (h4:l.length≤4):lA [fos l]=some (.ret [I ((szF l).1:Int),I ((szF l).2:Int)] []):=by
 rw [Rc];simp -implicitDefEqProofs only [aq,aik,ail,aim];refine aG (.ext 0 [I ((szF l).1:Int),I ((szF l).2:Int)]) (aY l.length (fun i=>[I ((szF (l.take i)).1:Int),I ((szF (l.take i)).2:Int),fos l,I l.length,I (i:Int)]) _ (fun i hi=>?_) ?_ rfl rfl) ?_
 ·have hil:(i:Int)<l.length:=by omega
  have e1:=Mj hi;have hb:=ZO h4 i (by omega);have hp:2 ^ i≤2 ^ 4:=aiH (by decide) (by omega);rw [Ml hi];generalize szF (l.take i)=s at hb;unfold szS;have w1:aip.wrap ((s.1:Int)*2)=((s.1*2:Nat):Int):=by rw [ah (by omega) (by omega)];omega
  have w2:aip.wrap ((s.2:Int)*2)=((s.2*2:Nat):Int):=by rw [ah (by omega) (by omega)];omega
  by_cases hc:l[i].1=1
  ·have hcd:=decide_eq_true hc
   rw [if_pos hc];simp -implicitDefEqProofs only [aq,aik,ail,aim,hil,e1,tk2,xJ,qr,gE,wd,hcd,wI (show i≤1000000 by omega),w1,w2]
  ·have hcd:=decide_eq_false hc
   rw [if_neg hc];simp -implicitDefEqProofs only [aq,aik,ail,aim,hil,e1,tk2,xJ,qr,gE,wd,hcd,wI (show i≤1000000 by omega),w1,w2]
 ·rw [aiM]
  have:¬(l.length:Int)<l.length:=by omega
  simp -implicitDefEqProofs only [aq,aik,ail,aim,this]
 ·simp -implicitDefEqProofs only [aq,aik,ail,aim]
theorem Bw (p:List Int):(qN p).length=p.length:=by simp [qN]
theorem Xq {p:List Int} {j:Nat} (h:j<p.length):(qN p).take (j+1)=(qN p).take j++[-(p[p.length - 1 - j]'(by omega))]:=by
 rw [aiv (by rw [Bw];exact h)];congr 2
 unfold qN;rw [List.getElem_map,List.getElem_reverse]
theorem Di (p:List Int) (h:p.length≤1000) (hb:∀x∈p,-1000000≤x∧x≤1000000):lD [ai p]=some (.ret [ai (qN p)] []):=by
 rw [PR];have w0:aip.wrap ((p.length:Int) - 1)=(p.length:Int) - 1:=ah (by omega) (by omega);simp -implicitDefEqProofs only [aq,aik,ail,aim,w0];refine aG (.ext 0 [ai (qN p)]) (aY p.length (fun j=>[ai p,ai ((qN p).take j),I ((p.length:Int) - 1 - (j:Int))]) _ (fun j hj=>?_) ?_ rfl ?_) ?_
 ·have hge:(0:Int)≤(p.length:Int) - 1 - (j:Int):=by omega
  have hix:(p.length:Int) - 1 - (j:Int)=((p.length - 1 - j:Nat):Int):=by omega
  have e1:=pW (l:=p) (i:=p.length - 1 - j) (by omega);rw [←hix] at e1;have hx:=hb _ (ais (show p.length - 1 - j<p.length by omega));have ht:=Xq hj;generalize p[p.length - 1 - j]=v at *;have hu:un UnOp.neg (I v)=some (I (-v)):=by rw [SN,ah (by omega) (by omega)]
  have hm:aB 1 [I (-v)]=some (.arr 1 [I (-v)]):=rfl;have hck:cT (.arr 1 [I (-v)])=some (.arr 1 [I (-v)]):=kw [-v];have ha:bC 1 8 (ai ((qN p).take j)) (.arr 1 [I (-v)])=some (ai ((qN p).take j++[-v])):=eJ (m:=[-v]) (by simp;omega);rw [←ht] at ha;have w1:aip.wrap ((p.length:Int) - 1 - (j:Int) - 1)=(p.length:Int) - 1 - ((j+1:Nat):Int):=by rw [ah (by omega) (by omega)];omega
  simp -implicitDefEqProofs only [aq,aik,ail,aim,hge,e1,hu,hm,hck,ha,w1]
 ·have hge:¬(0:Int)≤(p.length:Int) - 1 - (p.length:Int):=by omega
  rw [ai6 (by rw [Bw];exact ait _)];simp -implicitDefEqProofs only [aq,aik,ail,aim,hge]
 ·rw [show((0:Nat):Int)=0 from rfl,Int.sub_zero]
  rfl
 ·simp -implicitDefEqProofs only [aq,aik,ail,aim]
theorem Gn (a b:List Int) (o:Bool) (ha:a.length≤1000) (hb:b.length≤1000):nQ [ai a,ai b,B o]=some (.ret [ai (aaw a b o)] []):=by
 rw [Uo];have o1:=nx a (by omega);have o2:=nx b (by omega);have c1:=kw a;have c2:=kw b;have a1:=eJ (l:=a) (m:=b) (by omega);have a2:=eJ (l:=b) (m:=a) (by omega);unfold aaw;cases o<;>simp -implicitDefEqProofs only [aq,aik,ail,aim,o1,o2,c1,c2,a1,a2]
theorem Tz {n:Int} (h : -1000000≤n∧n≤1000000):iR [I n]=some (.ret [I (Fm n)] []):=by
 rw [TV];have hu:un UnOp.neg (I n)=some (I (-n)):=by rw [SN,ah (by omega) (by omega)]
 have e1:=QG n (-n);simp -implicitDefEqProofs only [aq,aik,ail,aim,hu,e1];rfl
def okG (l:List Fo):Bool:=(ain (l.length+1)).all fun n=>(kj l n).2.2.all fun p=>p.all fun x=>decide (-100≤x∧x≤100)
theorem Yl:ur.all okG=true:=by decide +kernel
structure PlOk (l:List Fo) (n:Nat):Prop where
 c:(kj l n).1≤16
 r:(kj l n).2.1≤16
 len:(kj l n).2.2.length=(kj l n).1*(kj l n).2.1
 p:∀p∈(kj l n).2.2,p.length=2 ^ n
 b:∀p∈(kj l n).2.2,∀x∈p,-100≤x∧x≤100
theorem TQ:∀(l:List Fo),l.length≤4→(szF l).1≤16∧(szF l).2≤16:=fun l h4=>by
 have:=ZO h4 l.length (ait _);rw [aiM] at this;have hp:2 ^ l.length≤2 ^ 4:=aiH (by decide) h4;omega
theorem aid {l:List Fo} (hl:l∈ur) (h4:l.length≤4) {n:Nat} (hn:n<l.length):PlOk l n:=by
 have h1:=air.1 Jp l hl;have h2:=air.1 Yl l hl;unfold okF at h1;simp only [aio,decide_eq_true_eq] at h1;have h3:=air.1 h1.2 n (ai8.2 hn);simp only [aio,decide_eq_true_eq] at h3;obtain⟨-,⟨⟨g1,g2⟩,g3⟩,g4⟩:=h3;have hs:=TQ (l.drop n) (by rw [aji];omega);refine⟨by omega,by omega,g3,fun p hp=>?_,fun p hp=>?_⟩
 ·have:=air.1 g4 p hp
  simpa using this
 ·have:=air.1 (air.1 h2 n (ai8.2 (by omega))) p hp
  intro x hx;have:=air.1 this x hx;simpa using this
theorem YM {l:List Fo} {n:Nat} (h:n<l.length):kj l (n+1)=RD (kj l n) l[n]:=by
 unfold kj;rw [aiv h,aiR];rfl
def nE {α:Type} (F:Nat→Nat→α) (w j:Nat):List α:=(ain j).flatMap fun r=>(ain w).map (F r)
theorem Fg {α:Type} (F:Nat→Nat→α) (w j:Nat):nE F w (j+1)=nE F w j++(ain w).map (F j):=by simp [nE,ajk]
theorem IC {α:Type} (F:Nat→Nat→α) (w:Nat):∀j,(nE F w j).length=j*w
 | 0=>by simp [nE]
 | j+1=>by rw [Fg,aiI,IC F w j,aiE,ai2,ai5]
theorem iJ {α:Type} (g:Nat→α) (k:Nat):(ain (k+1)).map g=(ain k).map g++[g k]:=by simp [ajk]
theorem WR {a b:Nat} (ha:a≤16) (hb:b≤16):aip.wrap ((a:Int)*(b:Int))=((a*b:Nat):Int):=by
 have h:a*b≤16*16:=aiK ha hb;rw [←Int.natCast_mul,ah (by omega) (by omega)]
theorem VF {a b:Nat} (h:a+b≤1000000):aip.wrap ((a:Int)+(b:Int))=((a+b:Nat):Int):=by rw [ah (by omega) (by omega)];omega
theorem Zr {a b:Nat} (h:b≤a) (ha:a≤1000000):aip.wrap ((a:Int) - (b:Int))=((a - b:Nat):Int):=by rw [ah (by omega) (by omega)];omega
theorem sm {a:Nat} (ha:a≤1000000):bin BinOp.quo false [] (I (a:Int)) (D.v (aiq aip 2))=some (I ((a / 2:Nat):Int)):=by
 rw [lO,if_neg (by decide),Int.tdiv_eq_ediv_of_nonneg (by omega),ah (by omega) (by omega)];congr 3
theorem WX {a:Nat} (h:1≤a) (ha:a≤1000000):aip.wrap ((a:Int) - 1)=((a - 1:Nat):Int):=by rw [ah (by omega) (by omega)];omega
theorem vJ {ps:List (List Int)} {i:Nat} (h:i<ps.length):ps.getD i []=ps[i]:=by simp [h]
abbrev hF (c:Nat) (ps:List (List Int)) (o:Bool) (j k:Nat):List Int:=aaw (ps.getD (j*c+k) []) (qN (ps.getD (j*c+c - 1 - k) [])) o
abbrev vF (c r:Nat) (ps:List (List Int)) (o:Bool) (j k:Nat):List Int:=aaw (ps.getD (j*c+k) []) (qN (ps.getD ((r - 1 - j)*c+k) [])) o
theorem afw {s:Nat × Nat × List (List Int)} {f:Fo} (h:f.1=1):RD s f=(s.1 / 2,s.2.1,nE (hF s.1 s.2.2 f.2) (s.1 / 2) s.2.1):=by
 unfold RD;rw [if_pos h];rfl
theorem afp {s:Nat × Nat × List (List Int)} {f:Fo} (h:¬f.1=1):RD s f=(s.1,s.2.1 / 2,nE (vF s.1 s.2.1 s.2.2 f.2) s.1 (s.2.1 / 2)):=by
 unfold RD;rw [if_neg h];rfl
theorem QU (l:List Fo) (hl:l∈ur) (h4:l.length≤4) (hfin:dm l≠[]∧0<(kj l l.length).2.2.length):lq [fos l]=some (.ret [ai (dm l)] []):=by
 rw [PI];have hz:=TQ l h4;have e1:=Ew l h4;simp -implicitDefEqProofs only [aq,aik,ail,aim,e1,t0V,t1V];have hp0:kj l 0=((szF l).1,(szF l).2,(ain ((szF l).1*(szF l).2)).map fun i=>[((i:Nat):Int)+1]):=rfl;have hcr:(szF l).1*(szF l).2≤16*16:=aiK hz.1 hz.2;have hmul:=WR hz.1 hz.2;refine aG (.ext 0 [fos l,I ((szF l).1:Int),I ((szF l).2:Int),fA (kj l 0).2.2]) (aY ((szF l).1*(szF l).2) (fun i=>[fos l,I ((szF l).1:Int),I ((szF l).2:Int),fA ((ain i).map fun i=>[((i:Nat):Int)+1]),I (i:Int)]) _ (fun i hi=>?_) ?_ rfl rfl) ?_
 ·have hil:(i:Int)<(((szF l).1*(szF l).2:Nat):Int):=by omega
  have hm:aB 1 [I (((i+1:Nat)):Int)]=some (ai [((i+1:Nat):Int)]):=rfl;have ht:=wR [((i+1:Nat):Int)];have ha:=Gb (l:=(ain i).map fun i=>[((i:Nat):Int)+1]) (m:=[[((i+1:Nat):Int)]]) (by simp;omega);have hsn:=iJ (fun i=>[((i:Nat):Int)+1]) i;rw [show([((i+1:Nat):Int)]:List Int)=[(i:Int)+1] from by rw [aiV];rfl,←hsn] at ha;rw [show([((i+1:Nat):Int)]:List Int)=[(i:Int)+1] from by rw [aiV];rfl] at ht hm;simp -implicitDefEqProofs only [aq,aik,ail,aim,hmul,hil,wI (show i≤1000000 by omega),hm,ht,ha]
 ·have hil:¬(((szF l).1*(szF l).2:Nat):Int)<(((szF l).1*(szF l).2:Nat):Int):=by omega
  simp -implicitDefEqProofs only [aq,aik,ail,aim,hmul,hil];rw [hp0]
 simp -implicitDefEqProofs only [aq,aik,ail,aim];refine aG (.ext 2 [fA (kj l l.length).2.2]) (aY l.length (fun i=>[I ((kj l i).1:Int),I ((kj l i).2.1:Int),fA (kj l i).2.2,fos l,I l.length,I (i:Int)]) _ (fun i hi=>?_) ?_ rfl ?_) ?_
 ·have hil:(i:Int)<l.length:=by omega
  have hk:=aid hl h4 hi;have e1:=Mj hi;rw [YM hi];obtain⟨k1,k2,k3,k4,k5⟩:=hk;generalize kj l i=s at k1 k2 k3 k4 k5;obtain⟨c,r,ps⟩:=s;dsimp only at k1 k2 k3 k4 k5 ⊢;have hpl:∀q,q<ps.length→((ps.getD q []).length≤1000∧∀x∈ps.getD q [],-1000000≤x∧x≤1000000):=by
   intro q hq;rw [vJ hq];have hm:=ais hq;have hp2:2 ^ i≤2 ^ 4:=aiH (by decide) (by omega);refine⟨by rw [k4 _ hm];omega,fun x hx=>?_⟩
   have:=k5 _ hm x hx;omega
  have hps:ps.length≤256:=by
   have:c*r≤16*16:=aiK k1 k2;omega
  by_cases hc:l[i].1=1
  ·have hcd:=decide_eq_true hc
   rw [afw hc];simp -implicitDefEqProofs only [aq,aik,ail,aim,hil,e1,tk2,xJ,qr,gE,wd,hcd];refine aG (.ext 4 [I (c:Int),I (r:Int),fA ps,fA (nE (hF c ps l[i].2) (c / 2) r),fos l,I l.length,I (i:Int)])
    (aY r (fun j=>[I (c:Int),I (r:Int),fA ps,fo l[i],fA (nE (hF c ps l[i].2) (c / 2) j),I (j:Int),fos l,I l.length,I (i:Int)]) _ (fun j hj=>?_) ?_ rfl rfl) ?_
   ·have hjr:(j:Int)<r:=by omega
    simp -implicitDefEqProofs only [aq,aik,ail,aim,hjr];refine aG (.ext 6 [I (c:Int),I (r:Int),fA ps,fo l[i],fA (nE (hF c ps l[i].2) (c / 2) (j+1)),I (j:Int),fos l,I l.length,I (i:Int)])
     (aY (c / 2) (fun k=>[I (c:Int),I (r:Int),fA ps,fo l[i],fA (nE (hF c ps l[i].2) (c / 2) j++(ain k).map (hF c ps l[i].2 j)),I (j:Int),I (k:Int),fos l,I l.length,I (i:Int)]) _ (fun k hk=>?_) ?_ rfl ?_) ?_
    ·have hkc:(k:Int)<((c / 2:Nat):Int):=by omega
     have hjc:j*c+c≤ps.length:=by
      rw [k3,←ai5,aiO c r];exact aiW _ hj
     have h1:j*c+k<ps.length:=by omega
     have h2:j*c+c - 1 - k<ps.length:=by omega
     have m1:=WR (a:=j) (b:=c) (by omega) k1;have a1:=VF (a:=j*c) (b:=k) (by omega);have a2:=VF (a:=j*c) (b:=c) (by omega);have a3:=WX (a:=j*c+c) (by omega) (by omega);have a4:=Zr (a:=j*c+c - 1) (b:=k) (by omega) (by omega);have r1:=wQ h1;have r2:=wQ h2;have t1:=EI h1;have t2:=EI h2;obtain⟨q1,q2⟩:=hpl _ h1;obtain⟨q3,q4⟩:=hpl _ h2;rw [←vJ h1] at t1;rw [←vJ h2] at t2;have e2:=Di _ q3 q4;have e3:=Gn (ps.getD (j*c+k) []) (qN (ps.getD (j*c+c - 1 - k) [])) l[i].2 q1 (by rw [Bw];exact q3);have hsn:=iJ (hF c ps l[i].2 j) k;have hrl:(nE (hF c ps l[i].2) (c / 2) j).length≤256:=by
      rw [IC];exact aiK (show j≤16 by omega) (show c / 2≤16 by omega)
     have ha:=Gb (l:=nE (hF c ps l[i].2) (c / 2) j++(ain k).map (hF c ps l[i].2 j)) (m:=[hF c ps l[i].2 j k]) (by simp only [aiI,aiE,ai2,aiU];omega);rw [aiS,←hsn] at ha;have ht:=wR (hF c ps l[i].2 j k);simp -implicitDefEqProofs only [aq,aik,ail,aim,sm (show c≤1000000 by omega),hkc,m1,a1,a2,a3,a4,r1,r2,t1,t2,e2,e3,gE,ZJ,ht,ha,wI (show k≤1000000 by omega)]
    ·have hkc:¬((c / 2:Nat):Int)<((c / 2:Nat):Int):=by omega
     rw [←Fg];simp -implicitDefEqProofs only [aq,aik,ail,aim,sm (show c≤1000000 by omega),hkc]
    ·simp
    ·simp -implicitDefEqProofs only [aq,aik,ail,aim,wI (show j≤1000000 by omega)]
   ·have hjr:¬(r:Int)<r:=by omega
    simp -implicitDefEqProofs only [aq,aik,ail,aim,hjr]
   ·simp -implicitDefEqProofs only [aq,aik,ail,aim,sm (show c≤1000000 by omega),wI (show i≤1000000 by omega)]
  ·have hcd:=decide_eq_false hc
   rw [afp hc];simp -implicitDefEqProofs only [aq,aik,ail,aim,hil,e1,tk2,xJ,qr,gE,wd,hcd];refine aG (.ext 8 [I (c:Int),I (r:Int),fA ps,fA (nE (vF c r ps l[i].2) c (r / 2)),fos l,I l.length,I (i:Int)])
    (aY (r / 2) (fun j=>[I (c:Int),I (r:Int),fA ps,fo l[i],fA (nE (vF c r ps l[i].2) c j),I (j:Int),fos l,I l.length,I (i:Int)]) _ (fun j hj=>?_) ?_ rfl rfl) ?_
   ·have hjr:(j:Int)<((r / 2:Nat):Int):=by omega
    simp -implicitDefEqProofs only [aq,aik,ail,aim,sm (show r≤1000000 by omega),hjr];refine aG (.ext 10 [I (c:Int),I (r:Int),fA ps,fo l[i],fA (nE (vF c r ps l[i].2) c (j+1)),I (j:Int),fos l,I l.length,I (i:Int)])
     (aY c (fun k=>[I (c:Int),I (r:Int),fA ps,fo l[i],fA (nE (vF c r ps l[i].2) c j++(ain k).map (vF c r ps l[i].2 j)),I (j:Int),I (k:Int),fos l,I l.length,I (i:Int)]) _ (fun k hk=>?_) ?_ rfl ?_) ?_
    ·have hkc:(k:Int)<(c:Int):=by omega
     have hjc:j*c+c≤ps.length:=by
      rw [k3,←ai5,aiO c r];exact aiW _ (by omega)
     have hjc2:(r - 1 - j)*c+c≤ps.length:=by
      rw [k3,←ai5,aiO c r];exact aiW _ (by omega)
     have h1:j*c+k<ps.length:=by omega
     have h2:(r - 1 - j)*c+k<ps.length:=by omega
     have m1:=WR (a:=j) (b:=c) (by omega) k1;have m2:=WR (a:=r - 1 - j) (b:=c) (by omega) k1;have a1:=VF (a:=j*c) (b:=k) (by omega);have a2:=VF (a:=(r - 1 - j)*c) (b:=k) (by omega);have a3:=WX (a:=r) (by omega) (by omega);have a4:=Zr (a:=r - 1) (b:=j) (by omega) (by omega);have r1:=wQ h1;have r2:=wQ h2;have t1:=EI h1;have t2:=EI h2;obtain⟨q1,q2⟩:=hpl _ h1;obtain⟨q3,q4⟩:=hpl _ h2;rw [←vJ h1] at t1;rw [←vJ h2] at t2;have e2:=Di _ q3 q4;have e3:=Gn (ps.getD (j*c+k) []) (qN (ps.getD ((r - 1 - j)*c+k) [])) l[i].2 q1 (by rw [Bw];exact q3);have hsn:=iJ (vF c r ps l[i].2 j) k;have hrl:(nE (vF c r ps l[i].2) c j).length≤256:=by
      rw [IC];exact aiK (show j≤16 by omega) (show c≤16 by omega)
     have ha:=Gb (l:=nE (vF c r ps l[i].2) c j++(ain k).map (vF c r ps l[i].2 j)) (m:=[vF c r ps l[i].2 j k]) (by simp only [aiI,aiE,ai2,aiU];omega);rw [aiS,←hsn] at ha;have ht:=wR (vF c r ps l[i].2 j k);simp -implicitDefEqProofs only [aq,aik,ail,aim,hkc,m1,m2,a1,a2,a3,a4,r1,r2,t1,t2,e2,e3,gE,ZJ,ht,ha,wI (show k≤1000000 by omega)]
    ·have hkc:¬(c:Int)<(c:Int):=by omega
     rw [←Fg];simp -implicitDefEqProofs only [aq,aik,ail,aim,hkc]
    ·simp
    ·simp -implicitDefEqProofs only [aq,aik,ail,aim,wI (show j≤1000000 by omega)]
   ·have hjr:¬((r / 2:Nat):Int)<((r / 2:Nat):Int):=by omega
    simp -implicitDefEqProofs only [aq,aik,ail,aim,sm (show r≤1000000 by omega),hjr]
   ·simp -implicitDefEqProofs only [aq,aik,ail,aim,sm (show r≤1000000 by omega),wI (show i≤1000000 by omega)]
 ·have:¬(l.length:Int)<l.length:=by omega
  simp -implicitDefEqProofs only [aq,aik,ail,aim,this]
 ·rw [hp0]
  rfl
 ·have hlt:=hfin.2
  have r1:fd 1 (fA (kj l l.length).2.2) (D.v (aiq aip 0))=some (.ref 0 0):=wQ (i:=0) hlt;have t1:=EI (i:=0) hlt;rw [←vJ hlt] at t1;simp -implicitDefEqProofs only [aq,aik,ail,aim,r1,t1];rfl
def ZG (a:List Int × List Int) (p:Int × Nat):List Int × List Int :=
 (a.1.set (Fm p.1 - 1).toNat (if p.1<0 then 2*(p.2:Int)+2 else 2*(p.2:Int)+1),a.2.set (Fm p.1 - 1).toNat (if p.1<0 then 2*(p.2:Int)+1 else 2*(p.2:Int)+2))
def nG (p:List Int) (n:Nat):List Int × List Int:=(p.take n).zipIdx.foldl ZG (ajo p.length 0,ajo p.length 0)
theorem Np (l:List Fo) (n:Nat):Az l n=nG (dm l) n:=rfl
theorem KM {p:List Int} {n:Nat} (h:n<p.length):nG p (n+1)=ZG (nG p n) (p[n],n):=by
 unfold nG;rw [aiv h,List.zipIdx_append,aiR,List.length_take,Nat.min_eq_left (by omega)];simp
theorem wW (p:List Int):∀n,n≤p.length→(nG p n).1.length=p.length∧(nG p n).2.length=p.length
 | 0,_=>by simp [nG]
 | n+1,h=>by
  have ih:=wW p n (by omega);rw [KM (by omega)];simp only [ZG,List.length_set];exact ih
theorem NI (l:List Fo) (p:List Int) (he:lq [fos l]=some (.ret [ai p] [])) (hp:p.length≤1000) (hr:∀x∈p,(0≤Fm x - 1∧Fm x - 1<(p.length:Int)) ∧ -1000000≤x∧x≤1000000) :
  kf [fos l]=some (.ret [ai (nG p p.length).1,ai (nG p p.length).2] []):=by
 rw [Nl];have hm:=zY (n:=p.length) (by omega);simp -implicitDefEqProofs only [aq,aik,ail,aim,he,hm];refine aG (.ext 0 [ai (nG p p.length).1,ai (nG p p.length).2]) (aY p.length (fun i=>[ai (nG p i).1,ai (nG p i).2,ai p,I p.length,I (i:Int)]) _ (fun i hi=>?_) ?_ rfl rfl) ?_
 ·have hil:(i:Int)<p.length:=by omega
  have e1:=pW hi;obtain⟨⟨h1,h2⟩,h3⟩:=hr _ (ais hi);obtain⟨l1,l2⟩:=wW p i (by omega);rw [KM hi];unfold ZG;dsimp only;generalize nG p i=s at l1 l2;obtain⟨a,b⟩:=s;dsimp only at l1 l2 ⊢;have ea:=Tz h3;generalize p[i]=x at *;have w1:aip.wrap (2*(i:Int))=2*(i:Int):=ah (by omega) (by omega);have w2:aip.wrap (2*(i:Int)+1)=2*(i:Int)+1:=ah (by omega) (by omega);have w3:aip.wrap (2*(i:Int)+2)=2*(i:Int)+2:=ah (by omega) (by omega);have w4:aip.wrap (Fm x - 1)=((Fm x - 1).toNat:Int):=by rw [ah (by omega) (by omega)];omega
  have hk:(Fm x - 1).toNat<p.length:=by omega
  generalize (Fm x - 1).toNat=k at *;have r1:=pF (l:=a) (i:=k) (by omega);have r2:=pF (l:=b) (i:=k) (by omega);have s1:=oT a k (2*(i:Int)+1) (by omega);have s2:=oT a k (2*(i:Int)+2) (by omega);have s3:=oT b k (2*(i:Int)+1) (by omega);have s4:=oT b k (2*(i:Int)+2) (by omega);by_cases hx:x<0
  ·simp -implicitDefEqProofs only [aq,aik,ail,aim,hil,e1,w1,w2,w3,hx,ea,w4,r1,r2,s1,s2,s3,s4,wI (show i≤1000000 by omega)]
  ·simp -implicitDefEqProofs only [aq,aik,ail,aim,hil,e1,w1,w2,w3,hx,ea,w4,r1,r2,s1,s2,s3,s4,wI (show i≤1000000 by omega)]
 ·have:¬(p.length:Int)<p.length:=by omega
  simp -implicitDefEqProofs only [aq,aik,ail,aim,this]
 ·simp -implicitDefEqProofs only [aq,aik,ail,aim]
def qv (cols:Nat) (l:List Int):Nat→ByteArray
 | 0=>⟨⟨[]⟩⟩
 | i+1=>qv cols l i++aI (l.getD i 0)++Gj cols i
theorem Nx (cols:Nat) (l:List Int):∀i,i≤l.length→ac (qv cols l i)++ac (nW cols i (l.drop i))=ac (nW cols 0 l)
 | 0,_=>by simp [qv,rC]
 | i+1,h=>by
  have ih:=Nx cols l i (by omega);rw [←ih,ai3 (show i<l.length by omega)];have hg:l.getD i 0=l[i]:=by simp [show i<l.length by omega]
  simp only [qv,nW,hg,be,aiS]
theorem SA (cols:Nat) (l:List Int):qv cols l l.length=nW cols 0 l:=by
 have:=Nx cols l l.length (ait _);rw [List.drop_length] at this;apply bN;rw [←this];simp [nW,rC]
theorem acU (cols i:Nat):(Gj cols i).size=1:=by
 unfold Gj;split<;>rfl
theorem EX (cols:Nat) (l:List Int) (h:∀n∈l,0≤n∧n≤1000):∀i,i≤l.length→(qv cols l i).size≤5*i
 | 0,_=>ait 0
 | i+1,hi=>by
  have ih:=EX cols l h i (by omega);have hg:l.getD i 0=l[i]:=by simp [show i<l.length by omega]
  have hx:=h _ (ais (show i<l.length by omega));have hz:=bY 3 (n:=l[i]) hx.1 (by omega);have h1:=acU cols i;simp only [qv,hg,aiz];omega
theorem Ht (l:List Fo) (hg:qR l=true) (c:Nat) (p q:List Int) (hc:(szF l).1=c) (hc0:0<c) (hc1:c≤1000) (he:kf [fos l]=some (.ret [ai p,ai q] [])) (hp:p.length≤1000) (hr:∀x∈p,0≤x∧x≤1000) :
  gD [fos l]=some (.ret [T (nW c 0 p),B true] []):=by
 rw [Gx];have h4:l.length≤4:=by
  unfold qR at hg;simp only [aio,decide_eq_true_eq] at hg;exact hg.2
 have e1:=Dk l (by omega);rw [hg] at e1;have e2:=Ew l h4;rw [hc] at e2;simp -implicitDefEqProofs only [aq,aik,ail,aim,e1,e2,t0V,t1V,he,t0A,lG,t1A];refine aG (.ext 0 [T (nW c 0 p)]) (aY p.length (fun i=>[I (c:Int),T (qv c p i),ai p,I p.length,I (i:Int)]) _ (fun i hi=>?_) ?_ rfl rfl) ?_
 ·have hil:(i:Int)<p.length:=by omega
  have e1:=pW hi;have hx:=hr _ (ais hi);have e2:=bT (n:=p[i]) (by omega) (by omega);have hz:=EX c p hr i (by omega);have hz2:=bY 3 (n:=p[i]) hx.1 (by omega);have hgd:p.getD i 0=p[i]:=by simp [hi]
  have a1:bin ajd false [] (T (qv c p i)) (T (aI p[i]))=some (T (qv c p i++aI p[i])):=by rw [fY,if_pos (by omega)]
  have hrem:bin BinOp.rem false [] (I (i:Int)) (I (c:Int))=some (I ((i % c:Nat):Int)):=by
   rw [aaf,if_neg (by omega),Int.tmod_eq_emod_of_nonneg (by omega)];congr 3
  have w1:=WX (a:=c) (by omega) (by omega);by_cases hq:i % c=c - 1
  ·have hq':((i % c:Nat):Int)=((c - 1:Nat):Int):=by rw [hq]
   have a2:bin ajd false [] (T (qv c p i++aI p[i])) (D.v (aiL {data:={toList:=[47]}}))=some (T (qv c p (i+1))):=by
    rw [show(D.v (aiL {data:={toList:=[47]}}))=T ⟨⟨[47]⟩⟩ from rfl,fY,if_pos (by rw [aiz,JH];omega)];simp only [qv,hgd,Gj,hq,if_true]
   simp -implicitDefEqProofs only [aq,aik,ail,aim,hil,e1,e2,a1,hrem,w1,hq',a2,wI (show i≤1000000 by omega)]
  ·have hq':¬((i % c:Nat):Int)=((c - 1:Nat):Int):=by omega
   have a2:bin ajd false [] (T (qv c p i++aI p[i])) (D.v (aiL {data:={toList:=[44]}}))=some (T (qv c p (i+1))):=by
    rw [show(D.v (aiL {data:={toList:=[44]}}))=T ⟨⟨[44]⟩⟩ from rfl,fY,if_pos (by rw [aiz,JH];omega)];simp only [qv,hgd,Gj,hq,if_false]
   simp -implicitDefEqProofs only [aq,aik,ail,aim,hil,e1,e2,a1,hrem,w1,hq',a2,wI (show i≤1000000 by omega)]
 ·have:¬(p.length:Int)<p.length:=by omega
  rw [SA];simp -implicitDefEqProofs only [aq,aik,ail,aim,this]
 ·simp -implicitDefEqProofs only [aq,aik,ail,aim]
theorem yg (l:List Fo) (h:l.length≤1000000):dN [fos l]=some (.ret [B (qR l)] []):=by
 rw [Lt];simp -implicitDefEqProofs only [aq,aik,ail,aim];refine aG _ (pX l (fun i=>[fos l,fos l,I l.length,I i]) (fun _ x=>decide (1≤x.1∧x.1≤2)) (.ret [B false] []) (.ext 0 [fos l]) (fun i hi=>?_) ?_ rfl rfl rfl) ?_
 ·have hil:(i:Int)<l.length:=by omega
  have e1:=Mj hi;by_cases h1:l[i].1=1
  ·have h1d:=decide_eq_true h1
   have hc:(1≤l[i].1∧l[i].1≤2)=True:=eq_true (by omega);simp -implicitDefEqProofs only [aq,aik,ail,aim,hil,e1,tk2,xJ,qr,gE,wd,h1d,decide_not,hc,wI (show i≤1000000 by omega)]
  ·have h1d:=decide_eq_false h1
   by_cases h2:l[i].1=2
   ·have h2d:=decide_eq_true h2
    have hc:(1≤l[i].1∧l[i].1≤2)=True:=eq_true (by omega);simp -implicitDefEqProofs only [aq,aik,ail,aim,hil,e1,tk2,xJ,qr,gE,wd,h1d,h2d,decide_not,hc,wI (show i≤1000000 by omega)]
   ·have h2d:=decide_eq_false h2
    have hc:(1≤l[i].1∧l[i].1≤2)=False:=eq_false (by omega);simp -implicitDefEqProofs only [aq,aik,ail,aim,hil,e1,tk2,xJ,qr,gE,wd,h1d,h2d,decide_not,hc,wI (show i≤1000000 by omega)]
 ·have:¬(l.length:Int)<l.length:=by omega
  simp -implicitDefEqProofs only [aq,aik,ail,aim,this]
 ·rw [uZ]
  unfold qR;have h4:decide ((l.length:Int)≤4)=decide (l.length≤4):=by
   by_cases h:l.length≤4
   ·rw [decide_eq_true h,decide_eq_true (by omega)]
   ·rw [decide_eq_false h,decide_eq_false (by omega)]
  cases hq:l.all fun x=>decide (1≤x.1∧x.1≤2)
  ·simp -implicitDefEqProofs only [aq,aik,ail,aim,sI,aiQ]
  ·simp -implicitDefEqProofs only [aq,aik,ail,aim,h4,ai1]
theorem vZ (l:List Fo) (h4:l.length≤4):eS [fos l]=some (.ret [I ((szF l).1:Int),I ((szF l).2:Int)] []):=by
 rw [II];simp -implicitDefEqProofs only [aq,aik,ail,aim];refine aG (.ext 0 [I ((szF l).1:Int),I ((szF l).2:Int)]) (aY l.length (fun i=>[I ((szF (l.take i)).1:Int),I ((szF (l.take i)).2:Int),fos l,I l.length,I (i:Int)]) _ (fun i hi=>?_) ?_ rfl rfl) ?_
 ·have hil:(i:Int)<l.length:=by omega
  have e1:=Mj hi;have hb:=ZO h4 i (by omega);have hp:2 ^ i≤2 ^ 4:=aiH (by decide) (by omega);rw [Ml hi];generalize szF (l.take i)=s at hb;unfold szS;have w1:aip.wrap ((s.1:Int)*2)=((s.1*2:Nat):Int):=by rw [ah (by omega) (by omega)];omega
  have w2:aip.wrap ((s.2:Int)*2)=((s.2*2:Nat):Int):=by rw [ah (by omega) (by omega)];omega
  by_cases hc:l[i].1=1
  ·have hcd:=decide_eq_true hc
   rw [if_pos hc];simp -implicitDefEqProofs only [aq,aik,ail,aim,hil,e1,tk2,xJ,qr,gE,wd,hcd,wI (show i≤1000000 by omega),w1,w2]
  ·have hcd:=decide_eq_false hc
   rw [if_neg hc];simp -implicitDefEqProofs only [aq,aik,ail,aim,hil,e1,tk2,xJ,qr,gE,wd,hcd,wI (show i≤1000000 by omega),w1,w2]
 ·rw [aiM]
  have:¬(l.length:Int)<l.length:=by omega
  simp -implicitDefEqProofs only [aq,aik,ail,aim,this]
 ·simp -implicitDefEqProofs only [aq,aik,ail,aim]
theorem Mc (l:List Fo):cT (fos l)=some (fos l):=sr fun _=>rfl
theorem tJ {l m:List Fo} (h:l.length+m.length≤1000000):bC 2 16 (fos l) (fos m)=some (fos (l++m)):=by
 rw [hD,if_pos (by simp only [aiE];omega)];simp
theorem Ux (a:Int) (b:Bool):dp [(0,1),(1,1)] [D.v (aiq aip 0),D.v (Value.bool false)] [I a,B b]=some (D.agg [I a,B b]):=rfl
def vS (o:List Lf):List Lf:=o.reverse.map fun x=>(x.1,!x.2)
theorem IH (o:List Lf):(vS o).length=o.length:=by simp [vS]
theorem XU {p:List Lf} {j:Nat} (h:j<p.length):(vS p).take (j+1)=(vS p).take j++[((p[p.length - 1 - j]'(by omega)).1,!(p[p.length - 1 - j]'(by omega)).2)]:=by
 rw [aiv (by rw [IH];exact h)];congr 2
 unfold vS;rw [List.getElem_map,List.getElem_reverse]
theorem Pd (p o:List Lf) (b:Bool) (hp:p.length≤1000) (ho:o.length≤1000):rS [fos p,fos o,B b]=some (.ret [fos (lk p o b)] []):=by
 rw [Yg];have w0:aip.wrap ((o.length:Int) - 1)=(o.length:Int) - 1:=ah (by omega) (by omega);simp -implicitDefEqProofs only [aq,aik,ail,aim,w0];refine aG (.ext 0 [fos p,B b,fos (vS o)]) (aY o.length (fun j=>[fos p,fos o,B b,fos ((vS o).take j),I ((o.length:Int) - 1 - (j:Int))]) _ (fun j hj=>?_) ?_ rfl ?_) ?_
 ·have hge:(0:Int)≤(o.length:Int) - 1 - (j:Int):=by omega
  have hix:(o.length:Int) - 1 - (j:Int)=((o.length - 1 - j:Nat):Int):=by omega
  have e1:=Mj (l:=o) (i:=o.length - 1 - j) (by omega);rw [←hix] at e1;have ht:=XU hj;generalize o[o.length - 1 - j]=v at *;have hm:aB 2 [D.agg [I v.1,B !v.2]]=some (fos [(v.1,!v.2)]):=rfl;have hck:=Mc [(v.1,!v.2)];have ha:=tJ (l:=(vS o).take j) (m:=[(v.1,!v.2)]) (by simp;omega);rw [←ht] at ha;have w1:aip.wrap ((o.length:Int) - 1 - (j:Int) - 1)=(o.length:Int) - 1 - ((j+1:Nat):Int):=by rw [ah (by omega) (by omega)];omega
  simp -implicitDefEqProofs only [aq,aik,ail,aim,hge,e1,Ux,hm,hck,ha,w1]
 ·have hge:¬(0:Int)≤(o.length:Int) - 1 - (o.length:Int):=by omega
  rw [ai6 (by rw [IH];exact ait _)];simp -implicitDefEqProofs only [aq,aik,ail,aim,hge]
 ·rw [show((0:Nat):Int)=0 from rfl,Int.sub_zero]
  rfl
 ·have c1:=Mc p
  have hl:=IH o;have a1:=tJ (l:=vS o) (m:=p) (by omega);have a2:=tJ (l:=[]) (m:=p) (by simp;omega);rw [ajl] at a2;have a2':bC 2 16 (D.arr 2 []) (fos p)=some (fos p):=a2;have a3:=tJ (l:=p) (m:=vS o) (by omega);have hlv:aa (fos (vS o)) (D.ref 0 0)=some (D.ref 0 0):=rfl;have hlv2:aa (D.ref 0 0) (fos (vS o))=some (fos (vS o)):=rfl;unfold lk;cases b<;>simp -implicitDefEqProofs only [aq,aik,ail,aim,c1,a1,a2',a3,hlv,hlv2]
  ·rfl
  ·rfl
abbrev yR (r:List (List Lf)):D:=.arr 1 (r.map fun p=>fos p)
abbrev jX (ps:Pls):D:=.arr 1 (ps.map fun r=>yR r)
theorem MN {r:List (List Lf)} {i:Nat} (h:i<r.length):ao 1 (yR r) (I (i:Int))=some [fos r[i]]:=by simp [h]
theorem SY {r:Pls} {i:Nat} (h:i<r.length):ao 1 (jX r) (I (i:Int))=some [yR r[i]]:=by simp [h]
theorem SM (p:List Lf):aB 1 [fos p]=some (yR [p]):=by simp [aB,kv]
theorem UD (r:List (List Lf)):aB 1 [yR r]=some (jX [r]):=by simp [aB,kv]
theorem SQ {l m:List (List Lf)} (h:l.length+m.length≤1000000):bC 1 24 (yR l) (yR m)=some (yR (l++m)):=by
 rw [hD,if_pos (by simp;omega),←ajm]
theorem SV {l m:Pls} (h:l.length+m.length≤1000000):bC 1 24 (jX l) (jX m)=some (jX (l++m)):=by
 rw [hD,if_pos (by simp;omega),←ajm]
theorem abG {ps:Pls} {y x:Nat} (hy:y<ps.length) (hx:x<ps[y].length):atF ps y x=ps[y][x]:=by
 unfold atF;simp [hy,hx]
structure RectF (ps:Pls) (rows cols m:Nat):Prop where
 r:ps.length=rows
 c:∀row∈ps,row.length=cols
 p:∀row∈ps,∀p∈row,p.length=m
theorem acl (x:Fo):gq 2 (fo x)=some (fo x):=rfl
theorem Lv (ps:Pls) (f:Fo) (rows cols m:Nat) (h:RectF ps rows cols m) (hr:rows≤1000) (hr0:0<rows) (hc:cols≤1000) (hm:m≤1000):lW [jX ps,fo f]=some (.ret [jX (Wq ps f)] []):=by
 rw [KV];obtain⟨h1,h2,h3⟩:=h;have hp0:0<ps.length:=by omega
 have e0:ao 1 (jX ps) (D.v (aiq aip 0))=some [yR ps[0]]:=SY (i:=0) hp0;have hc0:=h2 _ (ais hp0);have hlen:∀y (hy:y<ps.length) x (hx:x<ps[y].length),ps[y][x].length≤1000:=fun y hy x hx=>by
  rw [h3 _ (ais hy) _ (ais hx)];exact hm
 by_cases hf:f.1=2
 ·have hfd:=decide_eq_true hf
  unfold Wq;rw [if_pos hf];simp -implicitDefEqProofs only [aq,aik,ail,aim,acl,e0,gE,wd,hfd];refine aG (.ext 0 [jX ((ain (ps.length / 2)).map fun y=>(ain (ps.getD y []).length).map fun x=>lk (atF ps y x) (atF ps (ps.length - 1 - y) x) f.2)])
   (aY (ps.length / 2) (fun j=>[jX ps,fo f,I (ps.length:Int),jX ((ain j).map fun y=>(ain (ps.getD y []).length).map fun x=>lk (atF ps y x) (atF ps (ps.length - 1 - y) x) f.2),I (j:Int)]) _ (fun j hj=>?_) ?_ rfl rfl) ?_
  ·have hjl:(j:Int)<((ps.length / 2:Nat):Int):=by omega
   have hjp:j<ps.length:=by omega
   have e1:=SY hjp;have hcj:=h2 _ (ais hjp);have hgj:ps.getD j []=ps[j]:=by simp [hjp]
   simp -implicitDefEqProofs only [aq,aik,ail,aim,sm (show ps.length≤1000000 by omega),hjl,e1];refine aG (.ext 2 [jX ps,fo f,I (ps.length:Int),jX ((ain j).map fun y=>(ain (ps.getD y []).length).map fun x=>lk (atF ps y x) (atF ps (ps.length - 1 - y) x) f.2),I (j:Int),yR ((ain (ps.getD j []).length).map fun x=>lk (atF ps j x) (atF ps (ps.length - 1 - j) x) f.2)])
    (aY ps[j].length (fun k=>[jX ps,fo f,I (ps.length:Int),jX ((ain j).map fun y=>(ain (ps.getD y []).length).map fun x=>lk (atF ps y x) (atF ps (ps.length - 1 - y) x) f.2),I (j:Int),yR ((ain k).map fun x=>lk (atF ps j x) (atF ps (ps.length - 1 - j) x) f.2),I (ps[j].length:Int),I (k:Int)]) _ (fun k hk=>?_) ?_ rfl rfl) ?_
   ·have hkl:(k:Int)<(ps[j].length:Int):=by omega
    have e2:=MN (r:=ps[j]) hk;have hop:ps.length - 1 - j<ps.length:=by omega
    have hco:=h2 _ (ais hop);have e3:=SY hop;have hko:k<(ps[ps.length - 1 - j]).length:=by omega
    have e4:=MN (r:=ps[ps.length - 1 - j]) hko;have a3:=WX (a:=ps.length) (by omega) (by omega);have a4:=Zr (a:=ps.length - 1) (b:=j) (by omega) (by omega);have e5:=Pd ps[j][k] (ps[ps.length - 1 - j][k]) f.2 (hlen _ hjp _ hk) (hlen _ hop _ hko);have hsn:=iJ (fun x=>lk (atF ps j x) (atF ps (ps.length - 1 - j) x) f.2) k;rw [abG hjp hk,abG hop hko] at hsn;have ht:=SM (lk ps[j][k] (ps[ps.length - 1 - j][k]) f.2);have ha:=SQ (l:=(ain k).map fun x=>lk (atF ps j x) (atF ps (ps.length - 1 - j) x) f.2) (m:=[lk ps[j][k] (ps[ps.length - 1 - j][k]) f.2]) (by simp;omega);rw [←hsn] at ha;simp -implicitDefEqProofs only [aq,aik,ail,aim,hkl,e1,e2,e3,e4,a3,a4,gE,ZJ,e5,ht,ha,wI (show k≤1000000 by omega)]
   ·have hkl:¬(ps[j].length:Int)<(ps[j].length:Int):=by omega
    rw [hgj];simp -implicitDefEqProofs only [aq,aik,ail,aim,hkl]
   ·have hsn:=iJ (fun y=>(ain (ps.getD y []).length).map fun x=>lk (atF ps y x) (atF ps (ps.length - 1 - y) x) f.2) j
    have ht:=UD ((ain (ps.getD j []).length).map fun x=>lk (atF ps j x) (atF ps (ps.length - 1 - j) x) f.2);have ha:=SV (l:=(ain j).map fun y=>(ain (ps.getD y []).length).map fun x=>lk (atF ps y x) (atF ps (ps.length - 1 - y) x) f.2) (m:=[(ain (ps.getD j []).length).map fun x=>lk (atF ps j x) (atF ps (ps.length - 1 - j) x) f.2]) (by simp;omega);rw [←hsn] at ha;simp -implicitDefEqProofs only [aq,aik,ail,aim,ht,ha,wI (show j≤1000000 by omega)]
  ·have hjl:¬((ps.length / 2:Nat):Int)<((ps.length / 2:Nat):Int):=by omega
   simp -implicitDefEqProofs only [aq,aik,ail,aim,sm (show ps.length≤1000000 by omega),hjl]
  ·simp -implicitDefEqProofs only [aq,aik,ail,aim]
 ·have hfd:=decide_eq_false hf
  unfold Wq;rw [if_neg hf];have hg0:ps.getD 0 []=ps[0]:=by simp [hp0]
  rw [hg0,hc0];simp -implicitDefEqProofs only [aq,aik,ail,aim,acl,e0,gE,wd,hfd];rw [hc0];refine aG (.ext 4 [jX ((ain ps.length).map fun y=>(ain (cols / 2)).map fun x=>lk (atF ps y x) (atF ps y (cols - 1 - x)) f.2)])
   (aY ps.length (fun j=>[fo f,I (cols:Int),jX ((ain j).map fun y=>(ain (cols / 2)).map fun x=>lk (atF ps y x) (atF ps y (cols - 1 - x)) f.2),jX ps,I (ps.length:Int),I (j:Int)]) _ (fun j hj=>?_) ?_ rfl rfl) ?_
  ·have hjl:(j:Int)<(ps.length:Int):=by omega
   have e1:=SY hj;have hcj:=h2 _ (ais hj);simp -implicitDefEqProofs only [aq,aik,ail,aim,hjl,e1];refine aG (.ext 6 [fo f,I (cols:Int),jX ((ain j).map fun y=>(ain (cols / 2)).map fun x=>lk (atF ps y x) (atF ps y (cols - 1 - x)) f.2),yR ((ain (cols / 2)).map fun x=>lk (atF ps j x) (atF ps j (cols - 1 - x)) f.2),jX ps,I (ps.length:Int),I (j:Int)])
    (aY (cols / 2) (fun k=>[fo f,I (cols:Int),jX ((ain j).map fun y=>(ain (cols / 2)).map fun x=>lk (atF ps y x) (atF ps y (cols - 1 - x)) f.2),yR ps[j],yR ((ain k).map fun x=>lk (atF ps j x) (atF ps j (cols - 1 - x)) f.2),I (k:Int),jX ps,I (ps.length:Int),I (j:Int)]) _ (fun k hk=>?_) ?_ rfl rfl) ?_
   ·have hkl:(k:Int)<((cols / 2:Nat):Int):=by omega
    have hk1:k<ps[j].length:=by omega
    have hk2:cols - 1 - k<ps[j].length:=by omega
    have e2:=MN (r:=ps[j]) hk1;have e4:=MN (r:=ps[j]) hk2;have a3:=WX (a:=cols) (by omega) (by omega);have a4:=Zr (a:=cols - 1) (b:=k) (by omega) (by omega);have e5:=Pd ps[j][k] (ps[j][cols - 1 - k]) f.2 (hlen _ hj _ hk1) (hlen _ hj _ hk2);have hsn:=iJ (fun x=>lk (atF ps j x) (atF ps j (cols - 1 - x)) f.2) k;rw [abG hj hk1,abG hj hk2] at hsn;have ht:=SM (lk ps[j][k] (ps[j][cols - 1 - k]) f.2);have ha:=SQ (l:=(ain k).map fun x=>lk (atF ps j x) (atF ps j (cols - 1 - x)) f.2) (m:=[lk ps[j][k] (ps[j][cols - 1 - k]) f.2]) (by simp;omega);rw [←hsn] at ha;simp -implicitDefEqProofs only [aq,aik,ail,aim,sm (show cols≤1000000 by omega),hkl,e2,e4,a3,a4,gE,ZJ,e5,ht,ha,wI (show k≤1000000 by omega)]
   ·have hkl:¬((cols / 2:Nat):Int)<((cols / 2:Nat):Int):=by omega
    simp -implicitDefEqProofs only [aq,aik,ail,aim,sm (show cols≤1000000 by omega),hkl]
   ·have hsn:=iJ (fun y=>(ain (cols / 2)).map fun x=>lk (atF ps y x) (atF ps y (cols - 1 - x)) f.2) j
    have ht:=UD ((ain (cols / 2)).map fun x=>lk (atF ps j x) (atF ps j (cols - 1 - x)) f.2);have ha:=SV (l:=(ain j).map fun y=>(ain (cols / 2)).map fun x=>lk (atF ps y x) (atF ps y (cols - 1 - x)) f.2) (m:=[(ain (cols / 2)).map fun x=>lk (atF ps j x) (atF ps j (cols - 1 - x)) f.2]) (by simp;omega);rw [←hsn] at ha;simp -implicitDefEqProofs only [aq,aik,ail,aim,ht,ha,wI (show j≤1000000 by omega)]
  ·have hjl:¬(ps.length:Int)<(ps.length:Int):=by omega
   simp -implicitDefEqProofs only [aq,aik,ail,aim,hjl]
  ·simp -implicitDefEqProofs only [aq,aik,ail,aim]
def okH (l:List Fo):Bool:=decide (0<(gp l l.length).length)&&decide (0<((gp l l.length).getD 0 []).length)&&decide (dm l≠[])&&decide (0<(kj l l.length).2.2.length)
 && decide ((fj l).length≤16)&&decide ((dm l).length≤16)&&(dm l).all fun x=>decide (-100≤x∧x≤100)
theorem xh:ur.all okH=true:=by decide +kernel
theorem Vw {l:List Fo} {n:Nat} (h:n<l.length):gp l (n+1)=Wq (gp l n) l[n]:=by
 unfold gp;rw [aiv h,aiR];rfl
theorem ag2 {l:List Fo} (hl:l∈ur) {n:Nat} (hn:n<l.length):RectF (gp l n) (szF (l.drop n)).2 (szF (l.drop n)).1 (2 ^ n):=by
 have h1:=air.1 Jp l hl;unfold okF at h1;simp only [aio,decide_eq_true_eq] at h1;have h3:=air.1 h1.2 n (ai8.2 hn);simp only [aio,decide_eq_true_eq] at h3;have h4:=h3.1;unfold afI at h4;simp only [aio,decide_eq_true_eq] at h4;refine⟨h4.1,fun row hrow=>?_,fun row hrow p hp=>?_⟩
 ·have:=air.1 h4.2 row hrow
  simp only [aio,decide_eq_true_eq] at this;exact this.1
 ·have:=air.1 h4.2 row hrow
  simp only [aio,decide_eq_true_eq] at this;have:=air.1 this.2 p hp;simpa using this
theorem Tk:∀(l:List Fo) (a b:Nat),0<a→0<b→0<(l.foldl (fun s f=>if f.1=1 then(s.1*2,s.2) else(s.1,s.2*2)) (a,b)).1∧0<(l.foldl (fun s f=>if f.1=1 then(s.1*2,s.2) else(s.1,s.2*2)) (a,b)).2
 | [],a,b,ha,hb=>⟨ha,hb⟩
 | f::l,a,b,ha,hb=>by
  rw [List.foldl_cons];split
  ·exact Tk l (a*2) b (by omega) hb
  ·exact Tk l a (b*2) ha (by omega)
theorem ahg (x:Fo):bh true 2 0 (fo x)=some (fo x):=rfl
theorem WF (ps:Pls):aa (jX ps) (D.ref 0 0)=some (D.ref 0 0):=rfl
theorem So (ps:Pls):aa (D.ref 0 0) (jX ps)=some (jX ps):=rfl
theorem Qy (l:List Fo) (hl:l∈ur) (h4:l.length≤4):fN [fos l]=some (.ret [fos (fj l)] []):=by
 rw [PA];have hz:=TQ l h4;have e1:=vZ l h4;have hH:=air.1 xh l hl;unfold okH at hH;simp only [aio,decide_eq_true_eq] at hH;have hn1:=hH.1.1.1.1.1.1;have hn2:=hH.1.1.1.1.1.2;clear hH;have hp0:gp l 0=(ain (szF l).2).map fun y=>(ain (szF l).1).map fun x=>[(((y*(szF l).1+x:Nat):Int),true)]:=rfl
 have hp0':jX (gp l 0)=jX ((ain (szF l).2).map fun y=>(ain (szF l).1).map fun x=>[(((y*(szF l).1+x:Nat):Int),true)]):=rfl;simp -implicitDefEqProofs only [aq,aik,ail,aim,e1,t0V,t1V];refine aG (.ext 0 [fos l,jX (gp l 0)]) (aY (szF l).2 (fun y=>[fos l,I ((szF l).1:Int),I ((szF l).2:Int),jX ((ain y).map fun y=>(ain (szF l).1).map fun x=>[(((y*(szF l).1+x:Nat):Int),true)]),I (y:Int)]) _ (fun y hy=>?_) ?_ rfl rfl) ?_
 ·have hyl:(y:Int)<((szF l).2:Int):=by omega
  simp -implicitDefEqProofs only [aq,aik,ail,aim,hyl];refine aG (.ext 2 [fos l,I ((szF l).1:Int),I ((szF l).2:Int),jX ((ain y).map fun y=>(ain (szF l).1).map fun x=>[(((y*(szF l).1+x:Nat):Int),true)]),I (y:Int),yR ((ain (szF l).1).map fun x=>[(((y*(szF l).1+x:Nat):Int),true)])])
   (aY (szF l).1 (fun x=>[fos l,I ((szF l).1:Int),I ((szF l).2:Int),jX ((ain y).map fun y=>(ain (szF l).1).map fun x=>[(((y*(szF l).1+x:Nat):Int),true)]),I (y:Int),yR ((ain x).map fun x=>[(((y*(szF l).1+x:Nat):Int),true)]),I (x:Int)]) _ (fun x hx=>?_) ?_ rfl rfl) ?_
  ·have hxl:(x:Int)<((szF l).1:Int):=by omega
   have m1:=WR (a:=y) (b:=(szF l).1) (by omega) hz.1;have hb:y*(szF l).1≤16*16:=aiK (by omega) hz.1;have a1:=VF (a:=y*(szF l).1) (b:=x) (by omega);have hm:aB 2 [D.agg [I ((y*(szF l).1+x:Nat):Int),B true]]=some (fos [(((y*(szF l).1+x:Nat):Int),true)]):=rfl;have ht:=SM [(((y*(szF l).1+x:Nat):Int),true)];have hsn:=iJ (fun x=>[(((y*(szF l).1+x:Nat):Int),true)]) x;have ha:=SQ (l:=(ain x).map fun x=>[(((y*(szF l).1+x:Nat):Int),true)]) (m:=[[(((y*(szF l).1+x:Nat):Int),true)]]) (by simp;omega);rw [←hsn] at ha;simp -implicitDefEqProofs only [aq,aik,ail,aim,hxl,m1,a1,Ux,hm,ht,ha,wI (show x≤1000000 by omega)]
  ·have hxl:¬((szF l).1:Int)<((szF l).1:Int):=by omega
   simp -implicitDefEqProofs only [aq,aik,ail,aim,hxl]
  ·have hsn:=iJ (fun y=>(ain (szF l).1).map fun x=>[(((y*(szF l).1+x:Nat):Int),true)]) y
   have ht:=UD ((ain (szF l).1).map fun x=>[(((y*(szF l).1+x:Nat):Int),true)]);have ha:=SV (l:=(ain y).map fun y=>(ain (szF l).1).map fun x=>[(((y*(szF l).1+x:Nat):Int),true)]) (m:=[(ain (szF l).1).map fun x=>[(((y*(szF l).1+x:Nat):Int),true)]]) (by simp;omega);rw [←hsn] at ha;simp -implicitDefEqProofs only [aq,aik,ail,aim,ht,ha,wI (show y≤1000000 by omega)]
 ·have hyl:¬((szF l).2:Int)<((szF l).2:Int):=by omega
  simp -implicitDefEqProofs only [aq,aik,ail,aim,hyl];rw [hp0']
 simp -implicitDefEqProofs only [aq,aik,ail,aim];refine aG (.ext 4 [jX (gp l l.length)]) (aY l.length (fun i=>[jX (gp l i),fos l,I l.length,I (i:Int)]) _ (fun i hi=>?_) ?_ rfl rfl) ?_
 ·have hil:(i:Int)<l.length:=by omega
  have e1:=Mj hi;have hk:=ag2 hl hi;have hs:=TQ (l.drop i) (by rw [aji];omega);have hs2:=Tk (l.drop i) 1 1 (by decide) (by decide);have hp:2 ^ i≤2 ^ 4:=aiH (by decide) (by omega);have e2:=Lv _ l[i] _ _ _ hk (by omega) hs2.2 (by omega) (by omega);rw [Vw hi];simp -implicitDefEqProofs only [aq,aik,ail,aim,hil,e1,tk2,xJ,qr,ahg,WF,So,e2,wI (show i≤1000000 by omega)]
 ·have:¬(l.length:Int)<l.length:=by omega
  simp -implicitDefEqProofs only [aq,aik,ail,aim,this]
 ·have r1:fd 1 (jX (gp l l.length)) (D.v (aiq aip 0))=some (.ref 0 0):=by
   have:fd 1 (jX (gp l l.length)) (I ((0:Nat):Int))=_:=lu;rw [if_pos (by simpa using hn1)] at this;exact this
  have t1:(atD (jX (gp l l.length)) (.ref 0 0)).bind (an false 1)=some (yR (gp l l.length)[0]):=by simp [hn1]
  have hg:(gp l l.length).getD 0 []=(gp l l.length)[0]:=by simp [hn1]
  rw [hg] at hn2;have e1:ao 1 (yR (gp l l.length)[0]) (D.v (aiq aip 0))=some [fos (gp l l.length)[0][0]]:=MN (i:=0) hn2;have hL:fj l=(gp l l.length)[0][0]:=abG hn1 hn2;rw [hL];simp -implicitDefEqProofs only [aq,aik,ail,aim,WF,So,r1,t1,e1]
def YL (l:List Fo):ByteArray:=nW (szF l).1 0 (Az l (dm l).length).1
def aav (l:List Fo):Prop:=l.length≤4∧∀f∈l,(f.1=1∨f.1=2)∧f.2=true
theorem Sq {l:List Fo} (h:aav l):qR l=true:=by
 unfold qR;simp only [aio,decide_eq_true_eq,air];refine⟨fun f hf=>?_,h.1⟩
 have:=(h.2 f hf).1;omega
theorem Ys {l:List Fo} (hl:l∈ur):YB l true (fj l).length=(Az l (dm l).length).1∧(fj l).length=(szF l).1*(szF l).2∧(dm l).length=(szF l).1*(szF l).2 ∧
  (1≤(szF l).1∧(szF l).1≤16∧1≤(szF l).2∧(szF l).2≤16)∧(∀x∈fj l,0≤x.1∧x.1<((fj l).length:Int))∧(∀x∈dm l,0≤Fm x - 1∧Fm x - 1<((dm l).length:Int)) ∧
  (∀n∈(Az l (dm l).length).1,0≤n∧n≤100):=by
 have h1:=air.1 Jp l hl;unfold okF at h1;simp only [aio,decide_eq_true_eq,air] at h1;obtain⟨⟨⟨⟨⟨⟨⟨a,b⟩,c⟩,d⟩,e⟩,f⟩,g⟩,_⟩:=h1;exact⟨a,b,c,by omega,e,f,g⟩
theorem UT {l:List Fo} (h:aav l):gD [fos l]=some (.ret [T (YL l),B true] []):=by
 have hl:=EP h.1 h.2;obtain⟨f1,f2,f3,f4,f5,f6,f7⟩:=Ys hl;have hH:=air.1 xh l hl;unfold okH at hH;simp only [aio,decide_eq_true_eq,air] at hH;obtain⟨⟨⟨⟨⟨⟨_,_⟩,h3⟩,h4⟩,h5⟩,h6⟩,h7⟩:=hH;have e1:=QU l hl h.1 ⟨h3,h4⟩;have e2:=NI l (dm l) e1 (by omega) fun x hx=>⟨f6 x hx,by have:=h7 x hx;omega⟩
 rw [←Np] at e2;have hlen:=(wW (dm l) (dm l).length (ait _)).1;rw [←Np] at hlen;exact Ht l (Sq h) (szF l).1 _ _ rfl (by omega) (by omega) e2 (by omega) fun x hx=>by have:=f7 x hx;omega
theorem Vd {l:List Fo} (h:aav l):Bq [fos l]=some (.ret [T (YL l),B true] []):=by
 have hl:=EP h.1 h.2;obtain⟨f1,f2,f3,f4,f5,f6,f7⟩:=Ys hl;have hp:Tt true (fj l)=(Az l (dm l).length).1:=by
  rw [←f1];unfold YB Tt;rw [aiM]
 have hlen:(Tt true (fj l)).length=(fj l).length:=FQ _ _;have hH:=air.1 xh l hl;unfold okH at hH;simp only [aio,decide_eq_true_eq,air] at hH;obtain⟨⟨⟨⟨⟨⟨_,_⟩,h3⟩,h4⟩,h5⟩,h6⟩,h7⟩:=hH;have e0:Bq [fos l]=afg (fos l):=rfl;rw [e0];unfold afg;rw [yg l (by have:=h.1;omega),Sq h,vZ l h.1,Qy l hl h.1];have o1:aex (some (.ret [B true] []))=some true:=rfl;have o2:∀a b:Int,ZA (some (.ret [I a,I b] []))=some (a,b):=fun _ _=>rfl
 have o3:Zm (some (.ret [fos (fj l)] []))=some (fj l):=Ss _;rw [o1,o2,o3];simp only [aiA,Bool.true_eq_false,if_false,Int.toNat_natCast];have hdiv:(fj l).length / (szF l).1=(szF l).2:=by
  rw [f2,aiO];exact Nat.mul_div_cancel _ (by omega)
 rw [hdiv];have hok:Wb (szF l).1 (szF l).2 (fj l):=by
  refine⟨by omega,by omega,by rw [f2,aiO],by omega,f5,fun n hn=>?_⟩
  rw [hp] at hn;have:=f7 n hn;omega
 rw [if_pos ⟨by omega,hok⟩];rw [Sb (by omega) _ _ 0 (by rw [hlen,f2,aiO]) (Nat.zero_mod _),hp];rfl
theorem GG {l:List Nt} (h:gz l=true):(∀x∈l,mz x=true)∧l.length≤24:=by
 unfold gz at h;simp only [aio,decide_eq_true_eq] at h;refine⟨?_,h.2⟩
 have key:∀(p:Nat→Nt→Bool) (m:List Nt) (i:Nat),nK p i m=true→∀x∈m,∃j,p j x=true:=by
  intro p m;induction m with
  | nil=>intro i _ x hx;cases hx
  | cons y m ih =>
   intro i hi x hx;simp only [nK,aio] at hi;rcases ai9.1 hx with rfl | hx
   ·exact⟨i,hi.1⟩
   ·exact ih (i+1) hi.2 x hx
 intro x hx;obtain⟨j,hj⟩:=key _ _ _ h.1 x hx;simp only [pNt,aio] at hj;exact hj.1
theorem QM (l:List Nt) (hg:∀x∈l,mz x=true) (hl:l.length≤1048576):oX [nts l]=some (.ret [T (jT l 7)] []):=by
 rw [QB];simp -implicitDefEqProofs only [aK,aiE,aiA];refine bH (fun r=>r=_) (fun(a:ByteArray × Int × Nat)=>[T a.1,I a.2.1,nts l,I (l.length:Int),I (a.2.2:Int)]) (fun a=>a.2.2≤l.length∧(0≤a.2.1∧a.2.1≤9972)∧a.1++jT (l.drop a.2.2) a.2.1=jT l 7∧a.1.size≤44*a.2.2)
  (fun a=>l.length - a.2.2) (fun o=>o = .ext 0 [T (jT l 7)]) ?_ (⟨#[]⟩,7,0) ⟨aiD _,⟨by decide,by decide⟩,by apply bN;rw [be];rfl,ait _⟩ rfl ?_
 ·rintro⟨s,c,i⟩ ⟨h1,h2,h3,h4⟩
  simp only at h1 h2 h3 h4;by_cases hp:i<l.length
  ·left
   have hpi:(i:Int)<(l.length:Int):=by omega
   have hx:mz l[i]=true:=hg _ (ais hp);have hck:=rB c l[i];have hel:ao 3 (nts l) (I (i:Int))=some (nt l[i]).cells:=by simp [hp]
   have lx:∀x:Nt,(ldD true 3 (.ptr (nt x).cells)).bind aL=some (nt x):=fun x=>by simp
   have hz:=OO hx hck;have hw:aip.wrap ((i:Int)+1)=((i+1:Nat):Int):=by rw [ah (by omega) (by omega)];omega
   have hadd:bin ajd false [] (T s) (T (lnT l[i] (ckN c l[i])))=some (T (s++lnT l[i] (ckN c l[i]))):=by rw [fY,if_pos (by omega)]
   refine⟨(s++lnT l[i] (ckN c l[i]),ckN c l[i],i+1),?_,⟨hp,hck,?_,?_⟩,by simp only;omega⟩
   ·simp -implicitDefEqProofs only [ak,aF,bg,hpi,decide_true,aiA,aH,if_true,hel,Option.map_some,lx,Yq,Pr,AU h2 hx,am,En hx hck,hadd,bw,hw]
   ·rw [←h3,ai3 hp]
    apply bN;simp only [jT,be,aiS]
   ·rw [aiz]
    simp only;omega
  ·right
   have hpi:¬(i:Int)<(l.length:Int):=by omega
   rw [List.drop_eq_nil_of_le (by omega)] at h3;have h5:s=jT l 7:=by
    rw [←h3];apply bN;rw [be];simp [jT,ac]
   refine⟨_,?_,rfl,rfl⟩
   simp -implicitDefEqProofs only [ak,aF,bg,hpi,decide_false,aiA,aH,aiZ,if_false,h5]
 ·rintro o rfl
  simp -implicitDefEqProofs only [bF,Nat.beq_refl,dE,if_true,ak]
theorem Vb (s:ByteArray):tb [T s]=some (.ret [T (if s.size≤300 then s else⟨#[]⟩),B (decide (s.size≤300))] []):=by
 rw [WP];by_cases h:s.size≤300
 ·have h':¬(300:Int)<(s.size:Int):=by omega
  simp -implicitDefEqProofs only [dZ,eY,h',h,decide_false,decide_true,aiA,aH,aiZ,if_false,if_true]
 ·have h':(300:Int)<(s.size:Int):=by omega
  simp -implicitDefEqProofs only [dZ,eY,h',h,decide_false,decide_true,aiA,aH,if_false,if_true]
theorem Ng (l:List Nt) (hg:∀x∈l,mz x=true) (hl:l.length≤1048576):sQ [nts l]=some (.ret [T (jT l 7)] []):=by
 simp only [sQ,RL,aiA];rw [if_pos ⟨hg,hl⟩]
def jtS (l:List Nt):ByteArray × Bool:=if gz l=true∧(jT l 7).size≤300 then(jT l 7,true) else(⟨#[]⟩,false)
def anS (s:ByteArray) (x:Nt):ByteArray × Bool:=if (jrS s).2=true then jtS ((jrS s).1++[x]) else(⟨#[]⟩,false)
theorem uh (s:ByteArray):(jrS s).1.length≤24:=by
 unfold jrS;split
 ·exact agy s
 ·exact aiD _
theorem XR (x:Nt):gq 3 (nt x)=some (nt x):=by simp
theorem GE (s:ByteArray) (x:Nt) (h:s.size≤1048576):jz [T s,nt x]=some (.ret [T (anS s x).1,B (anS s x).2] []):=by
 rw [GZ];have e1:=jc s h;have hlen:=uh s;unfold anS;generalize jrS s=R at *;obtain⟨l,p⟩:=R;simp only at e1 hlen ⊢;have ha0:bC 3 24 (.arr 3 []) (nts l)=some (nts l):=xv (l:=[]) (m:=l) (by simp;omega);have hap:=xv (l:=l) (m:=[x]) (by simp;omega);simp -implicitDefEqProofs only [XR,aiA,e1,am,tp0,tc0,ahv,bf,Tc,ha0,Pr,Um,hap,bn];have hl2:(l++[x]).length≤1048576:=by rw [aiI,aiU];omega
 have hg:=eD (l++[x]) hl2;cases p
 ·simp -implicitDefEqProofs
 unfold jtS;cases hgd:gz (l++[x])
 ·simp -implicitDefEqProofs [hg,hgd]
 ·have hall:=(GG hgd).1
  have hT:=QM (l++[x]) hall hl2;have hI:=Vb (jT (l++[x]) 7);rw [hgd] at hg;generalize l++[x]=m at *;by_cases hz:(jT m 7).size≤300<;>simp -implicitDefEqProofs [hg,hT,hI,hz]
theorem adS {x:Nt} (hx:mz x=true) {g m:Int} (h0:0≤m) (h : -m≤g∧g≤m) (hm:m≤1000000000) : -(m+99999)≤xi g x∧xi g x≤m+99999:=by
 obtain⟨h1,h2,h3⟩:=pY.1 hx;unfold xi;split
 ·rw [ah (by omega) (by omega)];omega
 ·rw [ah (by omega) (by omega)];omega
theorem acu (d:Int):∀(l:List Nt) (s m:Int),(∀x∈l,mz x=true)→0≤m → -m≤s∧s≤m→m+99999*l.length≤1000000000 → -(m+99999*l.length)≤bE l s d∧bE l s d≤m+99999*l.length
 | [],s,m,_,_,h,_=>by simpa [bE] using h
 | x::l,s,m,hx,h0,h,hm=>by
  simp only [aiF,aiV,Int.mul_add] at hm ⊢;have e:bE (x::l) s d=bE l (if x.1≤d then xi s x else s) d:=rfl;rw [e];have hb:=adS (hx x (by simp)) h0 h (by omega);have:=acu d l (if x.1≤d then xi s x else s) (m+99999) (fun y hy=>hx y (by simp [hy])) (by omega) (by split<;>omega) (by omega);omega
theorem adc:∀(l:List Nt) (i:Nat) (a:Int × Int × Int) (m:Int),(∀x∈l,mz x=true)→0≤m → -m≤a.1∧a.1≤m → -m≤a.2.1∧a.2.1≤m→m+99999*l.length≤1000000000 →
  -(m+99999*l.length)≤(Eg mh i l a).2.1∧(Eg mh i l a).2.1≤m+99999*l.length
 | [],i,a,m,_,_,_,h2,_=>by simpa [Eg] using h2
 | x::l,i,a,m,hx,h0,h,h2,hm=>by
  simp only [aiF,aiV,Int.mul_add] at hm ⊢;have e:Eg mh i (x::l) a=Eg mh (i+1) l (mh i a x):=rfl;rw [e];have hb:=adS (hx x (by simp)) h0 h (by omega);have:=adc l (i+1) (mh i a x) (m+99999) (fun y hy=>hx y (by simp [hy])) (by omega) (by unfold mh;split<;>dsimp only<;>omega) (by unfold mh;split<;>dsimp only<;>omega) (by omega);omega
theorem Uc {l:List Nt} {s d:Int} : -1000000000≤(if eO l s d=true then bE l s d else 0)∧(if eO l s d=true then bE l s d else 0)≤1000000000:=by
 split
 ·rename_i h
  unfold eO at h;simp only [aio,decide_eq_true_eq] at h;obtain⟨⟨h1,h2⟩,h3⟩:=h;obtain⟨g1,g2⟩:=GG h1;have:=acu d l s 1000000 g1 (by omega) (by omega) (by omega);omega
 ·omega
theorem Tg {l:List Nt} {s:Int} : -1000000000≤(gG l s).1∧(gG l s).1≤1000000000:=by
 unfold gG;split
 ·rename_i h
  unfold gi at h;simp only [aio,decide_eq_true_eq] at h;obtain⟨⟨h1,h2⟩,h3⟩:=h;obtain⟨g1,g2⟩:=GG h1;have:=adc l 0 (s,0,-1) 1000000 g1 (by omega) (by dsimp only;omega) (by dsimp only;omega) (by omega);omega
 ·decide
def kr (c:Cn) (w:ByteArray) (r:List Int):ByteArray × Cn :=
 if w=ky then(if eW (c.t++[r.getD 0 0])=true then(aI ((c.t.length+1:Nat):Int),{c with t:=c.t++[r.getD 0 0]}) else(noT,c))
 else if w=bV then(aI (Fy c.t),c)
 else if w=cH then(cf 32 [((gn c.t c.t.length).1:Int),((gn c.t c.t.length).2:Int)],c)
 else if w=eQ then(if (anS c.j (r.getD 0 0,r.getD 1 0,r.getD 2 0)).2=true then(aI ((jrS (anS c.j (r.getD 0 0,r.getD 1 0,r.getD 2 0)).1).1.length:Int),{c with j:=(anS c.j (r.getD 0 0,r.getD 1 0,r.getD 2 0)).1}) else(noT,c))
 else if w=cF then(if eO (jrS c.j).1 (r.getD 0 0) (r.getD 1 0)=true then aI (bE (jrS c.j).1 (r.getD 0 0) (r.getD 1 0)) else noT,c)
 else if w=cA then(if gi (jrS c.j).1 (r.getD 0 0)=true then aI (gG (jrS c.j).1 (r.getD 0 0)).1 else noT,c)
 else if w=ep then(if qR (c.f++[(r.getD 0 0,true)])=true then(aI ((c.f.length+1:Nat):Int),{c with f:=c.f++[(r.getD 0 0,true)]}) else(noT,c))
 else(YL c.f,c)
theorem rJ {l:List Int} (h:eW l=true):1≤l.length∧l.length≤40∧∀n∈l,-500≤n∧n≤500:=by
 unfold eW at h;simp only [aio,decide_eq_true_eq,air] at h;exact⟨h.1.1,h.1.2,h.2⟩
theorem XP {l:List Int} (h:eW l=true) : -500≤Fy l∧Fy l≤500:=by
 obtain⟨h1,h2,h3⟩:=rJ h;have hp:=(xm l [] List.Pairwise.nil).2;rw [ajl] at hp;unfold Fy;have hix:(l.length - 1) / 2<(wH l).length:=by rw [HN];omega
 rw [aiG,aiy hix,aiT];exact h3 _ (hp.mem_iff.1 (ais hix))
theorem TW (l:List Int):∀n,n≤l.length→(gn l n).1≤l.length∧(gn l n).2≤l.length+1
 | 0,_=>by simp [gn]
 | n+1,h=>by
  have ih:=TW l n (by omega);have hm:=Zn (l:=l) (i:=n) (by omega);rw [vq];unfold OQ;split
  ·dsimp only;omega
  ·exact ih
theorem Ov (s:ByteArray) (x:Nt):(anS s x).1.size≤300:=by
 unfold anS jtS;split
 ·split
  ·rename_i h
   exact h.2
  ·exact aiD _
 ·exact aiD _
theorem kt (a b c:Int):dp [(0,1),(1,1),(2,1)] [D.v (aiq aip 0),D.v (aiq aip 0),D.v (aiq aip 0)] [I a,I b,I c]=some (nt (a,b,c)):=rfl
structure CnOk (c:Cn):Prop where
 m:ct c.m=true
 s:cB c.s=true
 t:eW c.t=true
 j:c.j.size≤300
 f:aav c.f
theorem iE (c:Cn) (x y:Value) (n:Int) (w:ByteArray) (r:List Int) (hk:CnOk c)
  (hw:(w=ky∧r.length=1)∨(w=bV∧r.length=0)∨(w=cH∧r.length=0)∨(w=eQ∧r.length=3)∨(w=cF∧r.length=2)∨(w=cA∧r.length=1)∨(w=ep∧r.length=1)∨(w=bM∧r.length=0)) :
  cS [cnD c x y n,T w,ai r]=some (.ret [T (kr c w r).1] [cnD (kr c w r).2 x y n]):=by
 rw [BU];obtain⟨hm,hs,ht,hj,hf⟩:=hk;obtain⟨t1,t2,t3⟩:=rJ ht;rcases hw with ⟨rfl,hr⟩ | ⟨rfl,hr⟩ | ⟨rfl,hr⟩ | ⟨rfl,hr⟩ | ⟨rfl,hr⟩ | ⟨rfl,hr⟩ | ⟨rfl,hr⟩ | ⟨rfl,hr⟩
 ·obtain⟨a,rfl⟩:=aiC.1 hr
  have hel:ao 1 (ai [a]) (D.v (aiq aip 0))=some [I a]:=rfl;have e1:=nx c.t (by omega);have hmk:aB 1 [I a]=some (ai [a]):=rfl;have ha:=eJ (l:=c.t) (m:=[a]) (by simp;omega);have e2:=uH (c.t++[a]) (by simp;omega);have e3:=bT (n:=((c.t.length+1:Nat):Int)) (by omega) (by omega);have hmc:kr c ky [a]=if eW (c.t++[a])=true then(aI ((c.t.length+1:Nat):Int),{c with t:=c.t++[a]}) else(noT,c):=rfl
  have hlen:(((c.t++[a]).length:Nat):Int)=((c.t.length+1:Nat):Int):=by simp
  rw [hmc];cases hq:eW (c.t++[a])<;>rw [hq] at e2<;>simp -implicitDefEqProofs only [aq,aik,ail,aim,RW,hel,e1,e2,hmk,ha,acQ,aho,bR,ci,bm,aT,hlen,e3]
 ·obtain rfl:=aix hr
  have e1:=Iv c.t (by omega);rw [ht,if_pos rfl] at e1;have hb:=XP ht;have e2:=ni (n:=Fy c.t) (by omega) (by omega);have hmc:kr c bV []=(aI (Fy c.t),c):=rfl;rw [hmc];simp -implicitDefEqProofs only [aq,aik,ail,aim,Hc,ye,e1,e2,t0V,t1V,acQ,bR,ci,bm,aT]
 ·obtain rfl:=aix hr
  have e1:=Cj c.t (by omega);rw [ht,if_pos rfl,if_pos rfl] at e1;have hb:=TW c.t c.t.length (ait _);have hbb:∀z∈[((gn c.t c.t.length).1:Int),((gn c.t c.t.length).2:Int)],-1000000000000000000<z∧z<1000000000000000000:=by
   intro z hz;simp only [ai9,ajj,or_false] at hz;rcases hz with rfl | rfl<;>omega
  have e2:=uN [((gn c.t c.t.length).1:Int),((gn c.t c.t.length).2:Int)] (by simp) (uo hbb) hbb;have hmk:aB 1 [I ((gn c.t c.t.length).1:Int),I ((gn c.t c.t.length).2:Int)]=some (ai [((gn c.t c.t.length).1:Int),((gn c.t c.t.length).2:Int)]):=rfl;have hmc:kr c cH []=(cf 32 [((gn c.t c.t.length).1:Int),((gn c.t c.t.length).2:Int)],c):=rfl;rw [hmc];simp -implicitDefEqProofs only [aq,aik,ail,aim,Kf,zP,CZ,e1,e2,hmk,t0V,t1V,t2V,acQ,bR,ci,bm,aT]
 ·obtain⟨a,b,d,rfl⟩:=JM hr
  have hel:ao 1 (ai [a,b,d]) (D.v (aiq aip 0))=some [I a]:=rfl;have hel1:ao 1 (ai [a,b,d]) (D.v (aiq aip 1))=some [I b]:=rfl;have hel2:ao 1 (ai [a,b,d]) (D.v (aiq aip 2))=some [I d]:=rfl;have e1:=GE c.j (a,b,d) (by omega);have hz:=Ov c.j (a,b,d);have e2:=jc (anS c.j (a,b,d)).1 (by omega);have hl:=uh (anS c.j (a,b,d)).1;have e3:=bT (n:=((jrS (anS c.j (a,b,d)).1).1.length:Int)) (by omega) (by omega);have hmc:kr c eQ [a,b,d]=if (anS c.j (a,b,d)).2=true then(aI ((jrS (anS c.j (a,b,d)).1).1.length:Int),{c with j:=(anS c.j (a,b,d)).1}) else(noT,c):=rfl
  rw [hmc];cases hq:(anS c.j (a,b,d)).2<;>rw [hq] at e1<;>simp -implicitDefEqProofs only [aq,aik,ail,aim,NT,QO,Ue,Kl,hel,hel1,hel2,kt,e1,e2,e3,t0V,t0A,lG,t1V,abP,ahy,bR,ci,bm,aT]
 ·obtain⟨a,b,rfl⟩:=GC hr
  have hel:ao 1 (ai [a,b]) (D.v (aiq aip 0))=some [I a]:=rfl;have hel1:ao 1 (ai [a,b]) (D.v (aiq aip 1))=some [I b]:=rfl;have e1:=jc c.j (by omega);have hl:=uh c.j;have e2:=HE (jrS c.j).1 a b (by omega);have hb:=Uc (l:=(jrS c.j).1) (s:=a) (d:=b);have e3:=ni (n:=if eO (jrS c.j).1 a b=true then bE (jrS c.j).1 a b else 0) (by omega) (by omega);have hmc:kr c cF [a,b]=(if eO (jrS c.j).1 a b=true then aI (bE (jrS c.j).1 a b) else noT,c):=rfl;rw [hmc];cases hq:eO (jrS c.j).1 a b<;>rw [hq] at e2 e3<;>simp only [if_true,if_false,aiZ] at e2 e3<;>simp -implicitDefEqProofs only [aq,aik,ail,aim,Kx,zI,Ei,HP,Ea,hel,hel1,e1,e2,e3,t0V,t0A,lG,t1V,abP,bR,ci,bm,aT,nr,nD]
 ·obtain⟨a,rfl⟩:=aiC.1 hr
  have hel:ao 1 (ai [a]) (D.v (aiq aip 0))=some [I a]:=rfl;have e1:=jc c.j (by omega);have hl:=uh c.j;have e2:=HQ (jrS c.j).1 a (by omega);have hb:=Tg (l:=(jrS c.j).1) (s:=a);have e3:=ni (n:=(gG (jrS c.j).1 a).1) (by omega) (by omega);have hmc:kr c cA [a]=(if gi (jrS c.j).1 a=true then aI (gG (jrS c.j).1 a).1 else noT,c):=rfl;rw [hmc];cases hq:gi (jrS c.j).1 a<;>rw [hq] at e2<;>simp -implicitDefEqProofs only [aq,aik,ail,aim,Kc,zZ,Eh,GD,CV,DV,hel,e1,e2,e3,t0V,t0A,lG,t1V,t2V,abP,bR,ci,bm,aT,nr,nD]
 ·obtain⟨a,rfl⟩:=aiC.1 hr
  have hel:ao 1 (ai [a]) (D.v (aiq aip 0))=some [I a]:=rfl;have h4:=hf.1;have hck:=Mc c.f;have ha0:bC 2 16 (D.arr 2 []) (fos c.f)=some (fos c.f):=tJ (l:=[]) (m:=c.f) (by simp;omega);have hmk:aB 2 [D.agg [I a,B true]]=some (fos [(a,true)]):=rfl;have ha:=tJ (l:=c.f) (m:=[(a,true)]) (by simp;omega);have e2:=Dk (c.f++[(a,true)]) (by simp;omega);have e3:=bT (n:=((c.f.length+1:Nat):Int)) (by omega) (by omega);have hmc:kr c ep [a]=if qR (c.f++[(a,true)])=true then(aI ((c.f.length+1:Nat):Int),{c with f:=c.f++[(a,true)]}) else(noT,c):=rfl
  have hlen:(((c.f++[(a,true)]).length:Nat):Int)=((c.f.length+1:Nat):Int):=by simp
  rw [hmc];cases hq:qR (c.f++[(a,true)])<;>rw [hq] at e2<;>simp -implicitDefEqProofs only [aq,aik,ail,aim,OZ,QC,UB,KN,TR,SL,Kj,hel,hck,ha0,Ux,hmk,ha,e2,e3,afJ,ahZ,bR,ci,bm,aT,hlen]
 ·obtain rfl:=aix hr
  have e1:=UT hf;have hmc:kr c bM []=(YL c.f,c):=rfl;rw [hmc];simp -implicitDefEqProofs only [aq,aik,ail,aim,FL,yz,zH,CP,zQ,Aa,Ds,e1,t0V,t1V,afJ,bR,ci,bm,aT]
def uk (w:ByteArray):Bool:=decide (w=ef)||decide (w=bU)||decide (w=dO)||decide (w=gO)||decide (w=bA)
def bq (c:Cn) (w rest:ByteArray) (r:List Int):ByteArray × Cn :=
 if shN w = -1 then OT c w rest else if uk w=true then iw c w r else kr c w r
def dK (c:Cn) (t:ByteArray):ByteArray × Cn :=
 match rdL t with
 | none=>(dH,c)
 | some (w,rest,r)=>bq c w rest r
theorem RS {w:ByteArray} (h1:¬shN w = -2) (h2:¬shN w = -1):w=ef∨w=bU∨w=dO∨w=gO∨w=bA∨w=ky∨w=bV∨w=cH∨w=eQ∨w=cF∨w=cA∨w=ep∨w=bM:=by
 unfold shN at h1 h2;by_cases g0:w=bU∨w=bV∨w=cH∨w=bM
 ·rcases g0 with g | g | g | g<;>simp [g]
 rw [if_neg g0] at h1 h2;by_cases g1:w=kV∨w=km∨w=fD
 ·rw [if_pos g1] at h2
  exact absurd rfl h2
 rw [if_neg g1] at h1 h2;by_cases g2:w=ef∨w=dO∨w=bA∨w=ky∨w=cA∨w=ep
 ·rcases g2 with g | g | g | g | g | g<;>simp [g]
 rw [if_neg g2] at h1 h2;by_cases g3:w=gO∨w=cF
 ·rcases g3 with g | g<;>simp [g]
 rw [if_neg g3] at h1 h2;by_cases g4:w=eQ
 ·simp [g4]
 rw [if_neg g4] at h1;exact absurd rfl h1
theorem Wt {w:ByteArray} (h:shN w = -1):w=fD∨w=kV∨w=km:=by
 unfold shN at h;split at h
 ·cases h
 split at h
 ·rename_i g
  rcases g with g | g | g<;>simp [g]
 split at h
 ·cases h
 split at h
 ·cases h
 split at h<;>cases h
theorem Yz {t w:ByteArray} {ws:List ByteArray} (h:aC 32 t=w::ws) (hne:ws≠[]):w.size+1≤t.size:=by
 have hc:(aC 32 t).map ac=aX 32 (ac t):=by
  unfold aC;rw [List.map_map]
  conv=>rhs;rw [←List.map_id (aX 32 (ac t))]
  exact List.map_congr_left fun l _=>cW l
 have hj:=mW 32 (ac t);rw [←hc,h] at hj;obtain⟨v,vs,rfl⟩:=List.exists_cons_of_ne_nil hne;simp only [List.map_cons,er] at hj;have:=congrArg List.length hj;rw [aiI,aiF] at this;show(ac w).length+1≤(ac t).length
 omega
set_option maxHeartbeats 1000000 in
theorem Wr (c:Cn) (x y:Value) (n:Int) (t:ByteArray) (hk:CnOk c) (ht:t.size≤1000000) :
  lc [cnD c x y n,T t]=some (.ret [T (dK c t).1] [cnD (dK c t).2 x y n]):=by
 rw [Ci];have e1:=fT t 32 (by omega);have e1':cg [T t,D.v (aiq IntKind.u8 32)]=some (.ret [txs (aC 32 t)] []):=e1;have hsz:∀v∈aC 32 t,v.size≤4294967296:=fun v hv=>by have:=fI 32 t v hv;omega
 have hwl:(aC 32 t).length≤1000001:=by
  rw [ex];have h1:=eZ 32 (ac t);have h2:=cX t;omega
 unfold dK rdL;cases hs:aC 32 t with
 | nil =>
  exfalso;have:aC 32 t≠[]:=by
   unfold aC;simp [ed]
  exact this hs
 | cons w ws =>
 rw [hs] at e1' hsz hwl;have hel:ao 1 (txs (w::ws)) (D.v (aiq aip 0))=some [T w]:=rfl;have e2:=Mp w;dsimp only;by_cases h2:shN w = -2
 ·have h2d:=decide_eq_true h2
  rw [if_pos h2];simp -implicitDefEqProofs only [aq,aik,ail,aim,e1',hel,e2,h2d,ci]
 have h2d:=decide_eq_false h2;rw [if_neg h2];by_cases h1:shN w = -1
 ·have h1d:=decide_eq_true h1
  rw [if_pos h1];by_cases hne:ws=[]
  ·subst hne
   have hl1:(([w]:List ByteArray).length:Int)=1:=rfl;rw [if_pos rfl];simp -implicitDefEqProofs only [aq,aik,ail,aim,e1',hel,e2,h2d,h1d,hl1,ci]
  ·have hl1:¬(((w::ws).length:Nat):Int)=1:=by
    have:=ajb.2 hne;rw [aiF];omega
   rw [if_neg hne];have hlong:=Yz hs hne;have hwr:aip.wrap ((w.size:Int)+1)=((w.size+1:Nat):Int):=by rw [ah (by omega) (by omega)];omega
   have hx:cQ true 0 (T t) (I ((w.size+1:Nat):Int))=some (T (t.extract (w.size+1) t.size)):=GV hlong;have e3:=Wc c x y n w (t.extract (w.size+1) t.size) (Wt h1) (by simp;omega);have hst:bq c w (t.extract (w.size+1) t.size) []=OT c w (t.extract (w.size+1) t.size):=by
    unfold bq;rw [if_pos h1]
   dsimp only;rw [hst];simp -implicitDefEqProofs only [aq,aik,ail,aim,e1',hel,e2,h2d,h1d,hl1,hwr,hx,bR,jR,ci,e3]
 have h1d:=decide_eq_false h1;rw [if_neg h1];have hx:cQ false 1 (txs (w::ws)) (D.v (aiq aip 1))=some (txs ws):=by
  have:=mQ (z:=1) (l:=(w::ws).map T) (i:=1) (k:=.i64) (by simp);exact this
 have e3:=Ri ws (shN w) (by rw [aiF] at hwl;omega) (fun v hv=>hsz v (by simp [hv]));cases hn:cG ws with
 | none =>
  rw [hn] at e3;dsimp only at e3 ⊢;have q0:∀b,ax (D.tup [ai [],b]) 0=some (ai []):=fun _=>rfl
  simp -implicitDefEqProofs only [aq,aik,ail,aim,e1',hel,e2,h2d,h1d,hx,e3,q0,t1V,ci]
 | some r =>
  rw [hn] at e3;dsimp only at e3 ⊢;have hrl:=(mP _ _ hn).1;have q0:∀b,ax (D.tup [ai r,b]) 0=some (ai r):=fun _=>rfl
  rw [←hrl] at e3;by_cases hr:(r.length:Int)=shN w
  case neg =>
   have hrd:=decide_eq_false hr;rw [hrd] at e3;rw [if_neg hr];simp -implicitDefEqProofs only [aq,aik,ail,aim,e1',hel,e2,h2d,h1d,hx,e3,q0,t1V,ci]
  rw [decide_eq_true hr] at e3;rw [if_pos hr];dsimp only;rcases RS h2 h1 with rfl | rfl | rfl | rfl | rfl | rfl | rfl | rfl | rfl | rfl | rfl | rfl | rfl
  ·have hl:r.length=1:=by
    have h0:shN ef=1:=by decide
    rw [h0] at hr;omega
   have e4:=nb c x y n ef r hk.m hk.s (.inl ⟨rfl,hl⟩);have hst:bq c ef ⟨⟨[]⟩⟩ r=iw c ef r:=by
    unfold bq;rw [if_neg h1,if_pos (show uk ef=true by decide)]
   rw [hst];simp -implicitDefEqProofs only [aq,aik,ail,aim,e1',hel,e2,h2d,h1d,hx,e3,q0,t1V,AQ,QT,WY,XG,NK,bR,jR,ci,e4]
  ·have hl:r.length=0:=by
    have h0:shN bU=0:=by decide
    rw [h0] at hr;omega
   have e4:=nb c x y n bU r hk.m hk.s (.inr (.inl ⟨rfl,hl⟩));have hst:bq c bU ⟨⟨[]⟩⟩ r=iw c bU r:=by
    unfold bq;rw [if_neg h1,if_pos (show uk bU=true by decide)]
   rw [hst];simp -implicitDefEqProofs only [aq,aik,ail,aim,e1',hel,e2,h2d,h1d,hx,e3,q0,t1V,uM,lV,DD,HJ,Je,bR,jR,ci,e4]
  ·have hl:r.length=1:=by
    have h0:shN dO=1:=by decide
    rw [h0] at hr;omega
   have e4:=nb c x y n dO r hk.m hk.s (.inr (.inr (.inl ⟨rfl,hl⟩)));have hst:bq c dO ⟨⟨[]⟩⟩ r=iw c dO r:=by
    unfold bq;rw [if_neg h1,if_pos (show uk dO=true by decide)]
   rw [hst];simp -implicitDefEqProofs only [aq,aik,ail,aim,e1',hel,e2,h2d,h1d,hx,e3,q0,t1V,uc,uS,ue,XH,OS,bR,jR,ci,e4]
  ·have hl:r.length=2:=by
    have h0:shN gO=2:=by decide
    rw [h0] at hr;omega
   have e4:=nb c x y n gO r hk.m hk.s (.inr (.inr (.inr (.inl ⟨rfl,hl⟩))));have hst:bq c gO ⟨⟨[]⟩⟩ r=iw c gO r:=by
    unfold bq;rw [if_neg h1,if_pos (show uk gO=true by decide)]
   rw [hst];simp -implicitDefEqProofs only [aq,aik,ail,aim,e1',hel,e2,h2d,h1d,hx,e3,q0,t1V,Fv,Gd,FC,Jc,QD,bR,jR,ci,e4]
  ·have hl:r.length=1:=by
    have h0:shN bA=1:=by decide
    rw [h0] at hr;omega
   have e4:=nb c x y n bA r hk.m hk.s (.inr (.inr (.inr (.inr (⟨rfl,hl⟩)))));have hst:bq c bA ⟨⟨[]⟩⟩ r=iw c bA r:=by
    unfold bq;rw [if_neg h1,if_pos (show uk bA=true by decide)]
   rw [hst];simp -implicitDefEqProofs only [aq,aik,ail,aim,e1',hel,e2,h2d,h1d,hx,e3,q0,t1V,sw,ov,sX,uu,ug,bR,jR,ci,e4]
  ·have hl:r.length=1:=by
    have h0:shN ky=1:=by decide
    rw [h0] at hr;omega
   have e4:=iE c x y n ky r hk (.inl ⟨rfl,hl⟩);have hst:bq c ky ⟨⟨[]⟩⟩ r=kr c ky r:=by
    unfold bq;rw [if_neg h1,if_neg (show ¬uk ky=true by decide)]
   rw [hst];simp -implicitDefEqProofs only [aq,aik,ail,aim,e1',hel,e2,h2d,h1d,hx,e3,q0,t1V,NF,TE,Nr,RR,PD,bR,jR,ci,e4]
  ·have hl:r.length=0:=by
    have h0:shN bV=0:=by decide
    rw [h0] at hr;omega
   have e4:=iE c x y n bV r hk (.inr (.inl ⟨rfl,hl⟩));have hst:bq c bV ⟨⟨[]⟩⟩ r=kr c bV r:=by
    unfold bq;rw [if_neg h1,if_neg (show ¬uk bV=true by decide)]
   rw [hst];simp -implicitDefEqProofs only [aq,aik,ail,aim,e1',hel,e2,h2d,h1d,hx,e3,q0,t1V,CS,xK,Dm,GP,vb,bR,jR,ci,e4]
  ·have hl:r.length=0:=by
    have h0:shN cH=0:=by decide
    rw [h0] at hr;omega
   have e4:=iE c x y n cH r hk (.inr (.inr (.inl ⟨rfl,hl⟩)));have hst:bq c cH ⟨⟨[]⟩⟩ r=kr c cH r:=by
    unfold bq;rw [if_neg h1,if_neg (show ¬uk cH=true by decide)]
   rw [hst];simp -implicitDefEqProofs only [aq,aik,ail,aim,e1',hel,e2,h2d,h1d,hx,e3,q0,t1V,HV,AM,GI,JZ,xF,bR,jR,ci,e4]
  ·have hl:r.length=3:=by
    have h0:shN eQ=3:=by decide
    rw [h0] at hr;omega
   have e4:=iE c x y n eQ r hk (.inr (.inr (.inr (.inl ⟨rfl,hl⟩))));have hst:bq c eQ ⟨⟨[]⟩⟩ r=kr c eQ r:=by
    unfold bq;rw [if_neg h1,if_neg (show ¬uk eQ=true by decide)]
   rw [hst];simp -implicitDefEqProofs only [aq,aik,ail,aim,e1',hel,e2,h2d,h1d,hx,e3,q0,t1V,KC,Ra,KI,Pk,NP,bR,jR,ci,e4]
  ·have hl:r.length=2:=by
    have h0:shN cF=2:=by decide
    rw [h0] at hr;omega
   have e4:=iE c x y n cF r hk (.inr (.inr (.inr (.inr (.inl ⟨rfl,hl⟩)))));have hst:bq c cF ⟨⟨[]⟩⟩ r=kr c cF r:=by
    unfold bq;rw [if_neg h1,if_neg (show ¬uk cF=true by decide)]
   rw [hst];simp -implicitDefEqProofs only [aq,aik,ail,aim,e1',hel,e2,h2d,h1d,hx,e3,q0,t1V,Ik,AW,Gh,JY,xX,bR,jR,ci,e4]
  ·have hl:r.length=1:=by
    have h0:shN cA=1:=by decide
    rw [h0] at hr;omega
   have e4:=iE c x y n cA r hk (.inr (.inr (.inr (.inr (.inr (.inl ⟨rfl,hl⟩))))));have hst:bq c cA ⟨⟨[]⟩⟩ r=kr c cA r:=by
    unfold bq;rw [if_neg h1,if_neg (show ¬uk cA=true by decide)]
   rw [hst];simp -implicitDefEqProofs only [aq,aik,ail,aim,e1',hel,e2,h2d,h1d,hx,e3,q0,t1V,Hn,zT,FJ,Kn,xB,bR,jR,ci,e4]
  ·have hl:r.length=1:=by
    have h0:shN ep=1:=by decide
    rw [h0] at hr;omega
   have e4:=iE c x y n ep r hk (.inr (.inr (.inr (.inr (.inr (.inr (.inl ⟨rfl,hl⟩)))))));have hst:bq c ep ⟨⟨[]⟩⟩ r=kr c ep r:=by
    unfold bq;rw [if_neg h1,if_neg (show ¬uk ep=true by decide)]
   rw [hst];simp -implicitDefEqProofs only [aq,aik,ail,aim,e1',hel,e2,h2d,h1d,hx,e3,q0,t1V,KG,Qt,Kq,OH,Od,bR,jR,ci,e4]
  ·have hl:r.length=0:=by
    have h0:shN bM=0:=by decide
    rw [h0] at hr;omega
   have e4:=iE c x y n bM r hk (.inr (.inr (.inr (.inr (.inr (.inr (.inr (⟨rfl,hl⟩))))))));have hst:bq c bM ⟨⟨[]⟩⟩ r=kr c bM r:=by
    unfold bq;rw [if_neg h1,if_neg (show ¬uk bM=true by decide)]
   rw [hst];simp -implicitDefEqProofs only [aq,aik,ail,aim,e1',hel,e2,h2d,h1d,hx,e3,q0,t1V,Em,yt,Dn,Gp,vE,bR,jR,ci,e4]
theorem Zu {β:Type} {p:Nat→β→Bool}:∀(l:List β) (s:Nat),(∀(i:Nat) (hi:i<l.length),p (s+i) l[i]=true)→nK p s l=true
 | [],_,_=>rfl
 | x::l,s,h=>by
  simp only [nK,aio];refine⟨h 0 (by simp),Zu l (s+1) fun i hi=>?_⟩
  have:=h (i+1) (by simpa using hi);rwa [show s+(i+1)=s+1+i by omega] at this
theorem adQ {l:List Slp} {n:Nat} (h:cB l=true) (hv:(cY l n).isSome=true):cB (rsS l (ctl l l.length n))=true:=by
 have h':=h;have hok:=agX (fun x hx=>dW h x hx) hv;have h8:=dT h;unfold cB at h' ⊢;simp only [aio,decide_eq_true_eq] at h' ⊢;refine⟨Zu _ 0 fun i hi=>?_,by rw [nw];exact h8⟩
 rw [nw] at hi;have hp:=MD l 0 h'.1 i hi;rw [aiX] at hp ⊢;have hc:∀j,j<l.length→j<(ctl l l.length n).length:=fun j hj=>by rw [rc];exact hj
 have ha:=SW l (ctl l l.length n) i hi (hc i hi);have hoki:=hok _ (ais (show i<(rsS l (ctl l l.length n)).length by rw [nw];exact hi));unfold pS at hp ⊢;simp only [aio] at hp ⊢;refine⟨?_,?_⟩
 ·unfold okS
  simp only [aio,decide_eq_true_eq];exact hoki
 ·rw [ha]
  cases i with
  | zero=>rfl
  | succ i =>
   have hi':i<l.length:=by omega
   have hb:=SW l (ctl l l.length n) i hi' (hc i hi');have e1:(rsS l (ctl l l.length n)).getD (i+1 - 1) (0,0)=(rsS l (ctl l l.length n))[i]'(by rw [nw];exact hi'):=by
    rw [aje,aiG,aiy (by rw [nw];exact hi'),aiT]
   have e2:l.getD (i+1 - 1) (0,0)=l[i]:=by
    rw [aje,aiG,aiy hi',aiT]
   rw [e1,hb];rw [e2] at hp;exact hp.2
theorem ab4 {s:ByteArray} (h:(pSt s).isSome=true):cB (stO (pSt s))=true:=by
 unfold pSt at h ⊢;split at h
 ·rename_i hc
  rw [if_pos hc];exact hc.1
 ·cases h
theorem aeE {s:ByteArray} (h:(pM s).isSome=true):ct (meO (pM s))=true:=by
 obtain⟨ns,hns⟩:=ai4.1 h;obtain⟨h1,h2,-⟩:=YZ hns;rw [hns]
 match ns,h1 with
 | [a,b,c],_=>exact h2
theorem agA {c:Cn} (hk:CnOk c) (w rest:ByteArray):CnOk (OT c w rest).2:=by
 unfold OT;split
 ·split
  ·rename_i h
   exact⟨hk.m,ab4 h,hk.t,hk.j,hk.f⟩
  ·exact hk
 ·split
  ·exact hk
  ·rename_i h
   have hp:ct (meO (pM rest))=true:=aeE (by
    cases hq:(pM rest).isSome
    ·exact absurd hq h
    ·rfl)
   split
   ·split
    ·rename_i hj
     exact⟨yZ hj,hk.s,hk.t,hk.j,hk.f⟩
    ·exact hk
   ·exact⟨hp,hk.s,hk.t,hk.j,hk.f⟩
theorem age {c:Cn} (hk:CnOk c) (w:ByteArray) (r:List Int):CnOk (iw c w r).2:=by
 unfold iw;split
 ·split
  ·exact⟨Bh hk.m,hk.s,hk.t,hk.j,hk.f⟩
  ·exact hk
 split
 ·exact hk
 split
 ·split
  ·rename_i h
   refine⟨hk.m,?_,hk.t,hk.j,hk.f⟩
   have h':=h;unfold rlB at h';simp only [aio] at h';unfold rlV;rw [if_pos h];exact adQ hk.s h'.2
  ·exact hk
 split
 ·split
  ·exact⟨hk.m,Pm,hk.t,hk.j,hk.f⟩
  ·exact hk
 ·exact hk
theorem afd {c:Cn} (hk:CnOk c) (w:ByteArray) (r:List Int):CnOk (kr c w r).2:=by
 unfold kr;split
 ·split
  ·rename_i h
   exact⟨hk.m,hk.s,h,hk.j,hk.f⟩
  ·exact hk
 split
 ·exact hk
 split
 ·exact hk
 split
 ·split
  ·exact⟨hk.m,hk.s,hk.t,Ov _ _,hk.f⟩
  ·exact hk
 split
 ·exact hk
 split
 ·exact hk
 split
 ·split
  ·rename_i h
   refine⟨hk.m,hk.s,hk.t,hk.j,?_,?_⟩
   ·unfold qR at h
    simp only [aio,decide_eq_true_eq] at h;exact h.2
   ·unfold qR at h
    simp only [aio,air,decide_eq_true_eq] at h;intro f hf;have hb:=h.1 f hf;rcases List.mem_append.1 hf with g | g
    ·exact hk.f.2 f g
    ·rw [ajf] at g
     subst g;dsimp only at hb ⊢;exact⟨by omega,rfl⟩
  ·exact hk
 ·exact hk
theorem aeY {c:Cn} (hk:CnOk c) (t:ByteArray):CnOk (dK c t).2:=by
 unfold dK;split
 ·exact hk
 ·unfold bq
  split
  ·exact agA hk _ _
  ·split
   ·exact age hk _ _
   ·exact afd hk _ _
def cn0:Cn:={m:=m0,s:=[],t:=[0],j:=⟨⟨[]⟩⟩,f:=[]}
theorem agu:CnOk cn0:=⟨rfl,rfl,rfl,aiD _,aiD _,fun f hf=>by cases hf⟩
def aS (s:ByteArray):List ByteArray:=(aC 10 s).take ((aC 10 s).length - 1)
def mK (s:ByteArray):Bool:=decide (s.size≤2000)&&(decide (s=⟨⟨[]⟩⟩)||decide ((ac s).getLast?=some 10))
def okC (s:ByteArray):Bool:=mK s&&decide ((aS s).length≤40)
theorem Ot (s:ByteArray) (h:s.size≤1048576):nP [T s]=some (.ret [txs (if mK s=true then aS s else []),B (okC s)] []):=by
 rw [NH];have e1:cg [T s,D.v (aiq IntKind.u8 10)]=some (.ret [txs (aC 10 s)] []):=fT s 10 (by omega);have hne:0<(aC 10 s).length:=by
  rw [ex];exact ajb.2 (ed _ _)
 have hwl:(aC 10 s).length≤1048577:=by
  rw [ex];have h1:=eZ 10 (ac s);have h2:=cX s;omega
 have a3:aip.wrap (((aC 10 s).length:Int) - 1)=(((aC 10 s).length - 1:Nat):Int):=by rw [ah (by omega) (by omega)];omega
 have hx:dl false 1 (txs (aC 10 s)) (D.v (aiq aip 0)) (I (((aC 10 s).length - 1:Nat):Int))=some (txs (aS s)):=by
  have:=mn (z:=1) (l:=(aC 10 s).map T) (i:=0) (j:=(aC 10 s).length - 1) (k:=.i64) (k':=.i64) (aiD _) (by simp);have e:dl false 1 (txs (aC 10 s)) (D.v (aiq aip 0)) (I (((aC 10 s).length - 1:Nat):Int))=_:=this;rw [e];unfold aS;simp [List.map_take]
 have h40:decide (((aS s).length:Int)≤40)=decide ((aS s).length≤40):=by
  by_cases h:(aS s).length≤40
  ·rw [decide_eq_true h,decide_eq_true (by omega)]
  ·rw [decide_eq_false h,decide_eq_false (by omega)]
 unfold okC;by_cases h1:s.size≤2000
 ·have h1':¬(2000:Int)<s.size:=by omega
  by_cases h2:s=⟨⟨[]⟩⟩
  ·have hE:mK s=true:=by
    unfold mK;rw [decide_eq_true h1,decide_eq_true h2];rfl
   have hq:bin BinOp.neq false [] (T s) (D.v (aiL {data:={toList:=[]}}))=some (B false):=by
    rw [ir,h2];rfl
   rw [hE];simp -implicitDefEqProofs only [aq,aik,ail,aim,h1',hq,e1,a3,hx,h40,ai1]
  ·have hq:bin BinOp.neq false [] (T s) (D.v (aiL {data:={toList:=[]}}))=some (B true):=by
    rw [ir,decide_eq_false h2];rfl
   have hlen:0<(ac s).length:=by
    rcases Nat.eq_zero_or_pos (ac s).length with e | e
    ·exfalso
     apply h2;apply bN;rw [aix e];rfl
    ·exact e
   have hsz:s.size=(ac s).length:=rfl;have a4:aip.wrap ((s.size:Int) - 1)=((s.size - 1:Nat):Int):=by rw [ah (by omega) (by omega)];omega
   have hch:hZ (T s) (I ((s.size - 1:Nat):Int))=some (U ((ac s)[s.size - 1]'(by omega)).toNat):=by
    have:=kI (s:=s) (k:=.i64) (i:=s.size - 1);rw [aiy (by omega)] at this;exact this
   have hlast:(ac s).getLast?=some ((ac s)[s.size - 1]'(by omega)):=by
    rw [List.getLast?_eq_getElem?,aiy (by omega)];rfl
   generalize (ac s)[s.size - 1]'(by omega)=v at hch hlast;by_cases hv:v=10
   ·have hE:mK s=true:=by
     unfold mK;rw [hlast,hv,decide_eq_true h1];simp
    have hv':(v.toNat:Int)=10:=by rw [hv];rfl
    rw [hE];simp -implicitDefEqProofs only [aq,aik,ail,aim,h1',hq,a4,hch,hv',e1,a3,hx,h40,ai1,ne_eq,not_true_eq_false]
   ·have hE:mK s=false:=by
     unfold mK;rw [hlast,decide_eq_false h2];simp [hv]
    have hv':¬(v.toNat:Int)=10:=fun e=>hv (UInt8.toNat_inj.1 (by have e2:(10:UInt8).toNat=10:=rfl;omega))
    rw [hE];simp -implicitDefEqProofs only [aq,aik,ail,aim,h1',hq,a4,hch,hv',e1,aiQ,ne_eq,not_false_eq_true];rfl
 ·have h1':(2000:Int)<s.size:=by omega
  have hE:mK s=false:=by
   unfold mK;rw [decide_eq_false h1,aiQ]
  rw [hE];simp -implicitDefEqProofs only [aq,aik,ail,aim,h1',aiQ];rfl
theorem Bu:∀(l:List Slp),(∀x∈l,(1≤x.1∧x.1≤200)∧0≤x.2∧x.2≤20)→(stT l).size≤8*l.length
 | [],_=>aiD _
 | x::l,h=>by
  have ih:=Bu l fun y hy=>h y (by simp [hy])
  have h1:=(HO (h x (by simp))).2.2;simp only [stT,aiz,aiF];omega
theorem rP {n:Int} (h0 : -1000000000000000000<n) (h1:n<1000000000000000000):(aI n).size≤21:=by
 have:=oP (c:=32) (ns:=[n]) (uo fun x hx=>by rw [ajf] at hx;subst hx;exact⟨h0,h1⟩);rw [Jo] at this;simpa using this
theorem ZN {m:Me} (h:ct m=true):(mtT m).size≤57:=by
 have:=wZ (c:=45) (ns:=meL m) fun n hn=>by have:=Nz h n hn;omega
 exact this
theorem acG {f:List Fo} (h:aav f):(YL f).size≤100:=by
 have hl:=EP h.1 h.2;obtain⟨f1,f2,f3,f4,f5,f6,f7⟩:=Ys hl;have hH:=air.1 xh f hl;unfold okH at hH;simp only [aio,decide_eq_true_eq,air] at hH;obtain⟨⟨⟨⟨⟨⟨_,_⟩,h3⟩,h4⟩,h5⟩,h6⟩,h7⟩:=hH;have hlen:=(wW (dm f) (dm f).length (ait _)).1;rw [←Np] at hlen;unfold YL;rw [←SA];have:=EX (szF f).1 (Az f (dm f).length).1 (fun n hn=>by have:=f7 n hn;omega) _ (ait _);omega
theorem BM {c:Cn} (hk:CnOk c) (t:ByteArray):(dK c t).1.size≤1000:=by
 have s2:okT.size=2:=rfl;have s3:noT.size=2:=rfl;have s4:dH.size=4:=rfl;unfold dK;split
 ·exact aiu (aiw s4) (by decide)
 ·unfold bq
  split
  ·unfold OT
   split
   ·split
    ·exact aiu (aiw s2) (by decide)
    ·exact aiu (aiw s3) (by decide)
   ·split
    ·exact aiu (aiw s3) (by decide)
    ·split
     ·split
      ·rename_i hj
       have:=ZN (yZ hj);dsimp only;omega
      ·exact aiu (aiw s3) (by decide)
     ·exact aiu (aiw s2) (by decide)
  ·split
   ·rename_i w rest r _ _ _
    unfold iw;split
    ·split
     ·have:=ZN (Bh (g:=r.getD 0 0) hk.m)
      dsimp only;omega
     ·exact aiu (aiw s3) (by decide)
    split
    ·dsimp only
     split
     ·have hb:∀z∈shR c.m,0≤z∧z≤1000:=by
       unfold shR;split
       ·rename_i h
        exact(Ua h).2.2
       ·contradiction
      have hl3:(shR c.m).length≤3:=by
       unfold shR;split
       ·exact ait 3
       ·contradiction
      have:=oP (c:=32) (ns:=shR c.m) (uo fun z hz=>by have:=hb z hz;omega);omega
     ·exact aiu (aiw s3) (by decide)
    split
    ·split
     ·obtain⟨hv1,hv2⟩:=BQ (n:=r.getD 0 0) hk.s
      have:=oP (c:=32) (ns:=rlV c.s (r.getD 0 0)) (uo fun z hz=>by have:=hv2 z hz;omega);dsimp only;omega
     ·exact aiu (aiw s3) (by decide)
    split
    ·split
     ·have hck:=Pm (l:=c.s) (i:=r.getD 0 0) (n:=r.getD 1 0)
      have:=Bu _ (dW hck);have:=dT hck;dsimp only;omega
     ·exact aiu (aiw s3) (by decide)
    ·dsimp only
     split
     ·have hmb:=Yf (l:=c.s) (n:=r.getD 0 0)
      have:=rP (n:=AB c.s (r.getD 0 0)) (by omega) (by omega);omega
     ·exact aiu (aiw s3) (by decide)
   ·rename_i w rest r _ _ _
    obtain⟨t1,t2,t3⟩:=rJ hk.t;unfold kr;split
    ·split
     ·have:=rP (n:=((c.t.length+1:Nat):Int)) (by omega) (by omega)
      dsimp only;omega
     ·exact aiu (aiw s3) (by decide)
    split
    ·have hb:=XP hk.t
     have:=rP (n:=Fy c.t) (by omega) (by omega);dsimp only;omega
    split
    ·have hb:=TW c.t c.t.length (ait _)
     have hbb:∀z∈[((gn c.t c.t.length).1:Int),((gn c.t c.t.length).2:Int)],-1000000000000000000<z∧z<1000000000000000000:=by
      intro z hz;simp only [ai9,ajj,or_false] at hz;rcases hz with rfl | rfl<;>omega
     have:=oP (c:=32) (ns:=[((gn c.t c.t.length).1:Int),((gn c.t c.t.length).2:Int)]) (uo hbb);dsimp only;simp only [aiF,List.length_nil] at this;omega
    split
    ·split
     ·have hl:=uh (anS c.j (r.getD 0 0,r.getD 1 0,r.getD 2 0)).1
      have:=rP (n:=((jrS (anS c.j (r.getD 0 0,r.getD 1 0,r.getD 2 0)).1).1.length:Int)) (by omega) (by omega);dsimp only;omega
     ·exact aiu (aiw s3) (by decide)
    split
    ·dsimp only
     split
     ·rename_i hq
      have hb:=Uc (l:=(jrS c.j).1) (s:=r.getD 0 0) (d:=r.getD 1 0);rw [if_pos hq] at hb;have:=rP (n:=bE (jrS c.j).1 (r.getD 0 0) (r.getD 1 0)) (by omega) (by omega);omega
     ·exact aiu (aiw s3) (by decide)
    split
    ·dsimp only
     split
     ·have hb:=Tg (l:=(jrS c.j).1) (s:=r.getD 0 0)
      have:=rP (n:=(gG (jrS c.j).1 (r.getD 0 0)).1) (by omega) (by omega);omega
     ·exact aiu (aiw s3) (by decide)
    split
    ·split
     ·have h4:=hk.f.1
      have:=rP (n:=((c.f.length+1:Nat):Int)) (by omega) (by omega);dsimp only;omega
     ·exact aiu (aiw s3) (by decide)
    ·have:=acG hk.f
     dsimp only;omega
structure Rn where
 c:Cn
 out:ByteArray
 no:List Int
 wh:List Int
def od (a:Rn) (i:Nat) (l:ByteArray):Rn :=
 {c:=(dK a.c l).2,out:=a.out++((dK a.c l).1++⟨⟨[10]⟩⟩),no:=if (dK a.c l).1=noT then a.no++[((i+1:Nat):Int)] else a.no,
  wh:=if (dK a.c l).1=dH then a.wh++[((i+1:Nat):Int)] else a.wh}
def dq (L:List ByteArray):Nat→Rn
 | 0=>{c:=cn0,out:=⟨⟨[]⟩⟩,no:=[],wh:=[]}
 | i+1=>od (dq L i) i (L.getD i ⟨⟨[]⟩⟩)
theorem wM (L:List ByteArray):∀i,CnOk (dq L i).c∧(dq L i).out.size≤1001*i∧(dq L i).no.length≤i∧(dq L i).wh.length≤i
 | 0=>⟨agu,aiD _,aiD _,aiD _⟩
 | i+1=>by
  obtain⟨h1,h2,h3,h4⟩:=wM L i;have hs:=BM h1 (L.getD i ⟨⟨[]⟩⟩);refine⟨aeY h1 _,?_,?_,?_⟩
  ·show((dq L i).out++((dK (dq L i).c (L.getD i ⟨⟨[]⟩⟩)).1++⟨⟨[10]⟩⟩)).size≤_
   rw [aiz,aiz,JH];omega
  ·show(if _ then _ else _:List Int).length≤_
   split
   ·simp;omega
   ·omega
  ·show(if _ then _ else _:List Int).length≤_
   split
   ·simp;omega
   ·omega
open Go Go.V Go.RowKit Go.Shelf
def cnL (c:Cn) (x y:Value) (n:Int):List D:=[I c.m.1,I c.m.2.1,I c.m.2.2,sls c.s,ai c.t,T c.j,fos c.f,.raw x,.raw y,I n]
theorem afz {w:World} {F:Nat→Prop} {own:Nat→Prop} {c:Cn} {x y:Value} {n:Int} {b t:Nat} {us:List Value} (hk:w.heap[b]?=some (.cells us.toArray t (0,0))) (hr:cm w F (cnL c x y n) us) (ho:own b) :
  HH w F own 10 (cnD c x y n) (.pointer (some ⟨b,0,none⟩)):=⟨cnL c x y n,us,b,t,rfl,rfl,hk,hr,rfl,rfl,ho⟩
structure LineL (w w':World) (F F':Nat→Prop) (b:Nat) (c:Cn) (x y:Value) (us:List Value) (t:Nat):Prop where
 os:w'.os=w.os
 tape:w'.tape=w.tape
 output:w'.output=w.output
 size:w.heap.size≤w'.heap.size
 keep:∀k,k<w.heap.size→k≠b→w'.heap[k]?=w.heap[k]?
 f0:∀k,F k→F' k
 fn:∀k,F' k→(F k∨w.heap.size≤k)∧k<w'.heap.size
 box:w'.heap[b]?=some (.cells us.toArray t (0,0))
 rep:cm w' F' (cnL c x y 0) us
theorem aa7 {w:World} {F:Nat→Prop} {b t:Nat} {us:List Value} {c:Cn} {x y:Value} (hF:∀k,F k→k<w.heap.size∧k≠b) (hgl:gOk gl0 w F) (hk:w.heap[b]?=some (.cells us.toArray t (0,0))) (hr:cm w F (cnL c x y 0) us) (hc:CnOk c) (s:ByteArray) (hs:s.size≤1000000) :
  Calls Tryz.prog 57 #[.pointer (some ⟨b,0,none⟩),.string s] w fun e w'=>e = .returned (.string (dK c s).1)∧∃F' us' t',LineL w w' F F' b (dK c s).2 x y us' t':=by
 have hb:b<w.heap.size:=(aiN.1 hk).1;have he:=Wr c x y 0 s hc hs;have ha:fC w F (fun k=>if k=b then some 0 else none) 0 qC.pm [cnD c x y 0,T s] (#[Value.pointer (some ⟨b,0,none⟩),.string s]:Array Value).toList :=
  show eP w F (fun g=>(if g=b then some 0 else none)=some 0) (.box 10 2 true) (cnD c x y 0) (.pointer (some ⟨b,0,none⟩))∧eP w F _ (.dat 0) (T s) (.string s)∧True from
   ⟨.inr (afz hk hr (by simp)),.inr (ce.2 ⟨rfl,rfl⟩),trivial⟩
 refine(mc (aiY Tryz.func57 (by kernel_rfl) rfl) Cw he hgl ha (fun k hk'=>⟨(hF k hk').1,if_neg (hF k hk').2⟩) (fun k i h=>by
  split at h
  ·rename_i e
   rw [e];exact hb
  ·cases h)).mono ?_
 rintro e w' ⟨v,rfl,F',R,vs,rfl,hpost⟩;have hl:=hpost.len
 match vs,hl with
 | [y0],hl =>
  have r0:=(hpost.res 0).resolve_left (by intro h;cases h);replace r0:bP w' _ (T (dK c s).1) y0:=r0;obtain⟨rfl,-⟩:=ce.1 r0;refine⟨rfl,?_⟩
  have hu:=hpost.us;replace hu:cnD (dK c s).2 x y 0 ≠ .bad∧eP w' F' (fun _=>True) (.box 10 2 true) (cnD (dK c s).2 x y 0) (.pointer (some ⟨b,0,none⟩))∧True:=hu;have hbx:=hu.2.1.resolve_left hu.1;replace hbx:HH w' F' (fun _=>True) 10 (cnD (dK c s).2 x y 0) (.pointer (some ⟨b,0,none⟩)):=hbx;obtain⟨l,us',g,t',h1,h2,h3,h4,h5,h6,-⟩:=hbx;cases h1;cases h2;exact⟨F',us',t',⟨hpost.os,hpost.tape,hpost.output,hpost.size,fun k hk' hne=>hpost.keep k hk' (if_neg hne),hpost.f0,fun k hk'=>⟨(hpost.fn k hk').1,(hpost.fn k hk').2.1⟩,h3,h4⟩⟩
theorem Ny {w:World} {F:Nat→Prop} (hF:∀b,F b→b<w.heap.size) (hgl:gOk gl0 w F) (s:ByteArray) (hs:s.size≤1048576) :
  Calls Tryz.prog 55 #[.string s] w fun e w'=>Below w.heap.size w w'∧∃A c,e = .returned (.tuple #[.slice A (if mK s=true then aS s else []).length c,.bool (okC s)]) ∧
   ((if mK s=true then aS s else [])≠[]→∃b o,A=some ⟨b,o,none⟩∧b<w'.heap.size∧w.heap.size≤b∧∀(i:Nat) (x:ByteArray),(if mK s=true then aS s else [])[i]?=some x→w'.cell? ⟨b,o+i,none⟩=some (.string x)):=by
 refine(oD (aiY Tryz.func55 (by kernel_rfl) rfl) NX nP rfl (Ot s hs) (args:=#[.string s]) hgl (show eP w F _ (.dat 0) (T s) (.string s)∧True from⟨.inr (ce.2 ⟨rfl,rfl⟩),trivial⟩) hF).mono ?_
 rintro e w' ⟨hB,F',R,vs,rfl,hpost⟩;refine⟨hB,?_⟩
 generalize (if mK s=true then aS s else [])=L at *;have hl:=hpost.len
 match vs,hl with
 | [y0,y1],hl =>
  have r0:=(hpost.res 0).resolve_left (by intro h;cases h);have r1:=(hpost.res 1).resolve_left (by intro h;cases h);replace r0:bP w' _ (txs L) y0:=r0;replace r1:bP w' _ (B (okC s)) y1:=r1;obtain⟨rfl,-⟩:=ce.1 r1;obtain⟨A,c,us,h1,h2,h3,h4,h5⟩:=qd r0;have hus:∀(l:List ByteArray) (us:List Value) (G:Nat→Prop),cm w' G (l.map T) us→us=l.map aiL:=by
   intro l;induction l with
   | nil=>intro us G h;exact aW.1 h
   | cons x l ih =>
    intro us G h;obtain⟨v1,v2,rfl,q1,q2⟩:=au.1 h;simp only [RepC] at q1;rw [ih v2 G q2,q1.1];rfl
  rw [hus _ _ _ h3] at h5;rw [aiE] at h1;refine⟨A,c,by rw [h1];rfl,fun hne=>?_⟩
  obtain⟨b,o,h6,h7,h8⟩:=h5 (by simpa using hne);exact⟨b,o,h6,(hpost.fn b h7.1).2.1,h7.2,fun i x hx=>h8 i _ (by rw [List.getElem?_map,hx];rfl)⟩
abbrev us0 (b:Nat):List Value:=[.int .i64 0,.int .i64 0,.int .i64 0,.slice none 0 0,.slice (some ⟨b,0,none⟩) 1 1,.string ⟨#[]⟩,.slice none 0 0,.slice none 0 0,.slice none 0 0,.int .i64 0]
abbrev wS (w:World):World:=(w.alloc (.cells #[.int .i64 0] 3)).alloc (.cells (us0 w.heap.size).toArray 59)
set_option maxHeartbeats 4000000 in
set_option maxRecDepth 1000000 in
theorem Ns (w:World):Calls Tryz.prog 56 #[] w fun e w'=>e = .returned (.pointer (some ⟨w.heap.size+1,0,none⟩))∧w'=wS w:=by
 go_enter Tryz.func56,Tryz.ntmps56
 go_wp2
 go_ret
 exact⟨rfl,rfl⟩
theorem NB {w:World} {F:Nat→Prop} {c:Cn} {x y:Value} {n:Int} {us:List Value} (h:cm w F (cnL c x y n) us) :
  ∃sV tV fV,us=[.int .i64 c.m.1,.int .i64 c.m.2.1,.int .i64 c.m.2.2,sV,tV,.string c.j,fV,x,y,.int .i64 n]∧RepC w F (sls c.s) [sV]∧RepC w F (ai c.t) [tV]∧RepC w F (fos c.f) [fV]∧(∃A k d,x = .slice A k d)∧∃A k d,y = .slice A k d:=by
 unfold cnL at h;obtain⟨v0,r0,rfl,g0,h⟩:=au.1 h;obtain⟨v1,r1,rfl,g1,h⟩:=au.1 h;obtain⟨v2,r2,rfl,g2,h⟩:=au.1 h;obtain⟨v3,r3,rfl,g3,h⟩:=au.1 h;obtain⟨v4,r4,rfl,g4,h⟩:=au.1 h;obtain⟨v5,r5,rfl,g5,h⟩:=au.1 h;obtain⟨v6,r6,rfl,g6,h⟩:=au.1 h;obtain⟨v7,r7,rfl,g7,h⟩:=au.1 h;obtain⟨v8,r8,rfl,g8,h⟩:=au.1 h;obtain⟨v9,r9,rfl,g9,h⟩:=au.1 h;obtain rfl:=aW.1 h;obtain⟨sV,rfl,-⟩:=lB _ _ rfl g3;obtain⟨tV,rfl,-⟩:=lB _ _ rfl g4;obtain⟨fV,rfl,-⟩:=lB _ _ rfl g6;simp only [RepC] at g0 g1 g2 g5 g7 g8 g9;obtain⟨rfl,-⟩:=g0;obtain⟨rfl,-⟩:=g1;obtain⟨rfl,-⟩:=g2;obtain⟨rfl,-⟩:=g5;obtain⟨rfl,g7⟩:=g7;obtain⟨rfl,g8⟩:=g8;obtain⟨rfl,-⟩:=g9;exact⟨sV,tV,fV,rfl,g3,g4,g6,g7,g8⟩
theorem YS {w:World} {F:Nat→Prop} {c:Cn} {x y:Value} {n:Int} {sV tV fV:Value} (h3:RepC w F (sls c.s) [sV]) (h4:RepC w F (ai c.t) [tV]) (h6:RepC w F (fos c.f) [fV]) (hx:∃A k d,x = .slice A k d) (hy:∃A k d,y = .slice A k d) :
  cm w F (cnL c x y n) [.int .i64 c.m.1,.int .i64 c.m.2.1,.int .i64 c.m.2.2,sV,tV,.string c.j,fV,x,y,.int .i64 n]:=by
 unfold cnL;refine au.2 ⟨[_],_,rfl,lh rfl,au.2 ⟨[_],_,rfl,lh rfl,au.2 ⟨[_],_,rfl,lh rfl,au.2 ⟨[_],_,rfl,h3,au.2 ⟨[_],_,rfl,h4,au.2 ⟨[_],_,rfl,lh rfl,au.2 ⟨[_],_,rfl,h6,au.2 ⟨[_],_,rfl,?_,au.2 ⟨[_],_,rfl,?_,au.2 ⟨[_],[],rfl,lh rfl,aW.2 rfl⟩⟩⟩⟩⟩⟩⟩⟩⟩⟩
 ·simp only [RepC]
  exact⟨trivial,hx⟩
 ·simp only [RepC]
  exact⟨trivial,hy⟩
structure RunI (w W2 wr:World) (F F':Nat→Prop) (a:Rn) (us:List Value) (t:Nat) (nv wv:Value):Prop where
 bx:wr.heap[w.heap.size+1]?=some (.cells us.toArray t (0,0))
 rep:cm wr F' (cnL a.c nv wv 0) us
 f0:∀k,F k→F' k
 fn:∀k,F' k→(F k∨w.heap.size≤k)∧k<wr.heap.size∧k≠w.heap.size+1∧nv.ownBlock≠some k∧wv.ownBlock≠some k
 no:wr.ownsRow W2.heap.size 3 1 nv a.no.length (a.no.map (aiq .i64))
 wh:wr.ownsRow W2.heap.size 3 1 wv a.wh.length (a.wh.map (aiq .i64))
 ap:∀k,nv.ownBlock=some k→wv.ownBlock≠some k
 bl:Below w.heap.size w wr
 sz:W2.heap.size≤wr.heap.size
 old:∀k,k<W2.heap.size→k≠w.heap.size+1→wr.heap[k]?=W2.heap[k]?
theorem wD {W:World} {base e size n:Nat} {v:Value} {xs:List Value} (h:W.ownsRow base e size v n xs) {k:Nat} (hk:v.ownBlock=some k):k<W.heap.size:=by
 obtain⟨_,⟨rfl,_⟩ | ⟨g,cap,cur,rfl,hge,hg,_⟩⟩:=h
 ·simp [ajp] at hk
 ·simp only [ajp,aiJ] at hk
  subst hk;exact(aiN.1 hg).1
theorem sH {W W':World} {base e size n:Nat} {v:Value} {xs:List Value} (h:W.ownsRow base e size v n xs) (hk:∀k,v.ownBlock=some k→W'.heap[k]?=W.heap[k]?):W'.ownsRow base e size v n xs:=by
 obtain⟨h1,h2 | ⟨g,cap,cur,rfl,h3,h4,r⟩⟩:=h
 ·exact⟨h1,.inl h2⟩
 ·exact⟨h1,.inr ⟨g,cap,cur,rfl,h3,(hk g rfl).trans h4,r⟩⟩
theorem aaC {w W2 wr wr':World} {F F' F2:Nat→Prop} {a:Rn} {us us2:List Value} {t t2:Nat} {nv wv:Value} {l:ByteArray} (h:RunI w W2 wr F F' a us t nv wv) (hb2:w.heap.size+1<W2.heap.size) (hl:LineL wr wr' F' F2 (w.heap.size+1) (dK a.c l).2 nv wv us2 t2) :
  RunI w W2 wr' F F2 {a with c:=(dK a.c l).2} us2 t2 nv wv:=by
 have hkn:∀k,nv.ownBlock=some k→wr'.heap[k]?=wr.heap[k]?:=fun k hk=>hl.keep k (wD h.no hk) (by have:=ib h.no hk;omega)
 have hkw:∀k,wv.ownBlock=some k→wr'.heap[k]?=wr.heap[k]?:=fun k hk=>hl.keep k (wD h.wh hk) (by have:=ib h.wh hk;omega)
 refine⟨hl.box,hl.rep,fun k hk=>hl.f0 k (h.f0 k hk),fun k hk=>?_,sH h.no hkn,sH h.wh hkw,h.ap,?_,aiu h.sz hl.size,fun k hk hne=>(hl.keep k (aiP hk h.sz) hne).trans (h.old k hk hne)⟩
 ·obtain⟨h1,h2⟩:=hl.fn k hk
  have hsz:=h.sz;have hws:=h.bl.size;rcases h1 with h1 | h1
  ·obtain⟨g1,g2,g3,g4,g5⟩:=h.fn k h1
   exact⟨g1,h2,g3,g4,g5⟩
  ·refine⟨.inr (by omega),h2,by omega,fun e=>?_,fun e=>?_⟩
   ·have:=wD h.no e
    omega
   ·have:=wD h.wh e
    omega
 ·exact h.bl.trans ⟨hl.os,hl.tape,hl.output,hl.size,fun k hk=>hl.keep k (by have:=h.bl.size;omega) (by omega)⟩
theorem aeG {w W2 wr w2:World} {F F':Nat→Prop} {a:Rn} {us:List Value} {t:Nat} {nv wv v':Value} {o:Obj} {z:Int} (h:RunI w W2 wr F F' a us t nv wv) (hb2:w.heap.size+1<W2.heap.size)
  (hown:w2.ownsRow W2.heap.size 3 1 v' (a.no.length+1) (a.no.map (aiq .i64)++[.int .i64 z])) (hgrow:(wr.alloc o).grownBy w2 nv.ownBlock) (hat:v'.ownBlock=nv.ownBlock∨v'.ownBlock=some (wr.alloc o).heap.size) :
  ∃us' t',RunI w W2 (w2.setCell ⟨w.heap.size+1,7,none⟩ v') F F' {a with no:=a.no++[z]} us' t' v' wv:=by
 obtain⟨g',cap',rfl⟩:=oO hown;have hsza:(wr.alloc o).heap.size=wr.heap.size+1:=by simp
 have hbox:w2.heap[w.heap.size+1]?=_:=eT h.bx hgrow (fun e=>by have:=ib h.no e;omega);obtain⟨sV,tV,fV,rfl,r3,r4,r6,r7,r8⟩:=NB h.rep;have hset:=heap_setCell_same _ (w.heap.size+1) 7 _ _ (.slice (some ⟨g',0,none⟩) (a.no.length+1) cap') hbox;have hkeep:∀k,k<wr.heap.size→k≠w.heap.size+1→nv.ownBlock≠some k→(w2.setCell ⟨w.heap.size+1,7,none⟩ (.slice (some ⟨g',0,none⟩) (a.no.length+1) cap')).heap[k]?=wr.heap[k]?:=by
  intro k hk hne hn;rw [heap_setCell_other _ _ _ _ (by simpa using hne)];rw [hgrow.block k (by omega) (fun e=>hn e.symm)];exact heap_alloc_old wr o hk
 have hmono:∀k,F' k→(w2.setCell ⟨w.heap.size+1,7,none⟩ (.slice (some ⟨g',0,none⟩) (a.no.length+1) cap')).heap[k]?=wr.heap[k]?:=fun k hk=>by
  obtain⟨-,g2,g3,g4,g5⟩:=h.fn k hk;exact hkeep k g2 g3 g4
 have hsz2:wr.heap.size+1≤w2.heap.size:=by have:=hgrow.size;omega
 have hszs:(w2.setCell ⟨w.heap.size+1,7,none⟩ (.slice (some ⟨g',0,none⟩) (a.no.length+1) cap')).heap.size=w2.heap.size:=by simp [aja]
 have hg:(ai7 (some ⟨g',0,none⟩) (a.no.length+1) cap').ownBlock=some g':=rfl;have hgn:g'≠w.heap.size+1:=fun e=>by
  have:=ib hown hg;omega
 have hws:=h.bl.size;have hRz:=h.sz;refine⟨_,_,⟨hset,YS (RepC_mono (fun _ h=>h) hmono _ _ r3) (RepC_mono (fun _ h=>h) hmono _ _ r4) (RepC_mono (fun _ h=>h) hmono _ _ r6) ⟨_,_,_,rfl⟩ r8,h.f0,fun k hk=>?_,?_,?_,?_,?_,by rw [hszs];omega,fun k hk hne=>(hkeep k (by omega) hne (fun e=>by have:=ib h.no e;omega)).trans (h.old k hk hne)⟩⟩
 ·obtain⟨g1,g2,g3,g4,g5⟩:=h.fn k hk
  have hnew:(ai7 (some ⟨g',0,none⟩) (a.no.length+1) cap').ownBlock≠some k:=fun e=>by
   rcases hat with e2 | e2
   ·rw [e2] at e
    exact g4 e
   ·rw [e2] at e
    simp only [aiJ] at e;omega
  exact⟨g1,by rw [hszs];omega,g3,hnew,g5⟩
 ·have e:({a with no:=a.no++[z]}:Rn).no.length=a.no.length+1:=by simp
  have e2:({a with no:=a.no++[z]}:Rn).no.map (aiq .i64)=a.no.map (aiq .i64)++[.int .i64 z]:=by simp
  rw [e,e2];exact sH hown fun k hk=>heap_setCell_other _ _ _ _ (by
   rw [hg] at hk;cases hk;simpa using hgn)
 ·exact sH h.wh fun k hk=>hkeep k (wD h.wh hk) (by have:=ib h.wh hk;omega) (fun e=>h.ap k e hk)
 ·intro k hk
  rcases hat with e2 | e2
  ·rw [e2] at hk
   exact h.ap k hk
  ·rw [e2] at hk
   simp only [aiJ] at hk;intro e;have:=wD h.wh e;omega
 ·have b1:Below w.heap.size w w2:=(h.bl.alloc h.bl.size o).grown hgrow (by omega) (fun j hj=>by have:=ib h.no hj;omega)
  exact b1.setCell (by simp) _
theorem aff {w W2 wr w2:World} {F F':Nat→Prop} {a:Rn} {us:List Value} {t:Nat} {nv wv v':Value} {o:Obj} {z:Int} (h:RunI w W2 wr F F' a us t nv wv) (hb2:w.heap.size+1<W2.heap.size)
  (hown:w2.ownsRow W2.heap.size 3 1 v' (a.wh.length+1) (a.wh.map (aiq .i64)++[.int .i64 z])) (hgrow:(wr.alloc o).grownBy w2 wv.ownBlock) (hat:v'.ownBlock=wv.ownBlock∨v'.ownBlock=some (wr.alloc o).heap.size) :
  ∃us' t',RunI w W2 (w2.setCell ⟨w.heap.size+1,8,none⟩ v') F F' {a with wh:=a.wh++[z]} us' t' nv v':=by
 obtain⟨g',cap',rfl⟩:=oO hown;have hsza:(wr.alloc o).heap.size=wr.heap.size+1:=by simp
 have hbox:w2.heap[w.heap.size+1]?=_:=eT h.bx hgrow (fun e=>by have:=ib h.wh e;omega);obtain⟨sV,tV,fV,rfl,r3,r4,r6,r7,r8⟩:=NB h.rep;have hset:=heap_setCell_same _ (w.heap.size+1) 8 _ _ (.slice (some ⟨g',0,none⟩) (a.wh.length+1) cap') hbox;have hkeep:∀k,k<wr.heap.size→k≠w.heap.size+1→wv.ownBlock≠some k→(w2.setCell ⟨w.heap.size+1,8,none⟩ (.slice (some ⟨g',0,none⟩) (a.wh.length+1) cap')).heap[k]?=wr.heap[k]?:=by
  intro k hk hne hn;rw [heap_setCell_other _ _ _ _ (by simpa using hne)];rw [hgrow.block k (by omega) (fun e=>hn e.symm)];exact heap_alloc_old wr o hk
 have hmono:∀k,F' k→(w2.setCell ⟨w.heap.size+1,8,none⟩ (.slice (some ⟨g',0,none⟩) (a.wh.length+1) cap')).heap[k]?=wr.heap[k]?:=fun k hk=>by
  obtain⟨-,g2,g3,g4,g5⟩:=h.fn k hk;exact hkeep k g2 g3 g5
 have hsz2:wr.heap.size+1≤w2.heap.size:=by have:=hgrow.size;omega
 have hszs:(w2.setCell ⟨w.heap.size+1,8,none⟩ (.slice (some ⟨g',0,none⟩) (a.wh.length+1) cap')).heap.size=w2.heap.size:=by simp [aja]
 have hg:(ai7 (some ⟨g',0,none⟩) (a.wh.length+1) cap').ownBlock=some g':=rfl;have hgn:g'≠w.heap.size+1:=fun e=>by
  have:=ib hown hg;omega
 have hws:=h.bl.size;have hRz:=h.sz;refine⟨_,_,⟨hset,YS (RepC_mono (fun _ h=>h) hmono _ _ r3) (RepC_mono (fun _ h=>h) hmono _ _ r4) (RepC_mono (fun _ h=>h) hmono _ _ r6) r7 ⟨_,_,_,rfl⟩,h.f0,fun k hk=>?_,?_,?_,?_,?_,by rw [hszs];omega,fun k hk hne=>(hkeep k (by omega) hne (fun e=>by have:=ib h.wh e;omega)).trans (h.old k hk hne)⟩⟩
 ·obtain⟨g1,g2,g3,g4,g5⟩:=h.fn k hk
  have hnew:(ai7 (some ⟨g',0,none⟩) (a.wh.length+1) cap').ownBlock≠some k:=fun e=>by
   rcases hat with e2 | e2
   ·rw [e2] at e
    exact g5 e
   ·rw [e2] at e
    simp only [aiJ] at e;omega
  exact⟨g1,by rw [hszs];omega,g3,g4,hnew⟩
 ·exact sH h.no fun k hk=>hkeep k (wD h.no hk) (by have:=ib h.no hk;omega) (fun e=>h.ap k hk e)
 ·have e:({a with wh:=a.wh++[z]}:Rn).wh.length=a.wh.length+1:=by simp
  have e2:({a with wh:=a.wh++[z]}:Rn).wh.map (aiq .i64)=a.wh.map (aiq .i64)++[.int .i64 z]:=by simp
  rw [e,e2];exact sH hown fun k hk=>heap_setCell_other _ _ _ _ (by
   rw [hg] at hk;cases hk;simpa using hgn)
 ·intro k hk
  rcases hat with e2 | e2
  ·intro e
   rw [e2] at e;exact h.ap k hk e
  ·intro e
   rw [e2] at e;simp only [aiJ] at e;have:=wD h.no hk;omega
 ·have b1:Below w.heap.size w w2:=(h.bl.alloc h.bl.size o).grown hgrow (by omega) (fun j hj=>by have:=ib h.wh hj;omega)
  exact b1.setCell (by simp) _
theorem EV {w W2 wr:World} {F F':Nat→Prop} {a a':Rn} {us:List Value} {t:Nat} {nv wv:Value} (h:RunI w W2 wr F F' a us t nv wv) (h1:a'.c=a.c) (h2:a'.no=a.no) (h3:a'.wh=a.wh):RunI w W2 wr F F' a' us t nv wv:=by
 obtain⟨p1,p2,p3,p4,p5,p6,p7,p8,p9,p10⟩:=h;exact⟨p1,by rw [h1];exact p2,p3,p4,by rw [h2];exact p5,by rw [h3];exact p6,p7,p8,p9,p10⟩
theorem aeT:noT.toList=[110,111]:=by
 rw [show noT.toList=noT.data.toList from by simp [ajc]]
theorem aaj:dH.toList=[119,104,97,116]:=by
 rw [show dH.toList=dH.data.toList from by simp [ajc]]
theorem ahQ {r:ByteArray}:(r.toList==[110,111])=decide (r=noT):=by
 rw [←aeT];by_cases h:r=noT
 ·rw [h,decide_eq_true rfl];simp
 ·rw [decide_eq_false h,beq_eq_false_iff_ne]
  exact fun e=>h (sv e)
theorem afu {r:ByteArray}:(r.toList==[119,104,97,116])=decide (r=dH):=by
 rw [←aaj];by_cases h:r=dH
 ·rw [h,decide_eq_true rfl];simp
 ·rw [decide_eq_false h,beq_eq_false_iff_ne]
  exact fun e=>h (sv e)
set_option maxHeartbeats 4000000 in
set_option maxRecDepth 1000000 in
theorem Yy (s:ByteArray) (hs:s.size≤1048576) (w:World) (F:Nat→Prop) (hF:∀b,F b→b<w.heap.size) (hgl:gOk gl0 w F) (hok:okC s=true) :
  Calls Tryz.prog 41 #[.string s] w fun e w'=>∃W2 wr F' us t nv wv,w.heap.size+1<W2.heap.size∧RunI w W2 wr F F' (dq (aS s) (aS s).length) us t nv wv∧w'=wr.setCell ⟨w.heap.size+1,9,none⟩ (.int .i64 (aS s).length) ∧
   e = .returned (.tuple #[.pointer (some ⟨w.heap.size+1,0,none⟩),.string (dq (aS s) (aS s).length).out,.bool true]):=by
 have hok':=hok;unfold okC at hok';simp only [aio,decide_eq_true_eq] at hok';obtain⟨hE,h40⟩:=hok';have hE':=hE;unfold mK at hE';simp only [aio,decide_eq_true_eq] at hE';have hLz:∀l∈aS s,l.size≤1000000:=fun l hl=>by
  have:=fI 10 s l (List.mem_of_mem_take hl);omega
 have b1:Below w.heap.size w (wS w):=((ajn _ w).alloc (ait _) _).alloc (by simp) _;have hszS:(wS w).heap.size=w.heap.size+2:=by simp
 have k0:(wS w).heap[w.heap.size]?=some (.cells #[.int .i64 0] 3 (0,0)):=(heap_alloc_old _ _ (by simp)).trans (heap_alloc_new w _);have k1:(wS w).heap[w.heap.size+1]?=some (.cells (us0 w.heap.size).toArray 59 (0,0)):=by
  have:=heap_alloc_new (w.alloc (.cells #[.int .i64 0] 3)) (.cells (us0 w.heap.size).toArray 59);simpa using this
 have hst:=Ns w;have hc1:=Ny (w:=wS w) (F:=F) (fun b hb=>aiP (hF b hb) b1.size) (iv (fun _ h=>h) (fun b hb=>b1.block b (hF b hb)) hgl) s hs;simp only [hE,hok,if_true] at hc1;generalize aS s=L at *;generalize hW1:wS w=W1 at *
 go_enter Tryz.func41,Tryz.ntmps41
 go_wp2_with (go_at_call 56;refine hst.mono ?_)
 rintro e _ ⟨rfl,rfl⟩
 go_wp2_with (go_at_call 55;refine hc1.mono ?_)
 rintro e W2 ⟨b2,A,c,rfl,hA⟩;have hB2:=b1.trans (b2.mono b1.size);have k0:=(b2.block _ (by omega)).trans k0;have k1:=(b2.block _ (by omega)).trans k1;have hb2:w.heap.size+1<W2.heap.size:=by have:=b2.size;omega
 have hAA:∀(i:Nat) (h:i<L.length),∃b o,A=some ⟨b,o,none⟩∧b<W2.heap.size∧b≠w.heap.size+1∧W2.cell? ⟨b,o+i,none⟩=some (.string L[i]):=fun i h=>by
  obtain⟨b,o,h1,h2,h3,h4⟩:=hA (fun e=>by rw [e] at h;simp at h);exact⟨b,o,h1,h2,by omega,h4 i _ (aiy h)⟩
 clear hA hc1 hst
 go_wp2
 go_loopw [8,23] (fun v8 v23 wr=>∃(i:Nat) (F':Nat→Prop) (us:List Value) (t:Nat) (nv wv:Value),v8 = .string (dq L i).out∧v23 = .int .i64 i∧i≤L.length∧RunI w W2 wr F F' (dq L i) us t nv wv) (fun v8 v23 wr=>L.length - (match v23 with | .int _ n=>n.toNat | _=>0))
 case atStart =>
  refine⟨0,fun k=>F k∨k=w.heap.size,us0 w.heap.size,59,.slice none 0 0,.slice none 0 0,rfl,rfl,aiD _,⟨k1,?_,fun k hk=>.inl hk,fun k hk=>?_,ajh _ _ _ _,ajh _ _ _ _,(fun k hk=>by cases hk),hB2,ait _,fun k hk _=>rfl⟩⟩
  ·refine YS (c:=cn0) lK ?_ lK ⟨_,_,_,rfl⟩ ⟨_,_,_,rfl⟩
   simp only [RepC];refine⟨some ⟨w.heap.size,0,none⟩,1,[.int .i64 0],rfl,ait _,oq [0],fun d hd=>?_,fun _=>⟨_,_,rfl,.inr rfl,fun j u hu=>?_⟩⟩
   ·obtain⟨n,_,rfl⟩:=ajg.1 hd
    rfl
   ·rw [aiB k0,aiX]
    simpa using hu
  ·rcases hk with hk | rfl
   ·have:=hF k hk
    exact⟨.inl hk,by omega,by omega,(fun e=>by cases e),(fun e=>by cases e)⟩
   ·exact⟨.inr (ait _),by omega,by omega,(fun e=>by cases e),(fun e=>by cases e)⟩
 case round =>
  obtain⟨i,F',us,t,nv,wv,rfl,rfl,hi,RI⟩:=hrel;obtain⟨ro1,ro2,ro3,ro4⟩:=wM L i;by_cases hp:i<L.length
  ·have hpi:(i:Int)<(L.length:Int):=by omega
   obtain⟨b,o,rfl,hbz,hbn,hcell⟩:=hAA i hp;have cw:wr.cell? ⟨b,o+i,none⟩=some (.string L[i]):=(World.cell?_of_block (RI.old b hbz hbn)).trans hcell;have hcl:=aa7 (b:=w.heap.size+1) (fun k hk=>⟨(RI.fn k hk).2.1,(RI.fn k hk).2.2.1⟩) (iv RI.f0 (fun k hk=>RI.bl.block k (hF k hk)) hgl) RI.bx RI.rep ro1 L[i] (hLz _ (ais hp));have hrun:dq L (i+1)=od (dq L i) i L[i]:=by
    show od (dq L i) i (L.getD i ⟨⟨[]⟩⟩)=_
    simp [hp]
   have hrz:=BM ro1 L[i]
   go_wp2_with (go_at_call 57;refine hcl.mono ?_)
   rintro e W3 ⟨rfl,F2,us2,t2,hl⟩;have RI2:=aaC RI hb2 hl;obtain⟨i0,hi0,hz0,hz1,hz2⟩:=info_parts Vx;have hno1:W3.ownsRow W2.heap.size 3 1 nv (dq L i).no.length ((dq L i).no.map (aiq .i64)):=RI2.no;have hwh1:W3.ownsRow W2.heap.size 3 1 wv (dq L i).wh.length ((dq L i).wh.map (aiq .i64)):=RI2.wh;obtain⟨nA,nn,nc,rfl⟩:=MK hno1;obtain⟨wA,wn,wc,rfl⟩:=MK hwh1;have hsz3:=RI2.sz;obtain⟨sV,tV,fV,hus,r3,r4,r6,r7,r8⟩:=NB RI2.rep;have c7:W3.cell? ⟨w.heap.size+1,7,none⟩=some (.slice nA nn nc):=by
    rw [aiB RI2.bx,hus];rfl
   have c8:W3.cell? ⟨w.heap.size+1,8,none⟩=some (.slice wA wn wc):=by
    rw [aiB RI2.bx,hus];rfl
   generalize hrep:(dK (dq L i).c L[i]).1=rp at *;have hq1:=ahQ (r:=rp);have hq2:=afu (r:=rp);by_cases hno:rp=noT
   ·rw [decide_eq_true hno] at hq1
    subst hus
    go_wp2_with (first
     | (at_builtin;refine wpList_append_own_at _ rfl _ _ 38 rfl W2.heap.size 3 i0 (.int .i64 0) 1 8 Tryz.underlying38 hi0 hz0 hz1 hz2 rfl (by decide) _ _ _ rfl (hno1.alloc _) ⟨W3.heap.size,0,none⟩ 1 1 [.int .i64 ((i:Int)+1)] rfl rfl (cell_one_new _ _ _) (by intro u hu;simp at hu;subst hu;rfl) (by unfold maxLen;omega) (by omega) (by simp;omega) ?_;intro v' w2 hown' hgrow hnil hat;obtain⟨g',cap',rfl⟩:=oO hown';have hbk:w2.heap[w.heap.size+1]?=_:=eT RI2.bx hgrow (fun e=>by have:=ib RI2.no e;omega);have d7:w2.cell? ⟨w.heap.size+1,7,none⟩=some (.slice nA nn nc):=(by rw [aiB hbk];rfl);have e7:w2.frozen? ⟨w.heap.size+1,7,none⟩=false:=ai0 hbk 7)
     | go_in)
    obtain⟨us3,t3,RI3⟩:=aeG (z:=(i:Int)+1) RI2 hb2 hown' hgrow hat;refine⟨⟨i+1,F2,us3,t3,_,_,?_,congrArg (aiq .i64) (by omega),by omega,EV RI3 ?_ ?_ ?_⟩,?_⟩
    ·rw [hrun]
     unfold od;rw [hrep,hno]
    ·rw [hrun]
     rfl
    ·rw [hrun]
     unfold od;dsimp only;rw [hrep,if_pos hno,show((i+1:Nat):Int)=(i:Int)+1 by omega]
    ·rw [hrun]
     unfold od;dsimp only;rw [hrep,if_neg (fun e=>by rw [hno] at e;revert e;decide)]
    ·show L.length - ((i:Int)+1).toNat<L.length - (i:Int).toNat
     omega
   ·rw [decide_eq_false hno] at hq1
    by_cases hwh:rp=dH
    ·rw [decide_eq_true hwh] at hq2
     subst hus
     go_wp2_with (first
      | (at_builtin;refine wpList_append_own_at _ rfl _ _ 38 rfl W2.heap.size 3 i0 (.int .i64 0) 1 8 Tryz.underlying38 hi0 hz0 hz1 hz2 rfl (by decide) _ _ _ rfl (hwh1.alloc _) ⟨W3.heap.size,0,none⟩ 1 1 [.int .i64 ((i:Int)+1)] rfl rfl (cell_one_new _ _ _) (by intro u hu;simp at hu;subst hu;rfl) (by unfold maxLen;omega) (by omega) (by simp;omega) ?_;intro v' w2 hown' hgrow hnil hat;obtain⟨g',cap',rfl⟩:=oO hown';have hbk:w2.heap[w.heap.size+1]?=_:=eT RI2.bx hgrow (fun e=>by have:=ib RI2.wh e;omega);have d7:w2.cell? ⟨w.heap.size+1,8,none⟩=some (.slice wA wn wc):=(by rw [aiB hbk];rfl);have e7:w2.frozen? ⟨w.heap.size+1,8,none⟩=false:=ai0 hbk 8)
      | go_in)
     obtain⟨us3,t3,RI3⟩:=aff (z:=(i:Int)+1) RI2 hb2 hown' hgrow hat;refine⟨⟨i+1,F2,us3,t3,_,_,?_,congrArg (aiq .i64) (by omega),by omega,EV RI3 ?_ ?_ ?_⟩,?_⟩
     ·rw [hrun]
      unfold od;rw [hrep,hwh]
     ·rw [hrun]
      rfl
     ·rw [hrun]
      unfold od;dsimp only;rw [hrep,if_neg hno]
     ·rw [hrun]
      unfold od;dsimp only;rw [hrep,if_pos hwh,show((i+1:Nat):Int)=(i:Int)+1 by omega]
     ·show L.length - ((i:Int)+1).toNat<L.length - (i:Int).toNat
      omega
    ·rw [decide_eq_false hwh] at hq2
     go_wp2
     refine⟨⟨i+1,F2,us2,t2,_,_,?_,congrArg (aiq .i64) (by omega),by omega,EV RI2 ?_ ?_ ?_⟩,?_⟩
     ·rw [hrun]
      unfold od;rw [hrep]
     ·rw [hrun]
      rfl
     ·rw [hrun]
      unfold od;dsimp only;rw [hrep,if_neg hno]
     ·rw [hrun]
      unfold od;dsimp only;rw [hrep,if_neg hwh]
     ·show L.length - ((i:Int)+1).toNat<L.length - (i:Int).toNat
      omega
  ·have hpi:¬(i:Int)<(L.length:Int):=by omega
   obtain rfl:i=L.length:=by omega
   obtain⟨sV,tV,fV,hus,r3,r4,r6,r7,r8⟩:=NB RI.rep;have c9:wr.cell? ⟨w.heap.size+1,9,none⟩=some (.int .i64 0):=by
    rw [aiB RI.bx,hus];rfl
   have f9:wr.frozen? ⟨w.heap.size+1,9,none⟩=false:=ai0 RI.bx 9
   go_wp2
   go_ret3
   exact⟨W2,hb2,wr,⟨F',us,t,nv,wv,RI⟩,rfl,rfl⟩
set_option maxHeartbeats 4000000 in
set_option maxRecDepth 1000000 in
theorem abD (s:ByteArray) (hs:s.size≤1048576) (w:World) (F:Nat→Prop) (hF:∀b,F b→b<w.heap.size) (hgl:gOk gl0 w F) (hok:okC s=false) :
  Calls Tryz.prog 41 #[.string s] w fun e w'=>Below (wS w).heap.size (wS w) w'∧e = .returned (.tuple #[.pointer (some ⟨w.heap.size+1,0,none⟩),.string ⟨#[]⟩,.bool false]):=by
 have b1:Below w.heap.size w (wS w):=((ajn _ w).alloc (ait _) _).alloc (by simp) _;have hst:=Ns w;have hc1:=Ny (w:=wS w) (F:=F) (fun b hb=>aiP (hF b hb) b1.size) (iv (fun _ h=>h) (fun b hb=>b1.block b (hF b hb)) hgl) s hs;simp only [hok] at hc1;generalize (if mK s=true then aS s else [])=L at hc1;generalize hW1:wS w=W1 at *
 go_enter Tryz.func41,Tryz.ntmps41
 go_wp2_with (go_at_call 56;refine hst.mono ?_)
 rintro e _ ⟨rfl,rfl⟩
 go_wp2_with (go_at_call 55;refine hc1.mono ?_)
 rintro e W2 ⟨b2,A,c,rfl,hA⟩
 go_wp2
 go_ret3
 exact⟨b2,rfl⟩
theorem aft {w:World} {G:Nat→Prop} {base e:Nat} {v:Value} {l:List Int} (h:w.ownsRow base e 1 v l.length (l.map (aiq .i64))) (hG:∀k,v.ownBlock=some k→G k):RepC w G (ai l) [v]:=by
 obtain⟨h1,⟨rfl,h2⟩ | ⟨g,cap,cur,rfl,h2,h3,h4,h5,h6,h7⟩⟩:=h
 ·rw [aix h2]
  exact lK
 ·simp only [RepC]
  refine⟨_,cap,l.map (aiq .i64),by rw [aiE],by rw [aiE];exact h4,oq _,fun d hd=>?_,fun _=>⟨g,0,rfl,hG g rfl,fun j u hu=>?_⟩⟩
  ·obtain⟨n,_,rfl⟩:=ajg.1 hd
   rfl
  ·rw [aiB h3,aiX]
   rw [←h7,List.getElem?_take] at hu;split at hu
   ·simpa using hu
   ·cases hu
def cnP (a:Rn) (n:Int):D:=.ptr [I a.c.m.1,I a.c.m.2.1,I a.c.m.2.2,sls a.c.s,ai a.c.t,T a.c.j,fos a.c.f,ai a.no,ai a.wh,I n]
theorem ZI {w:World} {G:Nat→Prop} {a:Rn} {n:Int} {b t:Nat} {sV tV fV nv wv:Value} (hb:w.heap[b]?=some (.cells #[.int .i64 a.c.m.1,.int .i64 a.c.m.2.1,.int .i64 a.c.m.2.2,sV,tV,.string a.c.j,fV,nv,wv,.int .i64 n] t (0,0))) (hG:G b)
  (h3:RepC w G (sls a.c.s) [sV]) (h4:RepC w G (ai a.c.t) [tV]) (h6:RepC w G (fos a.c.f) [fV]) (h7:RepC w G (ai a.no) [nv]) (h8:RepC w G (ai a.wh) [wv]):bP w G (cnP a n) (.pointer (some ⟨b,0,none⟩)):=by
 simp only [cnP,bP,RepC];refine⟨b,0,[.int .i64 a.c.m.1,.int .i64 a.c.m.2.1,.int .i64 a.c.m.2.2,sV,tV,.string a.c.j,fV,nv,wv,.int .i64 n],rfl,?_,rfl,hG,fun j u hu=>?_⟩
 ·refine au.2 ⟨[_],_,rfl,lh rfl,au.2 ⟨[_],_,rfl,lh rfl,au.2 ⟨[_],_,rfl,lh rfl,au.2 ⟨[_],_,rfl,h3,au.2 ⟨[_],_,rfl,h4,au.2 ⟨[_],_,rfl,lh rfl,au.2 ⟨[_],_,rfl,h6,au.2 ⟨[_],_,rfl,h7,au.2 ⟨[_],_,rfl,h8,au.2 ⟨[_],[],rfl,lh rfl,aW.2 rfl⟩⟩⟩⟩⟩⟩⟩⟩⟩⟩
 ·rw [aiB hb,aiX]
  simpa using hu
def lw (s:ByteArray):Rn:=if okC s=true then dq (aS s) (aS s).length else dq [] 0
def Fq (ds:List D):Option Out:=match ds with
 | [d]=>(tU d).bind fun s=>if s.size≤1048576 then some (.ret [cnP (lw s) (if okC s=true then((aS s).length:Int) else 0),T (lw s).out,B (okC s)] []) else none
 | _=>none
theorem OV (s:ByteArray) (hs:s.size≤1048576):Fq [T s]=some (.ret [cnP (lw s) (if okC s=true then((aS s).length:Int) else 0),T (lw s).out,B (okC s)] []):=by
 have e:Fq [T s]=(tU (T s)).bind fun s=>if s.size≤1048576 then some (.ret [cnP (lw s) (if okC s=true then((aS s).length:Int) else 0),T (lw s).out,B (okC s)] []) else none:=rfl
 rw [e,show tU (T s)=some s from rfl,aiA,if_pos hs]
@[reducible] def ru:FS:={pm:=[.dat 0],rm:=[.dat 2,.dat 0,.dat 0],f:=Fq}
theorem wL:aw gl0 Tryz.prog 41 ru:=by
 have he:∀args w,(callFunc 41 args).run Tryz.prog w = .ok (.enter 41 args) w:=aiY Tryz.func41 (by kernel_rfl) rfl;refine bQ he fun ds rs us hd args w F ow hg ha hF _=>?_
 obtain⟨d,y,rfl,h2,h3⟩:=lC ha;replace hd:Fq [d]=some (.ret rs us):=hd;obtain⟨s,hs,hd'⟩:=Option.bind_eq_some_iff.1 hd;clear hd;obtain rfl:=xk hs;split at hd'
 case isFalse=>cases hd'
 rename_i hz;cases hd';obtain⟨rfl,_⟩:=Cf h3;rw [DL h2];cases hok:okC s with
 | false =>
  refine(abD s hz w F (fun b hb=>(hF b hb).1) hg hok).mono ?_
  rintro e w' ⟨hB,rfl⟩;have b1:Below w.heap.size w (wS w):=((ajn _ w).alloc (ait _) _).alloc (by simp) _;have hszS:(wS w).heap.size=w.heap.size+2:=by simp
  have k0:(wS w).heap[w.heap.size]?=some (.cells #[.int .i64 0] 3 (0,0)):=(heap_alloc_old _ _ (by simp)).trans (heap_alloc_new w _);have k1:(wS w).heap[w.heap.size+1]?=some (.cells (us0 w.heap.size).toArray 59 (0,0)):=by
   have:=heap_alloc_new (w.alloc (.cells #[.int .i64 0] 3)) (.cells (us0 w.heap.size).toArray 59);simpa using this
  have k0:=(hB.block _ (by omega)).trans k0;have k1:=(hB.block _ (by omega)).trans k1;have hB2:=b1.trans (hB.mono b1.size);have hR:lw s=dq [] 0:=by unfold lw;rw [hok];rfl
  rw [hR]
  let F':Nat→Prop:=fun k=>F k∨(w.heap.size≤k∧k<w'.heap.size)
  have hsz':=hB.size;refine⟨_,rfl,F',fun _=>none,[.pointer (some ⟨w.heap.size+1,0,none⟩),.string ⟨#[]⟩,.bool false],rfl,
   ⟨hB2.os,hB2.tape,hB2.output,hB2.size,fun b hb _=>hB2.block b hb,fun b hb=>.inl hb,fun b hb=>?_,fun b j h=>(by cases h),rfl,rfl,fun j=>?_,trivial⟩⟩
  ·rcases hb with hb | hb
   ·exact⟨.inl hb,aiP (hF b hb).1 hB2.size,rfl⟩
   ·exact⟨.inr hb.1,hb.2,rfl⟩
  ·match j with
   | 0 =>
    refine .inr (show bP w' F' _ _ from ZI (a:=dq [] 0) (n:=0) k1 (.inr ⟨by omega,by omega⟩) lK ?_ lK lK lK)
    simp only [RepC];refine⟨some ⟨w.heap.size,0,none⟩,1,[.int .i64 0],rfl,ait _,oq [0],fun d hd=>?_,fun _=>⟨_,_,rfl,.inr ⟨ait _,by omega⟩,fun j u hu=>?_⟩⟩
    ·obtain⟨n,_,rfl⟩:=ajg.1 hd
     rfl
    ·rw [aiB k0,aiX]
     simpa using hu
   | 1=>exact .inr (show bP w' _ (T _) _ from ce.2 ⟨rfl,rfl⟩)
   | 2=>exact .inr (show bP w' _ (B _) _ from ce.2 ⟨rfl,rfl⟩)
   | j+3=>exact .inl rfl
 | true =>
  refine(Yy s hz w F (fun b hb=>(hF b hb).1) hg hok).mono ?_
  rintro e w' ⟨W2,wr,F2,us,t,nv,wv,hb2,RI,rfl,rfl⟩;have hR:lw s=dq (aS s) (aS s).length:=by unfold lw;rw [hok];rfl
  rw [hR,if_pos rfl];generalize dq (aS s) (aS s).length=a at *;obtain⟨sV,tV,fV,rfl,r3,r4,r6,-,-⟩:=NB RI.rep;have hset:=heap_setCell_same _ (w.heap.size+1) 9 _ _ (.int .i64 (aS s).length) RI.bx;have hB2:Below w.heap.size w (wr.setCell ⟨w.heap.size+1,9,none⟩ (.int .i64 (aS s).length)):=RI.bl.setCell (by simp) _;have hszs:(wr.setCell ⟨w.heap.size+1,9,none⟩ (.int .i64 (aS s).length)).heap.size=wr.heap.size:=by simp [aja]
  have hkeep:∀k,k≠w.heap.size+1→(wr.setCell ⟨w.heap.size+1,9,none⟩ (.int .i64 (aS s).length)).heap[k]?=wr.heap[k]?:=fun k hk=>heap_setCell_other _ _ _ _ (by simpa using hk)
  generalize wr.setCell ⟨w.heap.size+1,9,none⟩ (.int .i64 (aS s).length)=w' at *
  let F':Nat→Prop:=fun k=>F2 k∨(w.heap.size≤k∧k<w'.heap.size)
  have hws:=RI.bl.size;have hbz:=(aiN.1 RI.bx).1;have hmono:∀(d:D) (vs:List Value),RepC wr F2 d vs→RepC w' F' d vs:=fun d vs h=>RepC_mono (fun k hk=>.inl hk) (fun k hk=>hkeep k (RI.fn k hk).2.2.1) d vs h
  have hrow:∀(v:Value) (l:List Int),wr.ownsRow W2.heap.size 3 1 v l.length (l.map (aiq .i64))→RepC w' F' (ai l) [v]:=fun v l h=>by
   have h':w'.ownsRow W2.heap.size 3 1 v l.length (l.map (aiq .i64)):=sH h fun k hk=>hkeep k (by have:=ib h hk;omega)
   exact aft h' fun k hk=>.inr ⟨by have:=ib h' hk;omega,wD h' hk⟩
  refine⟨_,rfl,F',fun _=>none,[.pointer (some ⟨w.heap.size+1,0,none⟩),.string a.out,.bool true],rfl,
   ⟨hB2.os,hB2.tape,hB2.output,hB2.size,fun b hb _=>hB2.block b hb,fun b hb=>.inl (RI.f0 b hb),fun b hb=>?_,fun b j h=>(by cases h),rfl,rfl,fun j=>?_,trivial⟩⟩
  ·rcases hb with hb | hb
   ·obtain⟨g1,g2,-⟩:=RI.fn b hb
    exact⟨g1,by omega,rfl⟩
   ·exact⟨.inr hb.1,hb.2,rfl⟩
  ·match j with
   | 0=>exact .inr (show bP w' F' _ _ from ZI hset (.inr ⟨by omega,by omega⟩) (hmono _ _ r3) (hmono _ _ r4) (hmono _ _ r6) (hrow nv a.no RI.no) (hrow wv a.wh RI.wh))
   | 1=>exact .inr (show bP w' _ (T _) _ from ce.2 ⟨rfl,rfl⟩)
   | 2=>exact .inr (show bP w' _ (B _) _ from ce.2 ⟨rfl,rfl⟩)
   | j+3=>exact .inl rfl
end Go.Proofs.YtjafgdefcggjcaaGreatDoor

namespace Go.Proofs.YtjafgdefcggjcaaGreatDoor
open Go.V
set_option maxRecDepth 100000
@[reducible] def IE:TI:={agg:=true,n:=7,zero:=[.v (.int .i64 0),.v (.int .i64 0),.v (.int .i64 0),.arr 2 [],.arr 1 [],.v (.string ⟨#[]⟩),.arr 2 []],fs:=[(0,29),(3,33),(4,38),(5,9),(6,57)]}
@[reducible] def abE:TI:={agg:=true,n:=3,zero:=[.v (.string ⟨#[]⟩),.v (.string ⟨#[]⟩),.arr 1 []],fs:=[(0,9),(1,9),(2,38)]}
@[reducible] def oc:Cx:={K:=[.box 7 2 true,Y,.no,.no,Y,.box 3 0 false,Y,.tup [Y,Y],Y,.tup [Y,Y],Y,Y,Y,Y,.tup [Y,Y],Yr 0,Yr 0,Yr 0,Yr 0,Y,Y,Yb,.tup [Y,Y],Y,Y,Yr 0,Yr 0,Y,Y,Yr 0,Yr 0,Yr 0,Y,Y],T:=[(3,ty3),(9,ty9),(29,jg),(33,jv),(38,dJ),(57,re),(61,IE),(128,Zx)],S:=[(118,oL),(163,lY),(164,wi)],H:=[],res:=[.tmp 4],ios:=[0],G:=gl2}
def gk:List D→Option Out:=ba oc Tryz.f120
@[reducible] def nU:FS:={pm:=[.box 7 2 true,Y],rm:=[Y],f:=gk}
theorem yV:aw gl2 Tryz.prog 120 nU:=az (c:=oc) (ab wg (ab (aN CD qn) (ab (aN qi IB) al))) Tryz.func120 rfl rfl (by kernel_rfl)
@[reducible] def oe:Cx:={K:=[.box 7 2 true,Y,.no,.no,Y,.box 3 0 false,.box 3 0 false,Y,.tup [Y,Y,Y],Yr 0,Yr 0,Yr 0,Y,Y,.tup [Y,Y,Y],Y,Y,Y,Y,Y,Yr 0,Y,Yr 0,Yr 0,Y,Y],T:=[(3,ty3),(9,ty9),(29,jg),(33,jv),(38,dJ),(57,re),(61,IE)],S:=[(163,lY),(165,yw)],H:=[],res:=[.tmp 4],ios:=[0],G:=gl1}
def gj:List D→Option Out:=ba oe Tryz.f121
@[reducible] def nX:FS:={pm:=[.box 7 2 true,Y],rm:=[Y],f:=gj}
theorem yT:aw gl1 Tryz.prog 121 nX:=az (c:=oe) (ab qn (ab (aN JL LH) al)) Tryz.func121 rfl rfl (by kernel_rfl)
@[reducible] def tL:Cx:={K:=[Y,.no,Yo 2 0,Y,Yo 2 0,Yb,Yo 2 0,Y,Yb,Yb,Y,Y,Yb,Yb,Yo 2 0,Yb,Yb,Y,Yb,Yb,Y,Y,Yb,Yo 2 0,.via 4,Y,Y,Y,.via 4,Y,Y,Y,Y,Yo 2 0,Yo 2 0],T:=[(3,ty3),(9,ty9),(33,jv),(38,dJ),(75,qo)],S:=[(36,iA),(86,kF),(166,ou)],H:=[(0,([0,4,5],[0,4]))],res:=[.tmp 2,.tmp 3],ios:=[],G:=gl2}
def jQ:List D→Option Out:=ba tL Tryz.f122
@[reducible] def tH:FS:={pm:=[Y],rm:=[Yo 2 0,Y],f:=jQ}
theorem Hp:aw gl2 Tryz.prog 122 tH:=az (c:=tL) (ab (aN qi kg) (ab oJ (ab (aN CD vT) al))) Tryz.func122 rfl rfl (by kernel_rfl)
@[reducible] def oa:Cx:={K:=[.box 7 2 true,Y,.no,.no,Y,Yb,Y,.tup [Yb,Y],Yr 0,Yr 0,Yr 0,Yc,Y,.tup [Yb,Y],Yb,Y,Y,Y,Yr 0,Yr 0,Yr 0,Yr 0,Yc,Yb,Yb,Yr 0,Yr 0,Yb,Y],T:=[(9,ty9),(29,jg),(33,jv),(38,dJ),(57,re),(61,IE),(75,qo)],S:=[(134,pG),(167,CQ),(168,KA)],H:=[],res:=[.tmp 4],ios:=[0],G:=gl1}
def gh:List D→Option Out:=ba oa Tryz.f123
@[reducible] def nZ:FS:={pm:=[.box 7 2 true,Y],rm:=[Y],f:=gh}
theorem yQ:aw gl1 Tryz.prog 123 nZ:=az (c:=oa) (ab pE (ab (aN JL Qs) (ab (aN JL VO) al))) Tryz.func123 rfl rfl (by kernel_rfl)
@[reducible] def vh:Cx:={K:=[.box 7 2 true,Y,Y,.no,.no,.no,Y,Yc,Y,.tup [Yc,Y],Yr 0,Yr 0,Yr 0,Yc,Y,Y,.tup [Yc,Y],Yc,Y,Y,Y,Yr 0,Yc,Yr 0,Yr 0,Yc,Y],T:=[(9,ty9),(29,jg),(33,jv),(38,dJ),(57,re),(61,IE),(75,qo)],S:=[(166,ou),(169,AA)],H:=[],res:=[.tmp 6],ios:=[0],G:=gl1}
def kG:List D→Option Out:=ba vh Tryz.f124
@[reducible] def vy:FS:={pm:=[.box 7 2 true,Y,Y],rm:=[Y],f:=kG}
theorem IF:aw gl1 Tryz.prog 124 vy:=az (c:=vh) (ab vT (ab (aN JL Mn) al)) Tryz.func124 rfl rfl (by kernel_rfl)
@[reducible] def vN:Cx:={K:=[.box 7 2 true,Y,.no,.no,Y,Yr 0,Yo 1 0,Yr 0,Yr 0,Yr 0,Yc,Yo 1 0,Y,Yb,Yb,Yr 0,Yr 0,Yr 0,Yr 0,Yr 0,Yc,Y,Yr 0,Yr 0,Yr 0,Yc,Y,Y],T:=[(3,ty3),(9,ty9),(29,jg),(33,jv),(38,dJ),(57,re),(61,IE)],S:=[(170,gd),(171,mY)],H:=[],res:=[.tmp 4],ios:=[0],G:=gl1}
def kx:List D→Option Out:=ba vN Tryz.f125
@[reducible] def vl:FS:={pm:=[.box 7 2 true,Y],rm:=[Y],f:=kx}
theorem JO:aw gl1 Tryz.prog 125 vl:=az (c:=vN) (ab iZ (ab (aN JL sx) al)) Tryz.func125 rfl rfl (by kernel_rfl)
@[reducible] def rL:Cx:={K:=[Yc,.no,Y,Y,Yc,Y,Y,Y,Yc,Y,Y,Y,Y,Yc,Y],T:=[(3,ty3),(9,ty9)],S:=[(87,jj),(233,sy)],H:=[],res:=[.tmp 2,.tmp 3],ios:=[],G:=gl1}
def iK:List D→Option Out:=ba rL Tryz.f206
@[reducible] def sN:FS:={pm:=[Yc],rm:=[Y,Y],f:=iK}
theorem EW:aw gl1 Tryz.prog 206 sN:=az (c:=rL) (ab (aN JL md) (ab Fz al)) Tryz.func206 rfl rfl (by kernel_rfl)
@[reducible] def ua:Cx:={K:=[Y,Y,.no,.box 3 0 false,Y,Y,Yo 3 0,Y,.tup [Yo 3 0,Y],Y,.tup [Yo 3 0,Y],Yo 3 0,Y,Y,Y,Y,Y,Y,Y,Y,Yo 3 0,Y,Yb,Yb,.tup [Y,Y],Y,Y],T:=[(3,ty3),(48,Fi),(121,kp)],S:=[(53,iX),(133,uz),(206,sN)],H:=[],res:=[.tmp 4,.tmp 5],ios:=[],G:=gl2}
def jS:List D→Option Out:=ba ua Tryz.f172
@[reducible] def tu:FS:={pm:=[Y,Y],rm:=[Y,Y],f:=jS}
theorem FN:aw gl2 Tryz.prog 172 tu:=az (c:=ua) (ab mi (ab (aN qi CR) (ab (aN CD EW) al))) Tryz.func172 rfl rfl (by kernel_rfl)
@[reducible] def uj:Cx:={K:=[.box 7 2 true,Y,.no,.box 3 0 false,Y,Y,Y,Yb,Y,.tup [Y,Y],Yr 0,Yr 0,Yr 0,Y,Y,.tup [Y,Y],Y,Y,Yr 0,Y,Yr 0,Yr 0,.tup [Yo 3 0,Y],Y,.tup [Yo 3 0,Y],Yb,Y,Yb,Y,Y,Y],T:=[(3,ty3),(9,ty9),(29,jg),(33,jv),(38,dJ),(48,Fi),(57,re),(61,IE),(121,kp)],S:=[(53,iX),(170,gd),(172,tu)],H:=[],res:=[.tmp 4],ios:=[0],G:=gl2}
def jH:List D→Option Out:=ba uj Tryz.f126
@[reducible] def tS:FS:={pm:=[.box 7 2 true,Y],rm:=[Y],f:=jH}
theorem GY:aw gl2 Tryz.prog 126 tS:=az (c:=uj) (ab mi (ab (aN CD iZ) (ab FN al))) Tryz.func126 rfl rfl (by kernel_rfl)
@[reducible] def ud:Cx:={K:=[.box 7 2 true,Y,.no,.no,Y,Yr 0,Yo 2 0,Yr 0,Yr 0,Yr 0,Yc,Yo 2 0,Y,Y,Yb,Yb,Yr 0,Yr 0,Yr 0,Yr 0,Yr 0,Yc,Y,Yr 0,Yr 0,Yr 0,Yc,Y,Y],T:=[(3,ty3),(4,ty4),(9,ty9),(29,jg),(33,jv),(38,dJ),(57,re),(61,IE),(147,DH)],S:=[(170,gd),(173,yE)],H:=[],res:=[.tmp 4],ios:=[0],G:=gl1}
def jA:List D→Option Out:=ba ud Tryz.f127
@[reducible] def tF:FS:={pm:=[.box 7 2 true,Y],rm:=[Y],f:=jA}
theorem Hl:aw gl1 Tryz.prog 127 tF:=az (c:=ud) (ab iZ (ab (aN JL qt) al)) Tryz.func127 rfl rfl (by kernel_rfl)
@[reducible] def Dx:Cx:={K:=[Yc,.no,Yo 1 0,Yo 1 0,Yo 1 0,Yc,Yo 1 0,.via 3,.no,Yo 1 0],T:=[(3,ty3),(38,dJ)],S:=[(235,Ky)],H:=[],res:=[.tmp 2],ios:=[],G:=gl0}
def oS:List D→Option Out:=ba Dx Tryz.f209
@[reducible] def DS:FS:={pm:=[Yc],rm:=[Yo 1 0],f:=oS}
theorem PW:aw gl0 Tryz.prog 209 DS:=az (c:=Dx) (ab Wa al) Tryz.func209 rfl rfl (by kernel_rfl)
@[reducible] def wk:Cx:={K:=[Yc,.no,Y,Y,Yc,Y,Y,Yc,Yb,Yc,Y,Y,Y,Yb,Y],T:=[(3,ty3),(38,dJ)],S:=[(171,mY),(209,DS)],H:=[],res:=[.tmp 2,.tmp 3],ios:=[],G:=gl0}
def kH:List D→Option Out:=ba wk Tryz.f176
@[reducible] def vz:FS:={pm:=[Yc],rm:=[Y,Y],f:=kH}
theorem Ju:aw gl0 Tryz.prog 176 vz:=az (c:=wk) (ab sx (ab PW al)) Tryz.func176 rfl rfl (by kernel_rfl)
@[reducible] def wo:Cx:={K:=[.box 7 2 true,Yc,.no,.box 3 2 false,Y,Yb,Y,Yb,Y,Y,Y,Y,Y,Y,Y,Y,Y,.tup [Yo 3 0,Y],Yr 0,Yr 0,Yr 0,Y,.tup [Yo 3 0,Y],Yb,Y,Yr 3,Y,Y,Y,.tup [Yo 1 0,Y],Yr 0,Yr 0,Yr 0,Y,.tup [Yo 1 0,Y],Yb,Y,Y,Y,Yb,Y,Y,Y,Yr 0,Yr 0,Yr 0,Yc,Yr 3,Yc,Yc,Y,.tup [Y,Y],Y,Y,Y,Y,Y,Yr 0,Yr 0,Yr 0,Yc,.tup [Y,Y],Y,Y,Y,Y,Y,.tup [Y,Y,Y],Yr 0,Yr 0,Yr 0,Yc,.tup [Y,Y,Y],Y,Y,Y,Y,Y,Yb,Y,Y,Y,Yb,Yr 3,Yc,Yc,Y,Yr 3,Yc,Yc,Y,.tup [Y,Y],Y,Y,Y,Y,Y,.tup [Y,Y,Y],Yb,Yr 3,Yc,Yc,Y,.tup [Y,Y,Y],Y,Y,Y,Y,Y,Y,.tup [Y,Y],Yr 0,Yr 0,Yr 0,Yc,.tup [Y,Y],Y,Y,Y],T:=[(3,ty3),(9,ty9),(29,jg),(33,jv),(38,dJ),(57,re),(61,IE),(75,qo),(107,abE),(147,DH)],S:=[(53,iX),(134,pG),(170,gd),(174,xW),(175,tG),(176,vz),(177,qD),(178,tk),(179,tM),(180,tB)],H:=[],res:=[.tmp 4],ios:=[0],G:=gl2}
def kD:List D→Option Out:=ba wo Tryz.f128
@[reducible] def vj:FS:={pm:=[.box 7 2 true,Yc],rm:=[Y],f:=kD}
theorem IA:aw gl2 Tryz.prog 128 vj:=az (c:=wo) (ab mi (ab (aN CD pE) (ab (aN CD iZ) (ab (aN qi LF) (ab (aN qi It) (ab (aN qi Ju) (ab (aN qi BV) (ab (aN qi Gi) (ab (aN qi Hk) (ab (aN CD Ic) al)))))))))) Tryz.func128 rfl rfl (by kernel_rfl)
@[reducible] def qa:Cx:={K:=[.box 7 2 true,Yc,.no,.box 3 2 false,Y,Y,Yr 3,Y,Y,Y,.tup [Y,Y],Yr 0,Yr 3,Y,.tup [Y,Y],Y,Y,Yr 0,Yr 0,Y,Y,Y,Y,Yr 0,Yr 3,Y,Y,Y,Y,Yr 0,Yr 3,Yc,Yc,Y,Y,Y,Y,.tup [Yo 2 0,Y],Yr 0,Yr 3,Y,.tup [Yo 2 0,Y],Yb,Y,Yr 0,Yr 0,Y,Y,Y,Y,Yr 0,Yr 3,Yc,Yc,Y,Y,Y,Y,Yr 0,Yr 3,Yc,Yc,Y,Yr 3,Yc,Yc,Y,Y,Y,Y,Yr 0,Yr 3,Yc,Yc,Y,Y,Y,Y,Yr 0,Yr 3,Yc,Yc,Y,Yr 3,Yc,Yc,Y,Yr 3,Yc,Yc,Y,Y,Y,Y,Y,Yr 0,Yr 3,Yc,Yc,Y,Y,Yr 0,Yc,Y],T:=[(3,ty3),(9,ty9),(29,jg),(33,jv),(38,dJ),(57,re),(61,IE),(75,qo),(107,abE),(121,kp)],S:=[(118,oL),(119,Aw),(120,nU),(121,nX),(122,tH),(123,nZ),(124,vy),(125,vl),(126,tS),(127,tF),(128,vj)],H:=[],res:=[.tmp 4],ios:=[0],G:=gl2}
def aM:List D→Option Out:=ba qa Tryz.f80
@[reducible] def pT:FS:={pm:=[.box 7 2 true,Yc],rm:=[Y],f:=aM}
theorem At:aw gl2 Tryz.prog 80 pT:=az (c:=qa) (ab wg (ab (aN qi MI) (ab yV (ab (aN CD yT) (ab Hp (ab (aN CD yQ) (ab (aN CD IF) (ab (aN CD JO) (ab GY (ab (aN CD Hl) (ab IA al))))))))))) Tryz.func80 rfl rfl (by kernel_rfl)
@[reducible] def sP:Cx:={K:=[.box 7 2 true,Y,.no,.no,Y,.box 3 1 false,Y,.box 7 2 false,Y,.tup [Yb,Y],Y,.tup [Yb,Y],Yb,Y,Y,Y,Yr 0,Yr 0,Yc,Yb,Y,Y,Y,Yr 0,Yc,Yr 0,Y],T:=[(9,ty9),(29,jg),(33,jv),(38,dJ),(57,re),(61,IE),(107,abE)],S:=[(79,xI),(80,pT)],H:=[],res:=[.tmp 4],ios:=[0],G:=gl2}
def gc:List D→Option Out:=ba sP Tryz.f58
@[reducible] def se:FS:={pm:=[.box 7 2 true,Y],rm:=[Y],f:=gc}
theorem Fx:aw gl2 Tryz.prog 58 se:=az (c:=sP) (ab KT (ab At al)) Tryz.func58 rfl rfl (by kernel_rfl)
@[reducible] def wb:Cx:={K:=[Y,.no,.box 7 2 false,Yo 1 0,Y,Yb,Y,.box 7 2 false,Yo 1 0,.no,Y,.tup [Yb,Y],Y,.tup [Yb,Y],Yb,Y,Y,Y,Y,Yb,Yb,Yo 1 0,Yb,Y,Y,Y,Yb,Y,Yo 1 0,Y,Y,Yb,Yo 1 0,Y,Yc,Yo 1 0],T:=[(3,ty3),(9,ty9),(29,jg),(33,jv),(38,dJ),(57,re),(61,IE),(62,EU)],S:=[(54,Ah),(58,se)],H:=[(0,([2,7,8,22,23,24],[2,7,8]))],res:=[.cell 2 61,.tmp 3,.tmp 4],ios:=[],G:=gl2}
def fO:List D→Option Out:=ba wb Tryz.f42
@[reducible] def oB:FS:={pm:=[Y],rm:=[Yc,Yo 1 0,Y],f:=fO}
theorem oi:aw gl2 Tryz.prog 42 oB:=az (c:=wb) (ab (aN qi OA) (ab Fx al)) Tryz.func42 rfl rfl (by kernel_rfl)
@[reducible] def xE:Cx:={K:=[Y,.no,Y,Yc,Y,Y,.tup [Yc,Y,Y],Y,.tup [Yc,Y,Y],Yc,Y,Y,Y],T:=[],S:=[(41,ru)],H:=[],res:=[.tmp 2],ios:=[],G:=gl0}
def je:List D→Option Out:=ba xE Tryz.f13
@[reducible] def qs:FS:={pm:=[Y],rm:=[Y],f:=je}
theorem yo:aw gl0 Tryz.prog 13 qs:=az (c:=xE) (ab wL al) Tryz.func13 rfl rfl (by kernel_rfl)
@[reducible] def qB:Cx:={K:=[Y,.no,Y,Y,Y,Y,.box 7 2 false,Yb,Y,Y,Y,.no,Y,.tup [Yc,Yo 1 0,Y],Y,.tup [Yc,Yo 1 0,Y],Yc,Yb,Y,Yb,Y,Y,Y,Yb,Y,Y,Y,Y,Y,Y,Y,Y,Y,Y,Y,Y,Y,Yb,Y,Y,Y,Y,Y,Y],T:=[(3,ty3),(9,ty9),(29,jg),(33,jv),(38,dJ),(57,re),(61,IE),(62,EU)],S:=[(42,oB)],H:=[(0,([7,8,9,10,19,20,21],[7,8,9,10]))],res:=[.tmp 2,.tmp 3,.tmp 4,.tmp 5],ios:=[],G:=gl2}
def hN:List D→Option Out:=ba qB Tryz.f16
@[reducible] def qW:FS:={pm:=[Y],rm:=[Y,Y,Y,Y],f:=hN}
theorem Ch:aw gl2 Tryz.prog 16 qW:=az (c:=qB) (ab oi al) Tryz.func16 rfl rfl (by kernel_rfl)
@[reducible] def qw:Cx:={K:=[Y,.no,Y,Y,Y,Y,Yc,Y,Y,.tup [Yc,Y,Y],Y,.tup [Yc,Y,Y],Yc,Y,Y,Y,Y,Yc,Yc,Yc,Yc,Y,Yc,Yc,Yc,Yc,Y,Yc,Yc,Yc,Y,Yc,Yc,Yc,Yc,Y,Y,Yc,Yc,Yc,Yc,Y,Y],T:=[(3,ty3),(9,ty9),(29,jg),(33,jv),(38,dJ),(57,re),(59,abZ)],S:=[(41,ru)],H:=[],res:=[.tmp 2,.tmp 3,.tmp 4,.tmp 5],ios:=[],G:=gl0}
def gU:List D→Option Out:=ba qw Tryz.f15
@[reducible] def qV:FS:={pm:=[Y],rm:=[Y,Y,Y,Y],f:=gU}
theorem Cm:aw gl0 Tryz.prog 15 qV:=az (c:=qw) (ab wL al) Tryz.func15 rfl rfl (by kernel_rfl)
@[reducible] def rQ:Cx:={K:=[Y,.no,Yo 1 0,Y,.box 7 2 false,Yb,Y,Yo 1 0,Y,Y,.tup [Yc,Yo 1 0,Y],Y,.tup [Yc,Yo 1 0,Y],Yc,Yb,Y,Yo 1 0,Yb,Y,Y,Y,Y,Yb,Y,Y,Y,Y,Y,Y,Y,Yo 1 0,Y,Y,Yb,Yo 1 0,Y,Yo 1 0,Y],T:=[(3,ty3),(9,ty9),(29,jg),(33,jv),(38,dJ),(57,re),(61,IE),(62,EU)],S:=[(42,oB)],H:=[(0,([6,7,17,18,19],[6,7]))],res:=[.tmp 2,.tmp 3],ios:=[],G:=gl2}
def iG:List D→Option Out:=ba rQ Tryz.f26
@[reducible] def sf:FS:={pm:=[Y],rm:=[Yo 1 0,Y],f:=iG}
theorem FH:aw gl2 Tryz.prog 26 sf:=az (c:=rQ) (ab oi al) Tryz.func26 rfl rfl (by kernel_rfl)
@[reducible] def sU:Cx:={K:=[Y,.no,Yc,Y,Yc,Y,Y,Yc,.no,Y,.tup [Yc,Y,Y],Y,.tup [Yc,Y,Y],Yc,Y,Y,Y,Y,Yc,Yc,Yc,Yc,Yo 1 0,Yc,Yc,Yc,Yc,Yc,Y,Y,Y,Yc,Y,Yc,Y,Yc,Y,Yc],T:=[(3,ty3),(9,ty9),(29,jg),(33,jv),(38,dJ),(57,re),(59,abZ)],S:=[(41,ru),(46,nI),(47,Hw)],H:=[(0,([7,27,28,29],[7]))],res:=[.tmp 2,.tmp 3],ios:=[],G:=gl0}
def iW:List D→Option Out:=ba sU Tryz.f25
@[reducible] def sa:FS:={pm:=[Y],rm:=[Yc,Y],f:=iW}
theorem Fp:aw gl0 Tryz.prog 25 sa:=az (c:=sU) (ab wL (ab ri (ab TB al))) Tryz.func25 rfl rfl (by kernel_rfl)
end Go.Proofs.YtjafgdefcggjcaaGreatDoor

end
