/-
  A part of the proof: contracts and plain forms of functions beneath the statement, made small by a program (names shortened, what is not needed left out).
-/
import Derived.Test.YtjafgdefcggjcaaGreatDoorRows
import Derived.Test.YtjafgdefcggjcaaGreatDoorTie
import Derived.Test.YtjafgdefcggjcaaGreatDoorCards
import Derived.Test.YtjafgdefcggjcaaGreatDoorM11
open Int renaming reduceLT → aik, reduceLE → ail, reduceEq → aim
open ByteArray renaming size_append → ain
open Go.IntKind renaming i64 → aio
open List renaming getElem?_append_right → aip, length_append → aiq, append_assoc → air, length_cons → ais, getElem?_eq_getElem → ait, take_of_length_le → aiu, length_nil → aiw
open Nat renaming le_refl → aiv
set_option maxRecDepth 100000
set_option linter.unusedSimpArgs false
set_option linter.unusedVariables false
noncomputable section
namespace Go.Proofs.YtjafgdefcggjcaaGreatDoor
open Go Go.V
theorem ahb (l:List Int):gq 3 (.agg [rV l,I 0,D.v (.int .u64 0)])=some (ahV l):=rfl
theorem Wf:(⟨⟨[111,102,102,32,49,10]⟩⟩:ByteArray).size=6:=rfl
set_option maxHeartbeats 2000000 in
theorem Pa (l:List Int) (h:Bytes l):∃s:ByteArray,gR [rV l]=some (.ret [T s] [])∧s.size≤100000:=by
 rw [Cc];have e0:=ag8 l;have eb:=ahb l;obtain⟨b,c1,e1,k1⟩:=afL ⟨l,0,0⟩ 2 0 (aii h) (by omega) (by omega);have e1:fQ [ahV l,I 2]=some (.ret [B b] [mq c1]):=e1;obtain⟨v,c2,e2,l2,u2,k2⟩:=ig c1 16 _ k1 (by omega) (by omega);have sz0:(⟨⟨[]⟩⟩:ByteArray).size=0:=rfl;cases b
 all_goals
  simp -implicitDefEqProofs only [aq,aik,ail,aim,e0,eb,e1,e2];refine bH (fun X=>∃s:ByteArray,X=some (.ret [T s] [])∧s.size≤100000) (fun a:ByteArray × Int × Cur=>[D.ref 0 0,T a.1,I a.2.1,mq a.2.2])
   (fun a=>(-1≤a.2.1∧a.2.1≤16)∧(a.1.size:Int)≤100+501*(16 - a.2.1)∧a.2.2.ok (10+200*(16 - a.2.1).toNat)∧(0≤a.2.1∨1≤a.1.size)) (fun a=>(a.2.1+1).toNat) (fun o=>∃(s:ByteArray) (c:Cur),o = .ext 0 [D.ref 0 0,T s,mq c]∧s.size≤10000∧1≤s.size∧c.ok 4000) ?_ (_,v,c2) ?_ rfl ?_
  ·rintro⟨s,k,ca⟩ ⟨h1,h2,h3,h4⟩
   dsimp only at h1 h2 h3 h4;by_cases hn:0≤k
   ·obtain⟨t,c3,e3,g3,k3⟩:=Tl ca _ h3 (by omega)
    have hw:aio.wrap (k - 1)=k - 1:=ah (by omega) (by omega);have a1:=dF (a:=t) (b:=⟨⟨[10]⟩⟩) (by omega) (by rw [aU];decide);have a2:=dF (a:=s) (b:=t++⟨⟨[10]⟩⟩) (by omega) (by rw [ain,JH];omega);have hz:(s++(t++⟨⟨[10]⟩⟩)).size=s.size+t.size+1:=by rw [ain,ain,JH];omega
    refine .inl ⟨(s++(t++⟨⟨[10]⟩⟩),k - 1,c3),?_,⟨by dsimp only;omega,by dsimp only;omega,k3.mono (by dsimp only;omega),by dsimp only;omega⟩,by dsimp only;omega⟩
    simp -implicitDefEqProofs only [aq,aik,ail,aim,hn,e3,a1,a2,hw]
   ·refine .inr ⟨_,?_,rfl,s,ca,rfl,by omega,by omega,h3.mono (by omega)⟩
    simp -implicitDefEqProofs only [aq,aik,ail,aim,hn]
  ·exact⟨by dsimp only;omega,by simp only [aU,ais,aiw];omega,k2.mono (by dsimp only;omega),.inl l2⟩
  ·rintro o ⟨s,c3,rfl,g3,g4,k3⟩
   obtain⟨w,c4,e4,l4,u4,k4⟩:=ig c3 30 _ k3 (by omega) (by omega);by_cases h0:w=0
   ·subst h0
    have hw:aio.wrap ((s.size:Int) - 1)=((s.size - 1:Nat):Int):=by rw [ah (by omega) (by omega)];omega
    have hx:dl true 0 (T s) (I 0) (I ((s.size - 1:Nat):Int))=some (T (s.extract 0 (s.size - 1))):=Ya (z:=0) (i:=0) (j:=s.size - 1) (Nat.zero_le _) (by omega);refine⟨s.extract 0 (s.size - 1),?_,?_⟩
    ·simp -implicitDefEqProofs only [aq,aik,ail,aim,e4,hw,hx]
    ·rw [ByteArray.size_extract]
     omega
   by_cases h1:w=1
   ·subst h1
    obtain⟨x,c5,e5,l5,u5,k5⟩:=ig c4 2 _ k4 (by omega) (by omega);have hw:aio.wrap (40+x)=40+x:=ah (by omega) (by omega);simp -implicitDefEqProofs only [aq,aik,ail,aim,e4,e5,hw];refine bH (fun X=>∃s:ByteArray,X=some (.ret [T s] [])∧s.size≤100000) (fun a:ByteArray × Int=>[T a.1,I a.2]) (fun a=>(0≤a.2∧a.2≤42)∧(a.1.size:Int)≤6*(42 - a.2)) (fun a=>a.2.toNat) (fun o=>∃s:ByteArray,o = .ext 3 [T s]∧s.size≤1000) ?_ (_,40+x) ?_ rfl ?_
    ·rintro⟨s,k⟩ ⟨h1,h2⟩
     dsimp only at h1 h2;by_cases hn:0<k
     ·have hw:aio.wrap (k - 1)=k - 1:=ah (by omega) (by omega)
      have a1:=dF (a:=s) (b:=⟨⟨[111,102,102,32,49,10]⟩⟩) (by omega) (by rw [Wf];decide);refine .inl ⟨(s++⟨⟨[111,102,102,32,49,10]⟩⟩,k - 1),?_,⟨by dsimp only;omega,by dsimp only;rw [ain,Wf];omega⟩,by dsimp only;omega⟩
      simp -implicitDefEqProofs only [aq,aik,ail,aim,hn,a1,hw]
     ·refine .inr ⟨_,?_,rfl,s,rfl,by omega⟩
      simp -implicitDefEqProofs only [aq,aik,ail,aim,hn]
    ·exact⟨by dsimp only;omega,by dsimp only;rw [sz0];omega⟩
    ·rintro o ⟨s,rfl,g⟩
     exact⟨s,by simp -implicitDefEqProofs only [aq,aik,ail,aim,dE],by omega⟩
   by_cases h2:w=2
   ·subst h2
    refine⟨⟨⟨[]⟩⟩,?_,by rw [sz0];omega⟩
    simp -implicitDefEqProofs only [aq,aik,ail,aim,e4]
   by_cases h3:w=3
   ·subst h3
    obtain⟨x,c5,e5,l5,u5,k5⟩:=ig c4 2 _ k4 (by omega) (by omega);have hw:aio.wrap (1999+x)=1999+x:=ah (by omega) (by omega);simp -implicitDefEqProofs only [aq,aik,ail,aim,e4,e5,hw];refine bH (fun X=>∃s:ByteArray,X=some (.ret [T s] [])∧s.size≤100000) (fun a:ByteArray=>[T a,I (1999+x)]) (fun a=>(a.size:Int)≤1999+x) (fun a=>3000 - a.size) (fun o=>∃s:ByteArray,o = .ext 5 [T s]∧s.size≤2001) ?_ _ ?_ rfl ?_
    ·intro s h1
     by_cases hn:(s.size:Int)<1999+x
     ·have a1:=dF (a:=s) (b:=⟨⟨[120]⟩⟩) (by omega) (by rw [aU];decide)
      have hz:(s++⟨⟨[120]⟩⟩).size=s.size+1:=by rw [ain,JH]
      refine .inl ⟨s++⟨⟨[120]⟩⟩,?_,by omega,by omega⟩
      simp -implicitDefEqProofs only [aq,aik,ail,aim,hn,a1]
     ·refine .inr ⟨_,?_,rfl,s,rfl,by omega⟩
      simp -implicitDefEqProofs only [aq,aik,ail,aim,hn]
    ·simp only [aU,ais,aiw]
     omega
    ·rintro o ⟨s,rfl,g⟩
     have a1:=dF (a:=s) (b:=⟨⟨[10]⟩⟩) (by omega) (by rw [aU];decide);refine⟨s++⟨⟨[10]⟩⟩,by simp -implicitDefEqProofs only [aq,aik,ail,aim,dE,a1],?_⟩
     rw [ain,JH];omega
   ·refine⟨s,?_,by omega⟩
    simp -implicitDefEqProofs only [aq,aik,ail,aim,e4,h0,h1,h2,h3]
def iM (L:List ByteArray) (k:Nat):ByteArray:=(dK (dq L k).c (L.getD k ⟨⟨[]⟩⟩)).1
theorem Sj (L:List ByteArray) (k:Nat):∀n,k<n→∃rest,eu L n=eu L k++iM L k::rest
 | n+1,h=>by
  by_cases hk:k<n
  ·obtain⟨r,hr⟩:=Sj L k n hk
   exact⟨r++[iM L n],by rw [eu,hr,air];rfl⟩
  ·have:k=n:=by omega
   subst this;exact⟨[],rfl⟩
theorem Mw (L:List ByteArray) (k:Nat):∀n,k≤n→∃rest,dr L n=dr L k++rest
 | 0,h=>⟨[],by rw [show k=0 by omega];rfl⟩
 | n+1,h=>by
  by_cases hk:k≤n
  ·obtain⟨r,hr⟩:=Mw L k n hk
   exact⟨_,by rw [dr,hr,air]⟩
  ·have:k=n+1:=by omega
   subst this;exact⟨[],by simp⟩
theorem acC (L:List ByteArray) (k n:Nat) (h:k<n) (ha:iM L k=noT∨iM L k=dH):(dr L k).length<(dr L n).length∧(dr L n)[(dr L k).length]?=some ((k+1:Nat):Int)∧(dr L (k+1)).length=(dr L k).length+1:=by
 obtain⟨r,hr⟩:=Mw L (k+1) n h;have h1:dr L (k+1)=dr L k++[((k+1:Nat):Int)]:=by
  have:dr L (k+1)=dr L k++(if iM L k=noT∨iM L k=dH then [((k+1:Nat):Int)] else []):=rfl;rw [this,if_pos ha]
 rw [h1] at hr;refine⟨by rw [hr];simp,?_,by rw [h1];simp⟩
 rw [hr,air,aip (aiv _)];simp
theorem aan (L:List ByteArray) (k:Nat) (ha:¬(iM L k=noT∨iM L k=dH)):dr L (k+1)=dr L k:=by
 have:dr L (k+1)=dr L k++(if iM L k=noT∨iM L k=dH then [((k+1:Nat):Int)] else []):=rfl;rw [this,if_neg ha,List.append_nil]
theorem agk (L:List ByteArray) (k n:Nat) (h:k<n):∃rest,ac (fm (eu L n))=ac (fm (eu L k))++(ac (iM L k)++10::rest):=by
 obtain⟨r,hr⟩:=Sj L k n h;refine⟨ac (fm r),?_⟩
 rw [hr,FZ,be];simp only [fm,be];simp [ac]
theorem UV (L:List ByteArray) (k:Nat):(fm (eu L (k+1))).size=(fm (eu L k)).size+(iM L k).size+1:=by
 have:eu L (k+1)=eu L k++[iM L k]:=rfl;rw [this,FZ,ain];simp only [fm,ain,sz1];have:(⟨#[]⟩:ByteArray).size=0:=rfl;omega
theorem Jg (L:List ByteArray):∀k,(fm (eu L k)).size≤1001*k
 | 0=>aiv _
 | k+1=>by
  have h1:=Jg L k;have h2:=BM (wM L k).1 (L.getD k ⟨⟨[]⟩⟩);have h3:(iM L k).size≤1000:=h2;rw [UV];omega
theorem aig (L:List ByteArray) (k:Nat):nl (iM L k):=ae6 _ _
theorem ad3 (L:List ByteArray) (n:Nat):(dr L n).length=kS noT (eu L n)+kS dH (eu L n):=by
 obtain⟨h1,h2⟩:=TT L n;rw [(sG L n).2.2.1.length_eq,aiq,h1,h2]
theorem Zy {b:UInt8} (h:b≠10):¬(b.toNat:Int)=10:=fun e=>h (UInt8.toNat_inj.1 (by have e2:(10:UInt8).toNat=10:=rfl;omega))
set_option maxHeartbeats 2000000 in
theorem WO (a b:List Int) (ha:∀n∈a,0≤n∧n≤255):kR [rV a,rV b]=some (.ret [B true] []):=by
 rw [Iy];obtain⟨p,e0,hp⟩:=YW a b;cases p
 case true=>simp -implicitDefEqProofs only [aq,aik,ail,aim,e0]
 obtain⟨s,e1,hs⟩:=Pa a ⟨ha,(hp rfl).1⟩;have hz:s.size≤1048576:=by omega
 have h40:=Hx s;have e2:=Ks s hz;rw [acx] at e2;have e3:=xQ s hz;have e4:=ET s hz;have e5:=Fu s hz;have e6:=Cy s hz (by omega);have e7:=Cg s hz;cases hk:okC s
 ·rw [hk] at e4 e5 e6 e7
  simp only [Bool.false_eq_true,if_false] at e4 e5;have e8:=yk [] (by simp);have ho:(lw s).out=⟨⟨[]⟩⟩:=by unfold lw;rw [if_neg (by rw [hk];simp)];rfl
  rw [ho] at e2 e3;simp -implicitDefEqProofs only [aq,aik,ail,aim,e0,e1,e2,e3,e4,e5,e6,e7,e8,ahC,t1V,afT,af5,t0V,ahL,ahs,ir,WJ,beq_self_eq_true,af]
 ·rw [hk] at e4 e5 e6 e7
  simp only [if_true] at e4 e5;have hR:lw s=dq (aS s) (aS s).length:=by unfold lw;rw [if_pos hk]
  have hA:iO s=eu (aS s) (aS s).length:=by unfold iO;rw [if_pos hk]
  have hn:=abo s;rw [hR,←Oo] at e2 e3;rw [hA] at e6 e7 h40;rw [gF] at e6 e7 h40;have hf:=ad3 (aS s) (aS s).length;have hfl:=(sG (aS s) (aS s).length).2.2.2;have e8:=yk (dr (aS s) (aS s).length) (by omega);generalize aS s=L at *;generalize hnn:L.length=n at *;have hos:=Jg L n;have hc1:=Ix noT (eu L n);have hc2:=Ix dH (eu L n);rw [gF] at hc1 hc2;generalize kS noT (eu L n)=c0 at *;generalize kS dH (eu L n)=c1 at *;simp -implicitDefEqProofs only [aq,aik,ail,aim,e0,e1,e2,e3,e4,e5,e6,e7,e8,ahC,t1V,afT,af5,t0V,ahL,ahs,ir,WJ,beq_self_eq_true,af];refine bH (fun X=>X=some (.ret [B true] [])) (fun q:Nat × Nat=>[T s,T (fm (eu L n)),ai (dr L n),I c0,I c1,I ((n:Int) - c0 - c1),I q.1,I (dr L q.1).length,I (fm (eu L q.1)).size,I (((fm (eu L q.1)).size+q.2:Nat):Int)])
   (fun q=>(q.1<n∧q.2≤(iM L q.1).size)∨(q.1=n∧q.2=0)) (fun q=>1000000 - ((fm (eu L q.1)).size+q.2)) (fun o=>o = .ext 0 [T s,ai (dr L n),I c0,I c1,I ((n:Int) - c0 - c1),I (dr L n).length]) ?_ (0,0) ?_ rfl ?_
  ·rintro⟨k,j⟩ hI
   dsimp only at hI;rcases hI with ⟨hkn,hj⟩ | ⟨hkn,hj⟩
   ·obtain⟨rest,hch⟩:=agk L k n hkn
    have hsk:=Jg L k;have hlen:(ac (fm (eu L n))).length=(fm (eu L n)).size:=rfl;have hlk:(ac (fm (eu L k))).length=(fm (eu L k)).size:=rfl;have hla:(ac (iM L k)).length=(iM L k).size:=rfl;have hl2:=congrArg List.length hch;simp only [aiq,ais] at hl2;have hi:((((fm (eu L k)).size+j:Nat):Int)<((fm (eu L n)).size:Int)):=by omega
    have hw:aio.wrap ((((fm (eu L k)).size+j:Nat):Int)+1)=(((fm (eu L k)).size+(j+1):Nat):Int):=by rw [ah (by omega) (by omega)];omega
    have hchar:∀x,(ac (iM L k)++10::rest)[j]?=some x→hZ (T (fm (eu L n))) (I (((fm (eu L k)).size+j:Nat):Int))=some (U (x.toNat:Int)):=by
     intro x hx;rw [kI,hch,aip (by omega),hlk,Nat.add_sub_cancel_left,hx];rfl
    by_cases hjl:j<(iM L k).size
    ·have hx:(ac (iM L k)++10::rest)[j]?=some ((ac (iM L k))[j]'(by omega)):=by
      rw [List.getElem?_append_left (by omega),ait (by omega)]
     have hb:=Zy (aig L k _ (List.getElem_mem (show j<(ac (iM L k)).length by omega)));have hc:=hchar _ hx;refine .inl ⟨(k,j+1),?_,.inl ⟨hkn,by dsimp only;omega⟩,by dsimp only;omega⟩
     simp -implicitDefEqProofs only [aq,aik,ail,aim,hi,hc,decide_eq_false hb,hw]
    ·have hje:j=(iM L k).size:=by omega
     subst hje;have hx:(ac (iM L k)++10::rest)[(iM L k).size]?=some 10:=by
      rw [aip (by omega),hla,Nat.sub_self];rfl
     have hc:=hchar _ hx;have h10:(((10:UInt8).toNat:Nat):Int)=10:=rfl;rw [h10] at hc;have hw1:aio.wrap ((k:Int)+1)=((k+1:Nat):Int):=by rw [ah (by omega) (by omega)];rfl
     have hsl:dl true 0 (T (fm (eu L n))) (I ((fm (eu L k)).size:Int)) (I (((fm (eu L k)).size+(iM L k).size:Nat):Int))=some (T (iM L k)):=by
      rw [Ya (by omega) (by omega)];congr 2
      apply bN;rw [eA,hch,←air,List.take_append_of_le_length (by rw [aiq];omega),aiu (by rw [aiq];omega),←hlk,List.drop_left]
     have hsu:=UV L k;have hnext:(((fm (eu L k)).size+((iM L k).size+1):Nat):Int)=(((fm (eu L (k+1))).size+0:Nat):Int):=by omega
     have hnext':(((fm (eu L k)).size+((iM L k).size+1):Nat):Int)=((fm (eu L (k+1))).size:Int):=by omega
     have hlast:(k+1<n∧0≤(iM L (k+1)).size)∨(k+1=n∧0=0):=by omega
     refine .inl ⟨(k+1,0),?_,hlast,by dsimp only;omega⟩
     by_cases hno:iM L k=noT∨iM L k=dH
     ·obtain⟨f1,f2,f3⟩:=acC L k n hkn hno
      have f1':¬((dr L n).length:Int)≤((dr L k).length:Int):=by omega
      have hel:ao 1 (ai (dr L n)) (I ((dr L k).length:Int))=some [I ((k+1:Nat):Int)]:=by
       rw [oE,List.getElem?_map,f2];rfl
      have hw2:aio.wrap (((dr L k).length:Int)+1)=((dr L (k+1)).length:Int):=by rw [ah (by omega) (by omega),f3];rfl
      rw [←hnext];rcases hno with hno | hno
      ·have hq:decide (iM L k=noT)=true:=decide_eq_true hno
       simp -implicitDefEqProofs only [aq,aik,ail,aim,hi,hc,hw1,hsl,OL,AF,af,hq,f1',hel,hw2,hw,hnext']
      ·have hq:decide (iM L k=noT)=false:=decide_eq_false (by rw [hno];exact fun e=>Tv e.symm)
       have hq2:decide (iM L k=dH)=true:=decide_eq_true hno;simp -implicitDefEqProofs only [aq,aik,ail,aim,hi,hc,hw1,hsl,OL,AF,af,hq,hq2,f1',hel,hw2,hw,hnext']
     ·have hq:decide (iM L k=noT)=false:=decide_eq_false fun e=>hno (.inl e)
      have hq2:decide (iM L k=dH)=false:=decide_eq_false fun e=>hno (.inr e)
      rw [aan L k hno,←hnext];simp -implicitDefEqProofs only [aq,aik,ail,aim,hi,hc,hw1,hsl,OL,AF,af,hq,hq2,hw,hnext']
   ·subst hkn
    subst hj;have hi:¬((((fm (eu L k)).size+0:Nat):Int)<((fm (eu L k)).size:Int)):=by omega
    refine .inr ⟨_,?_,rfl,rfl⟩
    simp -implicitDefEqProofs only [aq,aik,ail,aim,hi]
  ·show(0<n∧0≤(iM L 0).size)∨(0=n∧0=0)
   omega
  ·rintro o rfl
   simp -implicitDefEqProofs only [aq,aik,ail,aim,dE];refine aG (.ext 2 [ai (dr L n),I c0,I c1,I ((n:Int) - c0 - c1),I (dr L n).length,I (nlN (ac s))]) (aY s.size (fun i=>[T s,ai (dr L n),I c0,I c1,I ((n:Int) - c0 - c1),I (dr L n).length,I (nlN ((ac s).take i)),I i]) _ (fun i hi=>?_) ?_ rfl rfl) ?_
   ·have hlen:(ac s).length=s.size:=rfl
    have hi':(i:Int)<s.size:=by omega
    have hc:hZ (T s) (I (i:Int))=some (U (((ac s)[i]'(by omega)).toNat:Int)):=by
     rw [kI,ait (by omega)];rfl
    have ht:(ac s).take (i+1)=(ac s).take i++[(ac s)[i]'(by omega)]:=List.take_succ_eq_append_getElem (by omega);have hw:aio.wrap ((i:Int)+1)=((i+1:Nat):Int):=by rw [ah (by omega) (by omega)];rfl
    have hle:nlN ((ac s).take i)≤i:=by
     unfold nlN;refine Nat.le_trans (List.length_filter_le _ _) ?_
     rw [List.length_take];omega
    have hw2:aio.wrap ((nlN ((ac s).take i):Int)+1)=((nlN ((ac s).take i)+1:Nat):Int):=by rw [ah (by omega) (by omega)];rfl
    rw [ht,SU];generalize (ac s)[i]'(by omega)=x at *;by_cases hx:x=10
    ·have h10:nlN [x]=1:=by rw [hx];rfl
     have hxx:(x.toNat:Int)=10:=by rw [hx];rfl
     rw [h10];simp -implicitDefEqProofs only [aq,aik,ail,aim,hi',hc,hxx,decide_true,hw,hw2]
    ·have h10:nlN [x]=0:=by unfold nlN;simp [hx]
     rw [h10];simp -implicitDefEqProofs only [aq,aik,ail,aim,hi',hc,decide_eq_false (Zy hx),hw,Nat.add_zero]
   ·have hi':¬(s.size:Int)<s.size:=by omega
    have ht:(ac s).take s.size=ac s:=aiu (aiv _);simp -implicitDefEqProofs only [aq,aik,ail,aim,hi',ht]
   ·have hw1:aio.wrap ((c0:Int)+c1)=(c0:Int)+c1:=ah (by omega) (by omega)
    have hw2:aio.wrap ((c0:Int)+c1+((n:Int) - c0 - c1))=(n:Int):=by rw [ah (by omega) (by omega)];omega
    have hq1:decide ((c0:Int)+c1=((dr L n).length:Int))=true:=decide_eq_true (by omega);have hq2:decide ((n:Int)=(nlN (ac s):Int))=true:=decide_eq_true (by omega);simp -implicitDefEqProofs only [aq,aik,ail,aim,dE,hw1,hw2,hq1,hq2]
end Go.Proofs.YtjafgdefcggjcaaGreatDoor

end
