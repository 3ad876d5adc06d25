/-
  A part of the proof: contracts and plain forms of functions beneath the statement, made small by a program (names shortened, what is not needed left out).
-/
import Derived.Test.YtidhhpakdogiaaaGreatDoorRows
import Derived.Test.YtidhhpakdogiaaaGreatDoorTie
import Derived.Test.YtidhhpakdogiaaaGreatDoorCards
import Derived.Test.YtidhhpakdogiaaaGreatDoorM6
open Int renaming reduceLT → GK, reduceLE → GL, reduceEq → GM, eq_ofNat_of_zero_le → GN
open Go.IntKind renaming i64 → GO
open List renaming length_map → GP, mem_append → GT, length_singleton → GU, mem_cons → GW, getElem_mem → GY
open Bool renaming false_eq_true → GQ, and_eq_true → GS, not_true → GX
open Option renaming bind_some → GR
open Go.Value renaming bool → GV
set_option maxRecDepth 100000
set_option linter.unusedSimpArgs false
set_option linter.unusedVariables false
noncomputable section
namespace Go.Proofs.YtidhhpakdogiaaaGreatDoor
open Go Go.V
set_option maxRecDepth 100000
theorem FH (k:Int) (d:ByteArray):gk [(2,1)] [I 0,I 0,I 0,T d] [I k]=some (.agg [I 0,I 0,I k,T d]):=by simp [gk,oc]
theorem lf (a b c k:Int) (d:ByteArray):stD 1 (.agg [I a,I b,I c,T d]) (.ref 0 0) (I k)=some (.agg [I k,I b,I c,T d]):=by simp
theorem kU (a b c k:Int) (d:ByteArray):stD 1 (.agg [I a,I b,I c,T d]) (.ref 0 1) (I k)=some (.agg [I a,I k,I c,T d]):=by simp
theorem eZ (a b c:Int) (d e:ByteArray):stD 1 (.agg [I a,I b,I c,T d]) (.ref 0 3) (T e)=some (.agg [I a,I b,I c,T e]):=by simp
def W5:List ByteArray:=[⟨⟨[97]⟩⟩,⟨⟨[98]⟩⟩,⟨⟨[120,121]⟩⟩,⟨⟨[32]⟩⟩,⟨⟨[116,104,101,32]⟩⟩]
theorem Gf:∀s∈W5,Tx 11 s:=sx (by decide)
def V4:List ByteArray:=[⟨⟨[]⟩⟩,⟨⟨[65]⟩⟩,⟨⟨[97,98,99,100,101,102,103,104,105,106]⟩⟩,⟨⟨[97,98,99,100,101,102,103,104,105,106,107]⟩⟩]
theorem Gc:∀s∈V4,Tx 11 s:=sx (by decide)
theorem Tx.nil (n:Nat):Tx n ⟨⟨[]⟩⟩:=⟨by show 0≤n;omega,zN⟩
theorem wq (c:Cur) (B:Nat) (h:c.ok B) (hB:B≤10000000) (lines:List ByteArray) (hL:Ln lines):∃(m:Mk) (c':Cur),bQ [bh c,txs lines]=some (.ret [mkD m] [bh c'])∧Tx 11 m.2.2.2∧c'.ok (B+30):=by
 rw [qc];have hn:=hL.ln;have mk7:aC 1 [I 1,I 1,I 2,I 2,I 3,I 3,I 4]=some (nQ [1,1,2,2,3,3,4]):=ur (l:=[1,1,2,2,3,3,4]);have m11:aC 1 [I 11,I 12,I (-1)]=some (nQ [11,12,-1]):=ur (l:=[11,12,-1]);have m40:aC 1 [I 40,I 41,I (-1)]=some (nQ [40,41,-1]):=ur (l:=[40,41,-1]);have m05:aC 1 [I 0,I 5]=some (nQ [0,5]):=ur (l:=[0,5]);have mw5:aC 1 [T ⟨⟨[97]⟩⟩,T ⟨⟨[98]⟩⟩,T ⟨⟨[120,121]⟩⟩,T ⟨⟨[32]⟩⟩,T ⟨⟨[116,104,101,32]⟩⟩]=some (txs W5):=vx (l:=W5);have mv4:aC 1 [T ⟨⟨[]⟩⟩,T ⟨⟨[65]⟩⟩,T ⟨⟨[97,98,99,100,101,102,103,104,105,106]⟩⟩,T ⟨⟨[97,98,99,100,101,102,103,104,105,106,107]⟩⟩]=some (txs V4):=vx (l:=V4);obtain⟨k,c1,e1,-,k1⟩:=pG c [1,1,2,2,3,3,4] B h (by omega) (by simp) (by simp);have of5:∀c:Cur,c.ok (B+10)→∃w c',aF [bh c,txs W5]=some (.ret [T w] [bh c'])∧Tx 11 w∧c'.ok (B+12):=fun c hc=>by
  obtain⟨w,c',e,hw,k⟩:=Cm c W5 _ hc (by omega) (by decide) (by decide);exact⟨w,c',e,Gf w hw,k.mono (by omega)⟩
 have tail:∀c:Cur,c.ok (B+12)→∃q c',al [bh c,I 40]=some (.ret [I q] [bh c'])∧c'.ok (B+14)∧(∃v c2,au [bh c',nQ [11,12,-1]]=some (.ret [I v] [bh c2])∧c2.ok (B+20))∧(∃v c2,au [bh c',nQ [40,41,-1]]=some (.ret [I v] [bh c2])∧c2.ok (B+20)) ∧
   (∃v c2,au [bh c',nQ [0,5]]=some (.ret [I v] [bh c2])∧c2.ok (B+20))∧(∃w c2,aF [bh c',txs V4]=some (.ret [T w] [bh c2])∧Tx 11 w∧c2.ok (B+20)):=fun c hc=>by
  obtain⟨q,c1,e1,-,-,k1⟩:=eA c 40 _ hc (by omega) (by omega);obtain⟨a,c2,e2,-,k2⟩:=pG c1 [11,12,-1] _ k1 (by omega) (by simp) (by simp);obtain⟨b,c3,e3,-,k3⟩:=pG c1 [40,41,-1] _ k1 (by omega) (by simp) (by simp);obtain⟨d,c4,e4,-,k4⟩:=pG c1 [0,5] _ k1 (by omega) (by simp) (by simp);obtain⟨w,c5,e5,hw,k5⟩:=Cm c1 V4 _ k1 (by omega) (by decide) (by decide);exact⟨q,c1,e1,k1.mono (by omega),⟨a,c2,e2,k2.mono (by omega)⟩,⟨b,c3,e3,k3.mono (by omega)⟩,⟨d,c4,e4,k4.mono (by omega)⟩,w,c5,e5,Gc w hw,k5.mono (by omega)⟩
 simp -implicitDefEqProofs only [ai,GK,GL,GM,tS',mk7,e1,FH,ax];by_cases hpos:0<lines.length
 ·have hpos':(0:Int)<(lines.length:Int):=by omega
  obtain⟨v,c2,e2,l2,u2,k2⟩:=eA c1 (lines.length:Int) _ k1 (by omega) (by omega);obtain⟨v,rfl⟩:=GN l2;have hv:v<lines.length:=by omega
  have hg:=kW hv;have hsz:=hL.sz _ (GY hv);generalize lines[v]=s at hg hsz;have hw:GO.wrap ((s.size:Int)+1)=(s.size:Int)+1:=aA (by omega) (by omega);obtain⟨a,c3,e3,-,-,k3⟩:=eA c2 ((s.size:Int)+1) _ k2 (by omega) (by omega);simp -implicitDefEqProofs only [ai,GK,GL,GM,hpos',e2,lf,hg,hw,e3,kU];by_cases kk:k=2∨k=3
  ·obtain⟨w,cw,ew,hw,kw⟩:=of5 c3 (k3.mono (by omega))
   rcases kk with kk | kk
   ·simp -implicitDefEqProofs only [ai,GK,GL,GM,kk,mw5,ew,eZ]
    obtain⟨q,cq,eq1,kq,⟨v1,cv1,ev1,kv1⟩,⟨v2,cv2,ev2,kv2⟩,⟨v3,cv3,ev3,kv3⟩,v4,cv4,ev4,hv4,kv4⟩:=tail cw (kw.mono (by omega));simp -implicitDefEqProofs only [ai,GK,GL,GM,eq1];by_cases q0:q=0
    ·simp -implicitDefEqProofs only [ai,GK,GL,GM,q0,m11,ev1,lf,aJ,ax]
     exact⟨(_,_,_,_),_,rfl,hw,kv1.mono (by omega)⟩
    by_cases q1:q=1
    ·simp -implicitDefEqProofs only [ai,GK,GL,GM,q0,q1,m40,ev2,kU,aJ,ax]
     exact⟨(_,_,_,_),_,rfl,hw,kv2.mono (by omega)⟩
    by_cases q2:q=2
    ·simp -implicitDefEqProofs only [ai,GK,GL,GM,q0,q1,q2,m05,ev3,jF,aJ,ax]
     exact⟨(_,_,_,_),_,rfl,hw,kv3.mono (by omega)⟩
    by_cases q3:q=3
    ·simp -implicitDefEqProofs only [ai,GK,GL,GM,q0,q1,q2,q3,tS',mv4,ev4,eZ,aJ,ax]
     exact⟨(_,_,_,_),_,rfl,hv4,kv4.mono (by omega)⟩
    ·simp -implicitDefEqProofs only [ai,GK,GL,GM,q0,q1,q2,q3,aJ,ax]
     exact⟨(_,_,_,_),_,rfl,hw,kq.mono (by omega)⟩
   ·simp -implicitDefEqProofs only [ai,GK,GL,GM,kk,mw5,ew,eZ]
    obtain⟨q,cq,eq1,kq,⟨v1,cv1,ev1,kv1⟩,⟨v2,cv2,ev2,kv2⟩,⟨v3,cv3,ev3,kv3⟩,v4,cv4,ev4,hv4,kv4⟩:=tail cw (kw.mono (by omega));simp -implicitDefEqProofs only [ai,GK,GL,GM,eq1];by_cases q0:q=0
    ·simp -implicitDefEqProofs only [ai,GK,GL,GM,q0,m11,ev1,lf,aJ,ax]
     exact⟨(_,_,_,_),_,rfl,hw,kv1.mono (by omega)⟩
    by_cases q1:q=1
    ·simp -implicitDefEqProofs only [ai,GK,GL,GM,q0,q1,m40,ev2,kU,aJ,ax]
     exact⟨(_,_,_,_),_,rfl,hw,kv2.mono (by omega)⟩
    by_cases q2:q=2
    ·simp -implicitDefEqProofs only [ai,GK,GL,GM,q0,q1,q2,m05,ev3,jF,aJ,ax]
     exact⟨(_,_,_,_),_,rfl,hw,kv3.mono (by omega)⟩
    by_cases q3:q=3
    ·simp -implicitDefEqProofs only [ai,GK,GL,GM,q0,q1,q2,q3,tS',mv4,ev4,eZ,aJ,ax]
     exact⟨(_,_,_,_),_,rfl,hv4,kv4.mono (by omega)⟩
    ·simp -implicitDefEqProofs only [ai,GK,GL,GM,q0,q1,q2,q3,aJ,ax]
     exact⟨(_,_,_,_),_,rfl,hw,kq.mono (by omega)⟩
  ·have n2:¬k=2:=fun e=>kk (.inl e)
   have n3:¬k=3:=fun e=>kk (.inr e)
   simp -implicitDefEqProofs only [ai,GK,GL,GM,n2,n3];obtain⟨q,cq,eq1,kq,⟨v1,cv1,ev1,kv1⟩,⟨v2,cv2,ev2,kv2⟩,⟨v3,cv3,ev3,kv3⟩,v4,cv4,ev4,hv4,kv4⟩:=tail c3 (k3.mono (by omega));simp -implicitDefEqProofs only [ai,GK,GL,GM,eq1];by_cases q0:q=0
   ·simp -implicitDefEqProofs only [ai,GK,GL,GM,q0,m11,ev1,lf,aJ,ax]
    exact⟨(_,_,_,_),_,rfl,Tx.nil 11,kv1.mono (by omega)⟩
   by_cases q1:q=1
   ·simp -implicitDefEqProofs only [ai,GK,GL,GM,q0,q1,m40,ev2,kU,aJ,ax]
    exact⟨(_,_,_,_),_,rfl,Tx.nil 11,kv2.mono (by omega)⟩
   by_cases q2:q=2
   ·simp -implicitDefEqProofs only [ai,GK,GL,GM,q0,q1,q2,m05,ev3,jF,aJ,ax]
    exact⟨(_,_,_,_),_,rfl,Tx.nil 11,kv3.mono (by omega)⟩
   by_cases q3:q=3
   ·simp -implicitDefEqProofs only [ai,GK,GL,GM,q0,q1,q2,q3,tS',mv4,ev4,eZ,aJ,ax]
    exact⟨(_,_,_,_),_,rfl,hv4,kv4.mono (by omega)⟩
   ·simp -implicitDefEqProofs only [ai,GK,GL,GM,q0,q1,q2,q3,aJ,ax]
    exact⟨(_,_,_,_),_,rfl,Tx.nil 11,kq.mono (by omega)⟩
 ·have hpos':¬(0:Int)<(lines.length:Int):=by omega
  simp -implicitDefEqProofs only [ai,GK,GL,GM,hpos'];by_cases kk:k=2∨k=3
  ·obtain⟨w,cw,ew,hw,kw⟩:=of5 c1 (k1.mono (by omega))
   rcases kk with kk | kk
   ·simp -implicitDefEqProofs only [ai,GK,GL,GM,kk,mw5,ew,eZ]
    obtain⟨q,cq,eq1,kq,⟨v1,cv1,ev1,kv1⟩,⟨v2,cv2,ev2,kv2⟩,⟨v3,cv3,ev3,kv3⟩,v4,cv4,ev4,hv4,kv4⟩:=tail cw (kw.mono (by omega));simp -implicitDefEqProofs only [ai,GK,GL,GM,eq1];by_cases q0:q=0
    ·simp -implicitDefEqProofs only [ai,GK,GL,GM,q0,m11,ev1,lf,aJ,ax]
     exact⟨(_,_,_,_),_,rfl,hw,kv1.mono (by omega)⟩
    by_cases q1:q=1
    ·simp -implicitDefEqProofs only [ai,GK,GL,GM,q0,q1,m40,ev2,kU,aJ,ax]
     exact⟨(_,_,_,_),_,rfl,hw,kv2.mono (by omega)⟩
    by_cases q2:q=2
    ·simp -implicitDefEqProofs only [ai,GK,GL,GM,q0,q1,q2,m05,ev3,jF,aJ,ax]
     exact⟨(_,_,_,_),_,rfl,hw,kv3.mono (by omega)⟩
    by_cases q3:q=3
    ·simp -implicitDefEqProofs only [ai,GK,GL,GM,q0,q1,q2,q3,tS',mv4,ev4,eZ,aJ,ax]
     exact⟨(_,_,_,_),_,rfl,hv4,kv4.mono (by omega)⟩
    ·simp -implicitDefEqProofs only [ai,GK,GL,GM,q0,q1,q2,q3,aJ,ax]
     exact⟨(_,_,_,_),_,rfl,hw,kq.mono (by omega)⟩
   ·simp -implicitDefEqProofs only [ai,GK,GL,GM,kk,mw5,ew,eZ]
    obtain⟨q,cq,eq1,kq,⟨v1,cv1,ev1,kv1⟩,⟨v2,cv2,ev2,kv2⟩,⟨v3,cv3,ev3,kv3⟩,v4,cv4,ev4,hv4,kv4⟩:=tail cw (kw.mono (by omega));simp -implicitDefEqProofs only [ai,GK,GL,GM,eq1];by_cases q0:q=0
    ·simp -implicitDefEqProofs only [ai,GK,GL,GM,q0,m11,ev1,lf,aJ,ax]
     exact⟨(_,_,_,_),_,rfl,hw,kv1.mono (by omega)⟩
    by_cases q1:q=1
    ·simp -implicitDefEqProofs only [ai,GK,GL,GM,q0,q1,m40,ev2,kU,aJ,ax]
     exact⟨(_,_,_,_),_,rfl,hw,kv2.mono (by omega)⟩
    by_cases q2:q=2
    ·simp -implicitDefEqProofs only [ai,GK,GL,GM,q0,q1,q2,m05,ev3,jF,aJ,ax]
     exact⟨(_,_,_,_),_,rfl,hw,kv3.mono (by omega)⟩
    by_cases q3:q=3
    ·simp -implicitDefEqProofs only [ai,GK,GL,GM,q0,q1,q2,q3,tS',mv4,ev4,eZ,aJ,ax]
     exact⟨(_,_,_,_),_,rfl,hv4,kv4.mono (by omega)⟩
    ·simp -implicitDefEqProofs only [ai,GK,GL,GM,q0,q1,q2,q3,aJ,ax]
     exact⟨(_,_,_,_),_,rfl,hw,kq.mono (by omega)⟩
  ·have n2:¬k=2:=fun e=>kk (.inl e)
   have n3:¬k=3:=fun e=>kk (.inr e)
   simp -implicitDefEqProofs only [ai,GK,GL,GM,n2,n3];obtain⟨q,cq,eq1,kq,⟨v1,cv1,ev1,kv1⟩,⟨v2,cv2,ev2,kv2⟩,⟨v3,cv3,ev3,kv3⟩,v4,cv4,ev4,hv4,kv4⟩:=tail c1 (k1.mono (by omega));simp -implicitDefEqProofs only [ai,GK,GL,GM,eq1];by_cases q0:q=0
   ·simp -implicitDefEqProofs only [ai,GK,GL,GM,q0,m11,ev1,lf,aJ,ax]
    exact⟨(_,_,_,_),_,rfl,Tx.nil 11,kv1.mono (by omega)⟩
   by_cases q1:q=1
   ·simp -implicitDefEqProofs only [ai,GK,GL,GM,q0,q1,m40,ev2,kU,aJ,ax]
    exact⟨(_,_,_,_),_,rfl,Tx.nil 11,kv2.mono (by omega)⟩
   by_cases q2:q=2
   ·simp -implicitDefEqProofs only [ai,GK,GL,GM,q0,q1,q2,m05,ev3,jF,aJ,ax]
    exact⟨(_,_,_,_),_,rfl,Tx.nil 11,kv3.mono (by omega)⟩
   by_cases q3:q=3
   ·simp -implicitDefEqProofs only [ai,GK,GL,GM,q0,q1,q2,q3,tS',mv4,ev4,eZ,aJ,ax]
    exact⟨(_,_,_,_),_,rfl,hv4,kv4.mono (by omega)⟩
   ·simp -implicitDefEqProofs only [ai,GK,GL,GM,q0,q1,q2,q3,aJ,ax]
    exact⟨(_,_,_,_),_,rfl,Tx.nil 11,kq.mono (by omega)⟩
theorem jP (m:Mk):aC 4 [mkD m]=some (mks [m]):=by simp [aC,gc]
theorem gA (l:List Mk):iu (mks l)=some (mks l):=ko fun _=>rfl
theorem zS {l m:List Mk} (h:l.length+m.length≤1048577):fT 4 40 (mks l) (mks m)=some (mks (l++m)):=by
 rw [jz,if_pos (by simp only [GP];omega)];show _=some (D.arr 4 ((l++m).map mkD))
 rw [List.map_append]
structure Ms (l:List Mk):Prop where
 ln:l.length≤21
 tx:∀m∈l,Tx 11 m.2.2.2
theorem zC {body:List D→Option Out} {K:Out→Option Out} (lines:List ByteArray) (B n:Nat) (hn:n≤21) (c0:Cur) (h0:c0.ok B) (Q:Option Out→Prop)
  (hs:∀(c:Cur) (l:List Mk),c.ok (B+50*l.length)→l.length<n→∃m c',body [bh c,txs lines,mks l,I (n:Int)]=some (.nrm [bh c',txs lines,mks (l++[m]),I (n:Int)])∧Tx 11 m.2.2.2∧c'.ok (B+50*(l.length+1)))
  (he:∀(c:Cur) (l:List Mk),¬l.length<n→body [bh c,txs lines,mks l,I (n:Int)]=some (.ext 0 [bh c,mks l]))
  (hK:∀(c:Cur) (l:List Mk),Ms l→c.ok (B+1500)→Q (K (.ext 0 [bh c,mks l]))):Q ((aY body [bh c0,txs lines,mks [],I (n:Int)]).bind K):=by
 refine cB Q (fun a:Cur × List Mk=>[bh a.1,txs lines,mks a.2,I (n:Int)]) (fun a=>a.1.ok (B+50*a.2.length)∧a.2.length≤n∧∀m∈a.2,Tx 11 m.2.2.2) (fun a=>n - a.2.length)
  (fun o=>∃(c:Cur) (l:List Mk),o = .ext 0 [bh c,mks l]∧Ms l∧c.ok (B+1500)) ?_ (c0,[]) ⟨h0.mono (by simp),by simp,by simp⟩ rfl ?_
 ·rintro⟨c,l⟩ ⟨h1,h2,h3⟩
  simp only at h1 h2 h3;by_cases hlt:l.length<n
  ·obtain⟨m,c',e,k1,k2⟩:=hs c l h1 hlt
   refine .inl ⟨(c',l++[m]),e,⟨by simpa using k2,by simp;omega,fun x hx=>?_⟩,by simp;omega⟩
   rcases GT.1 hx with hx | hx
   ·exact h3 x hx
   ·rw [List.mem_singleton.1 hx];exact k1
  ·exact .inr ⟨_,he c l hlt,rfl,c,l,rfl,⟨by omega,h3⟩,h1.mono (by omega)⟩
 ·rintro o ⟨c,l,rfl,g1,g2⟩
  exact hK c l g1 g2
theorem FU:Tx 11 ⟨⟨[122]⟩⟩:=⟨by decide,sr _ (by decide)⟩
theorem EE (c:Cur) (B:Nat) (h:c.ok B) (hB:B≤1000000) (lines:List ByteArray) (hL:Ln lines):∃(l:List Mk) (c':Cur),dK [bh c,txs lines]=some (.ret [mks l] [bh c'])∧Ms l∧c'.ok (B+2000):=by
 rw [oB];have hn:=hL.ln;obtain⟨v,c1,e1,l1,u1,k1⟩:=eA c 6 B h (by omega) (by omega);obtain⟨v,rfl⟩:=GN l1;obtain⟨b,c2,e2,k2⟩:=xj c1 16 _ k1 (by omega) (by omega);have em:D.arr 4 []=mks []:=rfl;have hwl:GO.wrap ((lines.length:Int) - 1)=(lines.length:Int) - 1:=aA (by omega) (by omega);simp -implicitDefEqProofs only [ai,GK,GL,GM,e1,e2,em];cases b
 ·simp -implicitDefEqProofs only [ai,GK,GL,GM]
  refine zC lines (B+10) (v) (by omega) c2 (k2.mono (by omega)) (fun X=>∃(l:List Mk) (c':Cur),X=some (.ret [mks l] [bh c'])∧Ms l∧c'.ok (B+2000)) (fun c l h1 hlt=>?_) (fun c l hlt=>?_) (fun c l h1 h3=>?_)
  ·have hlt':(l.length:Int)<((v:Nat):Int):=by omega
   obtain⟨m,c4,e4,ht,k4⟩:=wq c _ h1 (by omega) lines hL;obtain⟨b,c5,e5,k5⟩:=xj c4 4 _ k4 (by omega) (by omega);have hap:=fun m=>zS (l:=l) (m:=[m]) (by simp only [GU];omega)
   have hin:=cN m.1 0 ((lines.length:Int) - 1);cases b
   ·by_cases hr:0≤m.1∧m.1≤(lines.length:Int) - 1
    ·rw [decide_eq_true hr] at hin
     obtain⟨i,hi⟩:=GN hr.1;have hi2:i<lines.length:=by omega
     have hg:=kW hi2;rw [←hi] at hg;by_cases ha:m.2.1=(lines[i].size:Int)
     ·by_cases hk:m.2.2.1=4
      ·replace ha:=decide_eq_true ha
       replace hk:=decide_eq_true hk;have ho:=jP m;have hp:=hap m;refine⟨m,c5,?_,ht,k5.mono (by omega)⟩
       simp -implicitDefEqProofs only [ai,GK,GL,GM,hlt',e4,tS',ax,e5,hwl,hin,hg,ha,hk,aJ,ho,gA,hp]
      ·have ho:=jP (m.1,m.2.1,2,⟨⟨[122]⟩⟩)
       have hp:=hap (m.1,m.2.1,2,⟨⟨[122]⟩⟩);replace ha:=decide_eq_true ha;refine⟨(m.1,m.2.1,2,⟨⟨[122]⟩⟩),c5,?_,FU,k5.mono (by omega)⟩
       simp -implicitDefEqProofs only [ai,GK,GL,GM,hlt',e4,tS',ax,e5,hwl,hin,hg,ha,hk,jF,eZ,aJ,ho,gA,hp]
     ·have ho:=jP m
      have hp:=hap m;refine⟨m,c5,?_,ht,k5.mono (by omega)⟩
      simp -implicitDefEqProofs only [ai,GK,GL,GM,hlt',e4,tS',ax,e5,hwl,hin,hg,ha,aJ,ho,gA,hp]
    ·rw [decide_eq_false hr] at hin
     have ho:=jP m;have hp:=hap m;refine⟨m,c5,?_,ht,k5.mono (by omega)⟩
     simp -implicitDefEqProofs only [ai,GK,GL,GM,hlt',e4,tS',ax,e5,hwl,hin,aJ,ho,gA,hp]
   ·have ho:=jP m
    have hp:=hap m;refine⟨m,c5,?_,ht,k5.mono (by omega)⟩
    simp -implicitDefEqProofs only [ai,GK,GL,GM,hlt',e4,tS',ax,e5,aJ,ho,gA,hp]
  ·have hlt':¬(l.length:Int)<((v:Nat):Int):=by omega
   simp -implicitDefEqProofs only [ai,GK,GL,GM,hlt']
  ·refine⟨l,c,?_,h1,h3.mono (by omega)⟩
   simp -implicitDefEqProofs only [ai,GK,GL,GM]
 ·obtain⟨x,c3,e3,l3,u3,k3⟩:=eA c2 2 _ k2 (by omega) (by omega)
  obtain⟨x,rfl⟩:=GN l3;have hw20:GO.wrap (20+(x:Int))=((20+x:Nat):Int):=by rw [aA (by omega) (by omega)];omega
  simp -implicitDefEqProofs only [ai,GK,GL,GM,e3,hw20];refine zC lines (B+10) (20+x) (by omega) c3 (k3.mono (by omega)) (fun X=>∃(l:List Mk) (c':Cur),X=some (.ret [mks l] [bh c'])∧Ms l∧c'.ok (B+2000)) (fun c l h1 hlt=>?_) (fun c l hlt=>?_) (fun c l h1 h3=>?_)
  ·have hlt':(l.length:Int)<((20+x:Nat):Int):=by omega
   obtain⟨m,c4,e4,ht,k4⟩:=wq c _ h1 (by omega) lines hL;obtain⟨b,c5,e5,k5⟩:=xj c4 4 _ k4 (by omega) (by omega);have hap:=fun m=>zS (l:=l) (m:=[m]) (by simp only [GU];omega)
   have hin:=cN m.1 0 ((lines.length:Int) - 1);cases b
   ·by_cases hr:0≤m.1∧m.1≤(lines.length:Int) - 1
    ·rw [decide_eq_true hr] at hin
     obtain⟨i,hi⟩:=GN hr.1;have hi2:i<lines.length:=by omega
     have hg:=kW hi2;rw [←hi] at hg;by_cases ha:m.2.1=(lines[i].size:Int)
     ·by_cases hk:m.2.2.1=4
      ·replace ha:=decide_eq_true ha
       replace hk:=decide_eq_true hk;have ho:=jP m;have hp:=hap m;refine⟨m,c5,?_,ht,k5.mono (by omega)⟩
       simp -implicitDefEqProofs only [ai,GK,GL,GM,hlt',e4,tS',ax,e5,hwl,hin,hg,ha,hk,aJ,ho,gA,hp]
      ·have ho:=jP (m.1,m.2.1,2,⟨⟨[122]⟩⟩)
       have hp:=hap (m.1,m.2.1,2,⟨⟨[122]⟩⟩);replace ha:=decide_eq_true ha;refine⟨(m.1,m.2.1,2,⟨⟨[122]⟩⟩),c5,?_,FU,k5.mono (by omega)⟩
       simp -implicitDefEqProofs only [ai,GK,GL,GM,hlt',e4,tS',ax,e5,hwl,hin,hg,ha,hk,jF,eZ,aJ,ho,gA,hp]
     ·have ho:=jP m
      have hp:=hap m;refine⟨m,c5,?_,ht,k5.mono (by omega)⟩
      simp -implicitDefEqProofs only [ai,GK,GL,GM,hlt',e4,tS',ax,e5,hwl,hin,hg,ha,aJ,ho,gA,hp]
    ·rw [decide_eq_false hr] at hin
     have ho:=jP m;have hp:=hap m;refine⟨m,c5,?_,ht,k5.mono (by omega)⟩
     simp -implicitDefEqProofs only [ai,GK,GL,GM,hlt',e4,tS',ax,e5,hwl,hin,aJ,ho,gA,hp]
   ·have ho:=jP m
    have hp:=hap m;refine⟨m,c5,?_,ht,k5.mono (by omega)⟩
    simp -implicitDefEqProofs only [ai,GK,GL,GM,hlt',e4,tS',ax,e5,aJ,ho,gA,hp]
  ·have hlt':¬(l.length:Int)<((20+x:Nat):Int):=by omega
   simp -implicitDefEqProofs only [ai,GK,GL,GM,hlt']
  ·refine⟨l,c,?_,h1,h3.mono (by omega)⟩
   simp -implicitDefEqProofs only [ai,GK,GL,GM]
theorem Ln.lin {l:List ByteArray} (h:Ln l):LIn l:=⟨by have:=h.ln;omega,fun s hs=>by have:=h.sz s hs;omega⟩
theorem Ms.min {l:List Mk} (h:Ms l):MIn l:=⟨by have:=h.ln;omega,fun m hm=>by have:=(h.tx m hm).sz;omega⟩
theorem Cg (l:List Int):iS 3 (D.agg [fN l,I 0,D.v (.int .u64 0)])=some (bh ⟨l,0,0⟩):=by simp [D.cells,D.single]
theorem mE (l:List Int) (h:Bytes l):∃(lines:List ByteArray) (ms:List Mk),cA [fN l]=some (.ret [txs lines,mks ms] [])∧Ln lines∧Ms ms:=by
 obtain⟨lines,c1,e1,hl,k1⟩:=vW ⟨l,0,0⟩ 0 (EF h) (by omega);obtain⟨ms,c2,e2,hm,k2⟩:=EE c1 _ k1 (by omega) lines hl;refine⟨lines,ms,?_,hl,hm⟩
 rw [nA];simp -implicitDefEqProofs only [ai,GK,GL,GM,sJ,Cg,e1,e2]
theorem pb (l:List Int) (h:Bytes l):∃(lines:List ByteArray) (ms:List Mk),ck [fN l]=some (.ret [txs lines,mks ms] [])∧Ln lines∧Ms ms:=by
 obtain⟨lines,ms,e,h1,h2⟩:=mE l h;refine⟨lines,ms,?_,h1,h2⟩
 rw [kj];simp -implicitDefEqProofs only [ai,GK,GL,GM,e,ta0,ta1]
theorem uY (l:List Int) (h:Bytes l):∃(lines:List ByteArray),dN [fN l]=some (.ret [txs lines] [])∧Ln lines:=by
 obtain⟨lines,c1,e1,hl,k1⟩:=vW ⟨l,0,0⟩ 0 (EF h) (by omega);refine⟨lines,?_,hl⟩
 rw [oH];simp -implicitDefEqProofs only [ai,GK,GL,GM,sJ,Cg,e1]
theorem tI (l:List Int) (h:Bytes l):∃(m:Mk),dn [fN l]=some (.ret [mkD m] [])∧Tx 11 m.2.2.2:=by
 obtain⟨lines,c1,e1,hl,k1⟩:=vW ⟨l,0,0⟩ 0 (EF h) (by omega);obtain⟨m,c2,e2,hm,k2⟩:=wq c1 _ k1 (by omega) lines hl;refine⟨m,?_,hm⟩
 rw [nE];simp -implicitDefEqProofs only [ai,GK,GL,GM,sJ,Cg,e1,e2,tS',ax,aJ]
set_option maxRecDepth 100000
def L2:List ByteArray:=[⟨⟨[116,104,101,32,99,97,116]⟩⟩,⟨⟨[111,110]⟩⟩]
theorem FW:Ln L2:=⟨by decide,fun s hs=>by
 simp only [L2,GW,List.not_mem_nil,or_false] at hs;rcases hs with rfl | rfl<;>decide⟩
def S10:List ByteArray:=[⟨⟨[]⟩⟩,⟨⟨[48,58,48]⟩⟩,⟨⟨[48,58,48,120]⟩⟩,⟨⟨[48,58,48,100,97]⟩⟩,⟨⟨[48,58,48,105]⟩⟩,⟨⟨[48,48,58,48,100]⟩⟩,⟨⟨[48,58,52,49,100]⟩⟩,⟨⟨[49,49,58,52,48,115]⟩⟩,⟨⟨[48,58,48,58,100]⟩⟩,⟨⟨[58,100]⟩⟩]
theorem CN:∀s∈S10,Tx 30 s:=sx (by decide)
theorem wi {m:Mk} (h:AF m):asc (mkT m):=by
 have hd1:=iA (n:=m.1) h.l.1;have hd2:=iA (n:=m.2.1) h.a.1;intro b hb;rw [iE,kc] at hb;rcases GT.1 hb with hb | hb
 ·rcases GT.1 hb with hb | hb
  ·exact wE (hd1.2 b hb)
  ·rcases GW.1 hb with rfl | hb
   ·decide
   ·exact wE (hd2.2 b hb)
 ·rcases GW.1 hb with rfl | hb
  ·rcases h.k with k | k | k | k<;>rw [k]<;>decide
  ·have:=h.b b hb
   omega
theorem rY (l:List Int) (h:Bytes l):∃(s:ByteArray),cO [fN l]=some (.ret [T s] [])∧Tx 30 s:=by
 obtain⟨m,c1,e1,hm,k1⟩:=wq ⟨l,0,0⟩ 0 (EF h) (by omega) L2 FW;have hmz:=hm.sz;have m2:aC 1 [T ⟨⟨[116,104,101,32,99,97,116]⟩⟩,T ⟨⟨[111,110]⟩⟩]=some (txs L2):=vx (l:=L2);have m10:aC 1 [T ⟨⟨[]⟩⟩,T ⟨⟨[48,58,48]⟩⟩,T ⟨⟨[48,58,48,120]⟩⟩,T ⟨⟨[48,58,48,100,97]⟩⟩,T ⟨⟨[48,58,48,105]⟩⟩,T ⟨⟨[48,48,58,48,100]⟩⟩,T ⟨⟨[48,58,52,49,100]⟩⟩,T ⟨⟨[49,49,58,52,48,115]⟩⟩,T ⟨⟨[48,58,48,58,100]⟩⟩,T ⟨⟨[58,100]⟩⟩]=some (txs S10):=vx (l:=S10);have hpm:=gq m (by omega);obtain⟨q,c2,e2,-,-,k2⟩:=eA c1 4 _ k1 (by omega) (by omega);obtain⟨w,c3,e3,hw,k3⟩:=Cm c2 S10 _ k2 (by omega) (by decide) (by decide);have hwa:asc ⟨⟨[58,100,105,114,115,97,48,49]⟩⟩:=sr _ (by decide);rw [my];cases hb:eF m<;>rw [hb] at hpm
 ·obtain⟨t,c4,e4,⟨ht,hta⟩,k4⟩:=vp c2 ⟨⟨[48,58,48,100]⟩⟩ ⟨⟨[58,100,105,114,115,97,48,49]⟩⟩ _ k2 (by omega) (by decide) (by decide) (sr _ (by decide)) hwa
  have hz4:(⟨⟨[48,58,48,100]⟩⟩:ByteArray).size=4:=rfl;simp -implicitDefEqProofs only [ai,GK,GL,GM,sJ,Cg,tS',m2,e1,ax,aJ,hpm,e2];by_cases q0:q=0
  ·simp -implicitDefEqProofs only [ai,GK,GL,GM,q0,e4]
   exact⟨t,rfl,by omega,hta⟩
  by_cases q1:q=1
  ·simp -implicitDefEqProofs only [ai,GK,GL,GM,q0,q1,m10,e3]
   exact⟨w,rfl,CN w hw⟩
  ·simp -implicitDefEqProofs only [ai,GK,GL,GM,q0,q1]
   exact⟨_,rfl,by decide,sr _ (by decide)⟩
 ·have hf:=bG hb
  have hT:=jR m hf;have hz:=wZ hf;obtain⟨t,c4,e4,⟨ht,hta⟩,k4⟩:=vp c2 (mkT m) ⟨⟨[58,100,105,114,115,97,48,49]⟩⟩ _ k2 (by omega) (by omega) (by decide) (wi hf) hwa;simp -implicitDefEqProofs only [ai,GK,GL,GM,sJ,Cg,tS',m2,e1,ax,aJ,hpm,hT,e2];by_cases q0:q=0
  ·simp -implicitDefEqProofs only [ai,GK,GL,GM,q0,e4]
   exact⟨t,rfl,by omega,hta⟩
  by_cases q1:q=1
  ·simp -implicitDefEqProofs only [ai,GK,GL,GM,q0,q1,m10,e3]
   exact⟨w,rfl,CN w hw⟩
  ·simp -implicitDefEqProofs only [ai,GK,GL,GM,q0,q1]
   exact⟨_,rfl,by omega,wi hf⟩
theorem wl (l:List Int) (h:l.length≤1048576):fP [nz l,nz l]=some (.ret [B true] []):=by
 rw [wm];simp only [kN,GP,GR,sm,decide_true,GX,ep,GQ,if_false];refine aP (.ext 0 []) (pK l.length (fun i=>[nz l,nz l,I l.length,I i]) _ (fun i hi=>?_) ?_ rfl rfl) ?_
 ·have hw:GO.wrap ((i:Int)+1)=(i:Int)+1:=aA (by omega) (by omega)
  simp -implicitDefEqProofs [hi,hw]
 ·simp
 ·simp
theorem uN (l:List ByteArray) (h:l.length≤1048576):gp [txs l,txs l]=some (.ret [B true] []):=by
 rw [uJ];simp only [kN,GP,GR,sm,decide_true,GX,ep,GQ,if_false];refine aP (.ext 0 []) (pK l.length (fun i=>[txs l,txs l,I l.length,I i]) _ (fun i hi=>?_) ?_ rfl rfl) ?_
 ·have hw:GO.wrap ((i:Int)+1)=(i:Int)+1:=aA (by omega) (by omega)
  simp -implicitDefEqProofs [hi,hw]
 ·simp
 ·simp
theorem zH {l:List PrN} {i:Nat} (h:i<l.length):aH 1 (prs l) (I (i:Int))=some [prD l[i]]:=by simp [h,D.cells]
theorem EQ (p:PrN):ldD false 1 (.ptr [prD p])=some (prD p):=rfl
theorem GE (p:PrN):aH 1 (prD p) (I 0)=some [I (p.1:Int)]:=rfl
theorem GD (p:PrN):aH 1 (prD p) (I 1)=some [I (p.2:Int)]:=rfl
theorem uE (l:List PrN) (h:l.length≤1048576):gu [prs l,prs l]=some (.ret [B true] []):=by
 rw [uP];simp -implicitDefEqProofs only [ai,GK,GL,GM];refine aP (.ext 0 []) (pK l.length (fun i=>[prs l,prs l,I l.length,I i]) _ (fun i hi=>?_) ?_ rfl rfl) ?_
 ·have hi':(i:Int)<(l.length:Int):=by omega
  have hw:GO.wrap ((i:Int)+1)=((i+1:Nat):Int):=by rw [aA (by omega) (by omega)];omega
  have hg:=zH hi;have hq:fP [prD l[i],prD l[i]]=some (.ret [B true] []):=wl [(l[i].1:Int),(l[i].2:Int)] (by simp);generalize l[i]=p at hg hq;simp -implicitDefEqProofs only [ai,GK,GL,GM,hi',hg,EQ,hq,hw]
 ·have hlt:¬((l.length:Int)<(l.length:Int)):=by omega
  simp -implicitDefEqProofs only [ai,GK,GL,GM,hlt]
 ·simp -implicitDefEqProofs only [ai,GK,GL,GM]
theorem wN (x:Mk):bin .neq false [1,1,1,3] (mkD x) (mkD x)=some (B false):=by
 obtain⟨a,b,c,d⟩:=x;simp [bin,nP]
theorem DS {l:List Mk} {p:PrN} (h:p∈cfI l):p.1<p.2∧p.2<l.length∧clA l p.1 p.2=true:=by
 unfold cfI yk at h;obtain⟨i,hi,hp⟩:=List.mem_flatMap.1 h;obtain⟨k,hk,rfl⟩:=List.mem_map.1 hp;have hk2:=List.mem_filter.1 hk;have hk3:=List.mem_range'_1.1 hk2.1;unfold cfP at hk2;simp only [GS] at hk2;have:=List.mem_range.1 hi;exact⟨by omega,by omega,hk2.2.2.2⟩
set_option maxRecDepth 100000
theorem qp {lines:List ByteArray} {l:List Mk} (h:okC lines l=true):kT lines l=true∧cfB lines l=[]∧eB lines l=nv lines l∧(nv lines l).length=lines.length∧pk (nv lines l)=true:=by
 have h0:=h;unfold okC at h;simp only [GS,decide_eq_true_eq] at h;refine⟨h.1,?_,?_,(sn (pr h.1)).2,h.2.2⟩
 ·unfold cfB
  rw [if_pos h.1,h.2.1]
 ·unfold eB
  rw [if_pos h0]
theorem EM (lines:List ByteArray) (l:List Mk):LIn (eB lines l):=by
 cases h:okC lines l
 ·unfold eB
  rw [h];exact⟨by simp,by simp⟩
 ·rw [(qp h).2.2.1]
  exact(sn (pr (qp h).1)).1
theorem yJ (l:List Mk) (h:l.length≤20):(cfI l).length≤400:=by
 unfold cfI;have key:∀(L:List Nat),(L.flatMap (yk l)).length≤20*L.length:=by
  intro L;induction L with
  | nil=>simp
  | cons i L ih =>
   have:=rF l i;rw [List.flatMap_cons,List.length_append,List.length_cons];omega
 have:=key (List.range l.length);rw [List.length_range] at this;omega
theorem yq (lines:List ByteArray) (l:List Mk):(cfB lines l).length≤400:=by
 unfold cfB;split
 ·rename_i h
  exact yJ l (wo h)
 ·simp
theorem AR (code more:List Int) (h1:∀n∈code,0≤n∧n≤255) (h2:∀n∈more,0≤n∧n≤255) (l1:code.length≤9223372036854775807) (l2:more.length≤9223372036854775807):fJ [fN code,fN more]=some (.ret [B true] []):=by
  rw [sQ];by_cases hbig:1048576<GO.wrap ((code.length:Int)+(more.length:Int))
  · simp -implicitDefEqProofs only [ai,GK,GL,GM,hbig]
  obtain⟨ls,ms,d1,hl,hm⟩:=pb code ⟨h1,l1⟩;have hli:=hl.lin;have hmi:=hm.min;have a1:=nx ls ms hli hmi;have a2:=nG ls ms hli hmi;have a3:=mI ls ms hli hmi;have a4:=mM ls ms hli hmi;have hri:=EM ls ms;have hrl:=hri.ln;have a5:=uN (eB ls ms) (by omega);have hcl:=yq ls ms;have a6:=uE (cfB ls ms) (by omega);have a7:=fx (eB ls ms) hri;have hcm:∀p∈cfB ls ms,p.1<p.2∧p.2<ms.length∧clA ms p.1 p.2=true:=fun p hp=>by
    unfold cfB at hp;split at hp
    · exact DS hp
    · cases hp
  have hcond:∀r1 r2:Option Out,((ab (D.tup []) (.v (.bool (okC ls ms))) true (some (.v (.bool (kT ls ms))))).bind fun z_21=>(ab (D.tup []) (.v (.bool (okC ls ms))) true (un UnOp.not z_21)).bind fun z_22=>(ab (D.tup []) (.v (.bool (okC ls ms))) true (some z_22)).bind fun z_23=>(ab (D.tup []) z_23 false (some (prs (cfB ls ms)))).bind
 fun z_24=>(ab (D.tup []) z_23 false (lenD false z_24)).bind fun z_25=>(ab (D.tup []) z_23 false (bin BinOp.gtr false [] z_25 (D.v (Value.int GO 0)))).bind fun z_26=>(ab (D.tup []) (.v (.bool (okC ls ms))) true
 (aE z_23 (D.v (GV true)) z_26)).bind fun z_27=>(ab (D.tup []) (.v (.bool (okC ls ms))) true (some z_27)).bind fun z_28=>(ab (D.tup []) z_28 false (some (txs (eB ls ms)))).bind fun z_29=>(ab (D.tup []) z_28 false (lenD false
 z_29)).bind fun z_30=>(ab (D.tup []) z_28 false (some (txs ls))).bind fun z=>(ab (D.tup []) z_28 false (lenD false z)).bind fun z=>(ab (D.tup []) z_28 false (bin BinOp.neq false [] z_30 z)).bind fun z =>
 (ab (D.tup []) (.v (.bool (okC ls ms))) true (aE z_28 (D.v (GV true)) z)).bind fun z=>(ab (D.tup []) (.v (.bool (okC ls ms))) true (some z)).bind fun z=>(ab (D.tup []) z false (some (txs (eB ls ms)))).bind fun z_31=>dE z false (aj
 (cd [z_31]) fun rs _u=>some (Out.nrm [sl rs 0])) [D.tup []] fun outs=>(ab (D.tup []) z false (un UnOp.not (sl outs 0))).bind fun z_32=>(ab (D.tup []) (.v (.bool (okC ls ms))) true (aE z (D.v (GV true))
 z_32)).bind fun z=>ifD (if okC ls ms=true then z else D.v (GV false)) r1 r2)=r2:=by
    intro r1 r2;cases hok:okC ls ms
    · simp -implicitDefEqProofs only [ai,GK,GL,GM]
    · obtain⟨g1,g2,g3,g4,g5⟩:=qp hok
      rw [g3,g5] at a7;have g4':((nv ls ms).length:Int)=(ls.length:Int):=by omega
      have hz:¬(0:Int)<((([]:List PrN).length:Nat):Int):=by simp
      rw [g1,g2,g3];simp -implicitDefEqProofs only [ai,GK,GL,GM,a7,g4',hz]
  simp -implicitDefEqProofs only [kN,GP,GR,eX,iv,hbig,decide_false,ep,GQ,if_false,d1,bW,ta0,ta1,tc0,a1,a2,a3,a4,tv0,tv1,xZ,beq_self_eq_true,GX,qo,wy,qC,a5,a6,bA,wb,gx,decide_true,if_true];refine(hcond _ _).trans ?_
  refine aP (.ext 0 [fN more]) (pK (cfB ls ms).length (fun i=>[fN more,mks ms,prs (cfB ls ms),I (cfB ls ms).length,I i]) _ (fun i hi=>?_) ?_ rfl rfl) ?_
  · have hi':(i:Int)<((cfB ls ms).length:Int):=by omega
    have hw:GO.wrap ((i:Int)+1)=((i+1:Nat):Int):=by rw [aA (by omega) (by omega)];omega
    have hg:=zH hi;obtain⟨m1,m2,m3⟩:=hcm _ (GY hi);generalize (cfB ls ms)[i]=p at hg m1 m2 m3;have hp1:p.1<ms.length:=by omega
    have g1:=eL hp1;have g2:=eL m2;have e1:ms.getD p.1 mk0=ms[p.1]:=by simp [hp1]
    have e2:ms.getD p.2 mk0=ms[p.2]:=by simp [m2]
    unfold clA at m3;rw [e1,e2] at m3;generalize ms[p.1]=x at g1 m3;generalize ms[p.2]=y at g2 m3;unfold clB at m3;simp only [GS] at m3;have k1:=m3.1;have k2:=m3.2.1;have hge:¬((p.2:Int)≤(p.1:Int)):=by omega
    simp -implicitDefEqProofs only [ai,GK,GL,GM,hi',hg,EQ,GE,GD,g1,g2,bC,aT,e0',ax,k1,k2,hge,hw]
  · have hlt:¬(((cfB ls ms).length:Int)<((cfB ls ms).length:Int)):=by omega
    simp -implicitDefEqProofs only [ai,GK,GL,GM,hlt]
  clear hcond a1 a2 a3 a4 a5 a6 a7;obtain⟨m,d2,hmt⟩:=tI more ⟨h2,l2⟩;obtain⟨s,d3,hs⟩:=rY more ⟨h2,l2⟩;obtain⟨u,v,d4,hu,hv⟩:=mE more ⟨h2,l2⟩;obtain⟨w,d5,hw⟩:=uY more ⟨h2,l2⟩;have hmz:=hmt.sz;have hsz:=hs.sz;have b1:=lF m (by omega);have b2:=rS m (by omega);have b3:=kz s (by omega) hs.ok;have b4:=qv s (by omega);have b5:=gT u v hu.lin hv.min;have b6:=sg u v hu.lin hv.min;have b7:=fx w hw.lin;have b8:=ul w hw.lin;simp -implicitDefEqProofs only [ai,GK,GL,GM,e0',d2,ax,aJ,b1,b2,d3,b3,b4,d4,ta0,ta1,d5,tv0,tv1,tg0,xZ,beq_self_eq_true,mO,wN,b5,b6,b7,b8];refine BE (fun q=>q=[T s,mkD (pmR s),B (pmB s)]) ?_ ?_
  · rintro _ rfl
    cases hp:pmB s
    · simp -implicitDefEqProofs only [ai,GK,GL,GM]
    · obtain⟨q1,q2⟩:=yn hp
      have b9:=lF (pmR s) (by have:=DR s;omega);have hr:mtR (pmR s)=s:=by
        unfold mtR;rw [if_pos q1,q2]
      rw [hr,q1] at b9;simp -implicitDefEqProofs only [ai,GK,GL,GM,aJ,b9,tv0,tv1,dS]
  · intro j hj
    cases hb:eF m
    · simp -implicitDefEqProofs only [ai,GK,GL,GM]
      exact hj _ rfl
    · have hf:=bG hb
      have hz:=wZ hf;have b9:=kz (mkT m) (by omega) (wi hf);obtain⟨q1,q2⟩:=CH hb;rw [q1,q2] at b9;have hr:mtR m=mkT m:=if_pos hb;rw [hr];simp -implicitDefEqProofs only [ai,GK,GL,GM,b9,tg0,tv1,e0',ax,aJ,wN];exact hj _ rfl
end Go.Proofs.YtidhhpakdogiaaaGreatDoor

end
