/-
  A part of the proof: contracts and plain forms of functions beneath the statement, made small by a program (names shortened, what is not needed left out).
-/
import Derived.Test.YtccaheogjpfhjaaGreatRows
import Derived.Test.YtccaheogjpfhjaaGreatM9
import Derived.Laws.Bits64b
import Derived.Laws.ResultCell
import Derived.Laws.Rows
open Go.IntKind renaming i64 → ZE, wrap_i64 → aaA
open List renaming length_map → ZF, getElem_mem → ZN, length_singleton → ZO, getD_eq_getElem?_getD → ZR, getElem?_eq_getElem → ZS, take_succ_eq_append_getElem → ZU, map_take → ZV, length_take → ZW, length_drop → ZX, mem_singleton → ZY, map_append → aab, length_append → aac, mem_append → aag, pairwise_iff_getElem → aah, drop_zero → aak, length → aan, mem_cons → aao, map_cons → aap, not_mem_nil → aaq, getElem?_eq_none → aas, length_nil → aau, getElem?_eq_some_iff → aay, map_set → aaz, drop_eq_nil_of_le → aaF, length_pos_iff → aaG, mem_map_of_mem → aaH, mem_map → aaI, map_nil → aaJ, ext_getElem? → aaM, getElem?_map → aaN, take_length → aaO, length_set → aaQ, drop_drop → aaR
open Option renaming bind_some → ZG, map → ZH, getD_some → aaB, map_some → aaP
open Bool renaming and_eq_true → ZI, false_eq_true → aai, not_eq_true' → aal, not_true → aax
open ByteArray renaming empty → ZJ
open Int renaming reduceLT → ZK, reduceLE → ZL, reduceEq → ZM, tmod_eq_emod_of_nonneg → aaf, tdiv_eq_ediv_of_nonneg → aaw, eq_ofNat_of_zero_le → aaC, toNat_natCast → aaL
open Go.Proofs renaming enters_of → ZP
open Nat renaming lt_or_ge → ZQ, le_refl → ZT, lt_of_lt_of_le → aaj, zero_add → aat, zero_le → aaE
open Array renaming getElem?_eq_some_iff → ZZ
open Go.Op renaming bytesLess → aaa
open Classical renaming epsilon_spec → aad, epsilon → aae
open UInt8 renaming ofNat → aam
open Go.Lib renaming cell_of_heap → aar, frozen_of_heap → aaK
open Go.Value renaming int → aav, ownBlock → aaS
open Option.some renaming inj → aaD
open Go.World renaming setCell → aaT
set_option maxRecDepth 100000
set_option linter.unusedSimpArgs false
set_option linter.unusedVariables false
noncomputable section
namespace Go.Proofs.YtccaheogjpfhjaaGreat
open Go Go.V
set_option maxRecDepth 100000
def C12:List ByteArray:=[⟨⟨[97]⟩⟩,⟨⟨[97,98]⟩⟩,⟨⟨[97,98,99]⟩⟩,⟨⟨[98]⟩⟩,⟨⟨[98,98]⟩⟩,⟨⟨[99]⟩⟩,⟨⟨[100]⟩⟩,⟨⟨[101]⟩⟩,⟨⟨[102]⟩⟩,⟨⟨[102,102]⟩⟩,⟨⟨[102,105]⟩⟩,⟨⟨[105]⟩⟩]
theorem UI:∀s∈C12,1≤s.size∧s.size≤3:=by
 have:(C12.all fun s=>decide (1≤s.size)&&decide (s.size≤3))=true:=by decide
 intro s hs;have:=List.all_eq_true.1 this s hs;simpa using this
structure Fd (f:List Srt):Prop where
 ln:f.length≤40
 sz:∀x∈f,x.1.size≤4
 lo:∀x∈f,-1≤x.2∧x.2≤100
theorem Fd.fin {f:List Srt} (h:Fd f):FIn f:=⟨by have:=h.ln;omega,fun x hx=>by have:=h.sz x hx;omega⟩
theorem m12:ay 1 [T ⟨⟨[97]⟩⟩,T ⟨⟨[97,98]⟩⟩,T ⟨⟨[97,98,99]⟩⟩,T ⟨⟨[98]⟩⟩,T ⟨⟨[98,98]⟩⟩,T ⟨⟨[99]⟩⟩,T ⟨⟨[100]⟩⟩,T ⟨⟨[101]⟩⟩,T ⟨⟨[102]⟩⟩,T ⟨⟨[102,102]⟩⟩,T ⟨⟨[102,105]⟩⟩,T ⟨⟨[105]⟩⟩]=some (txs C12):=NY (l:=C12)
theorem XT (c:Cur) (B:Nat) (h:c.ok B) (hB:B≤800000000):∃(f:List Srt) (c':Cur),dk [aR c]=some (.ret [srs f] [aR c'])∧(1≤f.length∧f.length≤12∧(∀x∈f,x.1.size≤3)∧∀x∈f,0≤x.2∧x.2≤100)∧c'.ok (B+100):=by
 rw [pz];have hlen:(C12.map T).length=12:=rfl;simp -implicitDefEqProofs only [gP,ZK,ZL,ZM,tS',m12,WR,hlen];refine bu (fun X=>∃f c',X=some (.ret [srs f] [aR c'])∧(1≤f.length∧f.length≤12∧(∀x∈f,x.1.size≤3)∧∀x∈f,0≤x.2∧x.2≤100)∧c'.ok (B+100)) (fun a:Cur × List Srt × Nat=>[aR a.1,srs a.2.1,txs C12,I 12,I (a.2.2:Int)])
  (fun a=>a.1.ok (B+5*a.2.2)∧a.2.2≤12∧a.2.1.length≤a.2.2∧(∀x∈a.2.1,x.1.size≤3)∧∀x∈a.2.1,0≤x.2∧x.2≤100) (fun a=>12 - a.2.2)
  (fun o=>∃(f:List Srt) (c':Cur),o = .ext 0 [aR c',srs f]∧(f.length≤12∧(∀x∈f,x.1.size≤3)∧∀x∈f,0≤x.2∧x.2≤100)∧c'.ok (B+60)) ?_ (c,[],0) ⟨h.mono (by simp),by simp,by simp,by simp,by simp⟩ rfl ?_
 ·rintro⟨ca,f,i⟩ ⟨h1,h2,h3,h4,h5⟩
  simp only at h1 h2 h3 h4 h5;have hl12:C12.length=12:=rfl;by_cases hi:i<12
  ·have hi':(i:Int)<12:=by omega
   have hwi:ZE.wrap ((i:Int)+1)=((i+1:Nat):Int):=by rw [ae (by omega) (by omega)];omega
   have hg:aI 1 (txs C12) (I (i:Int))=some [T (C12[i]'(by omega))]:=by simp [hl12,hi]
   have hz:=UI _ (ZN (by omega:i<C12.length));generalize C12[i]'(by omega)=t at hg hz;have take:∀(c2:Cur),c2.ok (B+5*i+2)→∃(v:Int) (c3:Cur),ah [aR c2,I 4]=some (.ret [I v] [aR c3])∧ZE.wrap (2+v)=2+v∧ZE.wrap ((t.size:Int)*(2+v))=(t.size:Int)*(2+v)∧ZE.wrap (4+(t.size:Int)*(2+v))=4+(t.size:Int)*(2+v)∧ay 2 [.agg [T t,I (4+(t.size:Int)*(2+v))]]=some (srs [(t,4+(t.size:Int)*(2+v))]) ∧
     bY 2 24 (srs f) (srs [(t,4+(t.size:Int)*(2+v))])=some (srs (f++[(t,4+(t.size:Int)*(2+v))]))∧(0≤4+(t.size:Int)*(2+v)∧4+(t.size:Int)*(2+v)≤100)∧c3.ok (B+5*(i+1)):=by
    intro c2 k2;obtain⟨v,c3,e3,l3,u3,k3⟩:=dg c2 4 _ k2 (by omega) (by omega);have hv:v≤3:=by omega
    have hm1:0≤(t.size:Int)*(2+v):=Int.mul_nonneg (by omega) (by omega);have hm2:(t.size:Int)*(2+v)≤3*5:=Int.mul_le_mul (by omega) (by omega) (by omega) (by omega);exact⟨v,c3,e3,ae (by omega) (by omega),ae (by omega) (by omega),ae (by omega) (by omega),PJ _ _,QJ (by simp only [ZO];omega),⟨by omega,by omega⟩,k3.mono (by omega)⟩
   have memo:∀(y:Srt),y.1.size≤3→(0≤y.2∧y.2≤100)→(∀x∈f++[y],x.1.size≤3)∧∀x∈f++[y],0≤x.2∧x.2≤100:=by
    intro y g1 g2;constructor<;>intro x hx<;>rcases aag.1 hx with hx | hx
    ·exact h4 x hx
    ·rw [ZY.1 hx];exact g1
    ·exact h5 x hx
    ·rw [ZY.1 hx];exact g2
   by_cases h1':(t.size:Int)=1
   ·have h1g:¬(1:Int)<(t.size:Int):=by omega
    obtain⟨b,c2,e2,k2⟩:=ly ca 12 _ h1 (by omega) (by omega);cases b
    ·obtain⟨v,c3,e3,w1,w2,w3,o1,a1,r1,k3⟩:=take c2 k2
     obtain⟨q1,q2⟩:=memo (t,4+(t.size:Int)*(2+v)) hz.2 r1;rw [h1'] at w2 w3 o1 a1 r1 q1 q2;refine .inl ⟨(c3,f++[(t,4+1*(2+v))],i+1),?_,⟨k3,by simp only;omega,by simp;omega,q1,q2⟩,by simp only;omega⟩
     simp -implicitDefEqProofs only [gP,ZK,ZL,ZM,hi',hg,h1',e2,e3,w1,w2,w3,Li,o1,Ml,a1,hwi]
    ·refine .inl ⟨(c2,f,i+1),?_,⟨k2.mono (by simp only;omega),by simp only;omega,by simp only;omega,h4,h5⟩,by simp only;omega⟩
     simp -implicitDefEqProofs only [gP,ZK,ZL,ZM,hi',hg,h1',e2,show ¬(1:Int)<1 by decide,hwi]
   ·have h1g:(1:Int)<(t.size:Int):=by omega
    obtain⟨b,c2,e2,k2⟩:=ly ca 3 _ h1 (by omega) (by omega);cases b
    ·refine .inl ⟨(c2,f,i+1),?_,⟨k2.mono (by simp only;omega),by simp only;omega,by simp only;omega,h4,h5⟩,by simp only;omega⟩
     simp -implicitDefEqProofs only [gP,ZK,ZL,ZM,hi',hg,h1',h1g,e2,hwi]
    ·obtain⟨v,c3,e3,w1,w2,w3,o1,a1,r1,k3⟩:=take c2 k2
     obtain⟨q1,q2⟩:=memo (t,4+(t.size:Int)*(2+v)) hz.2 r1;refine .inl ⟨(c3,f++[(t,4+(t.size:Int)*(2+v))],i+1),?_,⟨k3,by simp only;omega,by simp;omega,q1,q2⟩,by simp only;omega⟩
     simp -implicitDefEqProofs only [gP,ZK,ZL,ZM,hi',hg,h1',h1g,e2,e3,w1,w2,w3,Li,o1,Ml,a1,hwi]
  ·have hi':¬(i:Int)<12:=by omega
   refine .inr ⟨_,?_,rfl,f,ca,rfl,⟨by omega,h4,h5⟩,h1.mono (by omega)⟩
   simp -implicitDefEqProofs only [gP,ZK,ZL,ZM,hi']
 ·rintro o ⟨f,c',rfl,⟨g1,g2,g3⟩,g4⟩
  have hm1:ay 2 [.agg [T ⟨⟨[97]⟩⟩,I 9]]=some (srs [(⟨⟨[97]⟩⟩,9)]):=PJ _ _;by_cases h0:(f.length:Int)=0
  ·refine⟨[(⟨⟨[97]⟩⟩,9)],c',?_,⟨by simp,by simp,?_,?_⟩,g4.mono (by omega)⟩
   ·simp -implicitDefEqProofs only [gP,ZK,ZL,ZM,h0,Li,hm1]
   ·intro x hx
    rw [ZY.1 hx];decide
   ·intro x hx
    rw [ZY.1 hx];decide
  ·refine⟨f,c',?_,⟨by omega,g1,g2,g3⟩,g4.mono (by omega)⟩
   simp -implicitDefEqProofs only [gP,ZK,ZL,ZM,h0]
def A5':List ByteArray:=[⟨⟨[]⟩⟩,⟨⟨[65]⟩⟩,⟨⟨[97,98,99,100]⟩⟩,⟨⟨[97]⟩⟩,⟨⟨[122,122,122]⟩⟩]
theorem XC:∀s∈A5',Tx 4 s:=Mo (by decide)
theorem VJ {f:List Srt} {k:Nat} (h:k<f.length):dE 2 (srs f) (I (k:Int))=some (.ref k 0):=by
 rw [dm,if_pos (by simpa using h)]
theorem Vf {f:List Srt} {k:Nat} (h:k<f.length) (t:ByteArray):stD 1 (srs f) (.ref k 0) (T t)=some (srs (f.set k (t,f[k].2))):=by
 rw [ru (c:=[T f[k].1,I f[k].2]) (by simp [h]) (by simp)];show some (D.arr 2 ((f.map sr).set k (sr (t,f[k].2))))=_
 rw [←aaz]
theorem XJ {f:List Srt} {k:Nat} (h:k<f.length) (n:Int):stD 1 (srs f) (.ref k 1) (I n)=some (srs (f.set k (f[k].1,n))):=by
 rw [ru (c:=[T f[k].1,I f[k].2]) (by simp [h]) (by simp)];show some (D.arr 2 ((f.map sr).set k (sr (f[k].1,n))))=_
 rw [←aaz]
def two (n:Nat):ByteArray:=⟨⟨[aam (97+n / 6),aam (97+n % 6)]⟩⟩
theorem XX (a b:UInt8):pO [U (a.toNat:Int),U (b.toNat:Int)]=some [a,b]:=by simp [pO]
theorem WC (n:Nat) (h:n<40):bin .quo false [] (I (n:Int)) (I 6)=some (I ((n / 6:Nat):Int))∧bin .add false [] (I 97) (I ((n / 6:Nat):Int))=some (I ((97+n / 6:Nat):Int))∧pN (some .u8) false (I ((97+n / 6:Nat):Int))=some (U ((97+n / 6:Nat):Int)) ∧
  bin .rem false [] (I (n:Int)) (I 6)=some (I ((n % 6:Nat):Int))∧bin .add false [] (I 97) (I ((n % 6:Nat):Int))=some (I ((97+n % 6:Nat):Int))∧pN (some .u8) false (I ((97+n % 6:Nat):Int))=some (U ((97+n % 6:Nat):Int)) ∧
  ay 1 [U ((97+n / 6:Nat):Int),U ((97+n % 6:Nat):Int)]=some (.arr 1 [U ((97+n / 6:Nat):Int),U ((97+n % 6:Nat):Int)])∧LN (.arr 1 [U ((97+n / 6:Nat):Int),U ((97+n % 6:Nat):Int)])=some (T (two n)):=by
 have hm:n % 6<6:=Nat.mod_lt _ (by decide);have hq:n / 6≤6:=by omega
 have w1:ZE.wrap (97+((n % 6:Nat):Int))=((97+n % 6:Nat):Int):=by rw [ae (by omega) (by omega)];omega
 have w2:ZE.wrap (97+((n / 6:Nat):Int))=((97+n / 6:Nat):Int):=by rw [ae (by omega) (by omega)];omega
 have w3:ZE.wrap ((n / 6:Nat):Int)=((n / 6:Nat):Int):=ae (by omega) (by omega);refine⟨?_,by rw [bZ,w2],?_,?_,by rw [bZ,w1],?_,?_,?_⟩
 ·rw [EO,if_neg (by decide),aaw (by omega)]
  rw [show((n:Int) / 6)=((n / 6:Nat):Int) from rfl,w3]
 ·show some (U (IntKind.u8.wrap _))=_
  congr 3
  simp only [IntKind.wrap_u8];omega
 ·rw [Qc,if_neg (by decide),aaf (by omega)]
  rfl
 ·show some (U (IntKind.u8.wrap _))=_
  congr 3
  simp only [IntKind.wrap_u8];omega
 ·simp [ay,eA]
 ·have t1:(aam (97+n / 6)).toNat=97+n / 6:=by
   rw [UInt8.toNat_ofNat'];omega
  have t2:(aam (97+n % 6)).toNat=97+n % 6:=by
   rw [UInt8.toNat_ofNat'];omega
  have hb:=XX (aam (97+n / 6)) (aam (97+n % 6));rw [t1,t2] at hb;simp only [LN,hb,aaP];rfl
theorem EC {α:Type} {l:List α} {k:Nat} {x y:α} (h:x∈l.set k y):x∈l∨x=y:=List.mem_or_eq_of_mem_set h
theorem Sb (c:Cur) (B:Nat) (h:c.ok B) (hB:B≤700000000):∃(f:List Srt) (c':Cur),fR [aR c]=some (.ret [srs f] [aR c'])∧Fd f∧c'.ok (B+200):=by
 rw [ux];obtain⟨f,c1,e1,⟨f1,f2,f3,f4⟩,k1⟩:=XT c B h (by omega);obtain⟨k,c2,e2,l2,u2,k2⟩:=dg c1 (f.length:Int) _ k1 (by omega) (by omega);obtain⟨k,rfl⟩:=aaC l2;have hk:k<f.length:=by omega
 obtain⟨q,c3,e3,l3,u3,k3⟩:=dg c2 30 _ k2 (by omega) (by omega);have m5:ay 1 [T ⟨⟨[]⟩⟩,T ⟨⟨[65]⟩⟩,T ⟨⟨[97,98,99,100]⟩⟩,T ⟨⟨[97]⟩⟩,T ⟨⟨[122,122,122]⟩⟩]=some (txs A5'):=NY (l:=A5');have mi:ay 1 [I 0,I 1,I 54,I 55,I (-1)]=some (iP [0,1,54,55,-1]):=vb (l:=[0,1,54,55,-1]);have hr:=VJ hk;have hfd:Fd f:=⟨by omega,fun x hx=>by have:=f3 x hx;omega,fun x hx=>by have:=f4 x hx;omega⟩
 simp -implicitDefEqProofs only [gP,ZK,ZL,ZM,e1,e2,e3,tS',m5,mi,WR,decide_eq_true_eq];by_cases q0:q=0
 ·obtain⟨t,c4,e4,ht,k4⟩:=VP c3 A5' _ k3 (by omega) (by decide) (by decide)
  have htz:=(XC t ht).sz;have hst:=Vf hk t;refine⟨f.set k (t,f[k].2),c4,?_,⟨by rw [aaQ];omega,fun x hx=>?_,fun x hx=>?_⟩,k4.mono (by omega)⟩
  ·rw [if_pos q0]
   simp -implicitDefEqProofs only [gP,ZK,ZL,ZM,e4,hr,Hx,hst]
  ·rcases EC hx with hx | rfl
   ·exact hfd.sz x hx
   ·exact htz
  ·rcases EC hx with hx | rfl
   ·exact hfd.lo x hx
   ·have:=hfd.lo _ (ZN hk)
    exact this
 rw [if_neg q0];by_cases q1:q=1
 ·obtain⟨n,c4,e4,hn,k4⟩:=gE c3 [0,1,54,55,-1] _ k3 (by omega) (by simp) (by simp)
  have hst:=XJ hk n;refine⟨f.set k (f[k].1,n),c4,?_,⟨by rw [aaQ];omega,fun x hx=>?_,fun x hx=>?_⟩,k4.mono (by omega)⟩
  ·rw [if_pos q1]
   simp -implicitDefEqProofs only [gP,ZK,ZL,ZM,e4,hr,Hx,aat,hst]
  ·rcases EC hx with hx | rfl
   ·exact hfd.sz x hx
   ·have:=hfd.sz _ (ZN hk)
    exact this
  ·rcases EC hx with hx | rfl
   ·exact hfd.lo x hx
   ·simp only [aao,aaq,or_false] at hn
    show -1≤n∧n≤100
    omega
 rw [if_neg q1];by_cases q2:q=2
 ·refine⟨[],c3,?_,⟨by simp,by simp,by simp⟩,k3.mono (by omega)⟩
  rw [if_pos q2]
 rw [if_neg q2];by_cases q3:q=3
 ·rw [if_pos q3]
  obtain⟨v,c4,e4,l4,u4,k4⟩:=dg c3 2 _ k3 (by omega) (by omega);obtain⟨v,rfl⟩:=aaC l4;have hw:ZE.wrap (32+(v:Int))=((32+v:Nat):Int):=by rw [ae (by omega) (by omega)];omega
  simp -implicitDefEqProofs only [gP,ZK,ZL,ZM,e4,hw];refine bu (fun X=>∃f c',X=some (.ret [srs f] [aR c'])∧Fd f∧c'.ok (B+200)) (fun a:List Srt=>[aR c4,srs a,I ((32+v:Nat):Int)])
   (fun a=>a.length≤32+v∧Fd a) (fun a=>40 - a.length) (fun o=>∃(f:List Srt),o = .ext 1 [aR c4,srs f]∧Fd f) ?_ [] ⟨by simp,⟨by simp,by simp,by simp⟩⟩ rfl ?_
  ·rintro a ⟨g1,g2⟩
   by_cases hn:a.length<32+v
   ·have hn':(a.length:Int)<((32+v:Nat):Int):=by omega
    obtain⟨r1,r2,r3,r4,r5,r6,r7,r8⟩:=WC a.length (by omega);have ho:ay 2 [.agg [T (two a.length),I 9]]=some (srs [(two a.length,9)]):=PJ _ _;have ha:=QJ (l:=a) (m:=[(two a.length,9)]) (by simp only [ZO];omega);refine .inl ⟨a++[(two a.length,9)],?_,⟨by simp;omega,⟨by simp;omega,fun x hx=>?_,fun x hx=>?_⟩⟩,by simp;omega⟩
    ·simp -implicitDefEqProofs only [gP,ZK,ZL,ZM,hn',r1,r2,r3,r4,r5,r6,r7,r8,Li,ho,Ml,ha]
    ·rcases aag.1 hx with hx | hx
     ·exact g2.sz x hx
     ·rw [ZY.1 hx]
      show 2≤4
      omega
    ·rcases aag.1 hx with hx | hx
     ·exact g2.lo x hx
     ·rw [ZY.1 hx]
      show(-1:Int)≤9∧(9:Int)≤100
      omega
   ·have hn':¬(a.length:Int)<((32+v:Nat):Int):=by omega
    refine .inr ⟨_,?_,rfl,a,rfl,g2⟩
    simp -implicitDefEqProofs only [gP,ZK,ZL,ZM,hn']
  ·rintro o ⟨a,rfl,g⟩
   refine⟨a,c4,?_,g,k4.mono (by omega)⟩
   simp -implicitDefEqProofs only [gP,ZK,ZL,ZM]
 ·rw [if_neg q3]
  exact⟨f,c3,rfl,hfd,k3.mono (by omega)⟩
theorem AE {l m:List ByteArray} (h:l.length+m.length≤1048577):bY 1 16 (txs l) (txs m)=some (txs (l++m)):=by
 rw [bv,if_pos (by simp only [ZF];omega)];show _=some (D.arr 1 ((l++m).map T))
 rw [aab]
set_option maxRecDepth 100000
theorem RH {α β:Type} (f:Nat→α→β→α) (l:List β) (Inv:Nat→α→Prop) (hs:∀(i:Nat) (a:α) (hi:i<l.length),Inv i a→Inv (i+1) (f i a l[i])) (a:α) (h0:Inv 0 a):Inv l.length (iD f 0 l a):=by
 have key:∀(n i:Nat) (a:α),i+n=l.length→Inv i a→Inv l.length (iD f i (l.drop i) a):=by
  intro n;induction n with
  | zero =>
   intro i a hi hI;have:i=l.length:=by omega
   subst this;rw [List.drop_length];exact hI
  | succ n ih =>
   intro i a hi hI;have hlt:i<l.length:=by omega
   rw [List.drop_eq_getElem_cons hlt];exact ih (i+1) _ (by omega) (hs i a hlt hI)
 simpa using key l.length 0 a (by omega) h0
def Pre (c:ByteArray) (w:List UInt8):Prop:=w.take (aM c).length=aM c
instance (c:ByteArray) (w:List UInt8):Decidable (Pre c w):=by unfold Pre;infer_instance
theorem Pre.len {c:ByteArray} {w:List UInt8} (h:Pre c w):(aM c).length≤w.length:=by
 have:=congrArg aan h;rw [ZW] at this;omega
theorem kf (s p:ByteArray):gf [T s,T p]=some (.ret [B (decide (Pre p (aM s)))] []):=by
 have e:cL [T s,T p]=some (.ret [B (decide (Pre p (aM s)))] []):=by
  rw [kO];by_cases h:p.size≤s.size
  ·have hs:=Te (z:=0) (aaE p.size) h
   have hp:(s.extract 0 p.size=p)↔Pre p (aM s):=by
    constructor
    ·intro h'
     have:=congrArg aM h';rw [jF,aak] at this;exact this
    ·intro h'
     refine qW ?_
     rw [jF,aak];exact h'
   have h0:eT true 0 (T s) (D.v (.int .i64 0)) (I (p.size:Int))=some (T (s.extract 0 p.size)):=hs;by_cases hq:Pre p (aM s)
   ·simp -implicitDefEqProofs [h,h0,hq,hp.2 hq]
   ·have hq':¬s.extract 0 p.size=p:=fun e=>hq (hp.1 e)
    simp -implicitDefEqProofs [h,h0,hq,hq']
  ·have hq:¬Pre p (aM s):=fun h'=>h h'.len
   simp -implicitDefEqProofs [h,hq]
 rw [vQ];simp -implicitDefEqProofs [e]
def Lu (cs:List ByteArray) (w:List UInt8) (i:Nat):Prop:=∃h:i<cs.length,Pre cs[i] w∧∀(j:Nat) (hj:j<cs.length),Pre cs[j] w→(aM cs[j]).length≤(aM cs[i]).length
def BX (cs:List ByteArray) (w:List UInt8):Prop:=∀(j:Nat) (hj:j<cs.length),¬Pre cs[j] w
structure Codes (cs:List ByteArray):Prop where
 len:∀(j:Nat) (hj:j<cs.length),1≤(aM cs[j]).length∧(aM cs[j]).length≤3
 inj:∀(i j:Nat) (hi:i<cs.length) (hj:j<cs.length),cs[i]=cs[j]→i=j
theorem Lu.uniq {cs:List ByteArray} {w:List UInt8} (hc:Codes cs) {i j:Nat} (hi:Lu cs w i) (hj:Lu cs w j):i=j:=by
 obtain⟨h1,p1,m1⟩:=hi;obtain⟨h2,p2,m2⟩:=hj;have e:(aM cs[i]).length=(aM cs[j]).length:=Nat.le_antisymm (m2 i h1 p1) (m1 j h2 p2);refine hc.inj i j h1 h2 (qW ?_)
 rw [←p1,←p2,e]
def BN (cs:List ByteArray) (w:List UInt8) (b:Int):Prop:=(b = -1∧BX cs w)∨∃k:Nat,b=k∧Lu cs w k
theorem BN.best {cs:List ByteArray} {w:List UInt8} (hc:Codes cs) {b:Int} (h:BN cs w b) {i:Nat} (hi:Lu cs w i):b=i:=by
 rcases h with ⟨_,h⟩ | ⟨k,rfl,h⟩
 ·exact absurd hi.2.1 (h i hi.1)
 ·rw [h.uniq hc hi]
theorem BN.none {cs:List ByteArray} {w:List UInt8} {b:Int} (h:BN cs w b) (hi:BX cs w):b = -1:=by
 rcases h with ⟨h,_⟩ | ⟨k,rfl,h⟩
 ·exact h
 ·exact absurd h.2.1 (hi k h.1)
inductive Sets (cs:List ByteArray):List UInt8→List Nat→Option (List Nat)→Prop where
 | nil {acc:List Nat}:Sets cs [] acc (some acc)
 | fail {w:List UInt8} {acc:List Nat}:w≠[]→BX cs w→Sets cs w acc none
 | step {w:List UInt8} {acc:List Nat} {i:Nat} {r:Option (List Nat)}:w≠[]→Lu cs w i→Sets cs (w.drop (aM (cs.getD i ZJ)).length) (acc++[i]) r→Sets cs w acc r
theorem VB {cs:List ByteArray} {w:List UInt8} (h:¬BX cs w):∃i,Lu cs w i:=by
 have key:∀n,n≤cs.length→(∀(j:Nat) (hj:j<cs.length),j<n→¬Pre cs[j] w)∨∃(i:Nat) (hi:i<cs.length),i<n∧Pre cs[i] w∧∀(j:Nat) (hj:j<cs.length),j<n→Pre cs[j] w→(aM cs[j]).length≤(aM cs[i]).length:=by
  intro n;induction n with
  | zero=>exact fun _=>.inl fun j _ hj=>absurd hj (by omega)
  | succ n ih =>
   intro hn;by_cases hp:Pre cs[n] w
   ·rcases ih (by omega) with h | ⟨i,hi,h1,h2,h3⟩
    ·refine .inr ⟨n,by omega,by omega,hp,fun j hj hjn hpj=>?_⟩
     rcases ZQ j n with h' | h'
     ·exact absurd hpj (h j hj h')
     ·have:j=n:=by omega
      subst this;exact ZT _
    ·by_cases hl:(aM cs[n]).length≤(aM cs[i]).length
     ·refine .inr ⟨i,hi,by omega,h2,fun j hj hjn hpj=>?_⟩
      rcases ZQ j n with h' | h'
      ·exact h3 j hj h' hpj
      ·have:j=n:=by omega
       subst this;exact hl
     ·refine .inr ⟨n,by omega,by omega,hp,fun j hj hjn hpj=>?_⟩
      rcases ZQ j n with h' | h'
      ·exact Nat.le_trans (h3 j hj h' hpj) (by omega)
      ·have:j=n:=by omega
       subst this;exact ZT _
   ·rcases ih (by omega) with h | ⟨i,hi,h1,h2,h3⟩
    ·refine .inl fun j hj hjn hpj=>?_
     rcases ZQ j n with h' | h'
     ·exact h j hj h' hpj
     ·have:j=n:=by omega
      subst this;exact hp hpj
    ·refine .inr ⟨i,hi,by omega,h2,fun j hj hjn hpj=>?_⟩
     rcases ZQ j n with h' | h'
     ·exact h3 j hj h' hpj
     ·have:j=n:=by omega
      subst this;exact absurd hpj hp
 rcases key cs.length (ZT _) with h' | ⟨i,hi,_,h2,h3⟩
 ·exact absurd (fun j hj=>h' j hj hj) h
 ·exact⟨i,hi,h2,fun j hj=>h3 j hj hj⟩
theorem EJ {cs:List ByteArray} {i:Nat} (h:i<cs.length):cs.getD i ZJ=cs[i]:=by
 simp [ZR,h]
theorem GC {cs:List ByteArray} (hc:Codes cs):∀(n:Nat) (w:List UInt8) (acc:List Nat),w.length≤n→∃r,Sets cs w acc r
 | 0,w,acc,h=>by
  have:w=[]:=List.eq_nil_of_length_eq_zero (by omega);subst this;exact⟨_,.nil⟩
 | n+1,w,acc,h=>by
  by_cases hw:w=[]
  ·subst hw
   exact⟨_,.nil⟩
  ·by_cases hN:BX cs w
   ·exact⟨_,.fail hw hN⟩
   ·obtain⟨i,hi⟩:=VB hN
    have h1:=hc.len i hi.1;obtain⟨r,hr⟩:=GC hc n (w.drop (aM (cs.getD i ZJ)).length) (acc++[i]) (by
     rw [EJ hi.1,ZX];have:0<w.length:=aaG.2 hw;omega)
    exact⟨r,.step hw hi hr⟩
theorem Vh {cs:List ByteArray} (hc:Codes cs) {w:List UInt8} {acc:List Nat} {r:Option (List Nat)} (h:Sets cs w acc r):(∀i∈acc,i<cs.length)→∀l,r=some l→(∀i∈l,i<cs.length)∧l.length≤acc.length+w.length:=by
 induction h with
 | nil =>
  intro h l e;cases e;exact⟨h,by simp⟩
 | fail=>intro _ l e;cases e
 | step hw hb _ ih =>
  rename_i w acc i r _;intro h l e;obtain⟨h1,h2⟩:=ih (fun j hj=>by
   rcases aag.1 hj with hj | hj
   ·exact h j hj
   ·simp at hj
    subst hj;exact hb.1) l e
  refine⟨h1,?_⟩
  rw [aac,ZO,ZX,EJ hb.1] at h2;have:=hc.len i hb.1;have:=hb.2.1.len;omega
theorem Kn {cs:List ByteArray} (hc:Codes cs) {body:List D→Option Out} (w:List UInt8) (st:Nat→List Nat→List D) (fin:Option (List Nat)→Out) (hfin:∀r,(fin r).ends=true)
  (h0:∀acc,acc.length≤w.length→body (st w.length acc)=some (fin (some acc))) (hf:∀at_ acc,at_<w.length→acc.length≤at_→BX cs (w.drop at_)→body (st at_ acc)=some (fin none))
  (hs:∀at_ acc i (hb:Lu cs (w.drop at_) i),at_<w.length→acc.length≤at_→at_+(aM (cs[i]'hb.1)).length≤w.length→body (st at_ acc)=some (.nrm (st (at_+(aM (cs[i]'hb.1)).length) (acc++[i])))) {rest:List UInt8} {acc:List Nat} {r:Option (List Nat)} (h:Sets cs rest acc r) :
  ∀at_,at_≤w.length→acc.length≤at_→rest=w.drop at_→Runs body (st at_ acc) (fin r):=by
 induction h with
 | nil =>
  intro at_ h1 h2 h3;have:=congrArg aan h3;rw [ZX,aau] at this;have:at_=w.length:=by omega
  subst this;exact Runs.one (h0 _ h2) (hfin _)
 | fail hw hN =>
  intro at_ h1 h2 h3;subst h3;have:at_<w.length:=by
   rcases ZQ at_ w.length with h | h
   ·exact h
   ·exact absurd (aaF h) hw
  exact Runs.one (hf at_ _ this h2 hN) (hfin _)
 | step hw hb _ ih =>
  rename_i w' acc i r _;intro at_ h1 h2 h3;subst h3;have hlt:at_<w.length:=by
   rcases ZQ at_ w.length with h | h
   ·exact h
   ·exact absurd (aaF h) hw
  have hl:=hb.2.1.len;rw [ZX] at hl;have h1':=hc.len i hb.1;rw [EJ hb.1] at ih;refine .nrm (hs at_ acc i hb hlt h2 (by omega)) (ih _ (by omega) (by rw [aac,ZO];omega) ?_)
  rw [aaR]
set_option maxRecDepth 100000
abbrev so (σ:ByteArray→Int) (c:ByteArray):D:=.agg [T c,I (σ c)]
abbrev fD (σ:ByteArray→Int) (cs:List ByteArray):D:=.arr 2 (cs.map (so σ))
abbrev ju (l:List Nat):D:=.arr 1 (l.map fun(i:Nat)=>I (i:Int))
theorem MR (l:List Nat) (i:Nat) (h:l.length≤1048576):bY 1 8 (ju l) (.arr 1 [I (i:Int)])=some (ju (l++[i])):=by
 rw [bv,if_pos (by simp only [ZF,ZO];omega)];simp
theorem Og (i:Nat):ay 1 [I (i:Int)]=some (.arr 1 [I (i:Int)]):=by simp [ay,eA]
theorem Nn (i:Nat):dq (.arr 1 [I (i:Int)])=some (.arr 1 [I (i:Int)]):=by simp [dq,D.isV]
theorem FZ {β:Type} {p:β→Bool}:∀{l:List β} {i j:Nat},fN p i l=some j→i≤j∧∃h:j - i<l.length,p l[j - i]=true
 | [],i,j,h=>by simp [fN] at h
 | x::l,i,j,h=>by
  simp only [fN] at h;split at h
  ·rename_i hp
   cases h;exact⟨ZT _,by simp,by simpa using hp⟩
  ·obtain⟨h1,h2,h3⟩:=FZ h
   refine⟨by omega,by simp;omega,?_⟩
   have:j - i=(j - (i+1))+1:=by omega
   simp only [this,List.getElem_cons_succ];exact h3
theorem Fx {β:Type} {p:β→Bool}:∀{l:List β} {i:Nat},fN p i l=none→∀(j:Nat) (hj:j<l.length),p l[j]=false
 | [],i,_,j,hj=>by simp at hj
 | x::l,i,h,j,hj=>by
  simp only [fN] at h;split at h
  ·cases h
  ·rename_i hp
   cases j with
   | zero=>simpa using hp
   | succ j=>exact Fx h j (by simpa using hj)
def fC (cs:List ByteArray) (c:ByteArray):Int:=(fN (fun b:ByteArray=>decide (b=c)) 0 cs).elim (-1) fun j=>(j:Int)
theorem RC (σ:ByteArray→Int) (cs:List ByteArray) (c:ByteArray) (h:cs.length≤1048576):jD [fD σ cs,T c]=some (.ret [I (fC cs c)] []):=by
 rw [Ir];simp only [aS,ZF,ZG];refine ax _ (CX cs (fun i=>[T c,fD σ cs,I cs.length,I i]) (fun b:ByteArray=>decide (b=c)) (fun j=>.ret [I j] []) (.ext 0 []) (fun i hi=>?_) ?_ (fun _=>rfl) rfl rfl) ?_
 ·have hw:ZE.wrap ((i:Int)+1)=(i:Int)+1:=ae (by omega) (by omega)
  by_cases hc:cs[i]=c<;>simp -implicitDefEqProofs [hi,hw,hc]
 ·simp
 ·unfold fC
  cases fN (fun b:ByteArray=>decide (b=c)) 0 cs<;>simp -implicitDefEqProofs
theorem WZ {cs:List ByteArray} {c:ByteArray}:(fC cs c = -1∧∀(j:Nat) (hj:j<cs.length),cs[j]≠c)∨∃(j:Nat) (hj:j<cs.length),fC cs c=j∧cs[j]=c:=by
 unfold fC;cases h:fN (fun b:ByteArray=>decide (b=c)) 0 cs with
 | none=>exact .inl ⟨rfl,fun j hj=>by simpa using Fx h j hj⟩
 | some j =>
  obtain⟨_,h1,h2⟩:=FZ h;exact .inr ⟨j,by simpa using h1,rfl,by simpa using h2⟩
theorem Hm (a b:Int):iR [I a,I b]=some (.ret [I (if a<b then a else b)] []):=by
 rw [GW];by_cases h:a<b<;>simp -implicitDefEqProofs [h]
def Er (r:Option (List Nat)):Out:=match r with
 | some l=>.ext 0 [ju l]
 | none=>.ret [ju [],B false] []
def Ao (r:Option (List Nat)):Option Out:=some (.ret [ju (r.getD []),B r.isSome] [])
theorem DC (σ:ByteArray→Int) {cs:List ByteArray} (hc:Codes cs) (hl:cs.length≤1048576) (s:ByteArray) (hs:s.size≤1000) (at_:Nat) (acc:List Nat) (hlt':at_<s.size):∃m:Nat,iR [I 3,I ((s.size - at_:Nat):Int)]=some (.ret [I m] []) ∧
  ∀(R:Option Out→Prop) (body:List D→Option Out) (K:Out→Option Out),(∀(b:Int) (n:Nat),body [fD σ cs,T s,ju acc,I at_,I b,I n]=if 0<n∧b<0 then(((some (ZE.wrap ((at_:Int)+n)):Option Int).bind fun e=>eT true 0 (T s) (I at_) (I e)).bind fun z=>callK (jD [fD σ cs,z]) fun rs _=>some (.nrm [fD σ cs,T s,ju acc,I at_,sl rs 0,I (ZE.wrap ((n:Int) - 1))])) else some (.ext 2 [fD σ cs,T s,ju acc,I at_,I b])) →
    (∀b,BN cs ((aM s).drop at_) b→R (K (.ext 2 [fD σ cs,T s,ju acc,I at_,I b])))→R ((aQ body [fD σ cs,T s,ju acc,I at_,I (-1),I m]).bind K):=by
 have hsz:s.size=(aM s).length:=rfl;obtain⟨m,hm1,hm2,hm3⟩:∃m:Nat,(if (3:Int)<((s.size - at_:Nat):Int) then(3:Int) else((s.size - at_:Nat):Int))=m∧m≤3∧(at_+m≤s.size∧(m=3∨at_+m=s.size)):=by
  by_cases h3:(3:Int)<((s.size - at_:Nat):Int)
  ·exact⟨3,by rw [if_pos h3];rfl,by omega,by omega,.inl rfl⟩
  ·exact⟨s.size - at_,by rw [if_neg h3],by omega,by omega,.inr (by omega)⟩
 have el:=Hm 3 ((s.size - at_:Nat):Int);rw [hm1] at el;refine⟨m,el,?_⟩
 intro R body K hbody hK;refine bu R (fun a:Int × Nat=>[fD σ cs,T s,ju acc,I at_,I a.1,I a.2]) (fun a=>a.2≤3∧at_+a.2≤s.size∧((a.1 = -1∧∀(j:Nat) (hj:j<cs.length),Pre cs[j] ((aM s).drop at_)→(aM cs[j]).length≤a.2)∨∃k:Nat,a.1=k∧Lu cs ((aM s).drop at_) k)) (fun a=>a.2)
  (fun o=>∃b,o = .ext 2 [fD σ cs,T s,ju acc,I at_,I b]∧BN cs ((aM s).drop at_) b) (fun a hI=>?_) (-1,m) ⟨hm2,hm3.1,.inl ⟨rfl,fun j hj hp=>?_⟩⟩ rfl (fun o ho=>?_)
 ·obtain⟨b,n⟩:=a
  obtain⟨i1,i2,i3⟩:=hI;simp only at i1 i2 i3;rw [hbody];by_cases hcond:0<n∧b<0
  ·rw [if_pos hcond]
   have hwn:ZE.wrap ((at_:Int)+n)=((at_+n:Nat):Int):=by rw [ae (by omega) (by omega)];omega
   have hwm:ZE.wrap ((n:Int) - 1)=((n - 1:Nat):Int):=by rw [ae (by omega) (by omega)];omega
   have hsl:=Te (s:=s) (z:=0) (i:=at_) (j:=at_+n) (by omega) (by omega);have hch:aM (s.extract at_ (at_+n))=((aM s).drop at_).take n:=by
    rw [jF,List.drop_take];congr 1
    omega
   simp only [ZG,hwn,hwm,hsl,RC σ cs _ hl,bd,aE];rcases i3 with ⟨rfl,hmax⟩ | ⟨k,rfl,_⟩
   ·refine .inl ⟨(fC cs (s.extract at_ (at_+n)),n - 1),rfl,⟨by simp only;omega,by simp only;omega,?_⟩,by simp only;omega⟩
    simp only;rcases WZ (cs:=cs) (c:=s.extract at_ (at_+n)) with ⟨e1,e2⟩ | ⟨j,hj,e1,e2⟩
    ·refine .inl ⟨e1,fun j hj hp=>?_⟩
     have h1:=hmax j hj hp;rcases ZQ (aM cs[j]).length n with h' | h'
     ·omega
     ·exfalso
      have:(aM cs[j]).length=n:=by omega
      refine e2 j hj (qW ?_)
      rw [hch,←hp,this]
    ·have hln:(aM cs[j]).length=n:=by
      rw [e2,hch,ZW,ZX];omega
     refine .inr ⟨j,e1,hj,?_,fun j' hj' hp'=>by rw [hln];exact hmax j' hj' hp'⟩
     unfold Pre;rw [hln,e2,hch]
   ·omega
  ·rw [if_neg hcond]
   refine .inr ⟨_,rfl,rfl,b,rfl,?_⟩
   rcases i3 with ⟨rfl,hmax⟩ | ⟨k,rfl,hk⟩
   ·refine .inl ⟨rfl,fun j hj hp=>?_⟩
    have h1:=hmax j hj hp;have h2:=(hc.len j hj).1;omega
   ·exact .inr ⟨k,rfl,hk⟩
 ·have h1:=(hc.len j hj).2
  have h2:=hp.len;rw [ZX] at h2;simp only;omega
 ·obtain⟨b,rfl,hb⟩:=ho
  exact hK b hb
theorem My (σ:ByteArray→Int) {cs:List ByteArray} (hc:Codes cs) (hl:cs.length≤1048576) (s:ByteArray) (hs:s.size≤1000) {r:Option (List Nat)} (h:Sets cs (aM s) [] r):kG [fD σ cs,T s]=Ao r:=by
 rw [LX];have hsz:s.size=(aM s).length:=rfl;refine ax (Er r) (Runs.loop (Kn hc (aM s) (fun at_ acc=>[fD σ cs,T s,ju acc,I at_]) Er (fun r=>by cases r<;>rfl) (fun acc ha=>?_) (fun at_ acc hlt ha hN=>?_) (fun at_ acc i hb hlt ha hle=>?_) h 0 (aaE _) (by simp) (by simp))) ?_
 ·simp -implicitDefEqProofs [hsz,Er]
 ·have hw0:ZE.wrap ((s.size:Int) - at_)=((s.size - at_:Nat):Int):=by rw [ae (by omega) (by omega)];omega
  have hlt':at_<s.size:=by omega
  obtain⟨m,el,inner⟩:=DC σ hc hl s hs at_ acc hlt';simp -implicitDefEqProofs [hlt',hw0,el];refine inner (fun X=>X=some (Er none)) _ _ (fun b n=>?_) (fun b hb=>?_)
  ·by_cases h1:0<n<;>by_cases h2:b<0<;>simp -implicitDefEqProofs [h1,h2]
  ·have:=hb.none hN
   subst this;simp -implicitDefEqProofs [Er]
 ·have hw0:ZE.wrap ((s.size:Int) - at_)=((s.size - at_:Nat):Int):=by rw [ae (by omega) (by omega)];omega
  have hlt':at_<s.size:=by omega
  obtain⟨m,el,inner⟩:=DC σ hc hl s hs at_ acc hlt';simp -implicitDefEqProofs [hlt',hw0,el];refine inner (fun X=>X=some (.nrm [fD σ cs,T s,ju (acc++[i]),I ((at_+(aM (cs[i]'hb.1)).length:Nat):Int)])) _ _ (fun b n=>?_) (fun b hb'=>?_)
  ·by_cases h1:0<n<;>by_cases h2:b<0<;>simp -implicitDefEqProofs [h1,h2]
  ·have:=hb'.best hc hb
   subst this;have hi:=hb.1;have hsl:(cs[i]).size=(aM cs[i]).length:=rfl;have hwa:ZE.wrap ((at_:Int)+(aM cs[i]).length)=(at_:Int)+(aM cs[i]).length:=ae (by omega) (by omega);simp -implicitDefEqProofs [Og,Nn,MR acc i (by omega),hi,hsl,hwa,-bv]
 ·cases r<;>simp -implicitDefEqProofs [Er,Ao]
set_option maxRecDepth 100000
def DH (cs:List ByteArray) (w:List UInt8) (i:Nat) (b:Int) (c:ByteArray):Int:=if Pre c w∧(b<0∨(aM (cs.getD b.toNat ZJ)).length<(aM c).length) then i else b
theorem wE (σ:ByteArray→Int) {cs:List ByteArray} (rest:ByteArray) (acc:List Nat) (hl:cs.length≤1048576):∀(R:Option Out→Prop) (body:List D→Option Out) (K:Out→Option Out),
  (∀(i:Nat) (hi:i<cs.length) (b:Int),(b<0∨∃k:Nat,b=k∧k<cs.length)→ZE.wrap ((i:Int)+1)=(i:Int)+1→body [fD σ cs,T rest,ju acc,I b,fD σ cs,I cs.length,I i]=some (.nrm [fD σ cs,T rest,ju acc,I (DH cs (aM rest) i b cs[i]),fD σ cs,I cs.length,I ((i:Int)+1)])) →
  (∀b,body [fD σ cs,T rest,ju acc,I b,fD σ cs,I cs.length,I cs.length]=some (.ext 2 [fD σ cs,T rest,ju acc,I b])) →
  (∀b,BN cs (aM rest) b→R (K (.ext 2 [fD σ cs,T rest,ju acc,I b])))→R ((aQ body [fD σ cs,T rest,ju acc,I (-1),fD σ cs,I cs.length,I 0]).bind K):=by
 intro R body K h1 h2 h3;have inv:∀(i:Nat) (b:Int) (hi:i<cs.length),((b = -1∧∀(j:Nat) (hj:j<cs.length),j<i→¬Pre cs[j] (aM rest))∨∃(k:Nat) (hk:k<cs.length),b=k∧Pre cs[k] (aM rest)∧∀(j:Nat) (hj:j<cs.length),j<i→Pre cs[j] (aM rest)→(aM cs[j]).length≤(aM cs[k]).length) →
   ((DH cs (aM rest) i b cs[i] = -1∧∀(j:Nat) (hj:j<cs.length),j<i+1→¬Pre cs[j] (aM rest))∨∃(k:Nat) (hk:k<cs.length),DH cs (aM rest) i b cs[i]=k∧Pre cs[k] (aM rest)∧∀(j:Nat) (hj:j<cs.length),j<i+1→Pre cs[j] (aM rest)→(aM cs[j]).length≤(aM cs[k]).length):=by
  intro i b hi hI;unfold DH;rcases hI with ⟨rfl,hN⟩ | ⟨k,hk,rfl,hp,hmax⟩
  ·by_cases hpi:Pre cs[i] (aM rest)
   ·rw [if_pos ⟨hpi,.inl (by omega)⟩]
    refine .inr ⟨i,hi,rfl,hpi,fun j hj hji hpj=>?_⟩
    rcases ZQ j i with h | h
    ·exact absurd hpj (hN j hj h)
    ·have:j=i:=by omega
     subst this;exact ZT _
   ·rw [if_neg (fun h=>hpi h.1)]
    refine .inl ⟨rfl,fun j hj hji hpj=>?_⟩
    rcases ZQ j i with h | h
    ·exact hN j hj h hpj
    ·have:j=i:=by omega
     subst this;exact hpi hpj
  ·rw [aaL,EJ hk]
   by_cases hc:Pre cs[i] (aM rest)∧((k:Int)<0∨(aM cs[k]).length<(aM cs[i]).length)
   ·rw [if_pos hc]
    refine .inr ⟨i,hi,rfl,hc.1,fun j hj hji hpj=>?_⟩
    rcases ZQ j i with h | h
    ·have:=hmax j hj h hpj
     omega
    ·have:j=i:=by omega
     subst this;exact ZT _
   ·rw [if_neg hc]
    refine .inr ⟨k,hk,rfl,hp,fun j hj hji hpj=>?_⟩
    rcases ZQ j i with h | h
    ·exact hmax j hj h hpj
    ·have:j=i:=by omega
     subst this;rcases ZQ (aM cs[k]).length (aM cs[j]).length with h' | h'
     ·exact absurd ⟨hpj,.inr h'⟩ hc
     ·exact h'
 rw [co (body:=body) (s0:=[fD σ cs,T rest,ju acc,I (-1),fD σ cs,I cs.length,I 0]) cs (fun i b=>[fD σ cs,T rest,ju acc,I b,fD σ cs,I cs.length,I i]) (fun i b=>(b = -1∧∀(j:Nat) (hj:j<cs.length),j<i→¬Pre cs[j] (aM rest))∨∃(k:Nat) (hk:k<cs.length),b=k∧Pre cs[k] (aM rest)∧∀(j:Nat) (hj:j<cs.length),j<i→Pre cs[j] (aM rest)→(aM cs[j]).length≤(aM cs[k]).length)
  (fun i b c=>DH cs (aM rest) i b c) (fun b=>.ext 2 [fD σ cs,T rest,ju acc,I b]) (-1) (fun i b hi hI=>⟨h1 i hi b (by
   rcases hI with ⟨rfl,_⟩ | ⟨k,hk,rfl,_⟩
   ·exact .inl (by omega)
   ·exact .inr ⟨k,rfl,hk⟩) (ae (by omega) (by omega)),inv i b hi hI⟩) (fun b _=>h2 b) (fun _=>rfl) (.inl ⟨rfl,fun j _ hj=>absurd hj (by omega)⟩) rfl]
 have hfin:=RH (fun i b c=>DH cs (aM rest) i b c) cs (fun i b=>(b = -1∧∀(j:Nat) (hj:j<cs.length),j<i→¬Pre cs[j] (aM rest))∨∃(k:Nat) (hk:k<cs.length),b=k∧Pre cs[k] (aM rest)∧∀(j:Nat) (hj:j<cs.length),j<i→Pre cs[j] (aM rest)→(aM cs[j]).length≤(aM cs[k]).length)
  (fun i b hi hI=>inv i b hi hI) (-1) (.inl ⟨rfl,fun j _ hj=>absurd hj (by omega)⟩)
 refine h3 _ ?_
 rcases hfin with ⟨e,hN⟩ | ⟨k,hk,e,hp,hmax⟩
 ·exact .inl ⟨e,fun j hj=>hN j hj hj⟩
 ·exact .inr ⟨k,e,hk,hp,fun j hj=>hmax j hj hj⟩
theorem Ns (s:ByteArray):s.extract 0 s.size=s:=by
 refine qW ?_
 rw [jF,aak];exact aaO
theorem lL (s:ByteArray) (at_:Nat):aM (s.extract at_ s.size)=(aM s).drop at_:=by
 rw [jF];congr 1
 exact aaO
theorem Cs (s:ByteArray) (at_:Nat):(s.extract at_ s.size).size=s.size - at_:=by
 show(aM (s.extract at_ s.size)).length=(aM s).length - at_
 rw [lL,ZX]
theorem Rg (s:ByteArray) (at_ n:Nat):(s.extract at_ s.size).extract n (s.extract at_ s.size).size=s.extract (at_+n) s.size:=by
 refine qW ?_
 rw [lL,lL,lL,aaR]
theorem ET (σ:ByteArray→Int) {cs:List ByteArray} (hc:Codes cs) (hl:cs.length≤1048576) (s:ByteArray) (hs:s.size≤1000) {r:Option (List Nat)} (h:Sets cs (aM s) [] r):iM [fD σ cs,T s]=Ao r:=by
 rw [GZ];have hsz:s.size=(aM s).length:=rfl;simp only [dw,ZG];refine ax (Er r) (Runs.loop (Kn hc (aM s) (fun at_ acc=>[fD σ cs,T (s.extract at_ s.size),ju acc]) Er (fun r=>by cases r<;>rfl) (fun acc ha=>?_) (fun at_ acc hlt ha hN=>?_) (fun at_ acc i hb hlt ha hle=>?_) h 0 (aaE _) (by simp) (by simp)) |> fun e=>by rw [Ns] at e;exact e) ?_
 ·have h0:(s.extract (aM s).length s.size).size=0:=by rw [Cs,hsz];omega
  simp -implicitDefEqProofs [h0,Er]
 ·have h0:=Cs s at_
  have h0':0<s.size - at_:=by omega
  simp -implicitDefEqProofs [h0'];refine wE σ (s.extract at_ s.size) acc hl (fun X=>X=some (Er none)) _ _ (fun i hi b hb hwi=>?_) (fun b=>?_) (fun b hb=>?_)
  ·unfold DH
   by_cases hp:Pre cs[i] (aM (s.extract at_ s.size))
   ·rcases hb with hb | ⟨k,rfl,hk⟩
    ·simp -implicitDefEqProofs [hi,hwi,kf,hp,hb]
    ·have hk':¬(k:Int)<0:=by omega
     have z1:cs[i].size=(aM cs[i]).length:=rfl;have z2:cs[k].size=(aM cs[k]).length:=rfl;by_cases hlt2:(aM cs[k]).length<(aM cs[i]).length<;>simp -implicitDefEqProofs [hi,hwi,kf,hp,hk,hk',z1,z2,hlt2]
   ·simp -implicitDefEqProofs [hi,hwi,kf,hp]
  ·simp -implicitDefEqProofs
  ·rw [lL] at hb
   have:=hb.none hN;subst this;simp -implicitDefEqProofs [Er,dw]
 ·have h0:=Cs s at_
  have h0':0<s.size - at_:=by omega
  simp -implicitDefEqProofs [h0'];refine wE σ (s.extract at_ s.size) acc hl (fun X=>X=some (.nrm [fD σ cs,T (s.extract (at_+(aM (cs[i]'hb.1)).length) s.size),ju (acc++[i])])) _ _ (fun i hi b hb hwi=>?_) (fun b=>?_) (fun b hb'=>?_)
  ·unfold DH
   by_cases hp:Pre cs[i] (aM (s.extract at_ s.size))
   ·rcases hb with hb | ⟨k,rfl,hk⟩
    ·simp -implicitDefEqProofs [hi,hwi,kf,hp,hb]
    ·have hk':¬(k:Int)<0:=by omega
     have z1:cs[i].size=(aM cs[i]).length:=rfl;have z2:cs[k].size=(aM cs[k]).length:=rfl;by_cases hlt2:(aM cs[k]).length<(aM cs[i]).length<;>simp -implicitDefEqProofs [hi,hwi,kf,hp,hk,hk',z1,z2,hlt2]
   ·simp -implicitDefEqProofs [hi,hwi,kf,hp]
  ·simp -implicitDefEqProofs
  ·rw [lL] at hb'
   have:=hb'.best hc hb;subst this;have hi:=hb.1;have hz:(cs[i]).size=(aM cs[i]).length:=rfl;have hsl:=UQ (s:=s.extract at_ s.size) (z:=0) (i:=(aM cs[i]).length) (by omega);rw [Rg s at_ _] at hsl;simp -implicitDefEqProofs [Og,Nn,MR acc i (by omega),hi,hz,hsl,-bv]
 ·cases r<;>simp -implicitDefEqProofs [Er,Ao]
set_option maxRecDepth 100000
theorem Gz (n:Int):iK [I n]=some (.ret [B (decide (0≤n∧n≤9))] []):=by
 rw [Ht];simp [cg]
abbrev Bx:=ByteArray × Int × Int × Int
abbrev bx (x:Bx):D:=.agg [T x.1,I x.2.1,I x.2.2.1,I x.2.2.2]
abbrev bxs (l:List Bx):D:=.arr 4 (l.map bx)
theorem Ln (x:Bx):(bx x).isV=true:=rfl
def kz (l:List Bx):Prop:=l.length≤1048576∧∀x∈l,x.1.size≤1048576
def tQ (x:Bx):Bool:=eK x.1 1 3&&decide (0≤x.2.1∧x.2.1≤9)&&decide (0≤x.2.2.1∧x.2.2.1≤9)&&decide (0≤x.2.2.2∧x.2.2.2≤9999)
theorem LB (x:Bx) (h:x.1.size≤1048576):nO [bx x]=some (.ret [B (tQ x)] []):=by
 rw [MA];have e:=lS x.1 3 (by omega);cases h0:eK x.1 1 3<;>rw [h0] at e
 ·simp -implicitDefEqProofs [e,tQ,h0]
 ·by_cases h1:0≤x.2.1∧x.2.1≤9<;>by_cases h2:0≤x.2.2.1∧x.2.2.1≤9<;>simp -implicitDefEqProofs [e,eY,tQ,h0,h1,h2]
theorem Ly (x:Bx) (h:x.1.size≤1048576):nR [bx x]=some (.ret [B (tQ x)] []):=by
 rw [Mc];have e:=xK x.1 (by omega);cases h0:eK x.1 1 3<;>rw [h0] at e
 ·simp -implicitDefEqProofs [e,tQ,h0]
 ·by_cases h1:0≤x.2.1∧x.2.1≤9<;>by_cases h2:0≤x.2.2.1∧x.2.2.1≤9<;>simp -implicitDefEqProofs [e,Gz,cg,tQ,h0,h1,h2]
def kj (x y:Bx):Bool:=decide (y.2.1=x.2.1)&&decide (y.2.2.1=x.2.2.1)
def pBx (l:List Bx) (i:Nat) (x:Bx):Bool:=tQ x && !(decide (0<i) && !aaa (l.getD (i - 1) (ZJ,0,0,0)).1.toList x.1.toList)&&du (fun _ y=>!kj x y) 0 (l.take i)
def dY (l:List Bx):Bool:=du (pBx l) 0 l&&decide (1≤(l.length:Int)∧(l.length:Int)≤32)
theorem OG {l:List Bx} {i:Nat} (hi:i≤l.length):eT false 4 (bxs l) (I 0) (I (i:Int))=some (bxs (l.take i)):=by
 have:=oS (z:=4) (l:=l.map bx) (k:=.i64) (k':=.i64) (aaE i) (by simpa using hi);rw [aak,←ZV] at this;exact this
theorem xU (l:List Bx) (h:kz l):jB [bxs l]=some (.ret [B (dY l)] []):=by
 rw [JR];have hl:=h.1;simp only [aS,ZF,ZG];refine ax _ (dJ l (fun i=>[bxs l,bxs l,I l.length,I i]) (pBx l) (.ret [B false] []) (.ext 0 [bxs l]) (fun i hi=>?_) ?_ rfl rfl rfl) ?_
 ·have hw:ZE.wrap ((i:Int)+1)=(i:Int)+1:=ae (by omega) (by omega)
  have eb:=LB l[i] (h.2 _ (ZN hi));have ht:=OG (Nat.le_of_lt hi);cases h1:tQ l[i]
  ·rw [h1] at eb
   simp -implicitDefEqProofs [hi,eb,h1,pBx]
  ·rw [h1] at eb
   by_cases h0:0<i
   ·have hw2:ZE.wrap ((i:Int) - 1)=((i - 1:Nat):Int):=by rw [ae (by omega) (by omega)];omega
    have hy:i - 1<l.length:=by omega
    cases h2:aaa l[i - 1].1.toList l[i].1.toList
    ·simp -implicitDefEqProofs [hi,hy,eb,h1,pBx,hw2,h0,h2,ou]
    ·have hp:pBx l i l[i]=du (fun _ y=>!kj l[i] y) 0 (l.take i):=by simp [pBx,h1,h0,h2,hy]
     rw [hp];have htl:(l.take i).length≤1048576:=by simp;omega
     simp -implicitDefEqProofs [hi,hy,eb,hw2,h0,h2,ou,ht,hw,←ZV,-ZW,-ZV];generalize l.take i=t at ht htl;refine ax _ (dJ t (fun j=>[bxs l,bx l[i],bxs l,I l.length,I i,bxs t,I t.length,I j]) (fun _ y=>!kj l[i] y) (.ret [B false] []) (.ext 2 [bxs l,bxs l,I l.length,I i]) (fun j hj=>?_) ?_ rfl rfl rfl) ?_
     ·have hwj:ZE.wrap ((j:Int)+1)=(j:Int)+1:=ae (by omega) (by omega)
      by_cases c1:t[j].2.1=l[i].2.1<;>by_cases c2:t[j].2.2.1=l[i].2.2.1<;>simp -implicitDefEqProofs [hj,hwj,c1,c2,kj]
     ·simp -implicitDefEqProofs
     ·cases ha:du (fun _ y=>!kj l[i] y) 0 t<;>simp -implicitDefEqProofs [hw]
   ·have hp:pBx l i l[i]=du (fun _ y=>!kj l[i] y) 0 (l.take i):=by simp [pBx,h1,h0]
    rw [hp];have htl:(l.take i).length≤1048576:=by simp;omega
    simp -implicitDefEqProofs [hi,eb,h0,ou,ht,hw,←ZV,-ZW,-ZV];generalize l.take i=t at ht htl;refine ax _ (dJ t (fun j=>[bxs l,bx l[i],bxs l,I l.length,I i,bxs t,I t.length,I j]) (fun _ y=>!kj l[i] y) (.ret [B false] []) (.ext 2 [bxs l,bxs l,I l.length,I i]) (fun j hj=>?_) ?_ rfl rfl rfl) ?_
    ·have hwj:ZE.wrap ((j:Int)+1)=(j:Int)+1:=ae (by omega) (by omega)
     by_cases c1:t[j].2.1=l[i].2.1<;>by_cases c2:t[j].2.2.1=l[i].2.2.1<;>simp -implicitDefEqProofs [hj,hwj,c1,c2,kj]
    ·simp -implicitDefEqProofs
    ·cases ha:du (fun _ y=>!kj l[i] y) 0 t<;>simp -implicitDefEqProofs [hw]
 ·simp
 ·by_cases hg:du (pBx l) 0 l=true<;>simp -implicitDefEqProofs [hg,dY,eY]
set_option maxRecDepth 100000
theorem Gi (t:List Bx) (x:Bx) (h:t.length≤1048576):lp [bxs t,I x.2.1,I x.2.2.1]=some (.ret [B (!du (fun _ y=>!kj x y) 0 t)] []):=by
 rw [FE];simp only [aS,ZF,ZG];refine ax _ (dJ t (fun j=>[I x.2.1,I x.2.2.1,bxs t,I t.length,I j]) (fun _ y=>!kj x y) (.ret [B true] []) (.ext 0 []) (fun j hj=>?_) ?_ rfl rfl rfl) ?_
 ·have hwj:ZE.wrap ((j:Int)+1)=(j:Int)+1:=ae (by omega) (by omega)
  by_cases c1:t[j].2.1=x.2.1<;>by_cases c2:t[j].2.2.1=x.2.2.1<;>simp -implicitDefEqProofs [hj,hwj,c1,c2,kj]
 ·simp -implicitDefEqProofs
 ·cases ha:du (fun _ y=>!kj x y) 0 t<;>simp -implicitDefEqProofs
theorem wA (l:List Bx) (h:kz l):jH [bxs l]=some (.ret [B (dY l)] []):=by
 rw [II];have hl:=h.1;simp only [aS,ZF,ZG];refine ax _ (dJ l (fun i=>[bxs l,bxs l,I l.length,I i]) (pBx l) (.ret [B false] []) (.ext 0 [bxs l]) (fun i hi=>?_) ?_ rfl rfl rfl) ?_
 ·have hw:ZE.wrap ((i:Int)+1)=(i:Int)+1:=ae (by omega) (by omega)
  have eb:=Ly l[i] (h.2 _ (ZN hi));have ht:=OG (Nat.le_of_lt hi);have et:=Gi (l.take i) l[i] (by simp;omega);cases h1:tQ l[i]
  ·rw [h1] at eb
   simp -implicitDefEqProofs [hi,eb,h1,pBx]
  ·rw [h1] at eb
   by_cases h0:0<i
   ·have hw2:ZE.wrap ((i:Int) - 1)=((i - 1:Nat):Int):=by rw [ae (by omega) (by omega)];omega
    have hy:i - 1<l.length:=by omega
    cases h2:aaa l[i - 1].1.toList l[i].1.toList
    ·simp -implicitDefEqProofs [hi,hy,eb,h1,pBx,hw2,h0,h2,ou]
    ·have hp:pBx l i l[i]=du (fun _ y=>!kj l[i] y) 0 (l.take i):=by simp [pBx,h1,h0,h2,hy]
     rw [hp];cases ha:du (fun _ y=>!kj l[i] y) 0 (l.take i)<;>rw [ha] at et<;>simp -implicitDefEqProofs [hi,hy,eb,hw2,h0,h2,ou,ht,hw,et,←ZV,-ZV]
   ·have hp:pBx l i l[i]=du (fun _ y=>!kj l[i] y) 0 (l.take i):=by simp [pBx,h1,h0]
    rw [hp];cases ha:du (fun _ y=>!kj l[i] y) 0 (l.take i)<;>rw [ha] at et<;>simp -implicitDefEqProofs [hi,eb,h0,ou,ht,hw,et,←ZV,-ZV]
 ·simp
 ·by_cases hg:du (pBx l) 0 l=true<;>simp -implicitDefEqProofs [hg,dY,cg]
def fB (l:List Bx) (c:ByteArray):Int:=(fN (fun b:Bx=>decide (b.1=c)) 0 l).elim (-1) fun j=>(j:Int)
theorem wD (l:List Bx) (c:ByteArray) (h:l.length≤1048576):jA [bxs l,T c]=some (.ret [I (fB l c)] []):=by
 rw [Iz];simp only [aS,ZF,ZG];refine ax _ (CX l (fun i=>[T c,bxs l,I l.length,I i]) (fun b:Bx=>decide (b.1=c)) (fun j=>.ret [I j] []) (.ext 0 []) (fun i hi=>?_) ?_ (fun _=>rfl) rfl rfl) ?_
 ·have hw:ZE.wrap ((i:Int)+1)=(i:Int)+1:=ae (by omega) (by omega)
  by_cases hc:l[i].1=c<;>simp -implicitDefEqProofs [hi,hw,hc]
 ·simp
 ·unfold fB
  cases fN (fun b:Bx=>decide (b.1=c)) 0 l<;>simp -implicitDefEqProofs
theorem Aq (l:List Bx) (c:ByteArray) (h:l.length≤1048576):kB [bxs l,T c]=some (.ret [I (fB l c)] []):=by
 rw [Ls];simp only [aS,ZF,ZG];refine ax _ (CX l (fun i=>[T c,bxs l,I l.length,I i]) (fun b:Bx=>decide (b.1=c)) (fun j=>.ret [I j] []) (.ext 0 []) (fun i hi=>?_) ?_ (fun _=>rfl) rfl rfl) ?_
 ·have hw:ZE.wrap ((i:Int)+1)=(i:Int)+1:=ae (by omega) (by omega)
  by_cases hc:l[i].1=c<;>simp -implicitDefEqProofs [hi,hw,hc]
 ·simp
 ·unfold fB
  cases fN (fun b:Bx=>decide (b.1=c)) 0 l<;>simp -implicitDefEqProofs
def oH (l:List Bx) (cs:List ByteArray):Bool:=du (fun _ c=>!decide (fB l c<0)) 0 cs
theorem nb (l:List Bx) (cs:List ByteArray) (h:kz l) (hc:cs.length≤1048576):gQ [bxs l,txs cs]=some (.ret [B (oH l cs&&dY l&&decide ((cs.length:Int)≤60))] []):=by
 rw [El];simp only [aS,ZF,ZG];refine ax _ (dJ cs (fun i=>[bxs l,txs cs,txs cs,I cs.length,I i]) (fun _ c=>!decide (fB l c<0)) (.ret [B false] []) (.ext 0 [bxs l,txs cs]) (fun i hi=>?_) ?_ rfl rfl rfl) ?_
 ·have hw:ZE.wrap ((i:Int)+1)=(i:Int)+1:=ae (by omega) (by omega)
  have eb:=Aq l cs[i] h.1;by_cases hb:fB l cs[i]<0<;>simp -implicitDefEqProofs [hi,hw,eb,hb]
 ·simp
 ·cases ha:du (fun _ c=>!decide (fB l c<0)) 0 cs
  ·simp -implicitDefEqProofs [oH,ha]
  ·cases hg:dY l<;>simp -implicitDefEqProofs [oH,ha,wA l h,hg]
set_option maxRecDepth 100000
theorem uw:∀x:List UInt8,aaa x x=false
 | []=>rfl
 | a::x=>by
  simp only [aaa,uw x,Bool.and_false,Bool.or_false,decide_eq_false_iff_not];exact UInt8.lt_irrefl a
abbrev dF (l:List Bx):List ByteArray:=l.map (·.1)
theorem Qe {β:Type} {p:Nat→β→Bool}:∀{l:List β} {i:Nat},du p i l=true→∀(j:Nat) (hj:j<l.length),p (i+j) l[j]=true
 | [],_,_,j,hj=>by simp at hj
 | x::l,i,h,j,hj=>by
  simp only [du,ZI] at h;cases j with
  | zero=>exact h.1
  | succ j =>
   have:=Qe h.2 j (by simpa using hj);rw [show i+(j+1)=i+1+j from by omega];exact this
theorem Qf (l:List Bx) (c:ByteArray):fB l c=fC (dF l) c:=by
 unfold fB fC;congr 1
 have:∀(m:List Bx) (i:Nat),fN (fun b:Bx=>decide (b.1=c)) i m=fN (fun b:ByteArray=>decide (b=c)) i (m.map (·.1)):=by
  intro m;induction m with
  | nil=>intro i;rfl
  | cons x m ih =>
   intro i;simp only [aap,fN,ih]
 exact this l 0
theorem Xs (c:ByteArray):ay 1 [T c]=some (txs [c]):=by simp [ay,eA]
theorem Yf (c:ByteArray):dq (txs [c])=some (txs [c]):=by simp [dq,D.isV]
def bQ (cs:List ByteArray) (r:List Nat):List ByteArray:=r.map fun i=>cs.getD i ZJ
theorem Rd {α:Type} {l:List α} {i:Nat} (h:i<l.length):l.take (i+1)=l.take i++[l[i]]:=ZU h
set_option maxRecDepth 100000
def Ee (cs:List ByteArray) (by_:Int) (l:List Bx) (c:ByteArray):List Bx :=
 l.set (fC cs c).toNat ((l.getD (fC cs c).toNat (ZJ,0,0,0)).1,(l.getD (fC cs c).toNat (ZJ,0,0,0)).2.1,(l.getD (fC cs c).toNat (ZJ,0,0,0)).2.2.1,ZE.wrap ((l.getD (fC cs c).toNat (ZJ,0,0,0)).2.2.2+by_))
theorem RA (cs:List ByteArray) (by_:Int) (l:List Bx) (c:ByteArray):dF (Ee cs by_ l c)=dF l:=by
 unfold Ee dF;rw [aaz];refine aaM fun i=>?_
 rw [List.getElem?_set];split
 ·rename_i h
  subst h;simp only [ZF,aaN,ZR];split
  ·rename_i h
   rw [ZS h];rfl
  ·rename_i h
   rw [aas (by omega)];rfl
 ·rfl
def eE (cs:List ByteArray) (by_:Int) (l:List Bx) (codes:List ByteArray):List Bx:=codes.foldl (Ee cs by_) l
theorem iL (cs:List ByteArray) (by_:Int):∀(codes:List ByteArray) (l:List Bx),dF (eE cs by_ l codes)=dF l
 | [],l=>rfl
 | c::codes,l=>by
  show dF (eE cs by_ (Ee cs by_ l c) codes)=dF l
  rw [iL cs by_ codes,RA]
theorem Dd {l m:List Bx} (h:kz l) (e:dF m=dF l):kz m:=by
 have hl:m.length=l.length:=by
  have:=congrArg aan e;simpa using this
 refine⟨by rw [hl];exact h.1,fun x hx=>?_⟩
 have:x.1∈dF m:=aaH hx;rw [e] at this;obtain⟨y,hy,hy'⟩:=aaI.1 this;rw [←hy'];exact h.2 y hy
theorem EX (cs:List ByteArray) (by_:Int) (l:List Bx) (codes:List ByteArray) {i:Nat} (hi:i<codes.length):eE cs by_ l (codes.take (i+1))=Ee cs by_ (eE cs by_ l (codes.take i)) codes[i]:=by
 unfold eE;rw [Rd hi,List.foldl_append];rfl
theorem Qm (cs:List ByteArray) (by_:Int) (m:List Bx) (c:ByteArray) (k:Nat) (hk:fC cs c=k) (hm:k<m.length):stD 1 (bxs m) (.ref k 3) (.v (.int .i64 (ZE.wrap (m[k].2.2.2+by_))))=some (bxs (Ee cs by_ m c)):=by
 rw [ru (c:=[T m[k].1,I m[k].2.1,I m[k].2.2.1,I m[k].2.2.2]) (by simp [hm]) (by simp)];unfold Ee;rw [hk,aaL,ZR,ZS hm];simp [aaz]
theorem JQ (l:List Bx) (codes:List ByteArray) (by_:Int) (h:kz l) (hl:codes.length≤1048576) (hc:∀c∈codes,∃k:Nat,fC (dF l) c=k∧k<l.length) :
  jv [bxs l,txs codes,I by_]=some (.ret [if dY (eE (dF l) by_ l codes)=true then bxs (eE (dF l) by_ l codes) else .arr 4 [],B (dY (eE (dF l) by_ l codes))] []):=by
 rw [Iu];have h0:=h.1;have ha:bY 4 40 (.arr 4 []) (bxs l)=some (bxs l):=by
  rw [bv,if_pos (by simp only [aau,ZF];omega)];rfl
 simp only [dw,ZG,fj Ln,ha,aS,ZF];refine ax (.ext 0 [bxs (eE (dF l) by_ l codes)]) (dn codes.length (fun i=>[I by_,bxs (eE (dF l) by_ l (codes.take i)),txs codes,I codes.length,I i]) _ (fun i hi=>?_) ?_ rfl rfl) ?_
 ·have hw:ZE.wrap ((i:Int)+1)=(i:Int)+1:=ae (by omega) (by omega)
  have hm:=iL (dF l) by_ (codes.take i) l;obtain⟨k,hk1,hk2⟩:=hc codes[i] (ZN hi);rw [EX _ _ _ _ hi];generalize eE (dF l) by_ l (codes.take i)=m at hm;have hml:m.length=l.length:=by
   have:=congrArg aan hm;simpa using this
  have ef:=wD m codes[i] (by omega);rw [Qf,hm,hk1] at ef;have hkm:k<m.length:=by omega
  have eu:=Qm (dF l) by_ m codes[i] k hk1 hkm;simp -implicitDefEqProofs [hi,hw,ef,hkm,eu]
 ·simp -implicitDefEqProofs
 ·have eg:=xU _ (Dd h (iL (dF l) by_ codes l))
  cases hg:dY (eE (dF l) by_ l codes)<;>rw [hg] at eg<;>simp -implicitDefEqProofs [eg]
theorem Gp (l:List Bx) (codes:List ByteArray) (by_:Int) (h:kz l) (hl:codes.length≤60) (hg:dY l=true) (hc:∀c∈codes,∃k:Nat,fC (dF l) c=k∧k<l.length) :
  gn [bxs l,txs codes,I by_]=some (.ret [if dY (eE (dF l) by_ l codes)=true then bxs (eE (dF l) by_ l codes) else .arr 4 [],B (dY (eE (dF l) by_ l codes))] []):=by
 rw [tT];have h0:=h.1;have ha:bY 4 40 (.arr 4 []) (bxs l)=some (bxs l):=by
  rw [bv,if_pos (by simp only [aau,ZF];omega)];rfl
 have hall:oH l codes=true:=by
  have key:∀(m:List ByteArray) (i:Nat),(∀c∈m,∃k:Nat,fC (dF l) c=k∧k<l.length)→du (fun _ c=>!decide (fB l c<0)) i m=true:=by
   intro m;induction m with
   | nil=>intro i _;rfl
   | cons c m ih =>
    intro i hm;obtain⟨k,hk,_⟩:=hm c (by simp);have hk0:¬fB l c<0:=by rw [Qf,hk];omega
    simp [du,ih (i+1) (fun d hd=>hm d (by simp [hd])),hk0]
  exact key codes 0 hc
 have ea:=nb l codes h (by omega);rw [hall,hg] at ea;have h60:(codes.length:Int)≤60:=by omega
 simp -implicitDefEqProofs only [ea,h60,decide_true,Bool.and_self,aax,bd,aE,lH,bt,aai,if_false,dw,ZG,fj Ln,ha,aS,ZF];refine ax (.ext 0 [bxs (eE (dF l) by_ l codes)]) (dn codes.length (fun i=>[bxs l,I by_,bxs (eE (dF l) by_ l (codes.take i)),txs codes,I codes.length,I i]) _ (fun i hi=>?_) ?_ rfl rfl) ?_
 ·have hw:ZE.wrap ((i:Int)+1)=(i:Int)+1:=ae (by omega) (by omega)
  have hm:=iL (dF l) by_ (codes.take i) l;obtain⟨k,hk1,hk2⟩:=hc codes[i] (ZN hi);rw [EX _ _ _ _ hi];generalize eE (dF l) by_ l (codes.take i)=m at hm;have hml:m.length=l.length:=by
   have:=congrArg aan hm;simpa using this
  have ef:=Aq l codes[i] (by omega);rw [Qf,hk1] at ef;have hkm:k<m.length:=by omega
  have eu:=Qm (dF l) by_ m codes[i] k hk1 hkm;simp -implicitDefEqProofs [hi,hw,ef,hkm,eu]
 ·simp -implicitDefEqProofs
 ·have eg:=wA _ (Dd h (iL (dF l) by_ codes l))
  cases hg:dY (eE (dF l) by_ l codes)<;>rw [hg] at eg<;>simp -implicitDefEqProofs [eg,dw]
set_option maxRecDepth 100000
theorem JV (x0:D):lZ [x0]=((lenD false x0).bind fun z=>(aQ (fun s=>(bin .lss false [] (sl s 3) (sl s 2)).bind fun z=>ifD z ((ZH D.ptr (aI 2 (sl s 1) (sl s 3))).bind fun z=>((ldD true 2 z).bind bq).bind fun z=>(stD 2 (.agg [I 0,B false]) (.ref 0 0) z).bind fun b=>(aa b (.ref 0 0)).bind fun z=>((atD b z).bind (au false 1)).bind fun z=>callK (cV [z,I 1,I 2]) fun c _=>(un .not (sl c 0)).bind fun z=>ifD z (some (.ret [B false] [])) ((bin .add false [] (sl s 3) (I 1)).bind fun z=>some (.nrm [sl s 0,sl s 1,sl s 2,z]))) (some (.ext 0 [sl s 0]))) [x0,x0,z,I 0]).bind fun o=>outK o (fun i s=>ifN (i.beq 0) ((lenD false (sl s 0)).bind fun z=>(bin .leq false [] z (I 4)).bind fun z=>some (.ret [z] [])) none) fun a b=>some (.ret a b)):=by kernel_rfl
theorem JT (x0:D):mb [x0]=((lenD false x0).bind fun z=>(aQ (fun s=>(bin .lss false [] (sl s 4) (sl s 3)).bind fun z=>ifD z ((ZH D.ptr (aI 2 (sl s 2) (sl s 4))).bind fun z=>((ldD true 2 z).bind bq).bind fun z=>(stD 2 (.agg [I 0,B false]) (.ref 0 0) z).bind fun b=>(aa b (.ref 0 0)).bind fun z=>((atD b z).bind (au false 1)).bind fun z=>(bin .eql false [] z (I 1)).bind fun z=>ifD z ((bin .mul false [] (sl s 0) (I 2)).bind fun z=>(bin .add false [] (sl s 4) (I 1)).bind fun c=>some (.nrm [z,sl s 1,sl s 2,sl s 3,c])) ((bin .mul false [] (sl s 1) (I 2)).bind fun z=>(bin .add false [] (sl s 4) (I 1)).bind fun c=>some (.nrm [sl s 0,z,sl s 2,sl s 3,c]))) (some (.ext 0 [sl s 0,sl s 1]))) [I 1,I 1,x0,z,I 0]).bind fun o=>outK o (fun i s=>ifN (i.beq 0) (some (.ret [sl s 0,sl s 1] [])) none) fun a b=>some (.ret a b)):=by kernel_rfl
theorem Jf (x0:D):gV [x0]=((lenD false x0).bind fun z=>(bin .sub false [] z (I 1)).bind fun z=>(aQ (fun s=>(bin .geq false [] (sl s 2) (I 0)).bind fun z=>ifD z ((ZH D.ptr (aI 1 (sl s 0) (sl s 2))).bind fun z=>((ldD false 1 z).bind bq).bind fun z=>(un .neg z).bind fun z=>(ay 1 [z]).bind fun a=>(dq a).bind fun b=>(bY 1 8 (sl s 1) b).bind fun y=>(bin .sub false [] (sl s 2) (I 1)).bind fun z=>some (.nrm [sl s 0,y,z])) (some (.ext 0 [sl s 1]))) [x0,.arr 1 [],z]).bind fun o=>outK o (fun i s=>ifN (i.beq 0) (some (.ret [sl s 0] [])) none) fun a b=>some (.ret a b)):=by kernel_rfl
theorem LG (x0 x1 x2:D):jj [x0,x1,x2]=(ifD x2 (callK (eW [x1]) fun c _=>(dq x0).bind fun b=>(bY 1 8 (sl c 0) b).bind fun y=>some (.ret [y] [])) (callK (eW [x0]) fun c _=>(dq x1).bind fun b=>(bY 1 8 (sl c 0) b).bind fun y=>some (.ret [y] []))):=by kernel_rfl
theorem JL (x0:D):mh [x0]=(callK (mb [x0]) fun c _=>(aF (.tup c) 0).bind fun z=>(aF (.tup c) 1).bind fun q=>(aQ (fun s=>(bin .mul false [] (sl s 1) (sl s 2)).bind fun z=>(bin .lss false [] (sl s 4) z).bind fun z=>ifD z ((bin .add false [] (sl s 4) (I 1)).bind fun z=>(ay 1 [z]).bind fun a=>(ay 1 [a]).bind fun a=>(bY 1 24 (sl s 3) a).bind fun y=>(bin .add false [] (sl s 4) (I 1)).bind fun z=>some (.nrm [sl s 0,sl s 1,sl s 2,y,z])) (some (.ext 0 [sl s 0,sl s 1,sl s 2,sl s 3]))) [x0,z,q,.arr 1 [],I 0]).bind fun o=>outK o (fun i s=>ifN (i.beq 0) ((lenD false (sl s 0)).bind fun z=>(aQ (fun s=>(bin .lss false [] (sl s 5) (sl s 4)).bind fun z=>ifD z ((ZH D.ptr (aI 2 (sl s 3) (sl s 5))).bind fun z=>((ldD true 2 z).bind bq).bind fun z=>(stD 2 (.agg [I 0,B false]) (.ref 0 0) z).bind fun b=>(aa b (.ref 0 0)).bind fun z=>((atD b z).bind (au false 1)).bind fun z=>(bin .eql false [] z (I 1)).bind fun z=>ifD z ((aQ (fun s=>(bin .lss false [] (sl s 5) (sl s 1)).bind fun z=>ifD z ((aQ (fun s=>(bin .quo false [] (sl s 0) (I 2)).bind fun z=>(bin .lss false [] (sl s 6) z).bind fun z=>ifD z ((aa (sl s 2) (.ref 0 0)).bind fun z=>(bin .mul false [] (sl s 5) (sl s 0)).bind fun d=>(bin .add false [] d (sl s 6)).bind fun e=>((aa z (sl s 2)).bind fun b=>dE 1 b e).bind fun z=>((atD (sl s 2) z).bind (au false 1)).bind fun z=>(aa (sl s 2) (.ref 0 0)).bind fun f=>(bin .mul false [] (sl s 5) (sl s 0)).bind fun g=>(bin .add false [] g (sl s 0)).bind fun h=>(bin .sub false [] h (I 1)).bind fun j=>(bin .sub false [] j (sl s 6)).bind fun k=>((aa f (sl s 2)).bind fun b=>dE 1 b k).bind fun l=>((atD (sl s 2) l).bind (au false 1)).bind fun m=>callK (gV [m]) fun c _=>(aa (sl s 3) (.ref 0 1)).bind fun n=>((atD (sl s 3) n).bind (au false 1)).bind fun p=>callK (jj [z,sl c 0,p]) fun c _=>(ay 1 [sl c 0]).bind fun a=>(bY 1 24 (sl s 4) a).bind fun y=>(bin .add false [] (sl s 6) (I 1)).bind fun z=>some (.nrm [sl s 0,sl s 1,sl s 2,sl s 3,y,sl s 5,z,sl s 7,sl s 8,sl s 9])) (some (.ext 6 [sl s 0,sl s 1,sl s 2,sl s 3,sl s 4,sl s 5,sl s 7,sl s 8,sl s 9]))) [sl s 0,sl s 1,sl s 2,sl s 3,sl s 4,sl s 5,I 0,sl s 6,sl s 7,sl s 8]).bind fun o=>outK o (fun i s=>ifN (i.beq 6) ((bin .add false [] (sl s 5) (I 1)).bind fun z=>some (.nrm [sl s 0,sl s 1,sl s 2,sl s 3,sl s 4,z,sl s 6,sl s 7,sl s 8])) (ifN (i.beq 5) ((bin .add false [] (sl s 5) (I 1)).bind fun z=>some (.nrm [sl s 0,sl s 1,sl s 2,sl s 3,sl s 4,z,sl s 6,sl s 7,sl s 8])) (some (.ext i [sl s 0,sl s 1,sl s 2,sl s 4,sl s 6,sl s 7,sl s 8])))) fun a b=>some (.ret a b)) (some (.ext 4 [sl s 0,sl s 1,sl s 2,sl s 4,sl s 6,sl s 7,sl s 8]))) [sl s 0,sl s 1,sl s 2,b,.arr 1 [],I 0,sl s 3,sl s 4,sl s 5]).bind fun o=>outK o (fun i s=>ifN (i.beq 4) ((bin .quo false [] (sl s 0) (I 2)).bind fun z=>(bin .add false [] (sl s 6) (I 1)).bind fun d=>some (.nrm [z,sl s 1,sl s 3,sl s 4,sl s 5,d])) (ifN (i.beq 3) ((bin .add false [] (sl s 6) (I 1)).bind fun z=>some (.nrm [sl s 0,sl s 1,sl s 2,sl s 4,sl s 5,z])) (some (.ext i [sl s 2])))) fun a b=>some (.ret a b)) ((aQ (fun s=>(bin .quo false [] (sl s 1) (I 2)).bind fun z=>(bin .lss false [] (sl s 5) z).bind fun z=>ifD z ((aQ (fun s=>(bin .lss false [] (sl s 6) (sl s 0)).bind fun z=>ifD z ((aa (sl s 2) (.ref 0 0)).bind fun z=>(bin .mul false [] (sl s 5) (sl s 0)).bind fun d=>(bin .add false [] d (sl s 6)).bind fun e=>((aa z (sl s 2)).bind fun b=>dE 1 b e).bind fun z=>((atD (sl s 2) z).bind (au false 1)).bind fun z=>(aa (sl s 2) (.ref 0 0)).bind fun f=>(bin .sub false [] (sl s 1) (I 1)).bind fun g=>(bin .sub false [] g (sl s 5)).bind fun h=>(bin .mul false [] h (sl s 0)).bind fun j=>(bin .add false [] j (sl s 6)).bind fun k=>((aa f (sl s 2)).bind fun b=>dE 1 b k).bind fun l=>((atD (sl s 2) l).bind (au false 1)).bind fun m=>callK (gV [m]) fun c _=>(aa (sl s 3) (.ref 0 1)).bind fun n=>((atD (sl s 3) n).bind (au false 1)).bind fun p=>callK (jj [z,sl c 0,p]) fun c _=>(ay 1 [sl c 0]).bind fun a=>(bY 1 24 (sl s 4) a).bind fun y=>(bin .add false [] (sl s 6) (I 1)).bind fun z=>some (.nrm [sl s 0,sl s 1,sl s 2,sl s 3,y,sl s 5,z,sl s 7,sl s 8,sl s 9])) (some (.ext 10 [sl s 0,sl s 1,sl s 2,sl s 3,sl s 4,sl s 5,sl s 7,sl s 8,sl s 9]))) [sl s 0,sl s 1,sl s 2,sl s 3,sl s 4,sl s 5,I 0,sl s 6,sl s 7,sl s 8]).bind fun o=>outK o (fun i s=>ifN (i.beq 10) ((bin .add false [] (sl s 5) (I 1)).bind fun z=>some (.nrm [sl s 0,sl s 1,sl s 2,sl s 3,sl s 4,z,sl s 6,sl s 7,sl s 8])) (ifN (i.beq 9) ((bin .add false [] (sl s 5) (I 1)).bind fun z=>some (.nrm [sl s 0,sl s 1,sl s 2,sl s 3,sl s 4,z,sl s 6,sl s 7,sl s 8])) (some (.ext i [sl s 0,sl s 1,sl s 2,sl s 4,sl s 6,sl s 7,sl s 8])))) fun a b=>some (.ret a b)) (some (.ext 8 [sl s 0,sl s 1,sl s 2,sl s 4,sl s 6,sl s 7,sl s 8]))) [sl s 0,sl s 1,sl s 2,b,.arr 1 [],I 0,sl s 3,sl s 4,sl s 5]).bind fun o=>outK o (fun i s=>ifN (i.beq 8) ((bin .quo false [] (sl s 1) (I 2)).bind fun z=>(bin .add false [] (sl s 6) (I 1)).bind fun d=>some (.nrm [sl s 0,z,sl s 3,sl s 4,sl s 5,d])) (ifN (i.beq 3) ((bin .add false [] (sl s 6) (I 1)).bind fun z=>some (.nrm [sl s 0,sl s 1,sl s 2,sl s 4,sl s 5,z])) (some (.ext i [sl s 2])))) fun a b=>some (.ret a b))) (some (.ext 2 [sl s 2]))) [sl s 1,sl s 2,sl s 3,sl s 0,z,I 0]).bind fun o=>outK o (fun i s=>ifN (i.beq 2) ((aa (sl s 0) (.ref 0 0)).bind fun z=>((aa z (sl s 0)).bind fun b=>dE 1 b (I 0)).bind fun z=>((atD (sl s 0) z).bind (au false 1)).bind fun z=>some (.ret [z] [])) none) fun a b=>some (.ret a b)) none) fun a b=>some (.ret a b)):=by kernel_rfl
theorem IP (x0 x1:D):ml [x0,x1]=((bin .gtr false [] x0 x1).bind fun z=>ifD z (some (.ret [x0] [])) (some (.ret [x1] []))):=by kernel_rfl
theorem LR (x0:D):nM [x0]=((un .neg x0).bind fun z=>callK (ml [x0,z]) fun c _=>some (.ret [sl c 0] [])):=by kernel_rfl
theorem CV (x0:D):jd [x0]=(callK (lZ [x0]) fun c _=>(un .not (sl c 0)).bind fun z=>ifD z (some (.ret [.arr 1 [],B false] [])) (callK (mh [x0]) fun c _=>(lenD false (sl c 0)).bind fun z=>(aQ (fun s=>(bin .lss false [] (sl s 3) (sl s 2)).bind fun z=>ifD z ((ZH D.ptr (aI 1 (sl s 1) (sl s 3))).bind fun z=>((ldD false 1 z).bind bq).bind fun z=>callK (nM [z]) fun c _=>(bin .sub false [] (sl c 0) (I 1)).bind fun z=>(ay 1 [z]).bind fun a=>(dq a).bind fun b=>(bY 1 8 (sl s 0) b).bind fun y=>(bin .add false [] (sl s 3) (I 1)).bind fun z=>some (.nrm [y,sl s 1,sl s 2,z])) (some (.ext 0 [sl s 0]))) [.arr 1 [],sl c 0,z,I 0]).bind fun o=>outK o (fun i s=>ifN (i.beq 0) (some (.ret [sl s 0,B true] [])) none) fun a b=>some (.ret a b))):=by kernel_rfl
theorem DN (x0:D):gT [x0]=((lenD false x0).bind fun z=>(aQ (fun s=>(bin .lss false [] (sl s 3) (sl s 2)).bind fun z=>ifD z ((ZH D.ptr (aI 2 (sl s 1) (sl s 3))).bind fun z=>((ldD true 2 z).bind bq).bind fun z=>(stD 2 (.agg [I 0,B false]) (.ref 0 0) z).bind fun b=>(aa b (.ref 0 0)).bind fun z=>((atD b z).bind (au false 1)).bind fun z=>(bin .neq false [] z (I 1)).bind fun z=>(af D.bad z true (aa b (.ref 0 0))).bind fun c=>(af (.tup []) z true ((atD b c).bind (au false 1))).bind fun d=>(af (.tup []) z true (bin .neq false [] d (I 2))).bind fun e=>(aU z e (B false)).bind fun z=>ifD z (some (.ret [B false] [])) ((bin .add false [] (sl s 3) (I 1)).bind fun z=>some (.nrm [sl s 0,sl s 1,sl s 2,z]))) (some (.ext 0 [sl s 0]))) [x0,x0,z,I 0]).bind fun o=>outK o (fun i s=>ifN (i.beq 0) ((lenD false (sl s 0)).bind fun z=>(bin .leq false [] z (I 4)).bind fun z=>some (.ret [z] [])) none) fun a b=>some (.ret a b)):=by kernel_rfl
theorem Cn (x0:D):jl [x0]=((lenD false x0).bind fun z=>(aQ (fun s=>(bin .lss false [] (sl s 4) (sl s 3)).bind fun z=>ifD z ((ZH D.ptr (aI 2 (sl s 2) (sl s 4))).bind fun z=>((ldD true 2 z).bind bq).bind fun z=>(stD 2 (.agg [I 0,B false]) (.ref 0 0) z).bind fun b=>(aa b (.ref 0 0)).bind fun z=>((atD b z).bind (au false 1)).bind fun z=>(bin .eql false [] z (I 1)).bind fun z=>ifD z ((bin .mul false [] (sl s 0) (I 2)).bind fun z=>(bin .add false [] (sl s 4) (I 1)).bind fun c=>some (.nrm [z,sl s 1,sl s 2,sl s 3,c])) ((bin .mul false [] (sl s 1) (I 2)).bind fun z=>(bin .add false [] (sl s 4) (I 1)).bind fun c=>some (.nrm [sl s 0,z,sl s 2,sl s 3,c]))) (some (.ext 0 [sl s 0,sl s 1]))) [I 1,I 1,x0,z,I 0]).bind fun o=>outK o (fun i s=>ifN (i.beq 0) (some (.ret [sl s 0,sl s 1] [])) none) fun a b=>some (.ret a b)):=by kernel_rfl
theorem Pp (x0 x1 x2:D):oc [x0,x1,x2]=((ay 2 []).bind fun a=>(lenD false x1).bind fun z=>(bin .sub false [] z (I 1)).bind fun z=>(aQ (fun s=>(bin .geq false [] (sl s 4) (I 0)).bind fun z=>ifD z ((ZH D.ptr (aI 2 (sl s 1) (sl s 4))).bind fun z=>(vW 0 z).bind fun z=>((ldD false 1 z).bind bq).bind fun z=>(ZH D.ptr (aI 2 (sl s 1) (sl s 4))).bind fun c=>(vW 1 c).bind fun d=>((ldD false 1 d).bind bq).bind fun e=>(un .not e).bind fun f=>(cO [(0,1),(1,1)] [I 0,B false] [z,f]).bind fun z=>(ay 2 [z]).bind fun a=>(dq a).bind fun b=>(bY 2 16 (sl s 3) b).bind fun y=>(bin .sub false [] (sl s 4) (I 1)).bind fun z=>some (.nrm [sl s 0,sl s 1,sl s 2,y,z])) (some (.ext 0 [sl s 0,sl s 2,sl s 3]))) [x0,x1,x2,a,z]).bind fun o=>outK o (fun i s=>ifN (i.beq 0) (ifD (sl s 1) ((dq (sl s 0)).bind fun b=>(bY 2 16 (sl s 2) b).bind fun y=>some (.ret [y] [])) ((ay 2 []).bind fun a=>(dq (sl s 0)).bind fun b=>(bY 2 16 a b).bind fun y=>(aa (sl s 2) (.ref 0 0)).bind fun z=>(aa z (sl s 2)).bind fun b=>(bY 2 16 y b).bind fun y=>some (.ret [y] []))) none) fun a b=>some (.ret a b)):=by kernel_rfl
theorem En (x0 x1:D):jP [x0,x1]=((bE 2 x1).bind fun y=>(lenD false x0).bind fun z=>(ZH D.ptr (aI 1 x0 (I 0))).bind fun k=>(ldD false 1 k).bind fun l=>(lenD false l).bind fun m=>(ay 1 []).bind fun a=>(aa y (.ref 0 0)).bind fun n=>((atD y n).bind (au false 1)).bind fun p=>(bin .eql false [] p (I 2)).bind fun q=>ifD q ((aQ (fun s=>(bin .quo false [] (sl s 2) (I 2)).bind fun z=>(bin .lss false [] (sl s 4) z).bind fun z=>ifD z ((ay 1 []).bind fun a=>(ZH D.ptr (aI 1 (sl s 0) (sl s 4))).bind fun z=>(ldD false 1 z).bind fun z=>(lenD false z).bind fun z=>(aQ (fun s=>(bin .lss false [] (sl s 7) (sl s 6)).bind fun z=>ifD z ((ZH D.ptr (aI 1 (sl s 0) (sl s 4))).bind fun z=>(ldD false 1 z).bind fun z=>(ZH D.ptr (aI 1 z (sl s 7))).bind fun z=>(ldD false 1 z).bind fun z=>(bin .sub false [] (sl s 2) (I 1)).bind fun c=>(bin .sub false [] c (sl s 4)).bind fun d=>(ZH D.ptr (aI 1 (sl s 0) d)).bind fun e=>(ldD false 1 e).bind fun f=>(ZH D.ptr (aI 1 f (sl s 7))).bind fun g=>(ldD false 1 g).bind fun h=>(aa (sl s 1) (.ref 0 1)).bind fun r=>((atD (sl s 1) r).bind (au false 1)).bind fun t=>callK (oc [z,h,t]) fun j _=>(ay 1 [sl j 0]).bind fun a=>(bY 1 24 (sl s 5) a).bind fun y=>(bin .add false [] (sl s 7) (I 1)).bind fun z=>some (.nrm [sl s 0,sl s 1,sl s 2,sl s 3,sl s 4,y,sl s 6,z])) (some (.ext 2 [sl s 0,sl s 1,sl s 2,sl s 3,sl s 4,sl s 5]))) [sl s 0,sl s 1,sl s 2,sl s 3,sl s 4,a,z,I 0]).bind fun o=>outK o (fun i s=>ifN (i.beq 2) ((ay 1 [sl s 5]).bind fun a=>(bY 1 24 (sl s 3) a).bind fun y=>(bin .add false [] (sl s 4) (I 1)).bind fun z=>some (.nrm [sl s 0,sl s 1,sl s 2,y,z])) (ifN (i.beq 1) ((bin .add false [] (sl s 4) (I 1)).bind fun z=>some (.nrm [sl s 0,sl s 1,sl s 2,sl s 3,z])) (some (.ext i [sl s 3])))) fun a b=>some (.ret a b)) (some (.ext 0 [sl s 3]))) [x0,y,z,a,I 0]).bind fun o=>outK o (fun i s=>ifN (i.beq 0) (some (.ret [sl s 0] [])) none) fun a b=>some (.ret a b)) ((lenD false x0).bind fun z=>(aQ (fun s=>(bin .lss false [] (sl s 5) (sl s 4)).bind fun z=>ifD z ((ZH D.ptr (aI 1 (sl s 3) (sl s 5))).bind fun z=>(ldD false 1 z).bind fun z=>(ay 1 []).bind fun a=>(aQ (fun s=>(bin .quo false [] (sl s 1) (I 2)).bind fun z=>(bin .lss false [] (sl s 5) z).bind fun z=>ifD z ((ZH D.ptr (aI 1 (sl s 3) (sl s 5))).bind fun z=>(ldD false 1 z).bind fun z=>(bin .sub false [] (sl s 1) (I 1)).bind fun c=>(bin .sub false [] c (sl s 5)).bind fun d=>(ZH D.ptr (aI 1 (sl s 3) d)).bind fun e=>(ldD false 1 e).bind fun f=>(aa (sl s 0) (.ref 0 1)).bind fun g=>((atD (sl s 0) g).bind (au false 1)).bind fun h=>callK (oc [z,f,h]) fun j _=>(ay 1 [sl j 0]).bind fun a=>(bY 1 24 (sl s 4) a).bind fun y=>(bin .add false [] (sl s 5) (I 1)).bind fun z=>some (.nrm [sl s 0,sl s 1,sl s 2,sl s 3,y,z,sl s 6,sl s 7,sl s 8])) (some (.ext 6 [sl s 0,sl s 1,sl s 2,sl s 4,sl s 6,sl s 7,sl s 8]))) [sl s 0,sl s 1,sl s 2,z,a,I 0,sl s 3,sl s 4,sl s 5]).bind fun o=>outK o (fun i s=>ifN (i.beq 6) ((ay 1 [sl s 3]).bind fun a=>(bY 1 24 (sl s 2) a).bind fun y=>(bin .add false [] (sl s 6) (I 1)).bind fun z=>some (.nrm [sl s 0,sl s 1,y,sl s 4,sl s 5,z])) (ifN (i.beq 5) ((bin .add false [] (sl s 6) (I 1)).bind fun z=>some (.nrm [sl s 0,sl s 1,sl s 2,sl s 4,sl s 5,z])) (some (.ext i [sl s 2])))) fun a b=>some (.ret a b)) (some (.ext 4 [sl s 2]))) [y,m,a,x0,z,I 0]).bind fun o=>outK o (fun i s=>ifN (i.beq 4) (some (.ret [sl s 0] [])) none) fun a b=>some (.ret a b))):=by kernel_rfl
theorem Ig (x0:D):gX [x0]=(callK (jl [x0]) fun c _=>(aF (.tup c) 0).bind fun z=>(aF (.tup c) 1).bind fun d=>(ay 1 []).bind fun a=>(aQ (fun s=>(bin .lss false [] (sl s 4) (sl s 2)).bind fun z=>ifD z ((ay 1 []).bind fun a=>(aQ (fun s=>(bin .lss false [] (sl s 6) (sl s 1)).bind fun z=>ifD z ((bin .mul false [] (sl s 4) (sl s 1)).bind fun z=>(bin .add false [] z (sl s 6)).bind fun z=>(cO [(0,1),(1,1)] [I 0,B false] [z,B true]).bind fun z=>(ay 2 [z]).bind fun a=>(ay 1 [a]).bind fun a=>(bY 1 24 (sl s 5) a).bind fun y=>(bin .add false [] (sl s 6) (I 1)).bind fun z=>some (.nrm [sl s 0,sl s 1,sl s 2,sl s 3,sl s 4,y,z])) (some (.ext 2 [sl s 0,sl s 1,sl s 2,sl s 3,sl s 4,sl s 5]))) [sl s 0,sl s 1,sl s 2,sl s 3,sl s 4,a,I 0]).bind fun o=>outK o (fun i s=>ifN (i.beq 2) ((ay 1 [sl s 5]).bind fun a=>(bY 1 24 (sl s 3) a).bind fun y=>(bin .add false [] (sl s 4) (I 1)).bind fun z=>some (.nrm [sl s 0,sl s 1,sl s 2,y,z])) (ifN (i.beq 1) ((bin .add false [] (sl s 4) (I 1)).bind fun z=>some (.nrm [sl s 0,sl s 1,sl s 2,sl s 3,z])) (some (.ext i [sl s 0,sl s 3])))) fun a b=>some (.ret a b)) (some (.ext 0 [sl s 0,sl s 3]))) [x0,z,d,a,I 0]).bind fun o=>outK o (fun i s=>ifN (i.beq 0) ((lenD false (sl s 0)).bind fun z=>(aQ (fun s=>(bin .lss false [] (sl s 3) (sl s 2)).bind fun z=>ifD z ((ZH D.ptr (aI 2 (sl s 1) (sl s 3))).bind fun z=>((ldD true 2 z).bind bq).bind fun z=>(stD 2 (.agg [I 0,B false]) (.ref 0 0) z).bind fun b=>(aa (sl s 0) (.ref 0 0)).bind fun z=>(ba true 2 0 b).bind fun e=>(aa z (sl s 0)).bind fun i=>callK (jP [i,e]) fun c _=>(bin .add false [] (sl s 3) (I 1)).bind fun z=>some (.nrm [sl c 0,sl s 1,sl s 2,z])) (some (.ext 4 [sl s 0]))) [sl s 1,sl s 0,z,I 0]).bind fun o=>outK o (fun i s=>ifN (i.beq 4) ((aa (sl s 0) (.ref 0 0)).bind fun z=>((aa z (sl s 0)).bind fun b=>dE 1 b (I 0)).bind fun z=>((atD (sl s 0) z).bind (au false 1)).bind fun z=>(ZH D.ptr (aI 1 z (I 0))).bind fun z=>(ldD false 1 z).bind fun z=>some (.ret [z] [])) none) fun a b=>some (.ret a b)) none) fun a b=>some (.ret a b)):=by kernel_rfl
theorem CJ (x0:D):gk [x0]=(callK (gT [x0]) fun c _=>(un .not (sl c 0)).bind fun z=>ifD z ((ay 1 []).bind fun a=>some (.ret [a,B false] [])) ((ay 1 []).bind fun a=>callK (gX [x0]) fun c _=>(lenD false (sl c 0)).bind fun z=>(aQ (fun s=>(bin .lss false [] (sl s 3) (sl s 2)).bind fun z=>ifD z ((ZH D.ptr (aI 2 (sl s 1) (sl s 3))).bind fun z=>((ldD true 2 z).bind bq).bind fun z=>(stD 2 (.agg [I 0,B false]) (.ref 0 0) z).bind fun b=>(aa b (.ref 0 0)).bind fun z=>((atD b z).bind (au false 1)).bind fun z=>(ay 1 [z]).bind fun a=>(dq a).bind fun b=>(bY 1 8 (sl s 0) b).bind fun y=>(bin .add false [] (sl s 3) (I 1)).bind fun z=>some (.nrm [y,sl s 1,sl s 2,z])) (some (.ext 0 [sl s 0]))) [a,sl c 0,z,I 0]).bind fun o=>outK o (fun i s=>ifN (i.beq 0) (some (.ret [sl s 0,B true] [])) none) fun a b=>some (.ret a b))):=by kernel_rfl
theorem BU (x0:D):ji [x0]=(callK (gX [x0]) fun c _=>(lenD false (sl c 0)).bind fun z=>(bin .mul false [] (I 2) z).bind fun z=>some (.ret [z] [])):=by kernel_rfl
theorem Ei (x0 x1:D):jS [x0,x1]=(callK (gT [x0]) fun c _=>(af (.tup []) (sl c 0) true (some x1)).bind fun z=>(af (.tup []) (sl c 0) true (some x0)).bind fun e=>bX (sl c 0) true (callK (ji [e]) fun c _=>some (.nrm [sl c 0])) [.tup []] fun d=>bX (sl c 0) true (callK (bK [z,I 1,sl d 0]) fun c _=>some (.nrm [sl c 0])) [.tup []] fun d=>(aU (sl c 0) (sl d 0) (B false)).bind fun z=>some (.ret [z] [])):=by kernel_rfl
theorem yG (x0 x1:D):dX [x0,x1]=(callK (jS [x0,x1]) fun c _=>(un .not (sl c 0)).bind fun z=>ifD z (some (.ret [I 0,B false,B false] [])) (callK (gX [x0]) fun c _=>(bin .sub false [] x1 (I 1)).bind fun z=>(bin .quo false [] z (I 2)).bind fun z=>(ZH D.ptr (aI 2 (sl c 0) z)).bind fun z=>((ldD true 2 z).bind bq).bind fun z=>(stD 2 (.agg [I 0,B false]) (.ref 0 0) z).bind fun b=>(aa b (.ref 0 0)).bind fun z=>((atD b z).bind (au false 1)).bind fun z=>(aa b (.ref 0 1)).bind fun d=>((atD b d).bind (au false 1)).bind fun e=>(bin .rem false [] x1 (I 2)).bind fun f=>(bin .eql false [] f (I 1)).bind fun g=>(bin .eql true [] e g).bind fun h=>some (.ret [z,h,B true] []))):=by kernel_rfl
theorem yO (x0:D):fm [x0]=((aa x0 (.ref 0 0)).bind fun z=>(bn z x0).bind fun i=>(aa i i).bind fun i=>callK (ah [i,I 4]) fun d c=>(aa (sl c 0) (sl c 0)).bind fun _=>(aa (sl c 0) (.ref 0 0)).bind fun z=>(bn z (sl c 0)).bind fun i=>(aa i i).bind fun i=>callK (aP [i,I 8]) fun k c=>(aa (sl c 0) (sl c 0)).bind fun _=>ifD (sl k 0) ((aa (sl c 0) (.ref 0 0)).bind fun z=>(bn z (sl c 0)).bind fun i=>(aa i i).bind fun i=>callK (ah [i,I 2]) fun d c=>(aa (sl c 0) (sl c 0)).bind fun _=>(bin .add false [] (I 4) (sl d 0)).bind fun z=>(aQ (fun s=>(aa (sl s 1) (.ref 0 0)).bind fun z=>((aa z (sl s 1)).bind (lenD false)).bind fun z=>(bin .lss false [] z (sl s 2)).bind fun z=>ifD z ((aa (sl s 0) (.ref 0 0)).bind fun z=>(ay 1 [I 1,I 2]).bind fun a=>(bn z (sl s 0)).bind fun i=>(aa i i).bind fun i=>callK (ak [i,a]) fun d c=>(aa (sl c 0) (sl c 0)).bind fun _=>(aa (sl c 0) (.ref 0 0)).bind fun z=>(bn z (sl c 0)).bind fun i=>(aa i i).bind fun i=>callK (aP [i,I 2]) fun f c=>(aa (sl c 0) (sl c 0)).bind fun _=>(cO [(0,1),(1,1)] [I 0,B false] [sl d 0,sl f 0]).bind fun z=>(ay 2 [z]).bind fun a=>(dq a).bind fun b=>(bY 2 16 (sl s 1) b).bind fun y=>some (.nrm [sl c 0,y,sl s 2])) (some (.ext 0 [sl s 0,sl s 1,sl s 2]))) [sl c 0,.arr 2 [],z]).bind fun o=>outK o (fun i s=>ifN (i.beq 0) ((bin .gtr false [] (sl s 2) (I 0)).bind fun z=>(af D.bad z true (aa (sl s 0) (.ref 0 0))).bind fun g=>bX z true ((bn g (sl s 0)).bind fun i=>(aa i i).bind fun i=>callK (aP [i,I 24]) fun d c=>(aa (sl c 0) (sl c 0)).bind fun _=>some (.nrm [sl d 0,sl c 0])) [.tup [],sl s 0] fun e=>(aU z (sl e 0) (B false)).bind fun z=>ifD z ((aa (sl s 1) (.ref 0 0)).bind fun z=>(aa (sl e 1) (.ref 0 0)).bind fun h=>(bn h (sl e 1)).bind fun i=>(aa i i).bind fun i=>callK (ah [i,sl s 2]) fun d c=>(aa (sl c 0) (sl c 0)).bind fun _=>(aa (sl c 0) (.ref 0 0)).bind fun j=>(ay 1 [I 0,I 3,I (-1)]).bind fun a=>(bn j (sl c 0)).bind fun i=>(aa i i).bind fun i=>callK (ak [i,a]) fun f c=>(aa (sl c 0) (sl c 0)).bind fun _=>((aa z (sl s 1)).bind fun b=>dE 2 b (sl d 0)).bind fun z=>(cW 0 z).bind fun z=>(stD 1 (sl s 1) z (sl f 0)).bind fun b=>(aa (sl c 0) (sl c 0)).bind fun _=>some (.ret [b] [sl c 0])) ((aa (sl e 1) (sl e 1)).bind fun _=>some (.ret [sl s 1] [sl e 1]))) none) fun a b=>some (.ret a b)) ((aQ (fun s=>(aa (sl s 1) (.ref 0 0)).bind fun z=>((aa z (sl s 1)).bind (lenD false)).bind fun z=>(bin .lss false [] z (sl s 2)).bind fun z=>ifD z ((aa (sl s 0) (.ref 0 0)).bind fun z=>(ay 1 [I 1,I 2]).bind fun a=>(bn z (sl s 0)).bind fun i=>(aa i i).bind fun i=>callK (ak [i,a]) fun d c=>(aa (sl c 0) (sl c 0)).bind fun _=>(aa (sl c 0) (.ref 0 0)).bind fun z=>(bn z (sl c 0)).bind fun i=>(aa i i).bind fun i=>callK (aP [i,I 2]) fun f c=>(aa (sl c 0) (sl c 0)).bind fun _=>(cO [(0,1),(1,1)] [I 0,B false] [sl d 0,sl f 0]).bind fun z=>(ay 2 [z]).bind fun a=>(dq a).bind fun b=>(bY 2 16 (sl s 1) b).bind fun y=>some (.nrm [sl c 0,y,sl s 2])) (some (.ext 0 [sl s 0,sl s 1,sl s 2]))) [sl c 0,.arr 2 [],sl d 0]).bind fun o=>outK o (fun i s=>ifN (i.beq 0) ((bin .gtr false [] (sl s 2) (I 0)).bind fun z=>(af D.bad z true (aa (sl s 0) (.ref 0 0))).bind fun g=>bX z true ((bn g (sl s 0)).bind fun i=>(aa i i).bind fun i=>callK (aP [i,I 24]) fun d c=>(aa (sl c 0) (sl c 0)).bind fun _=>some (.nrm [sl d 0,sl c 0])) [.tup [],sl s 0] fun e=>(aU z (sl e 0) (B false)).bind fun z=>ifD z ((aa (sl s 1) (.ref 0 0)).bind fun z=>(aa (sl e 1) (.ref 0 0)).bind fun h=>(bn h (sl e 1)).bind fun i=>(aa i i).bind fun i=>callK (ah [i,sl s 2]) fun d c=>(aa (sl c 0) (sl c 0)).bind fun _=>(aa (sl c 0) (.ref 0 0)).bind fun j=>(ay 1 [I 0,I 3,I (-1)]).bind fun a=>(bn j (sl c 0)).bind fun i=>(aa i i).bind fun i=>callK (ak [i,a]) fun f c=>(aa (sl c 0) (sl c 0)).bind fun _=>((aa z (sl s 1)).bind fun b=>dE 2 b (sl d 0)).bind fun z=>(cW 0 z).bind fun z=>(stD 1 (sl s 1) z (sl f 0)).bind fun b=>(aa (sl c 0) (sl c 0)).bind fun _=>some (.ret [b] [sl c 0])) ((aa (sl e 1) (sl e 1)).bind fun _=>some (.ret [sl s 1] [sl e 1]))) none) fun a b=>some (.ret a b))):=by kernel_rfl
theorem wg (x0:D):gd [x0]=((cO [(0,1)] [.arr 1 [],I 0,.v (aav IntKind.u64 0)] [x0]).bind fun z=>(bE 3 z).bind fun y=>(aa y (.ref 0 0)).bind fun z=>(aa z z).bind fun z=>(bn z y).bind fun i=>(aa i i).bind fun i=>callK (fm [i]) fun d c=>(aa (sl c 0) (sl c 0)).bind fun _=>some (.ret [sl d 0] [])):=by kernel_rfl
theorem uG (x0:D):fL [x0]=(callK (gd [x0]) fun c _=>some (.ret [sl c 0] [])):=by kernel_rfl
set_option maxRecDepth 100000
theorem Zk {l:List Bx} {i:Nat} (h:i<l.length):l.getD i (ZJ,0,0,0)=l[i]:=by
 simp [ZR,h]
theorem IH (a b:Int):ml [I a,I b]=some (.ret [I (if b<a then a else b)] []):=by
 rw [IP];by_cases h:b<a<;>simp -implicitDefEqProofs [h]
def OS (l:List Bx) (codes:List ByteArray):Prop:=∀c∈codes,∃k:Nat,fC (dF l) c=k∧k<l.length
theorem oK (l:List Bx) (cs:List ByteArray) (h:kz l) (hc:cs.length≤1048576):fu [bxs l,txs cs]=some (.ret [B (oH l cs&&dY l&&decide ((cs.length:Int)≤60))] []):=by
 rw [Hh];simp only [aS,ZF,ZG];refine ax _ (dJ cs (fun i=>[bxs l,txs cs,txs cs,I cs.length,I i]) (fun _ c=>!decide (fB l c<0)) (.ret [B false] []) (.ext 0 [bxs l,txs cs]) (fun i hi=>?_) ?_ rfl rfl rfl) ?_
 ·have hw:ZE.wrap ((i:Int)+1)=(i:Int)+1:=ae (by omega) (by omega)
  have eb:=wD l cs[i] h.1;by_cases hb:fB l cs[i]<0<;>simp -implicitDefEqProofs [hi,hw,eb,hb]
 ·simp
 ·cases ha:du (fun _ c=>!decide (fB l c<0)) 0 cs
  ·simp -implicitDefEqProofs [oH,ha]
  ·cases hg:dY l<;>simp -implicitDefEqProofs [oH,ha,xU l h,hg]
def iz (l:List Bx) (cs:List ByteArray):Bool:=oH l cs&&dY l&&decide ((cs.length:Int)≤60)
theorem QP {l:List Bx} {cs:List ByteArray}:oH l cs=true↔OS l cs:=by
 have key:∀(m:List ByteArray) (i:Nat),du (fun _ c=>!decide (fB l c<0)) i m=true↔OS l m:=by
  intro m;induction m with
  | nil=>intro i;simp [du,OS]
  | cons c m ih =>
   intro i;rw [du,ZI,ih (i+1),Qf,aal,decide_eq_false_iff_not];constructor
   ·rintro⟨h1,h2⟩ d hd
    rcases aao.1 hd with rfl | hd
    ·rcases WZ (cs:=dF l) (c:=d) with ⟨e,_⟩ | ⟨j,hj,e,_⟩
     ·omega
     ·exact⟨j,e,by simpa using hj⟩
    ·exact h2 d hd
   ·intro h
    obtain⟨k,hk,_⟩:=h c (by simp);exact⟨by omega,fun d hd=>h d (by simp [hd])⟩
 exact key cs 0
set_option maxRecDepth 100000
theorem Tb {l:List Bx} (h:dY l=true) (i:Nat) (hi:i<l.length):pBx l i l[i]=true:=by
 simp only [dY,ZI] at h;have:=Qe h.1 i hi;rwa [aat] at this
theorem RF {l:List Bx} (h:dY l=true):∀x∈l,tQ x=true:=by
 intro x hx;obtain⟨i,hi,rfl⟩:=List.mem_iff_getElem.1 hx;have:=Tb h i hi;simp only [pBx,ZI] at this;exact this.1.1
theorem Sd {x:Bx}:tQ x=true→x.1.size≤3∧(0≤x.2.1∧x.2.1≤9)∧(0≤x.2.2.1∧x.2.2.1≤9)∧(0≤x.2.2.2∧x.2.2.2≤9999):=by
 intro h;simp only [tQ,eK,ZI,decide_eq_true_eq] at h;obtain⟨⟨⟨⟨_,h1⟩,h2⟩,h3⟩,h4⟩:=h;exact⟨by omega,h2,h3,h4⟩
theorem xG (l:List Bx) (ho:l.length≤1048576):jy [bxs l,bxs l]=some (.ret [B true] []):=by
 rw [Jh];simp only [aS,ZF,ZG,nG,decide_true,aax,bt,aai,if_false];refine ax (.ext 0 []) (dn l.length (fun i=>[bxs l,bxs l,I l.length,I i]) _ (fun i hi=>?_) ?_ rfl rfl) ?_
 ·have hw:ZE.wrap ((i:Int)+1)=(i:Int)+1:=ae (by omega) (by omega)
  have hq:bin .neq false [3,1,1,1] (bx l[i]) (bx l[i])=some (B false):=by simp [bin,tW]
  simp -implicitDefEqProofs [hi,hw,hq,Ln,bq]
 ·simp
 ·simp
set_option maxRecDepth 100000
abbrev so2 (x:ByteArray × Int):D:=.agg [T x.1,I x.2]
abbrev sos (f:List (ByteArray × Int)):D:=.arr 2 (f.map so2)
theorem Wg (x:ByteArray × Int):(so2 x).isV=true:=rfl
theorem WL (f:List (ByteArray × Int)) (x:ByteArray × Int) (h:f.length≤1048576):bY 2 24 (sos f) (sos [x])=some (sos (f++[x])):=by
 rw [bv,if_pos (by simp only [ZF,ZO];omega),←aab]
def L12:List ByteArray:=[⟨⟨[97]⟩⟩,⟨⟨[97,98]⟩⟩,⟨⟨[97,98,99]⟩⟩,⟨⟨[98]⟩⟩,⟨⟨[98,98]⟩⟩,⟨⟨[99]⟩⟩,⟨⟨[100]⟩⟩,⟨⟨[101]⟩⟩,⟨⟨[102]⟩⟩,⟨⟨[102,102]⟩⟩,⟨⟨[102,105]⟩⟩,⟨⟨[105]⟩⟩]
theorem LV:L12.length=12:=rfl
theorem Tl:∀s∈L12,s.size=1∨s.size=2∨s.size=3:=by
 intro s hs;simp only [L12,aao,aaq,or_false] at hs;rcases hs with rfl | rfl | rfl | rfl | rfl | rfl | rfl | rfl | rfl | rfl | rfl | rfl
 ·exact .inl rfl
 ·exact .inr (.inl rfl)
 ·exact .inr (.inr rfl)
 ·exact .inl rfl
 ·exact .inr (.inl rfl)
 ·exact .inl rfl
 ·exact .inl rfl
 ·exact .inl rfl
 ·exact .inl rfl
 ·exact .inr (.inl rfl)
 ·exact .inr (.inl rfl)
 ·exact .inl rfl
theorem XD (a:ByteArray) (n:Int):cO [(0,1),(1,1)] [T ⟨#[]⟩,I 0] [T a,I n]=some (so2 (a,n)):=by simp [cO,iG]
def cdF (f:List (ByteArray × Int)):List ByteArray:=f.map Prod.fst
theorem Un {l:List ByteArray} {i:Nat} {m:List ByteArray} (h:m.Sublist (l.take i)) (hi:i<l.length):m.Sublist (l.take (i+1))∧(m++[l[i]]).Sublist (l.take (i+1)):=by
 rw [ZU hi];exact⟨h.trans (List.sublist_append_left _ _),h.append (List.Sublist.refl _)⟩
theorem Vx (c:Cur) (B:Nat) (h:c.ok B) (hB:B≤1000000000):∃(f:List (ByteArray × Int)) (c':Cur),dk [aR c]=some (.ret [sos f] [aR c'])∧(1≤f.length∧f.length≤12)∧(cdF f).Sublist L12∧c'.ok (B+100):=by
 rw [pz];have m12:ay 1 [T ⟨⟨[97]⟩⟩,T ⟨⟨[97,98]⟩⟩,T ⟨⟨[97,98,99]⟩⟩,T ⟨⟨[98]⟩⟩,T ⟨⟨[98,98]⟩⟩,T ⟨⟨[99]⟩⟩,T ⟨⟨[100]⟩⟩,T ⟨⟨[101]⟩⟩,T ⟨⟨[102]⟩⟩,T ⟨⟨[102,102]⟩⟩,T ⟨⟨[102,105]⟩⟩,T ⟨⟨[105]⟩⟩]=some (txs L12):=NY (l:=L12);simp -implicitDefEqProofs only [m12,ZG,aS,ZF];refine bu (fun X=>∃f c',X=some (.ret [sos f] [aR c'])∧(1≤f.length∧f.length≤12)∧(cdF f).Sublist L12∧c'.ok (B+100)) (fun a:Cur × List (ByteArray × Int) × Nat=>[aR a.1,sos a.2.1,txs L12,I L12.length,I a.2.2])
  (fun a=>a.1.ok (B+8*a.2.2)∧(cdF a.2.1).Sublist (L12.take a.2.2)∧a.2.2≤12) (fun a=>12 - a.2.2) (fun o=>∃(c':Cur) (f:List (ByteArray × Int)),o = .ext 0 [aR c',sos f]∧c'.ok (B+96)∧(cdF f).Sublist L12) (fun a hI=>?_) (c,[],0) ⟨h.mono (by omega),by simp [cdF],by simp⟩ rfl (fun o ho=>?_)
 ·obtain⟨ca,fa,i⟩:=a
  obtain⟨h1,h2,h3⟩:=hI;simp only at h1 h2 h3;have hL:=LV;have h2l:=h2.length_le;simp only [cdF,ZF,ZW] at h2l;by_cases hlt:i<L12.length
  ·have hs:=Tl L12[i] (ZN hlt)
   obtain⟨hn1,hn2⟩:=Un h2 hlt;have hw:ZE.wrap ((i:Int)+1)=(i:Int)+1:=ae (by omega) (by omega);have add:∀(ca2:Cur),ca2.ok (B+8*i+2)→∃(x:ByteArray × Int) (ca3:Cur),(x.1=L12[i]∧ca3.ok (B+8*(i+1)))∧∃v:Int,ah [aR ca2,I 4]=some (.ret [I v] [aR ca3])∧(x.2=ZE.wrap (4+ZE.wrap ((L12[i].size:Int)*ZE.wrap (2+v)))):=fun ca2 hk=>by
    obtain⟨v,c3,e3,_,_,k3⟩:=dg ca2 4 _ hk (by omega) (by omega);exact⟨(L12[i],_),c3,⟨rfl,k3.mono (by omega)⟩,v,e3,rfl⟩
   have app1:∀x:ByteArray × Int,bY 2 24 (sos fa) (sos [x])=some (sos (fa++[x])):=fun x=>WL fa x (by omega)
   have mk1:∀x:ByteArray × Int,ay 2 [so2 x]=some (sos [x]):=fun x=>by simp [ay,eA]
   have ck1:∀x:ByteArray × Int,dq (sos [x])=some (sos [x]):=fun x=>fj Wg
   have grow:∀(x:ByteArray × Int) (c3:Cur),x.1=L12[i]→c3.ok (B+8*(i+1))→(c3.ok (B+8*(i+1))∧(cdF (fa++[x])).Sublist (L12.take (i+1))∧i+1≤12):=fun x c3 hx hk=>⟨hk,by
    have e:cdF (fa++[x])=cdF fa++[L12[i]]:=by simp [cdF,hx]
    rw [e];exact hn2,by omega⟩
   rcases hs with hs | hs
   ·obtain⟨b,c2,e2,k2⟩:=ly ca 12 _ h1 (by omega) (by omega)
    cases b
    ·obtain⟨x,c3,⟨hx,hk⟩,v,e3,hv⟩:=add c2 k2
     refine .inl ⟨(c3,fa++[x],i+1),?_,grow x c3 hx hk,by simp;omega⟩
     obtain⟨xa,xb⟩:=x;simp only at hx hv;subst hx hv;simp -implicitDefEqProofs [hlt,hs,hw,e2,e3,XD,mk1,ck1,app1,-bv]
    ·refine .inl ⟨(c2,fa,i+1),?_,⟨k2.mono (by simp;omega),hn1,by simp;omega⟩,by simp;omega⟩
     simp -implicitDefEqProofs [hlt,hs,hw,e2]
   ·have hs1:¬(L12[i].size:Int)=1:=by omega
    have hs2:(1:Int)<(L12[i].size:Int):=by omega
    obtain⟨b,c2,e2,k2⟩:=ly ca 3 _ h1 (by omega) (by omega);cases b
    ·refine .inl ⟨(c2,fa,i+1),?_,⟨k2.mono (by simp;omega),hn1,by simp;omega⟩,by simp;omega⟩
     simp -implicitDefEqProofs [hlt,hs1,hs2,hw,e2]
    ·obtain⟨x,c3,⟨hx,hk⟩,v,e3,hv⟩:=add c2 k2
     refine .inl ⟨(c3,fa++[x],i+1),?_,grow x c3 hx hk,by simp;omega⟩
     obtain⟨xa,xb⟩:=x;simp only at hx hv;subst hx hv;simp -implicitDefEqProofs [hlt,hs1,hs2,hw,e2,e3,XD,mk1,ck1,app1,-bv]
  ·refine .inr ⟨.ext 0 [aR ca,sos fa],?_,rfl,ca,fa,rfl,h1.mono (by omega),h2.trans (List.take_sublist _ _)⟩
   simp -implicitDefEqProofs [hlt]
 ·obtain⟨c1,f,rfl,k1,k3⟩:=ho
  have k2:=k3.length_le;simp only [cdF,ZF,LV] at k2;by_cases h0:f=[]
  ·refine⟨[(⟨⟨[97]⟩⟩,9)],c1,?_,by simp,by simp [cdF,L12],k1.mono (by omega)⟩
   have mk1:ay 2 [so2 (⟨⟨[97]⟩⟩,9)]=some (sos [(⟨⟨[97]⟩⟩,9)]):=by simp [ay,eA]
   simp -implicitDefEqProofs [h0,XD,mk1]
  ·have hp:0<f.length:=aaG.2 h0
   refine⟨f,c1,?_,⟨hp,k2⟩,k3,k1.mono (by omega)⟩
   simp -implicitDefEqProofs [h0]
theorem ZC (a:ByteArray) (r c n:Int):cO [(0,1),(1,1),(2,1),(3,1)] [T ⟨#[]⟩,I 0,I 0,I 0] [T a,I r,I c,I n]=some (bx (a,r,c,n)):=by simp [cO,iG]
theorem WI (l:List Bx) (x:Bx) (h:l.length≤1048576):bY 4 40 (bxs l) (bxs [x])=some (bxs (l++[x])):=by
 rw [bv,if_pos (by simp only [ZF,ZO];omega),←aab]
theorem XW (x:Bx):ay 4 [bx x]=some (bxs [x]):=by simp [ay,eA]
theorem XP (x:Bx):dq (bxs [x])=some (bxs [x]):=fj Ln
theorem Ck {l:List Bx}:dY l=true↔(∀i (h:i<l.length),tQ l[i]=true)∧(∀i (h:i<l.length),0<i→aaa (l[i - 1]'(by omega)).1.toList l[i].1.toList=true)∧(∀i j (h:i<l.length) (hj:j<i),kj l[i] (l[j]'(by omega))=false)∧1≤l.length∧l.length≤32:=by
 have all:∀(p:Nat→Bx→Bool) (m:List Bx) (k:Nat),du p k m=true↔∀i (h:i<m.length),p (k+i) m[i]=true:=by
  intro p m;induction m with
  | nil=>intro k;simp [du]
  | cons x m ih =>
   intro k;simp only [du,ZI,ih];constructor
   ·rintro⟨h1,h2⟩ i hi
    cases i with
    | zero=>exact h1
    | succ i =>
     have:=h2 i (by simpa using hi);rw [show k+(i+1)=k+1+i by omega];exact this
   ·intro h
    refine⟨h 0 (by simp),fun i hi=>?_⟩
    have:=h (i+1) (by simpa using hi);rw [show k+1+i=k+(i+1) by omega];exact this
 have hp:∀i (h:i<l.length),pBx l i l[i]=true↔tQ l[i]=true∧(0<i→aaa (l[i - 1]'(by omega)).1.toList l[i].1.toList=true)∧∀j (hj:j<i),kj l[i] (l[j]'(by omega))=false:=by
  intro i h;simp only [pBx,ZI,all,aat,aal,Bool.and_eq_false_iff,decide_eq_false_iff_not,Bool.not_eq_false',List.getElem_take,ZW,and_assoc];refine and_congr Iff.rfl (and_congr ⟨fun h0 hi=>?_,fun h0=>?_⟩ ⟨fun h0 j hj=>h0 j (by omega),fun h0 j hj=>h0 j (by omega)⟩)
  ·have:=h0.resolve_left (by omega)
   rw [ZR,ZS (by omega)] at this;exact this
  ·by_cases hi:0<i
   ·right
    rw [ZR,ZS (by omega)];exact h0 hi
   ·exact .inl hi
 simp only [dY,ZI,decide_eq_true_eq,all,aat];constructor
 ·rintro⟨h1,h2⟩
  exact⟨fun i hi=>((hp i hi).1 (h1 i hi)).1,fun i hi=>((hp i hi).1 (h1 i hi)).2.1,fun i j hi hj=>((hp i hi).1 (h1 i hi)).2.2 j hj,by omega,by omega⟩
 ·rintro⟨h1,h2,h3,h4⟩
  exact⟨fun i hi=>(hp i hi).2 ⟨h1 i hi,h2 i hi,fun j hj=>h3 i j hi hj⟩,by omega⟩
def QX (x:Bx):Int:=x.2.1*10+x.2.2.1
structure DrB (l:List Bx) (d:Int):Prop where
 row:∀x∈l,(0≤x.2.1∧x.2.1≤9)∧(0≤x.2.2.1∧x.2.2.1≤9)∧(0≤x.2.2.2∧x.2.2.2≤20)∧QX x<d
 rise:l.Pairwise fun x y=>QX x<QX y
theorem DrB.snoc {l:List Bx} {d e:Int} (h:DrB l d) {x:Bx} (hx:(0≤x.2.1∧x.2.1≤9)∧(0≤x.2.2.1∧x.2.2.1≤9)∧(0≤x.2.2.2∧x.2.2.2≤20)) (hd:QX x=d) (he:d<e):DrB (l++[x]) e :=
 ⟨fun y hy=>by
  rcases aag.1 hy with hy | hy
  ·obtain⟨h1,h2,h3,h4⟩:=h.row y hy
   exact⟨h1,h2,h3,by omega⟩
  ·simp at hy
   subst hy;exact⟨hx.1,hx.2.1,hx.2.2,by omega⟩,by
  rw [List.pairwise_append];refine⟨h.rise,by simp,fun y hy z hz=>?_⟩
  simp at hz;subst hz;rw [hd];exact(h.row y hy).2.2.2⟩
theorem ub:(∀s∈L12,eK s 1 3=true)∧L12.Pairwise fun a b=>aaa a.toList b.toList=true:=by
 constructor
 ·intro s hs
  simp only [L12,aao,aaq,or_false] at hs;rcases hs with rfl | rfl | rfl | rfl | rfl | rfl | rfl | rfl | rfl | rfl | rfl | rfl<;>rfl
 ·decide +kernel
theorem PA {l:List Bx} {d:Int} (h:DrB l d) (hc:(dF l).Sublist L12) (h0:0<l.length):dY l=true:=by
 have hp:=ub.2.sublist hc;have hr:=h.rise;have hl:=hc.length_le;rw [LV,ZF] at hl;refine Ck.2 ⟨fun i hi=>?_,fun i hi h1=>?_,fun i j hi hj=>?_,h0,by omega⟩
 ·have hm:=ZN hi
  obtain⟨h1,h2,h3,h4⟩:=h.row _ hm;have:=ub.1 _ (hc.subset (aaH (f:=fun b:Bx=>b.1) hm));simp only [tQ,this,Bool.true_and,ZI,decide_eq_true_eq];exact⟨⟨h1,h2⟩,h3.1,by omega⟩
 ·have hi':i - 1<(dF l).length:=by rw [ZF];omega
  have hi'':i<(dF l).length:=by rw [ZF];exact hi
  have:=aah.1 hp (i - 1) i hi' hi'' (by omega);simpa using this
 ·have:=aah.1 hr j i (by omega) hi hj
  simp only [kj];by_cases hq:(l[j]'(by omega)).2.1=l[i].2.1
  ·by_cases hq2:(l[j]'(by omega)).2.2.1=l[i].2.2.1
   ·exfalso
    unfold QX at this;omega
   ·simp [hq2]
  ·simp [hq]
theorem WM (c:Cur) (f:List (ByteArray × Int)) (B:Nat) (h:c.ok B) (hB:B≤1000000000) (hf:1≤f.length∧f.length≤12) (hs:(cdF f).Sublist L12):∃(l:List Bx) (c':Cur),dW [aR c,sos f]=some (.ret [bxs l] [aR c'])∧dY l=true∧l.length≤12∧(∀x∈l,0≤x.2.2.2∧x.2.2.2≤20)∧c'.ok (B+100):=by
 rw [yX];obtain⟨v1,c1,e1,l1,u1,k1⟩:=dg c 20 B h (by omega) (by omega);simp -implicitDefEqProofs only [bV,ZG,jU,e1,bd,aE,aS,ZF];have m1:=vb (l:=[0,1,2,5,20]);simp only [aap,aaJ] at m1;refine bu (fun X=>∃l c',X=some (.ret [bxs l] [aR c'])∧dY l=true∧l.length≤12∧(∀x∈l,0≤x.2.2.2∧x.2.2.2≤20)∧c'.ok (B+100)) (fun a:Cur × List Bx × Int=>[aR a.1,bxs a.2.1,I a.2.2,sos f,I f.length,I a.2.1.length])
  (fun a=>a.1.ok (B+2+4*a.2.1.length)∧a.2.1.length≤f.length∧(DrB a.2.1 a.2.2∧dF a.2.1=(cdF f).take a.2.1.length)∧0≤a.2.2∧a.2.2≤19+2*(a.2.1.length:Int)) (fun a=>12 - a.2.1.length) (fun o=>∃(c':Cur) (l:List Bx),o = .ext 0 [aR c',bxs l]∧c'.ok (B+96)∧l.length=f.length∧(∃d,DrB l d)∧dF l=cdF f) (fun a hI=>?_) (c1,[],v1) ⟨k1.mono (by simp),by simp,⟨⟨by simp,by simp⟩,by simp⟩,l1,by show v1≤19+2*0;omega⟩ rfl (fun o ho=>?_)
 ·obtain⟨ca,la,da⟩:=a
  obtain⟨h1,h2,⟨h3,h3'⟩,h4,h5⟩:=hI;simp only at h1 h2 h3 h3' h4 h5;by_cases hlt:la.length<f.length
  ·obtain⟨v2,c2,e2,hv2,k2⟩:=gE ca [0,1,2,5,20] _ h1 (by omega) (by simp) (by simp)
   obtain⟨v3,c3,e3,hv3,hv3',k3⟩:=dg c2 2 _ k2 (by omega) (by omega);have hw:ZE.wrap ((la.length:Int)+1)=(la.length:Int)+1:=ae (by omega) (by omega);have hd1:da.tdiv 10=da / 10:=aaw h4;have hd2:da.tmod 10=da % 10:=aaf h4;have hd3:(ZE.wrap (da.tdiv 10)).tmod 10=da / 10:=by
    rw [hd1,ae (by omega) (by omega),aaf (by omega)];omega
   have hd4:ZE.wrap (da+ZE.wrap (1+v3))=da+1+v3:=by
    rw [ae (a:=1+v3) (by omega) (by omega),ae (by omega) (by omega)];omega
   have hv20:0≤v2∧v2≤20:=by
    simp only [aao,aaq,or_false] at hv2;omega
   have ap:=WI la (f[la.length].1,(ZE.wrap (da.tdiv 10)).tmod 10,da.tmod 10,v2) (by omega);refine .inl ⟨(c3,la++[(f[la.length].1,(ZE.wrap (da.tdiv 10)).tmod 10,da.tmod 10,v2)],ZE.wrap (da+ZE.wrap (1+v3))),?_,⟨k3.mono (by simp;omega),by simp;omega,⟨?_,?_⟩,?_,?_⟩,by simp;omega⟩
   ·simp -implicitDefEqProofs [hlt,e2,e3,hw,m1,ZC,XW,XP,ap,-bv,-aap]
   ·rw [hd3,hd4,hd2]
    exact h3.snoc (d:=da) (e:=da+1+v3) (by simp only;omega) (by simp only [QX];omega) (by omega)
   ·have hlen:la.length<(cdF f).length:=by simp [cdF];exact hlt
    simp only [aac,ZO,aab,aap,aaJ];rw [ZU hlen,←h3'];simp [cdF]
   ·simp only
    omega
   ·simp only [aac,ZO]
    omega
  ·refine .inr ⟨.ext 0 [aR ca,bxs la],?_,rfl,ca,la,rfl,h1.mono (by omega),by omega,⟨_,h3⟩,?_⟩
   ·simp -implicitDefEqProofs [hlt]
   ·rw [h3',List.take_of_length_le (by simp [cdF];omega)]
 ·obtain⟨c2,l,rfl,g1,g2,⟨d,g3⟩,g4⟩:=ho
  refine⟨l,c2,?_,PA g3 (by rw [g4];exact hs) (by omega),by omega,fun x hx=>(g3.row x hx).2.2.1,g1.mono (by omega)⟩
  simp -implicitDefEqProofs
set_option maxRecDepth 100000
abbrev b0:Bx:=(ZJ,0,0,0)
def mvB (by_:Int) (l:List Bx) (cs:List ByteArray):Bool:=iz l cs&&dY (eE (dF l) by_ l cs)
def mvR (by_:Int) (l:List Bx) (cs:List ByteArray):List Bx:=if mvB by_ l cs=true then eE (dF l) by_ l cs else []
theorem vC {l:List Bx} {cs:List ByteArray}:iz l cs=true↔OS l cs∧dY l=true∧cs.length≤60:=by
 simp only [iz,ZI,decide_eq_true_eq,QP,and_assoc];exact and_congr Iff.rfl (and_congr Iff.rfl ⟨fun h=>by omega,fun h=>by omega⟩)
theorem sW (l:List Bx) (cs:List ByteArray) (by_:Int) (h:kz l) (hl:cs.length≤1048576):gn [bxs l,txs cs,I by_]=some (.ret [bxs (mvR by_ l cs),B (mvB by_ l cs)] []):=by
 cases ho:iz l cs
 ·rw [tT]
  have ea:=nb l cs h hl;have e2:(oH l cs&&dY l&&decide ((cs.length:Int)≤60))=false:=ho;rw [e2] at ea;simp -implicitDefEqProofs [ea,dw,mvR,mvB,ho]
 ·obtain⟨h1,h2,h3⟩:=vC.1 ho
  rw [Gp l cs by_ h h3 h2 h1];cases hg:dY (eE (dF l) by_ l cs)<;>simp [mvR,mvB,ho,hg]
theorem AP (l:List Bx) (cs:List ByteArray) (by_:Int) (h:kz l) (hl:cs.length≤1048576) (ho:iz l cs=true):jv [bxs l,txs cs,I by_]=some (.ret [bxs (mvR by_ l cs),B (mvB by_ l cs)] []):=by
 obtain⟨h1,h2,h3⟩:=vC.1 ho;rw [JQ l cs by_ h hl h1];cases hg:dY (eE (dF l) by_ l cs)<;>simp [mvR,mvB,ho,hg]
theorem YF (z:Nat) (l:List D) (ds:List D):aF (.tup (.arr z l::ds)) 0=some (.arr z l):=rfl
theorem Xh (a:D) (b:Bool) (ds:List D):aF (cv (.tup (a::B b::ds)) 0) 1=some (B b):=rfl
theorem LW (l:List Bx) (cs:List ByteArray) (h:kz l) (hl:cs.length≤1048576):iX [bxs l,txs cs]=some (.ret [bxs (mvR (-1) l cs),B (mvB (-1) l cs)] []):=by
 rw [CG];simp -implicitDefEqProofs only [sW l cs (-1) h hl,bd,YF,Xh,ZG]
theorem Nx (l:List Bx) (cs:List ByteArray) (h:kz l) (hl:cs.length≤1048576):jN [bxs l,txs cs]=some (.ret [bxs (mvR 1 l cs),B (mvB 1 l cs)] []):=by
 rw [Ed];simp -implicitDefEqProofs only [sW l cs 1 h hl,bd,YF,Xh,ZG]
theorem CS (a b:Int):ZE.wrap (ZE.wrap a+b)=ZE.wrap (a+b):=by
 rw [aaA,aaA,aaA];omega
theorem Pu (a:Int):ZE.wrap (ZE.wrap a)=ZE.wrap a:=by
 have:=CS a 0;rwa [Int.add_zero,Int.add_zero] at this
def Pk (cs:List ByteArray):List ByteArray→Nat→Int
 | [],_=>0
 | c::codes,k=>(if (fC cs c).toNat=k then 1 else 0)+Pk cs codes k
theorem vK (cs:List ByteArray) (by_:Int):∀(codes:List ByteArray) (l:List Bx) (k:Nat) (x:Bx),l[k]?=some x →
  ∃n:Int,(eE cs by_ l codes)[k]?=some (x.1,x.2.1,x.2.2.1,n)∧ZE.wrap n=ZE.wrap (x.2.2.2+by_*Pk cs codes k)∧(ZE.wrap x.2.2.2=x.2.2.2→ZE.wrap n=n)
 | [],l,k,x,h=>⟨x.2.2.2,h,by simp [Pk],id⟩
 | c::codes,l,k,x,h=>by
  have hk:=(aay.1 h).1;have hx:=(aay.1 h).2;show ∃n:Int,(eE cs by_ (Ee cs by_ l c) codes)[k]?=_∧_
  by_cases he:(fC cs c).toNat=k
  ·have hu:(Ee cs by_ l c)[k]?=some (x.1,x.2.1,x.2.2.1,ZE.wrap (x.2.2.2+by_)):=by
    unfold Ee;rw [he,Zk hk,List.getElem?_set_self hk,hx]
   obtain⟨n,h1,h2,h3⟩:=vK cs by_ codes _ k _ hu;refine⟨n,h1,?_,fun _=>h3 (Pu _)⟩
   rw [h2];simp only [Pk,if_pos he];rw [CS,Int.mul_add,Int.mul_one,Int.add_assoc]
  ·have hu:(Ee cs by_ l c)[k]?=some x:=by
    unfold Ee;rw [List.getElem?_set_ne he];exact h
   obtain⟨n,h1,h2,h3⟩:=vK cs by_ codes _ k _ hu;refine⟨n,h1,?_,h3⟩
   rw [h2];simp only [Pk,if_neg he,Int.zero_add]
theorem vD (cs:List ByteArray) (by_:Int) (l:List Bx) (codes:List ByteArray):(eE cs by_ l codes).length=l.length:=by
 have:=congrArg aan (iL cs by_ codes l);simpa using this
theorem QK {l:List Bx} {cs:List ByteArray} (h:mvB (-1) l cs=true):mvR (-1) l cs=eE (dF l) (-1) l cs∧dY (mvR (-1) l cs)=true∧mvB 1 (mvR (-1) l cs) cs=true∧mvR 1 (mvR (-1) l cs) cs=l:=by
 have h0:=h;simp only [mvB,ZI] at h0;obtain⟨ho,hg⟩:=h0;obtain⟨h1,h2,h3⟩:=vC.1 ho;have e:mvR (-1) l cs=eE (dF l) (-1) l cs:=by simp only [mvR,h,if_true]
 rw [e];have ec:=iL (dF l) (-1) cs l;have el:=vD (dF l) (-1) l cs;have hall:OS (eE (dF l) (-1) l cs) cs:=fun c hc=>by
  obtain⟨k,hk1,hk2⟩:=h1 c hc;exact⟨k,by rw [ec];exact hk1,by rw [el];exact hk2⟩
 have hway:iz (eE (dF l) (-1) l cs) cs=true:=vC.2 ⟨hall,hg,h3⟩;have XQ:eE (dF (eE (dF l) (-1) l cs)) 1 (eE (dF l) (-1) l cs) cs=l:=by
  rw [ec];refine aaM fun k=>?_
  by_cases hk:k<l.length
  ·obtain⟨n1,a1,a2,a3⟩:=vK (dF l) (-1) cs l k l[k] (ZS hk)
   obtain⟨n2,b1,b2,b3⟩:=vK (dF l) 1 cs (eE (dF l) (-1) l cs) k _ a1;have hx:=Sd (RF h2 l[k] (ZN hk));have hw:ZE.wrap l[k].2.2.2=l[k].2.2.2:=ae (by omega) (by omega);have hn1:=a3 hw;have hn2:=b3 hn1;have:n2=l[k].2.2.2:=by
    rw [←hn2,b2];simp only;rw [←hn1,a2,CS,show l[k].2.2.2 + -1*Pk (dF l) cs k+1*Pk (dF l) cs k=l[k].2.2.2 by omega,hw]
   rw [b1,this,ZS hk]
  ·rw [aas (by rw [vD,el];omega),aas (by omega)]
 have hb:mvB 1 (eE (dF l) (-1) l cs) cs=true:=by
  simp only [mvB,hway,XQ,h2,Bool.and_self]
 exact⟨rfl,hg,hb,by simp only [mvR,hb,if_true,XQ]⟩
open Go Go.Proofs Go.V Go.RowKit
set_option maxRecDepth 100000
structure KeepX (S:Nat→Prop) (w w':World):Prop where
 os:w'.os=w.os
 tape:w'.tape=w.tape
 output:w'.output=w.output
 size:w.heap.size≤w'.heap.size
 block:∀b,b<w.heap.size→¬S b→w'.heap[b]?=w.heap[b]?
theorem KeepX.trans {S:Nat→Prop} {a b c:World} (h:KeepX S a b) (k:KeepX S b c):KeepX S a c :=
 ⟨k.os.trans h.os,k.tape.trans h.tape,k.output.trans h.output,Nat.le_trans h.size k.size,fun i hi hs=>(k.block i (aaj hi h.size) hs).trans (h.block i hi hs)⟩
theorem KeepX.refl (S:Nat→Prop) (w:World):KeepX S w w:=⟨rfl,rfl,rfl,ZT _,fun _ _ _=>rfl⟩
theorem KeepX.mono {S T:Nat→Prop} {w w':World} (h:KeepX S w w') (hst:∀b,S b→T b):KeepX T w w':=⟨h.os,h.tape,h.output,h.size,fun b hb ht=>h.block b hb fun hs=>ht (hst b hs)⟩
theorem KeepX.set {S:Nat→Prop} {w w':World} (h:KeepX S w w') (a:Addr) (v:Value) (ha:S a.block):KeepX S w (w'.setCell a v) :=
 h.trans ⟨rfl,rfl,rfl,by simp [aaT],fun b _ hs=>heap_setCell_other _ _ _ _ fun e=>hs (e ▸ ha)⟩
theorem KeepX.of {S:Nat→Prop} {w w':World} (h:Below w.heap.size w w'):KeepX S w w':=⟨h.os,h.tape,h.output,h.size,fun b hb _=>h.block b hb⟩
theorem KeepX.some {S:Nat→Prop} {w w':World} {b:Nat} {o:Obj} (h:KeepX S w w') (hb:w.heap[b]?=some o) (hn:¬S b):w'.heap[b]?=some o:=(h.block b (aG hb) hn).trans hb
theorem KeepX.belowB {S:Nat→Prop} {B:Nat} {a w w':World} (h:KeepX S w w') (hB:Below B a w) (hs:∀b,S b→B≤b) (hBw:B≤w.heap.size):Below B a w' :=
 hB.trans ⟨h.os,h.tape,h.output,h.size,fun b hb=>h.block b (aaj hb hBw) fun hS=>by have:=hs b hS;omega⟩
abbrev bh (y:Value):Nat→Prop:=fun b=>y.ownBlock=some b
abbrev kb (w:World) (z:Nat) (d:D) (y:Value):Prop:=fY w (fun _=>False) (bh y) z d y
theorem iS {w w':World} {z:Nat} {d:D} {y:Value} (h:kb w z d y) (hb:∀b,bh y b→w'.heap[b]?=w.heap[b]?):kb w' z d y :=
 dv (fun b hb=>hb.elim) (fun b hb=>hb.elim) (fun g _ ho=>⟨ho,hb g ho⟩) h
theorem lE {w:World} {z:Nat} {d:D} {y:Value} (h:kb w z d y):∀b,bh y b→b<w.heap.size:=fun b hb=>by
 obtain⟨l,_,_,h3⟩:=h;rcases h3 with ⟨rfl,_⟩ | ⟨g,o,c,us,cs,e,h4,_,h6,_⟩
 ·simp [bh,aaS] at hb
 ·rw [h4] at hb
  simp only [bh,aaS,Option.some.injEq] at hb;subst hb;exact(ZZ.1 h6).1
theorem ie {w w':World} {z:Nat} {d:D} {y:Value} (h:kb w z d y) (hB:Below w.heap.size w w'):kb w' z d y:=iS h fun b hb=>hB.block b (lE h b hb)
theorem fe {w:World} {F own:Nat→Prop} {z:Nat} {d:D} {y:Value} (h:fY w F own z d y):∃A n c,y = .slice A n c:=by
 obtain⟨l,_,_,h3⟩:=h;rcases h3 with ⟨rfl,_⟩ | ⟨g,o,c,us,cs,e,h4,_⟩
 ·exact⟨_,_,_,rfl⟩
 ·exact⟨_,_,_,h4⟩
theorem vL {w:World} {F own F':Nat→Prop} {z:Nat} {d:D} {y:Value} (h:fY w F own z d y) (h1:∀b,F b→F' b) (h2:∀b,own b→F' b):bf w F' d y:=by
 obtain⟨l,rfl,hw,⟨rfl,rfl⟩ | ⟨g,o,c,us,cs,e,rfl,hc,hg,hs,hr,hu,ho⟩⟩:=h
 ·exact⟨none,0,[],rfl,ZT _,aW.2 rfl,hw,fun h=>absurd rfl h⟩
 ·exact⟨_,c,us,rfl,hc,bG h1 (fun _ _=>rfl) _ _ hr,hw,fun _=>⟨g,o,rfl,h2 g ho,fun i u hi=>by simp [World.cell?,hg,hu i u hi]⟩⟩
theorem Tk {w:World} {z:Nat} {d:D} {y:Value} (h:kb w z d y):bf w (bh y) d y:=vL h (fun _ h=>h.elim) fun _ h=>h
theorem iV {w:World} {z:Nat} {d:D} {y:Value} (h:kb w z d y):bf w (fun b=>b<w.heap.size) d y:=vL h (fun _ h=>h.elim) (lE h)
theorem EL (w:World) (z:Nat):kb w z (.arr z []) (.slice none 0 0):=⟨[],rfl,(fun d hd=>by cases hd),.inl ⟨rfl,rfl⟩⟩
theorem GM {w w':World} {F F':Nat→Prop}:∀(l:List D) (us:List Value),(∀d∈l,d.isV=true)→bW w F l us→bW w' F' l us
 | [],_,_,h=>h
 | d::l,us,hd,h=>by
  obtain⟨v1,v2,rfl,h1,h2⟩:=aA.1 h;refine aA.2 ⟨v1,v2,rfl,?_,GM l v2 (fun e he=>hd e (by simp [he])) h2⟩
  have:=hd d (by simp);cases d with
  | v x =>
   simp only [RepC] at h1 ⊢;exact h1
  | agg m =>
   simp only [RepC] at h1 ⊢;exact⟨zW m v1 this h1.1,h1.2⟩
  | _=>simp [D.isV] at this
theorem YV:TOk Tryz.prog 42 pd:=Fb (by kernel_rfl)
theorem Zu:TOk Tryz.prog 9 ty9:=Fb (by kernel_rfl)
theorem Wc {l:List ByteArray}:∀d∈l.map T,d.isV=true:=fun d hd=>by
 obtain⟨x,_,rfl⟩:=aaI.1 hd;rfl
theorem Xu {w:World} {F:Nat→Prop} {l:List ByteArray} {y:Value} (h:bf w F (txs l) y):FV w (fun _=>False) (txs l) y:=by
 intro z m e;cases e;obtain⟨A,c,us,e1,hc,hr,hw,hA⟩:=h;simp only [List.cons.injEq,and_true] at e1;refine⟨A,c,us,e1,GM _ _ Wc hr,hw,fun hne=>?_⟩
 obtain⟨b,o,e2,_,hcl⟩:=hA hne;exact⟨b,o,e2,hcl⟩
theorem xX (w:World) {o:Oper} {a:Act} {K:Act→World→Prop} {Q:Exit→Act→World→Prop} (s x:Operand)
  (ho:o.op = .call {callee:=.builtin .append,args:=#[s,x],argTypes:=#[42,42]}) (l m:List ByteArray) (ys yx:Value) (hs:a.eval s=ys) (hx:a.eval x=yx) (hown:kb w 1 (txs l) ys) {F:Nat→Prop} (hsrc:bf w F (txs m) yx) (hlen:l.length+m.length≤1048576)
  (h:∀v w',kb w' 1 (txs (l++m)) v→(∀b,bh v b→bh ys b∨w.heap.size≤b)→KeepX (bh ys) w w'→K (a.put o.dst v) w'):o.wp Tryz.prog a w K Q:=by
 obtain⟨v,w',hr,h1,h2,h3,h4,h5,h6⟩:=yu (P:=Tryz.prog) (t:=42) (ty:=o.type) YV (by kernel_rfl) Zu (G:=fun _=>False) (own:=bh ys) (fun b hb=>hb.elim) (l:=l.map T) (m:=m.map T) hown (Xu hsrc) (by simp only [ZF];omega) (by simp only [ZF];omega);have hv:∀b,bh v b→bh ys b∨w.heap.size≤b:=fun b hb=>by
  obtain⟨l',_,_,h7 | ⟨g,o,c,us,cs,e,h8,_,_,_,_,_,h9⟩⟩:=h1
  ·rw [h7.1] at hb
   cases hb
  ·rw [h8] at hb
   have:g=b:=aaD hb;exact this ▸ h9
 have h1':kb w' 1 (txs (l++m)) v:=by
  obtain⟨l',e,hw,h7⟩:=h1;refine⟨l',by rw [txs,aab];exact e,hw,?_⟩
  rcases h7 with h7 | ⟨g,o,c,us,cs,e,h8,q1,q2,q3,q4,q5,_⟩
  ·exact .inl h7
  ·exact .inr ⟨g,o,c,us,cs,e,h8,q1,q2,q3,q4,q5,by rw [h8];rfl⟩
 unfold Oper.wp execOp;simp only [ho,resolve,invoke,builtin,Sem.run_bind,Sem.run_pure,Result.andThen_ok,List.map_toArray,aap,aaJ,hs,hx,hr];exact h v w' h1' hv ⟨h4,h5,h6,h2,fun b hb hn=>h3 b hb hn⟩
theorem kX (w:World) {ops:Array Oper} {rest:List Oper} {o:Oper} {a:Act} {Q:Exit→Act→World→Prop} (hgd:o.guard=none) (s x:Operand)
  (ho:o.op = .call {callee:=.builtin .append,args:=#[s,x],argTypes:=#[42,42]}) (l m:List ByteArray) (ys yx:Value) (hs:a.eval s=ys) (hx:a.eval x=yx) (hown:kb w 1 (txs l) ys) {F:Nat→Prop} (hsrc:bf w F (txs m) yx) (hlen:l.length+m.length≤1048576)
  (h:∀A n c w',kb w' 1 (txs (l++m)) (.slice A n c)→(∀b,bh (.slice A n c) b→bh ys b∨w.heap.size≤b)→KeepX (bh ys) w w'→wpList Tryz.prog ops Q rest (a.put o.dst (.slice A n c)) w') :
  wpList Tryz.prog ops Q (o::rest) a w :=
 wpList_plain hgd fun K hK=>xX w s x ho l m ys yx hs hx hown hsrc hlen fun v w' h1 h2 h3=>by
  obtain⟨A,n,c,rfl⟩:=fe h1;exact hK _ _ (h A n c w' h1 h2 h3)
theorem Mx (w:World) (s:ByteArray):bf (w.alloc (.cells #[.string s] 9)) (fun b=>b=w.heap.size) (txs [s]) (.slice (some ⟨w.heap.size,0,none⟩) 1 1):=by
 refine⟨some ⟨w.heap.size,0,none⟩,1,[.string s],rfl,ZT _,aA.2 ⟨[.string s],[],rfl,by simp only [RepC];exact⟨trivial,rfl⟩,aW.2 rfl⟩,fun d hd=>?_,fun _=>⟨w.heap.size,0,rfl,rfl,fun i u hu=>?_⟩⟩
 ·simp at hd
  rw [hd];rfl
 ·match i,hu with
  | 0,hu =>
   cases hu;rw [aar (bF _ rfl)];rfl
def Yj (w:World) (z:Nat) (d:D) (b:Value) (e:Ending) (w':World):Prop:=∃A n c,e = .returned (.tuple #[.slice A n c,b])∧kb w' z d (.slice A n c)∧(∀b,bh (.slice A n c) b→w.heap.size≤b∧b<w'.heap.size)∧Below w.heap.size w w'
theorem Qn {w':World} {F':Nat→Prop} {B z:Nat} {d:D} {u:Value} {P:Nat→Prop} (h0:fY w' F' (fun g=>P g∧B≤g) z d u) (hF:∀b,F' b→False):kb w' z d u∧∀b,bh u b→B≤b∧b<w'.heap.size:=by
 obtain⟨m,e1,h2,h3⟩:=h0;rcases h3 with ⟨h3,h30⟩ | ⟨g,o,c,us,cs,e,h4,h5,h6,h7,h8,h9,_,h11⟩
 ·subst h3
  exact⟨⟨m,e1,h2,.inl ⟨rfl,h30⟩⟩,fun b hb=>by cases hb⟩
 ·subst h4
  refine⟨⟨m,e1,h2,.inr ⟨g,o,c,us,cs,e,rfl,h5,h6,h7,bG (fun b hb=>(hF b hb).elim) (fun b hb=>rfl) _ _ h8,h9,rfl⟩⟩,fun b hb=>?_⟩
  have hb':g=b:=aaD hb;subst hb';exact⟨h11,(ZZ.1 h6).1⟩
theorem Hl {f:Nat} {z:Nat} {pm:List Kd} {ff:List D→Option Out} {ds:List D} {d:D} {b:Value} {args:Array Value} (he:∀args w,(callFunc f args).run Tryz.prog w = .ok (.enter f args) w) (hm:aw gl0 Tryz.prog f {pm:=pm,rm:=[.own z 0 false,.dat 0],f:=ff}) (hd:ff ds=some (.ret [d,.v b] [])) (hbad:d ≠ .bad) {w:World} {F:Nat→Prop}
  (ha:dU w F (fun _=>none) 0 pm ds args.toList) (hF:∀b,F b→b<w.heap.size) :
  Calls Tryz.prog f args w (Yj w z d b):=by
 refine(fF (ow:=fun _=>none) (F:=F) (ds:=ds) (rs:=[d,.v b]) (us:=[]) (args:=args) he hm hd ga ha (fun b hb=>⟨hF b hb,rfl⟩) (fun b i h=>by cases h)).mono ?_
 rintro e w' ⟨v,rfl,F',R,vs,rfl,hp⟩;have hl:=hp.len;obtain⟨u,u2,rfl⟩:=Qp (hl.trans rfl);have h0:=hp.res 0;have h1:=hp.res 1;rcases h0 with h0 | h0
 ·exact absurd h0 hbad
 rcases h1 with h1 | h1
 ·cases h1
 obtain⟨hu2,_⟩:=cX.1 h1;have hu2':u2=b:=hu2;subst hu2';have hB:Below w.heap.size w w':=⟨hp.os,hp.tape,hp.output,hp.size,fun b hb=>hp.keep b hb rfl⟩
 obtain⟨k1,k2⟩:=Qn (P:=fun g=>R g=some 0) (u:=u) h0 (fun b hb=>hb);obtain⟨A,n,c,rfl⟩:=fe k1;exact⟨A,n,c,rfl,k1,k2,hB⟩
theorem SR {vs:List Value} (h:vs.length=1):∃a,vs=[a]:=match vs,h with
 | [a],_=>⟨a,rfl⟩
def YL (w:World) (z:Nat) (d:D) (e:Ending) (w':World):Prop:=∃A n c,e = .returned (.slice A n c)∧kb w' z d (.slice A n c)∧(∀b,bh (.slice A n c) b→w.heap.size≤b∧b<w'.heap.size)∧Below w.heap.size w w'
theorem PC {f:Nat} {z:Nat} {pm:List Kd} {ff:List D→Option Out} {ds:List D} {d:D} {args:Array Value} (he:∀args w,(callFunc f args).run Tryz.prog w = .ok (.enter f args) w) (hm:aw gl0 Tryz.prog f {pm:=pm,rm:=[.own z 0 false],f:=ff}) (hd:ff ds=some (.ret [d] [])) (hbad:d ≠ .bad) {w:World} {F:Nat→Prop}
  (ha:dU w F (fun _=>none) 0 pm ds args.toList) (hF:∀b,F b→b<w.heap.size) :
  Calls Tryz.prog f args w (YL w z d):=by
 refine(fF (ow:=fun _=>none) (F:=F) (ds:=ds) (rs:=[d]) (us:=[]) (args:=args) he hm hd ga ha (fun b hb=>⟨hF b hb,rfl⟩) (fun b i h=>by cases h)).mono ?_
 rintro e w' ⟨v,rfl,F',R,vs,rfl,hp⟩;have hl:=hp.len;obtain⟨u,rfl⟩:=SR (hl.trans rfl);have h0:=hp.res 0;rcases h0 with h0 | h0
 ·exact absurd h0 hbad
 have hB:Below w.heap.size w w':=⟨hp.os,hp.tape,hp.output,hp.size,fun b hb=>hp.keep b hb rfl⟩
 obtain⟨k1,k2⟩:=Qn (P:=fun g=>R g=some 0) (u:=u) h0 (fun b hb=>hb);obtain⟨A,n,c,rfl⟩:=fe k1;exact⟨A,n,c,rfl,k1,k2,hB⟩
set_option maxRecDepth 100000
variable {Z:Nat→Prop}
def eh (Z:Nat→Prop) (w:World) (q:Nat) (S:Nat→Prop) (d:D):Prop:=∃F:Nat→Prop,Dj w F (fun g=>g=q) 3 d (.pointer (some ⟨q,0,none⟩))∧∀b,F b→b<w.heap.size∧b≠q∧¬S b∧¬Z b
theorem eh.lt {w:World} {q:Nat} {S:Nat→Prop} {d:D} (h:eh Z w q S d):q<w.heap.size:=by
 obtain⟨F,⟨l,us,g,e,_,h2,h3,_,_,_,h7⟩,_⟩:=h;subst h7;exact(ZZ.1 h3).1
theorem eh.kept {w w':World} {q:Nat} {S:Nat→Prop} {d:D} (h:eh Z w q S d) (hq:¬S q) (hs:w.heap.size≤w'.heap.size) (hk:∀b,b<w.heap.size→¬S b→w'.heap[b]?=w.heap[b]?):eh Z w' q S d:=by
 have hlt:=h.lt;obtain⟨F,⟨l,us,g,e,h1,h2,h3,h4,h5,h6,h7⟩,hF⟩:=h;subst h7;exact⟨F,⟨l,us,g,e,h1,h2,(hk g hlt hq).trans h3,bG (fun _ h=>h) (fun b hb=>hk b (hF b hb).1 (hF b hb).2.2.1) _ _ h4,h5,h6,rfl⟩,fun b hb=>⟨aaj (hF b hb).1 hs,(hF b hb).2⟩⟩
theorem eh.more {w:World} {q:Nat} {S T:Nat→Prop} {d:D} (h:eh Z w q S d) (ht:∀b,T b→S b∨w.heap.size≤b):eh Z w q T d:=by
 obtain⟨F,h1,hF⟩:=h;exact⟨F,h1,fun b hb=>⟨(hF b hb).1,(hF b hb).2.1,fun hT=>(ht b hT).elim (hF b hb).2.2.1 fun h=>by have:=(hF b hb).1;omega,(hF b hb).2.2.2⟩⟩
theorem eh.below {w w':World} {q:Nat} {S T:Nat→Prop} {d:D} (h:eh Z w q S d) (hB:Below w.heap.size w w') (ht:∀b,T b→S b∨w.heap.size≤b):eh Z w' q T d:=by
 obtain⟨F,⟨l,us,g,e,h1,h2,h3,h4,h5,h6,h7⟩,hF⟩:=h.more ht;subst h7;exact⟨F,⟨l,us,g,e,h1,h2,(hB.block g (ZZ.1 h3).1).trans h3,bG (fun _ h=>h) (fun b hb=>hB.block b (hF b hb).1) _ _ h4,h5,h6,rfl⟩,fun b hb=>⟨aaj (hF b hb).1 hB.size,(hF b hb).2⟩⟩
theorem eh.set {w:World} {q:Nat} {S:Nat→Prop} {d:D} (h:eh Z w q S d) (hq:¬S q) (a:Addr) (v:Value) (ha:S a.block):eh Z (w.setCell a v) q S d :=
 h.kept hq (by simp [aaT]) fun b _ hb=>heap_setCell_other _ _ _ _ fun e=>hb (e ▸ ha)
structure CurPost (Z:Nat→Prop) (w:World) (q:Nat) (S:Nat→Prop) (d':D) (rm:List Kd) (rs:List D) (vs:List Value) (w':World) (F':Nat→Prop) (R:Nat→Option Nat):Prop where
 cur:eh Z w' q (fun b=>S b∨∃j,R b=some j) d'
 keep:KeepX (fun b=>b=q) w w'
 len:vs.length=rm.length
 res:∀j,KO w' F' w.heap.size (fun g=>R g=some j) (aq rm j) (nth rs j) (vs.getD j undef)
 new:∀b j,R b=some j→w.heap.size≤b∧b<w'.heap.size
theorem CF {f:Nat} {pm rm:List Kd} {ff:List D→Option Out} {d d':D} {ds rs:List D} (he:∀args w,(callFunc f args).run Tryz.prog w = .ok (.enter f args) w) (hm:aw gl0 Tryz.prog f {pm:=.box 3 2 true::pm,rm:=rm,f:=ff})
  (hd:ff (d::ds)=some (.ret rs [d'])) (hio:(pm.all fun k=>!mW k)=true) (hdb:d' ≠ .bad) {w:World} {q:Nat} {S Fa:Nat→Prop} {ys:List Value} (hC:eh Z w q S d) (hS:∀b,S b→b<w.heap.size) (hZ:∀b,Z b→b<w.heap.size) (hFa:∀b,Fa b→b<w.heap.size∧b≠q∧¬S b∧¬Z b)
  (ha:dU w Fa (fun b=>if b=q then some 0 else none) 1 pm ds ys) :
  Calls Tryz.prog f (.pointer (some ⟨q,0,none⟩)::ys).toArray w fun e w'=>∃vs F' R,e = .returned (jW vs)∧CurPost Z w q S d' rm rs vs w' F' R:=by
 have hlt:=hC.lt;obtain⟨F,hbox,hF⟩:=hC;have mono:∀(pm:List Kd) (ds:List D) (ys:List Value) (i:Nat),(pm.all fun k=>!mW k)=true→dU w Fa (fun b=>if b=q then some 0 else none) i pm ds ys→dU w (fun b=>F b∨Fa b) (fun b=>if b=q then some 0 else none) i pm ds ys:=by
  intro pm;induction pm with
  | nil =>
   intro ds ys i _ h;cases ds<;>cases ys<;>first | trivial | exact h.elim
  | cons k pm ih =>
   intro ds ys i hk h;simp only [List.all_cons,ZI,aal] at hk;cases ds with
   | nil=>cases ys<;>exact h.elim
   | cons e ds =>
    cases ys with
    | nil=>exact h.elim
    | cons y ys =>
     refine⟨?_,ih ds ys (i+1) hk.2 h.2⟩
     rcases h.1 with h1 | h1
     ·exact .inl h1
     ·refine .inr ?_
      cases k with
      | dat lv =>
       refine aK (fun b hb=>?_) (fun _ _=>rfl) h1
       match lv,hb with
       | 1,hb=>exact⟨.inr hb.1,hb.2⟩
       | n+2,hb=>exact .inr hb
      | own z lv io=>cases io<;>simp_all [mW]
      | box z lv io=>cases io<;>simp_all [mW]
      | _=>exact h1
 have e0:∀b i,(if b=q then some 0 else none:Option Nat)=some i→b=q:=fun b i h=>by
  by_cases hb:b=q
  ·exact hb
  ·rw [if_neg hb] at h;cases h
 refine(fF (ow:=fun b=>if b=q then some 0 else none) (F:=fun b=>F b∨Fa b) (ds:=d::ds) (rs:=rs) (us:=[d']) (args:=(.pointer (some ⟨q,0,none⟩)::ys).toArray) he hm hd ga
  ⟨.inr ?_,mono pm ds ys 1 hio ha⟩ (fun b hb=>?_) (fun b i h=>by rw [e0 b i h];exact hlt)).mono ?_
 ·exact gI (F:=F) (own:=fun g=>g=q) (fun b hb=>.inl hb) (fun _ _=>rfl) (fun g _ hg=>⟨by simp [hg],rfl⟩) hbox
 ·rcases hb with hb | hb
  ·exact⟨(hF b hb).1,if_neg (hF b hb).2.1⟩
  ·exact⟨(hFa b hb).1,if_neg (hFa b hb).2.1⟩
 ·rintro e w' ⟨v,rfl,F',R,vs,rfl,hp⟩
  have hu:=hp.us;simp only [qI,mW,if_true] at hu;obtain⟨_,hu1,_⟩:=hu;have hu2:=hu1.resolve_left hdb;refine⟨vs,F',R,rfl,?_,⟨hp.os,hp.tape,hp.output,hp.size,fun b hb hne=>hp.keep b hb (if_neg hne)⟩,hp.len,hp.res,hp.rn⟩
  refine⟨F',?_,fun b hb=>?_⟩
  ·obtain⟨l,us,g,e,h1,h2,h3,h4,h5,h6,h7⟩:=hu2
   have hg:g=q:=by injection h2 with h2;injection h2 with h2;injection h2 with h2;exact h2.symm
   exact⟨l,us,g,e,h1,h2,h3,h4,h5,h6,hg⟩
  ·obtain⟨h1,h2,h3⟩:=hp.fn b hb
   refine⟨h2,fun hbq=>?_,fun hSb=>?_,fun hz=>?_⟩
   ·subst hbq
    rcases h1 with (h1 | h1) | h1
    ·exact(hF b h1).2.1 rfl
    ·exact(hFa b h1).2.1 rfl
    ·omega
   ·rcases hSb with hSb | ⟨j,hj⟩
    ·rcases h1 with (h1 | h1) | h1
     ·exact(hF b h1).2.2.1 hSb
     ·exact(hFa b h1).2.2.1 hSb
     ·have:=hS b hSb
      omega
    ·rw [h3] at hj
     cases hj
   ·rcases h1 with (h1 | h1) | h1
    ·exact(hF b h1).2.2.2 hz
    ·exact(hFa b h1).2.2.2 hz
    ·have:=hZ b hz
     omega
theorem len_one {vs:List Value} (h:vs.length=1):∃a,vs=[a]:=match vs,h with
 | [a],_=>⟨a,rfl⟩
theorem sn {f:Nat} {pm:List Kd} {ff:List D→Option Out} {d d':D} {ds:List D} {v:Value} (he:∀args w,(callFunc f args).run Tryz.prog w = .ok (.enter f args) w) (hm:aw gl0 Tryz.prog f {pm:=.box 3 2 true::pm,rm:=[.dat 0],f:=ff})
  (hd:ff (d::ds)=some (.ret [.v v] [d'])) (hio:(pm.all fun k=>!mW k)=true) (hdb:d' ≠ .bad) {w:World} {q:Nat} {S Fa:Nat→Prop} {ys:List Value} (hC:eh Z w q S d) (hS:∀b,S b→b<w.heap.size) (hZ:∀b,Z b→b<w.heap.size) (hFa:∀b,Fa b→b<w.heap.size∧b≠q∧¬S b∧¬Z b)
  (ha:dU w Fa (fun b=>if b=q then some 0 else none) 1 pm ds ys) :
  Calls Tryz.prog f (.pointer (some ⟨q,0,none⟩)::ys).toArray w fun e w'=>e = .returned v∧eh Z w' q S d'∧KeepX (fun b=>b=q) w w':=by
 refine(CF he hm hd hio hdb hC hS hZ hFa ha).mono ?_
 rintro e w' ⟨vs,F',R,rfl,hp⟩;obtain⟨a,rfl⟩:=len_one hp.len;have h0:=hp.res 0;rcases h0 with h0 | h0
 ·cases h0
 exact⟨congrArg Ending.returned (cX.1 h0).1,hp.cur.more fun b hb=>.inl (.inl hb),hp.keep⟩
end Go.Proofs.YtccaheogjpfhjaaGreat

namespace Go.Proofs.YtccaheogjpfhjaaGreat
open Go Go.Proofs Go.V Go.RowKit
set_option maxRecDepth 100000
variable {Z:Nat→Prop}
instance:Inhabited Cur:=⟨⟨[],0,0⟩⟩
theorem Cur.ok.at {c:Cur} {B:Nat} (h:c.ok B):c.ok c.at_:=⟨h.by_,h.len,ZT _,h.lo,h.hi⟩
theorem Cur.ok.up {c d:Cur} {B k:Nat} (h:c.ok B) (hd:d.ok (c.at_+k)):d.ok (B+k):=hd.mono (Nat.add_le_add_right h.at_ k)
def pk (c:Cur) (n:Int):Int × Cur:=aae fun p:Int × Cur=>ah [aR c,I n]=some (.ret [I p.1] [aR p.2])∧0≤p.1∧(p.1<n∨p.1=0)∧p.2.ok (c.at_+2)
theorem Hr {c:Cur} {n:Int} {B:Nat} (h:c.ok B) (hB:B≤100000000000) (hn:n≤1000000000):ah [aR c,I n]=some (.ret [I (pk c n).1] [aR (pk c n).2])∧0≤(pk c n).1∧((pk c n).1<n∨(pk c n).1=0)∧(pk c n).2.ok (B+2):=by
 obtain⟨v,c',e,h1,h2,h3⟩:=dg c n c.at_ h.at (by have:=h.at_;omega) hn;obtain⟨g1,g2,g3,g4⟩:=aad (p:=fun p:Int × Cur=>ah [aR c,I n]=some (.ret [I p.1] [aR p.2])∧0≤p.1∧(p.1<n∨p.1=0)∧p.2.ok (c.at_+2)) ⟨(v,c'),e,h1,h2,h3⟩;exact⟨g1,g2,g3,h.up g4⟩
def on (c:Cur) (n:Int):Bool × Cur:=aae fun p:Bool × Cur=>aP [aR c,I n]=some (.ret [B p.1] [aR p.2])∧p.2.ok (c.at_+2)
def am (c:Cur) (l:List Int):Int × Cur:=aae fun p:Int × Cur=>ak [aR c,iP l]=some (.ret [I p.1] [aR p.2])∧p.1∈l∧p.2.ok (c.at_+2)
theorem Xf {c:Cur} {l:List Int} {B:Nat} (h:c.ok B) (hB:B≤100000000000) (hl:l≠[]) (hn:l.length≤1000000000):ak [aR c,iP l]=some (.ret [I (am c l).1] [aR (am c l).2])∧(am c l).1∈l∧(am c l).2.ok (B+2):=by
 obtain⟨v,c',e,h1,h3⟩:=gE c l c.at_ h.at (by have:=h.at_;omega) hl hn;obtain⟨g1,g2,g4⟩:=aad (p:=fun p:Int × Cur=>ak [aR c,iP l]=some (.ret [I p.1] [aR p.2])∧p.1∈l∧p.2.ok (c.at_+2)) ⟨(v,c'),e,h1,h3⟩;exact⟨g1,g2,h.up g4⟩
def fo (c:Cur):List (ByteArray × Int) × Cur:=aae fun p:List (ByteArray × Int) × Cur=>dk [aR c]=some (.ret [sos p.1] [aR p.2])∧(1≤p.1.length∧p.1.length≤12)∧(cdF p.1).Sublist L12∧p.2.ok (c.at_+100)
theorem UT {c:Cur} {B:Nat} (h:c.ok B) (hB:B≤1000000000):dk [aR c]=some (.ret [sos (fo c).1] [aR (fo c).2])∧(1≤(fo c).1.length∧(fo c).1.length≤12)∧(cdF (fo c).1).Sublist L12∧(fo c).2.ok (B+100):=by
 obtain⟨v,c',e,h1,h2,h3⟩:=Vx c c.at_ h.at (by have:=h.at_;omega);obtain⟨g1,g2,g3,g4⟩:=aad (p:=fun p:List (ByteArray × Int) × Cur=>dk [aR c]=some (.ret [sos p.1] [aR p.2])∧(1≤p.1.length∧p.1.length≤12)∧(cdF p.1).Sublist L12∧p.2.ok (c.at_+100)) ⟨(v,c'),e,h1,h2,h3⟩;exact⟨g1,g2,g3,h.up g4⟩
def bo (c:Cur) (f:List (ByteArray × Int)):List Bx × Cur:=aae fun p:List Bx × Cur=>dW [aR c,sos f]=some (.ret [bxs p.1] [aR p.2])∧dY p.1=true∧p.1.length≤12∧(∀x∈p.1,0≤x.2.2.2∧x.2.2.2≤20)∧p.2.ok (c.at_+100)
theorem Tr {c:Cur} {f:List (ByteArray × Int)} {B:Nat} (h:c.ok B) (hB:B≤1000000000) (hf:1≤f.length∧f.length≤12) (hs:(cdF f).Sublist L12):dW [aR c,sos f]=some (.ret [bxs (bo c f).1] [aR (bo c f).2])∧dY (bo c f).1=true∧(bo c f).1.length≤12∧(∀x∈(bo c f).1,0≤x.2.2.2∧x.2.2.2≤20)∧(bo c f).2.ok (B+100):=by
 obtain⟨v,c',e,h1,h2,h3,h4⟩:=WM c f c.at_ h.at (by have:=h.at_;omega) hf hs;obtain⟨g1,g2,g3,g4,g5⟩:=aad (p:=fun p:List Bx × Cur=>dW [aR c,sos f]=some (.ret [bxs p.1] [aR p.2])∧dY p.1=true∧p.1.length≤12∧(∀x∈p.1,0≤x.2.2.2∧x.2.2.2≤20)∧p.2.ok (c.at_+100)) ⟨(v,c'),e,h1,h2,h3,h4⟩;exact⟨g1,g2,g3,g4,h.up g5⟩
theorem sf (c:Cur):aR c ≠ .bad:=by simp
theorem CH {w:World} {q:Nat} {S:Nat→Prop} {c:Cur} {B:Nat} (h:c.ok B) (hB:B≤100000000000) {n:Int} (hn:n≤1000000000) (hC:eh Z w q S (aR c)) (hS:∀b,S b→b<w.heap.size) (hZ:∀b,Z b→b<w.heap.size) :
  Calls Tryz.prog 65 #[.pointer (some ⟨q,0,none⟩),.int .i64 n] w fun e w'=>e = .returned (.int .i64 (pk c n).1)∧eh Z w' q S (aR (pk c n).2)∧KeepX (fun b=>b=q) w w' :=
 sn (Fa:=fun _=>False) (ys:=[.int .i64 n]) (ZP Tryz.func65 (by kernel_rfl) rfl) bz (Hr h hB hn).1 rfl (sf _) hC hS hZ (fun b h=>h.elim) ⟨.inr (cX.2 ⟨rfl,rfl⟩),trivial⟩
theorem Pa {w:World} {q:Nat} {S Fa:Nat→Prop} {c:Cur} {B:Nat} (h:c.ok B) (hB:B≤100000000000) {l:List Int} (hl:l≠[]) (hn:l.length≤1000000000) {y:Value} (hC:eh Z w q S (aR c)) (hS:∀b,S b→b<w.heap.size) (hZ:∀b,Z b→b<w.heap.size) (hFa:∀b,Fa b→b<w.heap.size∧b≠q∧¬S b∧¬Z b) (hy:bf w Fa (iP l) y) :
  Calls Tryz.prog 64 #[.pointer (some ⟨q,0,none⟩),y] w fun e w'=>e = .returned (.int .i64 (am c l).1)∧eh Z w' q S (aR (am c l).2)∧KeepX (fun b=>b=q) w w' :=
 sn (Fa:=Fa) (ys:=[y]) (ZP Tryz.func64 (by kernel_rfl) rfl) cn (Xf h hB hl hn).1 rfl (sf _) hC hS hZ hFa ⟨.inr hy,trivial⟩
theorem TV (w:World) (l:List Int) (cap:Nat) (hc:l.length≤cap) (t:TypeId) {g:Nat} {cs:Array Value} (h:w.heap[g]?=some (.cells cs t (0,0))) (hcs:∀(i:Nat) (n:Int),l[i]?=some n→cs[i]?=some (.int .i64 n)):bf w (fun b=>b=g) (iP l) (.slice (some ⟨g,0,none⟩) l.length cap):=by
 refine⟨some ⟨g,0,none⟩,cap,l.map (aav .i64),by simp,by simpa using hc,?_,fun d hd=>?_,fun _=>⟨g,0,rfl,rfl,fun i u hu=>?_⟩⟩
 ·clear hc hcs h
  induction l with
  | nil=>exact aW.2 rfl
  | cons x l ih=>exact aA.2 ⟨[.int .i64 x],l.map (aav .i64),rfl,by simp only [RepC];exact⟨trivial,rfl⟩,ih⟩
 ·obtain⟨x,_,rfl⟩:=aaI.1 hd
  rfl
 ·rw [aaN] at hu
  obtain⟨n,hn,rfl⟩:=Option.map_eq_some_iff.1 hu;have:=hcs i n hn;simp [World.cell?,h,this]
theorem RV {w:World} {q:Nat} {S:Nat→Prop} {c:Cur} {B:Nat} (h:c.ok B) (hB:B≤1000000000) (hC:eh Z w q S (aR c)) (hS:∀b,S b→b<w.heap.size) (hZ:∀b,Z b→b<w.heap.size) :
  Calls Tryz.prog 86 #[.pointer (some ⟨q,0,none⟩)] w fun e w'=>∃y,e = .returned y∧bf w' (fun b=>w.heap.size≤b∧b<w'.heap.size) (sos (fo c).1) y∧eh Z w' q S (aR (fo c).2)∧KeepX (fun b=>b=q) w w':=by
 refine(CF (Fa:=fun _=>False) (ys:=[]) (ds:=[]) (pm:=[]) (ZP Tryz.func86 (by kernel_rfl) rfl) pL (UT h hB).1 rfl (sf _) hC hS hZ (fun b h=>h.elim) trivial).mono ?_
 rintro e w' ⟨vs,F',R,rfl,hp⟩;obtain⟨a,rfl⟩:=len_one hp.len;rcases hp.res 0 with h0 | h0
 ·cases h0
 have h0':fY w' (fun _=>False) (fun g=>R g=some 0∧w.heap.size≤g) 2 (sos (fo c).1) a:=h0;exact⟨a,rfl,vL h0' (fun _ h=>h.elim) fun b hb=>hp.new b 0 hb.1,hp.cur.more fun b hb=>.inl (.inl hb),hp.keep⟩
theorem Sp {w:World} {own:Nat→Prop} {z:Nat} {d:D} {y:Value} (h:fY w (fun _=>False) own z d y):fY w (fun _=>False) (bh y) z d y∧∀b,bh y b→own b:=by
 obtain⟨l,rfl,h2,h3⟩:=h;rcases h3 with ⟨h3,h4⟩ | ⟨g,o,c,us,cs,e,h4,h5,h6,h7,h8,h9,h10⟩
 ·subst h3
  exact⟨⟨l,rfl,h2,.inl ⟨rfl,h4⟩⟩,fun b hb=>by cases hb⟩
 ·subst h4
  exact⟨⟨l,rfl,h2,.inr ⟨g,o,c,us,cs,e,rfl,h5,h6,h7,h8,h9,rfl⟩⟩,fun b hb=>by
   have hb':g=b:=aaD hb;subst hb';exact h10⟩
theorem Pz {w:World} {q:Nat} {S Fa:Nat→Prop} {c:Cur} {f:List (ByteArray × Int)} {B:Nat} (h:c.ok B) (hB:B≤1000000000) (hf:1≤f.length∧f.length≤12) (hs:(cdF f).Sublist L12) {y:Value} (hC:eh Z w q S (aR c)) (hS:∀b,S b→b<w.heap.size) (hZ:∀b,Z b→b<w.heap.size) (hFa:∀b,Fa b→b<w.heap.size∧b≠q∧¬S b∧¬Z b) (hy:bf w Fa (sos f) y) :
  Calls Tryz.prog 87 #[.pointer (some ⟨q,0,none⟩),y] w fun e w'=>∃A n k,e = .returned (.slice A n k)∧fY w' (fun _=>False) (bh (.slice A n k)) 4 (bxs (bo c f).1) (.slice A n k)∧(∀b,bh (.slice A n k) b→w.heap.size≤b∧b<w'.heap.size)∧eh Z w' q (fun b=>S b∨bh (.slice A n k) b) (aR (bo c f).2)∧KeepX (fun b=>b=q) w w':=by
 refine(CF (Fa:=Fa) (ys:=[y]) (ds:=[sos f]) (pm:=[.dat 2]) (ZP Tryz.func87 (by kernel_rfl) rfl) yC (Tr h hB hf hs).1 rfl (sf _) hC hS hZ hFa ⟨.inr hy,trivial⟩).mono ?_
 rintro e w' ⟨vs,F',R,rfl,hp⟩;obtain⟨a,rfl⟩:=len_one hp.len;rcases hp.res 0 with h0 | h0
 ·cases h0
 have h0':fY w' (fun _=>False) (fun g=>R g=some 0∧w.heap.size≤g) 4 (bxs (bo c f).1) a:=h0;obtain⟨h1,h2⟩:=Sp h0';obtain⟨A,n,k,rfl⟩:=fe h1;exact⟨A,n,k,rfl,h1,fun b hb=>hp.new b 0 (h2 b hb).1,hp.cur.more fun b hb=>.inl (hb.imp (fun h=>h) fun h=>⟨0,(h2 b h).1⟩),hp.keep⟩
end Go.Proofs.YtccaheogjpfhjaaGreat

namespace Go.Proofs.YtccaheogjpfhjaaGreat
open Go Go.V
set_option maxRecDepth 100000
def cds (f:List Srt):List ByteArray:=f.map (·.1)
def sg (f:List Srt) (c:ByteArray):Int:=((f.find? fun x=>decide (x.1=c)).map (·.2)).getD 0
theorem VI {f:List Srt} (h:wh f=true) {i j:Nat} (hi:i<f.length) (hj:j<f.length) (e:f[i].1=f[j].1):i=j:=by
 obtain⟨-,hp,-⟩:=EP.1 h;have hp:=aah.1 hp;rcases Nat.lt_trichotomy i j with g | g | g
 ·have:=hp i j hi hj g
  rw [e,yw] at this;cases this
 ·exact g
 ·have:=hp j i hj hi g
  rw [e,yw] at this;cases this
theorem kE {s:ByteArray} {lo hi:Int} (h:eK s lo hi=true):lo≤(s.size:Int)∧(s.size:Int)≤hi:=by
 unfold eK at h;simp only [ZI,decide_eq_true_eq] at h;exact h.2
theorem Qx {f:List Srt} (h:wh f=true):Codes (cds f):=by
 obtain⟨hs,-,-⟩:=EP.1 h;refine⟨fun j hj=>?_,fun i j hi hj e=>?_⟩
 ·have hj':j<f.length:=by simpa [cds] using hj
  have e:(cds f)[j]=f[j].1:=by simp [cds]
  rw [e];have:=hs f[j] (ZN _);unfold BM at this;simp only [ZI] at this;have:=kE this.1;have hz:f[j].1.size=(aM f[j].1).length:=rfl;omega
 ·exact VI h (by simpa [cds] using hi) (by simpa [cds] using hj) (by simpa [cds] using e)
theorem VZ {f:List Srt} (h:wh f=true):1≤f.length∧f.length≤32:=by
 obtain⟨-,-,h1,h2⟩:=EP.1 h;exact⟨h1,h2⟩
structure FntW (f:List Srt):Prop where
 cod:Codes (cds f)
 ln:1≤f.length∧f.length≤32
theorem FntW.of {f:List Srt} (h:wh f=true):FntW f:=⟨Qx h,VZ h⟩
theorem FntW.inj {f:List Srt} (h:FntW f) {i j:Nat} (hi:i<f.length) (hj:j<f.length) (e:f[i].1=f[j].1):i=j :=
 h.cod.inj i j (by simpa [cds] using hi) (by simpa [cds] using hj) (by simpa [cds] using e)
theorem YA {f:List Srt} (h:FntW f) {i:Nat} (hi:i<f.length):sg f f[i].1=f[i].2:=by
 unfold sg;have:f.find? (fun x=>decide (x.1=f[i].1))=some f[i]:=by
  rw [List.find?_eq_some_iff_getElem];refine⟨by simp,i,hi,rfl,fun j hj=>?_⟩
  simp only [aal,decide_eq_false_iff_not];intro e;have:=h.inj (by omega) hi e;omega
 rw [this];rfl
theorem Tw {f:List Srt} (h:FntW f):srs f=fD (sg f) (cds f):=by
 unfold cds;show D.arr 2 (f.map sr)=D.arr 2 ((f.map fun x=>x.1).map (so (sg f)))
 rw [List.map_map];congr 1
 refine List.map_congr_left fun x hx=>?_
 obtain⟨i,hi,rfl⟩:=List.getElem_of_mem hx;simp only [Function.comp];show D.agg [T f[i].1,I f[i].2]=D.agg [T f[i].1,I (sg f f[i].1)]
 rw [YA h hi]
open Classical in
def qi (cs:List ByteArray) (w:ByteArray):Option (List Nat):=if h:∃r,Sets cs (aM w) [] r then h.choose else none
theorem Lp {cs:List ByteArray} (hc:Codes cs) (w:ByteArray):Sets cs (aM w) [] (qi cs w):=by
 have h:=GC hc _ (aM w) [] (ZT _);unfold qi;rw [dif_pos h];exact h.choose_spec
theorem EQ {cs:List ByteArray} (hc:Codes cs) {w:ByteArray} {l:List Nat} (h:qi cs w=some l):(∀i∈l,i<cs.length)∧l.length≤w.size:=by
 have:=Vh hc (Lp hc w) (by simp) l h;rw [aau,aat] at this;exact this
theorem Vz {f:List Srt} (h:FntW f) (w:ByteArray) (hs:w.size≤1000):iM [srs f,T w]=Ao (qi (cds f) w):=by
 rw [Tw h];have:=h.ln;exact ET (sg f) h.cod (by simp [cds];omega) w hs (Lp h.cod w)
theorem NM {f:List Srt} (h:FntW f) (w:ByteArray) (hs:w.size≤1000):kG [srs f,T w]=Ao (qi (cds f) w):=by
 rw [Tw h];have:=h.ln;exact My (sg f) h.cod (by simp [cds];omega) w hs (Lp h.cod w)
abbrev Stg:=List Bx × List ByteArray
abbrev bR (x:Stg):D:=.agg [bxs x.1,txs x.2]
theorem DA {cs:List ByteArray} {r:List Nat} {i:Nat} (hi:i<r.length):bQ cs (r.take (i+1))=bQ cs (r.take i)++[cs.getD r[i] ZJ]:=by
 unfold bQ;rw [ZU hi,aab];rfl
theorem lG (cs:List ByteArray) (r:List Nat):(bQ cs r).length=r.length:=by simp [bQ]
theorem Wx {r:List Nat} {i:Nat} (hi:i<r.length):aI 1 (ju r) (I (i:Int))=some [I (r[i]:Int)]:=by simp [hi]
theorem QH {f:List Srt} {k:Nat} (hk:k<f.length):(cds f).getD k ZJ=f[k].1:=by simp [cds,hk]
def dsR (f:List Srt) (bx:List Bx) (st:List ByteArray) (u:ByteArray):Option Stg:=(qi (cds f) u).bind fun r =>
 if mvB (-1) bx (bQ (cds f) r)=true∧iz (mvR (-1) bx (bQ (cds f) r)) (st++bQ (cds f) r)=true then some (mvR (-1) bx (bQ (cds f) r),st++bQ (cds f) r) else none
theorem ut (st:List ByteArray) (h:st.length≤1048576):mv [txs st]=some (.ret [txs st] []):=by
 rw [IY];have e:bY 1 16 (.arr 1 []) (txs st)=some (txs st):=AE (l:=[]) (m:=st) (by simp;omega);have hc:dq (txs st)=some (txs st):=fj fun _=>rfl
 simp -implicitDefEqProofs only [dw,ZG,hc,e]
theorem SW (by_:Int) (l:List Bx) (cs:List ByteArray):(mvR by_ l cs).length≤l.length:=by
 unfold mvR;split
 ·rw [vD]
  exact ZT _
 ·simp
theorem AD {by_:Int} {l:List Bx} {cs:List ByteArray} (h:kz l):kz (mvR by_ l cs):=by
 unfold mvR;split
 ·exact Dd h (iL _ _ _ _)
 ·exact⟨by simp,fun x hx=>by simp at hx⟩
theorem qs (x:Stg) (h:kz x.1) (hs:x.2.length≤1048576):gZ [bR x]=some (.ret [B (iz x.1 x.2)] []):=by
 rw [Ia];have hb:bE 2 (bR x)=some (bR x):=by simp [bE]
 have e:=oK x.1 x.2 h hs;simp -implicitDefEqProofs [hb,e];rfl
theorem rA (x:Stg) (h:kz x.1) (hs:x.2.length≤1048576):gr [bR x]=some (.ret [B (iz x.1 x.2)] []):=by
 rw [CB];have hb:bE 2 (bR x)=some (bR x):=by simp [bE]
 have e:=nb x.1 x.2 h hs;simp -implicitDefEqProofs [hb,e];rfl
theorem Dq {f:List Srt} {r:List Nat} (hr:∀k∈r,k<f.length) (hl:r.length≤1048576) {i:Nat} (hi:i<r.length) {K:D→D→Option Out} :
    ((ZH D.ptr (aI 1 (ju r) (I (i:Int)))).bind fun z=>((ldD false 1 z).bind bq).bind fun z =>
     (ZH D.ptr (aI 2 (srs f) z)).bind fun z=>(vW 0 z).bind fun z=>((ldD false 1 z).bind bq).bind fun z=>(ay 1 [z]).bind fun a=>(dq a).bind fun b=>(bY 1 16 (txs (bQ (cds f) (r.take i))) b).bind fun y =>
     (bin BinOp.add false [] (I (i:Int)) (D.v (aav ZE 1))).bind fun z=>K y z)=K (txs (bQ (cds f) (r.take (i+1)))) (I ((i:Int)+1)):=by
  have hk:=hr r[i] (ZN hi);have hwi:ZE.wrap ((i:Int)+1)=(i:Int)+1:=ae (by omega) (by omega);have e1:=Wx hi;have e2:=FA hk;have e3:=Xs f[r[i]].1;have e4:=Yf f[r[i]].1;have e5:=AE (l:=bQ (cds f) (r.take i)) (m:=[f[r[i]].1]) (by rw [lG,ZW];simp;omega);have ev:∀a:Int,bq (I a)=some (I a):=fun _=>rfl
  have ev2:∀a:ByteArray,bq (T a)=some (T a):=fun _=>rfl
  rw [DA hi,QH hk];simp -implicitDefEqProofs only [e1,aaP,ZG,fS,eJ,ev,e2,He,aak,ev2,e3,e4,e5,bZ,hwi]
theorem KZ (f:List Srt) (x:Stg) (u:ByteArray) (hf:FntW f) (hb:kz x.1) (hs:x.2.length≤1000) (hu:u.size≤1000):nP [srs f,bR x,T u]=some (.ret [bR ((dsR f x.1 x.2 u).getD ([],[])),B (dsR f x.1 x.2 u).isSome] []):=by
 obtain⟨bx,st⟩:=x;simp only at hb hs ⊢;rw [Lr];have hbx:bE 2 (bR (bx,st))=some (bR (bx,st)):=by simp [bE]
 have et:=NM hf u hu;unfold Ao at et;unfold dsR;have z0:stD 2 (.agg [.arr 4 [],.arr 1 []]) (.ref 0 0) (.agg [.arr 4 [],.arr 1 []])=some (.agg [.arr 4 [],.arr 1 []]):=by simp
 have z1:cO [] [D.arr 4 [],D.arr 1 []] []=some (.agg [.arr 4 [],.arr 1 []]):=rfl;have z2:ba true 2 0 (.agg [.arr 4 [],.arr 1 []])=some (.agg [.arr 4 [],.arr 1 []]):=by simp
 cases hr:qi (cds f) u with
 | none =>
  rw [hr] at et;simp -implicitDefEqProofs [hbx,et,z0,z1,z2,aF,cv]
 | some r =>
  rw [hr] at et;obtain⟨hlt,hlen⟩:=EQ hf.cod hr;have hlt':∀k∈r,k<f.length:=fun k hk=>by have:=hlt k hk;simpa [cds] using this
  have hrl:r.length≤1000:=by omega
  simp only [aaB,Option.isSome_some] at et;simp -implicitDefEqProofs only [hbx,ZG,et,bd,ta0,tc0,tv1,lH,aax,bt,aai,if_false,aS,ZF];refine ax _ (dn r.length (fun i=>[srs f,bR (bx,st),D.agg [D.arr 4 [],D.arr 1 []],txs (bQ (cds f) (r.take i)),ju r,I (r.length:Int),I (i:Int)]) (.ext 0 [bR (bx,st),D.agg [D.arr 4 [],D.arr 1 []],txs (bQ (cds f) r)]) (fun i hi=>?_) ?_ rfl rfl) ?_
  ·have hii:(i:Int)<(r.length:Int):=by omega
   simp -implicitDefEqProofs only [aE,aX,bp,ZG,decide_eq_true hii,bt,if_true];exact Dq hlt' (by omega) hi (K:=fun y z=>some (Out.nrm [srs f,bR (bx,st),D.agg [D.arr 4 [],D.arr 1 []],y,ju r,I (r.length:Int),z]))
  ·simp
  ·have hcl:=lG (cds f) r
   generalize bQ (cds f) r=cs at *;have ea:=oK bx cs hb (by omega);have eo:=ut st (by omega);have eap:=AE (l:=st) (m:=cs) (by omega);have hoe:(oH bx cs&&dY bx&&decide ((cs.length:Int)≤60))=iz bx cs:=rfl;rw [hoe] at ea;cases hok:iz bx cs
   ·rw [hok] at ea
    have hmv:mvB (-1) bx cs=false:=by unfold mvB;rw [hok];rfl
    rw [hmv];simp -implicitDefEqProofs [ea,z0,z1,z2]
   ·rw [hok] at ea
    have em:=AP bx cs (-1) hb (by omega) hok;have eg:=qs (mvR (-1) bx cs,st++cs) (AD hb) (by simp;omega);generalize hmr:mvR (-1) bx cs=mr at *;have y1:cO [(0,1),(1,1)] [D.arr 4 [],D.arr 1 []] [bxs mr,txs (st++cs)]=some (bR (mr,st++cs)):=by simp [cO,iG]
    have y2:stD 2 (.agg [.arr 4 [],.arr 1 []]) (.ref 0 0) (bR (mr,st++cs))=some (bR (mr,st++cs)):=by simp
    have y3:ba true 2 0 (bR (mr,st++cs))=some (bR (mr,st++cs)):=by simp
    cases hmv:mvB (-1) bx cs
    ·rw [hmv] at em
     simp -implicitDefEqProofs [ea,em,eo,eap,y1,y2,y3,z0,z1,z2,aF,cv]
    ·rw [hmv] at em
     cases hgd:iz mr (st++cs)
     ·rw [hgd] at eg
      simp -implicitDefEqProofs [ea,em,eo,eap,y1,y2,y3,z0,z1,z2,aF,cv,eg]
     ·rw [hgd] at eg
      simp -implicitDefEqProofs [ea,em,eo,eap,y1,y2,y3,z0,z1,z2,aF,cv,eg]
set_option maxRecDepth 100000
theorem FM (f:List Srt) (x:Stg) (u:ByteArray) (hf:FntW f) (hb:kz x.1) (hs:x.2.length≤1000) (hu:u.size≤1000):lk [srs f,bR x,T u]=some (.ret [bR ((dsR f x.1 x.2 u).getD ([],[])),B (dsR f x.1 x.2 u).isSome] []):=by
 obtain⟨bx,st⟩:=x;simp only at hb hs ⊢;rw [Hg];have hbx:bE 2 (bR (bx,st))=some (bR (bx,st)):=by simp [bE]
 have et:=Vz hf u hu;unfold Ao at et;unfold dsR;have z0:stD 2 (.agg [.arr 4 [],.arr 1 []]) (.ref 0 0) (.agg [.arr 4 [],.arr 1 []])=some (.agg [.arr 4 [],.arr 1 []]):=by simp
 have z1:cO [] [D.arr 4 [],D.arr 1 []] []=some (.agg [.arr 4 [],.arr 1 []]):=rfl;have z2:ba true 2 0 (.agg [.arr 4 [],.arr 1 []])=some (.agg [.arr 4 [],.arr 1 []]):=by simp
 have hrl:((qi (cds f) u).getD []).length≤1000∧∀k∈(qi (cds f) u).getD [],k<f.length:=by
  cases hr:qi (cds f) u with
  | none=>exact⟨by simp,fun k hk=>by simp at hk⟩
  | some r =>
   obtain⟨hlt,hlen⟩:=EQ hf.cod hr;exact⟨by simp only [aaB];omega,fun k hk=>by have:=hlt k hk;simpa [cds] using this⟩
 obtain⟨hrl,hlt'⟩:=hrl;obtain⟨r,hre⟩:∃r,r=(qi (cds f) u).getD []:=⟨_,rfl⟩
 rw [←hre] at hrl hlt' et;simp -implicitDefEqProofs only [hbx,ZG,et,bd,ta0,tc0,tv1,aS,ZF,dw];refine ax _ (dn r.length (fun i=>[srs f,bR (bx,st),D.agg [D.arr 4 [],D.arr 1 []],B (qi (cds f) u).isSome,txs (bQ (cds f) (r.take i)),ju r,I (r.length:Int),I (i:Int)]) (.ext 0 [bR (bx,st),D.agg [D.arr 4 [],D.arr 1 []],B (qi (cds f) u).isSome,txs (bQ (cds f) r)]) (fun i hi=>?_) ?_ rfl rfl) ?_
 ·have hii:(i:Int)<(r.length:Int):=by omega
  simp -implicitDefEqProofs only [aE,aX,bp,ZG,decide_eq_true hii,bt,if_true];exact Dq hlt' (by omega) hi (K:=fun y z=>some (Out.nrm [srs f,bR (bx,st),D.agg [D.arr 4 [],D.arr 1 []],B (qi (cds f) u).isSome,y,ju r,I (r.length:Int),z]))
 ·simp
 ·have hcl:=lG (cds f) r
  cases hr:qi (cds f) u with
  | none =>
   simp -implicitDefEqProofs [z0,z1,z2]
  | some r2 =>
   rw [hr,aaB] at hre;subst hre;simp only [ZG];generalize bQ (cds f) r=cs at *;have ea:=LW bx cs hb (by omega);have eo:bY 1 16 (.arr 1 []) (txs st)=some (txs st):=AE (l:=[]) (m:=st) (by simp;omega);have ec:dq (txs st)=some (txs st):=fj fun _=>rfl
   have eap:=AE (l:=st) (m:=cs) (by omega);have eg:=rA (mvR (-1) bx cs,st++cs) (AD hb) (by simp;omega);generalize hmr:mvR (-1) bx cs=mr at *;have y1:cO [(0,1),(1,1)] [D.arr 4 [],D.arr 1 []] [bxs mr,txs (st++cs)]=some (bR (mr,st++cs)):=by simp [cO,iG]
   have y2:stD 2 (.agg [.arr 4 [],.arr 1 []]) (.ref 0 0) (bR (mr,st++cs))=some (bR (mr,st++cs)):=by simp
   have y3:ba true 2 0 (bR (mr,st++cs))=some (bR (mr,st++cs)):=by simp
   cases hmv:mvB (-1) bx cs
   ·rw [hmv] at ea
    simp -implicitDefEqProofs [ea,eo,ec,eap,y1,y2,y3,z0,z1,z2,aF,cv,dw]
   ·rw [hmv] at ea
    cases hgd:iz mr (st++cs)
    ·rw [hgd] at eg
     simp -implicitDefEqProofs [ea,eo,ec,eap,y1,y2,y3,z0,z1,z2,aF,cv,eg,dw]
    ·rw [hgd] at eg
     simp -implicitDefEqProofs [ea,eo,ec,eap,y1,y2,y3,z0,z1,z2,aF,cv,eg,dw]
def swR (f:List Srt) (x:Stg) (u:ByteArray):Option Stg:=if wh f=true∧iz x.1 x.2=true∧eK u 1 16=true then dsR f x.1 x.2 u else none
theorem GE (f:List Srt) (x:Stg) (u:ByteArray) (hfi:FIn f) (hb:kz x.1) (hs:x.2.length≤1000) (hu:u.size≤1000):kN [srs f,bR x,T u]=some (.ret [bR ((swR f x u).getD ([],[])),B (swR f x u).isSome] []):=by
 rw [FD];have hbx:bE 2 (bR x)=some (bR x):=by simp [bE]
 have z0:stD 2 (.agg [.arr 4 [],.arr 1 []]) (.ref 0 0) (.agg [.arr 4 [],.arr 1 []])=some (.agg [.arr 4 [],.arr 1 []]):=by simp
 have z1:cO [] [D.arr 4 [],D.arr 1 []] []=some (.agg [.arr 4 [],.arr 1 []]):=rfl;have z2:ba true 2 0 (.agg [.arr 4 [],.arr 1 []])=some (.agg [.arr 4 [],.arr 1 []]):=by simp
 have z3:∀y:Stg,ba true 2 0 (bR y)=some (bR y):=fun y=>by simp
 have z4:∀y:Stg,stD 2 (.agg [.arr 4 [],.arr 1 []]) (.ref 0 0) (bR y)=some (bR y):=fun y=>by simp
 have e1:=JH f hfi;have e2:=qs x hb (by omega);have e3:=Jb u (by omega);unfold swR;cases h1:wh f<;>rw [h1] at e1
 ·simp -implicitDefEqProofs [hbx,e1,z0,z1,z2]
 ·cases h2:iz x.1 x.2<;>rw [h2] at e2
  ·simp -implicitDefEqProofs [hbx,e1,e2,z0,z1,z2,z3]
  ·cases h3:eK u 1 16<;>rw [h3] at e3
   ·simp -implicitDefEqProofs [hbx,e1,e2,e3,z0,z1,z2,z3]
   ·have e4:=KZ f x u (FntW.of h1) hb hs hu
    generalize dsR f x.1 x.2 u=r at *;have z5:=z4 (r.getD ([],[]));have z6:=z3 (r.getD ([],[]));have z7:=z3 x;have t0:aF (.tup [bR (r.getD ([],[])),B r.isSome]) 0=some (bR (r.getD ([],[]))):=rfl;have t1:aF (.tup [bR (r.getD ([],[])),B r.isSome]) 1=some (B r.isSome):=rfl;simp only [if_true,and_self];generalize bR (r.getD ([],[]))=y at *;generalize bR x=dx at *;simp -implicitDefEqProofs only [gP,ZK,ZL,ZM,hbx,e1,e2,e3,e4,z7,t0,t1,z5,z6]
theorem Fo (f:List Srt) (x:Stg) (u:ByteArray) (hfi:FIn f) (hb:kz x.1) (hs:x.2.length≤1000) (hu:u.size≤1000):li [srs f,bR x,T u]=some (.ret [bR ((swR f x u).getD ([],[])),B (swR f x u).isSome] []):=by
 rw [GN];have hbx:bE 2 (bR x)=some (bR x):=by simp [bE]
 have z0:stD 2 (.agg [.arr 4 [],.arr 1 []]) (.ref 0 0) (.agg [.arr 4 [],.arr 1 []])=some (.agg [.arr 4 [],.arr 1 []]):=by simp
 have z1:cO [] [D.arr 4 [],D.arr 1 []] []=some (.agg [.arr 4 [],.arr 1 []]):=rfl;have z2:ba true 2 0 (.agg [.arr 4 [],.arr 1 []])=some (.agg [.arr 4 [],.arr 1 []]):=by simp
 have z3:∀y:Stg,ba true 2 0 (bR y)=some (bR y):=fun y=>by simp
 have z4:∀y:Stg,stD 2 (.agg [.arr 4 [],.arr 1 []]) (.ref 0 0) (bR y)=some (bR y):=fun y=>by simp
 have e1:=JF f hfi;have e2:=rA x hb (by omega);have e3:=JK u (by omega);unfold swR;cases h1:wh f<;>rw [h1] at e1
 ·simp -implicitDefEqProofs [hbx,e1,z0,z1,z2]
 ·cases h2:iz x.1 x.2<;>rw [h2] at e2
  ·simp -implicitDefEqProofs [hbx,e1,e2,z0,z1,z2,z3]
  ·cases h3:eK u 1 16<;>rw [h3] at e3
   ·simp -implicitDefEqProofs [hbx,e1,e2,e3,z0,z1,z2,z3]
   ·have e4:=FM f x u (FntW.of h1) hb hs hu
    generalize dsR f x.1 x.2 u=r at *;have z5:=z4 (r.getD ([],[]));have z6:=z3 (r.getD ([],[]));have z7:=z3 x;have t0:aF (.tup [bR (r.getD ([],[])),B r.isSome]) 0=some (bR (r.getD ([],[]))):=rfl;have t1:aF (.tup [bR (r.getD ([],[])),B r.isSome]) 1=some (B r.isSome):=rfl;simp only [if_true,and_self];generalize bR (r.getD ([],[]))=y at *;generalize bR x=dx at *;simp -implicitDefEqProofs only [gP,ZK,ZL,ZM,hbx,e1,e2,e3,e4,z7,t0,t1,z5,z6]
theorem TQ {f:List Srt} {x y:Stg} {u:ByteArray} (hb:kz x.1) (hs:x.2.length≤1000) (hu:u.size≤1000) (h:swR f x u=some y):kz y.1∧y.1.length≤x.1.length∧y.2.length≤2000:=by
 unfold swR at h;split at h
 ·rename_i hc
  unfold dsR at h;cases hr:qi (cds f) u with
  | none=>rw [hr] at h;cases h
  | some r =>
   rw [hr,ZG] at h;split at h
   ·cases h
    obtain⟨_,hlen⟩:=EQ (Qx hc.1) hr;refine⟨AD hb,SW _ _ _,?_⟩
    simp only [aac,lG];omega
   ·cases h
 ·cases h
theorem Uc {f:List Srt} {bx:List Bx} {y:Stg} {u:ByteArray} (hb:kz bx) (hu:u.size≤1000) (h:swR f (bx,[]) u=some y):er [bR y]=some (.ret [bR (bx,[]),B true] []):=by
 obtain⟨h1,_,h3⟩:=TQ (x:=(bx,[])) hb (by simp) hu h;have hp:=Nx y.1 y.2 h1 (by omega);have hk:mvB 1 y.1 y.2=true∧mvR 1 y.1 y.2=bx:=by
  unfold swR at h;split at h
  ·unfold dsR at h
   cases hr:qi (cds f) u with
   | none=>rw [hr] at h;cases h
   | some r =>
    rw [hr,ZG] at h;split at h
    ·rename_i hc
     cases h;obtain⟨_,_,g3,g4⟩:=QK hc.1;exact⟨g3,g4⟩
    ·cases h
  ·cases h
 rw [hk.1,hk.2] at hp;rw [tS];have hbx:bE 2 (bR y)=some (bR y):=by simp [bE]
 have y1:cO [(0,1),(1,1)] [D.arr 4 [],D.arr 1 []] [bxs bx,.arr 1 []]=some (bR (bx,[])):=by simp [cO,iG]
 have y2:stD 2 (.agg [.arr 4 [],.arr 1 []]) (.ref 0 0) (bR (bx,[]))=some (bR (bx,[])):=by simp
 have y3:ba true 2 0 (bR (bx,[]))=some (bR (bx,[])):=by simp
 simp -implicitDefEqProofs [hbx,hp,y1,y2,y3,aF,cv,dw]
theorem Jk (l:List ByteArray) (ho:l.length≤1048576):lX [txs l,txs l]=some (.ret [B true] []):=by
 rw [Jc];simp -implicitDefEqProofs only [aS,ZF,ZG,nG,decide_true,aax,bt,aai,if_false];refine ax _ (dn l.length (fun i=>[txs l,txs l,I (l.length:Int),I (i:Int)]) (.ext 0 []) (fun i hi=>?_) ?_ rfl rfl) ?_
 ·have hw:ZE.wrap ((i:Int)+1)=(i:Int)+1:=ae (by omega) (by omega)
  simp -implicitDefEqProofs [hi,hw]
 ·simp
 ·simp
theorem Ea (x:Stg) (h1:x.1.length≤1048576) (h2:x.2.length≤1048576):jO [bR x,bR x]=some (.ret [B true] []):=by
 rw [DS];have hbx:bE 2 (bR x)=some (bR x):=by simp [bE]
 have e1:=xG x.1 h1;have e2:=Jk x.2 h2;simp -implicitDefEqProofs [hbx,e1,e2]
open Go Go.Proofs Go.V Go.RowKit
set_option maxRecDepth 100000
structure SetA (W:World) (B:Nat) (vB vS:Value) (x:Stg):Prop where
 ob:kb W 4 (bxs x.1) vB
 os:kb W 1 (txs x.2) vS
 gb:∀b,bh vB b→B≤b
 gs:∀b,bh vS b→B≤b
 dis:∀b,bh vB b→¬bh vS b
theorem SetA.below {W W':World} {B:Nat} {vB vS:Value} {x:Stg} (h:SetA W B vB vS x) (hB:Below W.heap.size W W'):SetA W' B vB vS x:=⟨ie h.ob hB,ie h.os hB,h.gb,h.gs,h.dis⟩
theorem SetA.nil (W:World) (B:Nat):SetA W B (.slice none 0 0) (.slice none 0 0) ([],[]):=⟨EL W 4,EL W 1,(fun b hb=>by cases hb),(fun b hb=>by cases hb),fun b hb=>by cases hb⟩
theorem Qz {w:World} {F:Nat→Prop}:∀(r:List Nat) (us:List Value),bW w F (r.map fun(i:Nat)=>I (i:Int)) us→us=r.map fun(i:Nat)=>.int .i64 (i:Int)
 | [],us,h=>aW.1 h
 | x::l,us,h=>by
  obtain⟨v1,v2,rfl,h1,h2⟩:=aA.1 h;simp only [RepC] at h1;rw [Qz l v2 h2,h1.1];rfl
theorem Rx {W:World} {r:List Nat} {y:Value} (h:kb W 1 (ju r) y) (hr:r≠[]):∃g o c,y = .slice (some ⟨g,o,none⟩) r.length c∧∀(i:Nat) (hi:i<r.length),W.cell? ⟨g,o+i,none⟩=some (.int .i64 (r[i]:Int)):=by
 obtain⟨l,e,hw,⟨rfl,rfl⟩ | ⟨g,o,c,us,cs,t,rfl,hc,hg,hs,hrl,hu,ho⟩⟩:=h
 ·exact absurd (by simpa using (D.arr.inj e).2) hr
 ·have e2:=(D.arr.inj e).2
  subst e2;have hus:=Qz r us hrl;subst hus;refine⟨g,o,c,by rw [ZF],fun i hi=>?_⟩
  rw [aar hg];exact hu i _ (by simp [hi])
theorem Sr {w:World} {F:Nat→Prop}:∀(f:List Srt) (us:List Value),bW w F (f.map sr) us→us=f.flatMap fun x=>[.string x.1,.int .i64 x.2]
 | [],us,h=>aW.1 h
 | x::l,us,h=>by
  obtain⟨v1,v2,rfl,h1,h2⟩:=aA.1 h;simp only [RepC,aA,aW] at h1;obtain⟨⟨u1,u2,rfl,⟨rfl,_⟩,u3,u4,rfl,⟨rfl,_⟩,rfl⟩,_⟩:=h1;rw [Sr l v2 h2];rfl
theorem NF:∀(f:List Srt) (i:Nat) (hi:i<f.length),(f.flatMap fun x=>[Value.string x.1,aav .i64 x.2])[i*2]?=some (.string f[i].1)
 | [],i,hi=>absurd hi (Nat.not_lt_zero _)
 | x::l,0,_=>rfl
 | x::l,i+1,hi=>by
  have hi':i<l.length:=by simpa using hi
  rw [show(i+1)*2=i*2+2 by omega];show(l.flatMap fun x=>[Value.string x.1,aav .i64 x.2])[i*2]?=some (.string l[i].1)
  exact NF l i hi'
theorem Gg {W:World} {F:Nat→Prop} {f:List Srt} {y:Value} (h:bf W F (srs f) y) (hf:f≠[]):∃g o c,y = .slice (some ⟨g,o,none⟩) f.length c∧F g∧∀(i:Nat) (hi:i<f.length),W.cell? ⟨g,o+i*2,none⟩=some (.string f[i].1):=by
 obtain⟨A,c,us,e1,hc,hr,hw,hA⟩:=h;have e1':=(List.cons.inj e1).1;have hus:=Sr f us hr;subst hus;obtain⟨b,o,rfl,hFb,hcell⟩:=hA (by simpa using hf);exact⟨b,o,c,by rw [e1',ZF],hFb,fun i hi=>hcell (i*2) _ (NF f i hi)⟩
theorem rK {fn:Func} {p u:Tmp} {W:World} {tmps:Array Value} {g:Nat} {cs:Array Value} {q:Value} (hfn:fn.results=#[.cell p 44,.tmp u]) (hp:tmps.getD p undef = .pointer (some ⟨g,0,none⟩)) (hq:tmps.getD u undef=q) (hg:W.heap[g]?=some (.cells cs 44 (0,0))) (hn:cs.size=2) :
  (results fn tmps).run Tryz.prog W = .ok (.tuple #[.agg cs,q]) W:=by
 rw [results_cell_tmp hfn,hp,hq];have h:=run_loadVar_row W g 44 44 cs (0,0) _ hg Tryz.underlying44 rfl (by rw [hn];kernel_rfl);simp [asAddr,h,Result.andThen]
theorem ci {W:World} {b t:Nat} {x y:Value} (q:W.heap[b]?=some (.cells #[x,y] t (0,0))):(W.cell? ⟨b,0,none⟩=some x∧W.cell? ⟨b,1,none⟩=some y)∧W.frozen? ⟨b,0,none⟩=false∧W.frozen? ⟨b,1,none⟩=false :=
 ⟨⟨by rw [aar q];rfl,by rw [aar q];rfl⟩,aaK q 0,aaK q 1⟩
theorem Rz {W:World} {b t B:Nat} {x y:Value} (q:W.heap[b]?=some (.cells #[x,y] t (0,0))) (hB:B≤b) (x' y':Value) :
  ((W.setCell ⟨b,0,none⟩ x').setCell ⟨b,1,none⟩ y').heap[b]?=some (.cells #[x',y'] t (0,0))∧Below B W ((W.setCell ⟨b,0,none⟩ x').setCell ⟨b,1,none⟩ y'):=by
 refine⟨?_,((Below.refl B W).setCell hB _).setCell hB _⟩
 have h1:=heap_setCell_same _ b 0 _ _ x' q;have h2:=heap_setCell_same _ b 1 _ _ y' h1;rw [h2];rfl
section
variable {W:World} {F F':Nat→Prop}
theorem PV {f:List Srt} {u:ByteArray} (hf:FntW f) (hu:u.size≤1000) {y:Value} (hr:bf W F (srs f) y) (hF:∀b,F b→b<W.heap.size) :
  Calls Tryz.prog 99 #[y,.string u] W (Yj W 1 (ju ((qi (cds f) u).getD [])) (.bool (qi (cds f) u).isSome)) :=
 Hl (ds:=[srs f,T u]) (F:=F) (ZP Tryz.func99 (by kernel_rfl) rfl) Av (by have:=NM hf u hu;unfold Ao at this;exact this) (by simp)
  (show cR W F _ (.dat 2) (srs f) y∧cR W _ _ (.dat 0) (T u) (.string u)∧True from⟨.inr hr,.inr (cX.2 ⟨rfl,rfl⟩),trivial⟩) hF
theorem LA {bx:List Bx} {cs:List ByteArray} (hb:kz bx) (hc:cs.length≤1048576) {y y':Value} (hr:bf W F (bxs bx) y) (hF:∀b,F b→b<W.heap.size) (hr':bf W F' (txs cs) y') (hF':∀b,F' b→b<W.heap.size) :
  Calls Tryz.prog 97 #[y,y'] W fun e W'=>e = .returned (.bool (iz bx cs))∧Below W.heap.size W W' :=
 fd (ZP Tryz.func97 (by kernel_rfl) rfl) oh fu rfl (show fu [bxs bx,txs cs]=some (.ret [B (iz bx cs)] []) from oK bx cs hb hc) rfl (F:=fun b=>F b∨F' b) ga
  (show cR W _ _ (.dat 2) (bxs bx) y∧cR W _ _ (.dat 2) (txs cs) y'∧True from⟨.inr (aK (fun _ h=>.inl h) (fun _ _=>rfl) hr),.inr (aK (fun _ h=>.inr h) (fun _ _=>rfl) hr'),trivial⟩) (fun b hb=>hb.elim (hF b) (hF' b))
theorem MN {bx:List Bx} {cs:List ByteArray} (hb:kz bx) (hc:cs.length≤1048576) (ho:iz bx cs=true) {y y':Value} (hr:bf W F (bxs bx) y) (hF:∀b,F b→b<W.heap.size) (hr':bf W F' (txs cs) y') (hF':∀b,F' b→b<W.heap.size) :
  Calls Tryz.prog 100 #[y,y',.int .i64 (-1)] W (Yj W 4 (bxs (mvR (-1) bx cs)) (.bool (mvB (-1) bx cs))) :=
 Hl (ds:=[bxs bx,txs cs,I (-1)]) (F:=fun b=>F b∨F' b) (ZP Tryz.func100 (by kernel_rfl) rfl) wW (AP bx cs (-1) hb hc ho) (by simp)
  (show cR W _ _ (.dat 2) (bxs bx) y∧cR W _ _ (.dat 2) (txs cs) y'∧cR W _ _ (.dat 0) (I (-1)) (.int .i64 (-1))∧True from⟨.inr (aK (fun _ h=>.inl h) (fun _ _=>rfl) hr),.inr (aK (fun _ h=>.inr h) (fun _ _=>rfl) hr'),.inr (cX.2 ⟨rfl,rfl⟩),trivial⟩) (fun b hb=>hb.elim (hF b) (hF' b))
theorem Dr {st:List ByteArray} (hc:st.length≤1048576) {y:Value} (hr:bf W F (txs st) y) (hF:∀b,F b→b<W.heap.size) :
  Calls Tryz.prog 89 #[y] W (YL W 1 (txs st)) :=
 PC (ds:=[txs st]) (F:=F) (ZP Tryz.func89 (by kernel_rfl) rfl) xf (ut st hc) (by simp)
  (show cR W _ _ (.dat 2) (txs st) y∧True from⟨.inr hr,trivial⟩) hF
theorem Vp {x:Stg} {vB vS:Value} (h1:bf W F (bxs x.1) vB) (h2:bf W F (txs x.2) vS):bf W F (bR x) (.agg #[vB,vS]):=by
 refine⟨[_,_],rfl,?_⟩
 simp only [RepC];exact⟨aA.2 ⟨[_],[_],rfl,h1,aA.2 ⟨[_],[],rfl,h2,aW.2 rfl⟩⟩,rfl⟩
theorem ML {x:Stg} (hb:kz x.1) (hc:x.2.length≤1048576) {vB vS:Value} (h1:bf W F (bxs x.1) vB) (h2:bf W F (txs x.2) vS) (hF:∀b,F b→b<W.heap.size) :
  Calls Tryz.prog 50 #[.agg #[vB,vS]] W fun e W'=>e = .returned (.bool (iz x.1 x.2))∧Below W.heap.size W W' :=
 fd (ZP Tryz.func50 (by kernel_rfl) rfl) qh gZ rfl (qs x hb hc) rfl (F:=F) ga
  (show cR W _ _ (.dat 2) (bR x) (.agg #[vB,vS])∧True from⟨.inr (Vp h1 h2),trivial⟩) hF
end
end Go.Proofs.YtccaheogjpfhjaaGreat

end
