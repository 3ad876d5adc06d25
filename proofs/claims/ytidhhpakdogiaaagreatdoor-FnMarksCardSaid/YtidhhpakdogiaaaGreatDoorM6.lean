/-
  A part of the proof: contracts and plain forms of functions beneath the statement, made small by a program (names shortened, what is not needed left out).
-/
import Derived.Test.YtidhhpakdogiaaaGreatDoorRows
import Derived.Test.YtidhhpakdogiaaaGreatDoorTie
import Derived.Test.YtidhhpakdogiaaaGreatDoorCards
import Derived.Test.YtidhhpakdogiaaaGreatDoorM5
import Derived.Maps.AppendAt
import Derived.Lib.Builder
import Derived.BigCall
open Int renaming reduceLT → GK, reduceLE → GL, reduceEq → GM, eq_ofNat_of_zero_le → GU, lt_irrefl → Hq, toNat_natCast → Hv, le_refl → Hx, not_lt → HB, not_le → HY
open Bool renaming true_and → GN, false_and → GO, and_eq_true → GT, false_eq_true → Hn, and_false → Hu, and_true → Ia
open ByteArray renaming size_append → GP, size_extract → GY
open Go.IntKind renaming i64 → GQ
open List renaming getElem_mem → GR, length_cons → GS, range → GV, length_range → GX, length_map → Ha, length_nil → He, filter_cons_of_neg → Hf, all_eq_true → Hg, length_append → Hh, getElem?_eq_some_iff → Hi, getElem?_eq_getElem → Hj, mem_cons → Hl, mem_append → Hm, getD_eq_getElem?_getD → Hp, map_append → Hr, mem_filter → Hs, flatMap_cons → Hw, range' → Hy, not_mem_nil → Hz, length_filter_le → HA, nil_append → HC, foldl_cons → HD, takeWhile_cons → HG, length_range' → HJ, append_assoc → HL, getElem?_append_left → HM, take_of_length_le → HU, mem_of_mem_drop → HZ, getD_cons_zero → Ib, mem_singleton → Ie, length_set → Ig
open Array renaming getElem?_eq_some_iff → GW
open Option renaming bind_some → GZ, map → Ho, getD_some → HN, bind_eq_some_iff → HR
open Go.Value renaming string → Hb, ownBlock → HV, int → Ih
open Nat renaming zero_le → Hc, zero_add → HE, le_refl → HH, le_trans → Ic
open Go.Lib renaming indexAny → Hd, indexByte → Hk, cell_of_heap → HQ
open Go.Sort renaming insertionSort → Ht, putCells → HP
open Go.Proofs renaming enters_of → HF
open Option.some renaming injEq → HK
open List.cons renaming injEq → HS
open UInt8 renaming ofNat → HT
open Classical renaming choose_spec → HX
set_option maxRecDepth 100000
set_option linter.unusedSimpArgs false
set_option linter.unusedVariables false
noncomputable section
namespace Go.Proofs.YtidhhpakdogiaaaGreatDoor
open Go Go.V
set_option maxRecDepth 100000
theorem tv0 (v:Value) (ds:List D):bB (.tup (.v v::ds)) 0=some (.v v):=rfl
theorem tv1 (a:D) (v:Value) (ds:List D):bB (.tup (a :: .v v::ds)) 1=some (.v v):=rfl
theorem ta0 (z:Nat) (l:List D) (ds:List D):bB (.tup (.arr z l::ds)) 0=some (.arr z l):=rfl
theorem ta1 (a:D) (z:Nat) (l:List D) (ds:List D):bB (.tup (a :: .arr z l::ds)) 1=some (.arr z l):=rfl
theorem tg0 (l:List D) (ds:List D):bB (.tup (.agg l::ds)) 0=some (.agg l):=rfl
theorem tc0 (a:D) (ds:List D):oN (.tup (a::ds)) 0 = .tup (.bad::ds):=rfl
theorem iK {β:Type} (p:β→Bool):∀(l:List β) (i:Nat),uQ (fun _ b=>p b) i l=l.all p
 | [],_=>rfl
 | b::l,i=>by
  simp only [uQ,List.all_cons];rw [iK p l (i+1)]
def plB (b:UInt8):Bool:=decide ((b.toNat:Int)=32)||az b
def mw (s:ByteArray) (lo hi:Int):Bool:=uQ (fun _ b=>plB b) 0 (ah s)&&decide (lo≤(s.size:Int)∧(s.size:Int)≤hi)
theorem iY (s:ByteArray) (m n:Int) (h:s.size≤9223372036854775807):bv [T s,I m,I n]=some (.ret [B (mw s m n)] []):=by
 rw [oS];rw [aL] at h;refine aP _ (jd (ah s) (fun i=>[T s,I m,I n,I i]) (fun _ b=>plB b) (.ret [B false] []) (.ext 0 [T s,I m,I n]) (fun i hi=>?_) ?_ rfl rfl rfl) ?_
 ·have hw:GQ.wrap ((i:Int)+1)=(i:Int)+1:=aA (by omega) (by omega)
  by_cases h0:(((ah s)[i]).toNat:Int)=32
  ·simp -implicitDefEqProofs [aL,cK,hi,hw,plB,az,h0]
  by_cases h1:97≤(((ah s)[i]).toNat:Int)
  ·by_cases h2:(((ah s)[i]).toNat:Int)≤122
   ·simp -implicitDefEqProofs [aL,cK,hi,hw,plB,az,h0,h1,h2,HB.2 h1,HB.2 h2]
   ·simp -implicitDefEqProofs [aL,cK,hi,hw,plB,az,h0,h1,h2,HB.2 h1,HY.1 h2]
  ·simp -implicitDefEqProofs [aL,cK,hi,hw,plB,az,h0,h1,HY.1 h1]
 ·simp -implicitDefEqProofs [aL]
 ·by_cases hg:uQ (fun _ b=>plB b) 0 (ah s)=true<;>simp -implicitDefEqProofs [hg,mw,gz]
theorem jY (s:ByteArray) (m n:Int) (h:s.size≤9223372036854775807):bL [T s,I m,I n]=some (.ret [B (mw s m n)] []):=by
 rw [qN];rw [aL] at h;refine aP _ (jd (ah s) (fun i=>[T s,I m,I n,I i]) (fun _ b=>plB b) (.ret [B false] []) (.ext 0 [T s,I m,I n]) (fun i hi=>?_) ?_ rfl rfl rfl) ?_
 ·have hw:GQ.wrap ((i:Int)+1)=(i:Int)+1:=aA (by omega) (by omega)
  by_cases h0:(((ah s)[i]).toNat:Int)=32
  ·simp -implicitDefEqProofs [aL,cK,hi,hw,plB,az,h0]
  by_cases h1:97≤(((ah s)[i]).toNat:Int)
  ·by_cases h2:(((ah s)[i]).toNat:Int)≤122
   ·simp -implicitDefEqProofs [aL,cK,hi,hw,plB,az,h0,h1,h2,HB.2 h1,HB.2 h2]
   ·simp -implicitDefEqProofs [aL,cK,hi,hw,plB,az,h0,h1,h2,HB.2 h1,HY.1 h2]
  ·simp -implicitDefEqProofs [aL,cK,hi,hw,plB,az,h0,h1,HY.1 h1]
 ·simp -implicitDefEqProofs [aL]
 ·by_cases hg:uQ (fun _ b=>plB b) 0 (ah s)=true<;>simp -implicitDefEqProofs [hg,mw,cN]
structure LIn (l:List ByteArray):Prop where
 ln:l.length≤1000000
 sz:∀x∈l,x.size≤1000000
def pk (l:List ByteArray):Bool:=l.all (fun s=>mw s 0 40)&&decide (1≤(l.length:Int)∧(l.length:Int)≤12)
theorem kW {l:List ByteArray} {i:Nat} (h:i<l.length):aH 1 (txs l) (I (i:Int))=some [T l[i]]:=by simp [h]
theorem oV (s:ByteArray) (h:s.size≤9223372036854775807):dM [T s]=some (.ret [B (mw s 0 40)] []):=by
 rw [oz];simp -implicitDefEqProofs only [ai,GK,GL,GM,iY s 0 40 h]
theorem fx (l:List ByteArray) (h:LIn l):cd [txs l]=some (.ret [B (pk l)] []):=by
 rw [sO];have hl:=h.ln;simp -implicitDefEqProofs only [ai,GK,GL,GM];refine aP _ (jd l (fun i=>[txs l,txs l,I l.length,I i]) (fun _ s=>mw s 0 40) (.ret [B false] []) (.ext 0 [txs l]) (fun i hi=>?_) ?_ rfl rfl rfl) ?_
 ·have hi':(i:Int)<(l.length:Int):=by omega
  have hw:GQ.wrap ((i:Int)+1)=((i+1:Nat):Int):=by rw [aA (by omega) (by omega)];omega
  have hg:=kW hi;have hsz:=h.sz _ (GR hi);have h1:=oV l[i] (by omega);cases hc:mw l[i] 0 40<;>rw [hc] at h1<;>simp -implicitDefEqProofs only [ai,GK,GL,GM,hi',hg,h1,hw]
 ·have hlt:¬((l.length:Int)<(l.length:Int)):=by omega
  simp -implicitDefEqProofs only [ai,GK,GL,GM,hlt]
 ·have h2:=gz (l.length:Int) 1 12
  rw [iK];unfold pk;cases l.all (fun s=>mw s 0 40)
  ·simp -implicitDefEqProofs only [ai,GK,GL,GM,md,GO]
  ·simp -implicitDefEqProofs only [ai,GK,GL,GM,h2,GN]
theorem jI (l:List ByteArray) (h:LIn l):ef [txs l]=some (.ret [B (pk l)] []):=by
 rw [uK];have hl:=h.ln;simp -implicitDefEqProofs only [ai,GK,GL,GM];refine aP _ (jd l (fun i=>[txs l,txs l,I l.length,I i]) (fun _ s=>mw s 0 40) (.ret [B false] []) (.ext 0 [txs l]) (fun i hi=>?_) ?_ rfl rfl rfl) ?_
 ·have hi':(i:Int)<(l.length:Int):=by omega
  have hw:GQ.wrap ((i:Int)+1)=((i+1:Nat):Int):=by rw [aA (by omega) (by omega)];omega
  have hg:=kW hi;have hsz:=h.sz _ (GR hi);have h1:=jY l[i] 0 40 (by omega);cases hc:mw l[i] 0 40<;>rw [hc] at h1<;>simp -implicitDefEqProofs only [ai,GK,GL,GM,hi',hg,h1,hw]
 ·have hlt:¬((l.length:Int)<(l.length:Int)):=by omega
  simp -implicitDefEqProofs only [ai,GK,GL,GM,hlt]
 ·have h2:=cN (l.length:Int) 1 12
  rw [iK];unfold pk;cases l.all (fun s=>mw s 0 40)
  ·simp -implicitDefEqProofs only [ai,GK,GL,GM,md,GO]
  ·simp -implicitDefEqProofs only [ai,GK,GL,GM,h2,GN]
theorem ul (l:List ByteArray) (h:LIn l):fy [txs l]=some (.ret [B (pk l)] []):=by
 rw [tH];simp -implicitDefEqProofs only [ai,GK,GL,GM,jI l h]
abbrev mkD (x:Mk):D:=.agg [I x.1,I x.2.1,I x.2.2.1,T x.2.2.2]
abbrev mks (l:List Mk):D:=.arr 4 (l.map mkD)
theorem eL {l:List Mk} {i:Nat} (h:i<l.length):aH 4 (mks l) (I (i:Int))=some [I l[i].1,I l[i].2.1,I l[i].2.2.1,T l[i].2.2.2]:=by simp [h]
theorem bC (a b c:Int) (d:ByteArray):ao true 4 [I a,I b,I c,T d]=some (.agg [I a,I b,I c,T d]):=by simp
theorem ax (a b c:Int) (d:ByteArray) (a' b' c':Int) (d':ByteArray):stD 4 (.agg [I a',I b',I c',T d']) (.ref 0 0) (.agg [I a,I b,I c,T d])=some (.agg [I a,I b,I c,T d]):=by simp
theorem aJ (a b c:Int) (d:ByteArray):aX true 4 0 (.agg [I a,I b,I c,T d])=some (.agg [I a,I b,I c,T d]):=by simp
theorem cj (a b c:Int) (d:ByteArray):iS 4 (.agg [I a,I b,I c,T d])=some (.agg [I a,I b,I c,T d]):=by simp
theorem aT (a b c:Int) (d:ByteArray):bg (.agg [I a,I b,I c,T d])=some (.agg [I a,I b,I c,T d]):=by simp
def eF (m:Mk):Bool:=decide (0≤m.1∧m.1≤11)&&decide (0≤m.2.1∧m.2.1≤40)&&(if m.2.2.1=1∨m.2.2.1=4 then decide (m.2.2.2=⟨#[]⟩) else if m.2.2.1=2∨m.2.2.1=3 then mw m.2.2.2 1 10 else false)
theorem e0':D.v (Hb {data:={toList:=[]}})=T ⟨#[]⟩:=rfl
theorem fh (m:Mk) (h:m.2.2.2.size≤9223372036854775807):bY [mkD m]=some (.ret [B (eF m)] []):=by
 rw [oM];have h1:=gz m.1 0 11;have h2:=gz m.2.1 0 40;have h3:=iY m.2.2.2 1 10 h;unfold eF;by_cases c1:0≤m.1∧m.1≤11
 ·simp only [c1,and_self,decide_true] at h1
  by_cases c2:0≤m.2.1∧m.2.1≤40
  ·simp only [c2,and_self,decide_true] at h2
   by_cases k1:m.2.2.1=1
   ·simp -implicitDefEqProofs only [ai,GK,GL,GM,cj,h1,h2,c1,c2,k1,e0',dS,true_or,GN]
   by_cases k4:m.2.2.1=4
   ·simp -implicitDefEqProofs only [ai,GK,GL,GM,cj,h1,h2,c1,c2,k1,k4,e0',dS,or_true,GN]
   by_cases k2:m.2.2.1=2
   ·simp -implicitDefEqProofs only [ai,GK,GL,GM,cj,h1,h2,c1,c2,k1,k4,k2,e0',dS,or_false,false_or,true_or,GN,h3]
   by_cases k3:m.2.2.1=3
   ·simp -implicitDefEqProofs only [ai,GK,GL,GM,cj,h1,h2,c1,c2,k1,k4,k2,k3,e0',dS,or_false,false_or,or_true,GN,h3]
   simp -implicitDefEqProofs only [ai,GK,GL,GM,cj,h1,h2,c1,c2,k1,k4,k2,k3,e0',dS,or_self,GN]
  ·simp only [c2,decide_false] at h2
   simp -implicitDefEqProofs only [ai,GK,GL,GM,cj,h1,h2,c1,c2,GO,Hu]
 ·simp only [c1,decide_false] at h1
  simp -implicitDefEqProofs only [ai,GK,GL,GM,cj,h1,h2,c1,GO]
theorem gq (m:Mk) (h:m.2.2.2.size≤9223372036854775807):cV [mkD m]=some (.ret [B (eF m)] []):=by
 rw [uC];have h1:=cN m.1 0 11;have h2:=cN m.2.1 0 40;have h3:=jY m.2.2.2 1 10 h;unfold eF;by_cases c1:0≤m.1∧m.1≤11
 ·simp only [c1,and_self,decide_true] at h1
  by_cases c2:0≤m.2.1∧m.2.1≤40
  ·simp only [c2,and_self,decide_true] at h2
   by_cases k1:m.2.2.1=1
   ·simp -implicitDefEqProofs only [ai,GK,GL,GM,cj,h1,h2,c1,c2,k1,e0',dS,true_or,GN]
   by_cases k4:m.2.2.1=4
   ·simp -implicitDefEqProofs only [ai,GK,GL,GM,cj,h1,h2,c1,c2,k1,k4,e0',dS,or_true,GN]
   by_cases k2:m.2.2.1=2
   ·simp -implicitDefEqProofs only [ai,GK,GL,GM,cj,h1,h2,c1,c2,k1,k4,k2,e0',dS,or_false,false_or,true_or,GN,h3]
   by_cases k3:m.2.2.1=3
   ·simp -implicitDefEqProofs only [ai,GK,GL,GM,cj,h1,h2,c1,c2,k1,k4,k2,k3,e0',dS,or_false,false_or,or_true,GN,h3]
   simp -implicitDefEqProofs only [ai,GK,GL,GM,cj,h1,h2,c1,c2,k1,k4,k2,k3,e0',dS,or_self,GN]
  ·simp only [c2,decide_false] at h2
   simp -implicitDefEqProofs only [ai,GK,GL,GM,cj,h1,h2,c1,c2,GO,Hu]
 ·simp only [c1,decide_false] at h1
  simp -implicitDefEqProofs only [ai,GK,GL,GM,cj,h1,h2,c1,GO]
structure MIn (l:List Mk):Prop where
 ln:l.length≤1000000
 sz:∀x∈l,x.2.2.2.size≤1000000
def vg (lines:List ByteArray) (m:Mk):Int:=((lines.getD m.1.toNat ⟨#[]⟩).size:Int)
def okM (lines:List ByteArray) (m:Mk):Bool:=eF m&&(decide (m.1<lines.length)&&(decide (m.2.1≤vg lines m) && !(decide (m.2.1=vg lines m)&&(decide (m.2.2.1=1)||decide (m.2.2.1=3)))))
def kT (lines:List ByteArray) (l:List Mk):Bool:=l.all (okM lines)&&pk lines&&decide ((l.length:Int)≤20)
theorem Dg {m:Mk} (h:eF m=true):0≤m.1:=by
 unfold eF at h;simp only [GT,decide_eq_true_eq] at h;exact h.1.1.1
theorem gT (lines:List ByteArray) (l:List Mk) (hL:LIn lines) (h:MIn l):cL [txs lines,mks l]=some (.ret [B (kT lines l)] []):=by
 rw [se];have hl:=h.ln;have hll:=hL.ln;simp -implicitDefEqProofs only [ai,GK,GL,GM];refine aP _ (jd l (fun i=>[txs lines,mks l,mks l,I l.length,I i]) (fun _ m=>okM lines m) (.ret [B false] []) (.ext 0 [txs lines,mks l]) (fun i hi=>?_) ?_ rfl rfl rfl) ?_
 ·have hi':(i:Int)<(l.length:Int):=by omega
  have hw:GQ.wrap ((i:Int)+1)=((i+1:Nat):Int):=by rw [aA (by omega) (by omega)];omega
  have hg:=eL hi;have hsz:=h.sz _ (GR hi);generalize hm:l[i]=m at hg hsz;have h1:=fh m (by omega);unfold okM;cases hc:eF m
  ·rw [hc] at h1
   simp -implicitDefEqProofs only [ai,GK,GL,GM,hi',hg,bC,aT,e0',ax,aJ,h1,GO]
  ·rw [hc] at h1
   have hp:=Dg hc;by_cases c1:m.1<(lines.length:Int)
   ·obtain⟨n,hn⟩:=GU hp
    have hn2:n<lines.length:=by omega
    have hg2:=kW hn2;have c1':¬((lines.length:Int)≤m.1):=by omega
    have e:vg lines m=(lines[n].size:Int):=by
     unfold vg;rw [hn,Hv,Hp,Hj hn2,HN]
    have hsz2:=hL.sz _ (GR hn2);rw [e];rw [←hn] at hg2;by_cases c2:m.2.1≤(lines[n].size:Int)
    ·have c2':¬((lines[n].size:Int)<m.2.1):=by omega
     by_cases c3:m.2.1=(lines[n].size:Int)
     ·replace c3:=decide_eq_true c3
      by_cases k1:m.2.2.1=1
      ·replace k1:=decide_eq_true k1
       simp -implicitDefEqProofs only [ai,GK,GL,GM,hi',hg,bC,aT,e0',ax,aJ,h1,GN,c1,c1',hg2,c2,c2',c3,k1,Bool.true_or,Hq,Hx]
      ·by_cases k3:m.2.2.1=3
       ·replace k3:=decide_eq_true k3
        simp -implicitDefEqProofs only [ai,GK,GL,GM,hi',hg,bC,aT,e0',ax,aJ,h1,GN,c1,c1',hg2,c2,c2',c3,k1,k3,Bool.or_true,Bool.false_or,Hq,Hx]
       ·simp -implicitDefEqProofs only [ai,GK,GL,GM,hi',hg,bC,aT,e0',ax,aJ,h1,GN,c1,c1',hg2,c2,c2',c3,k1,k3,Bool.or_false,hw,Hq,Hx]
     ·simp -implicitDefEqProofs only [ai,GK,GL,GM,hi',hg,bC,aT,e0',ax,aJ,h1,GN,c1,c1',hg2,c2,c2',c3,GO,hw]
    ·have c2':((lines[n].size:Int)<m.2.1):=by omega
     simp -implicitDefEqProofs only [ai,GK,GL,GM,hi',hg,bC,aT,e0',ax,aJ,h1,GN,c1,c1',hg2,c2,c2',GO]
   ·have c1':((lines.length:Int)≤m.1):=by omega
    simp -implicitDefEqProofs only [ai,GK,GL,GM,hi',hg,bC,aT,e0',ax,aJ,h1,GN,c1,c1',GO]
 ·have hlt:¬((l.length:Int)<(l.length:Int)):=by omega
  simp -implicitDefEqProofs only [ai,GK,GL,GM,hlt]
 ·have h2:=fx lines hL
  rw [iK];unfold kT;cases l.all (fun m=>okM lines m)
  ·simp -implicitDefEqProofs only [ai,GK,GL,GM,md,GO]
  ·cases hb:pk lines<;>rw [hb] at h2<;>simp -implicitDefEqProofs only [ai,GK,GL,GM,h2,GN,GO]
theorem iV (lines:List ByteArray) (l:List Mk) (hL:LIn lines) (h:MIn l):dq [txs lines,mks l]=some (.ret [B (kT lines l)] []):=by
 rw [tR];have hl:=h.ln;have hll:=hL.ln;simp -implicitDefEqProofs only [ai,GK,GL,GM];refine aP _ (jd l (fun i=>[txs lines,mks l,mks l,I l.length,I i]) (fun _ m=>okM lines m) (.ret [B false] []) (.ext 0 [txs lines,mks l]) (fun i hi=>?_) ?_ rfl rfl rfl) ?_
 ·have hi':(i:Int)<(l.length:Int):=by omega
  have hw:GQ.wrap ((i:Int)+1)=((i+1:Nat):Int):=by rw [aA (by omega) (by omega)];omega
  have hg:=eL hi;have hsz:=h.sz _ (GR hi);generalize hm:l[i]=m at hg hsz;have h1:=gq m (by omega);unfold okM;cases hc:eF m
  ·rw [hc] at h1
   simp -implicitDefEqProofs only [ai,GK,GL,GM,hi',hg,bC,aT,e0',ax,aJ,h1,GO]
  ·rw [hc] at h1
   have hp:=Dg hc;by_cases c1:m.1<(lines.length:Int)
   ·obtain⟨n,hn⟩:=GU hp
    have hn2:n<lines.length:=by omega
    have hg2:=kW hn2;have c1':¬((lines.length:Int)≤m.1):=by omega
    have e:vg lines m=(lines[n].size:Int):=by
     unfold vg;rw [hn,Hv,Hp,Hj hn2,HN]
    have hsz2:=hL.sz _ (GR hn2);rw [e];rw [←hn] at hg2;by_cases c2:m.2.1≤(lines[n].size:Int)
    ·have c2':¬((lines[n].size:Int)<m.2.1):=by omega
     by_cases c3:m.2.1=(lines[n].size:Int)
     ·replace c3:=decide_eq_true c3
      by_cases k1:m.2.2.1=1
      ·replace k1:=decide_eq_true k1
       simp -implicitDefEqProofs only [ai,GK,GL,GM,hi',hg,bC,aT,e0',ax,aJ,h1,GN,c1,c1',hg2,c2,c2',c3,k1,Bool.true_or,Hq,Hx]
      ·by_cases k3:m.2.2.1=3
       ·replace k3:=decide_eq_true k3
        simp -implicitDefEqProofs only [ai,GK,GL,GM,hi',hg,bC,aT,e0',ax,aJ,h1,GN,c1,c1',hg2,c2,c2',c3,k1,k3,Bool.or_true,Bool.false_or,Hq,Hx]
       ·simp -implicitDefEqProofs only [ai,GK,GL,GM,hi',hg,bC,aT,e0',ax,aJ,h1,GN,c1,c1',hg2,c2,c2',c3,k1,k3,Bool.or_false,hw,Hq,Hx]
     ·simp -implicitDefEqProofs only [ai,GK,GL,GM,hi',hg,bC,aT,e0',ax,aJ,h1,GN,c1,c1',hg2,c2,c2',c3,GO,hw]
    ·have c2':((lines[n].size:Int)<m.2.1):=by omega
     simp -implicitDefEqProofs only [ai,GK,GL,GM,hi',hg,bC,aT,e0',ax,aJ,h1,GN,c1,c1',hg2,c2,c2',GO]
   ·have c1':((lines.length:Int)≤m.1):=by omega
    simp -implicitDefEqProofs only [ai,GK,GL,GM,hi',hg,bC,aT,e0',ax,aJ,h1,GN,c1,c1',GO]
 ·have hlt:¬((l.length:Int)<(l.length:Int)):=by omega
  simp -implicitDefEqProofs only [ai,GK,GL,GM,hlt]
 ·have h2:=jI lines hL
  rw [iK];unfold kT;cases l.all (fun m=>okM lines m)
  ·simp -implicitDefEqProofs only [ai,GK,GL,GM,md,GO]
  ·cases hb:pk lines<;>rw [hb] at h2<;>simp -implicitDefEqProofs only [ai,GK,GL,GM,h2,GN,GO]
theorem sg (lines:List ByteArray) (l:List Mk) (hL:LIn lines) (h:MIn l):eT [txs lines,mks l]=some (.ret [B (kT lines l)] []):=by
 rw [sc];simp -implicitDefEqProofs only [ai,GK,GL,GM,iV lines l hL h]
set_option maxRecDepth 100000
abbrev mk0:Mk:=(0,0,0,⟨#[]⟩)
def zx (m x:Mk):Bool:=decide (x.2.2.1=4)&&decide (x.1=m.1)&&decide (x.2.1=m.2.1)
def Fz (m:Mk) (rest:List Mk):Bool:=rest.all (fun x=>!zx m x) && !decide (m.2.2.1=4)
def mK (l:List Mk) (i:Nat):Bool:=Fz (l.getD i mk0) (l.drop (i+1))
theorem xc {l:List Mk} {i:Nat} (h:i≤l.length):bR false 4 (mks l) (I (i:Int))=some (mks (l.drop i)):=by
 rw [rA (by simpa using h),←List.map_drop]
theorem jM (l:List Mk) (i:Nat) (h:l.length≤1000000) (hi:i<l.length):dY [mks l,I i]=some (.ret [B (mK l i)] []):=by
 rw [uG];have hg:=eL hi;have hw:GQ.wrap ((i:Int)+1)=((i+1:Nat):Int):=by rw [aA (by omega) (by omega)];omega
 have hd:=xc (l:=l) (i:=i+1) (by omega);have hm:l.getD i mk0=l[i]:=by simp [hi]
 unfold mK;rw [hm];generalize l[i]=m at hg;have hrl:(l.drop (i+1)).length≤l.length:=by simp
 generalize l.drop (i+1)=r at hd hrl;simp -implicitDefEqProofs only [ai,GK,GL,GM,hg,bC,aT,e0',ax,hw,hd];refine aP _ (jd r (fun j=>[mkD m,mks r,I r.length,I j]) (fun _ x=>!zx m x) (.ret [B false] []) (.ext 0 [mkD m]) (fun j hj=>?_) ?_ rfl rfl rfl) ?_
 ·have hj':(j:Int)<(r.length:Int):=by omega
  have hw:GQ.wrap ((j:Int)+1)=((j+1:Nat):Int):=by rw [aA (by omega) (by omega)];omega
  have hg:=eL hj;generalize r[j]=x at hg;unfold zx;by_cases k4:x.2.2.1=4
  ·by_cases k1:x.1=m.1
   ·by_cases k2:x.2.1=m.2.1
    ·replace k4:=decide_eq_true k4
     replace k1:=decide_eq_true k1;replace k2:=decide_eq_true k2;simp -implicitDefEqProofs only [ai,GK,GL,GM,hj',hg,bC,aT,e0',ax,k4,k1,k2,GN]
    ·replace k4:=decide_eq_true k4
     replace k1:=decide_eq_true k1;simp -implicitDefEqProofs only [ai,GK,GL,GM,hj',hg,bC,aT,e0',ax,k4,k1,k2,GN,hw]
   ·replace k4:=decide_eq_true k4
    simp -implicitDefEqProofs only [ai,GK,GL,GM,hj',hg,bC,aT,e0',ax,k4,k1,GN,GO,hw]
  ·simp -implicitDefEqProofs only [ai,GK,GL,GM,hj',hg,bC,aT,e0',ax,k4,GO,hw]
 ·have hlt:¬((r.length:Int)<(r.length:Int)):=by omega
  simp -implicitDefEqProofs only [ai,GK,GL,GM,hlt]
 ·rw [iK]
  unfold Fz;cases r.all (fun x=>!zx m x)
  ·simp -implicitDefEqProofs only [ai,GK,GL,GM,md,GO]
  ·simp -implicitDefEqProofs only [ai,GK,GL,GM,GN]
def clB (a b:Mk):Bool:=decide (a.1=b.1)&&(decide (a.2.1=b.2.1)&&(decide (a.2.2.1=2)==decide (b.2.2.1=2)))
theorem vS (a b:Mk):iB [mkD a,mkD b]=some (.ret [B (clB a b)] []):=by
 rw [wD];unfold clB;by_cases k1:a.1=b.1
 ·by_cases k2:a.2.1=b.2.1
  ·replace k1:=decide_eq_true k1
   replace k2:=decide_eq_true k2;simp -implicitDefEqProofs only [ai,GK,GL,GM,cj,k1,k2,GN,ke]
  ·replace k1:=decide_eq_true k1
   simp -implicitDefEqProofs only [ai,GK,GL,GM,cj,k1,k2,GN,GO,ke]
 ·simp -implicitDefEqProofs only [ai,GK,GL,GM,cj,k1,GN,GO,ke]
theorem sW (a b:Mk):fF [mkD a,mkD b]=some (.ret [B (clB a b)] []):=by
 rw [uf];unfold clB;by_cases k1:a.1=b.1
 ·by_cases k2:a.2.1=b.2.1
  ·replace k1:=decide_eq_true k1
   replace k2:=decide_eq_true k2;simp -implicitDefEqProofs only [ai,GK,GL,GM,cj,k1,k2,GN,ke]
  ·replace k1:=decide_eq_true k1
   simp -implicitDefEqProofs only [ai,GK,GL,GM,cj,k1,k2,GN,GO,ke]
 ·simp -implicitDefEqProofs only [ai,GK,GL,GM,cj,k1,GN,GO,ke]
def lM (l:List Mk) (k:Nat):List Nat:=(GV k).filter (mK l)
def fil (l:List Mk) (k:Nat):List Mk:=(lM l k).map fun i=>l.getD i mk0
theorem Ay (l:List Mk) (k:Nat):lM l (k+1)=if mK l k=true then lM l k++[k] else lM l k:=by
 unfold lM;rw [List.range_succ,List.filter_append];by_cases h:mK l k=true
 ·rw [if_pos h]
  simp [h]
 ·rw [if_neg h]
  simp [h]
theorem CM (l:List Mk) (k:Nat):fil l (k+1)=if mK l k=true then fil l k++[l.getD k mk0] else fil l k:=by
 unfold fil;rw [Ay];by_cases h:mK l k=true
 ·rw [if_pos h,if_pos h,Hr]
  rfl
 ·rw [if_neg h,if_neg h]
theorem lQ (l:List Mk) (k:Nat):(lM l k).length≤k:=by
 have:=HA (mK l) (GV k);rw [GX] at this;exact this
theorem oQ (l:List Mk) (k:Nat):(fil l k).length≤k:=by
 unfold fil;rw [Ha];exact lQ l k
set_option maxRecDepth 100000
theorem nf {β γ:Type} (p:β→Bool) (g:β→γ):∀(l:List β) (i:Nat) (a:List γ),dF (fun _ a x=>if p x=true then a++[g x] else a) i l a=a++(l.filter p).map g
 | [],_,a=>by simp [dF]
 | x::l,i,a=>by
  rw [dF,nf p g l];by_cases h:p x=true
  ·simp [h]
  ·simp [h]
theorem tX {β γ:Type} (g:β→List γ):∀(l:List β) (i:Nat) (a:List γ),dF (fun _ a x=>a++g x) i l a=a++l.flatMap g
 | [],_,a=>by simp [dF]
 | x::l,i,a=>by
  rw [dF,tX g l];simp
abbrev PrN:=Nat × Nat
abbrev prD (p:PrN):D:=.arr 1 [I (p.1:Int),I (p.2:Int)]
abbrev prs (l:List PrN):D:=.arr 1 (l.map prD)
theorem EW (a b:Nat):aC 1 [I (a:Int),I (b:Int)]=some (prD (a,b)):=rfl
theorem Cy (p:PrN):aC 1 [prD p]=some (prs [p]):=rfl
theorem Ep:aC 1 []=some (prs []):=rfl
theorem Ah {l m:List PrN} (h:l.length+m.length≤1048577):fT 1 24 (prs l) (prs m)=some (prs (l++m)):=by
 rw [jz,if_pos (by simp only [Ha];omega)];show _=some (D.arr 1 ((l++m).map prD))
 rw [Hr]
def clA (l:List Mk) (i k:Nat):Bool:=clB (l.getD i mk0) (l.getD k mk0)
def cfP (l:List Mk) (i k:Nat):Bool:=mK l i&&(mK l k&&clA l i k)
def yk (l:List Mk) (i:Nat):List PrN:=((Hy (i+1) (l.length - (i+1))).filter (cfP l i)).map fun k=>(i,k)
def cfI (l:List Mk):List PrN:=(GV l.length).flatMap (yk l)
theorem rF (l:List Mk) (i:Nat):(yk l i).length≤l.length:=by
 unfold yk;rw [Ha];have:=HA (cfP l i) (Hy (i+1) (l.length - (i+1)));rw [HJ] at this;omega
theorem kv (l:List Mk) (h:l.length≤20):dp [mks l]=some (.ret [prs (cfI l)] []):=by
 rw [qu];simp -implicitDefEqProofs only [ai,GK,GL,GM,Ep];refine aP _ (bJ (GV l.length) (fun i a=>[mks l,prs a,I l.length,I i]) (fun i a=>a.length≤20*i) (fun _ a i=>a++yk l i) (fun a=>.ext 0 [prs a]) [] (fun i a hi ha=>⟨?_,?_⟩) (fun a _=>?_) (fun _=>rfl) (by simp) rfl) ?_
 ·have hi2:i<l.length:=by simpa using hi
  have hi':(i:Int)<(l.length:Int):=by omega
  have hw:GQ.wrap ((i:Int)+1)=((i+1:Nat):Int):=by rw [aA (by omega) (by omega)];omega
  have hge:(GV l.length)[i]=i:=by simp
  rw [hge];simp -implicitDefEqProofs only [ai,GK,GL,GM,hi',hw];refine aP _ (bJ (Hy (i+1) (l.length - (i+1))) (fun j a=>[mks l,prs a,I i,I ((i+1+j:Nat):Int),I l.length,I i]) (fun j a=>a.length≤20*i+j) (fun _ a k=>if cfP l i k=true then a++[(i,k)] else a) (fun a=>.ext 2 [mks l,prs a,I l.length,I i]) a (fun j a hj ha=>?_) (fun a _=>?_) (fun _=>rfl) (by omega) rfl) ?_
  ·rw [HJ] at hj
   have hge:(Hy (i+1) (l.length - (i+1)))[j]'(by simpa using hj)=i+1+j:=by simp [List.getElem_range']
   rw [hge];have hk:i+1+j<l.length:=by omega
   generalize hkk:i+1+j=k at hk;have hk2:i+1+(j+1)=k+1:=by omega
   have hk':(k:Int)<(l.length:Int):=by omega
   have hwk:GQ.wrap ((k:Int)+1)=((k+1:Nat):Int):=by rw [aA (by omega) (by omega)];omega
   have h1:=jM l i (by omega) hi2;have h2:=jM l k (by omega) hk;have g1:=eL hi2;have g2:=eL hk;have hc:=vS l[i] l[k];have e1:l.getD i mk0=l[i]:=by simp [hi2]
   have e2:l.getD k mk0=l[k]:=by simp [hk]
   rw [hk2];unfold cfP clA;rw [e1,e2];generalize l[i]=x at g1 hc;generalize l[k]=y at g2 hc;cases c1:mK l i<;>rw [c1] at h1
   ·refine⟨?_,by simp;omega⟩
    simp -implicitDefEqProofs only [ai,GK,GL,GM,hk',h1,GO,hwk]
   cases c2:mK l k<;>rw [c2] at h2
   ·refine⟨?_,by simp;omega⟩
    simp -implicitDefEqProofs only [ai,GK,GL,GM,hk',h1,h2,GO,GN,hwk]
   cases c3:clB x y<;>rw [c3] at hc
   ·refine⟨?_,by simp;omega⟩
    simp -implicitDefEqProofs only [ai,GK,GL,GM,hk',h1,h2,GO,GN,hwk,g1,g2,bC,aT,hc]
   ·refine⟨?_,by simp;omega⟩
    have ha2:=Ah (l:=a) (m:=[(i,k)]) (by simp only [GS,He];omega);simp -implicitDefEqProofs only [ai,GK,GL,GM,hk',h1,h2,GO,GN,hwk,g1,g2,bC,aT,hc,EW,Cy,ha2]
  ·have hlt:¬(((i+1+(l.length - (i+1)):Nat):Int)<(l.length:Int)):=by omega
   rw [HJ];simp -implicitDefEqProofs only [ai,GK,GL,GM,hlt]
  ·rw [nf]
   simp -implicitDefEqProofs only [ai,GK,GL,GM,hw];rfl
 ·have:=rF l ((GV l.length)[i])
  rw [Hh];omega
 ·have hlt:¬((l.length:Int)<(l.length:Int)):=by omega
  rw [GX];simp -implicitDefEqProofs only [ai,GK,GL,GM,hlt]
 ·rw [tX]
  simp -implicitDefEqProofs only [ai,GK,GL,GM,HC];rfl
abbrev nts (l:List Nat):D:=.arr 1 (l.map fun(i:Nat)=>I (i:Int))
theorem Fk (i:Nat):aC 1 [I (i:Int)]=some (nts [i]):=rfl
theorem Eh (l:List Nat):iu (nts l)=some (nts l):=ko fun _=>rfl
theorem DY {l m:List Nat} (h:l.length+m.length≤1048577):fT 1 8 (nts l) (nts m)=some (nts (l++m)):=by
 rw [jz,if_pos (by simp only [Ha];omega)];show _=some (D.arr 1 ((l++m).map fun(i:Nat)=>I (i:Int)))
 rw [Hr]
theorem sq {l:List Nat} {i:Nat} (h:i<l.length):aH 1 (nts l) (I (i:Int))=some [I (l[i]:Int)]:=by simp [h]
theorem BS {l:List Nat} {i:Nat} (h:i≤l.length):bR false 1 (nts l) (I (i:Int))=some (nts (l.drop i)):=by
 rw [rA (by simpa using h),←List.map_drop]
theorem vh {β:Type} (p:β→Bool):∀(l:List β) (i:Nat) (b:Bool),dF (fun _ b x=>b&&p x) i l b=(b&&l.all p)
 | [],_,b=>by simp [dF]
 | x::l,i,b=>by
  rw [dF,vh p l,List.all_cons,Bool.and_assoc]
theorem oi (l:List Mk) (h:l.length≤1000000):ee [mks l]=some (.ret [nts (lM l l.length)] []):=by
 rw [ux];have en:(D.arr 1 []:D)=nts []:=rfl;simp -implicitDefEqProofs only [ai,GK,GL,GM];refine aP _ (bJ (GV l.length) (fun i a=>[mks l,nts a,mks l,I l.length,I i]) (fun i a=>a.length≤i) (fun _ a i=>if mK l i=true then a++[id i] else a) (fun a=>.ext 0 [nts a]) [] (fun i a hi ha=>⟨?_,?_⟩) (fun a _=>?_) (fun _=>rfl) (by simp) rfl) ?_
 ·have hi2:i<l.length:=by simpa using hi
  have hi':(i:Int)<(l.length:Int):=by omega
  have hw:GQ.wrap ((i:Int)+1)=((i+1:Nat):Int):=by rw [aA (by omega) (by omega)];omega
  have hge:(GV l.length)[i]=i:=by simp
  rw [hge];have hg:=eL hi2;have hd:=xc (l:=l) (i:=i+1) (by omega);have hm:l.getD i mk0=l[i]:=by simp [hi2]
  unfold mK;rw [hm];generalize l[i]=m at hg;have hrl:(l.drop (i+1)).length≤l.length:=by simp
  generalize l.drop (i+1)=r at hd hrl;simp -implicitDefEqProofs only [ai,GK,GL,GM,hi',hg,bC,aT,e0',ax,hw,hd];refine aP _ (bJ r (fun j b=>[mks l,nts a,I i,mkD m,B b,mks l,I l.length,I i,mks r,I r.length,I j]) (fun _ _=>True) (fun _ b x=>b && !zx m x) (fun b=>.ext 2 [mks l,nts a,I i,B b,mks l,I l.length,I i]) (!decide (m.2.2.1=4)) (fun j b hj _=>⟨?_,trivial⟩) (fun a _=>?_) (fun _=>rfl) trivial rfl) ?_
  ·have hj':(j:Int)<(r.length:Int):=by omega
   have hwj:GQ.wrap ((j:Int)+1)=((j+1:Nat):Int):=by rw [aA (by omega) (by omega)];omega
   have hg:=eL hj;generalize r[j]=x at hg;unfold zx;by_cases k4:x.2.2.1=4
   ·by_cases k1:x.1=m.1
    ·by_cases k2:x.2.1=m.2.1
     ·replace k4:=decide_eq_true k4
      replace k1:=decide_eq_true k1;replace k2:=decide_eq_true k2;simp -implicitDefEqProofs only [ai,GK,GL,GM,hj',hg,bC,aT,e0',ax,k4,k1,k2,GN,Hu,hwj]
     ·replace k4:=decide_eq_true k4
      replace k1:=decide_eq_true k1;simp -implicitDefEqProofs only [ai,GK,GL,GM,hj',hg,bC,aT,e0',ax,k4,k1,k2,GN,Ia,hwj]
    ·replace k4:=decide_eq_true k4
     simp -implicitDefEqProofs only [ai,GK,GL,GM,hj',hg,bC,aT,e0',ax,k4,k1,GN,GO,Ia,hwj]
   ·simp -implicitDefEqProofs only [ai,GK,GL,GM,hj',hg,bC,aT,e0',ax,k4,GO,Ia,hwj]
  ·have hlt:¬((r.length:Int)<(r.length:Int)):=by omega
   simp -implicitDefEqProofs only [ai,GK,GL,GM,hlt]
  ·rw [vh]
   unfold Fz;have ha2:=DY (l:=a) (m:=[i]) (by simp only [GS,He];omega);rw [Bool.and_comm];cases (r.all (fun x=>!zx m x) && !decide (m.2.2.1=4))
   ·simp -implicitDefEqProofs only [ai,GK,GL,GM,hw]
   ·simp -implicitDefEqProofs only [ai,GK,GL,GM,Fk,Eh,ha2,hw,id]
 ·have hi2:i<l.length:=by simpa using hi
  split
  ·rw [Hh]
   simp only [GS,He];omega
  ·omega
 ·have hlt:¬((l.length:Int)<(l.length:Int)):=by omega
  rw [GX];simp -implicitDefEqProofs only [ai,GK,GL,GM,hlt]
 ·rw [nf]
  simp -implicitDefEqProofs only [ai,GK,GL,GM,HC,List.map_id];rfl
def spL (cl:Nat→Nat→Bool):List Nat→List PrN
 | []=>[]
 | i::t=>((t.filter (cl i)).map fun k=>(i,k))++spL cl t
theorem vC (cl:Nat→Nat→Bool) (L:List Nat):∀(l:List Nat) (p:Nat) (a:List PrN),l=L.drop p→dF (fun p a i=>a++((L.drop (p+1)).filter (cl i)).map fun k=>(i,k)) p l a=a++spL cl l
 | [],_,a,_=>by simp [dF,spL]
 | i::t,p,a,h=>by
  have ht:t=L.drop (p+1):=by
   have:=congrArg (List.drop 1) h;rw [List.drop_drop] at this;simpa using this
  rw [dF,vC cl L t (p+1) _ ht,spL,←ht];simp
theorem vU {l:List Mk} {k:Nat} {i:Nat} (h:i∈lM l k):i<k:=by
 unfold lM at h;simpa using (Hs.1 h).1
theorem ku (l:List Mk) (h:l.length≤20):dw [mks l]=some (.ret [prs (spL (clA l) (lM l l.length))] []):=by
 rw [qT];have h1:=oi l (by omega);have hln:=lQ l l.length;have hlt:=fun i=>vU (l:=l) (k:=l.length) (i:=i)
 generalize lM l l.length=L at h1 hln hlt;simp -implicitDefEqProofs only [ai,GK,GL,GM,h1];refine aP _ (bJ L (fun p a=>[mks l,prs a,nts L,nts L,I L.length,I p]) (fun p a=>a.length≤20*p) (fun p a i=>a++((L.drop (p+1)).filter (clA l i)).map fun k=>(i,k)) (fun a=>.ext 0 [prs a]) [] (fun p a hp ha=>⟨?_,?_⟩) (fun a _=>?_) (fun _=>rfl) (by simp) rfl) ?_
 ·have hp':(p:Int)<(L.length:Int):=by omega
  have hw:GQ.wrap ((p:Int)+1)=((p+1:Nat):Int):=by rw [aA (by omega) (by omega)];omega
  have hg:=sq hp;have hd:=BS (l:=L) (i:=p+1) (by omega);have hrl:(L.drop (p+1)).length≤L.length:=by simp
  have hmem:∀k∈L.drop (p+1),k<l.length:=fun k hk=>hlt k (HZ hk)
  have hii:=hlt _ (GR hp);generalize L.drop (p+1)=t at hd hrl hmem;generalize L[p]=i at hg hii;simp -implicitDefEqProofs only [ai,GK,GL,GM,hp',hg,hw,hd];refine aP _ (bJ t (fun j a=>[mks l,prs a,nts L,I i,nts L,I L.length,I p,nts t,I t.length,I j]) (fun j a=>a.length≤20*p+j) (fun _ a k=>if clA l i k=true then a++[(i,k)] else a) (fun a=>.ext 2 [mks l,prs a,nts L,nts L,I L.length,I p]) a (fun j a hj ha=>?_) (fun a _=>?_) (fun _=>rfl) (by omega) rfl) ?_
  ·have hj':(j:Int)<(t.length:Int):=by omega
   have hwj:GQ.wrap ((j:Int)+1)=((j+1:Nat):Int):=by rw [aA (by omega) (by omega)];omega
   have hgt:=sq hj;have hk:=hmem _ (GR hj);generalize t[j]=k at hgt hk;have g1:=eL hii;have g2:=eL hk;have hc:=sW l[i] l[k];have e1:l.getD i mk0=l[i]:=by simp [hii]
   have e2:l.getD k mk0=l[k]:=by simp [hk]
   unfold clA;rw [e1,e2];generalize l[i]=x at g1 hc;generalize l[k]=y at g2 hc;cases c3:clB x y<;>rw [c3] at hc
   ·refine⟨?_,by simp;omega⟩
    simp -implicitDefEqProofs only [ai,GK,GL,GM,hj',hgt,hwj,g1,g2,bC,aT,hc]
   ·refine⟨?_,by simp;omega⟩
    have ha2:=Ah (l:=a) (m:=[(i,k)]) (by simp only [GS,He];omega);simp -implicitDefEqProofs only [ai,GK,GL,GM,hj',hgt,hwj,g1,g2,bC,aT,hc,EW,Cy,ha2]
  ·have hlt:¬((t.length:Int)<(t.length:Int)):=by omega
   simp -implicitDefEqProofs only [ai,GK,GL,GM,hlt]
  ·rw [nf]
   simp -implicitDefEqProofs only [ai,GK,GL,GM,hw]
 ·have hlf:=HA (clA l L[p]) (L.drop (p+1))
  rw [List.length_drop] at hlf;rw [Hh,Ha];omega
 ·have hlt:¬((L.length:Int)<(L.length:Int)):=by omega
  simp -implicitDefEqProofs only [ai,GK,GL,GM,hlt]
 ·rw [vC (clA l) L L 0 [] rfl]
  simp -implicitDefEqProofs only [ai,GK,GL,GM,HC]
def cfL (lv:Nat→Bool) (cl:Nat→Nat→Bool):List Nat→List PrN
 | []=>[]
 | i::t=>((t.filter fun k=>lv i&&(lv k&&cl i k)).map fun k=>(i,k))++cfL lv cl t
theorem uc (lv:Nat→Bool) (cl:Nat→Nat→Bool):∀(L:List Nat),spL cl (L.filter lv)=cfL lv cl L
 | []=>rfl
 | i::t=>by
  rw [cfL,←uc lv cl t];cases hi:lv i
  ·rw [Hf (by simp [hi])]
   simp
  ·rw [List.filter_cons_of_pos hi,spL,List.filter_filter]
   congr 3
   funext k
   rw [GN,Bool.and_comm]
theorem CV (l:List Mk):cfI l=spL (clA l) (lM l l.length):=by
 unfold lM;rw [uc];have key:∀(m s:Nat),s+m=l.length→(Hy s m).flatMap (yk l)=cfL (mK l) (clA l) (Hy s m):=by
  intro m;induction m with
  | zero=>intro s _;rfl
  | succ m ih =>
   intro s hs;rw [List.range'_succ,Hw,cfL,ih (s+1) (by omega)];congr 1
   unfold yk cfP;rw [show l.length - (s+1)=m by omega]
 unfold cfI;rw [List.range_eq_range'];exact key _ 0 (by omega)
def cfB (lines:List ByteArray) (l:List Mk):List PrN:=if kT lines l=true then cfI l else []
theorem wo {lines:List ByteArray} {l:List Mk} (h:kT lines l=true):l.length≤20:=by
 unfold kT at h;rw [GT,decide_eq_true_eq] at h;omega
theorem mI (lines:List ByteArray) (l:List Mk) (hL:LIn lines) (h:MIn l):cS [txs lines,mks l]=some (.ret [prs (cfB lines l),B (kT lines l)] []):=by
 rw [lW];have h1:=gT lines l hL h;unfold cfB;cases hb:kT lines l<;>rw [hb] at h1
 ·simp -implicitDefEqProofs only [ai,GK,GL,GM,h1]
  rfl
 ·have h2:=kv l (wo hb)
  simp -implicitDefEqProofs only [ai,GK,GL,GM,h1,h2]
theorem mM (lines:List ByteArray) (l:List Mk) (hL:LIn lines) (h:MIn l):cP [txs lines,mks l]=some (.ret [prs (cfB lines l),B (kT lines l)] []):=by
 rw [mN];have h1:=iV lines l hL h;unfold cfB;cases hb:kT lines l<;>rw [hb] at h1
 ·simp -implicitDefEqProofs only [ai,GK,GL,GM,h1]
  rfl
 ·have h2:=ku l (wo hb)
  rw [←CV] at h2;simp -implicitDefEqProofs only [ai,GK,GL,GM,h1,h2]
set_option maxRecDepth 100000
theorem co {α β:Type} (f:α→β→α):∀(l:List β) (i:Nat) (a:α),dF (fun _ a x=>f a x) i l a=l.foldl f a
 | [],_,_=>rfl
 | x::l,i,a=>by
  rw [dF,co f l];rfl
structure CIn (l:List Mk):Prop where
 ln:l.length≤20
 sz:∀x∈l,x.2.2.2.size≤10
def cst (line:Int) (a:Nat) (ob:ByteArray × ByteArray) (m:Mk):ByteArray × ByteArray:=if m.1=line∧m.2.1=(a:Int) then(if m.2.2.1=2 then(ob.1,m.2.2.2) else(m.2.2.2,ob.2)) else ob
def csS (line:Int) (a:Nat) (tq:ByteArray × ByteArray) (m:Mk):ByteArray × ByteArray:=if m.1=line∧m.2.1=(a:Int) then(if m.2.2.1=2 then(tq.1++m.2.2.2,tq.2) else(tq.1,m.2.2.2)) else tq
theorem tP {line:Int} {a:Nat} {ob:ByteArray × ByteArray} {m:Mk} (hm:m.2.2.2.size≤10) (h:ob.1.size≤10∧ob.2.size≤10):(cst line a ob m).1.size≤10∧(cst line a ob m).2.size≤10:=by
 unfold cst;split
 ·split
  ·exact⟨h.1,hm⟩
  ·exact⟨hm,h.2⟩
 ·exact h
theorem sK {line:Int} {a T0:Nat} {tq:ByteArray × ByteArray} {m:Mk} (hm:m.2.2.2.size≤10) (h:tq.1.size≤T0∧tq.2.size≤10):(csS line a tq m).1.size≤T0+10∧(csS line a tq m).2.size≤10:=by
 unfold csS;split
 ·split
  ·refine⟨?_,h.2⟩
   show(tq.1++m.2.2.2).size≤_
   rw [GP];omega
  ·exact⟨Ic h.1 (by omega),hm⟩
 ·exact⟨Ic h.1 (by omega),h.2⟩
theorem kG (line:Int) (a:Nat):∀(ms:List Mk) (hs:∀x∈ms,x.2.2.2.size≤10) (i:Nat) (ob:ByteArray × ByteArray),ob.1.size≤10∧ob.2.size≤10→(dF (fun _ ob m=>cst line a ob m) i ms ob).1.size≤10∧(dF (fun _ ob m=>cst line a ob m) i ms ob).2.size≤10
 | [],_,_,_,h=>h
 | m::ms,hs,i,ob,h=>kG line a ms (fun x hx=>hs x (by simp [hx])) (i+1) _ (tP (hs m (by simp)) h)
theorem pg (line:Int) (a:Nat) {T0:Nat}:∀(L:List Nat) (g:Nat→Mk) (hg:∀i∈L,(g i).2.2.2.size≤10) (k:Nat) (tq:ByteArray × ByteArray),tq.1.size≤T0+10*k∧tq.2.size≤10→(L.foldl (fun tq i=>csS line a tq (g i)) tq).1.size≤T0+10*(k+L.length)∧(L.foldl (fun tq i=>csS line a tq (g i)) tq).2.size≤10
 | [],_,_,_,_,h=>h
 | i::L,g,hg,k,tq,h=>by
  have h1:=sK (line:=line) (a:=a) (hg i (by simp)) h;have:=pg line a (T0:=T0) L g (fun x hx=>hg x (by simp [hx])) (k+1) _ ⟨by omega,h1.2⟩;rw [HD,GS];exact⟨by omega,this.2⟩
def gV (s:ByteArray) (a:Nat):ByteArray:=if a<s.size then s.extract a (a+1) else⟨#[]⟩
def pc (s:ByteArray) (line:Int) (ms:List Mk):ByteArray:=(GV (s.size+1)).foldl (fun t a=>t++((ms.foldl (cst line a) (gV s a,⟨#[]⟩)).2++(ms.foldl (cst line a) (gV s a,⟨#[]⟩)).1)) ⟨#[]⟩
def FA (s:ByteArray) (line:Int) (l:List Mk) (L:List Nat):ByteArray:=(GV (s.size+1)).foldl (fun t a=>(L.foldl (fun tq i=>csS line a tq (l.getD i mk0)) (t,gV s a)).1++(L.foldl (fun tq i=>csS line a tq (l.getD i mk0)) (t,gV s a)).2) ⟨#[]⟩
theorem ub (s:ByteArray) (line:Int) (ms:List Mk) (hs:s.size≤1000) (h:CIn ms):fI [T s,I line,mks ms]=some (.ret [T (pc s line ms)] []):=by
 rw [uq];have hl:=h.ln;refine aP _ (bJ (GV (s.size+1)) (fun a t=>[T s,I line,mks ms,T t,I a]) (fun a t=>t.size≤1000*a) (fun _ t a=>t++((ms.foldl (cst line a) (gV s a,⟨#[]⟩)).2++(ms.foldl (cst line a) (gV s a,⟨#[]⟩)).1)) (fun t=>.ext 0 [T t]) ⟨#[]⟩ (fun a t ha ht=>⟨?_,?_⟩) (fun t _=>?_) (fun _=>rfl) (by decide) rfl) ?_
 ·rw [GX] at ha
  have hge:(GV (s.size+1))[a]'(by simpa using ha)=a:=by simp
  rw [hge];have ha':(a:Int)≤(s.size:Int):=by omega
  have hw:GQ.wrap ((a:Int)+1)=((a+1:Nat):Int):=by rw [aA (by omega) (by omega)];omega
  by_cases hlt:a<s.size
  ·have hlt':(a:Int)<(s.size:Int):=by omega
   have hsl:=qB (s:=s) (z:=0) (i:=a) (j:=a+1) (by omega) (by omega);have ho:gV s a=s.extract a (a+1):=if_pos hlt;have hown:(s.extract a (a+1)).size≤10:=by rw [GY];omega
   rw [ho];simp -implicitDefEqProofs only [ai,GK,GL,GM,ha',hlt',hw,hsl,e0'];refine aP _ (bJ ms (fun j ob=>[T s,I line,mks ms,T t,I a,T ob.1,T ob.2,mks ms,I ms.length,I j]) (fun _ ob=>ob.1.size≤10∧ob.2.size≤10) (fun _ ob m=>cst line a ob m) (fun ob=>.ext 2 [T s,I line,mks ms,T t,I a,T ob.1,T ob.2]) (s.extract a (a+1),⟨#[]⟩) (fun j ob hj hob=>⟨?_,?_⟩) (fun ob _=>?_) (fun _=>rfl) ⟨hown,Hc _⟩ rfl) ?_
   ·have hj':(j:Int)<(ms.length:Int):=by omega
    have hwj:GQ.wrap ((j:Int)+1)=((j+1:Nat):Int):=by rw [aA (by omega) (by omega)];omega
    have hg:=eL hj;generalize ms[j]=m at hg;by_cases k1:m.1=line
    ·by_cases k2:m.2.1=(a:Int)
     ·by_cases k3:m.2.2.1=2
      ·have hc:cst line a ob m=(ob.1,m.2.2.2):=by simp [cst,k1,k2,k3]
       rw [hc];replace k1:=decide_eq_true k1;replace k2:=decide_eq_true k2;replace k3:=decide_eq_true k3;simp -implicitDefEqProofs only [ai,GK,GL,GM,hj',hg,bC,aT,e0',ax,k1,k2,k3,hwj]
      ·have hc:cst line a ob m=(m.2.2.2,ob.2):=by simp [cst,k1,k2,k3]
       rw [hc];replace k1:=decide_eq_true k1;replace k2:=decide_eq_true k2;simp -implicitDefEqProofs only [ai,GK,GL,GM,hj',hg,bC,aT,e0',ax,k1,k2,k3,hwj]
     ·have hc:cst line a ob m=ob:=by simp [cst,k1,k2]
      rw [hc];replace k1:=decide_eq_true k1;simp -implicitDefEqProofs only [ai,GK,GL,GM,hj',hg,bC,aT,e0',ax,k1,k2,hwj]
    ·have hc:cst line a ob m=ob:=by simp [cst,k1]
     rw [hc];simp -implicitDefEqProofs only [ai,GK,GL,GM,hj',hg,bC,aT,e0',ax,k1,hwj]
   ·exact tP (h.sz _ (GR hj)) hob
   ·have hlt:¬((ms.length:Int)<(ms.length:Int)):=by omega
    simp -implicitDefEqProofs only [ai,GK,GL,GM,hlt]
   ·obtain⟨z1,z2⟩:=kG line a ms h.sz 0 (s.extract a (a+1),⟨#[]⟩) ⟨hown,Hc _⟩
    rw [co] at z1 z2;rw [co];have a1:=nl (a:=(ms.foldl (cst line a) (s.extract a (a+1),⟨#[]⟩)).2) (b:=(ms.foldl (cst line a) (s.extract a (a+1),⟨#[]⟩)).1) (bl:=false) (eq:=[]) (by omega);have a2:=nl (a:=t) (b:=(ms.foldl (cst line a) (s.extract a (a+1),⟨#[]⟩)).2++(ms.foldl (cst line a) (s.extract a (a+1),⟨#[]⟩)).1) (bl:=false) (eq:=[]) (by simp only [GP];omega);simp -implicitDefEqProofs only [ai,GK,GL,GM,a1,a2,hw]
  ·have hlt':¬(a:Int)<(s.size:Int):=by omega
   have ho:gV s a=⟨#[]⟩:=if_neg hlt;have hown:(⟨#[]⟩:ByteArray).size≤10:=by decide
   rw [ho];simp -implicitDefEqProofs only [ai,GK,GL,GM,ha',hlt',hw,e0'];refine aP _ (bJ ms (fun j ob=>[T s,I line,mks ms,T t,I a,T ob.1,T ob.2,mks ms,I ms.length,I j]) (fun _ ob=>ob.1.size≤10∧ob.2.size≤10) (fun _ ob m=>cst line a ob m) (fun ob=>.ext 2 [T s,I line,mks ms,T t,I a,T ob.1,T ob.2]) (⟨#[]⟩,⟨#[]⟩) (fun j ob hj hob=>⟨?_,?_⟩) (fun ob _=>?_) (fun _=>rfl) ⟨hown,Hc _⟩ rfl) ?_
   ·have hj':(j:Int)<(ms.length:Int):=by omega
    have hwj:GQ.wrap ((j:Int)+1)=((j+1:Nat):Int):=by rw [aA (by omega) (by omega)];omega
    have hg:=eL hj;generalize ms[j]=m at hg;by_cases k1:m.1=line
    ·by_cases k2:m.2.1=(a:Int)
     ·by_cases k3:m.2.2.1=2
      ·have hc:cst line a ob m=(ob.1,m.2.2.2):=by simp [cst,k1,k2,k3]
       rw [hc];replace k1:=decide_eq_true k1;replace k2:=decide_eq_true k2;replace k3:=decide_eq_true k3;simp -implicitDefEqProofs only [ai,GK,GL,GM,hj',hg,bC,aT,e0',ax,k1,k2,k3,hwj]
      ·have hc:cst line a ob m=(m.2.2.2,ob.2):=by simp [cst,k1,k2,k3]
       rw [hc];replace k1:=decide_eq_true k1;replace k2:=decide_eq_true k2;simp -implicitDefEqProofs only [ai,GK,GL,GM,hj',hg,bC,aT,e0',ax,k1,k2,k3,hwj]
     ·have hc:cst line a ob m=ob:=by simp [cst,k1,k2]
      rw [hc];replace k1:=decide_eq_true k1;simp -implicitDefEqProofs only [ai,GK,GL,GM,hj',hg,bC,aT,e0',ax,k1,k2,hwj]
    ·have hc:cst line a ob m=ob:=by simp [cst,k1]
     rw [hc];simp -implicitDefEqProofs only [ai,GK,GL,GM,hj',hg,bC,aT,e0',ax,k1,hwj]
   ·exact tP (h.sz _ (GR hj)) hob
   ·have hlt:¬((ms.length:Int)<(ms.length:Int)):=by omega
    simp -implicitDefEqProofs only [ai,GK,GL,GM,hlt]
   ·obtain⟨z1,z2⟩:=kG line a ms h.sz 0 (⟨#[]⟩,⟨#[]⟩) ⟨hown,Hc _⟩
    rw [co] at z1 z2;rw [co];have a1:=nl (a:=(ms.foldl (cst line a) (⟨#[]⟩,⟨#[]⟩)).2) (b:=(ms.foldl (cst line a) (⟨#[]⟩,⟨#[]⟩)).1) (bl:=false) (eq:=[]) (by omega);have a2:=nl (a:=t) (b:=(ms.foldl (cst line a) (⟨#[]⟩,⟨#[]⟩)).2++(ms.foldl (cst line a) (⟨#[]⟩,⟨#[]⟩)).1) (bl:=false) (eq:=[]) (by simp only [GP];omega);simp -implicitDefEqProofs only [ai,GK,GL,GM,a1,a2,hw]
 ·rw [GX] at ha
  have hown:(gV s a).size≤10:=by
   unfold gV;split
   ·rw [GY];omega
   ·decide
  have hge:(GV (s.size+1))[a]'(by simpa using ha)=a:=by simp
  rw [hge];obtain⟨z1,z2⟩:=kG line a ms h.sz 0 (gV s a,⟨#[]⟩) ⟨hown,Hc _⟩;rw [co] at z1 z2;simp only [GP];omega
 ·have hlt:¬(((s.size+1:Nat):Int)≤(s.size:Int)):=by omega
  rw [GX];simp -implicitDefEqProofs only [ai,GK,GL,GM,hlt]
 ·rw [co]
  simp -implicitDefEqProofs only [ai,GK,GL,GM];rfl
theorem qx (s:ByteArray) (line:Int) (l:List Mk) (hs:s.size≤1000) (h:CIn l):eI [T s,I line,mks l]=some (.ret [T (FA s line l (lM l l.length))] []):=by
 rw [qK];have hl:=h.ln;have h1:=oi l (by omega);have hln:=lQ l l.length;have hlt0:=fun i=>vU (l:=l) (k:=l.length) (i:=i)
 generalize lM l l.length=L at h1 hln hlt0;have hget:∀i∈L,(l.getD i mk0).2.2.2.size≤10:=fun i hi=>by
  have hi:=hlt0 i hi;have hm:l.getD i mk0=l[i]:=by simp [hi]
  rw [hm];exact h.sz _ (GR hi)
 refine aP _ (bJ (GV (s.size+1)) (fun a t=>[T s,I line,mks l,T t,I a]) (fun a t=>t.size≤1000*a) (fun _ t a=>(L.foldl (fun tq i=>csS line a tq (l.getD i mk0)) (t,gV s a)).1++(L.foldl (fun tq i=>csS line a tq (l.getD i mk0)) (t,gV s a)).2) (fun t=>.ext 0 [T t]) ⟨#[]⟩ (fun a t ha ht=>⟨?_,?_⟩) (fun t _=>?_) (fun _=>rfl) (by decide) rfl) ?_
 ·rw [GX] at ha
  have hge:(GV (s.size+1))[a]'(by simpa using ha)=a:=by simp
  rw [hge];have ha':(a:Int)≤(s.size:Int):=by omega
  have hw:GQ.wrap ((a:Int)+1)=((a+1:Nat):Int):=by rw [aA (by omega) (by omega)];omega
  by_cases hlt:a<s.size
  ·have hlt':(a:Int)<(s.size:Int):=by omega
   have hsl:=qB (s:=s) (z:=0) (i:=a) (j:=a+1) (by omega) (by omega);have ho:gV s a=s.extract a (a+1):=if_pos hlt;have hown:(s.extract a (a+1)).size≤10:=by rw [GY];omega
   rw [ho];simp -implicitDefEqProofs only [ai,GK,GL,GM,ha',hlt',hw,hsl,e0',h1];refine aP _ (bJ L (fun j tq=>[T s,I line,mks l,T tq.1,I a,T tq.2,nts L,I L.length,I j]) (fun j tq=>tq.1.size≤1000*a+10*j∧tq.2.size≤10) (fun _ tq i=>csS line a tq (l.getD i mk0)) (fun tq=>.ext 2 [T s,I line,mks l,T tq.1,I a,T tq.2]) (t,s.extract a (a+1)) (fun j tq hj hto=>⟨?_,?_⟩) (fun ob _=>?_) (fun _=>rfl) ⟨by omega,hown⟩ rfl) ?_
   ·have hj':(j:Int)<(L.length:Int):=by omega
    have hwj:GQ.wrap ((j:Int)+1)=((j+1:Nat):Int):=by rw [aA (by omega) (by omega)];omega
    have hgt:=sq hj;have hi:=hlt0 _ (GR hj);generalize L[j]=i at hgt hi;have hg:=eL hi;have hsz:=h.sz _ (GR hi);have hm:l.getD i mk0=l[i]:=by simp [hi]
    rw [hm];generalize l[i]=m at hg hsz;by_cases k1:m.1=line
    ·by_cases k2:m.2.1=(a:Int)
     ·by_cases k3:m.2.2.1=2
      ·have hc:csS line a tq m=(tq.1++m.2.2.2,tq.2):=by simp [csS,k1,k2,k3]
       rw [hc];have a1:=nl (a:=tq.1) (b:=m.2.2.2) (bl:=false) (eq:=[]) (by omega);replace k1:=decide_eq_true k1;replace k2:=decide_eq_true k2;replace k3:=decide_eq_true k3;simp -implicitDefEqProofs only [ai,GK,GL,GM,hj',hgt,hg,bC,aT,e0',ax,k1,k2,k3,hwj,a1]
      ·have hc:csS line a tq m=(tq.1,m.2.2.2):=by simp [csS,k1,k2,k3]
       rw [hc];replace k1:=decide_eq_true k1;replace k2:=decide_eq_true k2;simp -implicitDefEqProofs only [ai,GK,GL,GM,hj',hgt,hg,bC,aT,e0',ax,k1,k2,k3,hwj]
     ·have hc:csS line a tq m=tq:=by simp [csS,k1,k2]
      rw [hc];replace k1:=decide_eq_true k1;simp -implicitDefEqProofs only [ai,GK,GL,GM,hj',hgt,hg,bC,aT,e0',ax,k1,k2,hwj]
    ·have hc:csS line a tq m=tq:=by simp [csS,k1]
     rw [hc];simp -implicitDefEqProofs only [ai,GK,GL,GM,hj',hgt,hg,bC,aT,e0',ax,k1,hwj]
   ·have hi:=hlt0 _ (GR hj)
    have hm:l.getD L[j] mk0=l[L[j]]:=by simp [hi]
    rw [hm];have:=sK (line:=line) (a:=a) (h.sz _ (GR hi)) hto;exact⟨by omega,this.2⟩
   ·have hlt:¬((L.length:Int)<(L.length:Int)):=by omega
    simp -implicitDefEqProofs only [ai,GK,GL,GM,hlt]
   ·rw [co]
    have hz:=pg line a (T0:=1000*a) L (fun i=>l.getD i mk0) hget 0 (t,s.extract a (a+1)) ⟨by omega,hown⟩;have a1:=nl (a:=(L.foldl (fun tq i=>csS line a tq (l.getD i mk0)) (t,s.extract a (a+1))).1) (b:=(L.foldl (fun tq i=>csS line a tq (l.getD i mk0)) (t,s.extract a (a+1))).2) (bl:=false) (eq:=[]) (by omega);simp -implicitDefEqProofs only [ai,GK,GL,GM,a1,hw]
  ·have hlt':¬(a:Int)<(s.size:Int):=by omega
   have ho:gV s a=⟨#[]⟩:=if_neg hlt;have hown:(⟨#[]⟩:ByteArray).size≤10:=by decide
   rw [ho];simp -implicitDefEqProofs only [ai,GK,GL,GM,ha',hlt',hw,e0',h1];refine aP _ (bJ L (fun j tq=>[T s,I line,mks l,T tq.1,I a,T tq.2,nts L,I L.length,I j]) (fun j tq=>tq.1.size≤1000*a+10*j∧tq.2.size≤10) (fun _ tq i=>csS line a tq (l.getD i mk0)) (fun tq=>.ext 2 [T s,I line,mks l,T tq.1,I a,T tq.2]) (t,⟨#[]⟩) (fun j tq hj hto=>⟨?_,?_⟩) (fun ob _=>?_) (fun _=>rfl) ⟨by omega,hown⟩ rfl) ?_
   ·have hj':(j:Int)<(L.length:Int):=by omega
    have hwj:GQ.wrap ((j:Int)+1)=((j+1:Nat):Int):=by rw [aA (by omega) (by omega)];omega
    have hgt:=sq hj;have hi:=hlt0 _ (GR hj);generalize L[j]=i at hgt hi;have hg:=eL hi;have hsz:=h.sz _ (GR hi);have hm:l.getD i mk0=l[i]:=by simp [hi]
    rw [hm];generalize l[i]=m at hg hsz;by_cases k1:m.1=line
    ·by_cases k2:m.2.1=(a:Int)
     ·by_cases k3:m.2.2.1=2
      ·have hc:csS line a tq m=(tq.1++m.2.2.2,tq.2):=by simp [csS,k1,k2,k3]
       rw [hc];have a1:=nl (a:=tq.1) (b:=m.2.2.2) (bl:=false) (eq:=[]) (by omega);replace k1:=decide_eq_true k1;replace k2:=decide_eq_true k2;replace k3:=decide_eq_true k3;simp -implicitDefEqProofs only [ai,GK,GL,GM,hj',hgt,hg,bC,aT,e0',ax,k1,k2,k3,hwj,a1]
      ·have hc:csS line a tq m=(tq.1,m.2.2.2):=by simp [csS,k1,k2,k3]
       rw [hc];replace k1:=decide_eq_true k1;replace k2:=decide_eq_true k2;simp -implicitDefEqProofs only [ai,GK,GL,GM,hj',hgt,hg,bC,aT,e0',ax,k1,k2,k3,hwj]
     ·have hc:csS line a tq m=tq:=by simp [csS,k1,k2]
      rw [hc];replace k1:=decide_eq_true k1;simp -implicitDefEqProofs only [ai,GK,GL,GM,hj',hgt,hg,bC,aT,e0',ax,k1,k2,hwj]
    ·have hc:csS line a tq m=tq:=by simp [csS,k1]
     rw [hc];simp -implicitDefEqProofs only [ai,GK,GL,GM,hj',hgt,hg,bC,aT,e0',ax,k1,hwj]
   ·have hi:=hlt0 _ (GR hj)
    have hm:l.getD L[j] mk0=l[L[j]]:=by simp [hi]
    rw [hm];have:=sK (line:=line) (a:=a) (h.sz _ (GR hi)) hto;exact⟨by omega,this.2⟩
   ·have hlt:¬((L.length:Int)<(L.length:Int)):=by omega
    simp -implicitDefEqProofs only [ai,GK,GL,GM,hlt]
   ·rw [co]
    have hz:=pg line a (T0:=1000*a) L (fun i=>l.getD i mk0) hget 0 (t,⟨#[]⟩) ⟨by omega,hown⟩;have a1:=nl (a:=(L.foldl (fun tq i=>csS line a tq (l.getD i mk0)) (t,⟨#[]⟩)).1) (b:=(L.foldl (fun tq i=>csS line a tq (l.getD i mk0)) (t,⟨#[]⟩)).2) (bl:=false) (eq:=[]) (by omega);simp -implicitDefEqProofs only [ai,GK,GL,GM,a1,hw]
 ·rw [GX] at ha
  have hown:(gV s a).size≤10:=by
   unfold gV;split
   ·rw [GY];omega
   ·decide
  have hge:(GV (s.size+1))[a]'(by simpa using ha)=a:=by simp
  rw [hge];have hz:=pg line a (T0:=1000*a) L (fun i=>l.getD i mk0) hget 0 (t,gV s a) ⟨by omega,hown⟩;simp only [GP];omega
 ·have hlt:¬(((s.size+1:Nat):Int)≤(s.size:Int)):=by omega
  rw [GX];simp -implicitDefEqProofs only [ai,GK,GL,GM,hlt]
 ·rw [co]
  simp -implicitDefEqProofs only [ai,GK,GL,GM];rfl
open Go Go.Proofs Go.V Go.RowKit Go.Sort
set_option maxRecDepth 100000
section
variable {α:Type} [Inhabited α]
theorem CB (d:Array α) {i j:Nat} (hi:i<d.size) (hj:j<d.size):(swp d i j).toList.Perm d.toList:=by
 have e:swp d i j=d.swap i j hi hj:=by
  unfold swp;apply Array.ext
  ·simp
  ·intro t h1 h2
   simp [Array.getElem_setIfInBounds,Array.getElem_swap,hi,hj]
   grind
 rw [e];exact(Array.swap_perm hi hj).toList
theorem nT (lt:α→α→Bool) (a:Nat):∀(j:Nat) (d:Array α),j<d.size→(insInner lt a j d).toList.Perm d.toList
 | 0,d,_=>by rw [insInner]
 | j+1,d,h=>by
  rw [insInner];split
  ·refine(nT lt a j _ (by rw [size_swp];omega)).trans (CB d h (by omega))
  ·exact .refl _
theorem od (lt:α→α→Bool) (a b:Nat):∀(k i:Nat) (d:Array α),b - i=k→b≤d.size→(insOuter lt a b i d).toList.Perm d.toList
 | 0,i,d,h,_=>by rw [insOuter_stop lt a b i d (by omega)]
 | k+1,i,d,h,hb=>by
  rw [insOuter_go lt a b i d (by omega)];exact(od lt a b k (i+1) _ (by omega) (by rw [jH];exact hb)).trans (nT lt a i d (by omega))
end
instance:Inhabited Mk:=⟨mk0⟩
def fW (l:List Mk):List Mk:=(Ht Aq l.toArray 0 l.length).toList
theorem qE (l:List Mk):(fW l).Perm l:=by
 unfold fW Ht;exact od _ _ _ _ _ _ rfl (by simp)
theorem mg (l:List Mk):(fW l).length=l.length:=(qE l).length_eq
section
variable {w0 W:World} {g:Nat} {dk:Array Mk}
theorem sV:∀(l:List Mk),(l.flatMap dD).length=l.length*4
 | []=>rfl
 | x::l=>by
  rw [Hw,Hh,sV l,GS,show(dD x).length=4 from rfl];omega
theorem zO (dk:Array Mk) (t:Nat) (h:t<dk.size*4):(dk.toList.flatMap dD)[t]?=some (dD dk[t / 4]!)[t % 4]!:=by
 have key:∀(l:List Mk) (t:Nat),t<l.length*4→(l.flatMap dD)[t]?=some (dD (l.getD (t / 4) mk0))[t % 4]!:=by
  intro l;induction l with
  | nil=>intro t h;simp at h
  | cons x l ih =>
   intro t h;rw [Hw];by_cases h4:t<4
   ·rw [HM (by simpa [dD] using h4)]
    have e1:t / 4=0:=by omega
    have e2:t % 4=t:=by omega
    rw [e1,e2];have:t=0∨t=1∨t=2∨t=3:=by omega
    rcases this with rfl | rfl | rfl | rfl<;>rfl
   ·have hl:(dD x).length=4:=rfl
    rw [List.getElem?_append_right (by rw [hl];omega),hl,ih (t - 4) (by simp only [GS] at h;omega)];have e1:t / 4=(t - 4) / 4+1:=by omega
    have e2:t % 4=(t - 4) % 4:=by omega
    rw [e1,e2];rfl
 have h2:t / 4<dk.size:=by omega
 rw [key dk.toList t (by simpa using h)];congr 3
 rw [getElem!_pos dk (t / 4) h2];simp [h2]
theorem AA (h:SWK dD 4 w0 g 0 dk W) {cur:Array Value} {t:Nat} (hg:w0.heap[g]?=some (.cells cur t (0,0))) (hs:dk.size*4≤cur.size) :
  ∃cur',W.heap[g]?=some (.cells cur' t (0,0))∧cur'.size=cur.size∧∀(i:Nat) (u:Value),(dk.toList.flatMap dD)[i]?=some u→cur'[i]?=some u:=by
 obtain⟨n,os,rfl⟩:=h;have hb:g<w0.heap.size:=(GW.1 hg).1;refine⟨HP id 0 (flatK dD 4 dk) cur,?_,by simp [HP],fun i u hu=>?_⟩
 ·unfold sortWorld
  rw [heap_grow_old _ _ (by rw [size_putRow];exact hb)];unfold putRow mapBlock;show(w0.heap.modify g _)[g]?=_
  rw [Array.getElem?_modify,if_pos rfl,hg];rfl
 ·have hlen:(dk.toList.flatMap dD).length=dk.size*4:=by
   rw [sV];simp
  have hi:i<dk.size*4:=by
   have:=(Hi.1 hu).1;omega
  rw [zO dk i hi] at hu;have hic:i<cur.size:=by omega
  unfold HP;rw [Array.getElem?_mapIdx,Array.getElem?_eq_getElem hic];have e:=get_flatK dD 4 dk i hi;have hz:i<(flatK dD 4 dk).size:=by rw [size_flatK];exact hi
  rw [←hu,←e];simp [hz];intro h;omega
theorem As (h:SWK dD 4 w0 g 0 dk W) {B:Nat} (hB:B≤g) (hs:B≤w0.heap.size):Below B w0 W:=by
 have hle:=h.le;obtain⟨n,os,rfl⟩:=h;refine⟨rfl,rfl,rfl,hle,fun k hk=>?_⟩
 unfold sortWorld;rw [heap_grow_old _ _ (by rw [size_putRow];show k<w0.heap.size;omega)];unfold putRow mapBlock;show(w0.heap.modify g _)[k]?=_
 rw [Array.getElem?_modify,if_neg (by omega)]
end
theorem Gp:(Tryz.prog.info? 37).map (fun i=>(i.zero,i.size,i.bytes))=some (some (.agg #[.int .i64 0,.int .i64 0,.int .i64 0,.string ⟨#[]⟩]),4,40):=by kernel_rfl
theorem iO {w:World} {b t:Nat} {x:Value} (q:w.heap[b]?=some (.cells #[x] t (0,0))):w.cell? ⟨b,0,none⟩=some x∧w.frozen? ⟨b,0,none⟩=false :=
 ⟨by rw [HQ q];rfl,Lib.frozen_of_heap q 0⟩
theorem Bz {w:World} {b:Nat} {x0 x1 x2 x3:Value} {t:TypeId} (h:w.heap[b]?=some (.cells #[x0,x1,x2,x3] t (0,0))):w.cell? ⟨b,0,none⟩=some x0∧w.cell? ⟨b,1,none⟩=some x1∧w.cell? ⟨b,2,none⟩=some x2∧w.cell? ⟨b,3,none⟩=some x3:=by
 refine⟨?_,?_,?_,?_⟩<;>rw [HQ h]<;>rfl
theorem yU {w:World} {g:Nat} {x0 x1 x2 x3:Value} {t:TypeId} (h:w.heap[g]?=some (.cells #[x0,x1,x2,x3] t (0,0))):∀(j:Nat) (u:Value),[x0,x1,x2,x3][j]?=some u→w.cell? ⟨g,0+j,none⟩=some u:=by
 obtain⟨h0,h1,h2,h3⟩:=Bz h;intro j u hj;rw [HE]
 match j,hj with
 | 0,hj=>cases hj;exact h0
 | 1,hj=>cases hj;exact h1
 | 2,hj=>cases hj;exact h2
 | 3,hj=>cases hj;exact h3
theorem Bc (w:World) (b:Nat) (v:Value):w.grownBy (w.setCell ⟨b,0,none⟩ v) (some b) :=
 ⟨rfl,rfl,rfl,by simp [World.setCell],fun k _ h=>heap_setCell_other w ⟨b,0,none⟩ k v (fun e=>h (by rw [e]))⟩
theorem sG {w:World} {base e size n t b:Nat} {v x:Value} {xs:List Value} (h:w.ownsRow base e size v n xs) (hb:w.heap[b]?=some (.cells #[x] t (0,0))) (ht:t≠e):v.ownBlock≠some b:=by
 obtain⟨_,⟨rfl,_⟩ | ⟨g,cap,cur,rfl,_,hg,_⟩⟩:=h
 ·simp [HV]
 ·intro e
  simp only [HV,HK] at e;rw [e,hb] at hg;simp only [HK,Obj.cells.injEq] at hg;exact ht hg.2.1
theorem Bb {w:World} {base e size n:Nat} {v:Value} {xs:List Value} (h:w.ownsRow base e size v (n+1) xs):∃g cap,v = .slice (some ⟨g,0,none⟩) (n+1) cap:=by
 obtain⟨_,⟨rfl,h⟩ | ⟨g,cap,cur,rfl,_⟩⟩:=h
 ·cases h
 ·exact⟨g,cap,rfl⟩
theorem FI {w:World} {base e size n:Nat} {v:Value} {xs:List Value} (h:w.ownsRow base e size v n xs):∀k,v.ownBlock=some k→base≤k∧k<w.heap.size:=by
 obtain⟨_,⟨rfl,_⟩ | ⟨g,cap,cur,rfl,hge,hg,_⟩⟩:=h
 ·intro k hk;cases hk
 ·intro k hk
  cases hk;exact⟨hge,(GW.1 hg).1⟩
theorem yP (w:World) (os:Array Obj) {B:Nat} (hs:B≤w.heap.size):Below B w (grow w os) :=
 ⟨rfl,rfl,rfl,by rw [size_grow];omega,fun k hk=>heap_grow_old w os (by omega)⟩
theorem pH {w:World} (o:Obj) {n:Nat} (h:n=w.heap.size):(w.alloc o).heap[n]?=some o:=by
 subst h;exact Array.getElem?_push_size
theorem pd {w:World} (o:Obj) {n:Nat} {x:Obj} (h:w.heap[n]?=some x):(w.alloc o).heap[n]?=some x :=
 ((World.grownBy_alloc w o none).block n (GW.1 h).1 (by simp)).trans h
theorem wv {w:World} {b o:Nat} {x:Mk} (h:bz w b o (dD x)):w.cell? ⟨b,o,none⟩=some (.int .i64 x.1)∧w.cell? ⟨b,o+1,none⟩=some (.int .i64 x.2.1)∧w.cell? ⟨b,o+2,none⟩=some (.int .i64 x.2.2.1)∧w.cell? ⟨b,o+3,none⟩=some (.string x.2.2.2) :=
 ⟨h 0 _ rfl,h 1 _ rfl,h 2 _ rfl,h 3 _ rfl⟩
set_option maxHeartbeats 1000000 in
theorem Ao (l:List Mk) (hlen:l.length≤20) (B N g cap:Nat) (w:World) (cur:Array Value)
  (q:w.heap[N]?=some (.cells #[.slice (some ⟨g,0,none⟩) l.length cap] 24 (0,0))) (hg:w.heap[g]?=some (.cells cur 37 (0,0))) (hB:B≤g) (hBw:B≤w.heap.size) (hcur:l.length*4≤cur.size)
  (hrow:∀(i:Nat) (u:Value),(l.flatMap dD)[i]?=some u→cur[i]?=some u) :
  Calls Tryz.prog 66 #[.iface 24 (.slice (some ⟨g,0,none⟩) l.length cap),.func (.func 85) #[] #[.pointer (some ⟨N,0,none⟩)]] w fun e w' =>
   e = .returned (.tuple #[])∧Below B w w'∧w'.cell? ⟨N,0,none⟩=some (.slice (some ⟨g,0,none⟩) l.length cap) ∧
    ∃cur',w'.heap[g]?=some (.cells cur' 37 (0,0))∧cur'.size=cur.size∧∀(i:Nat) (u:Value),((fW l).flatMap dD)[i]?=some u→cur'[i]?=some u:=by
 have hgl:g<w.heap.size:=(GW.1 hg).1;have hn:N≠g:=fun e=>by rw [e,hg] at q;simp at q
 by_cases h2:2≤l.length
 ·have hsz:l.toArray.size=l.length:=by simp
  have hH:HoldsK dD 4 w g 0 l.toArray:=fun j hj=>by
   rw [size_flatK,hsz] at hj;refine⟨?_,Lib.frozen_of_heap hg _⟩
   rw [HQ hg,HE,hrow j ((flatK dD 4 l.toArray)[j]!) (by
    rw [get_flatK dD 4 l.toArray j (by rw [hsz];exact hj)];exact zO l.toArray j (by rw [hsz];exact hj))]
   rfl
  have hless:vF Tryz.prog 85 #[.pointer (some ⟨N,0,none⟩)] dD 4 Aq g 0 l.toArray.size w:=by
   intro dk W hs hsw i j hi hj;rw [hsz] at hs hi hj;have k3:=(pO hsw hn (GW.1 q).1).trans (iO q).1;have hold:=hsw.holds hgl hH (by rw [hsz,hs]);have hat:∀y,y<l.length→bz W g (0+y*4) (dD dk[y]!):=fun y hy t u hu=>by
    have ht:t<4:=(Hi.1 hu).1;have:=(hold.cell (i:=y) (c:=t) (by omega) ht).1;rw [this,←hu];rw [Hj ht,getElem!_pos _ t ht]
   obtain⟨d0,d1,d2,d3⟩:=wv (hat _ hi);obtain⟨e0,e1,e2,e3⟩:=wv (hat _ hj);exact AB i j _ _ N g 0 cap l.length W k3 hi hj d0 d1 d2 d3 e0 e1 e2 e3
  have hc:=yO dD (fun _=>rfl) (fun x v hv=>by simp [dD] at hv;rcases hv with rfl | rfl | rfl | rfl<;>rfl) Aq 85 #[.pointer (some ⟨N,0,none⟩)] g 0 cap l.toArray w hgl
   (HF Tryz.func85 (by kernel_rfl) rfl) hless hH (by rw [hsz];exact h2) (by rw [hsz];omega)
  rw [hsz] at hc;refine hc.mono ?_
  rintro e w' ⟨rfl,hsw⟩;refine⟨rfl,As hsw hB hBw,(pO hsw hn (GW.1 q).1).trans (iO q).1,?_⟩
  have hz:(Ht Aq l.toArray 0 l.length).size=l.length:=by
   have:=mg l;simpa [fW] using this
  exact AA hsw hg (by omega)
 ·refine(yB 85 _ (some ⟨g,0,none⟩) l.length cap (by omega) w).mono ?_
  rintro e w' ⟨rfl,os,rfl⟩;refine⟨rfl,yP w os hBw,(cell?_grow _ _ _ (GW.1 q).1).trans (iO q).1,cur,(heap_grow_old _ _ hgl).trans hg,rfl,fun i u hu=>hrow i u ?_⟩
  have he:fW l=l:=by
   unfold fW Ht;rw [insOuter_stop _ _ _ _ _ (by omega)]
  rw [he] at hu;exact hu
end Go.Proofs.YtidhhpakdogiaaaGreatDoor

namespace Go.Proofs.YtidhhpakdogiaaaGreatDoor
open Go Go.Proofs Go.V Go.RowKit Go.Sort
set_option maxRecDepth 100000
theorem Ft (g j:Nat):(⟨g,0,none⟩:Addr).add j=⟨g,0+j,none⟩:=by cases j<;>simp [Addr.add]
set_option maxHeartbeats 2000000 in
set_option maxRecDepth 1000000 in
theorem Ar (l:List Mk) (hlen:l.length≤20) (A:Option Addr) (c:Nat) (w:World)
  (hA:∀i,i<l.length→∃b o,A=some ⟨b,o,none⟩∧b<w.heap.size∧∀(i:Nat) (x:Mk),l[i]?=some x→bz w b (o+i*4) (dD x))
  (hcall:∀W,Below w.heap.size w W→∀i,i<l.length→Calls Tryz.prog 83 #[.slice A l.length c,.int .i64 (i:Int)] W fun e W'=>e = .returned (.bool (mK l i))∧Below W.heap.size W W') :
  Calls Tryz.prog 41 #[.slice A l.length c] w fun e w'=>∃g cap cur,e = .returned (.slice (some ⟨g,0,none⟩) (fil l l.length).length cap)∧Below w.heap.size w w'∧w.heap.size≤g ∧
   w'.heap[g]?=some (.cells cur 37 (0,0))∧(fil l l.length).length≤cap∧cap*4≤cur.size∧∀(i:Nat) (u:Value),((fW (fil l l.length)).flatMap dD)[i]?=some u→cur[i]?=some u:=by
 obtain⟨i0,hi,hz0,hz1,hz2⟩:=info_parts Gp
 go_enter Tryz.func41,Tryz.ntmps41
 go_wp2
 go_loopw [9] (fun vi wr=>∃(k g cap:Nat),vi = .int .i64 k∧k≤l.length∧
   wr.heap[w.heap.size+1]?=some (.cells #[.slice (some ⟨g,0,none⟩) (fil l k).length cap] 24 (0,0))∧wr.ownsRow w.heap.size 37 4 (.slice (some ⟨g,0,none⟩) (fil l k).length cap) (fil l k).length ((fil l k).flatMap dD)∧Below w.heap.size w wr∧w.heap.size+2≤wr.heap.size) (fun vi _=>l.length - (intOf vi).toNat)
 case atStart =>
  refine⟨0,w.heap.size,0,rfl,Hc _,?_,⟨rfl,.inr ⟨_,0,#[],rfl,HH _,?_,HH _,Hc _,rfl,rfl⟩⟩,((Below.refl _ w).alloc (HH _) _).alloc (by simp) _,by simp⟩
  ·exact pH _ (by simp)
  ·exact pd _ (pH _ rfl)
 case round =>
  obtain⟨k,g,cap,rfl,hk,q3,hrow,hbw,hsz⟩:=hrel;by_cases hp:k<l.length
  ·have hpi:(k:Int)<(l.length:Int):=by omega
   obtain⟨b,o,rfl,hb,hcells⟩:=hA k hp;have hx:l[k]?=some l[k]:=by simp [hp]
   have hgd:l.getD k mk0=l[k]:=by simp [hp]
   obtain⟨d0,d1,d2,d3⟩:=wv (fun t u hu=>(hbw.cell hb).trans (hcells k _ hx t u hu));have hfs:=CM l k;rw [hgd] at hfs;have hfl:=oQ l k;generalize l[k]=x at *;obtain⟨s0,s00⟩:=iO q3;have hb1:∀p,Below w.heap.size w (wr.alloc p):=fun p=>hbw.alloc hbw.size p
   have hkf:∀(p:Obj) (W:World),Below (wr.alloc p).heap.size (wr.alloc p) W→Below w.heap.size w W∧W.heap[w.heap.size+1]?=some (.cells #[.slice (some ⟨g,0,none⟩) (fil l k).length cap] 24 (0,0))∧W.ownsRow w.heap.size 37 4 (.slice (some ⟨g,0,none⟩) (fil l k).length cap) (fil l k).length ((fil l k).flatMap dD)∧wr.heap.size+1≤W.heap.size∧W.heap[wr.heap.size]?=some p:=fun p W hB=>by
    have hs1:(wr.alloc p).heap.size=wr.heap.size+1:=by simp
    refine⟨(hb1 p).trans (hB.mono (by omega)),(hB.block _ (by omega)).trans (pd _ q3),(hrow.alloc p).kept (row:=none) ⟨hB.os,hB.tape,hB.output,hB.size,fun j hj _=>hB.block j hj⟩ (.inr (by simp [HV])),by have:=hB.size;omega,(hB.block _ (by omega)).trans (pH _ rfl)⟩
   cases hv:mK l k
   ·have hc2:∀W,Below w.heap.size w W→Calls Tryz.prog 83 #[.slice (some ⟨b,o,none⟩) l.length c,.int .i64 (k:Int)] W fun e W'=>e = .returned (.bool false)∧Below W.heap.size W W':=fun W hW=>by
     have:=hcall W hW k hp;rwa [hv] at this
    go_wp2_with (go_at_call 83;refine(hc2 _ (hb1 _)).mono ?_;rintro e w2 ⟨rfl,hB⟩)
    obtain⟨f1,f2,f3,f4,f5⟩:=hkf _ _ hB;rw [hv,if_neg (by simp)] at hfs;refine⟨⟨k+1,g,cap,congrArg (Ih .i64) (by omega),by omega,by rw [hfs];exact f2,by rw [hfs];exact f3,f1,by omega⟩,?_⟩
    show l.length - ((k:Int)+1).toNat<l.length - (k:Int).toNat
    omega
   ·have hc2:∀W,Below w.heap.size w W→Calls Tryz.prog 83 #[.slice (some ⟨b,o,none⟩) l.length c,.int .i64 (k:Int)] W fun e W'=>e = .returned (.bool true)∧Below W.heap.size W W':=fun W hW=>by
     have:=hcall W hW k hp;rwa [hv] at this
    go_wp2_with (first
     | (go_at_call 83;refine(hc2 _ (hb1 _)).mono ?_;rintro e w2 ⟨rfl,hB⟩;obtain⟨f1,f2,f3,f4,f5⟩:=hkf _ _ hB;obtain⟨s1,s10⟩:=iO f2;obtain⟨m0,m1,m2,m3⟩:=Bz f5)
     | (at_builtin;go_loud (refine wpList_append_own_at _ rfl _ _ 24 rfl w.heap.size 37 i0 (.agg #[.int .i64 0,.int .i64 0,.int .i64 0,.string ⟨#[]⟩]) 4 40 Tryz.underlying24 hi hz0 hz1 hz2 rfl (by decide) _ _ _ rfl (f3.alloc _) ⟨w2.heap.size,0,none⟩ 1 1 [.int .i64 x.1,.int .i64 x.2.1,.int .i64 x.2.2.1,.string x.2.2.2] rfl rfl (fun j u hj=>(Ft _ j).symm ▸ yU (w:=w2.alloc (.cells #[.int .i64 x.1,.int .i64 x.2.1,.int .i64 x.2.2.1,.string x.2.2.2] 37)) (pH _ rfl) j u hj) (by intro u hu;simp at hu;rcases hu with rfl | rfl | rfl | rfl<;>rfl) (by unfold maxLen;omega) (by omega) (by simp;omega) ?_;intro v' w3 hown' hgrow hnil hat;obtain⟨g',cap',rfl⟩:=Bb hown';have h3:=(hgrow.block (w.heap.size+1) (by simp;omega) (sG f3 f2 (by decide)).symm).trans (pd _ f2);obtain⟨s2,s20⟩:=iO h3))
     | go_in)
    rw [hv,if_pos rfl] at hfs;have hfl1:(fil l (k+1)).length=(fil l k).length+1:=by rw [hfs];simp
    have hfc:(fil l (k+1)).flatMap dD=(fil l k).flatMap dD++dD x:=by rw [hfs];simp
    have hnb':=sG hown' h3 (by decide);have hw3:Below w.heap.size w w3:=(f1.alloc (by omega) _).grown hgrow (by simp;omega) (fun j hj=>(FI f3 j hj).1);refine⟨⟨k+1,g',cap',congrArg (Ih .i64) (by omega),by omega,?_,?_,hw3.setCell (by simp) _,?_⟩,?_⟩
    ·rw [heap_setCell_same _ _ _ _ _ _ h3,hfl1]
     rfl
    ·rw [hfl1,hfc]
     exact hown'.kept (Bc _ _ _) (.inr hnb')
    ·have:=hgrow.size
     simp [World.setCell] at this ⊢;omega
    ·show l.length - ((k:Int)+1).toNat<l.length - (k:Int).toNat
     omega
  ·have hpi:¬(k:Int)<(l.length:Int):=by omega
   have hkn:k=l.length:=by omega
   subst hkn;obtain⟨hxs,⟨hv,_⟩ | ⟨g2,cap2,cur,hv,hge,hg,hcap,_,hcs,htake⟩⟩:=hrow
   ·cases hv
   cases hv;have hwsz:=hbw.size;have hfl:=oQ l l.length;have hflen:=sV (fil l l.length);have hrow2:∀(i:Nat) (u:Value),((fil l l.length).flatMap dD)[i]?=some u→cur[i]?=some u:=fun i u hi=>by
    have hi2:=(Hi.1 hi).1;rw [←htake,List.getElem?_take_of_lt (by omega)] at hi;simpa using hi
   have hs:=Ao (fil l l.length) (by omega) w.heap.size (w.heap.size+1) g cap wr cur q3 hg hge hwsz (by rw [hcs];exact Nat.mul_le_mul_right 4 hcap) hrow2;obtain⟨s0,s00⟩:=iO q3
   go_wp2_with (go_at_call 66;refine hs.mono ?_;rintro e w' ⟨rfl,hB,hbox,hfin⟩)
   go_ret
   obtain⟨cur',f1,f2,f3⟩:=hfin;exact⟨g,cap,cur',rfl,hbw.trans hB,hge,f1,hcap,by omega,f3⟩
end Go.Proofs.YtidhhpakdogiaaaGreatDoor

namespace Go.Proofs.YtidhhpakdogiaaaGreatDoor
open Go Go.Proofs Go.V Go.RowKit Go.Shelf
set_option maxRecDepth 100000
def xN:D→Option Mk
 | .agg [.v (.int .i64 a),.v (.int .i64 b),.v (.int .i64 c),.v (.string d)]=>some (a,b,c,d)
 | _=>none
theorem Bt {d:D} {x:Mk} (h:xN d=some x):d=mkD x:=by
 unfold xN at h;split at h
 ·cases h;rfl
 ·cases h
def vm:List D→Option (List Mk)
 | []=>some []
 | d::l=>(xN d).bind fun x=>(vm l).map (x::·)
theorem sR:∀(ds:List D) (l:List Mk),vm ds=some l→ds=l.map mkD
 | [],l,h=>by cases h;rfl
 | d::ds,l,h=>by
  simp only [vm,HR,Option.map_eq_some_iff] at h;obtain⟨x,h1,m,h2,rfl⟩:=h;rw [Bt h1,sR ds m h2];rfl
theorem vK:∀(l:List Mk),vm (l.map mkD)=some l
 | []=>rfl
 | x::l=>by
  simp only [List.map_cons,vm,vK l];rfl
theorem Aa {w:World} {F:Nat→Prop}:∀(l:List Mk) (us:List Value),bf w F (l.map mkD) us→us=l.flatMap dD
 | [],us,h=>aD.1 h
 | x::l,us,h=>by
  obtain⟨v1,v2,rfl,h1,h2⟩:=aq.1 h;rw [Aa l v2 h2];simp only [RepC] at h1;obtain⟨u1,r1,rfl,g1,h1⟩:=aq.1 h1.1;obtain⟨u2,r2,rfl,g2,h1⟩:=aq.1 h1;obtain⟨u3,r3,rfl,g3,h1⟩:=aq.1 h1;obtain⟨u4,r4,rfl,g4,h1⟩:=aq.1 h1;simp only [RepC] at g1 g2 g3 g4;rw [g1.1,g2.1,g3.1,g4.1,aD.1 h1];rfl
theorem zZ {w:World} {F:Nat→Prop}:∀(l:List Mk),bf w F (l.map mkD) (l.flatMap dD)
 | []=>aD.2 rfl
 | x::l=>aq.2 ⟨dD x,l.flatMap dD,rfl,by
  simp only [RepC];refine⟨?_,rfl⟩
  refine aq.2 ⟨[.int .i64 x.1],[.int .i64 x.2.1,.int .i64 x.2.2.1,.string x.2.2.2],rfl,by simp only [RepC];exact⟨trivial,rfl⟩,?_⟩
  refine aq.2 ⟨[.int .i64 x.2.1],[.int .i64 x.2.2.1,.string x.2.2.2],rfl,by simp only [RepC];exact⟨trivial,rfl⟩,?_⟩
  refine aq.2 ⟨[.int .i64 x.2.2.1],[.string x.2.2.2],rfl,by simp only [RepC];exact⟨trivial,rfl⟩,?_⟩
  exact aq.2 ⟨[.string x.2.2.2],[],rfl,by simp only [RepC];exact⟨trivial,rfl⟩,aD.2 rfl⟩,zZ l⟩
theorem vf {w:World} {b:Nat}:∀(l:List Mk) (o:Nat),bz w b o (l.flatMap dD)→∀(i:Nat) (x:Mk),l[i]?=some x→bz w b (o+i*4) (dD x)
 | [],_,_,i,x,hx=>by simp at hx
 | y::l,o,h,0,x,hx=>by
  simp only [List.getElem?_cons_zero,HK] at hx;subst hx;intro j u hu;have:=h j u (by rw [Hw,HM (Hi.1 hu).1];exact hu);simpa using this
 | y::l,o,h,i+1,x,hx=>by
  have:=vf l (o+4) (by
   have:=h.drop 4;exact this) i x (by simpa using hx)
  rw [show o+(i+1)*4=o+4+i*4 by omega];exact this
theorem xQ {P:Program} {G:List (Nat × (Obj→Prop))} {f:FuncId} {S:FS} (he:∀args w,(callFunc f args).run P w = .ok (.enter f args) w) (hm:aw G P f S) {ds:List D} {y:Value} (f':List D→Option Out) (hf':S.f=f') (hd:f' ds=some (.ret [.v y] [])) (hrm:S.rm=[.dat 0]) {args:Array Value} {w:World} {F:Nat→Prop}
  (hgl:gOk G w F) (ha:dG w F (fun _=>none) 0 S.pm ds args.toList) (hF:∀b,F b→b<w.heap.size):Calls P f args w fun e w'=>e = .returned y∧Below w.heap.size w w':=by
 refine(lu he hm (hf' ▸ hd) hgl ha (fun b hb=>⟨hF b hb,rfl⟩) (fun b i h=>by cases h)).mono ?_
 rintro e w' ⟨v,rfl,F',R,vs,rfl,hpost⟩;have hl:=hpost.len;rw [hrm] at hl;obtain⟨u,rfl⟩:=List.length_eq_one_iff.1 hl;have h0:=hpost.res 0;rw [hrm] at h0;simp only [ak,nth,Ib] at h0;rcases h0 with h0 | h0
 ·cases h0
 exact⟨by rw [gS,(iL.1 h0).1],⟨hpost.os,hpost.tape,hpost.output,hpost.size,fun b hb=>hpost.keep b hb rfl⟩⟩
def vO:List D→Option Out
 | [.arr 4 ds]=>(vm ds).bind fun l=>if l.length≤20 then some (.ret [mks (fW (fil l l.length))] []) else none
 | _=>none
theorem DM (l:List Mk) (h:l.length≤20):vO [mks l]=some (.ret [mks (fW (fil l l.length))] []):=by
 simp -implicitDefEqProofs only [vO];rw [vK,GZ,if_pos h]
@[reducible] def ro:FS:={pm:=[.dat 2],rm:=[.own 4 0 false],f:=vO}
theorem xv:aw gl0 Tryz.prog 41 ro:=by
 have he:∀args w,(callFunc 41 args).run Tryz.prog w = .ok (.enter 41 args) w:=HF Tryz.func41 (by kernel_rfl) rfl;refine dy he fun ds rs us hd args w F ow hg ha hF _=>?_
 obtain⟨d,y,rfl,h2,h3⟩:=tB ha;replace hd:vO [d]=some (.ret rs us):=hd;unfold vO at hd;split at hd
 case h_2=>cases hd
 rename_i ds e;cases e;obtain⟨l,hl,hd'⟩:=HR.1 hd;clear hd;split at hd'
 case isFalse=>cases hd'
 rename_i hz;obtain rfl:=sR _ _ hl;cases hd';rcases h3 with h3 | h3
 ·cases h3
 have hrep:=h3;simp only [bw,RepC] at h3;obtain⟨A,c,us',hy,hc,hr,_,hA⟩:=h3;simp only [HS,and_true] at hy;subst hy;rw [Aa l us' hr] at hA;rw [Ha] at hc;rw [Cv h2];replace hrep:bw w F (mks l) (.slice A (l.map mkD).length c):=hrep;have hrep2:=hrep;rw [Ha] at hrep2 ⊢;refine(Ar l hz A c w (fun i hi=>?_) (fun W hW i hi=>?_)).mono ?_
 ·have hne:l.map mkD≠[]:=fun e=>by
   have e2:l=[]:=by simpa using e
   subst e2;simp at hi
  obtain⟨b,o,rfl,h5,h6⟩:=hA hne;exact⟨b,o,rfl,(hF b h5).1,vf l o h6⟩
 ·exact xQ (HF Tryz.func83 (by kernel_rfl) rfl) om dY rfl (jM l i (by omega) hi) rfl (pP (fun _ h=>h) (fun b hb=>hW.block b (hF b hb).1) hg)
   (show jy W F _ (.dat 2) (mks l) (.slice A l.length c)∧jy W F _ (.dat 0) (I i) (.int .i64 i)∧True from⟨.inr (aZ (fun _ h=>h) (fun b hb=>hW.block b (hF b hb).1) hrep2),.inr (iL.2 ⟨rfl,rfl⟩),trivial⟩) (fun b hb=>Nat.lt_of_lt_of_le (hF b hb).1 hW.size)
 ·rintro e w' ⟨gg,cap,cur,rfl,hB,hgg,hcell,hcap,hcs,hrow⟩
  have hlen:=mg (fil l l.length);refine⟨_,rfl,F,fun b=>if b=gg then some 0 else none,[_],rfl,uo _ hB hF (fun b j hb=>?_) rfl rfl rfl rfl fun j=>?_⟩
  ·split at hb
   ·rename_i e
    subst e;exact⟨hgg,(GW.1 hcell).1⟩
   ·cases hb
  ·match j with
   | 0 =>
    refine .inr ⟨(fW (fil l l.length)).map mkD,rfl,fun x hx=>?_,.inr ⟨gg,0,cap,(fW (fil l l.length)).flatMap dD,cur,_,?_,?_,hcell,by omega,zZ _,fun i u hu=>?_,by simp,hgg⟩⟩
    ·obtain⟨s,_,rfl⟩:=List.mem_map.1 hx
     rfl
    ·rw [Ha,hlen]
     rfl
    ·rw [Ha,hlen]
     exact hcap
    ·rw [HE]
     exact hrow i u hu
   | j+1=>exact .inl rfl
end Go.Proofs.YtidhhpakdogiaaaGreatDoor

namespace Go.Proofs.YtidhhpakdogiaaaGreatDoor
open Go.V
set_option maxRecDepth 100000
@[reducible] def ig:Cx:={K:=[Yc,Yc,.no,.no,Yo 1 0,Y,Yo 1 0,Y,Y,Yc,Yc,Y,Y,Y,Yc,Yb,Y,Y,Y,Yo 1 0,Yo 1 0,Yc,Y,Y,Y,Y,Yc,Y,Yo 1 0,Y,Y,Yc,Yb,Y,Yb,Yo 1 0,Y,.via 6,Y,Y,Yo 1 0,Yo 1 0],T:=[(3,ty3),(9,ty9),(23,jN),(29,xP),(35,pf)],S:=[(12,fM),(21,eW),(39,gb),(40,mA),(41,ro)],H:=[(0,([1,6,21,22,23],[6]))],res:=[.tmp 4,.tmp 5],ios:=[],G:=gl0}
def dl:List D→Option Out:=bM ig Tryz.f6
@[reducible] def il:FS:={pm:=[Yc,Yc],rm:=[Yo 1 0,Y],f:=dl}
theorem nt:aw gl0 Tryz.prog 6 il:=aM (c:=ig) (ac jq (ac gW (ac kH (ac tk (ac xv aB))))) Tryz.func6 rfl rfl (by kernel_rfl)
@[reducible] def mh:Cx:={K:=[Yc,Yc,.no,.no,Y,Yb,Yb,Yb,Y,Yb,Y,Yb,Y,Yb,Y,.no,Yb,.box 4 0 false,.box 4 0 false,.box 4 0 false,Y,Y,Y,Y,Y,.box 4 0 false,Y,.box 4 0 false,Y,Yb,Yb,Yb,.box 4 0 false,Y,Y,Y,Yc,Y,Yc,Y,Y,Y,.tup [Yb,Yo 4 0],Yc,.tup [Yb,Yo 4 0],Yb,Yb,.tup [Yo 1 0,Y],Yb,Yb,.tup [Yo 1 0,Y],Yb,Y,.tup [Yo 1 0,Y],Yb,Yb,.tup [Yo 1 0,Y],Yb,Y,.tup [Yo 1 1,Y],Yb,Yb,.tup [Yo 1 1,Y],Yb,Y,.tup [Yo 1 1,Y],Yb,Yb,.tup [Yo 1 1,Y],Yb,Y,Y,Y,Y,Y,Yb,Yb,Y,Y,Y,Y,Y,Y,Y,Y,Y,Yb,Yb,Y,Y,Y,Y,Y,Y,Y,Y,Y,Yb,Y,Y,Y,Y,Yb,Y,Yb,Y,Y,Y,Y,Yb,Y,Y,Y,Y,Y,Yb,Y,Y,Y,Yb,Yb,Yb,Yb,Yb,Y,Yb,Y,Yb,Yb,Yb,Y,Yb,Y,Yr 17,Y,Yr 18,Y,Y,Y,Yr 17,Y,Yr 18,Y,Y,Y,Y,Yb,Yb,Y,Yb,Yb,Y,Y,Y,Y,Yc,Y,.tup [Y,Y],Y,.tup [Y,Y],Y,Y,.tup [Y,Y],Y,.tup [Y,Y],Y,Y,Yc,Y,.tup [Y,Y],Y,.tup [Y,Y],Y,Y,.tup [Y,Y],Y,.tup [Y,Y],Y,Y,.tup [Yb,Yo 4 0],Yc,.tup [Yb,Yo 4 0],Yb,Yb,Yc,Yb,Y,Y,Y,Y,Y,Y,Y,Y,Y,Y,Y,Y,Y,Y,Y,Y,Y,Y,Y,Yb,Yb,Y,Yb,Yb,Y,Y,Y,Y,Yb,Y,Yb,Y,Y,Y,Y,.tup [Y,Y],Y,.tup [Y,Y],Y,Y,Y,Y,Y,Y,Y,Y,Y,Y,.tup [Y,Y],Y,.tup [Y,Y],Y,Y,Y,Y,Y,Y,Y,Y],T:=[(3,ty3),(4,ty4),(5,ty5),(9,ty9),(22,wX),(23,jN),(24,rJ),(29,xP),(35,pf),(37,iZ)],S:=[(5,fi),(6,il),(7,ia),(8,gJ),(9,gN),(10,nU),(11,ov),(12,fM),(13,ij),(14,lA),(15,lK),(16,gL),(17,kK),(18,kP),(19,eK),(20,je),(21,eW),(22,lJ),(23,mC)],H:=[(0,([1,6,115,116,117],[1]))],res:=[.tmp 4],ios:=[],G:=gl2}
@[reducible] def lX:List (Nat × List Nat):=[(524287,[24,25,26])]
def fJ:List D→Option Out:=rC mh lX Tryz.f3
@[reducible] def jf:FS:={pm:=[Yc,Yc],rm:=[Y],f:=fJ}
theorem sY:aw gl2 Tryz.prog 3 jf:=Bk (J:=lX) (P:=Tryz.prog) (c:=mh) (fn:=Tryz.f3) (pm:=jf.pm) (rm:=jf.rm) (by kernel_rfl) (ac (aN jQ kh) (ac (aN jQ nt) (ac (aN jQ nH) (ac (aN jQ mo) (ac (aN jQ mD) (ac (aN jQ uM) (ac (aN jQ uX) (ac (aN jQ jq) (ac (aN jQ nB) (ac (aN FM rZ) (ac (aN jQ rR) (ac (aN jQ mr) (ac rf (ac (aN jQ qY) (ac (aN jQ hZ) (ac (aN jQ oP) (ac (aN jQ gW) (ac (aN jQ rN) (ac (aN jQ tQ) aB))))))))))))))))))) jS (by kernel_rfl) Tryz.func3 (by kernel_rfl) (by kernel_rfl) rfl
open Go Go.V
set_option maxRecDepth 100000
theorem nw (x0 x1:D):dl [x0,x1]=(aj (cL [x0,x1]) fun c _=>(un .not (sl c 0)).bind fun z=>(ab (.tup []) z false (some x1)).bind fun d=>dE z false (aj (dp [d]) fun c _=>some (.nrm [sl c 0])) [.tup []] fun e=>(ab (.tup []) z false (lenD false (sl e 0))).bind fun f=>(ab (.tup []) z false (bin .gtr false [] f (I 0))).bind fun g=>(aE z (B true) g).bind fun z=>ifD z ((aC 1 []).bind fun a=>some (.ret [a,B false] [])) ((aC 1 []).bind fun a=>(lenD false x0).bind fun z=>(aY (fun s=>(bin .lss false [] (sl s 4) (sl s 3)).bind fun z=>ifD z ((Ho D.ptr (aH 1 (sl s 2) (sl s 4))).bind fun z=>((ldD false 1 z).bind bg).bind fun z=>aj (vO [sl s 0]) fun c _=>aj (fI [z,sl s 4,sl c 0]) fun c _=>(aC 1 [sl c 0]).bind fun a=>(iu a).bind fun b=>(fT 1 16 (sl s 1) b).bind fun y=>(bin .add false [] (sl s 4) (I 1)).bind fun z=>some (.nrm [sl s 0,y,sl s 2,sl s 3,z])) (some (.ext 0 [sl s 1]))) [x1,a,x0,z,I 0]).bind fun o=>cH o (fun i s=>ifN (i.beq 0) ((aa (sl s 0) (.ref 0 0)).bind fun z=>(aa z (sl s 0)).bind fun i=>aj (cd [i]) fun c _=>(un .not (sl c 0)).bind fun z=>ifD z ((aC 1 []).bind fun a=>some (.ret [a,B false] [])) (some (.ret [sl s 0,B true] []))) none) fun a b=>some (.ret a b))):=by kernel_rfl
theorem sQ (x0 x1:D):fJ [x0,x1]=((lenD false x0).bind fun z=>(lenD false x1).bind fun z_1=>(bin .add false [] z z_1).bind fun z=>(bin .gtr false [] z (I 1048576)).bind fun z=>ifD z (some (.ret [B true] [])) (aj (ck [x0]) fun c _=>(bB (.tup c) 0).bind fun z=>(bB (.tup c) 1).bind fun y=>aj (dl [z,y]) fun c _=>(bB (.tup c) 0).bind fun zt=>(bB (oN (.tup c) 0) 1).bind fun zu=>aj (dm [z,y]) fun c _=>(bB (.tup c) 0).bind fun zv=>(bB (oN (.tup c) 0) 1).bind fun z_3=>aj (cS [z,y]) fun c _=>(bB (.tup c) 0).bind fun y_3=>(bB (oN (.tup c) 0) 1).bind fun zw=>aj (cP [z,y]) fun c _=>(bB (.tup c) 0).bind fun w=>(bB (oN (.tup c) 0) 1).bind fun z_5=>(bin .neq true [] zu z_3).bind fun t=>(ab (.tup []) t false (some zt)).bind fun z_7=>(ab (.tup []) t false (some zv)).bind fun z_8=>dE t false (aj (gp [z_7,z_8]) fun c _=>some (.nrm [sl c 0])) [.tup []] fun f=>(ab (.tup []) t false (un .not (sl f 0))).bind fun z_9=>(aE t (B true) z_9).bind fun za=>(ab (.tup []) za false (some zw)).bind fun z_11=>(ab (.tup []) za false (some z_5)).bind fun z_12=>(ab (.tup []) za false (bin .neq true [] z_11 z_12)).bind fun z_13=>(aE za (B true) z_13).bind fun u=>(ab (.tup []) u false (some y_3)).bind fun z_15=>(ab (.tup []) u false (some w)).bind fun z_16=>dE u false (aj (gu [z_15,z_16]) fun c _=>some (.nrm [sl c 0])) [.tup []] fun f=>(ab (.tup []) u false (un .not (sl f 0))).bind fun z_17=>(aE u (B true) z_17).bind fun zb=>(ab (.tup []) zb false (some zu)).bind fun z_19=>(ab (.tup []) zb false (some z_19)).bind fun g=>(ab (.tup []) g true (some zw)).bind fun z_21=>(ab (.tup []) g true (un .not z_21)).bind fun z_22=>(ab (.tup []) g true (some z_22)).bind fun zc=>(ab (.tup []) zc false (some w)).bind fun z_24=>(ab (.tup []) zc false (lenD false z_24)).bind fun z_25=>(ab (.tup []) zc false (bin .gtr false [] z_25 (I 0))).bind fun z_26=>(ab (.tup []) g true (aE zc (B true) z_26)).bind fun z_27=>(ab (.tup []) g true (some z_27)).bind fun l=>(ab (.tup []) l false (some zv)).bind fun z_29=>(ab (.tup []) l false (lenD false z_29)).bind fun z_30=>(ab (.tup []) l false (some z)).bind fun z=>(ab (.tup []) l false (lenD false z)).bind fun z=>(ab (.tup []) l false (bin .neq false [] z_30 z)).bind fun z=>(ab (.tup []) g true (aE l (B true) z)).bind fun z=>(ab (.tup []) g true (some z)).bind fun z=>(ab (.tup []) z false (some zt)).bind fun z_31=>dE z false (aj (cd [z_31]) fun c _=>some (.nrm [sl c 0])) [.tup []] fun f=>(ab (.tup []) z false (un .not (sl f 0))).bind fun z_32=>(ab (.tup []) g true (aE z (B true) z_32)).bind fun z=>(ab (.tup []) zb false (aE g z (B false))).bind fun z=>(aE zb (B true) z).bind fun z=>ifD z (some (.ret [B false] [])) ((lenD false w).bind fun z=>(aY (fun s=>(bin .lss false [] (sl s 4) (sl s 3)).bind fun z=>ifD z ((Ho D.ptr (aH 1 (sl s 2) (sl s 4))).bind fun z=>(ldD false 1 z).bind fun z=>(Ho D.ptr (aH 1 z (I 0))).bind fun zd=>((ldD false 1 zd).bind bg).bind fun zf=>(Ho D.ptr (aH 4 (sl s 1) zf)).bind fun zg=>((ldD true 4 zg).bind bg).bind fun zh=>(Ho D.ptr (aH 1 z (I 1))).bind fun zi=>((ldD false 1 zi).bind bg).bind fun v=>(Ho D.ptr (aH 4 (sl s 1) v)).bind fun zj=>((ldD true 4 zj).bind bg).bind fun zk=>(stD 4 (.agg [I 0,I 0,I 0,.v (.string ⟨⟨[]⟩⟩)]) (.ref 0 0) zh).bind fun b=>(stD 4 (.agg [I 0,I 0,I 0,.v (.string ⟨⟨[]⟩⟩)]) (.ref 0 0) zk).bind fun h=>(aa b (.ref 0 0)).bind fun ze=>((atD b ze).bind (ao false 1)).bind fun m=>(aa h (.ref 0 0)).bind fun zl=>((atD h zl).bind (ao false 1)).bind fun zm=>(bin .neq false [] m zm).bind fun k=>(ab D.bad k false (aa b (.ref 0 1))).bind fun n=>(ab (.tup []) k false ((atD b n).bind (ao false 1))).bind fun zn=>(ab D.bad k false (aa h (.ref 0 1))).bind fun zo=>(ab (.tup []) k false ((atD h zo).bind (ao false 1))).bind fun zp=>(ab (.tup []) k false (bin .neq false [] zn zp)).bind fun p=>(aE k (B true) p).bind fun d=>(ab (.tup []) d false (some z)).bind fun zq=>(ab (.tup []) d false (Ho D.ptr (aH 1 zq (I 0)))).bind fun zr=>(ab (.tup []) d false ((ldD false 1 zr).bind bg)).bind fun e=>(ab (.tup []) d false (some z)).bind fun z=>(ab (.tup []) d false (Ho D.ptr (aH 1 z (I 1)))).bind fun z=>(ab (.tup []) d false ((ldD false 1 z).bind bg)).bind fun z=>(ab (.tup []) d false (bin .geq false [] e z)).bind fun z=>(aE d (B true) z).bind fun z=>ifD z (some (.ret [B false] [])) ((bin .add false [] (sl s 4) (I 1)).bind fun z=>some (.nrm [sl s 0,sl s 1,sl s 2,sl s 3,z]))) (some (.ext 0 [sl s 0]))) [x1,y,w,z,I 0]).bind fun o=>cH o (fun i s=>ifN (i.beq 0) (aj (dn [sl s 0]) fun c _=>(stD 4 (.agg [I 0,I 0,I 0,.v (.string ⟨⟨[]⟩⟩)]) (.ref 0 0) (sl c 0)).bind fun b=>(aX true 4 0 b).bind fun z=>aj (dQ [z]) fun c _=>(bB (.tup c) 0).bind fun z=>(bB (.tup c) 1).bind fun zd=>(aX true 4 0 b).bind fun zf=>aj (eY [zf]) fun c _=>(bB (.tup c) 0).bind fun zg=>(bB (.tup c) 1).bind fun zh=>aj (cO [sl s 0]) fun c _=>aj (dv [sl c 0]) fun rs_1 _=>(bB (.tup rs_1) 0).bind fun zi=>(bB (.tup rs_1) 1).bind fun v=>(stD 4 (.agg [I 0,I 0,I 0,.v (.string ⟨⟨[]⟩⟩)]) (.ref 0 0) zi).bind fun h=>aj (eE [sl c 0]) fun rs_2 _=>(bB (.tup rs_2) 0).bind fun zj=>(bB (.tup rs_2) 1).bind fun zk=>(stD 4 (.agg [I 0,I 0,I 0,.v (.string ⟨⟨[]⟩⟩)]) (.ref 0 0) zj).bind fun b_2=>aj (cA [sl s 0]) fun rs_3 _=>(bB (.tup rs_3) 0).bind fun ze=>(bB (.tup rs_3) 1).bind fun y=>aj (dN [sl s 0]) fun rs_4 _=>(bin .neq true [] zd zh).bind fun m=>(ab (.tup []) m false (some z)).bind fun zl=>(ab (.tup []) m false (some zg)).bind fun zm=>(ab (.tup []) m false (bin .neq false [] zl zm)).bind fun k=>(aE m (B true) k).bind fun n=>(ab (.tup []) n false (some v)).bind fun zn=>(ab (.tup []) n false (some zk)).bind fun zo=>(ab (.tup []) n false (bin .neq true [] zn zo)).bind fun zp=>(aE n (B true) zp).bind fun p=>(ab (.tup []) p false (aX true 4 0 h)).bind fun d=>(ab (.tup []) p false (aX true 4 0 b_2)).bind fun zq=>(ab (.tup []) p false (bin .neq false [1,1,1,3] d zq)).bind fun zr=>(aE p (B true) zr).bind fun e=>(ab (.tup []) e false (some ze)).bind fun z_55=>(ab (.tup []) e false (some y)).bind fun z_56=>dE e false (aj (cL [z_55,z_56]) fun c _=>some (.nrm [sl c 0])) [.tup []] fun f=>(ab (.tup []) e false (some ze)).bind fun z_57=>(ab (.tup []) e false (some y)).bind fun z_58=>dE e false (aj (eT [z_57,z_58]) fun c _=>some (.nrm [sl c 0])) [.tup []] fun outs_1=>(ab (.tup []) e false (bin .neq true [] (sl f 0) (sl outs_1 0))).bind fun z_59=>(aE e (B true) z_59).bind fun q=>(ab (.tup []) q false (some (sl rs_4 0))).bind fun z_61=>dE q false (aj (cd [z_61]) fun c _=>some (.nrm [sl c 0])) [.tup []] fun f=>(ab (.tup []) q false (some (sl rs_4 0))).bind fun z_62=>dE q false (aj (fy [z_62]) fun c _=>some (.nrm [sl c 0])) [.tup []] fun outs_2=>(ab (.tup []) q false (bin .neq true [] (sl f 0) (sl outs_2 0))).bind fun z_63=>(aE q (B true) z_63).bind fun z_64=>ifD z_64 (some (.ret [B false] [])) (zW (fun j=>ifD zd (aj (dv [z]) fun rs_5 _=>(bB (.tup rs_5) 0).bind fun z=>(bB (.tup rs_5) 1).bind fun r=>(stD 4 (.agg [I 0,I 0,I 0,.v (.string ⟨⟨[]⟩⟩)]) (.ref 0 0) z).bind fun b_3=>(un .not r).bind fun z=>(ab (.tup []) z false (aX true 4 0 b_3)).bind fun zs=>(ab (.tup []) z false (aX true 4 0 b)).bind fun z_67=>(ab (.tup []) z false (bin .neq false [1,1,1,3] zs z_67)).bind fun z_68=>(aE z (B true) z_68).bind fun z=>ifD z (some (.ret [B false] [])) (j [sl c 0,h,v])) (j [sl c 0,h,v])) fun s=>ifD (sl s 2) ((aX true 4 0 (sl s 1)).bind fun z=>aj (dQ [z]) fun c _=>(bB (.tup c) 0).bind fun z=>(bB (.tup c) 1).bind fun r=>(ab (.tup []) r true (some z)).bind fun z=>(ab (.tup []) r true (some (sl s 0))).bind fun zs=>(ab (.tup []) r true (bin .eql false [] z zs)).bind fun z=>(aE r z (B false)).bind fun z=>some (.ret [z] [])) (some (.ret [B true] [])))) none) fun a b=>some (.ret a b)))):=by kernel_rfl
set_option maxRecDepth 100000
theorem Ak {cl:Nat→Nat→Bool}:∀{L:List Nat},spL cl L=[]→L.Pairwise (fun i k=>cl i k=false)
 | [],_=>List.Pairwise.nil
 | i::t,h=>by
  rw [spL,List.append_eq_nil_iff,List.map_eq_nil_iff,List.filter_eq_nil_iff] at h;exact List.pairwise_cons.2 ⟨fun k hk=>by simpa using h.1 k hk,Ak h.2⟩
def rW (line:Int) (a:Nat) (M:List Mk):List Mk:=M.filter fun m=>decide (m.1=line∧m.2.1=(a:Int))&&decide (m.2.2.1=2)
def sj (line:Int) (a:Nat) (M:List Mk):List Mk:=M.filter fun m=>decide (m.1=line∧m.2.1=(a:Int)) && !decide (m.2.2.1=2)
theorem qe (line:Int) (a:Nat):∀(M:List Mk) (o b:ByteArray),M.foldl (cst line a) (o,b)=((sj line a M).foldl (fun _ m=>m.2.2.2) o,(rW line a M).foldl (fun _ m=>m.2.2.2) b)
 | [],_,_=>rfl
 | m::M,o,b=>by
  rw [HD];by_cases h1:m.1=line∧m.2.1=(a:Int)
  ·by_cases h2:m.2.2.1=2
   ·rw [show cst line a (o,b) m=(o,m.2.2.2) by simp [cst,h1,h2],qe line a M]
    simp [rW,sj,h1,h2]
   ·rw [show cst line a (o,b) m=(m.2.2.2,b) by simp [cst,h1,h2],qe line a M]
    simp [rW,sj,h1,h2]
  ·rw [show cst line a (o,b) m=(o,b) by unfold cst;rw [if_neg h1],qe line a M]
   have h3:decide (m.1=line∧m.2.1=(a:Int))=false:=decide_eq_false h1;unfold rW sj;rw [Hf (by simp [h3]),Hf (by simp [h3])]
theorem mT (line:Int) (a:Nat):∀(M:List Mk) (t o:ByteArray),M.foldl (csS line a) (t,o)=((rW line a M).foldl (fun t m=>t++m.2.2.2) t,(sj line a M).foldl (fun _ m=>m.2.2.2) o)
 | [],_,_=>rfl
 | m::M,t,o=>by
  rw [HD];by_cases h1:m.1=line∧m.2.1=(a:Int)
  ·by_cases h2:m.2.2.1=2
   ·rw [show csS line a (t,o) m=(t++m.2.2.2,o) by simp [csS,h1,h2],mT line a M]
    simp [rW,sj,h1,h2]
   ·rw [show csS line a (t,o) m=(t,m.2.2.2) by simp [csS,h1,h2],mT line a M]
    simp [rW,sj,h1,h2]
  ·rw [show csS line a (t,o) m=(t,o) by unfold csS;rw [if_neg h1],mT line a M]
   have h3:decide (m.1=line∧m.2.1=(a:Int))=false:=decide_eq_false h1;unfold rW sj;rw [Hf (by simp [h3]),Hf (by simp [h3])]
theorem EU {A:List Mk} (h:A.Pairwise fun x y=>clB x y=false) (hc:∀x∈A,∀y∈A,clB x y=true):A=[]∨∃x,A=[x]:=by
 match A,h with
 | [],_=>exact .inl rfl
 | [x],_=>exact .inr ⟨x,rfl⟩
 | x::y::A,h =>
  have h1:=(List.pairwise_cons.1 h).1 y (by simp);rw [hc x (by simp) y (by simp)] at h1;cases h1
theorem AV (line:Int) (a:Nat) {M:List Mk} (h:M.Pairwise fun x y=>clB x y=false):rW line a M=[]∨∃x,rW line a M=[x]:=by
 refine EU (h.sublist List.filter_sublist) fun x hx y hy=>?_
 have h1:=(Hs.1 hx).2;have h2:=(Hs.1 hy).2;simp only [GT,decide_eq_true_eq] at h1 h2;simp [clB,h1,h2]
theorem AM (line:Int) (a:Nat) {M:List Mk} (h:M.Pairwise fun x y=>clB x y=false):sj line a M=[]∨∃x,sj line a M=[x]:=by
 refine EU (h.sublist List.filter_sublist) fun x hx y hy=>?_
 have h1:=(Hs.1 hx).2;have h2:=(Hs.1 hy).2;simp only [GT,Bool.not_eq_true',decide_eq_false_iff_not,decide_eq_true_eq] at h1 h2;simp [clB,h1,h2]
theorem tO {A B:List Mk} (h:B.Perm A) (hA:A=[]∨∃x,A=[x]):B=A:=by
 rcases hA with rfl | ⟨x,rfl⟩
 ·exact h.eq_nil
 ·exact List.perm_singleton.1 h
theorem Fi (s:ByteArray) (line:Int) (l:List Mk) (h:spL (clA l) (lM l l.length)=[]):pc s line (fW (fil l l.length))=FA s line l (lM l l.length):=by
 have hp:(fil l l.length).Pairwise fun x y=>clB x y=false:=by
  unfold fil;rw [List.pairwise_map];exact Ak h
 unfold pc FA;congr 1
 funext t a
 have e1:∀(q:ByteArray × ByteArray),(lM l l.length).foldl (fun tq i=>csS line a tq (l.getD i mk0)) q=(fil l l.length).foldl (csS line a) q:=fun q=>by
  unfold fil;rw [List.foldl_map]
 rw [e1,qe,mT];have hperm:=qE (fil l l.length);have hi:=AV line a hp;have ho:=AM line a hp;have p1:rW line a (fW (fil l l.length))=rW line a (fil l l.length):=tO (hperm.filter _) hi;have p2:sj line a (fW (fil l l.length))=sj line a (fil l l.length):=tO (hperm.filter _) ho;rw [p1,p2];have e:ah ⟨#[]⟩=[]:=rfl;apply ga;rcases hi with hi | ⟨x,hi⟩<;>rw [hi]<;>simp [cU,e]
theorem Bd (s:ByteArray) (line:Int) {ms:List Mk} (hs:∀x∈ms,x.2.2.2.size≤10):(pc s line ms).size≤20*(s.size+1):=by
 have key:∀(L:List Nat) (t:ByteArray),(L.foldl (fun t a=>t++((ms.foldl (cst line a) (gV s a,⟨#[]⟩)).2++(ms.foldl (cst line a) (gV s a,⟨#[]⟩)).1)) t).size≤t.size+20*L.length:=by
  intro L;induction L with
  | nil=>intro t;simp
  | cons a L ih =>
   intro t;have hown:(gV s a).size≤10:=by
    unfold gV;split
    ·rw [GY];omega
    ·exact Hc _
   obtain⟨z1,z2⟩:=kG line a ms hs 0 (gV s a,⟨#[]⟩) ⟨hown,Hc _⟩;rw [co] at z1 z2;have h1:=ih (t++((ms.foldl (cst line a) (gV s a,⟨#[]⟩)).2++(ms.foldl (cst line a) (gV s a,⟨#[]⟩)).1));rw [HD,GS];simp only [GP] at h1;omega
 have:=key (GV (s.size+1)) ⟨#[]⟩;rw [GX] at this;have z:(⟨#[]⟩:ByteArray).size=0:=rfl;unfold pc;omega
theorem BQ (s:ByteArray):aC 1 [T s]=some (txs [s]):=rfl
theorem zJ (l:List ByteArray):iu (txs l)=some (txs l):=ko fun _=>rfl
theorem zR {l m:List ByteArray} (h:l.length+m.length≤1048577):fT 1 16 (txs l) (txs m)=some (txs (l++m)):=by
 rw [jz,if_pos (by simp only [Ha];omega)];show _=some (D.arr 1 ((l++m).map T))
 rw [Hr]
def nv (lines:List ByteArray) (l:List Mk):List ByteArray:=dF (fun i a s=>a++[pc s (i:Int) (fW (fil l l.length))]) 0 lines []
def okC (lines:List ByteArray) (l:List Mk):Bool:=kT lines l&&(decide (cfI l=[])&&pk (nv lines l))
def eB (lines:List ByteArray) (l:List Mk):List ByteArray:=if okC lines l=true then nv lines l else []
structure Good (lines:List ByteArray) (l:List Mk):Prop where
 c:CIn l
 n:lines.length≤12
 s:∀x∈lines,x.size≤40
theorem ui {s:ByteArray} {a b:Int} (h:mw s a b=true):(s.size:Int)≤b:=by
 unfold mw at h;rw [GT,decide_eq_true_eq] at h;exact h.2.2
theorem xD {m:Mk} (h:eF m=true):m.2.2.2.size≤10:=by
 unfold eF at h;rw [GT] at h;have h2:=h.2;split at h2
 ·rw [decide_eq_true_eq] at h2
  rw [h2];exact Hc _
 ·split at h2
  ·have:=ui h2
   omega
  ·cases h2
theorem Cf {lines:List ByteArray} (h:pk lines=true):(1≤lines.length∧lines.length≤12)∧∀x∈lines,x.size≤40:=by
 unfold pk at h;rw [GT,decide_eq_true_eq,Hg] at h;exact⟨by omega,fun x hx=>by have:=ui (h.1 x hx);omega⟩
theorem pr {lines:List ByteArray} {l:List Mk} (h:kT lines l=true):Good lines l:=by
 have h0:=wo h;unfold kT at h;simp only [GT,decide_eq_true_eq,Hg] at h;have hp:=Cf h.1.2;refine⟨⟨h0,fun x hx=>?_⟩,by omega,hp.2⟩
 have:=h.1.1 x hx;unfold okM at this;rw [GT] at this;exact xD this.1
theorem Ct {l:List Mk} (h:CIn l):∀x∈fil l l.length,x.2.2.2.size≤10:=fun x hx=>by
 unfold fil at hx;obtain⟨i,hi,rfl⟩:=List.mem_map.1 hx;have hi:=vU hi;have hm:l.getD i mk0=l[i]:=by simp [hi]
 rw [hm];exact h.sz _ (GR hi)
theorem CX {l:List Mk} (h:CIn l):CIn (fW (fil l l.length)):=by
 have h1:=oQ l l.length;have h2:=mg (fil l l.length);have:=h.ln;exact⟨by omega,fun x hx=>Ct h x ((qE _).mem_iff.1 hx)⟩
theorem sn {lines:List ByteArray} {l:List Mk} (h:Good lines l):LIn (nv lines l)∧(nv lines l).length=lines.length:=by
 have key:∀(m:List ByteArray) (i:Nat) (a:List ByteArray),(∀x∈m,x.size≤40)→(∀x∈a,x.size≤1000000)→(∀x∈dF (fun i a s=>a++[pc s (i:Int) (fW (fil l l.length))]) i m a,x.size≤1000000)∧(dF (fun i a s=>a++[pc s (i:Int) (fW (fil l l.length))]) i m a).length=a.length+m.length:=by
  intro m;induction m with
  | nil=>intro i a _ ha;exact⟨ha,rfl⟩
  | cons s m ih =>
   intro i a hm ha;rw [dF];have hs:=hm s (by simp);have hc:=Bd s (i:Int) (CX h.c).sz;have:=ih (i+1) (a++[pc s (i:Int) (fW (fil l l.length))]) (fun x hx=>hm x (by simp [hx])) (fun x hx=>by
    rcases Hm.1 hx with hx | hx
    ·exact ha x hx
    ·rw [Ie.1 hx]
     omega)
   refine⟨this.1,?_⟩
   rw [this.2];simp;omega
 have:=key lines 0 [] h.s (by simp);have hn:=h.n;refine⟨⟨?_,this.1⟩,?_⟩
 ·have h2:=this.2
  unfold nv;simp at h2;omega
 ·have h2:=this.2
  unfold nv;simpa using h2
theorem nx (lines:List ByteArray) (l:List Mk) (hL:LIn lines) (h:MIn l):dl [txs lines,mks l]=some (.ret [txs (eB lines l),B (okC lines l)] []):=by
 rw [nw];have h1:=gT lines l hL h;unfold eB okC;cases hb:kT lines l<;>rw [hb] at h1
 ·simp -implicitDefEqProofs only [ai,GK,GL,GM,h1,GO]
  rfl
 ·have g:=pr hb
  have h2:=kv l g.c.ln;have hnl:=g.n;cases hc:cfI l with
  | cons p ps =>
   rw [hc] at h2;have hpos:(0:Int)<(((p::ps:List PrN).length:Nat):Int):=by simp only [GS];omega
   have hne:¬(p::ps:List PrN)=[]:=by simp
   simp -implicitDefEqProofs only [ai,GK,GL,GM,h1,h2,hpos,hne,GO,GN];rfl
  | nil =>
   rw [hc] at h2;have hpos:¬(0:Int)<((([]:List PrN).length:Nat):Int):=by simp
   have h3:=DM l g.c.ln;have et:(D.arr 1 []:D)=txs []:=rfl;simp -implicitDefEqProofs only [ai,GK,GL,GM,h1,h2,hpos,GN];refine aP _ (bJ lines (fun i a=>[mks l,txs a,txs lines,I lines.length,I i]) (fun i a=>a.length≤i) (fun i a s=>a++[pc s (i:Int) (fW (fil l l.length))]) (fun a=>.ext 0 [txs a]) [] (fun i a hi ha=>⟨?_,?_⟩) (fun a _=>?_) (fun _=>rfl) (by simp) rfl) ?_
   ·have hi':(i:Int)<(lines.length:Int):=by omega
    have hw:GQ.wrap ((i:Int)+1)=((i+1:Nat):Int):=by rw [aA (by omega) (by omega)];omega
    have hg:=kW hi;have hsz:=g.s _ (GR hi);have h4:=ub lines[i] (i:Int) (fW (fil l l.length)) (by omega) (CX g.c);have h5:=zR (l:=a) (m:=[pc lines[i] (i:Int) (fW (fil l l.length))]) (by simp only [GS,He];omega);simp -implicitDefEqProofs only [ai,GK,GL,GM,hi',hg,h3,h4,BQ,zJ,h5,hw]
   ·rw [Hh]
    simp only [GS,He];omega
   ·have hlt:¬((lines.length:Int)<(lines.length:Int)):=by omega
    simp -implicitDefEqProofs only [ai,GK,GL,GM,hlt]
   ·obtain⟨q1,q2⟩:=sn g
    have h6:=fx (nv lines l) q1;have ec:dF (fun i a s=>a++[pc s (i:Int) (fW (fil l l.length))]) 0 lines []=nv lines l:=rfl;rw [ec];cases hp:pk (nv lines l)<;>rw [hp] at h6
    ·simp -implicitDefEqProofs only [ai,GK,GL,GM,h6]
     rfl
    ·simp -implicitDefEqProofs only [ai,GK,GL,GM,h6]
theorem nG (lines:List ByteArray) (l:List Mk) (hL:LIn lines) (h:MIn l):dm [txs lines,mks l]=some (.ret [txs (eB lines l),B (okC lines l)] []):=by
 rw [nr];have h1:=iV lines l hL h;unfold eB okC;cases hb:kT lines l<;>rw [hb] at h1
 ·simp -implicitDefEqProofs only [ai,GK,GL,GM,h1,GO]
  rfl
 ·have g:=pr hb
  have h2:=ku l g.c.ln;have hnl:=g.n;have hce:=CV l;cases hc:cfI l with
  | cons p ps =>
   rw [←hce,hc] at h2;have hpos:(0:Int)<(((p::ps:List PrN).length:Nat):Int):=by simp only [GS];omega
   have hne:¬(p::ps:List PrN)=[]:=by simp
   simp -implicitDefEqProofs only [ai,GK,GL,GM,h1,h2,hpos,hne,GO,GN];rfl
  | nil =>
   rw [←hce,hc] at h2;rw [hc] at hce;have hpos:¬(0:Int)<((([]:List PrN).length:Nat):Int):=by simp
   simp -implicitDefEqProofs only [ai,GK,GL,GM,h1,h2,hpos,GN];refine aP _ (bJ lines (fun i a=>[mks l,txs a,txs lines,I lines.length,I i]) (fun i a=>a.length≤i) (fun i a s=>a++[pc s (i:Int) (fW (fil l l.length))]) (fun a=>.ext 0 [txs a]) [] (fun i a hi ha=>⟨?_,?_⟩) (fun a _=>?_) (fun _=>rfl) (by simp) rfl) ?_
   ·have hi':(i:Int)<(lines.length:Int):=by omega
    have hw:GQ.wrap ((i:Int)+1)=((i+1:Nat):Int):=by rw [aA (by omega) (by omega)];omega
    have hg:=kW hi;have hsz:=g.s _ (GR hi);have h4:=qx lines[i] (i:Int) l (by omega) g.c;rw [←Fi lines[i] (i:Int) l hce.symm] at h4;have h5:=zR (l:=a) (m:=[pc lines[i] (i:Int) (fW (fil l l.length))]) (by simp only [GS,He];omega);simp -implicitDefEqProofs only [ai,GK,GL,GM,hi',hg,h4,BQ,zJ,h5,hw]
   ·rw [Hh]
    simp only [GS,He];omega
   ·have hlt:¬((lines.length:Int)<(lines.length:Int)):=by omega
    simp -implicitDefEqProofs only [ai,GK,GL,GM,hlt]
   ·obtain⟨q1,q2⟩:=sn g
    have h6:=jI (nv lines l) q1;have ec:dF (fun i a s=>a++[pc s (i:Int) (fW (fil l l.length))]) 0 lines []=nv lines l:=rfl;rw [ec];cases hp:pk (nv lines l)<;>rw [hp] at h6
    ·simp -implicitDefEqProofs only [ai,GK,GL,GM,h6]
     rfl
    ·simp -implicitDefEqProofs only [ai,GK,GL,GM,h6]
set_option maxRecDepth 100000
def kB (k:Int):UInt8:=if k=1 then 100 else if k=2 then 105 else if k=3 then 114 else 115
def iM (m:Mk):ByteArray:=eu m.1++⟨#[58]⟩++eu m.2.1
def mkT (m:Mk):ByteArray:=iM m++⟨#[kB m.2.2.1]⟩++m.2.2.2
structure AF (m:Mk):Prop where
 l:0≤m.1∧m.1≤11
 a:0≤m.2.1∧m.2.1≤40
 k:m.2.2.1=1∨m.2.2.1=2∨m.2.2.1=3∨m.2.2.1=4
 z:m.2.2.2.size≤10
 b:∀b∈ah m.2.2.2,b.toNat=32∨97≤b.toNat∧b.toNat≤122
theorem xS {s:ByteArray} {a b:Int} (h:mw s a b=true):∀b∈ah s,b.toNat=32∨97≤b.toNat∧b.toNat≤122:=fun b hb=>by
 unfold mw at h;rw [GT,iK,Hg] at h;have:=h.1 b hb;unfold plB az at this;simp only [Bool.or_eq_true,GT,decide_eq_true_eq] at this;omega
theorem bG {m:Mk} (h:eF m=true):AF m:=by
 have hz:=xD h;unfold eF at h;rw [GT,GT,decide_eq_true_eq,decide_eq_true_eq] at h;obtain⟨⟨h1,h2⟩,h3⟩:=h;split at h3
 ·rename_i hk
  rw [decide_eq_true_eq] at h3;exact⟨h1,h2,by omega,hz,fun b hb=>by rw [h3] at hb;cases hb⟩
 ·split at h3
  ·rename_i hk
   exact⟨h1,h2,by omega,hz,xS h3⟩
  ·cases h3
theorem qA {m:Mk} (h:AF m):(iM m).size≤13:=by
 have s1:=iH 5 (n:=m.1) h.l.1 (by have:=h.l;omega);have s2:=iH 5 (n:=m.2.1) h.a.1 (by have:=h.a;omega);unfold iM;simp only [GP,sz1];omega
theorem wZ {m:Mk} (h:AF m):(mkT m).size≤24:=by
 have h1:=qA h;have h2:=h.z;unfold mkT;simp only [GP,sz1];omega
theorem kc (m:Mk):ah (iM m)=ah (eu m.1)++58::ah (eu m.2.1):=by
 unfold iM;rw [cU,cU,HL];rfl
theorem iE (m:Mk):ah (mkT m)=ah (iM m)++kB m.2.2.1::ah m.2.2.2:=by
 unfold mkT;rw [cU,cU,HL];rfl
theorem lE (m:Mk) (h:AF m):dR [mkD m]=some (.ret [T (mkT m)] []):=by
 rw [rP];have hl:=h.l;have ha:=h.a;have hz:=h.z;have hp:=qA h;have i1:=De (n:=m.1) (by omega) (by omega);have i2:=De (n:=m.2.1) (by omega) (by omega);have s1:=iH 5 (n:=m.1) h.l.1 (by omega);have s2:=iH 5 (n:=m.2.1) h.a.1 (by omega);have e58:D.v (Hb {data:={toList:=[58]}})=T ⟨#[58]⟩:=rfl;have a1:=nl (a:=eu m.1) (b:=⟨#[58]⟩) (bl:=false) (eq:=[]) (by simp only [sz1];omega);have a2:bin .add false [] (T (eu m.1++⟨#[58]⟩)) (T (eu m.2.1))=some (T (iM m)):=nl (by simp only [GP,sz1];omega);have a3:=nl (a:=iM m) (b:=⟨#[kB m.2.2.1]⟩) (bl:=false) (eq:=[]) (by simp only [sz1];omega);have a4:bin .add false [] (T (iM m++⟨#[kB m.2.2.1]⟩)) (T m.2.2.2)=some (T (mkT m)):=nl (by simp only [GP,sz1];omega);have hm5:aC 1 [D.v (Hb {data:={toList:=[]}}),D.v (Hb {data:={toList:=[100]}}),D.v (Hb {data:={toList:=[105]}}),D.v (Hb {data:={toList:=[114]}}),D.v (Hb {data:={toList:=[115]}})]=some (txs [⟨#[]⟩,⟨#[100]⟩,⟨#[105]⟩,⟨#[114]⟩,⟨#[115]⟩]):=rfl;have hel:aH 1 (txs [⟨#[]⟩,⟨#[100]⟩,⟨#[105]⟩,⟨#[114]⟩,⟨#[115]⟩]) (I m.2.2.1)=some [T ⟨#[kB m.2.2.1]⟩]:=by
  rcases h.k with k | k | k | k<;>rw [k]<;>rfl
 simp -implicitDefEqProofs only [ai,GK,GL,GM,cj,i1,e58,a1,i2,a2,hm5,hel,a3,a4]
theorem jR (m:Mk) (h:AF m):ed [mkD m]=some (.ret [T (mkT m)] []):=by
 rw [va];have hl:=h.l;have ha:=h.a;have hz:=h.z;have hp:=qA h;have i1:=pW (n:=m.1) (by omega) (by omega);have i2:=pW (n:=m.2.1) (by omega) (by omega);have s1:=iH 5 (n:=m.1) h.l.1 (by omega);have s2:=iH 5 (n:=m.2.1) h.a.1 (by omega);have e58:D.v (Hb {data:={toList:=[58]}})=T ⟨#[58]⟩:=rfl;have a1:=nl (a:=eu m.1) (b:=⟨#[58]⟩) (bl:=false) (eq:=[]) (by simp only [sz1];omega);have a2:bin .add false [] (T (eu m.1++⟨#[58]⟩)) (T (eu m.2.1))=some (T (iM m)):=nl (by simp only [GP,sz1];omega);have a3:=nl (a:=iM m) (b:=⟨#[kB m.2.2.1]⟩) (bl:=false) (eq:=[]) (by simp only [sz1];omega);have a4:bin .add false [] (T (iM m++⟨#[kB m.2.2.1]⟩)) (T m.2.2.2)=some (T (mkT m)):=nl (by simp only [GP,sz1];omega);have hw:GQ.wrap (m.2.2.1+1)=m.2.2.1+1:=aA (by rcases h.k with k | k | k | k<;>omega) (by rcases h.k with k | k | k | k<;>omega);have hsl:cY true 0 (D.v (Hb {data:={toList:=[63,100,105,114,115]}})) (I m.2.2.1) (I (m.2.2.1+1))=some (T ⟨#[kB m.2.2.1]⟩):=by
  rcases h.k with k | k | k | k<;>rw [k]<;>rfl
 simp -implicitDefEqProofs only [ai,GK,GL,GM,cj,i1,e58,a1,i2,a2,hw,hsl,a3,a4]
def mtR (m:Mk):ByteArray:=if eF m=true then mkT m else⟨#[]⟩
theorem lF (m:Mk) (h:m.2.2.2.size≤1000000):dQ [mkD m]=some (.ret [T (mtR m),B (eF m)] []):=by
 rw [rM];have h1:=fh m (by omega);unfold mtR;cases hb:eF m<;>rw [hb] at h1
 ·simp -implicitDefEqProofs only [ai,GK,GL,GM,cj,aJ,h1]
 ·simp -implicitDefEqProofs only [ai,GK,GL,GM,cj,aJ,h1,lE m (bG hb)]
theorem rS (m:Mk) (h:m.2.2.2.size≤1000000):eY [mkD m]=some (.ret [T (mtR m),B (eF m)] []):=by
 rw [rO];have h1:=gq m (by omega);unfold mtR;cases hb:eF m<;>rw [hb] at h1
 ·simp -implicitDefEqProofs only [ai,GK,GL,GM,cj,aJ,h1]
 ·simp -implicitDefEqProofs only [ai,GK,GL,GM,cj,aJ,h1,jR m (bG hb)]
def DL:List UInt8:=[100,105,114,115]
theorem ES:∀(l p:List UInt8),Hd l p<l.length∨Hd l p = -1
 | [],_=>.inr rfl
 | b::l,p=>by
  rw [Hd];split
  ·exact .inl (by simp only [GS];omega)
  ·split
   ·exact .inr rfl
   ·rename_i h
    rcases ES l p with h1 | h1
    ·exact .inl (by simp only [GS];omega)
    ·rw [h1] at h;exact absurd rfl h
def ixM (s:ByteArray):Nat:=(Hd (ah s) DL).toNat
def wW (s:ByteArray):Mk:=((eP (s.extract 0 (ixM s))).getD 0 0,(eP (s.extract 0 (ixM s))).getD 1 0,Hk DL ((ah s).getD (ixM s) 0)+1,s.extract (ixM s+1) s.size)
theorem Cj {c:UInt8} {b p:List UInt8} (hc:p.contains c=true):∀{a:List UInt8},(∀x∈a,p.contains x=false)→Hd (a++c::b) p=a.length
 | [],_=>by rw [HC,Hd,if_pos hc];rfl
 | x::a,h=>by
  rw [List.cons_append,Hd,h x (by simp),Cj hc (a:=a) fun y hy=>h y (by simp [hy])];have:¬((a.length:Int) == -1)=true:=by simp
  rw [if_neg (by simp),if_neg this];simp
theorem yG {x:UInt8} (h:dig x=true∨x=58):DL.contains x=false:=by
 have key:∀n:Fin 256,(dig (HT n.val)=true∨HT n.val=58)→DL.contains (HT n.val)=false:=by decide +kernel
 have:=key ⟨x.toNat,x.toNat_lt⟩;simp only [UInt8.ofNat_toNat] at this;exact this h
theorem aK {m:Mk} (h:AF m):Hd (ah (mkT m)) DL=((iM m).size:Int)∧(mkT m).extract 0 (iM m).size=iM m∧(ah (mkT m))[(iM m).size]?=some (kB m.2.2.1)∧(mkT m).extract ((iM m).size+1) (mkT m).size=m.2.2.2:=by
 have hd1:=iA (n:=m.1) h.l.1;have hd2:=iA (n:=m.2.1) h.a.1;have hk:DL.contains (kB m.2.2.1)=true:=by rcases h.k with k | k | k | k<;>rw [k]<;>rfl
 have hz:=aL (iM m);refine⟨?_,?_,?_,?_⟩
 ·rw [iE,Cj hk,hz]
  intro x hx;rw [kc] at hx;rcases Hm.1 hx with hx | hx
  ·exact yG (.inl (hd1.2 x hx))
  ·rcases Hl.1 hx with rfl | hx
   ·exact yG (.inr rfl)
   ·exact yG (.inl (hd2.2 x hx))
 ·apply ga
  rw [bH,iE,hz];simp
 ·rw [iE,hz]
  simp
 ·apply ga
  rw [bH,aL (mkT m),HU (HH _),iE,hz];rw [List.drop_append,List.drop_of_length_le (by omega)];simp [show(ah (iM m)).length+1 - (ah (iM m)).length=1 by omega]
theorem yc {m:Mk} (h:AF m):eP (iM m)=[m.1,m.2.1]:=by
 have hl:=h.l;have ha:=h.a;have hd1:=iA (n:=m.1) h.l.1;have hd2:=iA (n:=m.2.1) h.a.1;refine Ck (ns:=[m.1,m.2.1]) (fun b hb=>?_) (fun n hn=>?_) ?_
 ·rw [kc] at hb
  rcases Hm.1 hb with hb | hb
  ·exact wE (hd1.2 b hb)
  ·rcases Hl.1 hb with rfl | hb
   ·decide
   ·exact wE (hd2.2 b hb)
 ·simp only [Hl,Hz,or_false] at hn
  rcases hn with rfl | rfl<;>omega
 ·rw [kc,Bj hd1.1 hd1.2 (by decide),Bu hd2.1 hd2.2]
  rfl
theorem sX {m:Mk} (h:AF m):wW (mkT m)=m:=by
 obtain⟨h1,h2,h3,h4⟩:=aK h;have hi:ixM (mkT m)=(iM m).size:=by unfold ixM;rw [h1,Hv]
 have h5:=yc h;unfold wW;rw [hi,h2,h4,h5,Hp (l:=ah (mkT m)),h3];obtain⟨a,b,c,d⟩:=m;have hk:=h.k;simp only [HN,Ib,List.getD_cons_succ] at hk ⊢;rcases hk with rfl | rfl | rfl | rfl<;>rfl
open Classical in
def pmB (s:ByteArray):Bool:=decide (∃m,eF m=true∧mkT m=s)
open Classical in
def pmR (s:ByteArray):Mk:=if h:∃m,eF m=true∧mkT m=s then Classical.choose h else mk0
open Classical in
theorem CH {m:Mk} (h:eF m=true):pmB (mkT m)=true∧pmR (mkT m)=m:=by
 have hex:∃g,eF g=true∧mkT g=mkT m:=⟨m,h,rfl⟩
 unfold pmB pmR;refine⟨decide_eq_true hex,?_⟩
 rw [dif_pos hex];have hc:=HX hex;have h1:=sX (bG h);have h2:=sX (bG hc.1);rw [hc.2,h1] at h2;exact h2.symm
open Classical in
theorem EZ {s:ByteArray} {p:Mk} (hp:∀m,eF m=true→mkT m=s→p=m):pmB s=(eF p&&decide (mkT p=s))∧pmR s=if (eF p&&decide (mkT p=s))=true then p else mk0:=by
 by_cases hex:∃m,eF m=true∧mkT m=s
 ·obtain⟨m,h1,rfl⟩:=hex
  obtain⟨q1,q2⟩:=CH h1;rw [hp m h1 rfl,q1,q2,h1];simp
 ·have hn:(eF p&&decide (mkT p=s))=false:=by
   rw [Bool.eq_false_iff];intro h;rw [GT,decide_eq_true_eq] at h;exact hex ⟨p,h.1,h.2⟩
  rw [hn];unfold pmB pmR;rw [dif_neg hex,decide_eq_false hex];exact⟨rfl,rfl⟩
open Classical in
theorem zE {s:ByteArray} (h:∀m,eF m=true→mkT m=s→False):pmB s=false∧pmR s=mk0:=by
 have hex:¬∃m,eF m=true∧mkT m=s:=fun⟨m,h1,h2⟩=>h m h1 h2
 unfold pmB pmR;rw [dif_neg hex,decide_eq_false hex];exact⟨rfl,rfl⟩
open Classical in
theorem yn {s:ByteArray} (h:pmB s=true):eF (pmR s)=true∧mkT (pmR s)=s:=by
 unfold pmB at h;have hex:=of_decide_eq_true h;unfold pmR;rw [dif_pos hex];exact HX hex
open Classical in
theorem DR (s:ByteArray):(pmR s).2.2.2.size≤10:=by
 cases h:pmB s
 ·have:pmR s=mk0:=by
   unfold pmB at h;unfold pmR;rw [dif_neg (of_decide_eq_false h)]
  rw [this];exact Hc _
 ·exact(bG (yn h).1).z
set_option maxRecDepth 100000
theorem jK:gk [] [I 0,I 0,I 0,T ⟨#[]⟩] []=some (mkD mk0):=by simp [gk,oc]
theorem yr (a b c:Int) (d:ByteArray):gk [(0,1),(1,1),(2,1),(3,1)] [I 0,I 0,I 0,T ⟨#[]⟩] [I a,I b,I c,T d]=some (.agg [I a,I b,I c,T d]):=by simp [gk,oc]
theorem FL (a b:Int) (d:ByteArray):gk [(0,1),(1,1),(3,1)] [I 0,I 0,I 0,T ⟨#[]⟩] [I a,I b,T d]=some (.agg [I a,I b,I 0,T d]):=by simp [gk,oc]
theorem jF (a b c k:Int) (d:ByteArray):stD 1 (.agg [I a,I b,I c,T d]) (.ref 0 2) (I k)=some (.agg [I a,I b,I k,T d]):=by simp
theorem py {s:ByteArray} {i:Nat} (h:i<(ah s).length):du (T s) (I (i:Int))=some (U (ah s)[i].toNat):=by
 rw [cK,Hj h];rfl
theorem kz (s:ByteArray) (h:s.size≤1000) (ha:∀b∈ah s,b.toNat<128):dv [T s]=some (.ret [mkD (pmR s),B (pmB s)] []):=by
 rw [qO];have eD:(D.v (Hb {data:={toList:=[100,105,114,115]}}))=T ⟨⟨DL⟩⟩:=rfl;have hia:iF [T s,T ⟨⟨DL⟩⟩]=some (.ret [I (Hd (ah s) DL)] []):=by
  simp -implicitDefEqProofs only [iF];rw [if_pos]
  ·rfl
  ·refine⟨⟨by omega,by decide⟩,Hg.2 fun b hb=>decide_eq_true (ha b hb),by decide⟩
 by_cases hneg:Hd (ah s) DL<0
 ·obtain⟨q1,q2⟩:=zE (s:=s) fun m h1 h2=>by
   have:=(aK (bG h1)).1;rw [h2] at this;omega
  rw [q1,q2];simp -implicitDefEqProofs only [ai,GK,GL,GM,eD,hia,hneg,e0',jK,ax,aJ]
 have hlt:=(ES (ah s) DL).resolve_right (by omega);have hix:Hd (ah s) DL=(ixM s:Int):=by unfold ixM;omega
 have hz:=aL s;have hi2:ixM s<(ah s).length:=by omega
 rw [hix] at hia hneg;have hs1:cY true 0 (T s) (I 0) (I (ixM s:Int))=some (T (s.extract 0 (ixM s))):=qB (i:=0) (by omega) (by omega);have hn:=qQ (s.extract 0 (ixM s)) (by rw [GY];omega);by_cases h2:(eP (s.extract 0 (ixM s))).length=2
 ·obtain⟨q1,q2⟩:=EZ (s:=s) (p:=wW s) fun m h1 h2=>by
   rw [←h2];exact sX (bG h1)
  rw [q1,q2];have h2':((eP (s.extract 0 (ixM s))).length:Int)=2:=by omega
  have hp:wW s=((eP (s.extract 0 (ixM s))).getD 0 0,(eP (s.extract 0 (ixM s))).getD 1 0,Hk DL ((ah s).getD (ixM s) 0)+1,s.extract (ixM s+1) s.size):=rfl;have hc:=py hi2;have hcd:(ah s).getD (ixM s) 0=(ah s)[ixM s]:=by simp [hi2]
  rw [hcd] at hp;generalize (ah s)[ixM s]=c at hc hp;have hbc:=Lib.indexByte_ge DL c;have hbl:Hk DL c<5:=by
   have key:∀n:Fin 256,Hk DL (HT n.val)<5:=by decide +kernel
   have:=key ⟨c.toNat,c.toNat_lt⟩;simpa only [UInt8.ofNat_toNat] using this
  have hib:fV [T ⟨⟨DL⟩⟩,U c.toNat]=some (.ret [I (Hk DL c)] []):=by
   simp -implicitDefEqProofs only [fV];congr 4
   simp
  have hw1:GQ.wrap (Hk DL c+1)=Hk DL c+1:=aA (by omega) (by omega);have hw2:GQ.wrap ((ixM s:Int)+1)=((ixM s+1:Nat):Int):=by rw [aA (by omega) (by omega)];omega
  have hs2:=mJ (s:=s) (z:=0) (i:=ixM s+1) (by omega);have hxz:(s.extract (ixM s+1) s.size).size≤1000:=by rw [GY];omega
  have g0:aH 1 (nz (eP (s.extract 0 (ixM s)))) (I 0)=some [I ((eP (s.extract 0 (ixM s))).getD 0 0)]:=by
   have:=h2;generalize eP (s.extract 0 (ixM s))=ns at this
   match ns,this with
   | [x,y],_=>rfl
  have g1:aH 1 (nz (eP (s.extract 0 (ixM s)))) (I 1)=some [I ((eP (s.extract 0 (ixM s))).getD 1 0)]:=by
   have:=h2;generalize eP (s.extract 0 (ixM s))=ns at this
   match ns,this with
   | [x,y],_=>rfl
  generalize (eP (s.extract 0 (ixM s))).getD 0 0=n0 at g0 hp;generalize (eP (s.extract 0 (ixM s))).getD 1 0=n1 at g1 hp;have hal:=fh (wW s) (by rw [hp];show(s.extract (ixM s+1) s.size).size≤_;omega);cases hb:eF (wW s)
  ·rw [hb,hp] at hal
   simp -implicitDefEqProofs only [ai,GK,GL,GM,eD,hia,hneg,hs1,hn,h2',g0,g1,hc,hib,hw1,hw2,hs2,e0',yr,jK,ax,aJ,hal,GO]
  ·rw [hb] at hal
   have hmt:=lE (wW s) (bG hb);rw [hp] at hal hmt;by_cases hq:mkT (wW s)=s
   ·rw [hp] at hq ⊢
    simp -implicitDefEqProofs only [ai,GK,GL,GM,eD,hia,hneg,hs1,hn,h2',g0,g1,hc,hib,hw1,hw2,hs2,e0',yr,jK,ax,aJ,hal,hmt,mO,hq,GN]
   ·rw [hp] at hq ⊢
    simp -implicitDefEqProofs only [ai,GK,GL,GM,eD,hia,hneg,hs1,hn,h2',g0,g1,hc,hib,hw1,hw2,hs2,e0',yr,jK,ax,aJ,hal,hmt,mO,hq,GN]
 ·obtain⟨q1,q2⟩:=zE (s:=s) fun m h1 h3=>by
   obtain⟨p1,p2,-⟩:=aK (bG h1);have:ixM s=(iM m).size:=by unfold ixM;rw [←h3,p1,Hv]
   rw [this,←h3,p2,yc (bG h1)] at h2;exact h2 rfl
  rw [q1,q2];have h2':¬((eP (s.extract 0 (ixM s))).length:Int)=2:=by omega
  simp -implicitDefEqProofs only [ai,GK,GL,GM,eD,hia,hneg,hs1,hn,h2',e0',jK,ax,aJ]
set_option maxRecDepth 100000
def nD (t:ByteArray):Nat:=((ah t).takeWhile dig).length
def kS (c:UInt8):Int:=(GV 4).foldl (fun acc i=>if c=kB ((i+1:Nat):Int) then((i+1:Nat):Int) else acc) 0
def tlM (m:Mk):ByteArray:=eu m.2.1++⟨#[kB m.2.2.1]⟩++m.2.2.2
def pcS (w0 w1:ByteArray):Mk:=(fQ w0,fQ (w1.extract 0 (nD w1)),kS ((ah w1).getD (nD w1) 0),w1.extract (nD w1+1) w1.size)
theorem jg (m:Mk):ah (tlM m)=ah (eu m.2.1)++kB m.2.2.1::ah m.2.2.2:=by
 unfold tlM;rw [cU,cU,HL];rfl
theorem qS {m:Mk} (h:AF m):iP 58 (mkT m)=[eu m.1,tlM m]:=by
 have hd1:=iA (n:=m.1) h.l.1;have hd2:=iA (n:=m.2.1) h.a.1;have hn:(58:UInt8)∉ah (tlM m):=by
  rw [jg];intro hm;rcases Hm.1 hm with hm | hm
  ·exact zQ hd2.2 (by decide) hm
  ·rcases Hl.1 hm with hm | hm
   ·rcases h.k with k | k | k | k<;>rw [k] at hm<;>exact absurd hm (by decide)
   ·have:=h.b 58 hm
    simp at this
 have e:ah (mkT m)=ah (eu m.1)++58::ah (tlM m):=by
  rw [iE,kc,jg];simp
 unfold iP;rw [e,tf (zQ hd1.2 (by decide)),rE hn];rfl
theorem ET {m:Mk} (h:AF m):nD (tlM m)=(eu m.2.1).size∧nD (tlM m)<(tlM m).size:=by
 have hd2:=iA (n:=m.2.1) h.a.1;have hk:dig (kB m.2.2.1)=false:=by rcases h.k with k | k | k | k<;>rw [k]<;>rfl
 have e:nD (tlM m)=(eu m.2.1).size:=by
  unfold nD;rw [jg,List.takeWhile_append_of_pos hd2.2,HG,hk,aL];simp
 refine⟨e,?_⟩
 rw [e,aL,aL (tlM m),jg];simp
theorem Fp {m:Mk} (h:AF m):pcS (eu m.1) (tlM m)=m:=by
 obtain⟨h1,h2⟩:=ET h;have hl:=h.l;have ha:=h.a;have hz:=aL (eu m.2.1);have e1:(tlM m).extract 0 (eu m.2.1).size=eu m.2.1:=by
  apply ga;rw [bH,jg,hz];simp
 have e2:(tlM m).extract ((eu m.2.1).size+1) (tlM m).size=m.2.2.2:=by
  apply ga;rw [bH,aL (tlM m),HU (HH _),jg,hz];rw [List.drop_append,List.drop_of_length_le (by omega)];simp [show(ah (eu m.2.1)).length+1 - (ah (eu m.2.1)).length=1 by omega]
 have e3:(ah (tlM m)).getD (eu m.2.1).size 0=kB m.2.2.1:=by
  rw [jg,hz];simp
 have e4:kS (kB m.2.2.1)=m.2.2.1:=by rcases h.k with k | k | k | k<;>rw [k]<;>rfl
 unfold pcS;rw [h1,e1,e2,e3,e4,vw hl.1 (by omega),vw ha.1 (by omega)]
theorem xo:∀(l:List UInt8) (i:Nat),(ky (fun b=>!dig b) i l).elim (i+l.length) id=i+(l.takeWhile dig).length
 | [],i=>rfl
 | b::l,i=>by
  by_cases hb:dig b=true
  ·have ih:=xo l (i+1)
   have e1:ky (fun b=>!dig b) i (b::l)=ky (fun b=>!dig b) (i+1) l:=by rw [ky,if_neg (by simp [hb])]
   rw [e1,HG,if_pos hb,GS,GS,show i+(l.length+1)=i+1+l.length by omega,ih];omega
  ·have e1:ky (fun b=>!dig b) i (b::l)=some i:=by rw [ky,if_pos (by simp [hb])]
   rw [e1,HG,if_neg hb];rfl
theorem qv (s:ByteArray) (h:s.size≤1000):eE [T s]=some (.ret [mkD (pmR s),B (pmB s)] []):=by
 rw [qX];have hss:=xL 58 s;have hsp:=uh s 58 (by omega);have e58:D.v (Ih IntKind.u8 58)=U ((58:UInt8).toNat):=rfl;by_cases h2:(iP 58 s).length=2
 ·have hws:∃w0 w1,iP 58 s=[w0,w1]:=by
   match iP 58 s,h2 with
   | [x,y],_=>exact⟨x,y,rfl⟩
  obtain⟨w0,w1,hw⟩:=hws;rw [hw] at hsp hss;have z0:=hss w0 (by simp);have z1:=hss w1 (by simp);have g0:aH 1 (.arr 1 ([w0,w1].map T)) (I 0)=some [T w0]:=rfl;have g1:aH 1 (.arr 1 ([w0,w1].map T)) (I 1)=some [T w1]:=rfl;have h2':(([w0,w1].length:Nat):Int)=2:=rfl;have hsz:=aL w1;simp -implicitDefEqProofs only [ai,GK,GL,GM,e58,hsp,h2',e0'];refine aP _ (Bp (ah w1) (fun n=>[T s,D.agg [I 0,I 0,I 0,T ⟨#[]⟩],.arr 1 ([w0,w1].map T),I n]) (fun b=>!dig b) (fun n=>.ext 0 [T s,D.agg [I 0,I 0,I 0,T ⟨#[]⟩],.arr 1 ([w0,w1].map T),I n]) (.ext 0 [T s,D.agg [I 0,I 0,I 0,T ⟨#[]⟩],.arr 1 ([w0,w1].map T),I (ah w1).length]) (fun n hn=>?_) ?_ (fun _=>rfl) rfl rfl) ?_
  ·have hn':(n:Int)<(w1.size:Int):=by omega
   have hwn:GQ.wrap ((n:Int)+1)=((n+1:Nat):Int):=by rw [aA (by omega) (by omega)];omega
   have hch:=py hn;unfold dig;by_cases k1:48≤(ah w1)[n].toNat
   ·have k1':(48:Int)≤((ah w1)[n].toNat:Int):=by omega
    by_cases k2:(ah w1)[n].toNat≤57
    ·have k2':((ah w1)[n].toNat:Int)≤57:=by omega
     simp -implicitDefEqProofs only [ai,GK,GL,GM,g1,hn',hch,k1,k2,k1',k2',hwn,Bool.and_self,Hu]
    ·have k2':¬((ah w1)[n].toNat:Int)≤57:=by omega
     simp -implicitDefEqProofs only [ai,GK,GL,GM,g1,hn',hch,k1,k2,k1',k2',hwn,Bool.and_self,Hu]
   ·have k1':¬(48:Int)≤((ah w1)[n].toNat:Int):=by omega
    simp -implicitDefEqProofs only [ai,GK,GL,GM,g1,hn',hch,k1,k1',GO]
  ·have hlt:¬(((ah w1).length:Int)<(w1.size:Int)):=by omega
   simp -implicitDefEqProofs only [ai,GK,GL,GM,g1,hlt]
  ·have hlf:=xo (ah w1) 0
   rw [HE,HE] at hlf;have hle:nD w1≤w1.size:=by
    unfold nD;rw [hsz];exact(List.takeWhile_sublist _).length_le
   have e:(ky (fun b=>!dig b) 0 (ah w1)).elim (Out.ext 0 [T s,D.agg [I 0,I 0,I 0,T ⟨#[]⟩],.arr 1 ([w0,w1].map T),I (ah w1).length]) (fun n=>.ext 0 [T s,D.agg [I 0,I 0,I 0,T ⟨#[]⟩],.arr 1 ([w0,w1].map T),I n]) = .ext 0 [T s,D.agg [I 0,I 0,I 0,T ⟨#[]⟩],.arr 1 ([w0,w1].map T),I (nD w1)]:=by
    unfold nD;rw [←hlf];cases ky (fun b=>!dig b) 0 (ah w1)<;>rfl
   rw [e];by_cases hend:nD w1=w1.size
   ·obtain⟨q1,q2⟩:=zE (s:=s) fun m h1 h3=>by
     have:=qS (bG h1);rw [h3,hw] at this;simp only [HS,and_true] at this;have h4:=(ET (bG h1)).2;rw [←this.2] at h4;omega
    rw [q1,q2];have hend':(nD w1:Int)=(w1.size:Int):=by omega
    simp -implicitDefEqProofs only [ai,GK,GL,GM,g1,hend',jK,ax,aJ]
   ·have hend':¬(nD w1:Int)=(w1.size:Int):=by omega
    obtain⟨q1,q2⟩:=EZ (s:=s) (p:=pcS w0 w1) fun m h1 h3=>by
     have:=qS (bG h1);rw [h3,hw] at this;simp only [HS,and_true] at this;rw [this.1,this.2];exact Fp (bG h1)
    rw [q1,q2];have r0:=nZ w0 (by omega);have s1:cY true 0 (T w1) (I 0) (I (nD w1:Int))=some (T (w1.extract 0 (nD w1))):=qB (i:=0) (by omega) hle;have r1:=nZ (w1.extract 0 (nD w1)) (by rw [GY];omega);have hw2:GQ.wrap ((nD w1:Int)+1)=((nD w1+1:Nat):Int):=by rw [aA (by omega) (by omega)];omega
    have s2:=mJ (s:=w1) (z:=0) (i:=nD w1+1) (by omega);have hxz:(w1.extract (nD w1+1) w1.size).size≤1000:=by rw [GY];omega
    have hi2:nD w1<(ah w1).length:=by omega
    have hc:=py hi2;have hcd:(ah w1).getD (nD w1) 0=(ah w1)[nD w1]:=by simp [hi2]
    have hp:pcS w0 w1=(fQ w0,fQ (w1.extract 0 (nD w1)),kS ((ah w1).getD (nD w1) 0),w1.extract (nD w1+1) w1.size):=rfl;rw [hcd] at hp;generalize (ah w1)[nD w1]=c at hc hp;simp -implicitDefEqProofs only [ai,GK,GL,GM,g0,g1,hend',r0,s1,r1,hw2,s2,FL,ax];refine aP _ (bJ (GV 4) (fun i acc=>[T s,D.agg [I 0,I 0,I 0,T ⟨#[]⟩],.arr 1 ([w0,w1].map T),I (nD w1),D.agg [I (fQ w0),I (fQ (w1.extract 0 (nD w1))),I acc,T (w1.extract (nD w1+1) w1.size)],I ((i+1:Nat):Int)]) (fun _ _=>True) (fun _ acc i=>if c=kB ((i+1:Nat):Int) then((i+1:Nat):Int) else acc) (fun acc=>.ext 2 [T s,D.agg [I 0,I 0,I 0,T ⟨#[]⟩],D.agg [I (fQ w0),I (fQ (w1.extract 0 (nD w1))),I acc,T (w1.extract (nD w1+1) w1.size)]]) 0 (fun i acc hi _=>⟨?_,trivial⟩) (fun acc _=>?_) (fun _=>rfl) trivial rfl) ?_
    ·rw [GX] at hi
     have hge:(GV 4)[i]'(by simpa using hi)=i:=by simp
     rw [hge];have hi':((i+1:Nat):Int)≤4:=by omega
     have hwi:GQ.wrap (((i+1:Nat):Int)+1)=((i+1+1:Nat):Int):=by rw [aA (by omega) (by omega)];omega
     have hcl:du (D.v (Hb {data:={toList:=[63,100,105,114,115]}})) (I ((i+1:Nat):Int))=some (U (kB ((i+1:Nat):Int)).toNat):=by
      have:i=0∨i=1∨i=2∨i=3:=by omega
      rcases this with rfl | rfl | rfl | rfl<;>rfl
     by_cases hq:c=kB ((i+1:Nat):Int)
     ·have hq':((c.toNat:Int)=((kB ((i+1:Nat):Int)).toNat:Int)):=by rw [hq]
      rw [if_pos hq];simp -implicitDefEqProofs only [ai,GK,GL,GM,g1,hi',hc,hcl,hq',jF,hwi]
     ·have hq':¬((c.toNat:Int)=((kB ((i+1:Nat):Int)).toNat:Int)):=fun e=>hq (UInt8.toNat_inj.1 (by omega))
      rw [if_neg hq];simp -implicitDefEqProofs only [ai,GK,GL,GM,g1,hi',hc,hcl,hq',jF,hwi]
    ·have hlt:¬(((4+1:Nat):Int)≤4):=by omega
     rw [GX];simp -implicitDefEqProofs only [ai,GK,GL,GM,hlt]
    ·rw [co]
     have hk:(GV 4).foldl (fun acc i=>if c=kB ((i+1:Nat):Int) then((i+1:Nat):Int) else acc) 0=kS c:=rfl;rw [hk];have hal:=gq (pcS w0 w1) (by rw [hp];show(w1.extract (nD w1+1) w1.size).size≤_;omega);cases hb:eF (pcS w0 w1)
     ·rw [hb,hp] at hal
      simp -implicitDefEqProofs only [ai,GK,GL,GM,hal,jK,ax,aJ,e0',GO]
     ·rw [hb] at hal
      have hmt:=jR (pcS w0 w1) (bG hb);rw [hp] at hal hmt;by_cases hq:mkT (pcS w0 w1)=s
      ·rw [hp] at hq ⊢
       simp -implicitDefEqProofs only [ai,GK,GL,GM,hal,hmt,jK,ax,aJ,e0',mO,hq,GN]
      ·rw [hp] at hq ⊢
       simp -implicitDefEqProofs only [ai,GK,GL,GM,hal,hmt,jK,ax,aJ,e0',mO,hq,GN]
 ·obtain⟨q1,q2⟩:=zE (s:=s) fun m h1 h3=>by
   rw [←h3,qS (bG h1)] at h2;exact h2 rfl
  rw [q1,q2];have h2':¬((iP 58 s).length:Int)=2:=by omega
  simp -implicitDefEqProofs only [ai,GK,GL,GM,e58,hsp,h2',e0',jK,ax,aJ]
set_option maxRecDepth 100000
def asc (s:ByteArray):Prop:=∀b∈ah s,b.toNat<128
theorem mW {a b:ByteArray} (h1:asc a) (h2:asc b):asc (a++b):=by
 intro x hx;rw [cU] at hx;rcases Hm.1 hx with hx | hx
 ·exact h1 x hx
 ·exact h2 x hx
theorem zN:asc ⟨⟨[]⟩⟩:=fun b hb=>by cases hb
theorem tS' (l:List UInt8):(D.v (Hb {data:={toList:=l}}))=T ⟨⟨l⟩⟩:=rfl
theorem sr (l:List UInt8) (h:(l.all fun b=>decide (b.toNat<128))=true):asc ⟨⟨l⟩⟩:=fun b hb=>of_decide_eq_true (Hg.1 h b hb)
structure Tx (n:Nat) (s:ByteArray):Prop where
 sz:s.size≤n
 ok:asc s
def txB (n:Nat) (l:List ByteArray):Bool:=l.all fun s=>decide (s.size≤n)&&(ah s).all fun b=>decide (b.toNat<128)
theorem sx {n:Nat} {l:List ByteArray} (h:txB n l=true):∀s∈l,Tx n s:=by
 intro s hs;have:=Hg.1 h s hs;rw [GT,decide_eq_true_eq] at this;exact⟨this.1,fun b hb=>of_decide_eq_true (Hg.1 this.2 b hb)⟩
theorem mS {s:ByteArray} (h:asc s) (i j:Nat):asc (s.extract i j):=fun b hb=>by
 rw [bH] at hb;exact h b (List.mem_of_mem_take (HZ hb))
theorem Tx.mono {m n:Nat} {s:ByteArray} (h:Tx m s) (hm:m≤n):Tx n s:=⟨Ic h.sz hm,h.ok⟩
def W7:List ByteArray:=[⟨⟨[97]⟩⟩,⟨⟨[98]⟩⟩,⟨⟨[116,104,101]⟩⟩,⟨⟨[32]⟩⟩,⟨⟨[99,97,116]⟩⟩,⟨⟨[111,110]⟩⟩,⟨⟨[101]⟩⟩]
theorem EG:∀s∈W7,1≤s.size∧s.size≤3:=by
 intro s hs;simp only [W7,Hl,Hz,or_false] at hs;rcases hs with rfl | rfl | rfl | rfl | rfl | rfl | rfl<;>exact⟨by decide,by decide⟩
theorem Gm:∀s∈W7,Tx 3 s:=sx (by decide)
theorem vp (c:Cur) (s w:ByteArray) (B:Nat) (h:c.ok B) (hB:B≤1000000000) (hs:s.size≤100000) (hw:0<w.size∧w.size≤100) (hsa:asc s) (hwa:asc w) :
  ∃(t:ByteArray) (c':Cur),cz [bh c,T s,T w]=some (.ret [T t] [bh c'])∧(t.size≤s.size+2∧asc t)∧c'.ok (B+20):=by
 obtain⟨v,c1,e1,l1,u1,k1⟩:=eA c 2 B h (by omega) (by omega);obtain⟨v,rfl⟩:=GU l1;have hw1:GQ.wrap (1+(v:Int))=((1+v:Nat):Int):=by rw [aA (by omega) (by omega)];omega
 rw [nq];simp -implicitDefEqProofs only [dZ,GZ,jD,e1,bW,bA,eX,hw1];refine cB (fun X=>∃t c',X=some (.ret [T t] [bh c'])∧(t.size≤s.size+2∧asc t)∧c'.ok (B+20)) (fun a:Cur × ByteArray × Nat=>[bh a.1,T a.2.1,T w,I (a.2.2:Int)])
  (fun a=>a.1.ok (B+2+6*(2 - a.2.2))∧a.2.2≤2∧(a.2.1.size+a.2.2≤s.size+2∧asc a.2.1)) (fun a=>a.2.2) (fun o=>∃t c',o = .ext 0 [bh c',T t]∧(t.size≤s.size+2∧asc t)∧c'.ok (B+20)) ?_ (c1,s,1+v) ⟨k1.mono (by simp only;omega),by simp only;omega,by simp only;omega,hsa⟩ rfl ?_
 ·rintro⟨ca,t,n⟩ ⟨h1,h2,h3,h5⟩
  simp only at h1 h2 h3 h5;by_cases hn:0<n
  case neg =>
   have hn':¬(0:Int)<(n:Int):=by omega
   refine .inr ⟨_,?_,rfl,t,ca,rfl,⟨by omega,h5⟩,h1.mono (by omega)⟩
   simp -implicitDefEqProofs only [bA,cn,iv,hn',decide_false,GZ,oO,wu,Hn,if_false,gx,ep]
  have hn':(0:Int)<(n:Int):=by omega
  by_cases ht:0<t.size
  case neg =>
   have ht':¬(0:Int)<(t.size:Int):=by omega
   refine .inr ⟨_,?_,rfl,t,ca,rfl,⟨by omega,h5⟩,h1.mono (by omega)⟩
   simp -implicitDefEqProofs only [bA,cn,iv,hn',ht',decide_true,decide_false,dz,GZ,oO,wu,Hn,if_false,if_true,gx,ep]
  have ht':(0:Int)<(t.size:Int):=by omega
  obtain⟨i,c2,e2,l2,u2,k2⟩:=eA ca (t.size:Int) _ h1 (by omega) (by omega);obtain⟨i,rfl⟩:=GU l2;obtain⟨j,c3,e3,l3,u3,k3⟩:=eA c2 (w.size:Int) _ k2 (by omega) (by omega);obtain⟨j,rfl⟩:=GU l3;have hjl:j<(ah w).length:=by have:=aL w;omega
  have hb:=py hjl;have hba:=hwa _ (GR hjl);generalize (ah w)[j]=b at hb hba;have hba2:asc ⟨#[b]⟩:=fun x hx=>by
   have:x=b:=by simpa [ah] using hx
   rw [this];exact hba
  obtain⟨k,c4,e4,l4,u4,k4⟩:=eA c3 3 _ k3 (by omega) (by omega);have hwn:GQ.wrap ((n:Int) - 1)=((n - 1:Nat):Int):=by rw [aA (by omega) (by omega)];omega
  have hwi:GQ.wrap ((i:Int)+1)=((i+1:Nat):Int):=by rw [aA (by omega) (by omega)];omega
  have s1:cY true 0 (T t) (I 0) (I (i:Int))=some (T (t.extract 0 i)):=qB (i:=0) (Hc _) (by omega);have s2:bR true 0 (T t) (I (i:Int))=some (T (t.extract i t.size)):=mJ (by omega);have s3:bR true 0 (T t) (I ((i+1:Nat):Int))=some (T (t.extract (i+1) t.size)):=mJ (by omega);have z1:=ue t 0 i;have z2:=ue t i t.size;have z3:=ue t (i+1) t.size;have sb:(⟨#[b]⟩:ByteArray).size=1:=rfl;have a1:=ni (a:=t.extract 0 i) (b:=⟨#[b]⟩) (by omega);have a2:=ni (a:=t.extract 0 i++⟨#[b]⟩) (b:=t.extract i t.size) (by rw [GP];omega);have a3:=ni (a:=t.extract 0 i++⟨#[b]⟩) (b:=t.extract (i+1) t.size) (by rw [GP];omega);have a4:=ni (a:=t.extract 0 i) (b:=t.extract (i+1) t.size) (by omega)
  left
  by_cases q0:k=0
  ·refine⟨(c4,t.extract 0 i++⟨#[b]⟩++t.extract i t.size,n - 1),?_,⟨k4.mono (by simp only;omega),by simp only;omega,by simp only [GP];omega,mW (mW (mS h5 _ _) hba2) (mS h5 _ _)⟩,by simp only;omega⟩
   simp -implicitDefEqProofs only [bA,cn,iv,hn',ht',decide_true,dz,GZ,oO,if_true,gx,ep,dZ,jD,e2,e3,e4,bW,hb,mkU,uw,lh,q0,s1,s2,a1,a2,nh,hwn]
  by_cases q1:k=1
  ·refine⟨(c4,t.extract 0 i++⟨#[b]⟩++t.extract (i+1) t.size,n - 1),?_,⟨k4.mono (by simp only;omega),by simp only;omega,by simp only [GP];omega,mW (mW (mS h5 _ _) hba2) (mS h5 _ _)⟩,by simp only;omega⟩
   simp -implicitDefEqProofs only [bA,cn,iv,hn',ht',decide_true,decide_false,Hn,if_false,dz,GZ,oO,if_true,gx,ep,dZ,jD,e2,e3,e4,bW,hb,mkU,uw,lh,q0,q1,show ¬(1:Int)=0 by decide,s1,s3,a1,a3,nh,eX,hwi,hwn]
  ·refine⟨(c4,t.extract 0 i++t.extract (i+1) t.size,n - 1),?_,⟨k4.mono (by simp only;omega),by simp only;omega,by simp only [GP];omega,mW (mS h5 _ _) (mS h5 _ _)⟩,by simp only;omega⟩
   simp -implicitDefEqProofs only [bA,cn,iv,hn',ht',decide_true,decide_false,Hn,if_false,dz,GZ,oO,if_true,gx,ep,dZ,jD,e2,e3,e4,bW,hb,mkU,uw,lh,q0,q1,s1,s3,a4,nh,eX,hwi,hwn]
 ·rintro o ⟨t,c',rfl,g1,g2⟩
  refine⟨t,c',?_,g1,g2⟩
  simp -implicitDefEqProofs only [kC,Nat.beq_refl,vn,if_true,bA,cn,dZ,GZ]
theorem wz {a b:ByteArray} (h:a.size+b.size≤100000000):bin .add false [] (T a) (T b)=some (T (a++b)):=by
 rw [qf,if_pos (by omega)]
theorem Ba (c:Cur) (B:Nat) (h:c.ok B) (hB:B≤1000000000):∃(s:ByteArray) (c':Cur),bK [bh c]=some (.ret [T s] [bh c'])∧Tx 14 s∧c'.ok (B+40):=by
 rw [mf];obtain⟨v,c1,e1,l1,u1,k1⟩:=eA c 12 B h (by omega) (by omega);obtain⟨v,rfl⟩:=GU l1;have hv:v<12:=by omega
 have m10:aC 1 [T ⟨⟨[97]⟩⟩,T ⟨⟨[98]⟩⟩,T ⟨⟨[116,104,101]⟩⟩,T ⟨⟨[32]⟩⟩,T ⟨⟨[99,97,116]⟩⟩,T ⟨⟨[111,110]⟩⟩,T ⟨⟨[101]⟩⟩]=some (txs W7):=vx (l:=W7);simp -implicitDefEqProofs only [dZ,GZ,jD,e1,bW,bA,m10,tS'];refine cB (fun X=>∃s c',X=some (.ret [T s] [bh c'])∧Tx 14 s∧c'.ok (B+40)) (fun a:Cur × ByteArray=>[bh a.1,T a.2,I ((v:Nat):Int)])
  (fun a=>a.1.ok (B+2+2*a.2.size)∧Tx 14 a.2) (fun a=>14 - a.2.size) (fun o=>∃(s:ByteArray) (c':Cur),o = .ext 0 [bh c',T s]∧Tx 14 s∧c'.ok (B+40)) ?_ (c1,⟨⟨[]⟩⟩) ⟨k1.mono (by show B+2≤B+2+2*0;omega),by show 0≤14;omega,zN⟩ rfl ?_
 ·rintro⟨ca,s⟩ ⟨h1,h2,h3⟩
  simp only at h1 h2 h3;by_cases hn:s.size<v
  ·have hn':(s.size:Int)<((v:Nat):Int):=by omega
   obtain⟨t,c2,e2,ht,k2⟩:=Cm ca W7 _ h1 (by omega) (by decide) (by decide);have hts:=EG t ht;have ha:=wz (a:=s) (b:=t) (by omega);refine .inl ⟨(c2,s++t),?_,⟨k2.mono (by simp only [GP];omega),by simp only [GP];omega,mW h3 (Gm t ht).ok⟩,by simp only [GP];omega⟩
   simp -implicitDefEqProofs only [bA,cn,dz,GZ,dL,hn',decide_true,ep,if_true,dZ,jD,e2,bW,ha]
  ·have hn':¬(s.size:Int)<((v:Nat):Int):=by omega
   refine .inr ⟨_,?_,rfl,s,ca,rfl,⟨h2,h3⟩,h1.mono (by omega)⟩
   simp -implicitDefEqProofs only [bA,cn,dz,GZ,dL,hn',decide_false,ep,Hn,if_false]
 ·rintro o ⟨s,c',rfl,g1,g2⟩
  refine⟨s,c',?_,g1,g2⟩
  simp -implicitDefEqProofs only [kC,Nat.beq_refl,vn,if_true,bA,cn,dZ,GZ]
theorem zP {α:Type} {l:List α} {k:Nat} {x y:α} (h:x∈l.set k y):x∈l∨x=y:=List.mem_or_eq_of_mem_set h
theorem Db {l:List ByteArray} {k:Nat} (h:k<l.length) (t:ByteArray):stD 1 (txs l) (.ref k 0) (T t)=some (txs (l.set k t)):=by
 rw [CL (w:=.string l[k]) (by simp [h])];simp [txs,List.map_set]
theorem zT {l:List ByteArray} {k:Nat} (h:k<l.length):uZ 1 (txs l) (I (k:Int))=some (.ref k 0):=by
 rw [CD,if_pos (by simpa using h)]
theorem Dw (s:ByteArray):aC 1 [T s]=some (txs [s]):=by simp [aC,gc]
theorem zX (l:List ByteArray):iu (txs l)=some (txs l):=ko fun _=>rfl
theorem Ei {l m:List ByteArray} (h:l.length+m.length≤1048577):fT 1 16 (txs l) (txs m)=some (txs (l++m)):=by
 rw [jz,if_pos (by simp only [Ha];omega)];show _=some (D.arr 1 ((l++m).map T))
 rw [Hr]
theorem FV:D.arr 1 []=txs []:=rfl
theorem zG {body:List D→Option Out} {K:Out→Option Out} (B n:Nat) (hn:n≤30) (c0:Cur) (h0:c0.ok B) (Q:Option Out→Prop)
  (hs:∀(c:Cur) (l:List ByteArray),c.ok (B+50*l.length)→l.length<n→∃s c',body [bh c,txs l,I (n:Int)]=some (.nrm [bh c',txs (l++[s]),I (n:Int)])∧s.size≤20∧c'.ok (B+50*(l.length+1)))
  (he:∀(c:Cur) (l:List ByteArray),¬l.length<n→body [bh c,txs l,I (n:Int)]=some (.ext 0 [bh c,txs l,I (n:Int)]))
  (hK:∀(c:Cur) (l:List ByteArray),l.length=n→(∀s∈l,s.size≤20)→c.ok (B+1500)→Q (K (.ext 0 [bh c,txs l,I (n:Int)]))):Q ((aY body [bh c0,txs [],I (n:Int)]).bind K):=by
 refine cB Q (fun a:Cur × List ByteArray=>[bh a.1,txs a.2,I (n:Int)]) (fun a=>a.1.ok (B+50*a.2.length)∧a.2.length≤n∧∀s∈a.2,s.size≤20) (fun a=>n - a.2.length)
  (fun o=>∃(c:Cur) (l:List ByteArray),o = .ext 0 [bh c,txs l,I (n:Int)]∧l.length=n∧(∀s∈l,s.size≤20)∧c.ok (B+1500)) ?_ (c0,[]) ⟨h0.mono (by simp),by simp,by simp⟩ rfl ?_
 ·rintro⟨c,l⟩ ⟨h1,h2,h3⟩
  simp only at h1 h2 h3;by_cases hlt:l.length<n
  ·obtain⟨s,c',e,k1,k2⟩:=hs c l h1 hlt
   refine .inl ⟨(c',l++[s]),e,⟨by simpa using k2,by simp;omega,fun x hx=>?_⟩,by simp;omega⟩
   rcases Hm.1 hx with hx | hx
   ·exact h3 x hx
   ·rw [Ie.1 hx];exact k1
  ·exact .inr ⟨_,he c l hlt,rfl,c,l,rfl,by omega,h3,h1.mono (by omega)⟩
 ·rintro o ⟨c,l,rfl,g1,g2,g3⟩
  exact hK c l g1 g2 g3
structure Ln (l:List ByteArray):Prop where
 ln:l.length≤13
 sz:∀s∈l,s.size≤41
theorem vW (c:Cur) (B:Nat) (h:c.ok B) (hB:B≤10000000):∃(l:List ByteArray) (c':Cur),bX [bh c]=some (.ret [txs l] [bh c'])∧Ln l∧c'.ok (B+2000):=by
 rw [oL];obtain⟨v,c1,e1,l1,u1,k1⟩:=eA c 3 B h (by omega) (by omega);obtain⟨v,rfl⟩:=GU l1;have hv3:v<3:=by omega
 have hw1:GQ.wrap (1+(v:Int))=((1+v:Nat):Int):=by rw [aA (by omega) (by omega)];omega
 obtain⟨b,c2,e2,k2⟩:=xj c1 16 _ k1 (by omega) (by omega);have step:∀(B':Nat) (c:Cur) (l:List ByteArray),B'≤800000000→c.ok B'→l.length≤60→∃s c',bK [bh c]=some (.ret [T s] [bh c'])∧s.size≤20∧c'.ok (B'+40)∧aC 1 [T s]=some (txs [s])∧fT 1 16 (txs l) (txs [s])=some (txs (l++[s])):=by
  intro B' c l h1 h2 h3;obtain⟨s,c',e,hs,hc⟩:=Ba c B' h2 (by omega);exact⟨s,c',e,by have:=hs.sz;omega,hc,Dw s,Ei (by simp only [List.length_singleton];omega)⟩
 have fin:∀(c:Cur) (l:List ByteArray) (n:Nat),l.length=n→0<n→n≤60→c.ok (B+1600)→∃(b:Bool) (c3:Cur) (y:Nat) (c4:Cur),bn [bh c,I 24]=some (.ret [.v (.bool b)] [bh c3])∧c3.ok (B+1700)∧al [bh c3,I 2]=some (.ret [I (y:Int)] [bh c4])∧y<2∧c4.ok (B+1710) ∧
   ∀s:ByteArray,s.size≤41→∃(k:Nat) (c5:Cur) (w:ByteArray) (c6:Cur),al [bh c4,I (n:Int)]=some (.ret [I (k:Int)] [bh c5])∧k<n∧aF [bh c5,txs [s,⟨⟨[65]⟩⟩,⟨⟨[97,46,98]⟩⟩]]=some (.ret [T w] [bh c6])∧w.size≤41∧c6.ok (B+1800)∧aC 1 [T s,T ⟨⟨[65]⟩⟩,T ⟨⟨[97,46,98]⟩⟩]=some (txs [s,⟨⟨[65]⟩⟩,⟨⟨[97,46,98]⟩⟩]):=by
  intro c l n h1 h2 h3 h4;obtain⟨b,c3,e3,k3⟩:=xj c 24 _ h4 (by omega) (by omega);obtain⟨y,c4,e4,l4,u4,k4⟩:=eA c3 2 _ k3 (by omega) (by omega);obtain⟨y,rfl⟩:=GU l4;refine⟨b,c3,y,c4,e3,k3.mono (by omega),e4,by omega,k4.mono (by omega),fun s hs=>?_⟩
  obtain⟨k,c5,e5,l5,u5,k5⟩:=eA c4 (n:Int) _ k4 (by omega) (by omega);obtain⟨k,rfl⟩:=GU l5;obtain⟨w,c6,e6,hw,k6⟩:=Cm c5 [s,⟨⟨[65]⟩⟩,⟨⟨[97,46,98]⟩⟩] _ k5 (by omega) (by simp) (by simp);refine⟨k,c5,w,c6,e5,by omega,e6,?_,k6.mono (by omega),vx (l:=[s,⟨⟨[65]⟩⟩,⟨⟨[97,46,98]⟩⟩])⟩
  simp only [Hl,Hz,or_false] at hw;rcases hw with rfl | rfl | rfl
  ·exact hs
  ·decide
  ·decide
 have mi:aC 1 [I 0,I 12,I 13]=some (nQ [0,12,13]):=ur (l:=[0,12,13]);simp -implicitDefEqProofs only [ai,GK,GL,GM,e1,e2,hw1,FV];cases b
 ·simp -implicitDefEqProofs only [ai,GK,GL,GM]
  refine zG (B+10) (1+v) (by omega) c2 (k2.mono (by omega)) (fun X=>∃(l:List ByteArray) (c':Cur),X=some (.ret [txs l] [bh c'])∧Ln l∧c'.ok (B+2000)) (fun c l h1 hlt=>?_) (fun c l hlt=>?_) (fun c l h1 h2 h3=>?_)
  ·obtain⟨s,c',g1,g2,g3,g4,g5⟩:=step _ c l (by omega) h1 (by omega)
   have hlt':(l.length:Int)<((1+v:Nat):Int):=by omega
   refine⟨s,c',?_,g2,g3.mono (by omega)⟩
   simp -implicitDefEqProofs only [ai,GK,GL,GM,hlt',g1,g4,zX,g5]
  ·have hlt':¬(l.length:Int)<((1+v:Nat):Int):=by omega
   simp -implicitDefEqProofs only [ai,GK,GL,GM,hlt']
  ·have hwi:Ln l:=⟨by omega,fun s hs=>by have:=h2 s hs;omega⟩
   by_cases hv:0<(1+v)
   ·have hv':(0:Int)<((1+v:Nat):Int):=by omega
    obtain⟨b,c3,y,c4,e3,k3,e4,hy,k4,tail⟩:=fin c l (1+v) h1 hv (by omega) (h3.mono (by omega));cases b
    ·refine⟨l,c3,?_,hwi,k3.mono (by omega)⟩
     simp -implicitDefEqProofs only [ai,GK,GL,GM,hv',e3]
    ·have hw:GQ.wrap (40+(y:Int))=((40+y:Nat):Int):=by rw [aA (by omega) (by omega)];omega
     simp -implicitDefEqProofs only [ai,GK,GL,GM,hv',e3,e4,hw,tS'];refine cB (fun X=>∃(l:List ByteArray) (c':Cur),X=some (.ret [txs l] [bh c'])∧Ln l∧c'.ok (B+2000)) (fun a:ByteArray=>[bh c4,txs l,I ((1+v:Nat):Int),T a,I ((40+y:Nat):Int)])
      (fun a=>a.size≤41) (fun a=>41 - a.size) (fun o=>∃(s:ByteArray),o = .ext 2 [bh c4,txs l,I ((1+v:Nat):Int),T s]∧s.size≤41) ?_ (⟨⟨[]⟩⟩) (by show 0≤41;omega) rfl ?_
     ·intro s h2
      by_cases hn:s.size<40+y
      ·have hn':(s.size:Int)<((40+y:Nat):Int):=by omega
       have hz:(⟨⟨[120]⟩⟩:ByteArray).size=1:=rfl;have ha:=wz (a:=s) (b:=⟨⟨[120]⟩⟩) (by omega);refine .inl ⟨s++⟨⟨[120]⟩⟩,?_,by simp only [GP];omega,by simp only [GP];omega⟩
       simp -implicitDefEqProofs only [ai,GK,GL,GM,hn',ha]
      ·have hn':¬(s.size:Int)<((40+y:Nat):Int):=by omega
       refine .inr ⟨_,?_,rfl,s,rfl,h2⟩
       simp -implicitDefEqProofs only [ai,GK,GL,GM,hn']
     ·rintro o ⟨s,rfl,hs⟩
      obtain⟨k,c5,w,c6,g3,g4,g5,g6,g7,g8⟩:=tail s hs;have hr:=zT (l:=l) (k:=k) (by omega);have hst:=Db (l:=l) (k:=k) (by omega) w;refine⟨l.set k w,c6,?_,⟨by rw [Ig];omega,fun s hs=>?_⟩,g7.mono (by omega)⟩
      ·simp -implicitDefEqProofs only [ai,GK,GL,GM,g3,g5,g8,hr,hst]
      ·rcases zP hs with hs | rfl
       ·exact hwi.sz s hs
       ·omega
   ·have hv':¬(0:Int)<((1+v:Nat):Int):=by omega
    refine⟨l,c,?_,hwi,h3.mono (by omega)⟩
    simp -implicitDefEqProofs only [ai,GK,GL,GM,hv']
 ·obtain⟨x,c3,e3,hx,k3⟩:=pG c2 [0,12,13] _ k2 (by omega) (by simp) (by simp)
  simp only [Hl,Hz,or_false] at hx;obtain⟨x,rfl⟩:=GU (a:=x) (by omega);have hx13:x≤13:=by omega
  simp -implicitDefEqProofs only [ai,GK,GL,GM,mi,e3];refine zG (B+10) (x) (by omega) c3 (k3.mono (by omega)) (fun X=>∃(l:List ByteArray) (c':Cur),X=some (.ret [txs l] [bh c'])∧Ln l∧c'.ok (B+2000)) (fun c l h1 hlt=>?_) (fun c l hlt=>?_) (fun c l h1 h2 h3=>?_)
  ·obtain⟨s,c',g1,g2,g3,g4,g5⟩:=step _ c l (by omega) h1 (by omega)
   have hlt':(l.length:Int)<((x:Nat):Int):=by omega
   refine⟨s,c',?_,g2,g3.mono (by omega)⟩
   simp -implicitDefEqProofs only [ai,GK,GL,GM,hlt',g1,g4,zX,g5]
  ·have hlt':¬(l.length:Int)<((x:Nat):Int):=by omega
   simp -implicitDefEqProofs only [ai,GK,GL,GM,hlt']
  ·have hwi:Ln l:=⟨by omega,fun s hs=>by have:=h2 s hs;omega⟩
   by_cases hv:0<(x)
   ·have hv':(0:Int)<((x:Nat):Int):=by omega
    obtain⟨b,c3,y,c4,e3,k3,e4,hy,k4,tail⟩:=fin c l (x) h1 hv (by omega) (h3.mono (by omega));cases b
    ·refine⟨l,c3,?_,hwi,k3.mono (by omega)⟩
     simp -implicitDefEqProofs only [ai,GK,GL,GM,hv',e3]
    ·have hw:GQ.wrap (40+(y:Int))=((40+y:Nat):Int):=by rw [aA (by omega) (by omega)];omega
     simp -implicitDefEqProofs only [ai,GK,GL,GM,hv',e3,e4,hw,tS'];refine cB (fun X=>∃(l:List ByteArray) (c':Cur),X=some (.ret [txs l] [bh c'])∧Ln l∧c'.ok (B+2000)) (fun a:ByteArray=>[bh c4,txs l,I ((x:Nat):Int),T a,I ((40+y:Nat):Int)])
      (fun a=>a.size≤41) (fun a=>41 - a.size) (fun o=>∃(s:ByteArray),o = .ext 2 [bh c4,txs l,I ((x:Nat):Int),T s]∧s.size≤41) ?_ (⟨⟨[]⟩⟩) (by show 0≤41;omega) rfl ?_
     ·intro s h2
      by_cases hn:s.size<40+y
      ·have hn':(s.size:Int)<((40+y:Nat):Int):=by omega
       have hz:(⟨⟨[120]⟩⟩:ByteArray).size=1:=rfl;have ha:=wz (a:=s) (b:=⟨⟨[120]⟩⟩) (by omega);refine .inl ⟨s++⟨⟨[120]⟩⟩,?_,by simp only [GP];omega,by simp only [GP];omega⟩
       simp -implicitDefEqProofs only [ai,GK,GL,GM,hn',ha]
      ·have hn':¬(s.size:Int)<((40+y:Nat):Int):=by omega
       refine .inr ⟨_,?_,rfl,s,rfl,h2⟩
       simp -implicitDefEqProofs only [ai,GK,GL,GM,hn']
     ·rintro o ⟨s,rfl,hs⟩
      obtain⟨k,c5,w,c6,g3,g4,g5,g6,g7,g8⟩:=tail s hs;have hr:=zT (l:=l) (k:=k) (by omega);have hst:=Db (l:=l) (k:=k) (by omega) w;refine⟨l.set k w,c6,?_,⟨by rw [Ig];omega,fun s hs=>?_⟩,g7.mono (by omega)⟩
      ·simp -implicitDefEqProofs only [ai,GK,GL,GM,g3,g5,g8,hr,hst]
      ·rcases zP hs with hs | rfl
       ·exact hwi.sz s hs
       ·omega
   ·have hv':¬(0:Int)<((x:Nat):Int):=by omega
    refine⟨l,c,?_,hwi,h3.mono (by omega)⟩
    simp -implicitDefEqProofs only [ai,GK,GL,GM,hv']
end Go.Proofs.YtidhhpakdogiaaaGreatDoor

end
