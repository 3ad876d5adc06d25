/-
  A part of the proof: contracts and plain forms of functions beneath the statement, made small by a program (names shortened, what is not needed left out).
-/
import Derived.Test.YtccaheogjpfhjaaGreatRows
import Derived.Test.YtccaheogjpfhjaaGreatM10
import Derived.Deep.RegionHeld3
import Derived.Deep.Cut
import Derived.StillTailTactics
import Derived.Deep.CutBlock
open List renaming setIfInBounds_toArray → ZE, set_cons_zero → ZF, set_cons_succ → ZG, getElem?_eq_getElem → ZI, range → ZU, length_map → ZX, getD_eq_getElem?_getD → ZZ, mem_range → aab, size_toArray → aak, getElem?_toArray → aal, length_singleton → aam, getElem?_append_left → aao, length_append → aaq, append_assoc → aau, getElem_mem → aaw, all_eq_true → aax, mem_filter → aay, length_pos_iff → aaA, drop_zero → aaC, getElem_of_mem → aaP, drop_succ_cons → aaQ, any_eq_true → aaW, filter_cons → aaX, length_cons → aaY, nil_append → aaZ
open Option renaming bind_some → ZH, map_some → ZO, getD_some → aaa
open Go.Act renaming put → ZJ
open Array renaming getD_eq_getD_getElem? → ZK, getElem?_setIfInBounds_ne → aac, getD → aai, replicate → aaj, mem_toList_iff → aan, getElem?_setIfInBounds → aaB, all_eq_true' → aaD, getElem?_eq_some_iff → aaE
open Go.Region renaming ready → ZL, binds → aah, wanted → aav, Mode → aaV
open And renaming intro → ZM
open Bool renaming and_eq_true → ZN, false_eq_true → ZQ, not_eq_true' → aaF, or_eq_true → aaL, not_false → aaN, not_true → aaO
open Go.AllReadyH renaming cons → ZP, nil → ZT
open Go.Region.linearise renaming go → ZR
open Go.IntKind renaming i64 → ZS, u64 → aa2
open Go.World renaming setCell → ZV, cell? → aaU
open Or renaming inl → ZW
open Nat renaming le_trans → ZY, le_refl → aad, lt_of_lt_of_le → aae, beq_refl → aas
open Go.Value renaming int → aaf, string → aar
open ByteArray renaming empty → aag
open Go.Exit renaming inBlock → aap
open Int renaming eq_ofNat_of_zero_le → aat, toNat_natCast → aaH
open Go.Proofs renaming enters_of → aaz
open Option.some renaming injEq → aaG
open Go.RowKit.Below renaming refl → aaI
open Classical renaming byContradiction → aaJ, choose → aaK, epsilon_spec → aaM, epsilon → aaS
open Go.Op renaming bytesLess → aaR
open Go.Value.slice renaming injEq → aaT
open List.cons renaming injEq → aa0
open Go.Addr.mk renaming injEq → aa1
set_option maxRecDepth 100000
set_option linter.unusedSimpArgs false
set_option linter.unusedVariables false
noncomputable section
namespace Go.Proofs.YtccaheogjpfhjaaGreat
open Go Go.Proofs Go.V Go.RowKit
set_option maxRecDepth 100000
theorem SetA.keep {W W':World} {B:Nat} {vB vS:Value} {x:Stg} (h:SetA W B vB vS x) (hk:∀b,bh vB b∨bh vS b→W'.heap[b]?=W.heap[b]?):SetA W' B vB vS x:=⟨iS h.ob fun b hb=>hk b (.inl hb),iS h.os fun b hb=>hk b (.inr hb),h.gb,h.gs,h.dis⟩
theorem Xd {W:World} {z:Nat} {l:List D} {A:Option Addr} {n c:Nat} (h:kb W z (.arr z l) (.slice A n c)):n=l.length:=by
 obtain⟨l',e,_,⟨e2,e3⟩ | ⟨g,o,c',us,cs,t,e2,_⟩⟩:=h
 ·cases e2
  rw [(D.arr.inj e).2,e3];rfl
 ·cases e2
  rw [(D.arr.inj e).2]
set_option maxHeartbeats 20000000 in
set_option maxRecDepth 1000000 in
theorem yE (f:List Srt) (x:Stg) (u:ByteArray) (hf:FntW f) (hbx:kz x.1) (hst:x.2.length≤1000) (hu:u.size≤1000) (w:World) (F:Nat→Prop) (yF yB yS:Value) (hF:bf w F (srs f) yF) (hB:bf w F (bxs x.1) yB) (hS:bf w F (txs x.2) yS) (hFw:∀b,F b→b<w.heap.size) :
  Calls Tryz.prog 52 #[yF,.agg #[yB,yS],.string u] w fun e w'=>∃vB vS,e = .returned (.tuple #[.agg #[vB,vS],.bool (dsR f x.1 x.2 u).isSome])∧SetA w' w.heap.size vB vS ((dsR f x.1 x.2 u).getD ([],[]))∧Below w.heap.size w w':=by
 have hfl:=hf.ln;have hf0:f≠[]:=fun e=>by rw [e] at hfl;simp at hfl
 obtain⟨gF,oF,cF,rfl,hgF,hcF⟩:=Gg hF hf0;obtain⟨AB,cB,rfl⟩:=CZ hB;obtain⟨AS,cS,rfl⟩:=CZ hS;rw [ZX] at hB hS ⊢;have hgFw:=hFw gF hgF;have rF:∀W,Below w.heap.size w W→bf W (fun b=>b<W.heap.size) (srs f) (.slice (some ⟨gF,oF,none⟩) f.length cF):=fun W hW=>aK (fun b hb=>aae (hFw b hb) hW.size) (fun b hb=>hW.block b (hFw b hb)) hF
 have rB:∀W,Below w.heap.size w W→bf W (fun b=>b<W.heap.size) (bxs x.1) (.slice AB x.1.length cB):=fun W hW=>aK (fun b hb=>aae (hFw b hb) hW.size) (fun b hb=>hW.block b (hFw b hb)) hB
 have rS:∀W,Below w.heap.size w W→bf W (fun b=>b<W.heap.size) (txs x.2) (.slice AS x.2.length cS):=fun W hW=>aK (fun b hb=>aae (hFw b hb) hW.size) (fun b hb=>hW.block b (hFw b hb)) hS
 have hcW:∀W,Below w.heap.size w W→∀(i:Nat) (hi:i<f.length),W.cell? ⟨gF,oF+i*2,none⟩=some (.string f[i].1):=fun W hW i hi=>by
  have:=hcF i hi;simp only [aaU] at this ⊢;rw [hW.block gF hgFw];exact this
 have b0:Below w.heap.size w ((w.alloc (.cells #[.slice AB x.1.length cB,.slice AS x.2.length cS] 44)).alloc (.cells #[.slice none 0 0,.slice none 0 0] 44)):=((aaI _ w).alloc (aad _) _).alloc (by simp) _;have p0:((w.alloc (.cells #[.slice AB x.1.length cB,.slice AS x.2.length cS] 44)).alloc (.cells #[.slice none 0 0,.slice none 0 0] 44)).heap[w.heap.size]?=some (.cells #[.slice AB x.1.length cB,.slice AS x.2.length cS] 44 (0,0)):=fq _ (bF _ rfl);have q0:((w.alloc (.cells #[.slice AB x.1.length cB,.slice AS x.2.length cS] 44)).alloc (.cells #[.slice none 0 0,.slice none 0 0] 44)).heap[w.heap.size+1]?=some (.cells #[.slice none 0 0,.slice none 0 0] 44 (0,0)):=bF _ (by simp);have z0:((w.alloc (.cells #[.slice AB x.1.length cB,.slice AS x.2.length cS] 44)).alloc (.cells #[.slice none 0 0,.slice none 0 0] 44)).heap.size=w.heap.size+1+1:=by simp
 go_enter Tryz.func52,Tryz.ntmps52
 go_upto_region 1 with fail
 generalize ((w.alloc (.cells #[.slice AB x.1.length cB,.slice AS x.2.length cS] 44)).alloc (.cells #[.slice none 0 0,.slice none 0 0] 44))=W0 at *;obtain⟨tb,htb⟩:∃tb,tb=w.heap.size+1:=⟨_,rfl⟩
 rw [←htb] at q0 ⊢;have HT:Hid (tb=w.heap.size+1):=htb;have hZ0:W0.heap.size=tb+1:=by rw [htb];exact z0
 have HZ0:Hid (W0.heap.size=tb+1):=hZ0;clear htb z0 hZ0;have hTy:=PV hf hu (rF W0 b0) (fun b hb=>hb)
 go_upto_region 2 with (go_at_call 99;refine hTy.mono ?_;rintro e W1 ⟨A1,n1,k1,rfl,o1,l1,b1⟩)
 have p1:=aJ b1 p0 (aG p0);have q1:=aJ b1 q0 (aG q0);have b01:Below w.heap.size w W1:=b0.trans (b1.mono b0.size);have HP:Hid _:=p1;have HQ:Hid _:=q1;have HB1:Hid _:=b01;clear hTy p0 q0 b0 b1 p1 q1 b01;have hge:w.heap.size≤tb:=by have:=HT.out;omega
 have hgr:∀W:World,Below w.heap.size w W→Below w.heap.size w W:=fun W h=>h
 cases hr:qi (cds f) u with
 | none =>
  have hds:dsR f x.1 x.2 u=none:=by unfold dsR;rw [hr];rfl
  obtain⟨⟨t0,t1⟩,t2,t3⟩:=ci HQ.out;obtain⟨s1,s2⟩:=Rz HQ.out hge (.slice none 0 0) (.slice none 0 0)
  go_wp2
  (try simp only [aap,Exit.then])
  refine bodyPost_ret (rK rfl rfl rfl s1 rfl) rfl ?_
  (try rw [hds])
  exact⟨_,_,rfl,SetA.nil _ _,HB1.out.trans s2⟩
 | some r =>
  rw [hr] at o1;simp only [aaa] at o1;obtain⟨hlt,hlen⟩:=EQ hf.cod hr;have hlt':∀k∈r,k<f.length:=fun k hk=>by have:=hlt k hk;simpa [cds] using this
  have hrl:r.length≤1000:=by omega
  have hn1:n1=r.length:=by have:=Xd o1;simpa using this
  subst hn1;have HO1:Hid _:=o1;have HL1:Hid _:=l1;have hds:dsR f x.1 x.2 u=if mvB (-1) x.1 (bQ (cds f) r)=true∧iz (mvR (-1) x.1 (bQ (cds f) r)) (x.2++bQ (cds f) r)=true then some (mvR (-1) x.1 (bQ (cds f) r),x.2++bQ (cds f) r) else none:=by unfold dsR;rw [hr];rfl
  have HD:Hid _:=hds;clear o1 l1 hr hds;rw [show(some r).isSome=true from rfl]
  go_wp2
  go_loopw [10,27] (fun vc vi wr=>∃(i:Nat) (A:Option Addr) (n k:Nat),vi = .int .i64 (i:Int)∧i≤r.length∧vc = .slice A n k∧kb wr 1 (txs (bQ (cds f) (r.take i))) (.slice A n k)∧(∀b,bh (.slice A n k) b→W1.heap.size≤b)∧Below W1.heap.size W1 wr) (fun _ vi _=>r.length - (intOf vi).toNat)
  case atStart=>exact⟨0,none,0,0,rfl,Nat.zero_le _,rfl,EL _ 1,(fun b hb=>by cases hb),aaI _ _⟩
  case round =>
   obtain⟨i,A,n,k,rfl,hi,rfl,ho,hb,hB2⟩:=hrel;by_cases hlt2:i<r.length
   ·have hii:(i:Int)<(r.length:Int):=by omega
    have hi0:(0:Int)≤(i:Int):=by omega
    obtain⟨gN,oN,cN,eN,hcN⟩:=Rx (ie HO1.out hB2) (fun e=>by rw [e] at hlt2;simp at hlt2);cases eN;have hk:=hlt' r[i] (aaw hlt2);have c0:=hcN i hlt2;have c1:=hcW wr (HB1.out.trans (hB2.mono HB1.out.size)) r[i] hk;have hki:((r[i]:Nat):Int)<(f.length:Int):=by omega
    have hk0:(0:Int)≤((r[i]:Nat):Int):=by omega
    have hoA:kb (wr.alloc (.cells #[.string f[r[i]].1] 9)) 1 (txs (bQ (cds f) (r.take i))) (.slice A n k):=ie ho ((aaI _ wr).alloc (aad _) _);have hll:(bQ (cds f) (r.take i)).length+[f[r[i]].1].length≤1048576:=by rw [lG,List.length_take];simp;omega
    obtain⟨kk,hkk⟩:∃kk,kk=r[i]:=⟨_,rfl⟩
    go_wp2_with (at_builtin;refine kX _ rfl _ _ rfl (bQ (cds f) (r.take i)) [f[r[i]].1] (.slice A n k) (.slice (some ⟨wr.heap.size,0,none⟩) 1 1) rfl rfl hoA (Mx wr _) hll ?_;intro A' n' c' w' ho' hb' hk')
    refine⟨⟨i+1,A',n',c',congrArg (aaf .i64) (by omega),by omega,rfl,?_,fun b hb3=>?_,?_⟩,?_⟩
    ·rw [DA hlt2,QH hk]
     exact ho'
    ·rcases hb' b hb3 with h | h
     ·exact hb b h
     ·have:=hB2.size
      simp at h;omega
    ·exact hk'.belowB (hB2.alloc hB2.size _) hb (by have:=hB2.size;simp;omega)
    ·show r.length - ((i:Int)+1).toNat<r.length - (i:Int).toNat
     omega
   ·have hie:i=r.length:=by omega
    subst hie;rw [List.take_length] at ho;have hcl:=lG (cds f) r;have hii:¬((r.length:Nat):Int)<((r.length:Nat):Int):=by omega
    have Bw:=HB1.out.trans (hB2.mono HB1.out.size);have pw:=aJ hB2 HP.out (aG HP.out);have qw:=aJ hB2 HQ.out (aG HQ.out);have htw:tb<W1.heap.size:=aG HQ.out;generalize bQ (cds f) r=cs at *;have hAsk:=LA hbx (by omega) (rB wr Bw) (fun b hb=>hb) (iV ho) (fun b hb=>hb);obtain⟨⟨y0,y1⟩,-,-⟩:=ci pw;have HO:Hid _:=ho;have HW:Hid _:=Bw;have HPw:Hid _:=pw;have HQw:Hid _:=qw;clear ho Bw pw qw HP HQ
    go_upto_region 10 with fail
    clear hii;cases hok:iz x.1 cs
    ·rw [hok] at hAsk
     have hds:dsR f x.1 x.2 u=none:=by
      rw [HD.out,if_neg];intro h;have h1:=h.1;unfold mvB at h1;rw [hok] at h1;cases h1
     go_upto_region 11 with (go_at_call 97;refine hAsk.mono ?_;rintro e W2 ⟨rfl,b2⟩)
     have q2:=aJ b2 HQw.out (aG HQw.out);have Bw2:=HW.out.trans (b2.mono HW.out.size);obtain⟨⟨t0,t1⟩,t2,t3⟩:=ci q2;obtain⟨s1,s2⟩:=Rz q2 hge (.slice none 0 0) (.slice none 0 0);have H2:Hid _:=ZM Bw2 (ZM s1 s2);clear q2 Bw2 s1 s2 b2 hAsk y0 y1
     go_wp2
     obtain⟨Bw2,s1,s2⟩:=H2.out
     (try simp only [aap,Exit.then])
     refine bodyPost_ret (rK rfl rfl rfl s1 rfl) rfl ?_
     (try rw [hds])
     exact⟨_,_,rfl,SetA.nil _ _,Bw2.trans s2⟩
    ·rw [hok] at hAsk
     go_upto_region 12 with (go_at_call 97;refine hAsk.mono ?_;rintro e W2 ⟨rfl,b2⟩)
     have p2:=aJ b2 HPw.out (aG HPw.out);have q2:=aJ b2 HQw.out (aG HQw.out);have Bw2:=HW.out.trans (b2.mono HW.out.size);have o2:=ie HO.out b2;have hMv:=MN hbx (by omega) hok (rB W2 Bw2) (fun b hb=>hb) (iV o2) (fun b hb=>hb);clear y0 y1 hAsk;obtain⟨⟨y0,y1⟩,-,-⟩:=ci p2;have H2:Hid _:=ZM p2 (ZM q2 (ZM Bw2 o2));clear p2 q2 Bw2 o2 b2
     go_upto_region 13 with (go_at_call 100;refine hMv.mono ?_;rintro e W3 ⟨A3,n3,k3,rfl,o3,l3,b3⟩)
     obtain⟨p2,q2,Bw2,o2⟩:=H2.out;have p3:=aJ b3 p2 (aG p2);have q3:=aJ b3 q2 (aG q2);have Bw3:=Bw2.trans (b3.mono Bw2.size);have o23:=ie o2 b3;have l3w:∀b,bh (.slice A3 n3 k3) b→w.heap.size≤b:=fun b hb=>by have:=(l3 b hb).1;have:=Bw2.size;omega
     have l3t:∀b,bh (.slice A3 n3 k3) b→tb<b:=fun b hb=>by have:=(l3 b hb).1;have:=aG q2;omega
     have hOw:=Dr (show x.2.length≤1048576 by omega) (rS W3 Bw3) (fun b hb=>hb);clear y0 y1 hMv;obtain⟨⟨y0,y1⟩,-,-⟩:=ci p3;have hlc:x.2.length+cs.length≤1048576:=by omega
     have H3:Hid _:=ZM q3 (ZM Bw3 (ZM o3 (ZM l3w l3t)));have HO3:Hid _:=o23;clear p2 q2 Bw2 o2 p3 q3 Bw3 b3 l3 l3w l3t o3 o23 H2
     go_upto_region 14 with (first | (go_at_call 89;refine hOw.mono ?_;rintro e W4 ⟨A4,n4,k4,rfl,o4,l4,b4⟩;have hc4:=Tk (ie HO3.out b4)) | (at_builtin;refine kX _ rfl _ _ rfl x.2 cs (.slice A4 n4 k4) (.slice A n k) rfl rfl o4 hc4 hlc ?_;intro A5 n5 k5 W5 o5 l5 k5x))
     obtain⟨q3,Bw3,o3,l3w,l3t⟩:=H3.out;have l4w:∀b,bh (.slice A4 n4 k4) b→w.heap.size≤b:=fun b hb=>by have:=(l4 b hb).1;have:=Bw3.size;omega
     have Bw4:=Bw3.trans (b4.mono Bw3.size);have Bw5:=k5x.belowB Bw4 l4w Bw4.size;have hs35:=ZY b4.size k5x.size;have q5:W5.heap[tb]?=some (.cells #[.slice none 0 0,.slice none 0 0] 44 (0,0)):=k5x.some (aJ b4 q3 (aG q3)) fun hb=>by have:=(l4 tb hb).1;have:=aG q3;omega
     have o35:kb W5 4 (bxs (mvR (-1) x.1 cs)) (.slice A3 n3 k3):=iS (ie o3 b4) fun b hb=>by
      have h3:=lE o3 b hb;exact k5x.block b (aae h3 b4.size) fun h=>by have:=(l4 b h).1;omega
     have l5w:∀b,bh (.slice A5 n5 k5) b→W3.heap.size≤b:=fun b hb=>by
      rcases l5 b hb with h | h
      ·exact(l4 b h).1
      ·have:=b4.size
       omega
     have hset:SetA W5 w.heap.size (.slice A3 n3 k3) (.slice A5 n5 k5) (mvR (-1) x.1 cs,x.2++cs):=⟨o35,o5,l3w,(fun b hb=>by have:=l5w b hb;have:=Bw3.size;omega),fun b hb h=>by have:=lE o3 b hb;have:=l5w b h;omega⟩
     have hnt:∀b,bh (.slice A3 n3 k3) b∨bh (.slice A5 n5 k5) b→b≠tb:=fun b hb e=>by
      rcases hb with hb | hb
      ·have:=l3t b hb;omega
      ·have:=l5w b hb;have:=aG q3;omega
     have b6:Below W5.heap.size W5 (W5.alloc (.cells #[.slice A3 n3 k3,.slice A5 n5 k5] 44)):=(aaI _ W5).alloc (aad _) _;have u6:(W5.alloc (.cells #[.slice A3 n3 k3,.slice A5 n5 k5] 44)).heap[W5.heap.size]?=some (.cells #[.slice A3 n3 k3,.slice A5 n5 k5] 44 (0,0)):=bF _ rfl;have hset6:=hset.below b6;have q6:=aJ b6 q5 (aG q5);have Bw6:=Bw5.trans (b6.mono Bw5.size);have hub:w.heap.size≤W5.heap.size:=Bw5.size;have hut:tb≠W5.heap.size:=by have:=aG q5;omega
     clear y0 y1 hlc hOw H3 HO3 q3 Bw3 o3 l3w l3t l4w Bw4 Bw5 hs35 q5 o35 l5w hset b6 o4 l4 b4 hc4 o5 l5 k5x;generalize W5.alloc (.cells #[.slice A3 n3 k3,.slice A5 n5 k5] 44)=W6 at *;generalize W5.heap.size=ob at *;obtain⟨⟨t0,t1⟩,t2,t3⟩:=ci q6;obtain⟨⟨v0,v1⟩,-,-⟩:=ci u6;obtain⟨s1,s2⟩:=Rz q6 hge (.slice none 0 0) (.slice none 0 0);have hmo:kz (mvR (-1) x.1 cs):=AD hbx;have hGd:=ML (x:=(mvR (-1) x.1 cs,x.2++cs)) hmo (by simp;omega) (iV hset6.ob) (iV hset6.os) (fun b hb=>hb);have H6:Hid _:=ZM q6 (ZM u6 (ZM hset6 (ZM Bw6 (ZM s1 s2))));clear q6 u6 hset6 Bw6 s1 s2;cases hmv:mvB (-1) x.1 cs
     ·have hds:dsR f x.1 x.2 u=none:=by
       rw [HD.out,if_neg];rintro⟨h,_⟩;rw [hmv] at h;cases h
      go_wp2
      obtain⟨_,_,_,Bw6,s1,s2⟩:=H6.out
      (try simp only [aap,Exit.then])
      refine bodyPost_ret (rK rfl rfl rfl s1 rfl) rfl ?_
      (try rw [hds])
      exact⟨_,_,rfl,SetA.nil _ _,Bw6.trans s2⟩
     ·cases hgd:iz (mvR (-1) x.1 cs) (x.2++cs)
      ·have hds:dsR f x.1 x.2 u=none:=by
        rw [HD.out,if_neg];rintro⟨_,h⟩;rw [hgd] at h;cases h
       simp only [hgd] at hGd
       go_upto_region 15 with (go_at_call 50;refine hGd.mono ?_;rintro e W7 ⟨rfl,b7⟩)
       obtain⟨q6,_,_,Bw6,_,_⟩:=H6.out;have q7:=aJ b7 q6 (aG q6);have Bw7:=Bw6.trans (b7.mono Bw6.size);clear t0 t1 t2 t3;obtain⟨⟨t0,t1⟩,t2,t3⟩:=ci q7;obtain⟨s1,s2⟩:=Rz q7 hge (.slice none 0 0) (.slice none 0 0);have H7:Hid _:=ZM Bw7 (ZM s1 s2);clear q6 Bw6 q7 Bw7 s1 s2
       go_wp2
       obtain⟨Bw7,s1,s2⟩:=H7.out
       (try simp only [aap,Exit.then])
       refine bodyPost_ret (rK rfl rfl rfl s1 rfl) rfl ?_
       (try rw [hds])
       exact⟨_,_,rfl,SetA.nil _ _,Bw7.trans s2⟩
      ·have hds:dsR f x.1 x.2 u=some (mvR (-1) x.1 cs,x.2++cs):=by rw [HD.out,if_pos ⟨hmv,hgd⟩]
       simp only [hgd] at hGd
       go_upto_region 16 with (go_at_call 50;refine hGd.mono ?_;rintro e W7 ⟨rfl,b7⟩)
       obtain⟨q6,u6,hset6,Bw6,_,_⟩:=H6.out;have q7:=aJ b7 q6 (aG q6);have u7:=aJ b7 u6 (aG u6);have Bw7:=Bw6.trans (b7.mono Bw6.size);have hset7:=hset6.below b7;clear t0 t1 t2 t3 v0 v1;obtain⟨⟨t0,t1⟩,t2,t3⟩:=ci q7;obtain⟨⟨v0,v1⟩,-,-⟩:=ci u7;obtain⟨s1,s2⟩:=Rz q7 hge (.slice A3 n3 k3) (.slice A5 n5 k5);have H7:Hid _:=ZM q7 (ZM hset7 (ZM Bw7 (ZM s1 s2)));clear q6 u6 Bw6 q7 Bw7 s1 s2 hset6 hset7 u7
       go_wp2
       obtain⟨q7,hset7,Bw7,s1,s2⟩:=H7.out
       (try simp only [aap,Exit.then])
       refine bodyPost_ret (rK rfl rfl rfl s1 rfl) rfl ?_
       (try rw [hds])
       refine⟨_,_,rfl,?_,Bw7.trans s2⟩
       exact hset7.keep fun b hb=>by
        have hn:=hnt b hb;rw [heap_setCell_other _ _ _ _ hn,heap_setCell_other _ _ _ _ hn]
set_option maxRecDepth 100000
variable {Z:Nat→Prop}
theorem RK {f:List Srt} (h:1≤f.length∧f.length≤12) (hs:(cdF f).Sublist L12):FntW f:=by
 have hp:(cdF f).Pairwise fun a b=>aaR a.toList b.toList=true:=ub.2.sublist hs
 refine⟨⟨fun j hj=>?_,fun i j hi hj e=>?_⟩,by omega⟩
 ·have hm:(cds f)[j]∈L12:=hs.subset (aaw hj)
  have hl:=kE (ub.1 _ hm);have hz:((cds f)[j]).size=(aM (cds f)[j]).length:=rfl;omega
 ·have hp:=List.pairwise_iff_getElem.1 hp
  rcases Nat.lt_trichotomy i j with g | g | g
  ·have h1:aaR (cds f)[i].toList (cds f)[j].toList=true:=hp i j hi hj g
   rw [e,uw] at h1;cases h1
  ·exact g
  ·have h1:aaR (cds f)[j].toList (cds f)[i].toList=true:=hp j i hj hi g
   rw [e,uw] at h1;cases h1
def wo (c:Cur):ByteArray × Cur:=aaS fun p:ByteArray × Cur=>cM [aR c]=some (.ret [T p.1] [aR p.2])∧p.1.size≤24∧p.2.ok (c.at_+20)
theorem UF {c:Cur} {B:Nat} (h:c.ok B) (hB:B≤800000000):cM [aR c]=some (.ret [T (wo c).1] [aR (wo c).2])∧(wo c).1.size≤24∧(wo c).2.ok (B+20):=by
 obtain⟨v,c',e,h1,h3⟩:=UP c c.at_ h.at (by have:=h.at_;omega);obtain⟨g1,g2,g4⟩:=aaM (p:=fun p:ByteArray × Cur=>cM [aR c]=some (.ret [T p.1] [aR p.2])∧p.1.size≤24∧p.2.ok (c.at_+20)) ⟨(v,c'),e,by have:=h1.sz;simp only;omega,h3⟩;exact⟨g1,g2,h.up g4⟩
def oo (c:Cur) (l:List ByteArray):ByteArray × Cur:=aaS fun p:ByteArray × Cur=>dp [aR c,txs l]=some (.ret [T p.1] [aR p.2])∧p.1∈l∧p.2.ok (c.at_+2)
theorem WX {c:Cur} {l:List ByteArray} {B:Nat} (h:c.ok B) (hB:B≤100000000000) (hl:l≠[]) (hn:l.length≤1000000000):dp [aR c,txs l]=some (.ret [T (oo c l).1] [aR (oo c l).2])∧(oo c l).1∈l∧(oo c l).2.ok (B+2):=by
 obtain⟨v,c',e,h1,h3⟩:=VP c l c.at_ h.at (by have:=h.at_;omega) hl hn;obtain⟨g1,g2,g4⟩:=aaM (p:=fun p:ByteArray × Cur=>dp [aR c,txs l]=some (.ret [T p.1] [aR p.2])∧p.1∈l∧p.2.ok (c.at_+2)) ⟨(v,c'),e,h1,h3⟩;exact⟨g1,g2,h.up g4⟩
theorem Km {w:World} {q:Nat} {S:Nat→Prop} {c:Cur} {B:Nat} (h:c.ok B) (hB:B≤800000000) (hC:eh Z w q S (aR c)) (hS:∀b,S b→b<w.heap.size) (hZ:∀b,Z b→b<w.heap.size) :
  Calls Tryz.prog 88 #[.pointer (some ⟨q,0,none⟩)] w fun e w'=>e = .returned (.string (wo c).1)∧eh Z w' q S (aR (wo c).2)∧KeepX (fun b=>b=q) w w' :=
 sn (Fa:=fun _=>False) (ys:=[]) (ds:=[]) (pm:=[]) (aaz Tryz.func88 (by kernel_rfl) rfl) pQ (UF h hB).1 rfl (sf _) hC hS hZ (fun b h=>h.elim) trivial
theorem Vu {w:World} {q:Nat} {S Fa:Nat→Prop} {c:Cur} {B:Nat} (h:c.ok B) (hB:B≤100000000000) {l:List ByteArray} (hl:l≠[]) (hn:l.length≤1000000000) {y:Value} (hC:eh Z w q S (aR c)) (hS:∀b,S b→b<w.heap.size) (hZ:∀b,Z b→b<w.heap.size) (hFa:∀b,Fa b→b<w.heap.size∧b≠q∧¬S b∧¬Z b) (hy:bf w Fa (txs l) y) :
  Calls Tryz.prog 90 #[.pointer (some ⟨q,0,none⟩),y] w fun e w'=>e = .returned (.string (oo c l).1)∧eh Z w' q S (aR (oo c l).2)∧KeepX (fun b=>b=q) w w' :=
 sn (Fa:=Fa) (ys:=[y]) (ds:=[txs l]) (pm:=[.dat 2]) (aaz Tryz.func90 (by kernel_rfl) rfl) jM (WX h hB hl hn).1 rfl (sf _) hC hS hZ hFa ⟨.inr hy,trivial⟩
abbrev zBx:Bx:=(aag,0,0,0)
abbrev DK (x:Bx) (n:Int):Bx:=(x.1,x.2.1,x.2.2.1,n)
def Hv (N:Nat) (l:List ByteArray) (s:ByteArray):List ByteArray:=l++List.replicate (N - l.length) s
def wdS (f:List Srt):Nat→Cur × Stg→Cur × Stg
 | 0,a=>a
 | n+1,a=>wdS f n ((wo a.1).2,(dsR f a.2.1 a.2.2 (wo a.1).1).getD a.2)
def se0 (c:Cur):List Bx × Cur:=bo (fo c).2 (fo c).1
def se1 (c:Cur):Cur × Stg:=wdS (fo c).1 (pk (se0 c).2 4).1.toNat ((pk (se0 c).2 4).2,((se0 c).1,[]))
def zz2:List ByteArray:=[⟨#[122,122,122]⟩,⟨#[]⟩]
def Bf (s:ByteArray) (k:Int × Cur) (x:Stg):Cur × Stg :=
 if k.1=0 then((oo k.2 zz2).2,(x.1,x.2++[(oo k.2 zz2).1]))
 else if k.1=1 then((pk k.2 2).2,(x.1,Hv (60+(pk k.2 2).1).toNat x.2 s))
 else if k.1=2 then((am k.2 [9999,10000,9998]).2,(x.1.set 0 (DK (x.1.getD 0 zBx) (am k.2 [9999,10000,9998]).1),x.2))
 else(k.2,x)
def se (c:Cur):Cur × Stg:=Bf ((fo c).1.getD 0 (aag,0)).1 (pk (se1 c).1 24) (se1 c).2
structure OkS (x:Stg):Prop where
 ok:kz x.1
 ln:1≤x.1.length∧x.1.length≤12
 st:x.2.length≤60
theorem SQ {f:List Srt} {x y:Stg} {u:ByteArray} (h:OkS x) (hr:dsR f x.1 x.2 u=some y):OkS y:=by
 unfold dsR at hr;cases hs:qi (cds f) u with
 | none=>rw [hs] at hr;cases hr
 | some r =>
  rw [hs,ZH] at hr;split at hr
  ·rename_i hc
   cases hr;have hl:(mvR (-1) x.1 (bQ (cds f) r)).length=x.1.length:=by
    unfold mvR;rw [if_pos hc.1,vD]
   have h2:=hc.2;unfold iz at h2;simp only [ZN,decide_eq_true_eq] at h2;exact⟨AD h.ok,by simp only;rw [hl];exact h.ln,by simp only;omega⟩
  ·cases hr
theorem Wh {f:List Srt} {x:Stg} {u:ByteArray} (h:OkS x):OkS ((dsR f x.1 x.2 u).getD x):=by
 cases hr:dsR f x.1 x.2 u with
 | none=>exact h
 | some y=>exact SQ h hr
end Go.Proofs.YtccaheogjpfhjaaGreat

namespace Go.Proofs.YtccaheogjpfhjaaGreat
open Go Go.Proofs Go.V Go.RowKit
set_option maxRecDepth 100000
variable {Z:Nat→Prop}
def fy (r p:Nat) (vB vS:Value):Nat→Prop:=fun b=>b=p∨b=r∨bh vB b∨bh vS b
abbrev stC (vB vS:Value):Obj:=.cells #[vB,vS] 44 (0,0)
structure StP (Z:Nat→Prop) (w W:World) (q p b1:Nat) (f:List Srt) (yF:Value) (c:Cur) (x:Stg) (vB vS:Value):Prop where
 box:W.heap[p]?=some (stC vB vS)
 set:SetA W b1 vB vS x
 np:¬bh vB p∧¬bh vS p
 ge:b1≤p
 res:W.heap[w.heap.size]?=some (stC (.slice none 0 0) (.slice none 0 0))
 cur:eh Z W q (fy w.heap.size p vB vS) (aR c)
 kept:KeepX (fun b=>b=q) w W
 qlt:q<w.heap.size
 zlt:∀b,Z b→b<w.heap.size
 fon:bf W (fun b=>w.heap.size<b∧b<b1) (srs f) yF
 b1w:w.heap.size<b1∧b1≤W.heap.size
section
variable {w W W':World} {q p b1:Nat} {f:List Srt} {yF:Value} {c c':Cur} {x y:Stg} {vB vS uB uS:Value}
theorem StP.lt (h:StP Z w W q p b1 f yF c x vB vS):∀b,fy w.heap.size p vB vS b→w.heap.size≤b∧b<W.heap.size:=by
 have hb:=h.b1w;have hg:=h.ge;rintro b (rfl | rfl | hb | hb)
 ·exact⟨by omega,aG h.box⟩
 ·exact⟨aad _,aG h.res⟩
 ·have:=h.set.gb b hb
  exact⟨by omega,lE h.set.ob b hb⟩
 ·have:=h.set.gs b hb
  exact⟨by omega,lE h.set.os b hb⟩
theorem StP.nq (h:StP Z w W q p b1 f yF c x vB vS):¬fy w.heap.size p vB vS q:=fun hb=>by
 have:=h.lt q hb;have:=h.qlt;omega
theorem StP.hS (h:StP Z w W q p b1 f yF c x vB vS):∀b,fy w.heap.size p vB vS b→b<W.heap.size:=fun b hb=>(h.lt b hb).2
theorem StP.hZ (h:StP Z w W q p b1 f yF c x vB vS):∀b,Z b→b<W.heap.size:=fun b hb=>by
 have:=h.zlt b hb;have:=h.hS w.heap.size (.inr (.inl rfl));omega
theorem StP.move (h:StP Z w W q p b1 f yF c x vB vS) (hC:eh Z W' q (fy w.heap.size p vB vS) (aR c')) (hk:KeepX (fun b=>b=q) W W'):StP Z w W' q p b1 f yF c' x vB vS:=by
 have hq:=h.qlt;have hg:=h.ge;have hb:=h.b1w;refine⟨hk.some h.box (by omega),h.set.keep fun b hb=>?_,h.np,hg,hk.some h.res (by omega),hC,h.kept.trans hk,hq,h.zlt,aK (fun _ h=>h) (fun b hb=>hk.block b (by omega) (by omega)) h.fon,hb.1,ZY hb.2 hk.size⟩
 have hl:fy w.heap.size p vB vS b:=by rcases hb with hb | hb;exact .inr (.inr (.inl hb));exact .inr (.inr (.inr hb))
 have:=h.lt b hl;exact hk.block b this.2 (by omega)
theorem StP.below (h:StP Z w W q p b1 f yF c x vB vS) (hB:Below W.heap.size W W'):StP Z w W' q p b1 f yF c x vB vS :=
 ⟨aJ hB h.box (aG h.box),h.set.below hB,h.np,h.ge,aJ hB h.res (aG h.res),h.cur.below hB fun b hb=>.inl hb,h.kept.trans (KeepX.of hB),h.qlt,h.zlt,aK (fun _ h=>h) (fun b hb=>hB.block b (by have:=h.b1w;omega)) h.fon,h.b1w.1,ZY h.b1w.2 hB.size⟩
theorem StP.swap (h:StP Z w W q p b1 f yF c x vB vS) {S:Nat→Prop} (hs:SetA W b1 uB uS y) (hn:¬bh uB p∧¬bh uS p) (hC:eh Z W q S (aR c)) (hS:∀b,fy w.heap.size p uB uS b→S b) :
  StP Z w ((W.setCell ⟨p,0,none⟩ uB).setCell ⟨p,1,none⟩ uS) q p b1 f yF c y uB uS:=by
 have hg:=h.ge;have hb1:=h.b1w;have hq:=h.qlt;have hC2:eh Z W q (fy w.heap.size p uB uS) (aR c):=hC.more fun b hb=>.inl (hS b hb)
 have hnq:¬fy w.heap.size p uB uS q:=by
  rintro(hb | hb | hb | hb)
  ·omega
  ·omega
  ·have:=hs.gb q hb;omega
  ·have:=hs.gs q hb;omega
 refine⟨?_,hs.keep fun b hb=>?_,hn,hg,?_,(hC2.set hnq ⟨p,0,none⟩ uB (.inl rfl)).set hnq ⟨p,1,none⟩ uS (.inl rfl),⟨h.kept.os,h.kept.tape,h.kept.output,by have:=h.kept.size;simp [ZV];omega,fun b hb hn=>?_⟩,hq,h.zlt,aK (fun _ h=>h) (fun b hb=>?_) h.fon,hb1.1,by simp [ZV];omega⟩
 ·exact heap_setCell_same _ _ 1 _ _ uS (heap_setCell_same _ _ 0 _ _ uB h.box)
 ·have hne:b≠p:=fun e=>by subst e;rcases hb with hb | hb;exact hn.1 hb;exact hn.2 hb
  rw [heap_setCell_other _ _ _ _ hne,heap_setCell_other _ _ _ _ hne]
 ·rw [heap_setCell_other _ _ _ _ (by show w.heap.size≠p;omega),heap_setCell_other _ _ _ _ (by show w.heap.size≠p;omega)]
  exact h.res
 ·rw [heap_setCell_other _ _ _ _ (by show b≠p;omega),heap_setCell_other _ _ _ _ (by show b≠p;omega)]
  exact h.kept.block b hb hn
 ·rw [heap_setCell_other _ _ _ _ (by show b≠p;omega),heap_setCell_other _ _ _ _ (by show b≠p;omega)]
theorem StP.other (h:StP Z w W q p b1 f yF c x vB vS) {g:Nat} (hg:¬fy w.heap.size p vB vS g) (hgb:b1≤g) (k:Nat) (v:Value) (hc:eh Z (W.setCell ⟨g,k,none⟩ v) q (fy w.heap.size p vB vS) (aR c)) :
  StP Z w (W.setCell ⟨g,k,none⟩ v) q p b1 f yF c x vB vS:=by
 have hb1:=h.b1w;have ne:∀b,fy w.heap.size p vB vS b→b≠g:=fun b hb e=>hg (e ▸ hb)
 exact⟨(heap_setCell_other _ _ _ _ (ne p (.inl rfl))).trans h.box,h.set.keep fun b hb=>heap_setCell_other _ _ _ _ (ne b (by rcases hb with hb | hb;exact .inr (.inr (.inl hb));exact .inr (.inr (.inr hb)))),h.np,h.ge,(heap_setCell_other _ _ _ _ (ne _ (.inr (.inl rfl)))).trans h.res,hc,
  ⟨h.kept.os,h.kept.tape,h.kept.output,by have:=h.kept.size;simp [ZV];omega,fun b hb hn=>(heap_setCell_other _ _ _ _ (by show b≠g;omega)).trans (h.kept.block b hb hn)⟩,h.qlt,h.zlt,aK (fun _ h=>h) (fun b hb=>heap_setCell_other _ _ _ _ (by show b≠g;omega)) h.fon,hb1.1,by simp [ZV];omega⟩
theorem StP.row (h:StP Z w W q p b1 f yF c x vB vS) {a:Addr} {v:Value} {l:List Bx} (ha:bh vB a.block) (ho:kb (W.setCell a v) 4 (bxs l) vB):StP Z w (W.setCell a v) q p b1 f yF c (l,x.2) vB vS:=by
 have hb1:=h.b1w;have hg:=h.ge;have hga:=h.set.gb _ ha;have hap:a.block≠p:=fun e=>h.np.1 (e ▸ ha)
 exact⟨(heap_setCell_other _ _ _ _ fun e=>hap e.symm).trans h.box,⟨ho,iS h.set.os fun b hb=>heap_setCell_other _ _ _ _ fun e=>h.set.dis _ ha (e ▸ hb),h.set.gb,h.set.gs,h.set.dis⟩,h.np,hg,(heap_setCell_other _ _ _ _ (by omega)).trans h.res,h.cur.set h.nq _ _ (.inr (.inr (.inl ha))),
  ⟨h.kept.os,h.kept.tape,h.kept.output,by have:=h.kept.size;simp [ZV];omega,fun b hb hn=>(heap_setCell_other _ _ _ _ (by omega)).trans (h.kept.block b hb hn)⟩,h.qlt,h.zlt,aK (fun _ h=>h) (fun b hb=>heap_setCell_other _ _ _ _ (by omega)) h.fon,hb1.1,by simp [ZV];omega⟩
theorem StP.sets (h:StP Z w W q p b1 f yF c x vB vS) {l:List ByteArray} (hk:KeepX (bh vS) W W') (ho:kb W' 1 (txs l) uS) (hu:∀b,bh uS b→bh vS b∨W.heap.size≤b):StP Z w (W'.setCell ⟨p,1,none⟩ uS) q p b1 f yF c (x.1,l) vB uS:=by
 have hb1:=h.b1w;have hg:=h.ge;have hq:=h.qlt;have hpl:=aG h.box;have hp1:¬bh uS p:=fun hb=>by
  rcases hu p hb with h1 | h1
  ·exact h.np.2 h1
  ·omega
 have hge:∀b,bh uS b→b1≤b:=fun b hb=>by
  rcases hu b hb with h1 | h1
  ·exact h.set.gs b h1
  ·omega
 have hob:kb W' 4 (bxs x.1) vB:=iS h.set.ob fun b hb=>hk.block b (lE h.set.ob b hb) fun h1=>h.set.dis b hb h1
 have hC1:eh Z W q (fun b=>fy w.heap.size p vB vS b∨bh uS b) (aR c):=h.cur.more fun b hb=>by
  rcases hb with hb | hb
  ·exact .inl hb
  ·exact(hu b hb).imp (fun h=>.inr (.inr (.inr h))) id
 have hnq:¬(fy w.heap.size p vB vS q∨bh uS q):=fun hb=>by
  rcases hb with hb | hb
  ·exact h.nq hb
  ·have:=hge q hb;omega
 have hC2:=hC1.kept (w':=W') hnq hk.size fun b hb hn=>hk.block b hb fun h1=>hn (.inl (.inr (.inr (.inr h1))))
 have hC3:=hC2.set hnq ⟨p,1,none⟩ uS (.inl (.inl rfl));have hbox:W'.heap[p]?=some (stC vB vS):=hk.some h.box h.np.2;have hres:W'.heap[w.heap.size]?=some (stC (.slice none 0 0) (.slice none 0 0)):=hk.some h.res fun h1=>by have:=h.set.gs _ h1;omega
 refine⟨heap_setCell_same _ _ 1 _ _ uS hbox,⟨iS hob fun b hb=>heap_setCell_other _ _ _ _ fun e=>h.np.1 (by have e':p=b:=e.symm;rw [e'];exact hb),iS ho fun b hb=>heap_setCell_other _ _ _ _ fun e=>hp1 (by have e':p=b:=e.symm;rw [e'];exact hb),h.set.gb,hge,fun b hb h2=>?_⟩,⟨h.np.1,hp1⟩,hg,(heap_setCell_other _ _ _ _ (by show w.heap.size≠p;omega)).trans hres,hC3.more fun b hb=>.inl ?_,
  ⟨hk.os.trans h.kept.os,hk.tape.trans h.kept.tape,hk.output.trans h.kept.output,by have:=h.kept.size;have:=hk.size;simp [ZV];omega,fun b hb hn=>?_⟩,hq,h.zlt,aK (fun _ h=>h) (fun b hb=>?_) h.fon,hb1.1,by have:=hk.size;simp [ZV];omega⟩
 ·rcases hu b h2 with h1 | h1
  ·exact h.set.dis b hb h1
  ·have:=lE h.set.ob b hb;omega
 ·rcases hb with hb | hb | hb | hb
  ·exact .inl (.inl hb)
  ·exact .inl (.inr (.inl hb))
  ·exact .inl (.inr (.inr (.inl hb)))
  ·exact .inr hb
 ·have hlt:b<W.heap.size:=by have:=h.kept.size;omega
  exact(heap_setCell_other _ _ _ _ (by show b≠p;omega)).trans ((hk.block b hlt fun h1=>by have:=h.set.gs _ h1;omega).trans (h.kept.block b hb hn))
 ·exact(heap_setCell_other _ _ _ _ (by show b≠p;omega)).trans (hk.block b (by omega) fun h1=>by have:=h.set.gs _ h1;omega)
end
theorem bg (w:World) (o:Obj):Below w.heap.size w (w.alloc o):=(aaI _ w).alloc (aad _) o
def StG (Z:Nat→Prop) (w W:World) (q p b1:Nat) (f:List Srt) (yF:Value) (c:Cur) (x:Stg):Prop:=∃A n k A' n' k',StP Z w W q p b1 f yF c x (.slice A n k) (.slice A' n' k')
end Go.Proofs.YtccaheogjpfhjaaGreat

namespace Go.Proofs.YtccaheogjpfhjaaGreat
open Go Go.Proofs Go.V Go.RowKit
set_option maxRecDepth 100000
theorem Zp {α:Type} {a:Array α} {p:α→Bool} (h:a.toList.any p=true):∃e,e∈a∧p e=true:=by
 obtain⟨e,he,hp⟩:=aaW.1 h;exact⟨e,aan.1 he,hp⟩
theorem Zl {α:Type} {a:Array α} {p:α→Bool} (h:a.toList.all p=true) (e:α) (he:e∈a):p e=true:=aax.1 h e (aan.2 he)
def Bb (l:List Oper) (o:Oper):Bool :=
 (ZU l.length).all (fun i=>(o.after.toList.any fun e=>aah .any e&&e.on==i)||(ZU l.length).any fun j=>decide (i<j)&&(l[j]?.map fun oj=>oj.after.toList.any fun e=>aah .any e&&e.on==i).getD false)&&o.after.toList.all (fun e=>decide (e.on<l.length))&&o.guard.isNone &&
 (ZU l.length).all (fun i=>(l[i]?.map fun oi=>oi.guard.isNone&&oi.after.toList.all fun e=>!aah .any e||decide (e.on<i)).getD true)
def Nf (P:Program) (o:Oper) (Q:Exit→Act→World→Prop):Exit→Act→World→Prop
 | .normal,a,w=>o.wp P a w (fun a w=>Q .normal a w) Q
 | e,a,w=>Q e a w
theorem QQ {P:Program} {o o':Oper} {Q:Exit→Act→World→Prop} {a:Act} {K:Act→World→Prop} {r:Result Next} (h:Oper.upon P o a K (Nf P o' Q) r):Oper.upon P o a K Q r:=by
 cases r with
 | ok n w=>cases n<;>exact h
 | halt x w=>cases x<;>exact h
theorem OQ (md:aaV) (ops:Array Oper) (fuel t:Nat) (listed:Array Bool) (acc:List Nat) :
  ZR md ops (fuel+1) t listed acc=match (ZL md ops listed)[t % (ZL md ops listed).length]? with
   | some i=>ZR md ops fuel (t / (ZL md ops listed).length) (listed.setIfInBounds i true) (i::acc)
   | none=>acc.reverse:=by
 simp only [ZR];rfl
theorem qV {listed:Array Bool} {i:Nat} {d:Bool} (hi:i<listed.size):(listed.push false).getD i d=listed.getD i d:=by
 simp [aai,hi,Nat.lt_succ_of_lt hi,Array.getElem_push]
theorem HC (listed:Array Bool) (i:Nat):(listed.push false).getD i false=listed.getD i false:=by
 by_cases hi:i<listed.size
 ·exact qV hi
 ·by_cases he:i=listed.size
  ·subst he
   simp [aai]
  ·simp [aai,hi,show ¬i<listed.size+1 by omega]
theorem QS {l:List Oper} {o:Oper} {listed:Array Bool} (hs:listed.size=l.length) (i:Nat) (hi:i<l.length) :
  (!(listed.push false).getD i true&&(((l++[o]).toArray[i]?).map (·.after.all fun e=>!aah .any e||(listed.push false).getD e.on false)).getD false)=(!listed.getD i true&&((l.toArray[i]?).map (·.after.all fun e=>!aah .any e||listed.getD e.on false)).getD false):=by
 rw [qV (by omega)];congr 2
 simp only [aal,aao hi];congr 1
 funext x
 simp only [HC]
def Bc (l:List Oper) (listed:Array Bool):Prop:=∀(j:Nat) (oj:Oper),l[j]?=some oj→listed.getD j false=true→∀e∈oj.after,aah .any e=true→listed.getD e.on false=true
theorem FG {l:List Oper} {o:Oper} {listed:Array Bool} (hB:Bb l o=true) (hs:listed.size=l.length) (hc:Bc l listed) :
  ZL .any (l++[o]).toArray (listed.push false)=ZL .any l.toArray listed++(if (∀i,i<l.length→listed.getD i false=true) then [l.length] else []):=by
 simp only [Bb,ZN,aax,aab] at hB;obtain⟨⟨⟨h1,h2⟩,_⟩,_⟩:=hB;unfold ZL;simp only [aak,aaq,aam,List.range_succ,List.filter_append];congr 1
 ·refine List.filter_congr fun i hi=>?_
  exact QS hs i (aab.1 hi)
 ·have e1:(l++[o]).toArray[l.length]?=some o:=by simp
  simp only [aaX,List.filter_nil];have e2:(listed.push false).getD l.length true=false:=by
   rw [ZK,←hs,Array.getElem?_push_size];rfl
  have e3:(o.after.all fun e=>!aah .any e||(listed.push false).getD e.on false)=decide (∀i,i<l.length→listed.getD i false=true):=by
   rw [Bool.eq_iff_iff];simp only [HC,decide_eq_true_eq,aaD,aaL,aaF];constructor
   ·intro h
    have key:∀n i,i<l.length→l.length≤i+n→listed.getD i false=true:=by
     intro n;induction n with
     | zero=>intro i hi hn;omega
     | succ n ih =>
      intro i hi hn;have h3:=h1 i hi;simp only [aaL,aaW,aab,ZN,decide_eq_true_eq] at h3;rcases h3 with h3 | ⟨j,hj,hij,h3⟩
      ·obtain⟨e,he,hb1,hb2⟩:=h3
       have hb:aah .any e=true∧e.on=i:=⟨hb1,by simpa using hb2⟩
       rcases h e (aan.1 he) with h | h
       ·rw [h] at hb
        cases hb.1
       ·rw [←hb.2]
        exact h
      ·rw [ZI hj] at h3
       simp only [ZO,aaa] at h3;obtain⟨e,he,hb⟩:=Zp h3;simp only [ZN,beq_iff_eq] at hb;rw [←hb.2];exact hc j l[j] (ZI hj) (ih j hj (by omega)) e he hb.1
    exact fun i hi=>key l.length i hi (by omega)
   ·intro h e he
    have:=h2 e (aan.2 he);exact .inr (h e.on (of_decide_eq_true this))
  rw [e2,e1];simp only [ZO,aaa,e3,aaN,Bool.true_and,decide_eq_true_eq]
theorem PF {l:List Oper} {o:Oper} {listed:Array Bool} (hB:Bb l o=true) (hs:listed.size=l.length) (hu:¬∀i,i<l.length→listed.getD i false=true):ZL .any l.toArray listed≠[]:=by
 simp only [Bb,ZN,aax,aab] at hB;obtain⟨_,h4⟩:=hB;have:∃i,i<l.length∧listed.getD i false=false:=by
  refine aaJ fun h=>hu fun i hi=>?_
  cases hb:listed.getD i false
  ·exact absurd ⟨i,hi,hb⟩ h
  ·rfl
 have least:∀n,(∃i,i<n∧i<l.length∧listed.getD i false=false)→∃i,i<l.length∧listed.getD i false=false∧∀j,j<i→listed.getD j false=true:=by
  intro n;induction n with
  | zero=>rintro⟨i,hi,_⟩;omega
  | succ n ih =>
   rintro⟨i,hi,hl,hb⟩;by_cases hx:∃i,i<n∧i<l.length∧listed.getD i false=false
   ·exact ih hx
   ·have:i=n:=by
     refine aaJ fun h=>hx ⟨i,by omega,hl,hb⟩
    subst this;refine⟨i,hl,hb,fun j hj=>?_⟩
    cases hjb:listed.getD j false
    ·exact absurd ⟨j,hj,by omega,hjb⟩ hx
    ·rfl
 obtain⟨i0,hi0,hb0⟩:=this;obtain⟨i,hi,hb,hj⟩:=least (i0+1) ⟨i0,by omega,hi0,hb0⟩;intro hnil;have hmem:i∈ZL .any l.toArray listed:=by
  unfold ZL;refine aay.2 ⟨by simpa using hi,?_⟩
  have h5:=h4 i hi;rw [ZI hi] at h5;simp only [ZO,aaa,ZN] at h5;have e1:l.toArray[i]?=some l[i]:=by simp [hi]
  have e2:listed.getD i true=false:=by
   simp only [aai,show i<listed.size by omega,dite_true] at hb ⊢;exact hb
  rw [e1,e2];simp only [ZO,aaa,aaN,Bool.true_and];refine aaD.2 fun e he=>?_
  have h6:=Zl h5.2 e he;simp only [aaL,aaF,decide_eq_true_eq] at h6 ⊢;exact h6.imp id (hj e.on)
 rw [hnil] at hmem;cases hmem
theorem PS {l:List Oper} {listed:Array Bool} {i:Nat} (hs:listed.size=l.length) (hc:Bc l listed) (hi:i∈ZL .any l.toArray listed):Bc l (listed.setIfInBounds i true):=by
 unfold ZL at hi;obtain⟨h1,h2⟩:=aay.1 hi;simp only [aak,aab] at h1;simp only [ZN,aal,ZI h1,ZO,aaa] at h2;have hg:∀j,listed.getD j false=true→(listed.setIfInBounds i true).getD j false=true:=fun j hj=>by
  by_cases e:i=j
  ·subst e
   simp [aai,hs,h1]
  ·rw [ZK,aac e,←ZK]
   exact hj
 intro j oj hj hjl e he hb;by_cases e1:i=j
 ·subst e1
  rw [ZI h1] at hj;obtain rfl:=Option.some.inj hj;have:=aaD.1 h2.2 e he;rw [hb] at this;exact hg _ (by simpa using this)
 ·rw [ZK,aac e1,←ZK] at hjl
  exact hg _ (hc j oj hj hjl e he hb)
theorem GD {md:aaV} {ops:Array Oper} {listed:Array Bool} {i:Nat} (h:i∈ZL md ops listed):i<ops.size∧listed.getD i true=false:=by
 unfold ZL at h;obtain⟨h1,h2⟩:=aay.1 h;simp only [ZN,aaF] at h2;exact⟨aab.1 h1,h2.1⟩
theorem yL {l:List Oper} {listed:Array Bool} (hs:listed.size=l.length) (hall:∀i,i<l.length→listed.getD i false=true):ZL .any l.toArray listed=[]:=by
 refine List.eq_nil_iff_forall_not_mem.2 fun i hi=>?_
 obtain⟨h1,h2⟩:=GD hi;have h3:=hall i (by simpa using h1);have:i<listed.size:=by rw [hs];simpa using h1
 simp only [aai,this,dite_true] at h2 h3;rw [h2] at h3;cases h3
def unl (n:Nat) (listed:Array Bool):Nat:=((ZU n).filter fun i=>!listed.getD i false).length
theorem Ve {n:Nat} {listed:Array Bool} {i:Nat} (hs:listed.size=n) (hi:i<n) (hb:listed.getD i true=false):unl n (listed.setIfInBounds i true)<unl n listed:=by
 unfold unl;have hg:∀j,(listed.setIfInBounds i true).getD j false=if j=i then true else listed.getD j false:=fun j=>by
  by_cases e:j=i
  ·subst e
   simp [aai,hs,hi]
  ·rw [ZK,ZK,aac (fun h=>e h.symm),if_neg e]
 have hb':listed.getD i false=false:=by
  simp only [aai,show i<listed.size by omega,dite_true] at hb ⊢;exact hb
 have key:∀l:List Nat,(l.filter fun j=>!(listed.setIfInBounds i true).getD j false).length≤(l.filter fun j=>!listed.getD j false).length∧(i∈l→(l.filter fun j=>!(listed.setIfInBounds i true).getD j false).length<(l.filter fun j=>!listed.getD j false).length):=by
  intro l;induction l with
  | nil=>exact⟨aad _,fun h=>by cases h⟩
  | cons x l ih =>
   simp only [aaX,hg x];by_cases e:x=i
   ·subst e
    simp only [if_true,aaO,ZQ,if_false,hb',aaN,aaY];exact⟨by omega,fun _=>by omega⟩
   ·simp only [if_neg e]
    split
    ·simp only [aaY]
     refine⟨by omega,fun h=>?_⟩
     have:=ih.2 ((List.mem_cons.1 h).resolve_left fun h=>e h.symm);omega
    ·refine⟨ih.1,fun h=>ih.2 ((List.mem_cons.1 h).resolve_left fun h=>e h.symm)⟩
 exact(key _).2 (aab.2 hi)
theorem VT {l:List Oper} {o:Oper} (hB:Bb l o=true):∀(fuel t:Nat) (listed:Array Bool),listed.size=l.length→Bc l listed→unl l.length listed≤fuel →
  ZR .any (l++[o]).toArray (fuel+1) t (listed.push false) []=ZR .any l.toArray fuel t listed []++[l.length]∧∀i∈ZR .any l.toArray fuel t listed [],i<l.length:=by
 have full:∀(fuel t:Nat) (listed:Array Bool),listed.size=l.length→Bc l listed→(∀i,i<l.length→listed.getD i false=true) →
   ZR .any (l++[o]).toArray (fuel+1) t (listed.push false) []=[l.length]:=by
  intro fuel t listed hs hc hall;rw [OQ,FG hB hs hc,if_pos hall,yL hs hall];simp only [aaZ,aam,Nat.mod_one,List.getElem?_cons_zero];cases fuel with
  | zero=>rfl
  | succ fuel =>
   rw [OQ];have:ZL .any (l++[o]).toArray ((listed.push false).setIfInBounds l.length true)=[]:=by
    refine List.eq_nil_iff_forall_not_mem.2 fun i hi=>?_
    obtain⟨h1,h2⟩:=GD hi;simp only [aak,aaq,aam] at h1;by_cases e:i=l.length
    ·subst e
     simp [aai,hs] at h2
    ·have h3:=hall i (by omega)
     have hil:i<listed.size:=by omega
     rw [ZK,aac (by omega),Array.getElem?_push_lt hil] at h2;rw [ZK,Array.getElem?_eq_getElem hil] at h3;simp only [aaa] at h2 h3;rw [h2] at h3;cases h3
   rw [this];rfl
 intro fuel;induction fuel with
 | zero =>
  intro t listed hs hc hu;have hall:∀i,i<l.length→listed.getD i false=true:=fun i hi=>by
   cases hb:listed.getD i false
   ·exfalso
    have:i∈(ZU l.length).filter fun i=>!listed.getD i false:=aay.2 ⟨aab.2 hi,by rw [hb];rfl⟩
    unfold unl at hu;have:=List.length_pos_of_mem this;omega
   ·rfl
  exact⟨full 0 t listed hs hc hall,fun i hi=>by simp [ZR] at hi⟩
 | succ fuel ih =>
  intro t listed hs hc hu;by_cases hall:∀i,i<l.length→listed.getD i false=true
  ·have e:=OQ .any l.toArray fuel t listed []
   rw [yL hs hall] at e;have e':ZR .any l.toArray (fuel+1) t listed []=[]:=e;rw [e'];exact⟨full (fuel+1) t listed hs hc hall,fun i hi=>by cases hi⟩
  ·have hne:=PF hB hs hall
   rw [OQ,FG hB hs hc,if_neg hall,List.append_nil,OQ .any l.toArray fuel t listed []];have hlt:t % (ZL .any l.toArray listed).length<(ZL .any l.toArray listed).length:=Nat.mod_lt _ (aaA.2 hne);rw [ZI hlt];simp only;have hmem:=aaw hlt;generalize (ZL .any l.toArray listed)[t % (ZL .any l.toArray listed).length]=i at *;obtain⟨hi,hb⟩:=GD hmem;simp only [aak] at hi;rw [linearise_go_acc,linearise_go_acc .any l.toArray];have hset:(listed.push false).setIfInBounds i true=(listed.setIfInBounds i true).push false:=by
    apply Array.ext_getElem?;intro j;simp only [aaB,Array.getElem?_push,Array.size_push,Array.size_setIfInBounds];by_cases e:i=j
    ·subst e
     simp only [hs,hi,show ¬i=l.length by omega,if_true,if_false,show i<l.length+1 by omega]
    ·simp [e]
   rw [hset];obtain⟨h1,h2⟩:=ih (t / (ZL .any l.toArray listed).length) (listed.setIfInBounds i true) (by simp [hs]) (PS hs hc hmem) (by have:=Ve hs hi hb;omega);rw [h1];refine⟨by simp,fun j hj=>?_⟩
   rcases List.mem_append.1 hj with hj | hj
   ·simp at hj
    omega
   ·exact h2 j hj
theorem Fv {P:Program} {l:List Oper} {o:Oper} {Q:Exit→Act→World→Prop} (hB:Bb l o=true):∀(order:List Nat) (a:Act) (w:World),(∀i∈order,i<l.length)→wpOps P l.toArray (Nf P o Q) order a w→wpOps P (l++[o]).toArray Q (order++[l.length]) a w
 | [],a,w,_,h=>by
  have hg:o.guard=none:=by
   simp only [Bb,ZN] at hB;simpa using hB.1.2
  have h':o.wp P a w (fun a w=>Q .normal a w) Q:=h;simp only [aaZ,wpOps,aal,List.getElem?_concat_length,aav,hg,if_true];exact .inl h'
 | i::order,a,w,hi,h=>by
  have hlt:=hi i (by simp);have hg:(l[i]).guard=none:=by
   simp only [Bb,ZN,aax,aab] at hB;have:=hB.2 i hlt;rw [ZI hlt] at this;simp only [ZO,aaa,ZN] at this;simpa using this.1
  rw [List.cons_append,wpOps_cons];rw [wpOps_cons] at h;unfold wpOp at h ⊢;simp only [aal,aao hlt,ZI hlt,aav,hg,if_true] at h ⊢;rcases h with h | ⟨h1,h2⟩
  ·refine .inl ?_
   have h3:l[i].wp P a w (wpOps P (l++[o]).toArray Q (order++[l.length])) (Nf P o Q):=Oper.wp_mono (fun a w=>Fv hB order a w (fun j hj=>hi j (by simp [hj]))) h;exact QQ h3
  ·exact .inr ⟨h1,h2⟩
theorem ov {P:Program} {id:Nat} {l:List Oper} {o:Oper} {Q:Exit→Act→World→Prop} {S:World→Prop} {a:Act} {w:World} (hm:P.follows .mixedOrders=true) (hB:Bb l o=true) (hS:S w.drew)
  (h:S w.drew→wpAnyH P .any l.toArray (Nf P o Q) S l.length (aaj l.length false) a w.drew):(Code.region id (l++[o]).toArray true).wp P Q a w :=
 wp_region_draw fun t=>by
  simp only [Region.schedule,hm,Bool.true_or,if_true];have e:Region.linearise .any (l++[o]).toArray t=ZR .any (l++[o]).toArray (l.length+1) t ((aaj l.length false).push false) []:=by
   simp only [Region.linearise,aak,aaq,aam];rw [Array.replicate_succ]
  obtain⟨h1,h2⟩:=VT hB l.length t (aaj l.length false) (by simp) (fun j oj hj hjl=>by
   rw [ZK,Array.getElem?_replicate] at hjl;split at hjl<;>cases hjl) (by unfold unl;exact ZY (List.length_filter_le _ _) (by simp))
  rw [e,h1];exact Fv hB _ _ _ h2 (wpAny_sound _ t _ _ _ (wpAny_of_held _ _ _ _ (h hS)))
theorem mL {P:Program} {md:aaV} {ops:Array Oper} {o:Oper} {Q:Exit→Act→World→Prop} {S:World→Prop} {fuel:Nat} {listed:Array Bool} {a:Act} {w:World} (hr:ZL md ops listed=[]) (h:o.wp P a w (fun a w=>Q .normal a w) Q):wpAnyH P md ops (Nf P o Q) S fuel listed a w :=
 wpAnyH_done hr h fuel
set_option maxRecDepth 100000
variable {Z:Nat→Prop}
theorem SetA.base {W:World} {B C:Nat} {vB vS:Value} {x:Stg} (h:SetA W B vB vS x) (hC:C≤B):SetA W C vB vS x:=⟨h.ob,h.os,fun b hb=>ZY hC (h.gb b hb),fun b hb=>ZY hC (h.gs b hb),h.dis⟩
section
variable {w W W':World} {q p b1:Nat} {f:List Srt} {yF:Value} {c c':Cur} {x y:Stg} {vB vS uB uS:Value}
theorem StP.setsN (h:StP Z w W q p b1 f yF c x vB vS) {l:List ByteArray} (ho:kb W 1 (txs l) uS) (hge:∀b,bh uS b→b1≤b) (hp1:¬bh uS p) (hd:∀b,bh vB b→¬bh uS b) (hC:eh Z W q (fun b=>fy w.heap.size p vB vS b∨bh uS b) (aR c)) :
  StP Z w (W.setCell ⟨p,1,none⟩ uS) q p b1 f yF c (x.1,l) vB uS:=by
 have hb1:=h.b1w;have hg:=h.ge;have hq:=h.qlt;have hnq:¬(fy w.heap.size p vB vS q∨bh uS q):=fun hb=>by
  rcases hb with hb | hb
  ·exact h.nq hb
  ·have:=hge q hb;omega
 have hC3:=hC.set hnq ⟨p,1,none⟩ uS (.inl (.inl rfl));refine⟨heap_setCell_same _ _ 1 _ _ uS h.box,⟨iS h.set.ob fun b hb=>heap_setCell_other _ _ _ _ fun e=>h.np.1 (by have e':p=b:=e.symm;rw [e'];exact hb),iS ho fun b hb=>heap_setCell_other _ _ _ _ fun e=>hp1 (by have e':p=b:=e.symm;rw [e'];exact hb),h.set.gb,hge,hd⟩,⟨h.np.1,hp1⟩,hg,(heap_setCell_other _ _ _ _ (by show w.heap.size≠p;omega)).trans h.res,hC3.more fun b hb=>.inl ?_,
  ⟨h.kept.os,h.kept.tape,h.kept.output,by have:=h.kept.size;simp [ZV];omega,fun b hb hn=>(heap_setCell_other _ _ _ _ (by show b≠p;omega)).trans (h.kept.block b hb hn)⟩,hq,h.zlt,aK (fun _ h=>h) (fun b hb=>heap_setCell_other _ _ _ _ (by show b≠p;omega)) h.fon,hb1.1,by simp [ZV];omega⟩
 rcases hb with hb | hb | hb | hb
 ·exact .inl (.inl hb)
 ·exact .inl (.inr (.inl hb))
 ·exact .inl (.inr (.inr (.inl hb)))
 ·exact .inr hb
theorem StP.done (h:StP Z w W q p b1 f yF c x vB vS) (x0 x1:Value) :
  bf ((W.setCell ⟨w.heap.size,0,none⟩ x0).setCell ⟨w.heap.size,1,none⟩ x1) (fun b=>w.heap.size<b∧b<b1) (srs f) yF∧SetA ((W.setCell ⟨w.heap.size,0,none⟩ x0).setCell ⟨w.heap.size,1,none⟩ x1) b1 vB vS x ∧
  eh Z ((W.setCell ⟨w.heap.size,0,none⟩ x0).setCell ⟨w.heap.size,1,none⟩ x1) q (fun b=>bh vB b∨bh vS b) (aR c)∧KeepX (fun b=>b=q) w ((W.setCell ⟨w.heap.size,0,none⟩ x0).setCell ⟨w.heap.size,1,none⟩ x1):=by
 have hb1:=h.b1w;have oth:∀b,b≠w.heap.size→((W.setCell ⟨w.heap.size,0,none⟩ x0).setCell ⟨w.heap.size,1,none⟩ x1).heap[b]?=W.heap[b]?:=fun b hb=>(heap_setCell_other _ _ _ _ hb).trans (heap_setCell_other _ _ _ _ hb)
 exact⟨aK (fun _ h=>h) (fun b hb=>oth b (by omega)) h.fon,h.set.keep fun b hb=>oth b (by rcases hb with hb | hb;have:=h.set.gb b hb;omega;have:=h.set.gs b hb;omega),
  ((h.cur.set h.nq ⟨w.heap.size,0,none⟩ x0 (.inr (.inl rfl))).set h.nq ⟨w.heap.size,1,none⟩ x1 (.inr (.inl rfl))).more fun b hb=>.inl (.inr (.inr hb)),⟨h.kept.os,h.kept.tape,h.kept.output,by have:=h.kept.size;simp [ZV];omega,fun b hb hn=>(oth b (by omega)).trans (h.kept.block b hb hn)⟩⟩
end
theorem Td {w:World} {l:List Bx} {A:Option Addr} {n k:Nat} (h:kb w 4 (bxs l) (.slice A n k)) {i:Nat} (hi:i<l.length) :
  ∃g o,A=some ⟨g,o,none⟩∧n=l.length∧w.cell? ⟨g,o+i*4,none⟩=some (.string l[i].1)∧w.cell? ⟨g,o+i*4+3,none⟩=some (.int .i64 l[i].2.2.2)∧w.frozen? ⟨g,o+i*4+3,none⟩=false ∧
   ∀v:Int,fY (w.setCell ⟨g,o+i*4+3,none⟩ (.int .i64 v)) (fun _=>False) (bh (.slice A n k)) 4 (bxs (l.set i (DK l[i] v))) (.slice A n k):=by
 have hrep:=vL h (F':=fun _=>True) (fun _ h=>h.elim) fun _ _=>trivial
 obtain⟨l',e,hw,hd⟩:=h;cases e;rcases hd with ⟨_,hd⟩ | ⟨g,o,c,us,cs,e,h4,h5,h6,h7,h8,h9,h10⟩
 ·simp at hd
  subst hd;simp at hi
 simp only [aaT] at h4;obtain⟨rfl,rfl,rfl⟩:=h4;have hcell:∀(j:Nat) (u:Value),us[j]?=some u→w.cell? ⟨g,o+j,none⟩=some u:=fun j u hu=>by
  simp [aaU,h6,h9 j u hu]
 obtain⟨P,M,Q,rfl,hp,hm,hc,hP,hQ⟩:=uU (z:=4) _ _ h8 hw i (bx l[i]) (by simp [hi]);simp only [RepC,aA,aW] at hc;obtain⟨⟨v1,v2,rfl,⟨rfl,_⟩,v3,v4,rfl,⟨rfl,_⟩,v5,v6,rfl,⟨rfl,_⟩,v7,v8,rfl,⟨rfl,_⟩,rfl⟩,_⟩:=hc;have get:∀j,j<4→(P++([aar l[i].1]++([aaf .i64 l[i].2.1]++([aaf .i64 l[i].2.2.1]++([aaf .i64 l[i].2.2.2]++[]))))++Q)[i*4+j]?=[aar l[i].1,.int .i64 l[i].2.1,.int .i64 l[i].2.2.1,.int .i64 l[i].2.2.2][j]?:=fun j hj=>by
  rw [aau,List.getElem?_append_right (by omega),hp,show i*4+j - i*4=j by omega,aao (by simp;omega)];rfl
 refine⟨g,o,rfl,by simp,?_,?_,Lib.frozen_of_heap h6 _,fun v=>⟨(l.set i (DK l[i] v)).map bx,rfl,fun d hd=>?_,.inr ⟨g,o,k,P++[aar l[i].1,.int .i64 l[i].2.1,.int .i64 l[i].2.2.1,.int .i64 v]++Q,_,_,by simp,by simpa using h5,heap_setCell_same _ _ _ _ _ _ h6,by rw [Array.size_setIfInBounds];exact h7,?_,fun j u hu=>?_,rfl⟩⟩⟩
 ·have:=hcell (i*4) _ (by have:=get 0 (by omega);simpa using this)
  simpa using this
 ·have:=hcell (i*4+3) _ (by have:=get 3 (by omega);simpa using this)
  rw [←Nat.add_assoc] at this;exact this
 ·obtain⟨x,_,rfl⟩:=List.mem_map.1 hd
  rfl
 ·have e:(l.set i (DK l[i] v)).map bx=(l.map bx).take i++(bx (DK l[i] v)::(l.map bx).drop (i+1)):=by
   rw [List.set_eq_take_append_cons_drop,if_pos hi];simp
  rw [e,dN];refine⟨P,[aar l[i].1,.int .i64 l[i].2.1,.int .i64 l[i].2.2.1,.int .i64 v]++Q,by simp,bG (fun _ h=>h) (fun b hb=>hb.elim) _ _ hP,aA.2 ⟨_,Q,rfl,?_,bG (fun _ h=>h) (fun b hb=>hb.elim) _ _ hQ⟩⟩
  simp only [RepC,aA,aW,DK];exact⟨⟨_,_,rfl,⟨rfl,rfl⟩,_,_,rfl,⟨rfl,rfl⟩,_,_,rfl,⟨rfl,rfl⟩,_,_,rfl,⟨rfl,rfl⟩,rfl⟩,rfl⟩
 ·have hset:P++[aar l[i].1,.int .i64 l[i].2.1,.int .i64 l[i].2.2.1,.int .i64 v]++Q=(P++([aar l[i].1]++([aaf .i64 l[i].2.1]++([aaf .i64 l[i].2.2.1]++([aaf .i64 l[i].2.2.2]++[]))))++Q).set (i*4+3) (.int .i64 v):=by
   rw [aau,aau,List.set_append_right _ _ (by omega),hp,show i*4+3 - i*4=3 by omega];rfl
  rw [hset,List.getElem?_set] at hu;rw [aaB];by_cases e:i*4+3=j
  ·subst e
   rw [if_pos rfl] at hu;split at hu
   ·cases hu
    rw [if_pos (by omega),if_pos];have:=h9 (i*4+3) _ (by have:=get 3 (by omega);simpa using this);have:=(aaE.1 this).1;omega
   ·cases hu
  ·rw [if_neg e] at hu
   rw [if_neg (by omega)];exact h9 j u hu
theorem WA {w:World} {l:List Bx} {g o:Nat} {n k:Nat} (h:fY w (fun _=>False) (bh (.slice (some ⟨g,o,none⟩) n k)) 4 (bxs l) (.slice (some ⟨g,o,none⟩) n k)) (hi:0<l.length) :
  w.cell? ⟨g,o,none⟩=some (.string l[0].1)∧w.cell? ⟨g,o+3,none⟩=some (.int .i64 l[0].2.2.2)∧w.frozen? ⟨g,o+3,none⟩=false ∧
   ∀v:Int,fY (w.setCell ⟨g,o+3,none⟩ (.int .i64 v)) (fun _=>False) (bh (.slice (some ⟨g,o,none⟩) n k)) 4 (bxs (l.set 0 (DK (l.getD 0 zBx) v))) (.slice (some ⟨g,o,none⟩) n k):=by
 obtain⟨g',o',e,_,c0,c3,fz,hset⟩:=Td h hi;simp only [aaG,aa1,and_true] at e;obtain⟨rfl,rfl⟩:=e;simp only [Nat.zero_mul,Nat.add_zero] at c0 c3 fz hset;have hg0:l.getD 0 zBx=l[0]:=by rw [ZZ,ZI hi];rfl
 rw [hg0];exact⟨c0,c3,fz,hset⟩
theorem Dk (w:World) {ops:Array Oper} {o:Oper} {a:Act} {K:Act→World→Prop} {Q:Exit→Act→World→Prop} {E:Prop} (hgd:o.guard=none) (s x:Operand)
  (ho:o.op = .call {callee:=.builtin .append,args:=#[s,x],argTypes:=#[42,42]}) (l m:List ByteArray) (ys yx:Value) (hs:a.eval s=ys) (hx:a.eval x=yx) (hown:fY w (fun _=>False) (bh ys) 1 (txs l) ys) {F:Nat→Prop} (hsrc:bf w F (txs m) yx) (hlen:l.length+m.length≤1048576)
  (h:∀A n c w',fY w' (fun _=>False) (bh (.slice A n c)) 1 (txs (l++m)) (.slice A n c)→(∀b,bh (.slice A n c) b→bh ys b∨w.heap.size≤b)→KeepX (bh ys) w w'→K (a.put o.dst (.slice A n c)) w') :
  if aav o (yielded ops a.tmps)=true then Oper.wp Tryz.prog o a w K Q else E:=by
 have hw:aav o (yielded ops a.tmps)=true:=by simp [aav,hgd]
 rw [if_pos hw];refine xX w s x ho l m ys yx hs hx hown hsrc hlen fun v w' h1 h2 h3=>?_
 obtain⟨A,n,c,rfl⟩:=fe h1;exact h A n c w' h1 h2 h3
theorem RM {fn:Func} {p u:Tmp} {W:World} {tmps:Array Value} {g:Nat} {cs:Array Value} {q:Value} (hfn:fn.results=#[.tmp u,.cell p 44]) (hp:tmps.getD p undef = .pointer (some ⟨g,0,none⟩)) (hq:tmps.getD u undef=q) (hg:W.heap[g]?=some (.cells cs 44 (0,0))) (hn:cs.size=2) :
  (results fn tmps).run Tryz.prog W = .ok (.tuple #[q,.agg cs]) W:=by
 have h:=run_loadVar_row W g 44 44 cs (0,0) _ hg Tryz.underlying44 rfl (by rw [hn];kernel_rfl);have hp':tmps[p]?.getD undef = .pointer (some ⟨g,0,none⟩):=by simpa using hp
 have hq':tmps[u]?.getD undef=q:=by simpa using hq
 simp [results,hfn,hp',hq',asAddr,h]
theorem RT {N:Nat} {l:List ByteArray} {s:ByteArray} (h:l.length<N):Hv N (l++[s]) s=Hv N l s:=by
 unfold Hv;rw [aau,aaq,show N - l.length=(N - (l.length+[s].length))+1 by simp;omega,List.replicate_succ];rfl
def lenSt (W:World) (p:Nat):Nat:=match W.cell? ⟨p,1,none⟩ with
 | some (.slice _ n _)=>n
 | _=>0
def DoS (Z:Nat→Prop) (w:World) (q p b1:Nat) (f:List Srt) (yF:Value) (c:Cur) (x y:Stg) (ok:Bool) (A:Option Addr) (n k:Nat) (A':Option Addr) (n' k':Nat) (t7 t8:Value) (W:World):Prop :=
 ∃q7 B m j B' m' j',t7 = .pointer (some ⟨q7,0,none⟩)∧t8 = .bool ok∧StP Z w W q p b1 f yF c x (.slice A n k) (.slice A' n' k')∧W.heap[q7]?=some (stC (.slice B m j) (.slice B' m' j'))∧SetA W b1 (.slice B m j) (.slice B' m' j') y ∧
  (¬bh (.slice B m j) p∧¬bh (.slice B' m' j') p)∧(¬(bh (.slice B m j) q7∨bh (.slice B' m' j') q7))∧b1≤q7∧eh Z W q (fun b=>fy w.heap.size p (.slice A n k) (.slice A' n' k') b∨b=q7∨bh (.slice B m j) b∨bh (.slice B' m' j') b) (aR c)
section
variable {w W W':World} {q p b1:Nat} {f:List Srt} {yF:Value} {c c':Cur} {x y:Stg} {vB vS uB uS:Value}
theorem StP.keepU (h:StP Z w W q p b1 f yF c x vB vS) {U:Nat→Prop} (hk:KeepX U W W') (hU:∀b,U b→¬fy w.heap.size p vB vS b∧b1≤b) (hC:eh Z W' q (fy w.heap.size p vB vS) (aR c)):StP Z w W' q p b1 f yF c x vB vS:=by
 have hb1:=h.b1w;have hm:∀b,fy w.heap.size p vB vS b→W'.heap[b]?=W.heap[b]?:=fun b hb=>hk.block b (h.hS b hb) fun hu=>(hU b hu).1 hb
 exact⟨(hm p (.inl rfl)).trans h.box,h.set.keep fun b hb=>hm b (by rcases hb with hb | hb;exact .inr (.inr (.inl hb));exact .inr (.inr (.inr hb))),h.np,h.ge,(hm _ (.inr (.inl rfl))).trans h.res,hC,
  ⟨hk.os.trans h.kept.os,hk.tape.trans h.kept.tape,hk.output.trans h.kept.output,ZY h.kept.size hk.size,fun b hb hn=>(hk.block b (by have:=h.kept.size;omega) fun hu=>by have:=(hU b hu).2;omega).trans (h.kept.block b hb hn)⟩,h.qlt,h.zlt,
  aK (fun _ h=>h) (fun b hb=>hk.block b (by omega) fun hu=>by have:=(hU b hu).2;omega) h.fon,hb1.1,ZY hb1.2 hk.size⟩
theorem StP.font_cell {gF oF n cF:Nat} (h:StP Z w W q p b1 f (.slice (some ⟨gF,oF,none⟩) n cF) c x vB vS) (hf:f≠[]):W.cell? ⟨gF,oF,none⟩=some (.string (f.getD 0 (aag,0)).1)∧w.heap.size<gF∧gF<b1:=by
 obtain⟨g,o,c',e,hg,hc⟩:=Gg h.fon hf;simp only [aaT,aaG,aa1,and_true] at e;obtain⟨⟨rfl,rfl⟩,rfl,rfl⟩:=e;have hp:0<f.length:=aaA.2 hf;have h0:=hc 0 hp;rw [Nat.zero_mul,Nat.add_zero] at h0;have e0:(f.getD 0 (aag,0))=f[0]:=by rw [ZZ,ZI hp];rfl
 rw [e0];exact⟨h0,hg⟩
theorem StP.lenSt {A1:Option Addr} {n1 k1:Nat} (h:StP Z w W q p b1 f yF c x vB (.slice A1 n1 k1)):lenSt W p=x.2.length∧n1=x.2.length:=by
 have h1:=(ci h.box).1.2;have h2:=Xd h.set.os;rw [ZX] at h2;unfold Go.Proofs.YtccaheogjpfhjaaGreat.lenSt;rw [h1];exact⟨h2,h2⟩
theorem WF (W:World):bf (W.alloc (.cells #[.string ⟨#[122,122,122]⟩,.string ⟨#[]⟩] 9)) (fun b=>b=W.heap.size) (txs zz2) (.slice (some ⟨W.heap.size,0,none⟩) 2 2):=by
 refine⟨some ⟨W.heap.size,0,none⟩,2,[.string ⟨#[122,122,122]⟩,.string ⟨#[]⟩],rfl,aad _,aA.2 ⟨[.string ⟨#[122,122,122]⟩],[.string ⟨#[]⟩],rfl,by simp only [RepC];exact⟨trivial,rfl⟩,aA.2 ⟨[.string ⟨#[]⟩],[],rfl,by simp only [RepC];exact⟨trivial,rfl⟩,aW.2 rfl⟩⟩,fun d hd=>?_,fun _=>⟨W.heap.size,0,rfl,rfl,fun i u hu=>?_⟩⟩
 ·obtain⟨t,_,rfl⟩:=List.mem_map.1 hd
  rfl
 ·rw [Lib.cell_of_heap (bF _ rfl)]
  match i,hu with
  | 0,hu=>cases hu;rfl
  | 1,hu=>cases hu;rfl
theorem TM (h:StP Z w W q p b1 f yF c x vB vS) {B:Nat} (hc:c.ok B) (hB:B≤100000000000) {w6:World} {l:List ByteArray} {u:Value} (b6:Below W.heap.size W w6) (o6:kb w6 1 (txs l) u) (l6:∀b,bh u b→W.heap.size≤b∧b<w6.heap.size) :
  Calls Tryz.prog 90 #[.pointer (some ⟨q,0,none⟩),.slice (some ⟨w6.heap.size,0,none⟩) 2 2] (w6.alloc (.cells #[.string ⟨#[122,122,122]⟩,.string ⟨#[]⟩] 9)) fun e w8=>e = .returned (.string (oo c zz2).1)∧StP Z w w8 q p b1 f yF (oo c zz2).2 x vB vS∧kb w8 1 (txs l) u ∧
   eh Z w8 q (fun b=>fy w.heap.size p vB vS b∨bh u b) (aR (oo c zz2).2)∧W.heap.size≤w8.heap.size:=by
 have h7:=(h.below b6).below (bg w6 (.cells #[.string ⟨#[122,122,122]⟩,.string ⟨#[]⟩] 9));have hs:=b6.size;have hC7:=((h.cur.below (T:=fun b=>fy w.heap.size p vB vS b∨bh u b) b6 fun b hb=>hb.imp (fun h=>h) fun h=>(l6 b h).1)).below (T:=fun b=>fy w.heap.size p vB vS b∨bh u b) (bg w6 (.cells #[.string ⟨#[122,122,122]⟩,.string ⟨#[]⟩] 9)) fun b hb=>.inl hb
 refine(Vu hc hB (l:=zz2) (by simp [zz2]) (by simp [zz2]) hC7 (fun b hb=>?_) h7.hZ (fun b hb=>?_) (WF w6)).mono ?_
 ·rcases hb with hb | hb
  ·exact h7.hS b hb
  ·have:=(l6 b hb).2
   simp;omega
 ·have hr:=h.hS w.heap.size (.inr (.inl rfl))
  have hq1:=h.qlt;subst hb;refine⟨by simp,by omega,fun hh=>?_,fun hz=>?_⟩
  ·rcases hh with hh | hh
   ·have:=h.hS _ hh
    omega
   ·have:=(l6 _ hh).2
    omega
  ·have:=h.zlt _ hz
   omega
 ·rintro e w8 ⟨rfl,hC8,k8⟩
  refine⟨rfl,h7.move (hC8.more fun b hb=>.inl (.inl hb)) k8,iS o6 fun b hb=>?_,hC8,ZY hs (ZY (bg w6 _).size k8.size)⟩
  have hl:=l6 b hb;have hr:=h.hS w.heap.size (.inr (.inl rfl));have hq1:=h.qlt;exact(k8.block b (by simp;omega) (by omega)).trans ((bg w6 _).block b hl.2)
theorem Gc {w8 W9:World} (h8:StP Z w w8 q p b1 f yF c x vB vS) {m:List ByteArray} {u u9:Value} {o:Obj} (hl:∀b,bh u b→b1≤b∧¬fy w.heap.size p vB vS b) (hlt:∀b,bh u b→b<w8.heap.size) (hC8:eh Z w8 q (fun b=>fy w.heap.size p vB vS b∨bh u b) (aR c))
  (o9:kb W9 1 (txs m) u9) (l9:∀b,bh u9 b→bh u b∨(w8.alloc o).heap.size≤b) (k9:KeepX (bh u) (w8.alloc o) W9):StP Z w (W9.setCell ⟨p,1,none⟩ u9) q p b1 f yF c (x.1,m) vB u9∧W9.heap[p]?=some (stC vB vS):=by
 have h8a:=h8.below (bg w8 o);have hb1:=h8.b1w;have hsz:w8.heap.size≤(w8.alloc o).heap.size:=(bg w8 o).size;have hCa:=hC8.below (T:=fun b=>fy w.heap.size p vB vS b∨bh u b∨bh u9 b) (bg w8 o) fun b hb=>by
  rcases hb with hb | hb | hb
  ·exact .inl (.inl hb)
  ·exact .inl (.inr hb)
  ·rcases l9 b hb with h | h
   ·exact .inl (.inr h)
   ·exact .inr (by omega)
 have hnq:¬(fy w.heap.size p vB vS q∨bh u q∨bh u9 q):=fun hb=>by
  have hq:=h8.qlt;rcases hb with hb | hb | hb
  ·exact h8.nq hb
  ·have:=(hl q hb).1;omega
  ·rcases l9 q hb with h | h
   ·have:=(hl q h).1;omega
   ·omega
 have hC9:=hCa.kept (w':=W9) hnq k9.size fun b hb hn=>k9.block b hb fun h=>hn (.inr (.inl h))
 have h9:=h8a.keepU k9 (fun b hb=>⟨(hl b hb).2,(hl b hb).1⟩) (hC9.more fun b hb=>.inl (.inl hb));have hge9:∀b,bh u9 b→b1≤b∧¬fy w.heap.size p vB vS b:=fun b hb=>by
  rcases l9 b hb with h | h
  ·exact hl b h
  ·exact⟨by omega,fun hm=>by have:=h8a.hS b hm;omega⟩
 exact⟨h9.setsN o9 (fun b hb=>(hge9 b hb).1) (fun hb=>(hge9 p hb).2 (.inl rfl)) (fun b hb h2=>(hge9 b h2).2 (.inr (.inr (.inl hb)))) (hC9.more fun b hb=>.inl (by
  rcases hb with hb | hb
  ·exact .inl hb
  ·exact .inr (.inr hb))),h9.box⟩
end
end Go.Proofs.YtccaheogjpfhjaaGreat

namespace Go.Proofs.YtccaheogjpfhjaaGreat
open Go Go.Proofs Go.V Go.RowKit
set_option maxRecDepth 100000
variable {Z:Nat→Prop}
set_option maxHeartbeats 20000000 in
set_option maxRecDepth 1000000 in
theorem La (c:Cur) (B:Nat) (h:c.ok B) (hB:B≤100000) (w:World) (q:Nat) (hZ:∀b,Z b→b<w.heap.size) (hC:eh Z w q (fun _=>False) (aR c)) :
  Calls Tryz.prog 42 #[.pointer (some ⟨q,0,none⟩)] w fun e w'=>∃yF vB vS,e = .returned (.tuple #[yF,.agg #[vB,vS]])∧bf w' (fun b=>w.heap.size≤b∧b<w'.heap.size) (srs (fo c).1) yF∧SetA w' w.heap.size vB vS (se c).2∧eh Z w' q (fun b=>bh vB b∨bh vS b) (aR (se c).1)∧KeepX (fun b=>b=q) w w':=by
 have hq:=hC.lt
 go_enter Tryz.func42,Tryz.ntmps42
 go_upto_region 1 with fail
 have hBa:=bg w (.cells #[.slice none 0 0,.slice none 0 0] 44);have hr:(w.alloc (.cells #[.slice none 0 0,.slice none 0 0] 44)).heap[w.heap.size]?=some (stC (.slice none 0 0) (.slice none 0 0)):=bF _ rfl;have hC1:=hC.below (T:=fun b=>b=w.heap.size) hBa fun b hb=>.inr (by omega)
 have hs1:(w.alloc (.cells #[.slice none 0 0,.slice none 0 0] 44)).heap.size=w.heap.size+1:=by simp
 generalize w.alloc (.cells #[.slice none 0 0,.slice none 0 0] 44)=W1 at *;obtain⟨-,f2,f3,f4⟩:=UT h (by omega);obtain⟨-,b2,b3,b4,b5⟩:=Tr f4 (by omega) f2 f3;have hZ1:∀{W:World},w.heap.size≤W.heap.size→∀b,Z b→b<W.heap.size:=fun hW b hb=>aae (hZ b hb) hW
 have hcf:=RV h (by omega) hC1 (fun b hb=>by omega) (hZ1 (by omega));have hfw:FntW (fo c).1:=RK f2 f3;have hf0:(fo c).1≠[]:=fun e=>by have:=f2.1;rw [e] at this;simp at this
 go_upto_region 2 with (go_at_call 86;refine hcf.mono ?_;rintro e w2 ⟨y,rfl,hy,hC2,k2⟩)
 replace hy:bf w2 (fun b=>W1.heap.size≤b∧b<w2.heap.size) (srs (fo c).1) y:=hy;obtain⟨gF,oF,cF,rfl,hgF,hcF⟩:=Gg hy hf0;have hk2s:=k2.size;have hcb:=Pz f4 (by omega) f2 f3 hC2 (fun b hb=>by omega) (hZ1 (by omega)) (Fa:=fun b=>W1.heap.size≤b∧b<w2.heap.size) (fun b hb=>⟨hb.2,by omega,by omega,fun hz=>by have:=hZ b hz;omega⟩) hy
 go_upto_region 3 with (go_at_call 87;refine hcb.mono ?_;rintro e w3 ⟨A,n,k,rfl,hob,hnb,hC3,k3⟩)
 have hbb:bo (fo c).2 (fo c).1=se0 c:=rfl;rw [hbb] at *;obtain⟨f,hfE⟩:∃f,f=(fo c).1:=⟨_,rfl⟩
 have hse1:se1 c=wdS f (pk (se0 c).2 4).1.toNat ((pk (se0 c).2 4).2,((se0 c).1,[])):=by rw [hfE];rfl
 have hse:se c=Bf (f.getD 0 (aag,0)).1 (pk (se1 c).1 24) (se1 c).2:=by rw [hfE];rfl
 rw [←hfE] at hfw hf0 hy hcF f2 ⊢;have HSE1:Hid _:=hse1;have HSE:Hid _:=hse;have HFE:Hid _:=hfE;clear hse1 hse hbb hfE;have hk3s:=k3.size;obtain⟨b1,hb1⟩:∃b1,b1=w2.heap.size:=⟨_,rfl⟩
 have hob':=ie hob (bg w3 (.cells #[.slice A n k,.slice none 0 0] 44));have st:StP Z w (w3.alloc (.cells #[.slice A n k,.slice none 0 0] 44)) q w3.heap.size b1 f (.slice (some ⟨gF,oF,none⟩) f.length cF) (se0 c).2 ((se0 c).1,[]) (.slice A n k) (.slice none 0 0):=by
  refine⟨bF _ rfl,⟨hob',EL _ 1,fun b hb=>by have:=(hnb b hb).1;omega,(fun b hb=>by cases hb),fun b hb h2=>by cases h2⟩,⟨fun hb=>by have:=(hnb _ hb).2;omega,fun hb=>by cases hb⟩,by omega,fq _ (k3.some (k2.some hr (by omega)) (by omega)),?_,?_,hq,hZ,aK (fun b hb=>by omega) (fun b hb=>?_) hy,by omega,by simp;omega⟩
  ·refine hC3.below (bg w3 _) fun b hb=>?_
   rcases hb with rfl | rfl | hb | hb
   ·exact .inr (aad _)
   ·exact .inl (.inl rfl)
   ·exact .inl (.inr hb)
   ·cases hb
  ·exact((KeepX.of hBa).trans (k2.trans k3)).trans (KeepX.of ((bg w3 _).mono (by omega)))
  ·rw [show(w3.alloc (.cells #[.slice A n k,.slice none 0 0] 44)).heap[b]?=w3.heap[b]? from(bg w3 _).block b (by omega)]
   exact k3.block b (by omega) (by omega)
 have hcell0:∀W:World,KeepX (fun b=>b=q) w W→True:=fun _ _=>trivial
 have hc3:(se0 c).2.ok (B+200):=b5.mono (by omega);have hok0:OkS ((se0 c).1,[]):=by
  have hb2:dY (se0 c).1=true:=b2;have hb3:(se0 c).1.length≤12:=b3;have hg:=Ck.1 hb2;have hl1:=hg.2.2.2.1;exact⟨⟨by simp only;omega,fun x hx=>by obtain⟨i,hi,rfl⟩:=aaP hx;have hi2:i<(se0 c).1.length:=hi;have h3:=hg.1 i hi2;unfold tQ at h3;simp only [ZN] at h3;have h4:=kE h3.1.1.1;simp only at h4 ⊢;omega⟩,⟨by show 1≤(se0 c).1.length;omega,hb3⟩,by simp⟩
 clear hcf hcb hy hC1 hC2 hC3 k2 k3 hob hob' hBa hr hs1 hnb hk2s hk3s f2 f3 f4 b5 hgF hcF hb1 b2 b3 b4 hcell0;generalize w3.alloc (.cells #[.slice A n k,.slice none 0 0] 44)=W3 at *;generalize w3.heap.size=p at *;have hcp:=CH (n:=4) hc3 (by omega) (by omega) st.cur st.hS st.hZ;obtain⟨-,n1,n2,n3⟩:=Hr (n:=4) hc3 (by omega) (by omega)
 go_wp2_with (go_at_call 65;refine hcp.mono ?_;rintro e w4 ⟨rfl,hC4,k4⟩;have st4:=st.move hC4 k4)
 clear hcp st hC4 k4
 go_loopw [6] (fun v6 wr=>∃(m:Nat) (a:Cur × Stg),v6 = .int .i64 m∧m≤3∧wdS f m a=se1 c∧a.1.ok (B+280 - 20*m)∧OkS a.2∧StG Z w wr q p b1 f (.slice (some ⟨gF,oF,none⟩) f.length cF) a.1 a.2) (fun v6 _=>(intOf v6).toNat)
 case atStart =>
  obtain⟨nn,hnn⟩:=aat n1;refine⟨nn,((pk (se0 c).2 4).2,((se0 c).1,[])),by rw [hnn],by omega,?_,n3.mono (by omega),hok0,_,_,_,_,_,_,st4⟩
  rw [HSE1.out,hnn];rfl
 case round =>
  obtain⟨m,a,rfl,hm,hdo,hcok,hxs,A,n,k,A',n',k',sr⟩:=hrel;by_cases hp:0<m
  ·have hpi:(0:Int)<(m:Int):=by omega
   obtain⟨-,hx20,hcok2⟩:=UF hcok (by omega);have HDO:Hid _:=hdo;clear hdo
   go_upto_region 6 with fail
   go_cut [7,8] from 75 (fun t7 t8 wc=>DoS Z w q p b1 f (.slice (some ⟨gF,oF,none⟩) f.length cF) (wo a.1).2 a.2 ((dsR f a.2.1 a.2.2 (wo a.1).1).getD ([],[])) (dsR f a.2.1 a.2.2 (wo a.1).1).isSome A n k A' n' k' t7 t8 wc)
   case first =>
      have st:=sr.below (bM wr);have hc:=st.cur;have hSd:=(ci st.box).1;refine ov (l:=[_,_,_,_,_,_,_,_,_,_]) (o:=_) (S:=fun w'=>w'.cell? ⟨p,0,none⟩=some (.slice A n k)∧w'.cell? ⟨p,1,none⟩=some (.slice A' n' k')) (by kernel_rfl) (by kernel_rfl) hSd (fun hHeld=>?_)
      change wpAnyH _ _ _ _ _ 10 (aaj 10 false) _ _
      generalize wr.drew=W0 at *;refine wpAnyH_take (i:=0) (oi:=_) (v:=?vd1) rfl (by kernel_rfl) (by kernel_rfl) (by kernel_rfl) (fun _ _ _ h=>h) (ZW ⟨by rfl,?yd1⟩) hHeld ?rd1
      case yd1=>(intro w0 hSw;obtain⟨hSw0,hSw1⟩:=hSw;go_simp;try with_reducible rfl)
      (try simp only [ZJ,ZE,ZF,ZG])
      refine wpAnyH_take (i:=1) (oi:=_) (v:=?vd2) rfl (by kernel_rfl) (by kernel_rfl) (by kernel_rfl) (fun _ _ _ h=>h) (ZW ⟨by rfl,?yd2⟩) hHeld ?rd2
      case yd2=>(intro w0 hSw;obtain⟨hSw0,hSw1⟩:=hSw;go_simp;try with_reducible rfl)
      (try simp only [ZJ,ZE,ZF,ZG])
      refine wpAnyH_take (i:=2) (oi:=_) (v:=?vd3) rfl (by kernel_rfl) (by kernel_rfl) (by kernel_rfl) (fun _ _ _ h=>h) (ZW ⟨by rfl,?yd3⟩) hHeld ?rd3
      case yd3=>(intro w0 hSw;obtain⟨hSw0,hSw1⟩:=hSw;go_simp;try with_reducible rfl)
      (try simp only [ZJ,ZE,ZF,ZG])
      refine wpAnyH_ready (rs:=[3,8]) (by kernel_rfl) (by simp) ?_
      refine ZP (o:=_) rfl (fun K hK=>?_) ?_
      ·go_simp
       go_at_call 88
       refine(Km (S:=fun b=>fy w.heap.size p (.slice A n k) (.slice A' n' k') b) hcok (by omega) hc (fun b hb=>st.hS b hb) st.hZ).mono ?_
       rintro e w5 ⟨rfl,hc,k5⟩;replace st:=st.move (hc.more fun b hb=>.inl hb) k5
       go_wp2_with fail
       refine hK.out _ _ ?_ (fun hHeld=>?_)
       ·exact(ci st.box).1
       clear hK K
       (try simp only [ZJ,ZE,ZF,ZG])
       refine wpAnyH_ready (rs:=[4,8]) (by kernel_rfl) (by simp) ?_
       refine ZP (o:=_) rfl (fun K hK=>?_) ?_
       ·go_simp
        go_at_call 52
        refine(yE f a.2 (wo a.1).1 hfw hxs.ok (by have:=hxs.st;omega) (by omega) _ (fun b=>b<w5.heap.size) _ _ _ (aK (fun b hb=>by have:=st.b1w;omega) (fun _ _=>rfl) st.fon) (iV st.set.ob) (iV st.set.os) (fun b hb=>hb)).mono ?_
        rintro e w6 ⟨uB,uS,rfl,sa,b6⟩;obtain⟨mA,mn,mk,rfl⟩:=fe sa.ob;obtain⟨mA',mn',mk',rfl⟩:=fe sa.os;have hpn:¬bh (.slice mA mn mk) p∧¬bh (.slice mA' mn' mk') p:=⟨fun hb=>by have:=sa.gb _ hb;have:=aG st.box;omega,fun hb=>by have:=sa.gs _ hb;have:=aG st.box;omega⟩
        have hb1x:=st.b1w.2;replace hc:=eh.below (T:=fun b=>(fy w.heap.size p (.slice A n k) (.slice A' n' k') b∨(bh (.slice mA mn mk) b∨bh (.slice mA' mn' mk') b))) hc b6 (fun b hb=>hb.imp (fun h=>h) fun h=>by rcases h with h | h;exact sa.gb b h;exact sa.gs b h);replace sa:=SetA.base sa hb1x;replace st:=st.below b6
        go_wp2_with fail
        refine hK.out _ _ ?_ (fun hHeld=>?_)
        ·exact(ci st.box).1
        clear hK K
        (try simp only [ZJ,ZE,ZF,ZG])
        refine wpAnyH_take (i:=5) (oi:=_) (v:=?vd4) rfl (by kernel_rfl) (by kernel_rfl) (by kernel_rfl) (fun _ _ _ h=>h) (ZW ⟨by rfl,?yd4⟩) hHeld ?rd4
        case yd4=>(intro w0 hSw;obtain⟨hSw0,hSw1⟩:=hSw;go_simp;try with_reducible rfl)
        (try simp only [ZJ,ZE,ZF,ZG])
        refine wpAnyH_take (i:=6) (oi:=_) (v:=?vd5) rfl (by kernel_rfl) (by kernel_rfl) (by kernel_rfl) (fun _ _ _ h=>h) (ZW ⟨by rfl,?yd5⟩) hHeld ?rd5
        case yd5=>(intro w0 hSw;obtain⟨hSw0,hSw1⟩:=hSw;go_simp;try with_reducible rfl)
        (try simp only [ZJ,ZE,ZF,ZG])
        refine wpAnyH_take (i:=7) (oi:=_) (v:=?vd6) rfl (by kernel_rfl) (by kernel_rfl) (by kernel_rfl) (fun _ _ _ h=>h) (ZW ⟨by rfl,?yd6⟩) hHeld ?rd6
        case yd6=>(intro w0 hSw;obtain⟨hSw0,hSw1⟩:=hSw;go_simp;try with_reducible rfl)
        (try simp only [ZJ,ZE,ZF,ZG])
        refine wpAnyH_ready (rs:=[8]) (by kernel_rfl) (by simp) ?_
        refine ZP (o:=_) rfl (fun K hK=>?_) ?_
        ·go_simp
         have hq:(w6.alloc (.cells #[.slice none 0 0,.slice none 0 0] 44)).heap[w6.heap.size]?=some (stC (.slice none 0 0) (.slice none 0 0)):=bF _ rfl;have hqm:¬fy w.heap.size p (.slice A n k) (.slice A' n' k') w6.heap.size:=fun hb=>by have:=st.hS _ hb;omega
         have hqb:b1≤w6.heap.size:=st.b1w.2;have hqq:w6.heap.size≠q:=fun e=>by have:=st.b1w;have:=st.qlt;omega
         have hqn:¬(bh (.slice mA mn mk) w6.heap.size∨bh (.slice mA' mn' mk') w6.heap.size):=fun hb=>by
          rcases hb with hb | hb
          ·have:=lE sa.ob _ hb;omega
          ·have:=lE sa.os _ hb;omega
         have sa9:=sa;replace sa:=sa.below (bg w6 (.cells #[.slice none 0 0,.slice none 0 0] 44));have st9:=st;have hc9:=hc;replace hc:=eh.below (T:=fun b=>((fy w.heap.size p (.slice A n k) (.slice A' n' k') b∨b=w6.heap.size)∨(bh (.slice mA mn mk) b∨bh (.slice mA' mn' mk') b))) hc (bg w6 (.cells #[.slice none 0 0,.slice none 0 0] 44)) (fun b hb=>by
          rcases hb with (hb | hb) | hb
          ·exact .inl (.inl hb)
          ·exact .inr (by omega)
          ·exact .inl (.inr hb))
         replace st:=st.below (bg w6 (.cells #[.slice none 0 0,.slice none 0 0] 44));refine hK.out _ _ ?_ (fun hHeld=>?_)
         ·exact(ci st.box).1
         clear hK K
         (try simp only [ZJ,ZE,ZF,ZG])
         refine wpAnyH_ready (rs:=[9]) (by kernel_rfl) (by simp) ?_
         refine ZP (o:=_) rfl (fun K hK=>?_) ?_
         ·obtain⟨⟨g0,g1⟩,j0,j1⟩:=ci hq
          go_simp
          have hq:(w6.alloc (.cells #[.slice mA mn mk,.slice mA' mn' mk'] 44)).heap[w6.heap.size]?=some (stC (.slice mA mn mk) (.slice mA' mn' mk')):=bF _ rfl;have hsa9:SetA w6 b1 (.slice mA mn mk) (.slice mA' mn' mk') _:=sa9;replace sa:=hsa9.below (bg w6 (.cells #[.slice mA mn mk,.slice mA' mn' mk'] 44));have st:=st9.below (bg w6 (.cells #[.slice mA mn mk,.slice mA' mn' mk'] 44));have hc:=eh.below (T:=fun b=>fy w.heap.size p (.slice A n k) (.slice A' n' k') b∨b=w6.heap.size∨bh (.slice mA mn mk) b∨bh (.slice mA' mn' mk') b) hc9 (bg w6 (.cells #[.slice mA mn mk,.slice mA' mn' mk'] 44)) (fun b hb=>by
           rcases hb with hb | hb | hb
           ·exact .inl (.inl hb)
           ·exact .inr (by omega)
           ·exact .inl (.inr hb))
          clear g0 g1 j0 j1;refine hK.out _ _ ?_ (fun hHeld=>?_)
          ·exact(ci st.box).1
          clear hK K
          (try simp only [ZJ,ZE,ZF,ZG])
          refine mL (by kernel_rfl) ?_
          go_simp
          go_wp2
          go_meet
          case rel =>
           exact⟨_,_,_,_,_,_,_,rfl,rfl,st,hq,sa,hpn,fun hb=>hqn hb,hqb,hc⟩
         exact ZT
        exact ZT
       refine ZP (o:=_) rfl (fun K hK=>?_) ?_
       ·go_simp
        have hq:(w5.alloc (.cells #[.slice none 0 0,.slice none 0 0] 44)).heap[w5.heap.size]?=some (stC (.slice none 0 0) (.slice none 0 0)):=bF _ rfl;have hqm:¬fy w.heap.size p (.slice A n k) (.slice A' n' k') w5.heap.size:=fun hb=>by have:=st.hS _ hb;omega
        have hqb:b1≤w5.heap.size:=st.b1w.2;have hqq:w5.heap.size≠q:=fun e=>by have:=st.b1w;have:=st.qlt;omega
        replace hc:=eh.below (T:=fun b=>(fy w.heap.size p (.slice A n k) (.slice A' n' k') b∨b=w5.heap.size)) hc (bg w5 (.cells #[.slice none 0 0,.slice none 0 0] 44)) (fun b hb=>by
         rcases hb with hb | hb
         ·exact .inl hb
         ·exact .inr (by omega))
        replace st:=st.below (bg w5 (.cells #[.slice none 0 0,.slice none 0 0] 44));refine hK.out _ _ ?_ (fun hHeld=>?_)
        ·exact(ci st.box).1
        clear hK K
        (try simp only [ZJ,ZE,ZF,ZG])
        refine wpAnyH_ready (rs:=[4]) (by kernel_rfl) (by simp) ?_
        refine ZP (o:=_) rfl (fun K hK=>?_) ?_
        ·go_simp
         go_at_call 52
         refine(yE f a.2 (wo a.1).1 hfw hxs.ok (by have:=hxs.st;omega) (by omega) _ (fun b=>b<(w5.alloc (.cells #[.slice none 0 0,.slice none 0 0] 44)).heap.size) _ _ _ (aK (fun b hb=>by have:=st.b1w;omega) (fun _ _=>rfl) st.fon) (iV st.set.ob) (iV st.set.os) (fun b hb=>hb)).mono ?_
         rintro e w6 ⟨uB,uS,rfl,sa,b6⟩;obtain⟨mA,mn,mk,rfl⟩:=fe sa.ob;obtain⟨mA',mn',mk',rfl⟩:=fe sa.os;have hpn:¬bh (.slice mA mn mk) p∧¬bh (.slice mA' mn' mk') p:=⟨fun hb=>by have:=sa.gb _ hb;have:=aG st.box;omega,fun hb=>by have:=sa.gs _ hb;have:=aG st.box;omega⟩
         have hb1x:=st.b1w.2;have hqn:¬(bh (.slice mA mn mk) w5.heap.size∨bh (.slice mA' mn' mk') w5.heap.size):=fun hb=>by
          have:=aG hq;rcases hb with hb | hb
          ·have:=sa.gb _ hb;omega
          ·have:=sa.gs _ hb;omega
         replace hq:=aJ b6 hq (aG hq);replace hc:=eh.below (T:=fun b=>((fy w.heap.size p (.slice A n k) (.slice A' n' k') b∨b=w5.heap.size)∨(bh (.slice mA mn mk) b∨bh (.slice mA' mn' mk') b))) hc b6 (fun b hb=>hb.imp (fun h=>h) fun h=>by rcases h with h | h;exact sa.gb b h;exact sa.gs b h);replace sa:=SetA.base sa hb1x;replace st:=st.below b6
         go_wp2_with fail
         refine hK.out _ _ ?_ (fun hHeld=>?_)
         ·exact(ci st.box).1
         clear hK K
         (try simp only [ZJ,ZE,ZF,ZG])
         refine wpAnyH_take (i:=5) (oi:=_) (v:=?vd7) rfl (by kernel_rfl) (by kernel_rfl) (by kernel_rfl) (fun _ _ _ h=>h) (ZW ⟨by rfl,?yd7⟩) hHeld ?rd7
         case yd7=>(intro w0 hSw;obtain⟨hSw0,hSw1⟩:=hSw;go_simp;try with_reducible rfl)
         (try simp only [ZJ,ZE,ZF,ZG])
         refine wpAnyH_take (i:=6) (oi:=_) (v:=?vd8) rfl (by kernel_rfl) (by kernel_rfl) (by kernel_rfl) (fun _ _ _ h=>h) (ZW ⟨by rfl,?yd8⟩) hHeld ?rd8
         case yd8=>(intro w0 hSw;obtain⟨hSw0,hSw1⟩:=hSw;go_simp;try with_reducible rfl)
         (try simp only [ZJ,ZE,ZF,ZG])
         refine wpAnyH_take (i:=7) (oi:=_) (v:=?vd9) rfl (by kernel_rfl) (by kernel_rfl) (by kernel_rfl) (fun _ _ _ h=>h) (ZW ⟨by rfl,?yd9⟩) hHeld ?rd9
         case yd9=>(intro w0 hSw;obtain⟨hSw0,hSw1⟩:=hSw;go_simp;try with_reducible rfl)
         (try simp only [ZJ,ZE,ZF,ZG])
         refine wpAnyH_ready (rs:=[9]) (by kernel_rfl) (by simp) ?_
         refine ZP (o:=_) rfl (fun K hK=>?_) ?_
         ·obtain⟨⟨g0,g1⟩,j0,j1⟩:=ci hq
          go_simp
          have hnq:¬((fy w.heap.size p (.slice A n k) (.slice A' n' k') q∨q=w5.heap.size)∨(bh (.slice mA mn mk) q∨bh (.slice mA' mn' mk') q)):=fun hb=>by
           rcases hb with (hb | hb) | hb | hb
           ·exact st.nq hb
           ·exact hqq hb.symm
           ·have:=sa.gb _ hb;have:=st.b1w;have:=st.qlt;omega
           ·have:=sa.gs _ hb;have:=st.b1w;have:=st.qlt;omega
          have hc1:=hc.set hnq ⟨w5.heap.size,0,none⟩ (.slice mA mn mk) (.inl (.inr rfl));have st1:=st.other hqm hqb 0 (.slice mA mn mk) (hc1.more fun b hb=>.inl (.inl (.inl hb)));have hc2:=hc1.set hnq ⟨w5.heap.size,1,none⟩ (.slice mA' mn' mk') (.inl (.inr rfl));have st:=st1.other hqm hqb 1 (.slice mA' mn' mk') (hc2.more fun b hb=>.inl (.inl (.inl hb)));have hc:=eh.more (T:=fun b=>fy w.heap.size p (.slice A n k) (.slice A' n' k') b∨b=w5.heap.size∨bh (.slice mA mn mk) b∨bh (.slice mA' mn' mk') b) hc2 (fun b hb=>.inl (by
           rcases hb with hb | hb | hb
           ·exact .inl (.inl hb)
           ·exact .inl (.inr hb)
           ·exact .inr hb))
          have hqn2:∀b,bh (.slice mA mn mk) b∨bh (.slice mA' mn' mk') b→b≠w5.heap.size:=fun b hb e=>hqn (by rw [←e];exact hb)
          replace sa:=(sa.keep (W':=_) fun b hb=>(heap_setCell_other _ ⟨w5.heap.size,0,none⟩ _ (.slice mA mn mk) (hqn2 b hb))).keep (W':=_) fun b hb=>heap_setCell_other _ ⟨w5.heap.size,1,none⟩ _ (.slice mA' mn' mk') (hqn2 b hb)
          replace hq:=(heap_setCell_same _ _ 1 _ _ (.slice mA' mn' mk') (heap_setCell_same _ _ 0 _ _ (.slice mA mn mk) hq))
          clear g0 g1 j0 j1;refine hK.out _ _ ?_ (fun hHeld=>?_)
          ·exact(ci st.box).1
          clear hK K
          (try simp only [ZJ,ZE,ZF,ZG])
          refine mL (by kernel_rfl) ?_
          go_simp
          go_wp2
          go_meet
          case rel =>
           exact⟨_,_,_,_,_,_,_,rfl,rfl,st,hq,sa,hpn,fun hb=>hqn hb,hqb,hc⟩
         exact ZT
        exact ZT
       exact ZT
      refine ZP (o:=_) rfl (fun K hK=>?_) ?_
      ·go_simp
       have hq:(W0.alloc (.cells #[.slice none 0 0,.slice none 0 0] 44)).heap[W0.heap.size]?=some (stC (.slice none 0 0) (.slice none 0 0)):=bF _ rfl;have hqm:¬fy w.heap.size p (.slice A n k) (.slice A' n' k') W0.heap.size:=fun hb=>by have:=st.hS _ hb;omega
       have hqb:b1≤W0.heap.size:=st.b1w.2;have hqq:W0.heap.size≠q:=fun e=>by have:=st.b1w;have:=st.qlt;omega
       replace hc:=eh.below (T:=fun b=>(fy w.heap.size p (.slice A n k) (.slice A' n' k') b∨b=W0.heap.size)) hc (bg W0 (.cells #[.slice none 0 0,.slice none 0 0] 44)) (fun b hb=>by
        rcases hb with hb | hb
        ·exact .inl hb
        ·exact .inr (by omega))
       replace st:=st.below (bg W0 (.cells #[.slice none 0 0,.slice none 0 0] 44));refine hK.out _ _ ?_ (fun hHeld=>?_)
       ·exact(ci st.box).1
       clear hK K
       (try simp only [ZJ,ZE,ZF,ZG])
       refine wpAnyH_ready (rs:=[3]) (by kernel_rfl) (by simp) ?_
       refine ZP (o:=_) rfl (fun K hK=>?_) ?_
       ·go_simp
        go_at_call 88
        refine(Km (S:=fun b=>(fy w.heap.size p (.slice A n k) (.slice A' n' k') b∨b=W0.heap.size)) hcok (by omega) hc (fun b hb=>by rcases hb with hb | hb;exact st.hS b hb;(subst hb;exact aG hq)) st.hZ).mono ?_
        rintro e w5 ⟨rfl,hc,k5⟩;replace st:=st.move (hc.more fun b hb=>.inl (.inl hb)) k5;replace hq:=k5.some hq hqq
        go_wp2_with fail
        refine hK.out _ _ ?_ (fun hHeld=>?_)
        ·exact(ci st.box).1
        clear hK K
        (try simp only [ZJ,ZE,ZF,ZG])
        refine wpAnyH_ready (rs:=[4]) (by kernel_rfl) (by simp) ?_
        refine ZP (o:=_) rfl (fun K hK=>?_) ?_
        ·go_simp
         go_at_call 52
         refine(yE f a.2 (wo a.1).1 hfw hxs.ok (by have:=hxs.st;omega) (by omega) _ (fun b=>b<w5.heap.size) _ _ _ (aK (fun b hb=>by have:=st.b1w;omega) (fun _ _=>rfl) st.fon) (iV st.set.ob) (iV st.set.os) (fun b hb=>hb)).mono ?_
         rintro e w6 ⟨uB,uS,rfl,sa,b6⟩;obtain⟨mA,mn,mk,rfl⟩:=fe sa.ob;obtain⟨mA',mn',mk',rfl⟩:=fe sa.os;have hpn:¬bh (.slice mA mn mk) p∧¬bh (.slice mA' mn' mk') p:=⟨fun hb=>by have:=sa.gb _ hb;have:=aG st.box;omega,fun hb=>by have:=sa.gs _ hb;have:=aG st.box;omega⟩
         have hb1x:=st.b1w.2;have hqn:¬(bh (.slice mA mn mk) W0.heap.size∨bh (.slice mA' mn' mk') W0.heap.size):=fun hb=>by
          have:=aG hq;rcases hb with hb | hb
          ·have:=sa.gb _ hb;omega
          ·have:=sa.gs _ hb;omega
         replace hq:=aJ b6 hq (aG hq);replace hc:=eh.below (T:=fun b=>((fy w.heap.size p (.slice A n k) (.slice A' n' k') b∨b=W0.heap.size)∨(bh (.slice mA mn mk) b∨bh (.slice mA' mn' mk') b))) hc b6 (fun b hb=>hb.imp (fun h=>h) fun h=>by rcases h with h | h;exact sa.gb b h;exact sa.gs b h);replace sa:=SetA.base sa hb1x;replace st:=st.below b6
         go_wp2_with fail
         refine hK.out _ _ ?_ (fun hHeld=>?_)
         ·exact(ci st.box).1
         clear hK K
         (try simp only [ZJ,ZE,ZF,ZG])
         refine wpAnyH_take (i:=5) (oi:=_) (v:=?vd10) rfl (by kernel_rfl) (by kernel_rfl) (by kernel_rfl) (fun _ _ _ h=>h) (ZW ⟨by rfl,?yd10⟩) hHeld ?rd10
         case yd10=>(intro w0 hSw;obtain⟨hSw0,hSw1⟩:=hSw;go_simp;try with_reducible rfl)
         (try simp only [ZJ,ZE,ZF,ZG])
         refine wpAnyH_take (i:=6) (oi:=_) (v:=?vd11) rfl (by kernel_rfl) (by kernel_rfl) (by kernel_rfl) (fun _ _ _ h=>h) (ZW ⟨by rfl,?yd11⟩) hHeld ?rd11
         case yd11=>(intro w0 hSw;obtain⟨hSw0,hSw1⟩:=hSw;go_simp;try with_reducible rfl)
         (try simp only [ZJ,ZE,ZF,ZG])
         refine wpAnyH_take (i:=7) (oi:=_) (v:=?vd12) rfl (by kernel_rfl) (by kernel_rfl) (by kernel_rfl) (fun _ _ _ h=>h) (ZW ⟨by rfl,?yd12⟩) hHeld ?rd12
         case yd12=>(intro w0 hSw;obtain⟨hSw0,hSw1⟩:=hSw;go_simp;try with_reducible rfl)
         (try simp only [ZJ,ZE,ZF,ZG])
         refine wpAnyH_ready (rs:=[9]) (by kernel_rfl) (by simp) ?_
         refine ZP (o:=_) rfl (fun K hK=>?_) ?_
         ·obtain⟨⟨g0,g1⟩,j0,j1⟩:=ci hq
          go_simp
          have hnq:¬((fy w.heap.size p (.slice A n k) (.slice A' n' k') q∨q=W0.heap.size)∨(bh (.slice mA mn mk) q∨bh (.slice mA' mn' mk') q)):=fun hb=>by
           rcases hb with (hb | hb) | hb | hb
           ·exact st.nq hb
           ·exact hqq hb.symm
           ·have:=sa.gb _ hb;have:=st.b1w;have:=st.qlt;omega
           ·have:=sa.gs _ hb;have:=st.b1w;have:=st.qlt;omega
          have hc1:=hc.set hnq ⟨W0.heap.size,0,none⟩ (.slice mA mn mk) (.inl (.inr rfl));have st1:=st.other hqm hqb 0 (.slice mA mn mk) (hc1.more fun b hb=>.inl (.inl (.inl hb)));have hc2:=hc1.set hnq ⟨W0.heap.size,1,none⟩ (.slice mA' mn' mk') (.inl (.inr rfl));have st:=st1.other hqm hqb 1 (.slice mA' mn' mk') (hc2.more fun b hb=>.inl (.inl (.inl hb)));have hc:=eh.more (T:=fun b=>fy w.heap.size p (.slice A n k) (.slice A' n' k') b∨b=W0.heap.size∨bh (.slice mA mn mk) b∨bh (.slice mA' mn' mk') b) hc2 (fun b hb=>.inl (by
           rcases hb with hb | hb | hb
           ·exact .inl (.inl hb)
           ·exact .inl (.inr hb)
           ·exact .inr hb))
          have hqn2:∀b,bh (.slice mA mn mk) b∨bh (.slice mA' mn' mk') b→b≠W0.heap.size:=fun b hb e=>hqn (by rw [←e];exact hb)
          replace sa:=(sa.keep (W':=_) fun b hb=>(heap_setCell_other _ ⟨W0.heap.size,0,none⟩ _ (.slice mA mn mk) (hqn2 b hb))).keep (W':=_) fun b hb=>heap_setCell_other _ ⟨W0.heap.size,1,none⟩ _ (.slice mA' mn' mk') (hqn2 b hb)
          replace hq:=(heap_setCell_same _ _ 1 _ _ (.slice mA' mn' mk') (heap_setCell_same _ _ 0 _ _ (.slice mA mn mk) hq))
          clear g0 g1 j0 j1;refine hK.out _ _ ?_ (fun hHeld=>?_)
          ·exact(ci st.box).1
          clear hK K
          (try simp only [ZJ,ZE,ZF,ZG])
          refine mL (by kernel_rfl) ?_
          go_simp
          go_wp2
          go_meet
          case rel =>
           exact⟨_,_,_,_,_,_,_,rfl,rfl,st,hq,sa,hpn,fun hb=>hqn hb,hqb,hc⟩
         exact ZT
        exact ZT
       exact ZT
      exact ZT
   case rest =>
      obtain⟨q7,B1,m1,j1,B2,m2,j2,rfl,rfl,st,hq7,sa,hpn,hqn,hqb,hcn⟩:=hcut;obtain⟨⟨i0,i1⟩,l0,l1⟩:=ci st.box;obtain⟨⟨d0,d1⟩,-,-⟩:=ci hq7;obtain⟨m',hm'⟩:∃m',m=m'+1:=⟨m - 1,by omega⟩
      subst hm';cases hds:dsR f a.2.1 a.2.2 (wo a.1).1 with
      | none =>
       have HDS:Hid _:=hds;rw [show(none:Option Stg).isSome=false from rfl];clear hds
       go_wp2
       refine⟨⟨m',((wo a.1).2,a.2),congrArg (aaf .i64) (by omega),by omega,?_,hcok2.mono (by omega),hxs,_,_,_,_,_,_,st⟩,?_⟩
       ·rw [←HDO.out]
        show _=wdS f m' ((wo a.1).2,(dsR f a.2.1 a.2.2 (wo a.1).1).getD a.2)
        rw [HDS.out];rfl
       ·show((m':Nat):Int).toNat<((m'+1:Nat):Int).toNat
        omega
      | some y =>
       have hoy:=SQ hxs hds;rw [hds] at sa;have HDS:Hid _:=hds;rw [show(some y).isSome=true from rfl];clear hds;have hsw:=st.swap (y:=y) sa hpn hcn (fun b hb=>by
        rcases hb with hb | hb | hb | hb
        ·exact .inl (.inl hb)
        ·exact .inl (.inr (.inl hb))
        ·exact .inr (.inr (.inl hb))
        ·exact .inr (.inr (.inr hb)))
       have HSW:Hid _:=hsw;clear hsw
       go_wp2
       refine⟨⟨m',((wo a.1).2,y),congrArg (aaf .i64) (by omega),by omega,?_,hcok2.mono (by omega),hoy,_,_,_,_,_,_,HSW.out⟩,?_⟩
       ·rw [←HDO.out]
        show _=wdS f m' ((wo a.1).2,(dsR f a.2.1 a.2.2 (wo a.1).1).getD a.2)
        rw [HDS.out];rfl
       ·show((m':Nat):Int).toNat<((m'+1:Nat):Int).toNat
        omega
  ·have hm0:m=0:=by omega
   subst hm0;have hdoH:Hid (a=se1 c):=hdo;clear hdo;have hck:=hcok.mono (show B+280 - 20*0≤B+280 by omega);have hcp:=CH (n:=24) hck (by omega) (by omega) sr.cur sr.hS sr.hZ;obtain⟨-,n1',n2',n3'⟩:=Hr (n:=24) hck (by omega) (by omega)
   go_upto_block 2 with (go_at_call 65;refine hcp.mono ?_;rintro e w5 ⟨rfl,hC5,k5⟩;have st5:=sr.move hC5 k5)
   clear hcp hC5 k5 sr;obtain⟨k0,hk0⟩:∃k0,(pk a.1 24).1=k0:=⟨_,rfl⟩
   obtain⟨ck,hk1⟩:∃ck,(pk a.1 24).2=ck:=⟨_,rfl⟩
   have hkE:pk a.1 24=(k0,ck):=by rw [←hk0,←hk1]
   rw [hk1] at n3' st5;rw [hk0] at n1' n2' ⊢;clear hk0 hk1;obtain⟨code,hcode⟩:∃code,code=(f.getD 0 (aag,0)).1:=⟨_,rfl⟩
   have HCO:Hid _:=hcode;clear hcode
   go_cut [] from 75 (fun wc=>StG Z w wc q p b1 f (.slice (some ⟨gF,oF,none⟩) f.length cF) (Bf code (k0,ck) a.2).1 (Bf code (k0,ck) a.2).2)
   case first =>
      have row3:∀(x y z:Int) (W:World),bf (W.alloc (.cells #[.int .i64 x,.int .i64 y,.int .i64 z] 3)) (fun b=>b=W.heap.size) (iP [x,y,z]) (.slice (some ⟨W.heap.size,0,none⟩) 3 3):=fun x y z W =>
       TV _ [x,y,z] 3 (aad _) 3 (bF _ rfl) (fun i v hi=>by
        match i,hi with
        | 0,hi=>cases hi;rfl
        | 1,hi=>cases hi;rfl
        | 2,hi=>cases hi;rfl)
      have am3:∀{W:World} {cu:Cur} {C:Nat} {s:Stg} {A:Option Addr} {n k:Nat} {A':Option Addr} {n' k':Nat} (x y z:Int),StP Z w W q p b1 f (.slice (some ⟨gF,oF,none⟩) f.length cF) cu s (.slice A n k) (.slice A' n' k')→cu.ok C→C≤100000000 →
        Calls Tryz.prog 64 #[.pointer (some ⟨q,0,none⟩),.slice (some ⟨W.heap.size,0,none⟩) 3 3] (W.alloc (.cells #[.int .i64 x,.int .i64 y,.int .i64 z] 3)) fun e w'=>e = .returned (.int .i64 (am cu [x,y,z]).1)∧StP Z w w' q p b1 f (.slice (some ⟨gF,oF,none⟩) f.length cF) (am cu [x,y,z]).2 s (.slice A n k) (.slice A' n' k'):=fun {W cu C s A n k A' n' k'} x y z hst hcu hC=>by
       have hsa:=hst.below (bg W (.cells #[.int .i64 x,.int .i64 y,.int .i64 z] 3));refine(Pa (Fa:=fun b=>b=W.heap.size) hcu (by omega) (l:=[x,y,z]) (by simp) (by simp) hsa.cur hsa.hS hsa.hZ (fun b hb=>?_) (row3 x y z W)).mono ?_
       ·have hr:=hst.hS w.heap.size (.inr (.inl rfl))
        have hq1:=hst.qlt;refine⟨by simp;omega,by omega,fun h=>?_,fun hz=>?_⟩
        ·have:=hst.hS b h
         omega
        ·have:=hst.zlt b hz
         omega
       ·rintro e w' ⟨rfl,hC',k'⟩
        exact⟨rfl,hsa.move hC' k'⟩
      by_cases q0:k0=0
      ·subst q0
       have hfin:Bf code (0,ck) a.2=((oo ck zz2).2,(a.2.1,a.2.2++[(oo ck zz2).1])):=rfl;have hst60:=hxs.st;have hOw:=Dr (show a.2.2.length≤1048576 by omega) (iV st5.set.os) (fun b hb=>hb);obtain⟨⟨d0,d1⟩,-,-⟩:=ci st5.box;have HFI:Hid _:=hfin;have HN3:Hid _:=n3';have HST:Hid _:=st5;have hnew6:∀{u:Value} {w6:World},(∀b,bh u b→w5.heap.size≤b∧b<w6.heap.size)→∀b,bh u b→b1≤b∧¬fy w.heap.size p (.slice A n k) (.slice A' n' k') b:=fun {u w6} l6 b hb=>⟨by have:=(l6 b hb).1;have:=HST.out.b1w;omega,fun hm=>by have:=(l6 b hb).1;have:=HST.out.hS b hm;omega⟩
       have hll:a.2.2.length+[(oo ck zz2).1].length≤1048576:=by simp;omega
       clear hfin n3'
       go_wp2_with (first
        | (go_at_call 89;refine hOw.mono ?_;rintro e w6 ⟨A6,n6,k6,rfl,o6,l6,b6⟩;have hof:=TM HST.out HN3.out (by omega) b6 o6 l6)
        | (go_at_call 90;refine hof.mono ?_;rintro e w8 ⟨rfl,st8,o8,hC8,hs8⟩;have o8a:=ie o8 (bg w8 (.cells #[.string (oo ck zz2).1] 9)))
        | (at_builtin;apply kX _ rfl _ _ rfl a.2.2 [(oo ck zz2).1] (.slice A6 n6 k6) (.slice (some ⟨w8.heap.size,0,none⟩) 1 1);(case hs=>go_loud (simp [go_sem];done));(case hx=>go_loud (simp [go_sem];done));(case hown=>exact o8a);(case hsrc=>exact Mx w8 _);(case hlen=>exact hll);intro A9 n9 k9 W9 o9 l9 k9x;have hl9:∀b,bh (.slice A6 n6 k6) b→b1≤b∧¬fy w.heap.size p (.slice A n k) (.slice A' n' k') b:=hnew6 l6;go_loud (have hfin9:=Gc st8 hl9 (lE o8) hC8 o9 l9 k9x);go_loud (obtain⟨⟨e0,e1⟩,e2,e3⟩:=ci hfin9.2);have HF9:Hid _:=hfin9.1))
       go_meet
       case rel =>
        rw [HFI.out];exact⟨_,_,_,_,_,_,HF9.out⟩
      by_cases q1:k0=1
      ·subst q1
       have hfin:Bf code (1,ck) a.2=((pk ck 2).2,(a.2.1,Hv (60+(pk ck 2).1).toNat a.2.2 code)):=rfl;have hst60:=hxs.st;obtain⟨-,p1,p2,p3⟩:=Hr (n:=2) n3' (by omega) (by omega);have p4:(pk ck 2).1<2:=by omega
       have hcp:=CH (n:=2) n3' (by omega) (by omega) st5.cur st5.hS st5.hZ;obtain⟨N,hN⟩:∃N:Nat,60+(pk ck 2).1=N:=⟨(60+(pk ck 2).1).toNat,by omega⟩
       rw [hN,aaH] at hfin
       go_wp2_with (go_at_call 65;refine hcp.mono ?_;rintro e w6 ⟨rfl,hC6,k6⟩;have st6:=st5.move hC6 k6)
       have hN5:60≤N∧N≤61:=by omega
       clear hcp hC6 k6
       go_loopw [] (fun wr=>∃(l:List ByteArray) (A1:Option Addr) (n1 k1:Nat),l.length≤N∧Hv N l code=Hv N a.2.2 code∧StP Z w wr q p b1 f (.slice (some ⟨gF,oF,none⟩) f.length cF) (pk ck 2).2 (a.2.1,l) (.slice A n k) (.slice A1 n1 k1)) (fun wr=>N - lenSt wr p)
       case atStart=>exact⟨a.2.2,_,_,_,by omega,rfl,st6⟩
       case round =>
        obtain⟨l,A1,n1,k1,hl,hpad,sr6⟩:=hrel;obtain⟨hla,hln⟩:=sr6.lenSt;replace hln:n1=l.length:=hln;subst hln;obtain⟨⟨d0,d1⟩,l0,l1⟩:=ci sr6.box;by_cases hlt:l.length<N
        ·have hlt':(l.length:Int)<(N:Int):=by omega
         have hpadH:Hid _:=hpad;have hlaH:Hid _:=hla;have hflN:0<f.length:=aaA.2 hf0;have hflp:(0:Int)<(f.length:Int):=by omega
         clear hpad hla
         go_upto_region 15 with fail
         have st:=sr6.below (bM wr);have fc:=(st.font_cell hf0).1;have hgFb:=(st.font_cell hf0).2;rw [←HCO.out] at fc;have hSd:=ZM (ci st.box).1 fc;refine ov (l:=[_,_,_,_,_,_,_,_,_]) (o:=_) (S:=fun w'=>(w'.cell? ⟨p,0,none⟩=some (.slice A n k)∧w'.cell? ⟨p,1,none⟩=some (.slice A1 l.length k1))∧w'.cell? ⟨gF,oF,none⟩=some (.string code)) (by kernel_rfl) (by kernel_rfl) hSd (fun hHeld=>?_)
         change wpAnyH _ _ _ _ _ 9 (aaj 9 false) _ _
         generalize wr.drew=W0 at *;refine wpAnyH_take (i:=0) (oi:=_) (v:=?vf1) rfl (by kernel_rfl) (by kernel_rfl) (by kernel_rfl) (fun _ _ _ h=>h) (ZW ⟨by rfl,?yf1⟩) hHeld ?rf1
         case yf1=>(intro w0 hSw;obtain⟨hSw0,hSw1⟩:=hSw;go_simp;(try rw [if_pos hflN]);try with_reducible rfl)
         (try simp only [ZJ,ZE,ZF,ZG])
         refine wpAnyH_take (i:=1) (oi:=_) (v:=?vf2) rfl (by kernel_rfl) (by kernel_rfl) (by kernel_rfl) (fun _ _ _ h=>h) (ZW ⟨by rfl,?yf2⟩) hHeld ?rf2
         case yf2=>(intro w0 hSw;obtain⟨hSw0,hSw1⟩:=hSw;go_simp;(try rw [if_pos hflN]);try with_reducible rfl)
         (try simp only [ZJ,ZE,ZF,ZG])
         refine wpAnyH_take (i:=2) (oi:=_) (v:=?vf3) rfl (by kernel_rfl) (by kernel_rfl) (by kernel_rfl) (fun _ _ _ h=>h) (ZW ⟨by rfl,?yf3⟩) hHeld ?rf3
         case yf3=>(intro w0 hSw;obtain⟨hSw0,hSw1⟩:=hSw;go_simp;(try rw [if_pos hflN]);try with_reducible rfl)
         (try simp only [ZJ,ZE,ZF,ZG])
         refine wpAnyH_take (i:=3) (oi:=_) (v:=?vf4) rfl (by kernel_rfl) (by kernel_rfl) (by kernel_rfl) (fun _ _ _ h=>h) (ZW ⟨by rfl,?yf4⟩) hHeld ?rf4
         case yf4=>(intro w0 hSw;obtain⟨hSw0,hSw1⟩:=hSw;go_simp;(try rw [if_pos hflN]);try with_reducible rfl)
         (try simp only [ZJ,ZE,ZF,ZG])
         refine wpAnyH_take (i:=4) (oi:=_) (v:=?vf5) rfl (by kernel_rfl) (by kernel_rfl) (by kernel_rfl) (fun _ _ _ h=>h) (ZW ⟨by rfl,?yf5⟩) hHeld ?rf5
         case yf5=>(intro w0 hSw;obtain⟨hSw0,hSw1⟩:=hSw;go_simp;(try rw [if_pos hflN]);try with_reducible rfl)
         (try simp only [ZJ,ZE,ZF,ZG])
         refine wpAnyH_take (i:=5) (oi:=_) (v:=?vf6) rfl (by kernel_rfl) (by kernel_rfl) (by kernel_rfl) (fun _ _ _ h=>h) (ZW ⟨by rfl,?yf6⟩) hHeld ?rf6
         case yf6=>(intro w0 hSw;obtain⟨hSw0,hSw1⟩:=hSw;go_simp;(try rw [if_pos hflN]);try with_reducible rfl)
         (try simp only [ZJ,ZE,ZF,ZG])
         refine wpAnyH_ready (rs:=[6]) (by kernel_rfl) (by simp) ?_
         refine ZP (o:=_) rfl (fun K hK=>?_) ?_
         ·go_simp
          have stb:=st.below (bg W0 (.cells #[.string code] 9));have fc2:=kv (o:=.cells #[.string code] 9 (0,0)) fc;refine hK.out _ _ ?_ (fun hHeld=>?_)
          ·exact⟨(ci stb.box).1,fc2⟩
          clear hK K
          (try simp only [ZJ,ZE,ZF,ZG])
          refine wpAnyH_ready (rs:=[7]) (by kernel_rfl) (by simp) ?_
          refine ZP (o:=_) rfl (fun K hK=>?_) ?_
          ·refine Dk _ rfl _ _ rfl l [code] (.slice A1 l.length k1) (.slice (some ⟨W0.heap.size,0,none⟩) 1 1) (by simp [go_sem];done) (by simp [go_sem];done) stb.set.os (Mx W0 code) (by simp;omega) ?_
           intro A9 n9 k9 w9 o9 l9 k9x;have hst9:=stb.sets (l:=l++[code]) k9x o9 l9;have hb9:=k9x.some stb.box stb.np.2;have fc9:w9.cell? ⟨gF,oF,none⟩=some (.string code):=by
            have hgl:=stb.b1w;have h1:w9.heap[gF]?=(W0.alloc (.cells #[.string code] 9)).heap[gF]?:=k9x.block gF (by omega) fun h=>by have:=stb.set.gs _ h;omega
            simp only [aaU] at fc2 ⊢;rw [h1];exact fc2
           simp only [ZJ,ZE,ZF,ZG];refine hK.out _ _ ?_ (fun hHeld=>?_)
           ·exact⟨(ci hb9).1,fc9⟩
           clear hK K
           (try simp only [ZJ,ZE,ZF,ZG])
           refine wpAnyH_take (i:=8) (oi:=_) (v:=?vf7) rfl (by kernel_rfl) (by kernel_rfl) (by kernel_rfl) (fun _ _ _ h=>h) (ZW ⟨by rfl,?yf7⟩) hHeld ?rf7
           case yf7=>(intro w0 hSw;obtain⟨hSw0,hSw1⟩:=hSw;go_simp;(try rw [if_pos hflN]);try with_reducible rfl)
           (try simp only [ZJ,ZE,ZF,ZG])
           refine mL (by kernel_rfl) ?_
           obtain⟨⟨d0,d1⟩,d2,d3⟩:=ci hb9
           go_simp
           go_wp2
           refine⟨⟨l++[code],A9,n9,k9,by simp;omega,?_,hst9⟩,?_⟩
           ·rw [←hpadH.out]
            exact RT hlt
           ·rw [hst9.lenSt.1,hlaH.out]
            show N - (l++[code]).length<N - l.length
            simp;omega
          exact ZT
         exact ZT
        ·have hlt':¬(l.length:Int)<(N:Int):=by omega
         have hle:N - l.length=0:=by omega
         have hpadH:Hid (l=Hv N a.2.2 code):=by
          have e:Hv N l code=l:=by unfold Hv;rw [hle];simp
          exact e.symm.trans hpad
         clear hpad hla
         go_wp2
         go_meet
         case rel =>
          rw [hfin,←hpadH.out];exact⟨_,_,_,_,_,_,sr6⟩
      by_cases q2:k0=2
      ·subst q2
       have hfin:Bf code (2,ck) a.2=((am ck [9999,10000,9998]).2,(a.2.1.set 0 (DK (a.2.1.getD 0 zBx) (am ck [9999,10000,9998]).1),a.2.2)):=rfl;have hl0:=hxs.ln;obtain⟨g1,o1,hA1,hn1,-⟩:=Td st5.set.ob (i:=0) (by omega);subst hA1 hn1;have hlp:0<a.2.1.length:=by omega
       go_upto_region 17 with fail
       have st:=st5.below (bM w5);have hSd:=(ci st.box).1;refine ov (l:=[_,_,_,_,_,_,_]) (o:=_) (S:=fun w'=>w'.cell? ⟨p,0,none⟩=some (.slice (some ⟨g1,o1,none⟩) a.2.1.length k)∧w'.cell? ⟨p,1,none⟩=some (.slice A' n' k')) (by kernel_rfl) (by kernel_rfl) hSd (fun hHeld=>?_)
       change wpAnyH _ _ _ _ _ 7 (aaj 7 false) _ _
       generalize w5.drew=W0 at *;refine wpAnyH_take (i:=0) (oi:=_) (v:=?ve1) rfl (by kernel_rfl) (by kernel_rfl) (by kernel_rfl) (fun _ _ _ h=>h) (ZW ⟨by rfl,?ye1⟩) hHeld ?re1
       case ye1=>(intro w0 hSw;obtain⟨hSw0,hSw1⟩:=hSw;go_simp;(try rw [if_pos hlp]);try with_reducible rfl)
       (try simp only [ZJ,ZE,ZF,ZG])
       refine wpAnyH_take (i:=1) (oi:=_) (v:=?ve2) rfl (by kernel_rfl) (by kernel_rfl) (by kernel_rfl) (fun _ _ _ h=>h) (ZW ⟨by rfl,?ye2⟩) hHeld ?re2
       case ye2=>(intro w0 hSw;obtain⟨hSw0,hSw1⟩:=hSw;go_simp;(try rw [if_pos hlp]);try with_reducible rfl)
       (try simp only [ZJ,ZE,ZF,ZG])
       refine wpAnyH_take (i:=2) (oi:=_) (v:=?ve3) rfl (by kernel_rfl) (by kernel_rfl) (by kernel_rfl) (fun _ _ _ h=>h) (ZW ⟨by rfl,?ye3⟩) hHeld ?re3
       case ye3=>(intro w0 hSw;obtain⟨hSw0,hSw1⟩:=hSw;go_simp;(try rw [if_pos hlp]);try with_reducible rfl)
       (try simp only [ZJ,ZE,ZF,ZG])
       refine wpAnyH_ready (rs:=[3]) (by kernel_rfl) (by simp) ?_
       refine ZP (o:=_) rfl (fun K hK=>?_) ?_
       ·go_simp
        have sta:=st.below (bg W0 (.cells #[.int .i64 9999,.int .i64 10000,.int .i64 9998] 3));refine hK.out _ _ ?_ (fun hHeld=>?_)
        ·exact(ci sta.box).1
        clear hK K
        (try simp only [ZJ,ZE,ZF,ZG])
        refine wpAnyH_ready (rs:=[4]) (by kernel_rfl) (by simp) ?_
        refine ZP (o:=_) rfl (fun K hK=>?_) ?_
        ·go_simp
         go_at_call 64
         refine(am3 9999 10000 9998 st n3' (by omega)).mono ?_
         rintro e w6 ⟨rfl,st6⟩
         go_wp2_with fail
         refine hK.out _ _ ?_ (fun hHeld=>?_)
         ·exact(ci st6.box).1
         clear hK K
         (try simp only [ZJ,ZE,ZF,ZG])
         refine wpAnyH_take (i:=5) (oi:=_) (v:=?ve4) rfl (by kernel_rfl) (by kernel_rfl) (by kernel_rfl) (fun _ _ _ h=>h) (ZW ⟨by rfl,?ye4⟩) hHeld ?re4
         case ye4=>(intro w0 hSw;obtain⟨hSw0,hSw1⟩:=hSw;go_simp;(try rw [if_pos hlp]);try with_reducible rfl)
         (try simp only [ZJ,ZE,ZF,ZG])
         refine wpAnyH_take (i:=6) (oi:=_) (v:=?ve5) rfl (by kernel_rfl) (by kernel_rfl) (by kernel_rfl) (fun _ _ _ h=>h) (ZW ⟨by rfl,?ye5⟩) hHeld ?re5
         case ye5=>(intro w0 hSw;obtain⟨hSw0,hSw1⟩:=hSw;go_simp;(try rw [if_pos hlp]);try with_reducible rfl)
         (try simp only [ZJ,ZE,ZF,ZG])
         refine mL (by kernel_rfl) ?_
         obtain⟨-,x3,fz,hset⟩:=WA st6.set.ob hlp
         go_simp
         go_wp2
         go_meet
         case rel =>
          rw [hfin];exact⟨_,_,_,_,_,_,st6.row rfl (hset _)⟩
        exact ZT
       exact ZT
      have hfin:Bf code (k0,ck) a.2=(ck,a.2):=by
       unfold Bf;rw [if_neg q0,if_neg q1,if_neg q2]
      go_wp2
      go_meet
      case rel =>
       rw [hfin];exact⟨_,_,_,_,_,_,st5⟩
   case rest =>
      obtain⟨A,n,k,A',n',k',st⟩:=hcut;have hsh:Bf code (k0,ck) a.2=se c:=by
       rw [HSE.out,←hkE,HCO.out,hdoH.out]
      generalize Bf code (k0,ck) a.2=z at *;have HSH:Hid _:=hsh;clear hkE hsh;obtain⟨⟨d0,d1⟩,-,-⟩:=ci st.box
      go_upto_region 18 with fail
      go_still_tail 3,(by kernel_rfl)
      change wpList _ _ _ _ _ wc.drew
      have st1:=st.below (bM wc);generalize wc.drew=W9 at *;obtain⟨⟨e0,e1⟩,e2,e3⟩:=ci st1.res;obtain⟨s1,s2⟩:=Rz st1.res (aad _) (.slice A n k) (.slice A' n' k');obtain⟨r1,r2,r3,r4⟩:=st1.done (.slice A n k) (.slice A' n' k');have hbw:=st1.b1w;have HR:Hid _:=ZM s1 (ZM r1 (ZM r2 (ZM r3 r4)));clear s1 s2 r1 r2 r3 r4
      go_wp2
      obtain⟨s1,r1,r2,r3,r4⟩:=HR.out
      (try simp only [aap,Exit.then])
      refine bodyPost_ret (RM rfl rfl rfl s1 rfl) rfl ?_
      rw [←HSH.out,←HFE.out];exact⟨_,_,_,rfl,aK (fun b hb=>⟨by omega,by simp [ZV];omega⟩) (fun _ _=>rfl) r1,r2.base (by omega),r3,r4⟩
end Go.Proofs.YtccaheogjpfhjaaGreat

namespace Go.Proofs.YtccaheogjpfhjaaGreat
open Go Go.Proofs Go.V Go.RowKit
set_option maxRecDepth 100000
structure OkT (x:Stg):Prop where
 ok:kz x.1
 ln:1≤x.1.length∧x.1.length≤12
 st:x.2.length≤62
theorem OkS.toT {x:Stg} (h:OkS x):OkT x:=⟨h.ok,h.ln,by have:=h.st;omega⟩
theorem Uj (f:List Srt):∀(m:Nat) (a:Cur × Stg) (B:Nat),a.1.ok B→B+20*m≤700000000→OkS a.2→(wdS f m a).1.ok (B+20*m)∧OkS (wdS f m a).2
 | 0,a,B,h,hB,hx=>⟨h.mono (by omega),hx⟩
 | m+1,a,B,h,hB,hx=>by
  have hw:=(UF h (by omega)).2.2;obtain⟨g1,g2⟩:=Uj f m ((wo a.1).2,(dsR f a.2.1 a.2.2 (wo a.1).1).getD a.2) (B+20) hw (by omega) (Wh hx);exact⟨g1.mono (by omega),g2⟩
theorem XE {s:ByteArray} {k:Int × Cur} {x:Stg} {B:Nat} (hk:k.2.ok B) (hB:B≤800000000) (hx:OkS x):(Bf s k x).1.ok (B+2)∧OkT (Bf s k x).2:=by
 unfold Bf;have hs:=hx.st;have hl:=hx.ln;split
 ·obtain⟨-,-,h⟩:=WX (l:=zz2) hk (by omega) (by simp [zz2]) (by simp [zz2])
  exact⟨h,hx.ok,hx.ln,by simp;omega⟩
 split
 ·obtain⟨-,h1,h2,h⟩:=Hr (n:=2) hk (by omega) (by omega)
  refine⟨h,hx.ok,hx.ln,?_⟩
  simp [Hv];omega
 split
 ·obtain⟨-,-,h⟩:=Xf (l:=[9999,10000,9998]) hk (by omega) (by simp) (by simp)
  refine⟨h,⟨by simp;have:=hx.ok.1;omega,fun y hy=>?_⟩,by simpa using hl,by simp only;omega⟩
  rcases List.mem_or_eq_of_mem_set hy with hy | rfl
  ·exact hx.ok.2 y hy
  ·have h0:x.1.getD 0 zBx=x.1[0]'(by omega):=by rw [ZZ,ZI (by omega)];rfl
   rw [h0];exact hx.ok.2 x.1[0] (aaw _)
 ·exact⟨hk.mono (by omega),hx.toT⟩
theorem YI {c:Cur} {B:Nat} (h:c.ok B) (hB:B≤100000000):(se c).1.ok (B+300)∧OkT (se c).2∧FIn (fo c).1:=by
 obtain⟨-,f2,f3,f4⟩:=UT h (by omega);obtain⟨-,b2,b3,b4,b5⟩:=Tr f4 (by omega) f2 f3;have hc3:(se0 c).2.ok (B+200):=b5.mono (by omega);have hok0:OkS ((se0 c).1,[]):=by
  have hb2:dY (se0 c).1=true:=b2;have hb3:(se0 c).1.length≤12:=b3;have hg:=Ck.1 hb2;have hl1:=hg.2.2.2.1;exact⟨⟨by simp only;omega,fun x hx=>by obtain⟨i,hi,rfl⟩:=aaP hx;have hi2:i<(se0 c).1.length:=hi;have h3:=hg.1 i hi2;unfold tQ at h3;simp only [ZN] at h3;have h4:=kE h3.1.1.1;simp only at h4 ⊢;omega⟩,⟨by show 1≤(se0 c).1.length;omega,hb3⟩,by simp⟩
 obtain⟨-,n1,n2,n3⟩:=Hr (n:=4) hc3 (by omega) (by omega);have hm:(pk (se0 c).2 4).1.toNat≤3:=by omega
 obtain⟨w1,w2⟩:=Uj (fo c).1 (pk (se0 c).2 4).1.toNat ((pk (se0 c).2 4).2,((se0 c).1,[])) (B+202) (n3.mono (by omega)) (by omega) hok0;have w1':(se1 c).1.ok (B+262):=Cur.ok.mono w1 (by omega);obtain⟨-,-,-,p3⟩:=Hr (n:=24) w1' (by omega) (by omega);obtain⟨g1,g2⟩:=XE (s:=((fo c).1.getD 0 (aag,0)).1) (k:=pk (se1 c).1 24) p3 (by omega) w2;refine⟨g1.mono (by omega),g2,by omega,fun x hx=>?_⟩
 have hm:x.1∈L12:=f3.subset (List.mem_map_of_mem (f:=fun y=>y.1) hx);have:=kE (ub.1 _ hm);omega
theorem OT {α:Type} {f:α→D} (hf:∀x y,f x=f y→x=y):∀(l m:List α),l.map f=m.map f→l=m
 | [],[],_=>rfl
 | x::l,y::m,h=>by
  simp only [List.map_cons,aa0] at h;rw [hf _ _ h.1,OT hf l m h.2]
 | [],_::_,h=>by simp at h
 | _::_,[],h=>by simp at h
theorem XG (x y:Int) (h:U x=U y):x=y:=by
 injection h with h;injection h
theorem Ro {c d:Cur} (h:aR c=aR d):c=d:=by
 obtain⟨a1,a2,a3⟩:=c;obtain⟨b1,b2,b3⟩:=d;simp only [aR,gw,D.agg.injEq,aa0,D.arr.injEq,D.v.injEq,aaf.injEq,and_true,true_and] at h;obtain⟨h1,h2,h3⟩:=h;have e1:=OT XG _ _ h1;have e2:a2=b2:=by omega
 subst e1 e2 h3;rfl
theorem Uh {W:World} {F:Nat→Prop} {B:Nat} {vB vS:Value} {x:Stg} (h:SetA W B vB vS x) (h1:∀b,bh vB b→F b) (h2:∀b,bh vS b→F b):bf W F (bR x) (.agg #[vB,vS]):=by
 have r1:bf W F (bxs x.1) vB:=vL h.ob (fun _ h=>h.elim) h1;have r2:bf W F (txs x.2) vS:=vL h.os (fun _ h=>h.elim) h2;obtain⟨A1,n1,k1,rfl⟩:=fe h.ob;obtain⟨A2,n2,k2,rfl⟩:=fe h.os;refine⟨[.slice A1 n1 k1,.slice A2 n2 k2],rfl,?_⟩
 simp only [RepC];exact⟨aA.2 ⟨[.slice A1 n1 k1],[.slice A2 n2 k2],rfl,(gB rfl).1 r1,aA.2 ⟨[.slice A2 n2 k2],[],rfl,(gB rfl).1 r2,aW.2 rfl⟩⟩,rfl⟩
open Classical in
def cU (ds:List D):Option Out:=if h:∃c:Cur,ds=[aR c]∧c.ok 100000 then some (.ret [srs (fo (aaK h)).1,bR (se (aaK h)).2] [aR (se (aaK h)).1]) else none
theorem KL {c:Cur} (h:c.ok 100000):cU [aR c]=some (.ret [srs (fo c).1,bR (se c).2] [aR (se c).1]):=by
 have hx:∃d:Cur,[aR c]=[aR d]∧d.ok 100000:=⟨c,rfl,h⟩
 unfold cU;rw [dif_pos hx];have:=Classical.choose_spec hx;have e:=Ro (List.cons.inj this.1).1;rw [←e]
@[reducible] def mS:FS:={pm:=[.box 3 2 true],rm:=[.dat 1,.dat 1],f:=cU}
theorem tO:aw gl0 Tryz.prog 42 mS:=by
 refine kR (aaz Tryz.func42 (by kernel_rfl) rfl) fun ds rs us hd args w F ow hg ha hF hO=>?_
 replace hd:cU ds=some (.ret rs us):=hd;have hc:∃c:Cur,ds=[aR c]∧c.ok 100000:=by
  unfold cU at hd;split at hd
  ·rename_i h
   exact h
  ·cases hd
 obtain⟨c,rfl,hok⟩:=hc;rw [KL hok] at hd;simp only [aaG,Out.ret.injEq] at hd;obtain⟨rfl,rfl⟩:=hd;obtain⟨l⟩:=args
 match l,ha with
 | [y],⟨ha,_⟩ =>
  rcases ha with ha | ha
  ·cases ha
  obtain⟨l,us,q,e,h1,rfl,h3,h4,h5,h6,h7⟩:=ha;have hql:=(aaE.1 h3).1;have hFq:∀b,F b→b≠q:=fun b hb e=>by
   have:=(hF b hb).2;rw [e,h7] at this;cases this
  have hcv:eh (fun b=>b<w.heap.size∧¬F b∧b≠q) w q (fun _=>False) (aR c):=⟨F,⟨l,us,q,e,h1,rfl,h3,h4,h5,h6,rfl⟩,fun b hb=>⟨(hF b hb).1,hFq b hb,fun h=>h,fun h=>h.2.1 hb⟩⟩
  refine(La c 100000 hok (by omega) w q (fun b hb=>hb.1) hcv).mono ?_
  rintro e' w' ⟨yF,vB,vS,rfl,hy,hs,⟨F1,hb1,hF1⟩,hk⟩;have hlB:=lE hs.ob;have hlS:=lE hs.os;refine⟨_,rfl,fun b=>F1 b∨(w.heap.size≤b∧b<w'.heap.size)∨F b,fun _=>none,[yF,.agg #[vB,vS]],rfl,⟨hk.os,hk.tape,hk.output,hk.size,fun b hb hn=>hk.block b hb fun e=>?_,fun b hb=>.inr (.inr hb),fun b hb=>?_,(fun b j h=>by cases h),rfl,rfl,fun j=>?_,?_⟩⟩
  ·subst e
   have:(some 0:Option Nat)=none:=h7.symm.trans hn;cases this
  ·refine⟨?_,?_,rfl⟩
   ·rcases hb with hb | hb | hb
    ·obtain⟨g1,g2,g3,g4⟩:=hF1 b hb
     by_cases hlt:b<w.heap.size
     ·by_cases hfb:F b
      ·exact .inl hfb
      ·exact absurd ⟨hlt,hfb,g2⟩ g4
     ·exact .inr (by omega)
    ·exact .inr hb.1
    ·exact .inl hb
   ·rcases hb with hb | hb | hb
    ·exact(hF1 b hb).1
    ·exact hb.2
    ·exact aae (hF b hb).1 hk.size
  ·match j with
   | 0=>exact .inr (aK (fun b hb=>⟨.inr (.inl hb),hb.1⟩) (fun _ _=>rfl) hy)
   | 1=>exact .inr (Uh hs (fun b hb=>⟨.inr (.inl ⟨hs.gb b hb,hlB b hb⟩),hs.gb b hb⟩) (fun b hb=>⟨.inr (.inl ⟨hs.gs b hb,hlS b hb⟩),hs.gs b hb⟩))
   | j+2=>exact .inl rfl
  ·refine⟨sf _,.inr (gI (F:=F1) (own:=fun g=>g=q) (fun b hb=>.inl hb) (fun _ _=>rfl) (fun g _ _=>⟨trivial,rfl⟩) hb1),trivial⟩
end Go.Proofs.YtccaheogjpfhjaaGreat

namespace Go.Proofs.YtccaheogjpfhjaaGreat
open Go.V
set_option maxRecDepth 100000
@[reducible] def Yz:TI:={agg:=true,n:=4,zero:=[.v (.bool false),.v (.int .i64 0),.arr 1 [],.v (.int .i64 0)],fs:=[(0,4),(1,3),(2,34),(3,3)]}
@[reducible] def xD:Cx:={K:=[Yc,Y,Y,Y,.no,.box 3 0 false,.no,.no,Yb,Y,Y,.box 4 1 false,Yc,Y,Y,Y,Yb,Yr 11,Y,Y,Yr 11,Yb,Yr 11,Y],T:=[(3,ty3),(4,ty4),(34,eO),(53,qm),(140,Yz)],S:=[(106,qr)],H:=[],res:=[.tmp 8,.tmp 9,.tmp 10],ios:=[],G:=gl0}
def jG:List D→Option Out:=be xD Tryz.f57
@[reducible] def qv:FS:={pm:=[Yc,Y,Y,Y],rm:=[Yb,Y,Y],f:=jG}
theorem xW:aw gl0 Tryz.prog 57 qv:=aC (c:=xD) (ab Ji an) Tryz.func57 rfl rfl (by kernel_rfl)
@[reducible] def pj:Cx:={K:=[Yc,Y,Y,.no,.box 3 0 false,.no,Yb,Y,Y,Yc,Y,Y,Y,Y,Yc,Y,Y,.tup [Yb,Y,Y],Yb,Y,Y],T:=[(3,ty3),(34,eO),(53,qm)],S:=[(56,oO),(57,qv)],H:=[],res:=[.tmp 6,.tmp 7,.tmp 8],ios:=[],G:=gl0}
def iH:List D→Option Out:=be pj Tryz.f23
@[reducible] def pG:FS:={pm:=[Yc,Y,Y],rm:=[Yb,Y,Y],f:=iH}
theorem zH:aw gl0 Tryz.prog 23 pG:=aC (c:=pj) (ab uR (ab xW an)) Tryz.func23 rfl rfl (by kernel_rfl)
@[reducible] def kx:Cx:={K:=[Yc,.no,Yb,.box 3 0 false,Y,Yb,Yr 15,Yb,.box 3 0 false,Y,Yb,Y,Y,Yc,Yc,.box 3 2 false,.tup [Yb,Y,Y],Yr 15,.tup [Yb,Y,Y],Yb,Y,Y,Yb,Y,Y,Y,Y,Yr 15,Y,Y,.tup [Yb,Y,Y],Yb,Y,Y,.tup [Yb,Y,Y],Yb,Y,Y,Y,Yb,Y,Y,Yb,Yb,Y,Y,Yr 15,Yb,Yb],T:=[(3,ty3),(22,Pm),(34,eO),(53,qm),(61,UC),(63,Se)],S:=[(25,cH),(55,eI),(56,oO),(57,qv),(58,lA)],H:=[],res:=[.tmp 2,.cell 3 53,.tmp 4,.tmp 5],ios:=[],G:=gl0}
def eH:List D→Option Out:=be kx Tryz.f20
@[reducible] def kn:FS:={pm:=[Yc],rm:=[Yb,Y,Y,Yb],f:=eH}
theorem rL:aw gl0 Tryz.prog 20 kn:=aC (c:=kx) (ab cY (ab rP (ab uR (ab xW (ab tq an))))) Tryz.func20 rfl rfl (by kernel_rfl)
@[reducible] def oR:Cx:={K:=[Yc,.no,Yb,.box 2 1 false,Y,Yr 10,Yb,.box 2 1 false,Yc,Yc,.box 3 2 false,.tup [Yb,Yb],Yr 10,.tup [Yb,Yb],Yb,Yb,Yr 10,Y,Yr 10,Yb,Yb,Yb,Yr 10,Y],T:=[(3,ty3),(22,Pm),(40,FT),(41,ql),(42,pd),(44,Io),(61,UC),(63,Se)],S:=[(25,cH),(42,mS),(43,mJ),(44,mR)],H:=[],res:=[.tmp 2,.cell 3 44,.tmp 4],ios:=[],G:=gl0}
def gH:List D→Option Out:=be oR Tryz.f14
@[reducible] def oQ:FS:={pm:=[Yc],rm:=[Yb,Yb,Y],f:=gH}
theorem yN:aw gl0 Tryz.prog 14 oQ:=aC (c:=oR) (ab cY (ab tO (ab vf (ab ua an)))) Tryz.func14 rfl rfl (by kernel_rfl)
@[reducible] def pS:Cx:={K:=[Y,Y,Yc,Yc,.no,.no,.no,.no,Y,Y,Yb,Y,.tup [Yb,Y],Y,Y,Yc,Yc,.tup [Yb,Y],Yb,Y,Y,Y,Yb,Y],T:=[],S:=[(33,kY),(34,pX)],H:=[],res:=[.tmp 8,.tmp 9],ios:=[],G:=gl0}
def iu:List D→Option Out:=be pS Tryz.f8
@[reducible] def pC:FS:={pm:=[Y,Y,Yc,Yc],rm:=[Y,Y],f:=iu}
theorem As:aw gl0 Tryz.prog 8 pC:=aC (c:=pS) (ab Fe (ab Aa an)) Tryz.func8 rfl rfl (by kernel_rfl)
@[reducible] def zB:Cx:={K:=[Yc,Yc,.no,.no,Y,Y,Y,Yb,Yb,Y,Yb,Y,Y,Y,Yb,Yb,Y,Yb,Y,Y,Y,Y,Y,Y,Y,Y,Y,Yb,.box 2 1 false,Y,.box 2 1 false,Y,.box 2 1 false,Y,.box 2 1 false,Y,Yb,.box 3 0 false,Y,Yb,Y,Y,Yb,Y,Y,Yb,Y,Y,Yc,Y,Yc,Y,Y,Y,.tup [Y,Y,Yo 2 0],Yc,.tup [Y,Y,Yo 2 0],Y,Y,Yb,.tup [Yb,Y],Y,Y,Yb,.tup [Yb,Y],Yb,Y,.tup [Yo 4 0,Y],Y,Y,Yb,.tup [Yo 4 0,Y],Yb,Y,Y,Y,Y,Y,Yb,Yb,Y,Y,Y,Y,.tup [Y,Y],Y,Y,Yb,Yb,.tup [Y,Y],Y,Y,Y,Y,Y,Y,Y,Y,Yc,Yb,.tup [Yo 1 0,Y],Yb,.tup [Yo 1 0,Y],Yb,Y,.tup [Yo 1 0,Y],Yb,.tup [Yo 1 0,Y],Yb,Y,Y,Y,Y,Y,Yb,Yb,Y,Y,Y,Yb,Y,Y,Y,Y,Yb,Y,.tup [Y,Y,Y],Yb,Y,Y,Y,.tup [Y,Y,Y],Y,Y,Y,.tup [Y,Y,Y],Yb,Y,Y,Y,.tup [Y,Y,Y],Y,Y,Y,Y,Y,Y,Y,Y,Y,Y,Y,Y,Y,Y,Y,Y,Y,Y,Y,Y,.tup [Yb,Yb,Y],Yc,.tup [Yb,Yb,Y],Yb,Yb,Y,.tup [Yb,Y],Yb,Yb,Y,.tup [Yb,Y],Yb,Y,.tup [Yb,Y],Yb,Yb,Y,.tup [Yb,Y],Yb,Y,Y,Y,Y,Y,Yb,Yb,Y,Y,Y,Y,Y,Yr 28,Yb,Y,Y,Y,.tup [Yb,Y],Yb,.tup [Yb,Y],Yb,Y,Y,Y,Y,Yr 34,Yb,Yr 28,Yb,Y,Y,Y,Y,Yr 34,Yb,Y,Y,Y,.tup [Yb,Y,Y,Yb],Yc,.tup [Yb,Y,Y,Yb],Yb,Y,Y,Yb,.tup [Y,Y],Yb,Y,Y,Yb,.tup [Y,Y],Y,Y,.tup [Yo 1 0,Y,Y],Yb,Y,Y,.tup [Yo 1 0,Y,Y],Yb,Y,Y,.tup [Yb,Y,Y],Yb,Y,Y,.tup [Yb,Y,Y],Yb,Y,Y,Y,Y,Y,Y,Yb,Yb,Y,Y,Y,Y,Y,Y,Y,Y,Y,Y,Y,Y,Y,Y,Y,Y,Y,Y,Y],T:=[(3,ty3),(4,ty4),(5,ty5),(9,ty9),(22,Pm),(34,eO),(41,ql),(42,pd),(44,Io),(53,qm),(99,tp)],S:=[(4,mK),(5,jh),(6,rQ),(7,tG),(8,pC),(9,mY),(10,rT),(11,ry),(12,zP),(13,oE),(14,oQ),(15,tL),(16,tE),(17,sQ),(18,mP),(19,qd),(20,kn),(21,nB),(22,py),(23,pG)],H:=[(0,([1,14,119,120,121],[1]))],res:=[.tmp 4],ios:=[],G:=gl0}
@[reducible] def zA:List (Nat × List Nat):=[(127,[1]),(131071,[1])]
def nH:List D→Option Out:=DD zB zA Tryz.f3
@[reducible] def sj:FS:={pm:=[Yc,Yc],rm:=[Y],f:=nH}
theorem LQ:aw gl0 Tryz.prog 3 sj:=RR (J:=zA) (P:=Tryz.prog) (c:=zB) (fn:=Tryz.f3) (pm:=sj.pm) (rm:=sj.rm) (by kernel_rfl) (ab uF (ab CD (ab CM (ab Fk (ab As (ab tJ (ab Cw (ab CE (ab Lj (ab yQ (ab yN (ab FI (ab EV (ab DZ (ab tX (ab xR (ab rL (ab wa (ab Ah (ab zH an)))))))))))))))))))) fW (by kernel_rfl) Tryz.func3 (by kernel_rfl) (by kernel_rfl) rfl
open Go Go.V
set_option maxRecDepth 100000
theorem ID (x0 x1 x2 x3:D):jG [x0,x1,x2,x3]=((bE 3 x1).bind fun y=>(ba true 3 0 y).bind fun z=>callK (gY [x0,z,x2,x3]) fun c _=>(stD 4 (.agg [B false,I 0,.arr 1 [],I 0]) (.ref 0 0) (sl c 0)).bind fun b=>(aa b (.ref 0 0)).bind fun z=>(((atD b z).bind (au false 1)).bind bq).bind fun z=>(un .not z).bind fun z=>ifD z (some (.ret [.arr 1 [],I 0,B false] [])) ((aa b (.ref 0 2)).bind fun z=>((atD b z).bind (au false 1)).bind fun z=>(aa b (.ref 0 1)).bind fun d=>(((atD b d).bind (au false 1)).bind bq).bind fun e=>some (.ret [z,e,B true] []))):=by kernel_rfl
theorem zM (x0 x1 x2:D):iH [x0,x1,x2]=((bE 3 x1).bind fun y=>(ba true 3 0 y).bind fun z=>callK (iU [x0,z,x2]) fun c _=>(un .not (sl c 0)).bind fun z=>ifD z (some (.ret [.arr 1 [],I 0,B false] [])) ((ba true 3 0 y).bind fun z=>callK (jG [x0,z,x2,I 0]) fun c _=>(aF (.tup c) 0).bind fun z=>(aF (.tup c) 1).bind fun d=>(aF (.tup c) 2).bind fun e=>some (.ret [z,d,e] []))):=by kernel_rfl
theorem rq (x0:D):eH [x0]=((cO [(0,1)] [.arr 1 [],I 0,.v (aaf aa2 0)] [x0]).bind fun z=>(bE 3 z).bind fun y=>(aa y (.ref 0 0)).bind fun z=>(aa z z).bind fun j=>(bn j y).bind fun i=>(aa i i).bind fun i=>callK (dA [i]) fun c d=>(aa (sl d 0) (sl d 0)).bind fun _=>(aF (.tup c) 0).bind fun e=>(aF (.tup c) 1).bind fun k=>(aF (.tup c) 2).bind fun f=>(stD 3 (.agg [I 0,I 0,I 0]) (.ref 0 0) k).bind fun b=>(ba true 3 0 b).bind fun l=>callK (iU [e,l,f]) fun c _=>(af D.bad (sl c 0) true (aa z z)).bind fun m=>bX (sl c 0) true ((bn m (sl d 0)).bind fun i=>(aa i i).bind fun i=>callK (aP [i,I 2]) fun c d=>(aa (sl d 0) (sl d 0)).bind fun _=>some (.nrm [sl c 0,sl d 0])) [.tup [],sl d 0] fun g=>(aU (sl c 0) (sl g 0) (B false)).bind fun n=>ifD n ((ba true 3 0 b).bind fun h=>callK (jG [e,h,f,I 0]) fun c _=>(aF (.tup c) 0).bind fun p=>(aF (.tup c) 1).bind fun _=>(aF (.tup c) 2).bind fun q=>ifD q ((ba true 3 0 b).bind fun z=>(stD 3 (.agg [I 0,I 0,I 0]) (.ref 0 0) z).bind fun b=>(ba true 3 0 b).bind fun y=>some (.ret [e,y,f,p] [])) ((ba true 3 0 b).bind fun r=>(aa z z).bind fun z=>(bn z (sl g 1)).bind fun i=>(aa i i).bind fun i=>callK (dl [i,e]) fun c d=>(aa (sl d 0) (sl d 0)).bind fun _=>(stD 3 (.agg [I 0,I 0,I 0]) (.ref 0 0) r).bind fun b=>(ba true 3 0 b).bind fun y=>some (.ret [e,y,f,sl c 0] []))) ((ba true 3 0 b).bind fun h=>(aa z z).bind fun z=>(bn z (sl g 1)).bind fun i=>(aa i i).bind fun i=>callK (dl [i,e]) fun c d=>(aa (sl d 0) (sl d 0)).bind fun _=>(stD 3 (.agg [I 0,I 0,I 0]) (.ref 0 0) h).bind fun b=>(ba true 3 0 b).bind fun y=>some (.ret [e,y,f,sl c 0] []))):=by kernel_rfl
theorem yq (x0:D):gH [x0]=((cO [(0,1)] [.arr 1 [],I 0,.v (aaf aa2 0)] [x0]).bind fun z=>(bE 3 z).bind fun y=>(aa y (.ref 0 0)).bind fun z=>(aa z z).bind fun f=>(bn f y).bind fun i=>(aa i i).bind fun i=>callK (cU [i]) fun d c=>(aa (sl c 0) (sl c 0)).bind fun _=>(aF (.tup d) 0).bind fun g=>(aF (.tup d) 1).bind fun h=>(stD 2 (.agg [.arr 4 [],.arr 1 []]) (.ref 0 0) h).bind fun b=>(aa z z).bind fun j=>(bn j (sl c 0)).bind fun i=>(aa i i).bind fun i=>callK (aP [i,I 12]) fun d c=>(aa (sl c 0) (sl c 0)).bind fun _=>ifD (sl d 0) ((aa z z).bind fun e=>(bn e (sl c 0)).bind fun i=>(aa i i).bind fun i=>callK (fR [i]) fun d c=>(aa (sl c 0) (sl c 0)).bind fun _=>(ba true 2 0 b).bind fun k=>(aa z z).bind fun z=>(bn z (sl c 0)).bind fun i=>(aa i i).bind fun i=>callK (en [i]) fun l c=>(aa (sl c 0) (sl c 0)).bind fun _=>(stD 2 (.agg [.arr 4 [],.arr 1 []]) (.ref 0 0) k).bind fun b=>(ba true 2 0 b).bind fun y=>some (.ret [sl d 0,y,sl l 0] [])) ((ba true 2 0 b).bind fun e=>(aa z z).bind fun z=>(bn z (sl c 0)).bind fun i=>(aa i i).bind fun i=>callK (en [i]) fun d c=>(aa (sl c 0) (sl c 0)).bind fun _=>(stD 2 (.agg [.arr 4 [],.arr 1 []]) (.ref 0 0) e).bind fun b=>(ba true 2 0 b).bind fun y=>some (.ret [g,y,sl d 0] []))):=by kernel_rfl
theorem zK (x0 x1 x2 x3:D):iu [x0,x1,x2,x3]=(callK (Cb [x0,x1,x2,x3]) fun c _=>(aF (.tup c) 0).bind fun z=>(aF (.tup c) 1).bind fun d=>(un .not d).bind fun e=>ifD e (some (.ret [I 0,B false] [])) (callK (iI [z]) fun c _=>some (.ret [sl c 0,B true] []))):=by kernel_rfl
theorem LZ (x0 x1:D):nH [x0,x1]=((lenD false x0).bind fun z=>(lenD false x1).bind fun zt=>(bin .add false [] z zt).bind fun z=>(bin .gtr false [] z (I 1048576)).bind fun z=>ifD z (some (.ret [B true] [])) (callK (fK [x0]) fun c _=>(aF (.tup c) 0).bind fun z=>(aF (.tup c) 1).bind fun zd=>(aF (.tup c) 2).bind fun y=>callK (BS [z,zd,y]) fun c _=>(aF (.tup c) 0).bind fun zo=>(aF (.tup c) 1).bind fun zp=>callK (jk [z,zd,y]) fun c _=>(aF (.tup c) 0).bind fun zu=>(aF (cv (.tup c) 0) 1).bind fun zv=>(bin .neq true [] zp zv).bind fun h=>(af (.tup []) h false (some zo)).bind fun zw=>(af (.tup []) h false (some zu)).bind fun z_8=>bX h false (callK (kD [zw,z_8]) fun c _=>some (.nrm [sl c 0])) [.tup []] fun e=>(af (.tup []) h false (un .not (sl e 0))).bind fun z_9=>(aU h (B true) z_9).bind fun z_10=>ifD z_10 (some (.ret [B false] [])) (Ob (fun j=>ifD zp (callK (iu [z,zd,y,zo]) fun c _=>(aF (.tup c) 0).bind fun z=>(aF (.tup c) 1).bind fun ze=>(un .not ze).bind fun k=>(af (.tup []) k false (some z)).bind fun z=>(af (.tup []) k false (bin .neq false [] z (I 0))).bind fun z=>(aU k (B true) z).bind fun z=>ifD z (some (.ret [B false] [])) (j [x1])) (j [x1])) fun s=>callK (fL [sl s 0]) fun c _=>callK (gk [sl c 0]) fun zq _=>(aF (.tup zq) 0).bind fun y=>(aF (cv (.tup zq) 0) 1).bind fun z=>callK (jd [sl c 0]) fun zr _=>(aF (.tup zr) 0).bind fun zf=>(aF (cv (.tup zr) 0) 1).bind fun ze=>(bin .neq true [] z ze).bind fun z=>(af (.tup []) z false (some y)).bind fun k=>(af (.tup []) z false (some zf)).bind fun z_13=>bX z false (callK (lj [k,z_13]) fun c _=>some (.nrm [sl c 0])) [.tup []] fun e=>(af (.tup []) z false (un .not (sl e 0))).bind fun z_14=>(aU z (B true) z_14).bind fun z=>ifD z (some (.ret [B false] [])) ((lenD false zf).bind fun z=>(aQ (fun s=>(bin .lss false [] (sl s 4) (sl s 3)).bind fun z=>ifD z ((Option.map D.ptr (aI 1 (sl s 2) (sl s 4))).bind fun z=>((ldD false 1 z).bind bq).bind fun z=>(bin .mul false [] (I 2) (sl s 4)).bind fun zg=>(bin .add false [] zg (I 1)).bind fun t=>callK (dX [sl s 1,t]) fun c _=>(aF (.tup c) 0).bind fun zh=>(aF (.tup c) 1).bind fun _=>(aF (.tup c) 2).bind fun zi=>(bin .mul false [] (I 2) (sl s 4)).bind fun f=>(bin .add false [] f (I 2)).bind fun zj=>callK (dX [sl s 1,zj]) fun c _=>(aF (.tup c) 0).bind fun zk=>(aF (.tup c) 1).bind fun _=>(aF (.tup c) 2).bind fun zl=>(un .not zi).bind fun l=>(af (.tup []) l false (some zl)).bind fun zm=>(af (.tup []) l false (un .not zm)).bind fun m=>(aU l (B true) m).bind fun d=>(af (.tup []) d false (some zh)).bind fun n=>(af (.tup []) d false (some z)).bind fun p=>(af (.tup []) d false (bin .neq false [] n p)).bind fun q=>(aU d (B true) q).bind fun g=>(af (.tup []) g false (some zk)).bind fun r=>(af (.tup []) g false (some z)).bind fun z=>(af (.tup []) g false (bin .neq false [] r z)).bind fun z=>(aU g (B true) z).bind fun z=>ifD z (some (.ret [B false] [])) ((bin .add false [] (sl s 4) (I 1)).bind fun z=>some (.nrm [sl s 0,sl s 1,sl s 2,sl s 3,z]))) (some (.ext 0 [sl s 0]))) [sl s 0,sl c 0,zf,z,I 0]).bind fun o=>outK o (fun i s=>ifN (i.beq 0) (callK (gH [sl s 0]) fun c _=>(aF (.tup c) 0).bind fun z=>(aF (.tup c) 1).bind fun zg=>(aF (.tup c) 2).bind fun t=>(stD 2 (.agg [.arr 4 [],.arr 1 []]) (.ref 0 0) zg).bind fun b=>(ba true 2 0 b).bind fun zh=>callK (li [z,zh,t]) fun c _=>(aF (.tup c) 0).bind fun zi=>(aF (.tup c) 1).bind fun f=>(stD 2 (.agg [.arr 4 [],.arr 1 []]) (.ref 0 0) zi).bind fun zs=>(ba true 2 0 b).bind fun zj=>callK (kN [z,zj,t]) fun c _=>(aF (.tup c) 0).bind fun z=>(aF (.tup c) 1).bind fun zk=>(stD 2 (.agg [.arr 4 [],.arr 1 []]) (.ref 0 0) z).bind fun b_2=>(bin .neq true [] f zk).bind fun z=>(af (.tup []) z false (ba true 2 0 zs)).bind fun zl=>(af (.tup []) z false (ba true 2 0 b_2)).bind fun l=>bX z false (callK (jO [zl,l]) fun c _=>some (.nrm [sl c 0])) [.tup []] fun e=>(af (.tup []) z false (un .not (sl e 0))).bind fun zm=>(aU z (B true) zm).bind fun z=>ifD z (some (.ret [B false] [])) (Ob (fun j=>(af D.bad f true (aa b (.ref 0 1))).bind fun z=>(af (.tup []) f true ((atD b z).bind (au false 1))).bind fun z=>(af (.tup []) f true (lenD false z)).bind fun z=>(af (.tup []) f true (bin .eql false [] z (I 0))).bind fun z=>(aU f z (B false)).bind fun z=>ifD z ((ba true 2 0 zs).bind fun z=>callK (er [z]) fun c _=>(aF (.tup c) 0).bind fun z=>(aF (.tup c) 1).bind fun m=>(stD 2 (.agg [.arr 4 [],.arr 1 []]) (.ref 0 0) z).bind fun u=>(un .not m).bind fun z=>(af D.bad z false (aa u (.ref 0 0))).bind fun d=>(af (.tup []) z false ((atD u d).bind (au false 1))).bind fun n=>(af D.bad z false (aa b (.ref 0 0))).bind fun p=>(af (.tup []) z false ((atD b p).bind (au false 1))).bind fun q=>bX z false (callK (jy [n,q]) fun c _=>some (.nrm [sl c 0])) [.tup []] fun e=>(af (.tup []) z false (un .not (sl e 0))).bind fun g=>(aU z (B true) g).bind fun z=>(af D.bad z false (aa u (.ref 0 1))).bind fun r=>(af (.tup []) z false ((atD u r).bind (au false 1))).bind fun v=>(af (.tup []) z false (lenD false v)).bind fun w=>(af (.tup []) z false (bin .gtr false [] w (I 0))).bind fun zn=>(aU z (B true) zn).bind fun z=>ifD z (some (.ret [B false] [])) (j [sl s 0])) (j [sl s 0])) fun s=>callK (eH [sl s 0]) fun c _=>(aF (.tup c) 0).bind fun z=>(aF (.tup c) 1).bind fun m=>(aF (.tup c) 2).bind fun d=>(aF (.tup c) 3).bind fun n=>(stD 3 (.agg [I 0,I 0,I 0]) (.ref 0 0) m).bind fun b=>(ba true 3 0 b).bind fun p=>callK (gc [z,p,d,n]) fun c _=>(aF (.tup c) 0).bind fun q=>(aF (.tup c) 1).bind fun g=>(ba true 3 0 b).bind fun r=>callK (iE [z,r,d]) fun c _=>(aF (.tup c) 0).bind fun y=>(aF (cv (.tup c) 0) 1).bind fun v=>(aF (cv (.tup c) 0) 2).bind fun w=>(ba true 3 0 b).bind fun zn=>callK (iH [z,zn,d]) fun c _=>(aF (.tup c) 0).bind fun z=>(aF (.tup c) 1).bind fun z_35=>(aF (.tup c) 2).bind fun z_36=>(bin .eql true [] w z_36).bind fun za=>(af (.tup []) za true (some y)).bind fun z_38=>(af (.tup []) za true (some z)).bind fun z=>bX za true (callK (lj [z_38,z]) fun c _=>some (.nrm [sl c 0])) [.tup []] fun e=>(aU za (sl e 0) (B false)).bind fun z=>(af (.tup []) z true (some v)).bind fun z_39=>(af (.tup []) z true (some z_35)).bind fun z_40=>(af (.tup []) z true (bin .eql false [] z_39 z_40)).bind fun z_41=>(aU z z_41 (B false)).bind fun z=>(af (.tup []) z true (some g)).bind fun z_42=>(af (.tup []) z true (un .not z_42)).bind fun z_43=>(af (.tup []) z true (some z_43)).bind fun zb=>(af (.tup []) zb false (some w)).bind fun z_45=>(af (.tup []) zb false (some z_45)).bind fun zc=>(af (.tup []) zc true (some v)).bind fun z_47=>(af (.tup []) zc true (some q)).bind fun z_48=>(af (.tup []) zc true (bin .leq false [] z_47 z_48)).bind fun z_49=>(af (.tup []) zb false (aU zc z_49 (B false))).bind fun z_50=>(af (.tup []) z true (aU zb (B true) z_50)).bind fun z_51=>(aU z z_51 (B false)).bind fun z=>some (.ret [z] []))) none) fun a b=>some (.ret a b))))):=by kernel_rfl
set_option maxRecDepth 100000
theorem Ce (w h:Int) (l:Ps) (hl:l.length≤1048576):jk [I w,I h,pcs l]=some (.ret (iQ (nk w h l)) []):=by
 have e1:=HJ w h l hl;rw [BT];unfold nk;cases hs:(bD w&&bD h&&ij l)
 ·rw [hs] at e1
  simp -implicitDefEqProofs [e1,iQ]
 ·rw [hs] at e1
  have hs':=hs;simp only [ZN,bD,decide_eq_true_eq] at hs;obtain⟨⟨⟨w1,w8⟩,h1,h8⟩,hok⟩:=hs;obtain⟨wd,rfl⟩:=aat (show 0≤w by omega);obtain⟨ht,rfl⟩:=aat (show 0≤h by omega);have e2:=GO wd ht (by omega) (by omega) (by omega) (by omega) l hok;rw [if_pos rfl,aaH,aaH];cases hf:Dh l wd ht with
  | none =>
   rw [hf] at e2;simp -implicitDefEqProofs [e1,e2,iQ]
  | some q =>
   rw [hf] at e2;simp -implicitDefEqProofs [e1,e2,iQ]
theorem zE (wd ht:Nat) (f:Gr) (hw:wd≤8) (hh:ht≤8) (hf:∀y x,y<ht→x<wd→f y x ≠ -1):iI [iA (eU wd ht f)]=some (.ret [I 0] []):=by
 rw [AC];have hl1:((eU wd ht f).map ints).length=ht:=by simp [HA]
 simp only [aS,hl1,ZH];refine ax _ (dn ht (fun y=>[I 0,iA (eU wd ht f),I (ht:Int),I (y:Int)]) (.ext 0 [I 0]) (fun y hy=>?_) ?_ rfl rfl) ?_
 ·have hy':(y:Int)<(ht:Int):=by omega
  have e1:=EN f hy (wd:=wd);have hwy:ZS.wrap ((y:Int)+1)=((y+1:Nat):Int):=by rw [ae (by omega) (by omega)];omega
  have hlr:(((ZU wd).map fun x=>f y x).map I).length=wd:=by simp
  simp -implicitDefEqProofs only [aE,aX,bp,hy',decide_true,bt,if_true,ZH,e1,ZO,fS,eJ,aS,hlr];refine ax _ (dn wd (fun x=>[I 0,iA (eU wd ht f),I (ht:Int),I (y:Int),ints ((ZU wd).map fun x=>f y x),I (wd:Int),I (x:Int)]) (.ext 2 [I 0,iA (eU wd ht f),I (ht:Int),I (y:Int)]) (fun x hx=>?_) ?_ rfl rfl) ?_
  ·have hx':(x:Int)<(wd:Int):=by omega
   have hwx:ZS.wrap ((x:Int)+1)=((x+1:Nat):Int):=by rw [ae (by omega) (by omega)];omega
   have e2:aI 1 (ints ((ZU wd).map fun x=>f y x)) (I (x:Int))=some [I (f y x)]:=by simp [hx]
   have hne:=hf y x hy hx;have hd:decide (f y x = -1)=false:=by simp [hne]
   simp -implicitDefEqProofs only [aE,aX,bp,hx',decide_true,bt,if_true,ZH,e2,ZO,fS,eJ,Lh,mw,hd,ZQ,if_false,bZ,hwx]
  ·have hn:¬(wd:Int)<(wd:Int):=by omega
   simp -implicitDefEqProofs only [aE,aX,bp,hn,decide_false,bt,ZQ,if_false,ZH]
  ·simp -implicitDefEqProofs only [cZ,jn,aas,if_true,aE,aX,bZ,hwy,ZH]
 ·have hn:¬(ht:Int)<(ht:Int):=by omega
  simp -implicitDefEqProofs only [aE,aX,bp,hn,decide_false,bt,ZQ,if_false,ZH]
 ·simp -implicitDefEqProofs only [cZ,jn,aas,if_true,aE]
theorem zN {w h:Int} {l:Ps} {q:List Pl} (hl:l.length≤1048576) (hq:nk w h l=some q):iu [I w,I h,pcs l,pls q]=some (.ret [I 0,B true] []):=by
 obtain⟨ho,wd,ht,g,hw,hh,rfl,rfl,hc,hn⟩:=Gs hq;have e1:=uK (wd:Int) (ht:Int) l q hl ho;have e2:qg (wd:Int) (ht:Int) l q=true:=by unfold qg;rw [hc];rfl
 have e3:ve (wd:Int) (ht:Int) l q=iA (eU wd ht g):=by unfold ve;rw [hc];simp
 rw [e2,e3] at e1;have e4:=zE wd ht g (by omega) (by omega) hn;rw [zK];simp -implicitDefEqProofs [e1,e4]
theorem Gh (q:List Pl) (ho:q.length≤1048576):kD [pls q,pls q]=some (.ret [B true] []):=by
 rw [GP];simp only [aS,ZX,ZH,nG,decide_true,aaO,bt,ZQ,if_false];refine ax (.ext 0 []) (dn q.length (fun i=>[pls q,pls q,I q.length,I i]) _ (fun i hi=>?_) ?_ rfl rfl) ?_
 ·have hw:ZS.wrap ((i:Int)+1)=(i:Int)+1:=ae (by omega) (by omega)
  have hi':(i:Int)<(q.length:Int):=by omega
  have hq:bin .neq false [1,1,1,2] (plD q[i]) (plD q[i])=some (B false):=by simp [bin,tW]
  simp -implicitDefEqProofs [hi,hw,hq,oY]
 ·simp -implicitDefEqProofs
 ·simp -implicitDefEqProofs
theorem AQ (l:List Int) (h:l.length≤1048576):lj [ints l,ints l]=some (.ret [B true] []):=by
 rw [Ma];simp only [aS,ZX,ZH,nG,decide_true,aaO,bt,ZQ,if_false];refine ax (.ext 0 []) (dn l.length (fun i=>[ints l,ints l,I l.length,I i]) _ (fun i hi=>?_) ?_ rfl rfl) ?_
 ·have hw:ZS.wrap ((i:Int)+1)=(i:Int)+1:=ae (by omega) (by omega)
  have hi':(i:Int)<(l.length:Int):=by omega
  simp -implicitDefEqProofs [hi,hw]
 ·simp -implicitDefEqProofs
 ·simp -implicitDefEqProofs
set_option maxRecDepth 100000
theorem je {γ:Type} {body:List D→Option Out} (n:Nat) (st:Nat→List γ→List D) (g:Nat→γ) (fin:List γ→Out) (hs:∀(i:Nat) (a:List γ),i<n→a.length=i→body (st i a)=some (.nrm (st (i+1) (a++[g i])))) (he:∀a,a.length=n→body (st n a)=some (fin a))
  (h1:∀a,(fin a).ends=true) {s0:List D} (h:s0=st 0 []):aQ body s0=some (fin ((ZU n).map g)):=by
 have e:∀(l:List Nat) (k:Nat) (a:List γ),iD (fun _ a x=>a++[g x]) k l a=a++l.map g:=by
  intro l;induction l with
  | nil=>intro k a;simp [iD]
  | cons x l ih=>intro k a;simp only [iD];rw [ih];simp
 have:=co (body:=body) (ZU n) st (fun i a=>a.length=i) (fun _ a x=>a++[g x]) fin [] (fun i a hi ha=>⟨by
  have hi':i<n:=by simpa using hi
  have e:(ZU n)[i]=i:=by simp
  rw [e];exact hs i a hi' ha,by simp [ha]⟩) (fun a ha=>by simp only [List.length_range] at ha ⊢;exact he a ha) h1 rfl h
 rw [this,e];simp
theorem Ci {γ:Type} (f:γ→D) (z eb:Nat) (l m:List γ) (h:l.length+m.length≤1000000) (he:eb≤1000):bY z eb (.arr z (l.map f)) (.arr z (m.map f))=some (.arr z ((l++m).map f)):=by
 rw [bv,if_pos,List.map_append];simp only [ZX];refine⟨?_,by omega⟩
 exact ZY (Nat.mul_le_mul h he) (by decide)
abbrev Lf:=Int × Bool
abbrev lf (x:Lf):D:=.agg [I x.1,B x.2]
abbrev lfs (l:List Lf):D:=.arr 2 (l.map lf)
abbrev nj (r:List (List Lf)):D:=.arr 1 (r.map lfs)
abbrev iJ (g:List (List (List Lf))):D:=.arr 1 (g.map nj)
def nLf (l:List Lf) (i:Nat):Lf:=l.getD i (0,false)
theorem PB {l:List Lf} {i:Nat} (h:i<l.length):nLf l i=l[i]:=by
 unfold nLf;rw [ZZ,ZI h];rfl
def bj {γ:Type} (l:List (List γ)) (i:Nat):List γ:=l.getD i []
theorem pE {γ:Type} {l:List (List γ)} {i:Nat} (h:i<l.length):bj l i=l[i]:=by
 unfold bj;rw [ZZ,ZI h];rfl
def FC (q:List Lf):List Lf:=(ZU q.length).map fun i=>((nLf q (q.length - 1 - i)).1,!(nLf q (q.length - 1 - i)).2)
def Gk (p q:List Lf) (o:Bool):List Lf:=if o then FC q++p else p++FC q
theorem Ra (q:List Lf):(FC q).length=q.length:=by simp [FC]
theorem To (a:Int) (b:Bool):cO [(0,1),(1,1)] [D.v (aaf ZS 0),D.v (Value.bool false)] [I a,B b]=some (lf (a,b)):=by simp [cO,iG]
theorem XS (x:Lf):ay 2 [lf x]=some (lfs [x]):=by simp [ay,eA]
theorem QC (l:List Lf):dq (lfs l)=some (lfs l):=fj fun p=>rfl
theorem HV (p q:List Lf) (o:Bool) (h:p.length+q.length≤1000):oc [lfs p,lfs q,B o]=some (.ret [lfs (Gk p q o)] []):=by
 rw [Pp];have hw0:ZS.wrap ((q.length:Int) - 1)=(q.length:Int) - 1:=ae (by omega) (by omega);have m0:ay 2 []=some (lfs []):=rfl;simp only [m0,aS,ZX,ZH,kZ,hw0];refine ax _ (je q.length (fun i a=>[lfs p,lfs q,B o,lfs a,I ((q.length:Int) - 1 - i)]) (fun i=>((nLf q (q.length - 1 - i)).1,!(nLf q (q.length - 1 - i)).2)) (fun a=>.ext 0 [lfs p,B o,lfs a]) (fun i a hi ha=>?_) (fun a ha=>?_) (fun _=>rfl) (by simp)) ?_
 ·have hj:(q.length:Int) - 1 - (i:Int)=((q.length - 1 - i:Nat):Int):=by omega
  have hjl:q.length - 1 - i<q.length:=by omega
  have hg:=PB hjl;have hwn:ZS.wrap (((q.length - 1 - i:Nat):Int) - 1)=(q.length:Int) - 1 - ((i+1:Nat):Int):=by rw [ae (by omega) (by omega)];omega
  have hb:=To (nLf q (q.length - 1 - i)).1 (!(nLf q (q.length - 1 - i)).2);have hm:=XS ((nLf q (q.length - 1 - i)).1,!(nLf q (q.length - 1 - i)).2);have hc:=QC [((nLf q (q.length - 1 - i)).1,!(nLf q (q.length - 1 - i)).2)];have ha:=Ci lf 2 16 a [((nLf q (q.length - 1 - i)).1,!(nLf q (q.length - 1 - i)).2)] (by simp;omega) (by omega);rw [hj];generalize q.length - 1 - i=j at *;rw [hg] at hb hm hc ha ⊢;simp -implicitDefEqProofs [hjl,hb,hm,hc,ha,hwn,-bv]
 ·have hj:(q.length:Int) - 1 - (q.length:Int) = -1:=by omega
  rw [hj];simp -implicitDefEqProofs
 ·have hl:=Ra q
  show outK (.ext 0 [lfs p,B o,lfs (FC q)]) _ _=_
  cases o
  ·have h0:=Ci lf 2 16 [] p (by simp;omega) (by omega)
   have h1:=Ci lf 2 16 p (FC q) (by omega) (by omega);have hc:=QC p;simp -implicitDefEqProofs [hc,m0,h0,h1,Gk,-bv]
  ·have h1:=Ci lf 2 16 (FC q) p (by omega) (by omega)
   have hc:=QC p;simp -implicitDefEqProofs [hc,h1,Gk,-bv]
set_option maxRecDepth 100000
theorem SH {n:Nat} (h:n≤1000):bin BinOp.quo false [] (I (n:Int)) (I 2)=some (I ((n / 2:Nat):Int)):=by
 have hw:ZS.wrap ((n:Int) / 2)=((n / 2:Nat):Int):=by rw [ae (by omega) (by omega)];omega
 rw [EO,if_neg (by decide),Int.tdiv_eq_ediv_of_nonneg (by omega),hw]
abbrev Gd3:=List (List (List Lf))
def Sm (G:Gd3) (y:Nat) (o:Bool):List (List Lf):=(ZU (bj G y).length).map fun x=>Gk (bj (bj G y) x) (bj (bj G (G.length - 1 - y)) x) o
def YQ (G:Gd3) (o:Bool):Gd3:=(ZU (G.length / 2)).map fun y=>Sm G y o
def Ul (old:List (List Lf)) (c:Nat) (o:Bool):List (List Lf):=(ZU (c / 2)).map fun x=>Gk (bj old x) (bj old (c - 1 - x)) o
def YZ (G:Gd3) (o:Bool):Gd3:=(ZU G.length).map fun y=>Ul (bj G y) (bj G 0).length o
def Lx (G:Gd3) (f:Lf):Gd3:=if f.1=2 then YQ G f.2 else YZ G f.2
structure GOk (G:Gd3):Prop where
 r1:1≤G.length
 r2:G.length≤16
 c2:(bj G 0).length≤16
 cs:∀y,y<G.length→(bj G y).length=(bj G 0).length
 ps:∀y,y<G.length→∀x,x<(bj G 0).length→(bj (bj G y) x).length≤16
theorem XI (p:List Lf):ay 1 [lfs p]=some (nj [p]):=by simp [ay,eA]
theorem Yn (r:List (List Lf)):ay 1 [nj r]=some (iJ [r]):=by simp [ay,eA]
theorem elR {G:Gd3} {y:Nat} (h:y<G.length):aI 1 (iJ G) (I (y:Int))=some [nj (bj G y)]:=by
 rw [pE h];simp [h]
theorem elP {R:List (List Lf)} {x:Nat} (h:x<R.length):aI 1 (nj R) (I (x:Int))=some [lfs (bj R x)]:=by
 rw [pE h];simp [h]
theorem XA (a:List (List Lf)) (p:List Lf) (h:a.length≤1000):bY 1 24 (nj a) (nj [p])=some (nj (a++[p])):=Ci lfs 1 24 a [p] (by simp;omega) (by omega)
theorem XK (a:Gd3) (p:List (List Lf)) (h:a.length≤1000):bY 1 24 (iJ a) (iJ [p])=some (iJ (a++[p])):=Ci nj 1 24 a [p] (by simp;omega) (by omega)
set_option maxHeartbeats 2000000 in
theorem Ev (G:Gd3) (f:Lf) (h:GOk G):jP [iJ G,lf f]=some (.ret [iJ (Lx G f)] []):=by
 obtain⟨r1,r2,c2,cs,ps⟩:=h;obtain⟨al,o⟩:=f;rw [En];have hbx:bE 2 (lf (al,o))=some (lf (al,o)):=by simp [bE]
 have h0:0<G.length:=by omega
 have m0:ay 1 []=some (nj []):=rfl;have e0:aI 1 (iJ G) (I 0)=some [nj (bj G 0)]:=elR (y:=0) h0;have hq:=SH (n:=G.length) (by omega);have hqc:=SH (n:=(bj G 0).length) (by omega);have hwr:ZS.wrap ((G.length:Int) - 1)=(G.length:Int) - 1:=ae (by omega) (by omega);have hwc:ZS.wrap (((bj G 0).length:Int) - 1)=((bj G 0).length:Int) - 1:=ae (by omega) (by omega);unfold Lx;by_cases hal:al=2
 ·subst hal
  simp -implicitDefEqProofs only [hbx,ZH,aS,ZX,e0,ZO,fS,eJ,bV,cI,mB,aaC,mw,m0,decide_true,bt,if_true];refine ax _ (je (G.length / 2) (fun y a=>[iJ G,lf (2,o),I (G.length:Int),iJ a,I (y:Int)]) (fun y=>Sm G y o) (fun a=>.ext 0 [iJ a]) (fun y a hy ha=>?_) (fun a ha=>?_) (fun _=>rfl) (by simp)) ?_
  ·have hy':(y:Int)<((G.length / 2:Nat):Int):=by omega
   have hyl:y<G.length:=by omega
   have e1:=elR hyl;have hwy:ZS.wrap ((y:Int)+1)=((y+1:Nat):Int):=by rw [ae (by omega) (by omega)];omega
   have hcy:=cs y hyl;have hmr:=Yn (Sm G y o);have hap:=XK a (Sm G y o) (by omega);simp -implicitDefEqProofs only [aE,aX,hq,ZH,bp,hy',decide_true,bt,if_true,m0,e1,ZO,fS,eJ,aS,ZX];refine ax _ (je (bj G y).length (fun x b=>[iJ G,lf (2,o),I (G.length:Int),iJ a,I (y:Int),nj b,I ((bj G y).length:Int),I (x:Int)]) (fun x=>Gk (bj (bj G y) x) (bj (bj G (G.length - 1 - y)) x) o) (fun b=>.ext 2 [iJ G,lf (2,o),I (G.length:Int),iJ a,I (y:Int),nj b]) (fun x b hx hb=>?_) (fun b hb=>?_) (fun _=>rfl) (by simp)) ?_
   ·have hx':(x:Int)<((bj G y).length:Int):=by omega
    have e2:=elP hx;have hz:(G.length:Int) - 1 - (y:Int)=((G.length - 1 - y:Nat):Int):=by omega
    have hwz:ZS.wrap ((G.length:Int) - 1 - (y:Int))=((G.length - 1 - y:Nat):Int):=by rw [hz];exact ae (by omega) (by omega)
    have hzl:G.length - 1 - y<G.length:=by omega
    have e3:=elR hzl;have e4:=elP (R:=bj G (G.length - 1 - y)) (x:=x) (by rw [cs _ hzl];omega);have el:=HV (bj (bj G y) x) (bj (bj G (G.length - 1 - y)) x) o (by have:=ps y hyl x (by omega);have:=ps _ hzl x (by omega);omega);have hm:=XI (Gk (bj (bj G y) x) (bj (bj G (G.length - 1 - y)) x) o);have hap:=XA b (Gk (bj (bj G y) x) (bj (bj G (G.length - 1 - y)) x) o) (by omega);have hwx:ZS.wrap ((x:Int)+1)=((x+1:Nat):Int):=by rw [ae (by omega) (by omega)];omega
    simp -implicitDefEqProofs only [aE,aX,ZH,bp,hx',decide_true,bt,if_true,e1,e2,ZO,fS,eJ,kZ,hwr,hwz,e3,e4,bV,cI,mB,aaQ,aaC,el,bd,hm,hap,bZ,hwx]
   ·have hn:¬((bj G y).length:Int)<((bj G y).length:Int):=by omega
    simp -implicitDefEqProofs only [aE,aX,ZH,bp,hn,decide_false,bt,ZQ,if_false]
   ·show outK (.ext 2 [iJ G,lf (2,o),I (G.length:Int),iJ a,I (y:Int),nj (Sm G y o)]) _ _=_
    simp -implicitDefEqProofs only [cZ,jn,aas,if_true,aE,aX,hmr,hap,ZH,bZ,hwy]
  ·have hn:¬((G.length / 2:Nat):Int)<((G.length / 2:Nat):Int):=by omega
   simp -implicitDefEqProofs only [aE,aX,hq,ZH,bp,hn,decide_false,bt,ZQ,if_false]
  ·simp -implicitDefEqProofs only [cZ,jn,aas,if_true,aE,YQ]
 ·have hdec:decide (al=2)=false:=by simp [hal]
  simp -implicitDefEqProofs only [hbx,ZH,aS,ZX,e0,ZO,fS,eJ,bV,cI,mB,aaC,mw,m0,hdec,bt,ZQ,if_false];refine ax _ (je G.length (fun y a=>[lf (al,o),I ((bj G 0).length:Int),iJ a,iJ G,I (G.length:Int),I (y:Int)]) (fun y=>Ul (bj G y) (bj G 0).length o) (fun a=>.ext 4 [iJ a]) (fun y a hy ha=>?_) (fun a ha=>?_) (fun _=>rfl) (by simp)) ?_
  ·have hy':(y:Int)<(G.length:Int):=by omega
   have e1:=elR hy;have hwy:ZS.wrap ((y:Int)+1)=((y+1:Nat):Int):=by rw [ae (by omega) (by omega)];omega
   have hcy:=cs y hy;have hmr:=Yn (Ul (bj G y) (bj G 0).length o);have hap:=XK a (Ul (bj G y) (bj G 0).length o) (by omega);simp -implicitDefEqProofs only [aE,aX,ZH,bp,hy',decide_true,bt,if_true,m0,e1,ZO,fS,eJ];refine ax _ (je ((bj G 0).length / 2) (fun x b=>[lf (al,o),I ((bj G 0).length:Int),iJ a,nj (bj G y),nj b,I (x:Int),iJ G,I (G.length:Int),I (y:Int)]) (fun x=>Gk (bj (bj G y) x) (bj (bj G y) ((bj G 0).length - 1 - x)) o) (fun b=>.ext 6 [lf (al,o),I ((bj G 0).length:Int),iJ a,nj b,iJ G,I (G.length:Int),I (y:Int)]) (fun x b hx hb=>?_) (fun b hb=>?_) (fun _=>rfl) (by simp)) ?_
   ·have hx':(x:Int)<(((bj G 0).length / 2:Nat):Int):=by omega
    have e2:=elP (R:=bj G y) (x:=x) (by omega);have hz:((bj G 0).length:Int) - 1 - (x:Int)=(((bj G 0).length - 1 - x:Nat):Int):=by omega
    have hwz:ZS.wrap (((bj G 0).length:Int) - 1 - (x:Int))=(((bj G 0).length - 1 - x:Nat):Int):=by rw [hz];exact ae (by omega) (by omega)
    have e4:=elP (R:=bj G y) (x:=(bj G 0).length - 1 - x) (by omega);have el:=HV (bj (bj G y) x) (bj (bj G y) ((bj G 0).length - 1 - x)) o (by have:=ps y hy x (by omega);have:=ps y hy ((bj G 0).length - 1 - x) (by omega);omega);have hm:=XI (Gk (bj (bj G y) x) (bj (bj G y) ((bj G 0).length - 1 - x)) o);have hap:=XA b (Gk (bj (bj G y) x) (bj (bj G y) ((bj G 0).length - 1 - x)) o) (by omega);have hwx:ZS.wrap ((x:Int)+1)=((x+1:Nat):Int):=by rw [ae (by omega) (by omega)];omega
    simp -implicitDefEqProofs only [aE,aX,hqc,ZH,bp,hx',decide_true,bt,if_true,e2,ZO,fS,eJ,kZ,hwc,hwz,e4,bV,cI,mB,aaQ,aaC,el,bd,hm,hap,bZ,hwx]
   ·have hn:¬(((bj G 0).length / 2:Nat):Int)<(((bj G 0).length / 2:Nat):Int):=by omega
    simp -implicitDefEqProofs only [aE,aX,hqc,ZH,bp,hn,decide_false,bt,ZQ,if_false]
   ·show outK (.ext 6 [lf (al,o),I ((bj G 0).length:Int),iJ a,nj (Ul (bj G y) (bj G 0).length o),iJ G,I (G.length:Int),I (y:Int)]) _ _=_
    simp -implicitDefEqProofs only [cZ,jn,aas,if_true,aE,aX,hmr,hap,ZH,bZ,hwy]
  ·have hn:¬(G.length:Int)<(G.length:Int):=by omega
   simp -implicitDefEqProofs only [aE,aX,ZH,bp,hn,decide_false,bt,ZQ,if_false]
  ·simp -implicitDefEqProofs only [cZ,jn,aas,if_true,aE,YZ,hal,if_false]
end Go.Proofs.YtccaheogjpfhjaaGreat

end
