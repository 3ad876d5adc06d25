/-
  A part of the proof: contracts and plain forms of functions beneath the statement, made small by a program (names shortened, what is not needed left out).
-/
import Derived.Test.YtkcojipciiakdaaDoorRows
import Derived.Test.YtkcojipciiakdaaDoorTie
import Derived.Test.YtkcojipciiakdaaDoorCards
import Derived.Test.YtkcojipciiakdaaDoorM8
open List renaming setIfInBounds_toArray → JI, set_cons_zero → JJ, set_cons_succ → JK, length_map → JS, getElem_mem → JU, drop_succ_cons → JX, drop_zero → Ka, take_succ_eq_append_getElem → Kb, getElem_of_mem → Kc, getElem_cons_zero → Ki, replicate → Ko, getD_eq_getElem?_getD → Kr, map_cons → Ks, getElem?_eq_getElem → Ku, length_cons → Kw, take_length → Kx, foldl_cons → Kz, getElem_cons_succ → KB, mem_of_mem_take → KE, foldl_append → KG, length_take → KK, mem_filter → KN
open Option renaming bind_some → JL, map → JT, map_some → JV, getD_some → KJ, map_none → KL
open Bool renaming false_eq_true → JM, not_true → JR, and_eq_true → JZ, not_eq_true' → Kg, not_false → KD
open Go.Act renaming put → JN
open Go.AllReadyH renaming cons → JO, nil → JQ
open Go.IntKind renaming i64 → JP, u64 → KO
open ByteArray renaming size_append → JW
open Or renaming inl → JY
open List.cons renaming injEq → Ke
open Int renaming eq_ofNat_of_zero_le → Kf, toNat_natCast → Kt, mul_add → KI, natCast_add → KM
open Nat renaming le_refl → Kh, mul_le_mul_right → Km, lt_of_lt_of_le → Kp, zero_le → KA, lt_trichotomy → KH
open UInt8 renaming ofNat → Kj
open Classical renaming choose → Kk, choose_spec → KC
open Go.Value.int renaming injEq → Kl
open Go.Proofs renaming enters_of → Kn
open Go.Value renaming int → Kq, string → Kv
open Array renaming replicate → Ky
open Option.some renaming injEq → KF
set_option maxRecDepth 100000
set_option linter.unusedSimpArgs false
set_option linter.unusedVariables false
noncomputable section
namespace Go.Proofs.YtkcojipciiakdaaDoor
open Go Go.Proofs Go.V Go.RowKit
set_option maxRecDepth 100000
variable {Z:Nat→Prop}
set_option maxHeartbeats 8000000 in
set_option maxRecDepth 1000000 in
theorem Dd (c:Cur) (B:Nat) (h:c.ok B) (hB:B≤100000) (w:World) (q:Nat) (hZ:∀b,Z b→b<w.heap.size) (hC:dY Z w q (fun _=>False) (aP c)) :
  Calls Tryd.prog 36 #[.pointer (some ⟨q,0,none⟩)] w fun e w'=>∃v Vb Vf ys,e = .returned v∧ShopAt w' w.heap.size v Vb Vf ys (sh c).2∧dY Z w' q (ShS Vb Vf ys) (aP (sh c).1)∧KeptX (fun b=>b=q) w w':=by
 have hq:=hC.lt
 go_enter Tryd.func36,Tryd.ntmps36
 go_upto_region 1 with fail
 have hBa:=aD w (.cells #[.slice none 0 0,.slice none 0 0,.int .i64 0,.int .i64 0] 26);have hr:(w.alloc (.cells #[.slice none 0 0,.slice none 0 0,.int .i64 0,.int .i64 0] 26)).heap[w.heap.size]?=some (.cells #[.slice none 0 0,.slice none 0 0,.int .i64 0,.int .i64 0] 26 (0,0)):=al _ rfl;have hC1:=hC.below (T:=fun b=>b=w.heap.size) hBa fun b hb=>.inr (by omega)
 have hs1:(w.alloc (.cells #[.slice none 0 0,.slice none 0 0,.int .i64 0,.int .i64 0] 26)).heap.size=w.heap.size+1:=by simp
 generalize w.alloc (.cells #[.slice none 0 0,.slice none 0 0,.int .i64 0,.int .i64 0] 26)=W1 at *;obtain⟨-,f2,f3,f4⟩:=FJ h (by omega);obtain⟨-,b2,b3,b4,b5⟩:=Ey f4 (by omega) f2 f3;have hZ1:∀{W:World},w.heap.size≤W.heap.size→∀b,Z b→b<W.heap.size:=fun hW b hb=>Kp (hZ b hb) hW
 have hcf:=Ds h (by omega) hC1 (fun b hb=>by omega) (hZ1 (by omega))
 go_upto_region 2 with (first
  | (go_at_call 54;refine hcf.mono ?_;rintro e w2 ⟨y,rfl,hy,hC2,k2⟩;have hk2s:=k2.size;have hcb:=Bs f4 (by omega) f2 f3 hC2 (fun b hb=>by omega) (hZ1 (by omega)) (Fa:=fun b=>W1.heap.size≤b∧b<w2.heap.size) (fun b hb=>⟨hb.2,by omega,by omega,fun hz=>by have:=hZ b hz;omega⟩) hy)
  | (go_at_call 53;refine hcb.mono ?_;rintro e w3 ⟨A,n,k,rfl,hob,hnb,hC3,k3⟩))
 generalize hE:bo (fo c).2 (fo c).1=bb at *;have hk3s:=k3.size;have hob':=aY (w':=w3.alloc (.cells #[.slice A n k,.slice none 0 0,.int .i64 0,.int .i64 0] 26)) hob fun b hb=>(aD w3 _).block b (hnb b hb).2
 have st:SitP Z w (w3.alloc (.cells #[.slice A n k,.slice none 0 0,.int .i64 0,.int .i64 0] 26)) q w3.heap.size bb.2 (bb.1,[],0,0) A n k none 0 0 []:=by
  have hno:∀b,¬FmS (.slice none 0 0) [] b:=fun b hb=>by
   rcases hb with hb | ⟨y,hy,_⟩
   ·cases hb
   ·simp at hy
  refine⟨al _ rfl,⟨rfl,hob',fun b hb=>by have:=(hnb b hb).1;omega,lw _ _,fun b _ hb=>hno b hb⟩,fun hb=>?_,by omega,aj _ ((k3.block _ (by omega) (by omega)).trans ((k2.block _ (by omega) (by omega)).trans hr)),?_,?_,hq,hZ⟩
  ·rcases hb with hb | hb
   ·have:=(hnb _ hb).2
    omega
   ·exact hno _ hb
  ·refine hC3.below (aD w3 _) fun b hb=>?_
   rcases hb with rfl | rfl | hb | hb
   ·exact .inr (Kh _)
   ·exact .inl (.inl rfl)
   ·exact .inl (.inr hb)
   ·exact absurd hb (hno b)
  ·have h2:=hBa
   refine⟨k3.os.trans (k2.os.trans hBa.os),k3.tape.trans (k2.tape.trans hBa.tape),k3.output.trans (k2.output.trans hBa.output),by simp;omega,fun b hb hn=>?_⟩
   rw [fk _ (by omega)];exact(k3.block b (by omega) hn).trans ((k2.block b (by omega) hn).trans (hBa.block b hb))
 have hpl:=st.hS _ (.inl rfl);have hc3:bb.2.ok (B+200):=b5.mono (by omega);clear hcf hcb hy hC1 hC2 hC3 k2 k3 hob hob' hBa hr hs1 hnb hk2s hk3s f2 f3 f4 b5;generalize w3.alloc (.cells #[.slice A n k,.slice none 0 0,.int .i64 0,.int .i64 0] 26)=W3 at *;generalize w3.heap.size=p at *;obtain⟨g,o,hA,hn,-⟩:=uS st.shop.box (i:=0) (by have:=(li.1 b2).2.2.2.1;show 0<bb.1.length;omega);replace hn:n=bb.1.length:=hn;subst hA hn;obtain⟨e0,-,-,-⟩:=ab st.box
 go_wp2
 go_loopw [19] (fun v19 wr=>∃i:Nat,v19 = .int .i64 i∧i≤bb.1.length∧SitP Z w wr q p (ups bb.2 bb.1 i).1 ((ups bb.2 bb.1 i).2,[],0,0) (some ⟨g,o,none⟩) bb.1.length k none 0 0 []) (fun v19 _=>bb.1.length - (intOf v19).toNat)
 case atStart=>exact⟨0,rfl,KA _,st⟩
 case round =>
  obtain⟨i,rfl,hil,sr⟩:=hrel;obtain⟨u1,u2,-⟩:=Bh hc3 (by omega) b4 i hil (by omega);by_cases hp:i<bb.1.length
  ·have hpi:(i:Int)<(bb.1.length:Int):=by omega
   have hco:=zy (n:=2) u1 (by omega) (by omega) sr.cur sr.hS sr.hZ;have hsucc:=Ak bb.2 bb.1 i;have hlen:=u2.len;have hw:JP.wrap ((i:Int)+1)=((i+1:Nat):Int):=by rw [ax (by omega) (by omega)];omega
   obtain⟨t,htE⟩:∃t,t=ups bb.2 bb.1 i:=⟨_,rfl⟩
   rw [←htE] at sr u1 u2 hco hsucc hlen;clear htE;cases hb:(on t.1 2).1
   ·rw [hb] at hco
    go_wp2_with (go_at_call 55;refine hco.mono ?_;rintro e w2 ⟨rfl,hC2,k2⟩)
    refine⟨⟨i+1,congrArg (Kq .i64) (by omega),hp,?_⟩,?_⟩
    ·rw [hsucc]
     unfold up5;rw [hb];exact sr.move hC2 k2
    ·show bb.1.length - ((i:Int)+1).toNat<bb.1.length - (i:Int).toNat
     omega
   ·rw [hb] at hco
    go_wp2_with (go_at_call 55;refine hco.mono ?_;rintro e w2 ⟨rfl,hC2,k2⟩;have st2:=sr.move hC2 k2;obtain⟨g',o',hA',-,-,x3,fz,hset⟩:=uS st2.shop.box (i:=i) (show i<t.2.length by omega);injection hA' with hA';injection hA' with hA1 hA2;subst hA1 hA2;have c0:=(ab st2.box).1)
    have hst3:=st2.row (a:=⟨g,o+i*4+3,none⟩) (v:=.int .i64 (JP.wrap (t.2[i].2.2.2+5))) rfl (hset _);refine⟨⟨i+1,congrArg (Kq .i64) (by omega),hp,?_⟩,?_⟩
    ·rw [hsucc]
     unfold up5;rw [hb];have hg:t.2.getD i zBx=t.2[i]:=by rw [Kr,Ku (by omega)];rfl
     rw [hg,w64];exact hst3
    ·show bb.1.length - ((i:Int)+1).toNat<bb.1.length - (i:Int).toNat
     omega
  ·have hpi:¬(i:Int)<(bb.1.length:Int):=by omega
   have hie:i=bb.1.length:=by omega
   subst hie;have hsh1:ups bb.2 bb.1 bb.1.length=sh1 c:=by unfold sh1;rw [hE]
   obtain⟨-,-,-,m4,m5⟩:=FI h hB;rw [hsh1] at sr;have hcp:=ov (n:=12) m4 (by omega) (by omega) sr.cur sr.hS sr.hZ;obtain⟨-,n1,n2,n3⟩:=rJ (n:=12) m4 (by omega) (by omega);clear hsh1 hil hp st e0 u1 u2
   go_wp2_with (go_at_call 56;refine hcp.mono ?_;rintro e w4 ⟨rfl,hC4,k4⟩;have st4:=sr.move hC4 k4)
   clear hcp sr hC4 k4
   go_loopw [5] (fun v5 wr=>∃(m:Nat) (a:Cur × Sp),v5 = .int .i64 m∧m≤11∧doN m a=sh2 c∧a.1.ok (B+1400 - 100*m)∧cm a.2∧aE a.2=true∧Jh Z w wr q p a.1 a.2) (fun v5 _=>(intOf v5).toNat)
   case atStart =>
    obtain⟨nn,hnn⟩:=Kf n1;have hok:=Ho m5;obtain⟨⟨t1,t2,t3⟩,_⟩:=gh hok;refine⟨nn,((pk (sh1 c).1 12).2,(sh1 c).2,[],0,0),by rw [hnn],by omega,?_,n3.mono (by omega),uB ⟨⟨t2,t3⟩,by simp,by simp⟩,hok,_,_,_,_,_,_,_,st4⟩
    unfold sh2;rw [hnn];rfl
   case round =>
    obtain⟨m,a,rfl,hm,hdo,hcok,hs,hok,A,n,k,A',n',k',ys,sr⟩:=hrel;by_cases hp:0<m
    ·have hpi:(0:Int)<(m:Int):=by omega
     obtain⟨-,hx20,hcok2⟩:=BM hcok (by omega);have hxs:(sst a.1).1.2.2.1.size≤9223372036854775807:=by omega
     go_upto_region 11 with fail
     go_cut [6,7] from 131 (fun t6 t7 wc=>DoC Z w q p (sst a.1).2 a.2 (stS a.2 (sst a.1).1) (mO a.2 (sst a.1).1) A n k A' n' k' ys t6 t7 wc)
     case first =>
      have st:=sr.below (ac wr);have hc:=st.cur;have hSd:=cD st.box;refine cO (l:=[_,_,_,_,_,_,_,_,_]) (o:=_) (S:=fun w'=>(w'.cell? ⟨p,0,none⟩=some (.slice A n k)∧w'.cell? ⟨p,1,none⟩=some (.slice A' n' k'))∧(w'.cell? ⟨p,2,none⟩=some (.int .i64 a.2.2.2.1)∧w'.cell? ⟨p,3,none⟩=some (.int .i64 a.2.2.2.2))) (by kernel_rfl) (by kernel_rfl) hSd (fun hHeld=>?_)
      change wpAnyH _ _ _ _ _ 9 (Ky 9 false) _ _
      generalize wr.drew=W0 at *;refine wpAnyH_take (i:=0) (oi:=_) (v:=?vd1) rfl (by kernel_rfl) (by kernel_rfl) (by kernel_rfl) (fun _ _ _ h=>h) (JY ⟨by rfl,?yd1⟩) hHeld ?rd1
      case yd1=>(intro w0 hSw;obtain⟨hSw0,hSw1⟩:=hSw;go_simp;try with_reducible rfl)
      (try simp only [JN,JI,JJ,JK])
      refine wpAnyH_take (i:=1) (oi:=_) (v:=?vd2) rfl (by kernel_rfl) (by kernel_rfl) (by kernel_rfl) (fun _ _ _ h=>h) (JY ⟨by rfl,?yd2⟩) hHeld ?rd2
      case yd2=>(intro w0 hSw;obtain⟨hSw0,hSw1⟩:=hSw;go_simp;try with_reducible rfl)
      (try simp only [JN,JI,JJ,JK])
      refine wpAnyH_ready (rs:=[2,7]) (by kernel_rfl) (by simp) ?_
      refine JO (o:=_) rfl (fun K hK=>?_) ?_
      ·go_simp
       go_at_call 58
       refine(po hcok (by omega) hc (fun b hb=>st.hS b hb) st.hZ).mono ?_
       rintro e w5 ⟨rfl,hc,k5⟩;have st:=st.move (hc.more fun b hb=>.inl hb) k5
       go_wp2_with fail
       refine hK.out _ _ ?_ (fun hHeld=>?_)
       ·exact cD st.box
       clear hK K
       (try simp only [JN,JI,JJ,JK])
       refine wpAnyH_ready (rs:=[3,7]) (by kernel_rfl) (by simp) ?_
       refine JO (o:=_) rfl (fun K hK=>?_) ?_
       ·go_simp
        go_at_call 57
        refine(rU a.2 hs hok (sst a.1).1 hxs _ _ _ st.shop.rep (fun b hb=>(st.shop.lt b hb).2)).mono ?_
        rintro e w6 ⟨v6,rfl,⟨Vb6,Vf6,zs,sa⟩,b6⟩;obtain rfl:=sa.val;obtain⟨mA,mn,mk,rfl⟩:=bQ sa.box;obtain⟨mA',mn',mk',rfl⟩:=aN sa.fms.own;have salt:=sa.lt;have hpn:¬ShS (.slice mA mn mk) (.slice mA' mn' mk') zs p:=fun hb=>by have:=(salt p hb).1;have:=st.hS p (.inl rfl);omega
        have sbase:=st.hS w.heap.size (.inr (.inl rfl));have hc:=hc.below (T:=fun b=>fi w.heap.size p (.slice A n k) (.slice A' n' k') ys b∨ShS (.slice mA mn mk) (.slice mA' mn' mk') zs b) b6 (fun b hb=>hb.imp (fun h=>h) fun h=>(salt b h).1);have st:=st.below b6
        go_wp2_with fail
        refine hK.out _ _ ?_ (fun hHeld=>?_)
        ·exact cD st.box
        clear hK K
        (try simp only [JN,JI,JJ,JK])
        refine wpAnyH_take (i:=4) (oi:=_) (v:=?vd3) rfl (by kernel_rfl) (by kernel_rfl) (by kernel_rfl) (fun _ _ _ h=>h) (JY ⟨by rfl,?yd3⟩) hHeld ?rd3
        case yd3=>(intro w0 hSw;obtain⟨hSw0,hSw1⟩:=hSw;go_simp;try with_reducible rfl)
        (try simp only [JN,JI,JJ,JK])
        refine wpAnyH_take (i:=5) (oi:=_) (v:=?vd4) rfl (by kernel_rfl) (by kernel_rfl) (by kernel_rfl) (fun _ _ _ h=>h) (JY ⟨by rfl,?yd4⟩) hHeld ?rd4
        case yd4=>(intro w0 hSw;obtain⟨hSw0,hSw1⟩:=hSw;go_simp;try with_reducible rfl)
        (try simp only [JN,JI,JJ,JK])
        refine wpAnyH_take (i:=6) (oi:=_) (v:=?vd5) rfl (by kernel_rfl) (by kernel_rfl) (by kernel_rfl) (fun _ _ _ h=>h) (JY ⟨by rfl,?yd5⟩) hHeld ?rd5
        case yd5=>(intro w0 hSw;obtain⟨hSw0,hSw1⟩:=hSw;go_simp;try with_reducible rfl)
        (try simp only [JN,JI,JJ,JK])
        refine wpAnyH_ready (rs:=[7]) (by kernel_rfl) (by simp) ?_
        refine JO (o:=_) rfl (fun K hK=>?_) ?_
        ·go_simp
         have hq:(w6.alloc (.cells #[.slice none 0 0,.slice none 0 0,.int .i64 0,.int .i64 0] 26)).heap[w6.heap.size]?=some (.cells #[.slice none 0 0,.slice none 0 0,.int .i64 0,.int .i64 0] 26 (0,0)):=al _ rfl;have hqm:¬fi w.heap.size p (.slice A n k) (.slice A' n' k') ys w6.heap.size:=fun hb=>by have:=st.hS _ hb;omega
         have hqw:w.heap.size≤w6.heap.size:=by have:=st.hS w.heap.size (.inr (.inl rfl));omega
         have hqp:w6.heap.size≠p:=fun e=>by have:=st.hS p (.inl rfl);omega
         have hqr:w6.heap.size≠w.heap.size:=fun e=>by have:=st.hS w.heap.size (.inr (.inl rfl));omega
         have hqq:w6.heap.size≠q:=fun e=>by have:=st.hS w.heap.size (.inr (.inl rfl));omega
         have st9:=st;have hc9:=hc;have hqn:∀b,ShS (.slice mA mn mk) (.slice mA' mn' mk') zs b→w6.heap.size≠b:=fun b hb=>by have:=(salt b hb).2;omega
         have hc:=hc.below (T:=fun b=>(fi w.heap.size p (.slice A n k) (.slice A' n' k') ys b∨ShS (.slice mA mn mk) (.slice mA' mn' mk') zs b)∨b=w6.heap.size) (aD w6 (.cells #[.slice none 0 0,.slice none 0 0,.int .i64 0,.int .i64 0] 26)) (fun b hb=>hb.imp (fun h=>h) fun h=>by omega);have st:=st.below (aD w6 (.cells #[.slice none 0 0,.slice none 0 0,.int .i64 0,.int .i64 0] 26));refine hK.out _ _ ?_ (fun hHeld=>?_)
         ·exact cD st.box
         clear hK K
         (try simp only [JN,JI,JJ,JK])
         refine wpAnyH_ready (rs:=[8]) (by kernel_rfl) (by simp) ?_
         refine JO (o:=_) rfl (fun K hK=>?_) ?_
         ·obtain⟨g0,g1,g2,g3⟩:=ab hq
          obtain⟨j0,j1,j2,j3⟩:=aZ hq
          go_simp
          replace hq:(w6.alloc (.cells #[.slice mA mn mk,.slice mA' mn' mk',.int .i64 (stS a.2 (sst a.1).1).2.2.1,.int .i64 (stS a.2 (sst a.1).1).2.2.2] 26)).heap[w6.heap.size]?=some (.cells #[.slice mA mn mk,.slice mA' mn' mk',.int .i64 (stS a.2 (sst a.1).1).2.2.1,.int .i64 (stS a.2 (sst a.1).1).2.2.2] 26 (0,0)):=al _ rfl;have st:=st9.below (aD w6 (.cells #[.slice mA mn mk,.slice mA' mn' mk',.int .i64 (stS a.2 (sst a.1).1).2.2.1,.int .i64 (stS a.2 (sst a.1).1).2.2.2] 26));have hc:=hc9.below (T:=fun b=>fi w.heap.size p (.slice A n k) (.slice A' n' k') ys b∨b=w6.heap.size∨ShS (.slice mA mn mk) (.slice mA' mn' mk') zs b) (aD w6 (.cells #[.slice mA mn mk,.slice mA' mn' mk',.int .i64 (stS a.2 (sst a.1).1).2.2.1,.int .i64 (stS a.2 (sst a.1).1).2.2.2] 26)) (fun b hb=>by
           rcases hb with hb | rfl | hb
           ·exact .inl (.inl hb)
           ·exact .inr (Kh _)
           ·exact .inl (.inr hb))
          replace sa:=sa.below (aD w6 (.cells #[.slice mA mn mk,.slice mA' mn' mk',.int .i64 (stS a.2 (sst a.1).1).2.2.1,.int .i64 (stS a.2 (sst a.1).1).2.2.2] 26));clear g0 g1 g2 g3 j0 j1 j2 j3;refine hK.out _ _ ?_ (fun hHeld=>?_)
          ·exact cD st.box
          clear hK K
          (try simp only [JN,JI,JJ,JK])
          refine bH (by kernel_rfl) ?_
          go_simp
          go_wp2
          go_meet
          case rel =>
           exact⟨_,_,_,_,_,_,_,_,rfl,rfl,st,hq,sa.base (by omega),hpn,fun hb=>hqn _ hb rfl,⟨hqp,hqr,hqq⟩,hc.more fun b hb=>.inl hb⟩
         exact JQ
        exact JQ
       refine JO (o:=_) rfl (fun K hK=>?_) ?_
       ·go_simp
        have hq:(w5.alloc (.cells #[.slice none 0 0,.slice none 0 0,.int .i64 0,.int .i64 0] 26)).heap[w5.heap.size]?=some (.cells #[.slice none 0 0,.slice none 0 0,.int .i64 0,.int .i64 0] 26 (0,0)):=al _ rfl;have hqm:¬fi w.heap.size p (.slice A n k) (.slice A' n' k') ys w5.heap.size:=fun hb=>by have:=st.hS _ hb;omega
        have hqw:w.heap.size≤w5.heap.size:=by have:=st.hS w.heap.size (.inr (.inl rfl));omega
        have hqp:w5.heap.size≠p:=fun e=>by have:=st.hS p (.inl rfl);omega
        have hqr:w5.heap.size≠w.heap.size:=fun e=>by have:=st.hS w.heap.size (.inr (.inl rfl));omega
        have hqq:w5.heap.size≠q:=fun e=>by have:=st.hS w.heap.size (.inr (.inl rfl));omega
        have hc:=hc.below (T:=fun b=>fi w.heap.size p (.slice A n k) (.slice A' n' k') ys b∨b=w5.heap.size) (aD w5 (.cells #[.slice none 0 0,.slice none 0 0,.int .i64 0,.int .i64 0] 26)) (fun b hb=>hb.imp (fun h=>h) fun h=>by omega);have st:=st.below (aD w5 (.cells #[.slice none 0 0,.slice none 0 0,.int .i64 0,.int .i64 0] 26));refine hK.out _ _ ?_ (fun hHeld=>?_)
        ·exact cD st.box
        clear hK K
        (try simp only [JN,JI,JJ,JK])
        refine wpAnyH_ready (rs:=[3]) (by kernel_rfl) (by simp) ?_
        refine JO (o:=_) rfl (fun K hK=>?_) ?_
        ·go_simp
         go_at_call 57
         refine(rU a.2 hs hok (sst a.1).1 hxs _ _ _ st.shop.rep (fun b hb=>(st.shop.lt b hb).2)).mono ?_
         rintro e w6 ⟨v6,rfl,⟨Vb6,Vf6,zs,sa⟩,b6⟩;obtain rfl:=sa.val;obtain⟨mA,mn,mk,rfl⟩:=bQ sa.box;obtain⟨mA',mn',mk',rfl⟩:=aN sa.fms.own;have salt:=sa.lt;have hpn:¬ShS (.slice mA mn mk) (.slice mA' mn' mk') zs p:=fun hb=>by have:=(salt p hb).1;have:=st.hS p (.inl rfl);omega
         have sbase:=st.hS w.heap.size (.inr (.inl rfl));have hqn:∀b,ShS (.slice mA mn mk) (.slice mA' mn' mk') zs b→w5.heap.size≠b:=fun b hb=>by have:=(salt b hb).1;have:=bz hq;omega
         replace hq:=Below.some b6 hq;have hc:=hc.below (T:=fun b=>(fi w.heap.size p (.slice A n k) (.slice A' n' k') ys b∨b=w5.heap.size)∨ShS (.slice mA mn mk) (.slice mA' mn' mk') zs b) b6 (fun b hb=>hb.imp (fun h=>h) fun h=>(salt b h).1);have st:=st.below b6
         go_wp2_with fail
         refine hK.out _ _ ?_ (fun hHeld=>?_)
         ·exact cD st.box
         clear hK K
         (try simp only [JN,JI,JJ,JK])
         refine wpAnyH_take (i:=4) (oi:=_) (v:=?vd6) rfl (by kernel_rfl) (by kernel_rfl) (by kernel_rfl) (fun _ _ _ h=>h) (JY ⟨by rfl,?yd6⟩) hHeld ?rd6
         case yd6=>(intro w0 hSw;obtain⟨hSw0,hSw1⟩:=hSw;go_simp;try with_reducible rfl)
         (try simp only [JN,JI,JJ,JK])
         refine wpAnyH_take (i:=5) (oi:=_) (v:=?vd7) rfl (by kernel_rfl) (by kernel_rfl) (by kernel_rfl) (fun _ _ _ h=>h) (JY ⟨by rfl,?yd7⟩) hHeld ?rd7
         case yd7=>(intro w0 hSw;obtain⟨hSw0,hSw1⟩:=hSw;go_simp;try with_reducible rfl)
         (try simp only [JN,JI,JJ,JK])
         refine wpAnyH_take (i:=6) (oi:=_) (v:=?vd8) rfl (by kernel_rfl) (by kernel_rfl) (by kernel_rfl) (fun _ _ _ h=>h) (JY ⟨by rfl,?yd8⟩) hHeld ?rd8
         case yd8=>(intro w0 hSw;obtain⟨hSw0,hSw1⟩:=hSw;go_simp;try with_reducible rfl)
         (try simp only [JN,JI,JJ,JK])
         refine wpAnyH_ready (rs:=[8]) (by kernel_rfl) (by simp) ?_
         refine JO (o:=_) rfl (fun K hK=>?_) ?_
         ·obtain⟨g0,g1,g2,g3⟩:=ab hq
          obtain⟨j0,j1,j2,j3⟩:=aZ hq
          go_simp
          have hnq:¬((fi w.heap.size p (.slice A n k) (.slice A' n' k') ys q∨q=w5.heap.size)∨ShS (.slice mA mn mk) (.slice mA' mn' mk') zs q):=fun hb=>by
           rcases hb with (hb | hb) | hb
           ·exact st.nq hb
           ·exact hqq hb.symm
           ·have:=(salt q hb).1
            have:=st.qlt;omega
          have hc:=(((hc.set hnq ⟨w5.heap.size,0,none⟩ (.slice mA mn mk) (.inl (.inr rfl))).set hnq ⟨w5.heap.size,1,none⟩ (.slice mA' mn' mk') (.inl (.inr rfl))).set hnq ⟨w5.heap.size,2,none⟩ (.int .i64 (stS a.2 (sst a.1).1).2.2.1) (.inl (.inr rfl))).set hnq ⟨w5.heap.size,3,none⟩ (.int .i64 (stS a.2 (sst a.1).1).2.2.2) (.inl (.inr rfl));have st:=st.other4 (.slice mA mn mk) (.slice mA' mn' mk') (.int .i64 (stS a.2 (sst a.1).1).2.2.1) (.int .i64 (stS a.2 (sst a.1).1).2.2.2) hqm hqw (hc.more fun b hb=>.inl (.inl (.inl hb)));have hc:=hc.more (T:=fun b=>fi w.heap.size p (.slice A n k) (.slice A' n' k') ys b∨b=w5.heap.size∨ShS (.slice mA mn mk) (.slice mA' mn' mk') zs b) fun b hb=>.inl (by
           rcases hb with hb | hb | hb
           ·exact .inl (.inl hb)
           ·exact .inl (.inr hb)
           ·exact .inr hb)
          have hq:=aK (.slice mA mn mk) (.slice mA' mn' mk') (.int .i64 (stS a.2 (sst a.1).1).2.2.1) (.int .i64 (stS a.2 (sst a.1).1).2.2.2) hq;replace sa:=sa.set4 (.slice mA mn mk) (.slice mA' mn' mk') (.int .i64 (stS a.2 (sst a.1).1).2.2.1) (.int .i64 (stS a.2 (sst a.1).1).2.2.2) hqn;clear g0 g1 g2 g3 j0 j1 j2 j3;refine hK.out _ _ ?_ (fun hHeld=>?_)
          ·exact cD st.box
          clear hK K
          (try simp only [JN,JI,JJ,JK])
          refine bH (by kernel_rfl) ?_
          go_simp
          go_wp2
          go_meet
          case rel =>
           exact⟨_,_,_,_,_,_,_,_,rfl,rfl,st,hq,sa.base (by omega),hpn,fun hb=>hqn _ hb rfl,⟨hqp,hqr,hqq⟩,hc.more fun b hb=>.inl hb⟩
         exact JQ
        exact JQ
       exact JQ
      refine JO (o:=_) rfl (fun K hK=>?_) ?_
      ·go_simp
       have hq:(W0.alloc (.cells #[.slice none 0 0,.slice none 0 0,.int .i64 0,.int .i64 0] 26)).heap[W0.heap.size]?=some (.cells #[.slice none 0 0,.slice none 0 0,.int .i64 0,.int .i64 0] 26 (0,0)):=al _ rfl;have hqm:¬fi w.heap.size p (.slice A n k) (.slice A' n' k') ys W0.heap.size:=fun hb=>by have:=st.hS _ hb;omega
       have hqw:w.heap.size≤W0.heap.size:=by have:=st.hS w.heap.size (.inr (.inl rfl));omega
       have hqp:W0.heap.size≠p:=fun e=>by have:=st.hS p (.inl rfl);omega
       have hqr:W0.heap.size≠w.heap.size:=fun e=>by have:=st.hS w.heap.size (.inr (.inl rfl));omega
       have hqq:W0.heap.size≠q:=fun e=>by have:=st.hS w.heap.size (.inr (.inl rfl));omega
       have hc:=hc.below (T:=fun b=>fi w.heap.size p (.slice A n k) (.slice A' n' k') ys b∨b=W0.heap.size) (aD W0 (.cells #[.slice none 0 0,.slice none 0 0,.int .i64 0,.int .i64 0] 26)) (fun b hb=>hb.imp (fun h=>h) fun h=>by omega);have st:=st.below (aD W0 (.cells #[.slice none 0 0,.slice none 0 0,.int .i64 0,.int .i64 0] 26));refine hK.out _ _ ?_ (fun hHeld=>?_)
       ·exact cD st.box
       clear hK K
       (try simp only [JN,JI,JJ,JK])
       refine wpAnyH_ready (rs:=[2]) (by kernel_rfl) (by simp) ?_
       refine JO (o:=_) rfl (fun K hK=>?_) ?_
       ·go_simp
        go_at_call 58
        refine(po hcok (by omega) hc (fun b hb=>by rcases hb with hb | rfl;exact st.hS b hb;exact bz hq) st.hZ).mono ?_
        rintro e w5 ⟨rfl,hc,k5⟩;have st:=st.move (hc.more fun b hb=>.inl (.inl hb)) k5;replace hq:=KeptX.some k5 hq hqq
        go_wp2_with fail
        refine hK.out _ _ ?_ (fun hHeld=>?_)
        ·exact cD st.box
        clear hK K
        (try simp only [JN,JI,JJ,JK])
        refine wpAnyH_ready (rs:=[3]) (by kernel_rfl) (by simp) ?_
        refine JO (o:=_) rfl (fun K hK=>?_) ?_
        ·go_simp
         go_at_call 57
         refine(rU a.2 hs hok (sst a.1).1 hxs _ _ _ st.shop.rep (fun b hb=>(st.shop.lt b hb).2)).mono ?_
         rintro e w6 ⟨v6,rfl,⟨Vb6,Vf6,zs,sa⟩,b6⟩;obtain rfl:=sa.val;obtain⟨mA,mn,mk,rfl⟩:=bQ sa.box;obtain⟨mA',mn',mk',rfl⟩:=aN sa.fms.own;have salt:=sa.lt;have hpn:¬ShS (.slice mA mn mk) (.slice mA' mn' mk') zs p:=fun hb=>by have:=(salt p hb).1;have:=st.hS p (.inl rfl);omega
         have sbase:=st.hS w.heap.size (.inr (.inl rfl));have hqn:∀b,ShS (.slice mA mn mk) (.slice mA' mn' mk') zs b→W0.heap.size≠b:=fun b hb=>by have:=(salt b hb).1;have:=bz hq;omega
         replace hq:=Below.some b6 hq;have hc:=hc.below (T:=fun b=>(fi w.heap.size p (.slice A n k) (.slice A' n' k') ys b∨b=W0.heap.size)∨ShS (.slice mA mn mk) (.slice mA' mn' mk') zs b) b6 (fun b hb=>hb.imp (fun h=>h) fun h=>(salt b h).1);have st:=st.below b6
         go_wp2_with fail
         refine hK.out _ _ ?_ (fun hHeld=>?_)
         ·exact cD st.box
         clear hK K
         (try simp only [JN,JI,JJ,JK])
         refine wpAnyH_take (i:=4) (oi:=_) (v:=?vd9) rfl (by kernel_rfl) (by kernel_rfl) (by kernel_rfl) (fun _ _ _ h=>h) (JY ⟨by rfl,?yd9⟩) hHeld ?rd9
         case yd9=>(intro w0 hSw;obtain⟨hSw0,hSw1⟩:=hSw;go_simp;try with_reducible rfl)
         (try simp only [JN,JI,JJ,JK])
         refine wpAnyH_take (i:=5) (oi:=_) (v:=?vd10) rfl (by kernel_rfl) (by kernel_rfl) (by kernel_rfl) (fun _ _ _ h=>h) (JY ⟨by rfl,?yd10⟩) hHeld ?rd10
         case yd10=>(intro w0 hSw;obtain⟨hSw0,hSw1⟩:=hSw;go_simp;try with_reducible rfl)
         (try simp only [JN,JI,JJ,JK])
         refine wpAnyH_take (i:=6) (oi:=_) (v:=?vd11) rfl (by kernel_rfl) (by kernel_rfl) (by kernel_rfl) (fun _ _ _ h=>h) (JY ⟨by rfl,?yd11⟩) hHeld ?rd11
         case yd11=>(intro w0 hSw;obtain⟨hSw0,hSw1⟩:=hSw;go_simp;try with_reducible rfl)
         (try simp only [JN,JI,JJ,JK])
         refine wpAnyH_ready (rs:=[8]) (by kernel_rfl) (by simp) ?_
         refine JO (o:=_) rfl (fun K hK=>?_) ?_
         ·obtain⟨g0,g1,g2,g3⟩:=ab hq
          obtain⟨j0,j1,j2,j3⟩:=aZ hq
          go_simp
          have hnq:¬((fi w.heap.size p (.slice A n k) (.slice A' n' k') ys q∨q=W0.heap.size)∨ShS (.slice mA mn mk) (.slice mA' mn' mk') zs q):=fun hb=>by
           rcases hb with (hb | hb) | hb
           ·exact st.nq hb
           ·exact hqq hb.symm
           ·have:=(salt q hb).1
            have:=st.qlt;omega
          have hc:=(((hc.set hnq ⟨W0.heap.size,0,none⟩ (.slice mA mn mk) (.inl (.inr rfl))).set hnq ⟨W0.heap.size,1,none⟩ (.slice mA' mn' mk') (.inl (.inr rfl))).set hnq ⟨W0.heap.size,2,none⟩ (.int .i64 (stS a.2 (sst a.1).1).2.2.1) (.inl (.inr rfl))).set hnq ⟨W0.heap.size,3,none⟩ (.int .i64 (stS a.2 (sst a.1).1).2.2.2) (.inl (.inr rfl));have st:=st.other4 (.slice mA mn mk) (.slice mA' mn' mk') (.int .i64 (stS a.2 (sst a.1).1).2.2.1) (.int .i64 (stS a.2 (sst a.1).1).2.2.2) hqm hqw (hc.more fun b hb=>.inl (.inl (.inl hb)));have hc:=hc.more (T:=fun b=>fi w.heap.size p (.slice A n k) (.slice A' n' k') ys b∨b=W0.heap.size∨ShS (.slice mA mn mk) (.slice mA' mn' mk') zs b) fun b hb=>.inl (by
           rcases hb with hb | hb | hb
           ·exact .inl (.inl hb)
           ·exact .inl (.inr hb)
           ·exact .inr hb)
          have hq:=aK (.slice mA mn mk) (.slice mA' mn' mk') (.int .i64 (stS a.2 (sst a.1).1).2.2.1) (.int .i64 (stS a.2 (sst a.1).1).2.2.2) hq;replace sa:=sa.set4 (.slice mA mn mk) (.slice mA' mn' mk') (.int .i64 (stS a.2 (sst a.1).1).2.2.1) (.int .i64 (stS a.2 (sst a.1).1).2.2.2) hqn;clear g0 g1 g2 g3 j0 j1 j2 j3;refine hK.out _ _ ?_ (fun hHeld=>?_)
          ·exact cD st.box
          clear hK K
          (try simp only [JN,JI,JJ,JK])
          refine bH (by kernel_rfl) ?_
          go_simp
          go_wp2
          go_meet
          case rel =>
           exact⟨_,_,_,_,_,_,_,_,rfl,rfl,st,hq,sa.base (by omega),hpn,fun hb=>hqn _ hb rfl,⟨hqp,hqr,hqq⟩,hc.more fun b hb=>.inl hb⟩
         exact JQ
        exact JQ
       exact JQ
      exact JQ
     case rest =>
      obtain⟨q6,B1,m1,j1,B2,m2,j2,zs,rfl,rfl,st,hn⟩:=hcut;have hX:=cD st.box;obtain⟨i0,i1,i2,i3⟩:=ab st.box;obtain⟨l0,l1,l2,l3⟩:=aZ st.box;obtain⟨d0,d1,d2,d3⟩:=ab hn.box;obtain⟨m',hm'⟩:∃m',m=m'+1:=⟨m - 1,by omega⟩
      subst hm';have hdo':doN m' (doF a)=sh2 c:=hdo;obtain⟨h1,h2,h3⟩:=EU hcok (by omega) ⟨hs,hok⟩;cases hst:mO a.2 (sst a.1).1
      ·go_wp2
       refine⟨⟨m',doF a,congrArg (Kq .i64) (by omega),by omega,hdo',h1.mono (by omega),h2,h3,?_⟩,?_⟩
       ·have e:doF a=((sst a.1).2,a.2):=by unfold doF;rw [hst];rfl
        rw [e];exact⟨_,_,_,_,_,_,_,st⟩
       ·show((m':Nat):Int).toNat<((m'+1:Nat):Int).toNat
        omega
      ·go_wp2
       refine⟨⟨m',doF a,congrArg (Kq .i64) (by omega),by omega,hdo',h1.mono (by omega),h2,h3,?_⟩,?_⟩
       ·have e:doF a=((sst a.1).2,stS a.2 (sst a.1).1):=by unfold doF;rw [hst];rfl
        rw [e];exact⟨_,_,_,_,_,_,_,st.swap hn⟩
       ·show((m':Nat):Int).toNat<((m'+1:Nat):Int).toNat
        omega
    ·have hm0:m=0:=by omega
     subst hm0;have hdoH:Hid (a=sh2 c):=hdo;clear hdo hs;have hck:=hcok.mono (show B+1400 - 100*0≤B+1400 by omega);have hcp:=ov (n:=30) hck (by omega) (by omega) sr.cur sr.hS sr.hZ;obtain⟨-,n1',n2',n3'⟩:=rJ (n:=30) hck (by omega) (by omega)
     go_upto_block 4 with (go_at_call 56;refine hcp.mono ?_;rintro e w5 ⟨rfl,hC5,k5⟩;have st5:=sr.move hC5 k5)
     clear hcp hC5 k5 sr;obtain⟨k0,hk0⟩:∃k0,(pk a.1 30).1=k0:=⟨_,rfl⟩
     obtain⟨ck,hk1⟩:∃ck,(pk a.1 30).2=ck:=⟨_,rfl⟩
     have hkE:pk a.1 30=(k0,ck):=by rw [←hk0,←hk1]
     rw [hk1] at n3' st5;rw [hk0] at n1' n2' ⊢;clear hk0 hk1
     go_cut [] from 131 (fun wc=>Jh Z w wc q p (fin (k0,ck) a.2).1 (fin (k0,ck) a.2).2)
     case first =>
      have row3:∀(x y z:Int) (W:World),aT (W.alloc (.cells #[.int .i64 x,.int .i64 y,.int .i64 z] 3)) (fun b=>b=W.heap.size) (ll [x,y,z]) (.slice (some ⟨W.heap.size,0,none⟩) 3 3):=fun x y z W =>
       At _ [x,y,z] 3 (Kh _) 3 (al _ rfl) (fun i v hi=>by
        match i,hi with
        | 0,hi=>cases hi;rfl
        | 1,hi=>cases hi;rfl
        | 2,hi=>cases hi;rfl)
      have am3:∀{W:World} {cu:Cur} {C:Nat} {s:Sp} {A:Option Addr} {n k:Nat} {A':Option Addr} {n' k':Nat} {ys:List Value} (x y z:Int),SitP Z w W q p cu s A n k A' n' k' ys→cu.ok C→C≤100000000 →
        Calls Tryd.prog 37 #[.pointer (some ⟨q,0,none⟩),.slice (some ⟨W.heap.size,0,none⟩) 3 3] (W.alloc (.cells #[.int .i64 x,.int .i64 y,.int .i64 z] 3)) fun e w'=>e = .returned (.int .i64 (am cu [x,y,z]).1)∧SitP Z w w' q p (am cu [x,y,z]).2 s A n k A' n' k' ys:=fun {W cu C s A n k A' n' k' ys} x y z hst hcu hC=>by
       have hsa:=hst.below (aD W (.cells #[.int .i64 x,.int .i64 y,.int .i64 z] 3));refine(pQ (Fa:=fun b=>b=W.heap.size) hcu (by omega) (l:=[x,y,z]) (by simp) (by simp) hsa.cur hsa.hS hsa.hZ (fun b hb=>?_) (row3 x y z W)).mono ?_
       ·have hr:=hst.hS w.heap.size (.inr (.inl rfl))
        have hq1:=hst.qlt;refine⟨by simp;omega,by omega,fun h=>?_,fun hz=>?_⟩
        ·have:=hst.hS b h
         omega
        ·have:=hst.zlt b hz
         omega
       ·rintro e w' ⟨rfl,hC',k'⟩
        exact⟨rfl,hsa.move hC' k'⟩
      have am2:∀{W:World} {cu:Cur} {C:Nat} {s:Sp} {A:Option Addr} {n k:Nat} {A':Option Addr} {n' k':Nat} {ys:List Value} (x y:Int),SitP Z w W q p cu s A n k A' n' k' ys→cu.ok C→C≤100000000 →
        Calls Tryd.prog 37 #[.pointer (some ⟨q,0,none⟩),.slice (some ⟨W.heap.size,0,none⟩) 2 2] (W.alloc (.cells #[.int .i64 x,.int .i64 y] 3)) fun e w'=>e = .returned (.int .i64 (am cu [x,y]).1)∧SitP Z w w' q p (am cu [x,y]).2 s A n k A' n' k' ys:=fun {W cu C s A n k A' n' k' ys} x y hst hcu hC=>by
       have hsa:=hst.below (aD W (.cells #[.int .i64 x,.int .i64 y] 3));refine(pQ (Fa:=fun b=>b=W.heap.size) hcu (by omega) (l:=[x,y]) (by simp) (by simp) hsa.cur hsa.hS hsa.hZ (fun b hb=>?_) (At _ [x,y] 2 (Kh _) 3 (al _ rfl) (fun i v hi=>by
        match i,hi with
        | 0,hi=>cases hi;rfl
        | 1,hi=>cases hi;rfl))).mono ?_
       ·have hr:=hst.hS w.heap.size (.inr (.inl rfl))
        have hq1:=hst.qlt;refine⟨by simp;omega,by omega,fun h=>?_,fun hz=>?_⟩
        ·have:=hst.hS b h
         omega
        ·have:=hst.zlt b hz
         omega
       ·rintro e w' ⟨rfl,hC',k'⟩
        exact⟨rfl,hsa.move hC' k'⟩
      by_cases q0:k0=0
      ·subst q0
       have hfin:fin (0,ck) a.2=((am ck [9999,10000,-1]).2,a.2.1,a.2.2.1,(am ck [9999,10000,-1]).1,a.2.2.2.2):=rfl;have hca:=am3 9999 10000 (-1) st5 n3' (by omega)
       go_wp2_with (go_at_call 37;refine hca.mono ?_;rintro e w6 ⟨rfl,st6⟩;obtain⟨d0,d1,d2,d3⟩:=ab st6.box;obtain⟨l0,l1,l2,l3⟩:=aZ st6.box)
       go_meet
       case rel =>
        rw [hfin];exact⟨_,_,_,_,_,_,_,st6.cell 2 _ _ _ rfl⟩
      by_cases q1:k0=1
      ·subst q1
       have hfin:fin (1,ck) a.2=((am ck [1000000,1000001,-1]).2,a.2.1,a.2.2.1,a.2.2.2.1,(am ck [1000000,1000001,-1]).1):=rfl;have hca:=am3 1000000 1000001 (-1) st5 n3' (by omega)
       go_wp2_with (go_at_call 37;refine hca.mono ?_;rintro e w6 ⟨rfl,st6⟩;obtain⟨d0,d1,d2,d3⟩:=ab st6.box;obtain⟨l0,l1,l2,l3⟩:=aZ st6.box)
       go_meet
       case rel =>
        rw [hfin];exact⟨_,_,_,_,_,_,_,st6.cell 3 _ _ _ rfl⟩
      by_cases q2:k0=2
      ·subst q2
       have hfin:fin (2,ck) a.2=((am ck [9999,10000,-1]).2,a.2.1.set 0 (pO (a.2.1.getD 0 zBx) (am ck [9999,10000,-1]).1),a.2.2.1,a.2.2.2.1,a.2.2.2.2):=rfl;have hl0:=(gh hok).1.1;obtain⟨g1,o1,hA1,hn1,-⟩:=uS st5.shop.box (i:=0) (by omega);subst hA1 hn1;have hlp:0<a.2.1.length:=by omega
       go_upto_region 20 with fail
       have st:=st5.below (ac w5);have hSd:=cD st.box;refine cO (l:=[_,_,_,_,_,_,_]) (o:=_) (S:=fun w'=>(w'.cell? ⟨p,0,none⟩=some (.slice (some ⟨g1,o1,none⟩) a.2.1.length k)∧w'.cell? ⟨p,1,none⟩=some (.slice A' n' k'))∧(w'.cell? ⟨p,2,none⟩=some (.int .i64 a.2.2.2.1)∧w'.cell? ⟨p,3,none⟩=some (.int .i64 a.2.2.2.2))) (by kernel_rfl) (by kernel_rfl) hSd (fun hHeld=>?_)
       change wpAnyH _ _ _ _ _ 7 (Ky 7 false) _ _
       generalize w5.drew=W0 at *;refine wpAnyH_take (i:=0) (oi:=_) (v:=?ve1) rfl (by kernel_rfl) (by kernel_rfl) (by kernel_rfl) (fun _ _ _ h=>h) (JY ⟨by rfl,?ye1⟩) hHeld ?re1
       case ye1=>(intro w0 hSw;obtain⟨hSw0,hSw1⟩:=hSw;go_simp;(try rw [if_pos hlp]);try with_reducible rfl)
       (try simp only [JN,JI,JJ,JK])
       refine wpAnyH_take (i:=1) (oi:=_) (v:=?ve2) rfl (by kernel_rfl) (by kernel_rfl) (by kernel_rfl) (fun _ _ _ h=>h) (JY ⟨by rfl,?ye2⟩) hHeld ?re2
       case ye2=>(intro w0 hSw;obtain⟨hSw0,hSw1⟩:=hSw;go_simp;(try rw [if_pos hlp]);try with_reducible rfl)
       (try simp only [JN,JI,JJ,JK])
       refine wpAnyH_take (i:=2) (oi:=_) (v:=?ve3) rfl (by kernel_rfl) (by kernel_rfl) (by kernel_rfl) (fun _ _ _ h=>h) (JY ⟨by rfl,?ye3⟩) hHeld ?re3
       case ye3=>(intro w0 hSw;obtain⟨hSw0,hSw1⟩:=hSw;go_simp;(try rw [if_pos hlp]);try with_reducible rfl)
       (try simp only [JN,JI,JJ,JK])
       refine wpAnyH_ready (rs:=[3]) (by kernel_rfl) (by simp) ?_
       refine JO (o:=_) rfl (fun K hK=>?_) ?_
       ·go_simp
        have sta:=st.below (aD W0 (.cells #[.int .i64 9999,.int .i64 10000,.int .i64 (-1)] 3));refine hK.out _ _ ?_ (fun hHeld=>?_)
        ·exact cD sta.box
        clear hK K
        (try simp only [JN,JI,JJ,JK])
        refine wpAnyH_ready (rs:=[4]) (by kernel_rfl) (by simp) ?_
        refine JO (o:=_) rfl (fun K hK=>?_) ?_
        ·go_simp
         go_at_call 37
         refine(am3 9999 10000 (-1) st n3' (by omega)).mono ?_
         rintro e w6 ⟨rfl,st6⟩
         go_wp2_with fail
         refine hK.out _ _ ?_ (fun hHeld=>?_)
         ·exact cD st6.box
         clear hK K
         (try simp only [JN,JI,JJ,JK])
         refine wpAnyH_take (i:=5) (oi:=_) (v:=?ve4) rfl (by kernel_rfl) (by kernel_rfl) (by kernel_rfl) (fun _ _ _ h=>h) (JY ⟨by rfl,?ye4⟩) hHeld ?re4
         case ye4=>(intro w0 hSw;obtain⟨hSw0,hSw1⟩:=hSw;go_simp;(try rw [if_pos hlp]);try with_reducible rfl)
         (try simp only [JN,JI,JJ,JK])
         refine wpAnyH_take (i:=6) (oi:=_) (v:=?ve5) rfl (by kernel_rfl) (by kernel_rfl) (by kernel_rfl) (fun _ _ _ h=>h) (JY ⟨by rfl,?ye5⟩) hHeld ?re5
         case ye5=>(intro w0 hSw;obtain⟨hSw0,hSw1⟩:=hSw;go_simp;(try rw [if_pos hlp]);try with_reducible rfl)
         (try simp only [JN,JI,JJ,JK])
         refine bH (by kernel_rfl) ?_
         obtain⟨-,x3,fz,hset⟩:=Cs st6.shop.box hlp
         go_simp
         go_wp2
         go_meet
         case rel =>
          rw [hfin];exact⟨_,_,_,_,_,_,_,st6.row rfl (hset _)⟩
        exact JQ
       exact JQ
      by_cases q3:k0=3
      ·subst q3
       have hfin:fin (3,ck) a.2=((on (am ck [99,1]).2 2).2,a.2.1,a.2.2.1++[((am ck [99,1]).1,[],(on (am ck [99,1]).2 2).1,0)],a.2.2.2.1,a.2.2.2.2):=rfl;obtain⟨-,-,hc99⟩:=vN (l:=[99,1]) n3' (by omega) (by simp) (by simp);have f5:=(gh hok).2.1;obtain⟨i2,hi2,hx0,hx1,hx2⟩:=info_parts ij
       go_upto_region 22 with fail
       have st:=st5.below (ac w5);have hSd:=cD st.box;refine cO (l:=[_,_,_,_,_,_,_,_,_,_,_]) (o:=_) (S:=fun w'=>(w'.cell? ⟨p,0,none⟩=some (.slice A n k)∧w'.cell? ⟨p,1,none⟩=some (.slice A' n' k'))∧(w'.cell? ⟨p,2,none⟩=some (.int .i64 a.2.2.2.1)∧w'.cell? ⟨p,3,none⟩=some (.int .i64 a.2.2.2.2))) (by kernel_rfl) (by kernel_rfl) hSd (fun hHeld=>?_)
       change wpAnyH _ _ _ _ _ 11 (Ky 11 false) _ _
       generalize w5.drew=W0 at *;refine wpAnyH_take (i:=0) (oi:=_) (v:=?vf1) rfl (by kernel_rfl) (by kernel_rfl) (by kernel_rfl) (fun _ _ _ h=>h) (JY ⟨by rfl,?yf1⟩) hHeld ?rf1
       case yf1=>(intro w0 hSw;obtain⟨hSw0,hSw1⟩:=hSw;go_simp;try with_reducible rfl)
       (try simp only [JN,JI,JJ,JK])
       refine wpAnyH_take (i:=1) (oi:=_) (v:=?vf2) rfl (by kernel_rfl) (by kernel_rfl) (by kernel_rfl) (fun _ _ _ h=>h) (JY ⟨by rfl,?yf2⟩) hHeld ?rf2
       case yf2=>(intro w0 hSw;obtain⟨hSw0,hSw1⟩:=hSw;go_simp;try with_reducible rfl)
       (try simp only [JN,JI,JJ,JK])
       refine wpAnyH_take (i:=2) (oi:=_) (v:=?vf3) rfl (by kernel_rfl) (by kernel_rfl) (by kernel_rfl) (fun _ _ _ h=>h) (JY ⟨by rfl,?yf3⟩) hHeld ?rf3
       case yf3=>(intro w0 hSw;obtain⟨hSw0,hSw1⟩:=hSw;go_simp;try with_reducible rfl)
       (try simp only [JN,JI,JJ,JK])
       refine wpAnyH_take (i:=5) (oi:=_) (v:=?vf4) rfl (by kernel_rfl) (by kernel_rfl) (by kernel_rfl) (fun _ _ _ h=>h) (JY ⟨by rfl,?yf4⟩) hHeld ?rf4
       case yf4=>(intro w0 hSw;obtain⟨hSw0,hSw1⟩:=hSw;go_simp;try with_reducible rfl)
       (try simp only [JN,JI,JJ,JK])
       refine wpAnyH_ready (rs:=[3]) (by kernel_rfl) (by simp) ?_
       refine JO (o:=_) rfl (fun K hK=>?_) ?_
       ·go_simp
        have sta:=st.below (aD W0 (.cells #[.int .i64 99,.int .i64 1] 3));refine hK.out _ _ ?_ (fun hHeld=>?_)
        ·exact cD sta.box
        clear hK K
        (try simp only [JN,JI,JJ,JK])
        refine wpAnyH_ready (rs:=[4]) (by kernel_rfl) (by simp) ?_
        refine JO (o:=_) rfl (fun K hK=>?_) ?_
        ·go_simp
         go_at_call 37
         refine(am2 99 1 st n3' (by omega)).mono ?_
         rintro e w6 ⟨rfl,st6⟩
         go_wp2_with fail
         refine hK.out _ _ ?_ (fun hHeld=>?_)
         ·exact cD st6.box
         clear hK K
         (try simp only [JN,JI,JJ,JK])
         refine wpAnyH_ready (rs:=[6]) (by kernel_rfl) (by simp) ?_
         refine JO (o:=_) rfl (fun K hK=>?_) ?_
         ·go_simp
          go_at_call 55
          refine(zy (n:=2) hc99 (by omega) (by omega) st6.cur st6.hS st6.hZ).mono ?_
          rintro e w7 ⟨rfl,hC7,k7⟩;have st7:=st6.move hC7 k7
          go_wp2_with fail
          refine hK.out _ _ ?_ (fun hHeld=>?_)
          ·exact cD st7.box
          clear hK K
          (try simp only [JN,JI,JJ,JK])
          refine wpAnyH_take (i:=7) (oi:=_) (v:=?vf5) rfl (by kernel_rfl) (by kernel_rfl) (by kernel_rfl) (fun _ _ _ h=>h) (JY ⟨by rfl,?yf5⟩) hHeld ?rf5
          case yf5=>(intro w0 hSw;obtain⟨hSw0,hSw1⟩:=hSw;go_simp;try with_reducible rfl)
          (try simp only [JN,JI,JJ,JK])
          refine wpAnyH_ready (rs:=[8]) (by kernel_rfl) (by simp) ?_
          refine JO (o:=_) rfl (fun K hK=>?_) ?_
          ·go_simp
           have stb:=st7.below (aD w7 (.cells #[.int .i64 (am ck [99,1]).1,.slice none 0 0,.bool (on (am ck [99,1]).2 2).1,.int .i64 0] 42));have hM:(w7.alloc (.cells #[.int .i64 (am ck [99,1]).1,.slice none 0 0,.bool (on (am ck [99,1]).2 2).1,.int .i64 0] 42)).heap[w7.heap.size]?=some (.cells #[.int .i64 (am ck [99,1]).1,.slice none 0 0,.bool (on (am ck [99,1]).2 2).1,.int .i64 0] 42 (0,0)):=al _ rfl;refine hK.out _ _ ?_ (fun hHeld=>?_)
           ·exact cD stb.box
           clear hK K
           (try simp only [JN,JI,JJ,JK])
           refine wpAnyH_ready (rs:=[9]) (by kernel_rfl) (by simp) ?_
           refine JO (o:=_) rfl (fun K hK=>?_) ?_
           ·refine aB _ rfl _ _ 24 rfl (w.heap.size+1) 42 i2 (.agg #[.int .i64 0,.slice none 0 0,.bool false,.int .i64 0]) 4 48 Tryd.underlying24 hi2 hx0 hx1 hx2 rfl (by decide) (.slice A' n' k') _ _ (by simp [go_sem];done) stb.shop.fms.own (some ⟨w7.heap.size,0,none⟩) 1 1 [.int .i64 (am ck [99,1]).1,.slice none 0 0,.bool (on (am ck [99,1]).2 2).1,.int .i64 0] (by simp [go_sem];done) rfl (fun _=>⟨_,_,rfl,dM hM⟩) (by intro u hu;simp at hu;rcases hu with rfl | rfl | rfl | rfl<;>rfl) (by unfold maxLen;omega) (by omega) (by have:=stb.hS w.heap.size (.inr (.inl rfl));omega) ?_
            intro v9 w9 hown9 hg9 hat9;obtain⟨A9,n9,k9,rfl⟩:=aN hown9;have hst9:=st7.snoc (x:=((am ck [99,1]).1,[],(on (am ck [99,1]).2 2).1,0)) rfl hown9 hg9 hat9;have hb9:=(pT hg9 (S:=FmS (.slice A' n' k') ys) fun b hb=>.inl hb).some stb.box fun hb=>st7.np (.inr hb)
            simp only [JN,JI,JJ,JK];refine hK.out _ _ ?_ (fun hHeld=>?_)
            ·exact cD hb9
            clear hK K
            (try simp only [JN,JI,JJ,JK])
            refine wpAnyH_take (i:=10) (oi:=_) (v:=?vf6) rfl (by kernel_rfl) (by kernel_rfl) (by kernel_rfl) (fun _ _ _ h=>h) (JY ⟨by rfl,?yf6⟩) hHeld ?rf6
            case yf6=>(intro w0 hSw;obtain⟨hSw0,hSw1⟩:=hSw;go_simp;try with_reducible rfl)
            (try simp only [JN,JI,JJ,JK])
            refine bH (by kernel_rfl) ?_
            obtain⟨d0,d1,d2,d3⟩:=ab hb9;obtain⟨l0,l1,l2,l3⟩:=aZ hb9
            go_simp
            go_wp2
            go_meet
            case rel =>
             rw [hfin];exact⟨_,_,_,_,_,_,_,hst9⟩
           exact JQ
          exact JQ
         exact JQ
        exact JQ
       exact JQ
      by_cases q4:k0=4
      ·subst q4
       have hfin:fin (4,ck) a.2=((pk ck 2).2,a.2.1,pad ((5+(pk ck 2).1).toNat - a.2.2.1.length) a.2.2.1,a.2.2.2.1,a.2.2.2.2):=rfl;have f5:=(gh hok).2.1;obtain⟨-,p1,p2,p3⟩:=rJ (n:=2) n3' (by omega) (by omega);have p4:(pk ck 2).1<2:=by omega
       have hcp:=ov (n:=2) n3' (by omega) (by omega) st5.cur st5.hS st5.hZ;obtain⟨N,hN⟩:∃N:Nat,5+(pk ck 2).1=N:=⟨(5+(pk ck 2).1).toNat,by omega⟩
       rw [hN,Kt] at hfin;obtain⟨i2,hi2,hx0,hx1,hx2⟩:=info_parts ij
       go_wp2_with (go_at_call 56;refine hcp.mono ?_;rintro e w6 ⟨rfl,hC6,k6⟩;have st6:=st5.move hC6 k6)
       have hN5:5≤N∧N≤6:=by omega
       clear hcp hC6 k6
       go_loopw [] (fun wr=>∃(l:List Fm) (A1:Option Addr) (n1 k1:Nat) (zs:List Value),l.length≤N∧pad (N - l.length) l=pad (N - a.2.2.1.length) a.2.2.1∧SitP Z w wr q p (pk ck 2).2 (a.2.1,l,a.2.2.2.1,a.2.2.2.2) A n k A1 n1 k1 zs) (fun wr=>N - lenAt wr p)
       case atStart=>exact⟨a.2.2.1,_,_,_,_,by omega,rfl,st6⟩
       case round =>
        obtain⟨l,A1,n1,k1,zs,hl,hpad,sr6⟩:=hrel;obtain⟨hla,hln⟩:=sr6.lenAt;replace hln:n1=l.length:=hln;subst hln;obtain⟨d0,d1,d2,d3⟩:=ab sr6.box;obtain⟨l0,l1,l2,l3⟩:=aZ sr6.box;by_cases hlt:l.length<N
        ·have hlt':(l.length:Int)<(N:Int):=by omega
         have hpadH:Hid _:=hpad;have hlaH:Hid _:=hla;clear hpad hla;have stb:=sr6.below (aD wr (.cells #[.int .i64 (10+(l.length:Int)),.slice none 0 0,.bool false,.int .i64 0] 42));have hM:(wr.alloc (.cells #[.int .i64 (10+(l.length:Int)),.slice none 0 0,.bool false,.int .i64 0] 42)).heap[wr.heap.size]?=some (.cells #[.int .i64 (10+(l.length:Int)),.slice none 0 0,.bool false,.int .i64 0] 42 (0,0)):=al _ rfl;have hbase:=stb.hS w.heap.size (.inr (.inl rfl));have hown0:(wr.alloc (.cells #[.int .i64 (10+(l.length:Int)),.slice none 0 0,.bool false,.int .i64 0] 42)).ownsRow (w.heap.size+1) 42 4 (.slice A1 l.length k1) l.length (bK l zs):=stb.shop.fms.own
         go_wp2_with (at_builtin;refine cJ _ rfl _ _ 24 rfl (w.heap.size+1) 42 i2 (.agg #[.int .i64 0,.slice none 0 0,.bool false,.int .i64 0]) 4 48 Tryd.underlying24 hi2 hx0 hx1 hx2 rfl (by decide) (.slice A1 l.length k1) l.length (bK l zs) rfl hown0 (some ⟨wr.heap.size,0,none⟩) 1 1 [.int .i64 (10+(l.length:Int)),.slice none 0 0,.bool false,.int .i64 0] (by simp [go_sem]) rfl (fun _=>⟨_,_,rfl,dM hM⟩) (by intro u hu;simp at hu;rcases hu with rfl | rfl | rfl | rfl<;>rfl) (by unfold maxLen;omega) (by omega) (by omega) ?_;intro v9 w9 hown9 hg9 hat9;obtain⟨A9,n9,k9,rfl⟩:=aN hown9;have hst9:=sr6.snoc (x:=(10+(l.length:Int),[],false,0)) rfl hown9 hg9 hat9;have hb9:=(pT hg9 (S:=FmS (.slice A1 l.length k1) zs) fun b hb=>.inl hb).some stb.box (fun hb=>sr6.np (.inr hb));obtain⟨m0,m1,m2,m3⟩:=aZ hb9;obtain⟨c0,c1,c2,c3⟩:=ab hb9)
         have hls:=hst9.lenAt.1;replace hls:lenAt _ p=(l++[((10+(l.length:Int)),([]:List ByteArray),false,(0:Int))]).length:=hls;refine⟨⟨l++[(10+(l.length:Int),[],false,0)],_,_,_,_,by simp;omega,?_,hst9⟩,?_⟩
         ·rw [←hpadH.out,show N - l.length=(N - (l++[(10+(l.length:Int),([]:List ByteArray),false,(0:Int))]).length)+1 by simp;omega]
          show _=pad _ (l++[(((10+l.length:Nat):Int),[],false,0)])
          rw [show((10+l.length:Nat):Int)=10+(l.length:Int) by omega]
         ·rw [hls,hlaH.out]
          show N - (l++[(10+(l.length:Int),([]:List ByteArray),false,(0:Int))]).length<N - l.length
          simp;omega
        ·have hlt':¬(l.length:Int)<(N:Int):=by omega
         have hle:N - l.length=0:=by omega
         rw [hle] at hpad;have hpadH:Hid (l=pad (N - a.2.2.1.length) a.2.2.1):=hpad;clear hpad hla
         go_wp2
         go_meet
         case rel =>
          rw [hfin,←hpadH.out];exact⟨_,_,_,_,_,_,_,sr6⟩
      by_cases q5:k0=5
      ·subst q5
       have hfin:fin (5,ck) a.2=((am (pk ck 2).2 [0,100000,100001]).2,a.2.1,[(1,Ko (40+(pk ck 2).1).toNat (a.2.1.getD 0 zBx).1,false,(am (pk ck 2).2 [0,100000,100001]).1)],a.2.2.2.1,200000):=rfl;have hl0:=(gh hok).1.1;obtain⟨-,p1,p2,p3⟩:=rJ (n:=2) n3' (by omega) (by omega);have p4:(pk ck 2).1<2:=by omega
       have hcp:=ov (n:=2) n3' (by omega) (by omega) st5.cur st5.hS st5.hZ;obtain⟨N,hN⟩:∃N:Nat,40+(pk ck 2).1=N:=⟨(40+(pk ck 2).1).toNat,by omega⟩
       rw [hN,Kt] at hfin;obtain⟨i2,hi2,hx0,hx1,hx2⟩:=info_parts xv;obtain⟨g1,o1,hA1,hn1,-⟩:=uS st5.shop.box (i:=0) (by omega);subst hA1 hn1
       go_wp2_with (go_at_call 56;refine hcp.mono ?_;rintro e w6 ⟨rfl,hC6,k6⟩;have st6:=st5.move hC6 k6)
       have hN5:40≤N∧N≤41:=by omega
       have hlp:0<a.2.1.length:=by omega
       have hg0:a.2.1.getD 0 zBx=a.2.1[0]:=by rw [Kr,Ku hlp];rfl
       rw [hg0] at hfin;obtain⟨x0,-,-,-⟩:=Cs st6.shop.box hlp;generalize a.2.1[0].1=code at *;have hfinH:Hid _:=hfin;clear hcp hC6 k6 hfin hg0;have y0:=(ab st6.box).1
       go_loopw [9] (fun v9 wr=>∃m:Nat,m≤N∧wr.ownsRow w6.heap.size 9 1 v9 m (Ko m (.string code))∧Below w6.heap.size w6 wr) (fun v9 _=>N - Jy v9)
       case atStart=>exact⟨0,KA _,⟨rfl,.inl ⟨rfl,rfl⟩⟩,Below.refl _ _⟩
       case round =>
        obtain⟨m,hm,hrow,hB6⟩:=hrel;have hs6:=hB6.size;have stL:=st6.below hB6;have z0:=(ab stL.box).1;have z1:wr.cell? ⟨g1,o1,none⟩=some (.string code):=(hB6.cell (by have:=dy st6.shop.box g1 rfl;exact this)).trans x0;obtain⟨v9A,v9k,rfl⟩:=cB hrow;by_cases hlt:m<N
        ·have hlt':(m:Int)<(N:Int):=by omega
         have hM:(wr.alloc (.cells #[.string code] 9)).cell? ⟨wr.heap.size,0,none⟩=some (.string code):=by simp
         have hrow1:=Az (w':=wr.alloc (.cells #[.string code] 9)) hrow fun b hb=>(aD wr _).block b (mh hrow b hb).2
         have hlpi:(0:Int)<(a.2.1.length:Int):=by omega
         go_wp2_with (at_builtin;refine cJ _ rfl _ _ 40 rfl w6.heap.size 9 i2 (.string ⟨#[]⟩) 1 16 Tryd.underlying40 hi2 hx0 hx1 hx2 rfl (by decide) (.slice v9A m v9k) _ _ rfl hrow1 (some ⟨wr.heap.size,0,none⟩) 1 1 [.string code] (by simp [go_sem]) rfl (fun _=>⟨_,_,rfl,fun j u hj=>by
          match j,hj with
          | 0,hj=>cases hj;simp⟩) (by intro u hu;simp at hu;subst hu;rfl) (by unfold maxLen;omega) (by omega) (by simp;omega) ?_;intro v1 w9 hown9 hg9 hat9;obtain⟨A9,k9,rfl⟩:=cB hown9)
         refine⟨⟨m+1,by omega,by rw [List.replicate_succ'];exact hown9,(hB6.alloc hs6 _).grown hg9 (by simp;omega) fun b hb=>(mh hrow b hb).1⟩,?_⟩
         show N - (m+1)<N - m
         omega
        ·have hlt':¬(m:Int)<(N:Int):=by omega
         have hmN:m=N:=by omega
         subst hmN;have hcL:=st6.cur.below (T:=fun b=>fi w.heap.size p (.slice (some ⟨g1,o1,none⟩) a.2.1.length k) (.slice A' n' k') ys b∨aM (.slice v9A m v9k) b) hB6 fun b hb=>hb.imp (fun h=>h) fun h=>(mh hrow b h).1
         have hownL:=CF hrow;have hvlt:=mh hrow;have hn3:=n3';have hca:Calls Tryd.prog 37 #[.pointer (some ⟨q,0,none⟩),.slice (some ⟨wr.heap.size,0,none⟩) 3 3] (wr.alloc (.cells #[.int .i64 0,.int .i64 100000,.int .i64 100001] 3)) fun e w'=>e = .returned (.int .i64 (am (pk ck 2).2 [0,100000,100001]).1)∧SitP Z w w' q p (am (pk ck 2).2 [0,100000,100001]).2 a.2 (some ⟨g1,o1,none⟩) a.2.1.length k A' n' k' ys ∧
           dY Z w' q (fun b=>fi w.heap.size p (.slice (some ⟨g1,o1,none⟩) a.2.1.length k) (.slice A' n' k') ys b∨aM (.slice v9A m v9k) b) (aP (am (pk ck 2).2 [0,100000,100001]).2)∧bh w' (fun _=>False) (aM (.slice v9A m v9k)) 1 (txs (Ko m code)) (.slice v9A m v9k):=by
          have hsa:=stL.below (aD wr (.cells #[.int .i64 0,.int .i64 100000,.int .i64 100001] 3));have hr:=stL.hS w.heap.size (.inr (.inl rfl));have hr6:=st6.hS w.heap.size (.inr (.inl rfl));have hq1:=stL.qlt;refine(pQ (Fa:=fun b=>b=wr.heap.size) p3 (by omega) (l:=[0,100000,100001]) (by simp) (by simp) (hcL.below (aD wr (.cells #[.int .i64 0,.int .i64 100000,.int .i64 100001] 3)) fun b hb=>.inl hb) (fun b hb=>?_) (fun b hb=>?_) (fun b hb=>?_) (row3 0 100000 100001 wr)).mono ?_
          ·rcases hb with hb | hb
           ·exact hsa.hS b hb
           ·have:=(hvlt b hb).2
            simp;omega
          ·exact hsa.hZ b hb
          ·refine⟨by simp;omega,by omega,fun h=>?_,fun hz=>?_⟩
           ·rcases h with h | h
            ·have:=stL.hS b h
             omega
            ·have:=(hvlt b h).2
             omega
           ·have:=stL.zlt b hz
            omega
          ·rintro e w' ⟨rfl,hC',k'⟩
           refine⟨rfl,hsa.move (hC'.more fun b hb=>.inl (.inl hb)) k',hC',aY hownL fun b hb=>?_⟩
           have:=hvlt b hb;exact(k'.block b (by simp;omega) (by omega)).trans ((aD wr _).block b this.2)
         go_wp2_with (go_at_call 37;refine hca.mono ?_;rintro e w8 ⟨rfl,st8,hc8,own8⟩;have hst9:=st8.sole (x:=(1,Ko m code,false,(am (pk ck 2).2 [0,100000,100001]).1)) own8 (fun b hb=>⟨by have:=(hvlt b hb).1;have:=st6.hS w.heap.size (.inr (.inl rfl));omega,fun e=>by have:=(hvlt b hb).1;have:=st6.hS p (.inl rfl);omega,fun e=>by have:=(hvlt b hb).1;have:=st6.hS b (.inr (.inr (.inl e)));omega⟩) hc8;obtain⟨d0,d1,d2,d3⟩:=ab (aj (.cells #[.int .i64 1,.slice v9A m v9k,.bool false,.int .i64 (am (pk ck 2).2 [0,100000,100001]).1] 42) st8.box);obtain⟨l0,l1,l2,l3⟩:=aZ (aj (.cells #[.int .i64 1,.slice v9A m v9k,.bool false,.int .i64 (am (pk ck 2).2 [0,100000,100001]).1] 42) st8.box))
         go_meet
         case rel =>
          rw [hfinH.out];exact⟨_,_,_,_,_,_,_,hst9.cell 3 _ _ _ rfl⟩
      have hfin:fin (k0,ck) a.2=(ck,a.2):=by
       unfold fin;rw [if_neg q0,if_neg q1,if_neg q2,if_neg q3,if_neg q4,if_neg q5]
      go_wp2
      go_meet
      case rel =>
       rw [hfin];exact⟨_,_,_,_,_,_,_,st5⟩
     case rest =>
      obtain⟨A,n,k,A',n',k',ys,st⟩:=hcut;have hsh:Hid (fin (k0,ck) a.2=sh c):=by
       show fin (k0,ck) a.2=sh c
       rw [←hkE,hdoH.out];rfl
      generalize fin (k0,ck) a.2=z at *;clear hkE;obtain⟨d0,d1,d2,d3⟩:=ab st.box;obtain⟨i0,i1,i2,i3⟩:=ab st.res;obtain⟨l0,l1,l2,l3⟩:=aZ st.res
      go_wp2
      obtain⟨e0,e1,e2,e3⟩:=ab (aK (.slice A n k) (.slice A' n' k') (.int .i64 z.2.2.2.1) (.int .i64 z.2.2.2.2) st.res);refine bodyPost_ret (by simp [results,Tryd.results36,go_sem,e0,e1,e2,e3];try rfl) rfl ?_
      rw [←hsh.out];obtain⟨r1,r2,r3⟩:=st.done (.slice A n k) (.slice A' n' k') (.int .i64 z.2.2.2.1) (.int .i64 z.2.2.2.2);exact⟨_,_,_,_,rfl,r1,r2,r3⟩
end Go.Proofs.YtkcojipciiakdaaDoor

namespace Go.Proofs.YtkcojipciiakdaaDoor
open Go Go.Proofs Go.V Go.RowKit
set_option maxRecDepth 100000
def Jz (a:Sp × Nat) (x:Stp):Sp × Nat:=if mO a.1 x=true then(stS a.1 x,a.2+1) else a
def run (s:Sp) (l:List Stp):Sp × Nat:=l.foldl Jz (s,0)
set_option maxRecDepth 100000
theorem rF {α:Type} {f:α→D} (hf:∀x y,f x=f y→x=y):∀(l m:List α),l.map f=m.map f→l=m
 | [],[],_=>rfl
 | x::l,y::m,h=>by
  simp only [Ks,Ke] at h;rw [hf _ _ h.1,rF hf l m h.2]
 | [],_::_,h=>by simp at h
 | _::_,[],h=>by simp at h
theorem IW (x y:Int) (h:U x=U y):x=y:=by
 injection h with h;injection h
theorem ED {c d:Cur} (h:aP c=aP d):c=d:=by
 obtain⟨a1,a2,a3⟩:=c;obtain⟨b1,b2,b3⟩:=d;simp only [aP,gj,D.agg.injEq,Ke,D.arr.injEq,D.v.injEq,Kl,and_true,true_and] at h;obtain⟨h1,h2,h3⟩:=h;have e1:=rF IW _ _ h1;have e2:a2=b2:=by omega
 subst e1 e2 h3;rfl
theorem IL (x y:ByteArray) (h:T x=T y):x=y:=by
 injection h with h;injection h
theorem Im (x y:Bx) (h:bx x=bx y):x=y:=by
 obtain⟨a,b,c,d⟩:=x;obtain⟨a',b',c',d'⟩:=y;simp only [D.agg.injEq,Ke,D.v.injEq,Kl,Kv.injEq,and_true,true_and] at h;obtain⟨rfl,rfl,rfl,rfl⟩:=h;rfl
theorem HT (x y:Fm) (h:fm x=fm y):x=y:=by
 obtain⟨a,b,c,d⟩:=x;obtain⟨a',b',c',d'⟩:=y;simp only [D.agg.injEq,Ke,D.v.injEq,D.arr.injEq,Kl,Value.bool.injEq,and_true,true_and] at h;obtain⟨rfl,h2,rfl,rfl⟩:=h;obtain rfl:=rF IL _ _ h2;rfl
theorem Ih {x y:Sp} (h:sp x=sp y):x=y:=by
 obtain⟨a,b,c,d⟩:=x;obtain⟨a',b',c',d'⟩:=y;simp only [D.agg.injEq,Ke,D.v.injEq,D.arr.injEq,Kl,and_true,true_and] at h;obtain⟨h1,h2,rfl,rfl⟩:=h;obtain rfl:=rF Im _ _ h1;obtain rfl:=rF HT _ _ h2;rfl
open Classical in
def bZ (ds:List D):Option Out:=if h:∃c:Cur,ds=[aP c]∧c.ok 100000 then some (.ret [sp (sh (Kk h)).2] [aP (sh (Kk h)).1]) else none
theorem EI {c:Cur} (h:c.ok 100000):bZ [aP c]=some (.ret [sp (sh c).2] [aP (sh c).1]):=by
 have hx:∃d:Cur,[aP c]=[aP d]∧d.ok 100000:=⟨c,rfl,h⟩
 unfold bZ;rw [dif_pos hx];have:=KC hx;have e:=ED (List.cons.inj this.1).1;rw [←e]
@[reducible] def gX:FS:={pm:=[.box 3 2 true],rm:=[.dat 1],f:=bZ}
theorem kq:aF gl0 Tryd.prog 36 gX:=by
 refine gR (Kn Tryd.func36 (by kernel_rfl) rfl) fun ds rs us hd args w F ow hg ha hF hO=>?_
 replace hd:bZ ds=some (.ret rs us):=hd;have hc:∃c:Cur,ds=[aP c]∧c.ok 100000:=by
  unfold bZ at hd;split at hd
  ·rename_i h
   exact h
  ·cases hd
 obtain⟨c,rfl,hok⟩:=hc;rw [EI hok] at hd;simp only [KF,Out.ret.injEq] at hd;obtain⟨rfl,rfl⟩:=hd;obtain⟨l⟩:=args
 match l,ha with
 | [y],⟨ha,_⟩ =>
  rcases ha with ha | ha
  ·cases ha
  obtain⟨l,us,q,e,h1,rfl,h3,h4,h5,h6,h7⟩:=ha;have hql:=(Array.getElem?_eq_some_iff.1 h3).1;have hFq:∀b,F b→b≠q:=fun b hb e=>by
   have:=(hF b hb).2;rw [e,h7] at this;cases this
  have hcv:dY (fun b=>b<w.heap.size∧¬F b∧b≠q) w q (fun _=>False) (aP c):=⟨F,⟨l,us,q,e,h1,rfl,h3,h4,h5,h6,rfl⟩,fun b hb=>⟨(hF b hb).1,hFq b hb,fun h=>h,fun h=>h.2.1 hb⟩⟩
  refine(Dd c 100000 hok (by omega) w q (fun b hb=>hb.1) hcv).mono ?_
  rintro e' w' ⟨v,Vb,Vf,ys,rfl,hs,⟨F1,hb1,hF1⟩,hk⟩;have hlt:=hs.lt;refine⟨v,rfl,fun b=>F1 b∨ShS Vb Vf ys b∨F b,fun _=>none,[v],rfl,⟨hk.os,hk.tape,hk.output,hk.size,fun b hb hn=>hk.block b hb fun e=>?_,fun b hb=>.inr (.inr hb),fun b hb=>?_,(fun b j h=>by cases h),rfl,rfl,fun j=>?_,?_⟩⟩
  ·subst e
   have:(some 0:Option Nat)=none:=h7.symm.trans hn;cases this
  ·refine⟨?_,?_,rfl⟩
   ·rcases hb with hb | hb | hb
    ·obtain⟨g1,g2,g3,g4⟩:=hF1 b hb
     by_cases hlt:b<w.heap.size
     ·by_cases hfb:F b
      ·exact .inl hfb
      ·exact absurd ⟨hlt,hfb,g2⟩ g4
     ·exact .inr (by omega)
    ·exact .inr (hlt b hb).1
    ·exact .inl hb
   ·rcases hb with hb | hb | hb
    ·exact(hF1 b hb).1
    ·exact(hlt b hb).2
    ·exact Kp (hF b hb).1 hk.size
  ·match j with
   | 0=>exact .inr (aQ (fun b hb=>⟨.inr (.inl hb),(hlt b hb).1⟩) (fun _ _=>rfl) hs.rep)
   | j+1=>exact .inl rfl
  ·refine⟨lT _,.inr (gi (F:=F1) (own:=fun g=>g=q) (fun b hb=>.inl hb) (fun _ _=>rfl) (fun g _ _=>⟨trivial,rfl⟩) hb1),trivial⟩
theorem CX {S:FS} {args:Array Value} {s:Sp} {fl:List Value} {v:Value} {w w':World} {F:Nat→Prop} {ow:Nat→Option Nat} (hv:tz w' w.heap.size v s) (hB:Below w.heap.size w w') (hF:∀b,F b→b<w.heap.size∧ow b=none)
  (hio:(S.pm.all fun k=>!kh k)=true) (hl:S.pm.length=args.size) (hrm:S.rm = .dat 1::fl.map fun _=>.dat 0) (hfl:∀x∈fl,flat x=true):∃F' R,CallPost S args (sp s::fl.map D.v) [] w F ow F' R (v::fl) w':=by
 obtain⟨Vb,Vf,ys,hs⟩:=hv;have hlt:=hs.lt;refine⟨fun b=>ShS Vb Vf ys b∨F b,fun _=>none,hB.os,hB.tape,hB.output,hB.size,fun b hb _=>hB.block b hb,fun b hb=>.inr hb,fun b hb=>⟨?_,?_,rfl⟩,(fun b j h=>by cases h),by rw [hrm];simp,by rw [hrm];simp,fun j=>?_,sF _ _ hio (by simpa using hl)⟩
 ·rcases hb with hb | hb
  ·exact .inr (hlt b hb).1
  ·exact .inl hb
 ·rcases hb with hb | hb
  ·exact(hlt b hb).2
  ·exact Kp (hF b hb).1 hB.size
 ·rw [hrm]
  match j with
  | 0=>exact .inr (aQ (fun b hb=>⟨.inl hb,(hlt b hb).1⟩) (fun _ _=>rfl) hs.rep)
  | j+1 =>
   have key:∀(p:Nat→Prop) (fl:List Value) (j:Nat),(∀x∈fl,flat x=true)→vP w' (fun b=>ShS Vb Vf ys b∨F b) w.heap.size p (an (fl.map fun _=>Kd.dat 0) j) (nth (fl.map D.v) j) (fl.getD j undef):=by
    intro p fl;induction fl with
    | nil=>exact fun j _=>.inl (by cases j<;>rfl)
    | cons x fl ih =>
     intro j hx;cases j with
     | zero=>exact .inr (eT.2 ⟨rfl,hx x (by simp)⟩)
     | succ j=>exact ih j fun y hy=>hx y (by simp [hy])
   exact key _ fl j hfl
set_option maxRecDepth 100000
theorem td (x:Bx) (l:List Bx):dz (x::l)=x.2.2.2+dz l:=by simp [dz]
theorem CC (x:Fm) (l:List Fm):nW (x::l)=(x.2.1.length:Int)+nW l:=by simp [nW]
theorem Fu (l m:List Fm):nW (l++m)=nW l+nW m:=by simp [nW]
theorem vU:∀(l:List Bx) (i:Nat) (x:Bx) (h:i<l.length),dz (l.set i x)=dz l - l[i].2.2.2+x.2.2.2
 | y::l,0,x,_=>by
  simp only [JJ,td,Ki];omega
 | y::l,i+1,x,h=>by
  have ih:=vU l i x (by simpa using h);simp only [JK,td,KB];omega
def Bd (n:Nat) (l:List Bx):Prop:=∀x∈l,-(n:Int)≤x.2.2.2∧x.2.2.2≤n
theorem Bt {cs:List ByteArray} {by_:Int} (hby:by_=1∨by_ = -1) {l:List Bx} {c:ByteArray} {n:Nat} (hb:Bd n l) (hn:n≤1000000000) (hc:∃k:Nat,fC cs c=k∧k<l.length):dz (sC cs by_ l c)=dz l+by_∧Bd (n+1) (sC cs by_ l c)∧(sC cs by_ l c).length=l.length:=by
 obtain⟨k,hk,hl⟩:=hc;have h1:=hb l[k] (JU hl);have e:l.getD k (ByteArray.empty,0,0,0)=l[k]:=by simp [hl]
 have hw:JP.wrap (l[k].2.2.2+by_)=l[k].2.2.2+by_:=ax (by omega) (by omega);unfold sC;rw [hk,Kt,e,hw];refine⟨?_,fun x hx=>?_,by simp⟩
 ·rw [vU l k _ hl]
  show dz l - l[k].2.2.2+(l[k].2.2.2+by_)=_
  omega
 ·rcases List.mem_or_eq_of_mem_set hx with h | rfl
  ·have:=hb x h
   omega
  ·show -((n+1:Nat):Int)≤l[k].2.2.2+by_∧l[k].2.2.2+by_≤((n+1:Nat):Int)
   omega
theorem te {cs:List ByteArray} {by_:Int} (hby:by_=1∨by_ = -1):∀(codes:List ByteArray) (l:List Bx) (n:Nat),Bd n l→n+codes.length≤1000000000→(∀c∈codes,∃k:Nat,fC cs c=k∧k<l.length)→dz (bE cs by_ l codes)=dz l+by_*codes.length
 | [],l,n,_,_,_=>by simp [bE]
 | c::codes,l,n,hb,hn,hc=>by
  simp only [Kw] at hn;obtain⟨h1,h2,h3⟩:=Bt hby hb (by omega) (hc c (by simp));have ih:=te hby codes (sC cs by_ l c) (n+1) h2 (by omega) fun d hd=>by rw [h3];exact hc d (by simp [hd])
  show dz (bE cs by_ (sC cs by_ l c) codes)=_
  rw [ih,h1];rcases hby with rfl | rfl<;>simp<;>omega
theorem FQ {l:List Bx} (h:bp l=true):Bd 9999 l:=fun x hx=>by
 obtain⟨_,hc⟩:=mo h;have:=hc x hx;omega
set_option maxRecDepth 100000
theorem BR {s:Sp} (h:aE s=true):0≤s.2.2.2∧s.2.2.2≤1000000:=by
 have hp:0≤jM s.2.1:=by
  obtain⟨hf,_⟩:=bu h;have key:∀(l:List Fm) (a:Int),(∀x∈l,0≤x.2.2.2)→a≤l.foldl (fun a x=>a+x.2.2.2) a:=by
   intro l;induction l with
   | nil=>intro a _;exact Int.le_refl _
   | cons x l ih =>
    intro a hx;have h2:=ih (a+x.2.2.2) fun y hy=>hx y (by simp [hy])
    have h3:=hx x (by simp);simp only [Kz];omega
  refine key s.2.1 0 fun x hx=>?_
  obtain⟨j,hj,rfl⟩:=Kc hx;exact(bM (hf j hj)).1
 unfold aE at h;simp only [JZ,decide_eq_true_eq] at h;omega
theorem Bl {s:Sp} (h:tW s):∀i,i≤s.2.1.length→dz (mvs s.1 (s.2.1.take i))=dz s.1+nW (s.2.1.take i)∧bp (mvs s.1 (s.2.1.take i))=true:=by
 obtain⟨hok,hg⟩:=h;obtain⟨hfm,hgc,hl5,hlost⟩:=bu hok;intro i;induction i with
 | zero =>
  intro _;simp only [List.take_zero];exact⟨by simp [mvs,nW],hgc⟩
 | succ i ih =>
  intro hi;obtain⟨h1,h2⟩:=ih (by omega);have hg1:=hg i (by omega);refine⟨?_,hg1⟩
  have e:=Kb (l:=s.2.1) (i:=i) (by omega);have hset:=ed (hfm i (by omega));have hin:=yC (hfm i (by omega));rw [e,yS,lJ];rw [te (cs:=aU s.1) (.inl rfl) s.2.1[i].2.1 _ 9999 (FQ h2) (by omega) (fun c hc=>by rw [Cj];exact hin c hc),h1,Fu,CC];simp [nW];omega
theorem Dh {s:Sp} (hs:cm s) (h:tW s):mg (kc s)=mg s∧aE (kc s)=true∧(kc s).2.2.1=s.2.2.1∧(kc s).2.1=[]:=by
 have hok:=h.1;obtain⟨hfm,hgc,hl5,hlost⟩:=bu hok;have hsh:=BR hok;obtain⟨h1,h2⟩:=Bl h s.2.1.length (Kh _);rw [Kx] at h1 h2;have e:=(xQ h).2;have hok2:aE (kc s)=true:=by
  rw [e];have hp:jM ([]:List Fm)=0:=rfl;unfold aE;simp only [JZ,decide_eq_true_eq,hp];exact⟨⟨⟨⟨rfl,h2⟩,by simp⟩,hlost⟩,hsh⟩
 refine⟨?_,hok2,by rw [e],by rw [e]⟩
 unfold mg;rw [if_pos hok2,if_pos hok,e];simp only;rw [h1];simp [nW];omega
set_option maxRecDepth 100000
open Classical in
def iV (ds:List D):Option Out:=if h:∃s:Sp,ds=[sp s]∧cm s then some (.ret [sp (kc (Kk h)),B (nT (Kk h))] []) else none
theorem qf {s:Sp} (hs:cm s):iV [sp s]=some (.ret [sp (kc s),B (nT s)] []):=by
 have hh:∃t:Sp,[sp s]=[sp t]∧cm t:=⟨s,rfl,hs⟩
 unfold iV;rw [dif_pos hh];have h2:=KC hh;have e1:=Ih (List.cons.inj h2.1).1;rw [←e1]
theorem GO {w:World} {F:Nat→Prop} {ow:Nat→Option Nat} {k:Nat} {d:D} {args:Array Value} (h:cM w F ow 0 [.dat k] [d] args.toList) (h1:d ≠ .bad):∃y,args=#[y]∧aT w (FB F 0 k) d y:=by
 obtain⟨l⟩:=args
 match l,h with
 | [y],⟨ha,_⟩=>exact⟨y,rfl,ha.resolve_left h1⟩
theorem xp {f:Nat} (he:∀args w,(callFunc f args).run Tryd.prog w = .ok (.enter f args) w)
  (hw:∀(s:Sp),cm s→∀(v0:Value) (w:World) (F:Nat→Prop),aT w F (sp s) v0→(∀b,F b→b<w.heap.size)→Calls Tryd.prog f #[v0] w fun e w'=>∃v,e = .returned (.tuple #[v,.bool (nT s)])∧tz w' w.heap.size v (kc s)∧Below w.heap.size w w') :
  aF gl0 Tryd.prog f {pm:=[.dat 2],rm:=[.dat 1,.dat 0],f:=iV}:=by
 refine gR he fun ds rs us hd args w F ow hg ha hF hO=>?_
 replace hd:iV ds=some (.ret rs us):=hd;have hc:∃s:Sp,ds=[sp s]∧cm s:=by
  unfold iV at hd;split at hd
  ·rename_i h
   exact h
  ·cases hd
 obtain⟨s,rfl,hs⟩:=hc;rw [qf hs] at hd;simp only [KF,Out.ret.injEq] at hd;obtain⟨rfl,rfl⟩:=hd;obtain⟨y,rfl,h1⟩:=GO ha (by simp);refine(hw s hs y w _ h1 fun b hb=>(hF b (dO b hb)).1).mono ?_
 rintro e w' ⟨v,rfl,hv,hB⟩;obtain⟨F',R,hp⟩:=CX (S:={pm:=[.dat 2],rm:=[.dat 1,.dat 0],f:=iV}) (args:=#[y]) (fl:=[.bool (nT s)]) hv hB hF rfl rfl rfl (by simp [flat]);exact⟨_,rfl,F',R,_,rfl,hp⟩
def fN:List D→Option Out:=iV
def fO:List D→Option Out:=iV
@[reducible] def jw:FS:={pm:=[.dat 2],rm:=[.dat 1,.dat 0],f:=fN}
@[reducible] def jx:FS:={pm:=[.dat 2],rm:=[.dat 1,.dat 0],f:=fO}
theorem oJ:aF gl0 Tryd.prog 5 jw :=
 xp (Kn Tryd.func5 (by kernel_rfl) rfl) fun s hs v0 w F hr hF=>lY s hs v0 w F hr hF
theorem oP:aF gl0 Tryd.prog 6 jx :=
 xp (Kn Tryd.func6 (by kernel_rfl) rfl) fun s hs v0 w F hr hF=>ml s hs v0 w F hr hF
end Go.Proofs.YtkcojipciiakdaaDoor

namespace Go.Proofs.YtkcojipciiakdaaDoor
open Go.V
set_option maxRecDepth 100000
@[reducible] def mx:Cx:={K:=[Yc,.box 4 2 false,Y,Y,Y,.no,.box 4 2 false,Yc,Y,Y,Yr 1,Yc,Y,Y,Y,Yc,Yc,Y,Yr 6,Y,Y,Y,Yr 6,Yc,Y,Y,Y,Y,Yr 6,Y,Y,Y,Y,Yr 6,Y,Y,Y,Y,Y,Y,Y,Y,Yr 1,Y,Y,Y,Y,Yr 1,Y,Y,Y],T:=[(3,ty3),(4,ty4),(9,ty9),(23,ic),(24,oK),(26,oQ),(40,iu),(42,qe)],S:=[(13,eR),(26,nt)],H:=[(0,([1,4,11,12,13],[1,4]))],res:=[.tmp 2,.tmp 3],ios:=[],G:=gl1}
def fY:List D→Option Out:=bW mx Tryd.f9
@[reducible] def mG:FS:={pm:=[Yc],rm:=[Y,Y],f:=fY}
theorem tE:aF gl1 Tryd.prog 9 mG:=aS (c:=mx) (af (bX oS eL) (af vq aH)) Tryd.func9 rfl rfl (by kernel_rfl)
@[reducible] def qZ (k:List D→Option Out):Cx:={K:=[Y,.no,Y,Y,Y,Y,Y,Y,Yb,Y,Y,Y,Y,Y,Y,Y,Y,Yb,Y,Y],T:=[(3,ty3),(5,ty5),(9,ty9),(22,Ea)],S:=[(27,{pm:=[Y],rm:=[Y],f:=k})],H:=[],res:=[.tmp 2],ios:=[],G:=gl0}
def bP:Nat→List D→Option Out
 | 0,_=>none
 | n+1,ds=>bW (qZ (bP n)) Tryd.f27 ds
def dC:List D→Option Out:=CG bP
@[reducible] def jJ:FS:={pm:=[Y],rm:=[Y],f:=dC}
theorem pL:∀n:Nat,aF gl0 Tryd.prog 27 {pm:=[Y],rm:=[Y],f:=bP n}
 | 0=>Bi (fun _=>rfl)
 | n+1=>by
  have ih:=pL n;exact AR (P:=Tryd.prog) (c:=qZ (bP n)) (fn:=Tryd.f27) (pm:=jJ.pm) (rm:=jJ.rm) (by kernel_rfl) (af ih aH) kQ Tryd.func27 (by kernel_rfl) (by kernel_rfl) rfl
theorem xZ:aF gl0 Tryd.prog 27 jJ:=Dm pL
@[reducible] def mB:Cx:={K:=[Yc,.box 4 2 false,Y,Y,Y,.no,.box 4 2 false,Yc,Y,Y,Yr 1,Yc,Y,Y,Y,Yc,Yc,Y,Yr 6,Y,Y,Y,Yr 6,Yc,Y,Y,Y,Y,Yr 6,Y,Y,Y,Y,Yr 6,Y,Y,Y,Y,Y,Y,Y,Y,Yr 1,Y,Y,Y,Y,Yr 1,Y,Y,Y],T:=[(3,ty3),(4,ty4),(9,ty9),(23,ic),(24,oK),(26,oQ),(40,iu),(42,qe)],S:=[(23,iO),(27,jJ)],H:=[(0,([1,4,11,12,13],[1,4]))],res:=[.tmp 2,.tmp 3],ios:=[],G:=gl0}
def gc:List D→Option Out:=bW mB Tryd.f10
@[reducible] def mw:FS:={pm:=[Yc],rm:=[Y,Y],f:=gc}
theorem tD:aF gl0 Tryd.prog 10 mw:=aS (c:=mB) (af iQ (af xZ aH)) Tryd.func10 rfl rfl (by kernel_rfl)
@[reducible] def lj:Cx:={K:=[Yc,Y,.box 4 2 false,.no,Y,Y,Y,Y,.tup [Y,Y],Yc,Y,.tup [Y,Y],Y,Y,Yc,Y,Y,Y,Y,Y,Y,Yr 2,Yc,Y,Yc,Yc,Yc,Y],T:=[(3,ty3),(4,ty4),(9,ty9),(23,ic),(24,oK),(26,oQ),(40,iu),(42,qe)],S:=[(13,eR),(34,jv),(35,nf)],H:=[],res:=[.tmp 4,.tmp 5],ios:=[],G:=gl0}
def dk:List D→Option Out:=bW lj Tryd.f15
@[reducible] def lh:FS:={pm:=[Yc,Y],rm:=[Y,Y],f:=dk}
theorem sf:aF gl0 Tryd.prog 15 lh:=aS (c:=lj) (af eL (af oX (af vR aH))) Tryd.func15 rfl rfl (by kernel_rfl)
@[reducible] def kX:Cx:={K:=[Yc,Y,.box 4 2 false,.no,Y,Y,Y,Y,.no,Y,Yc,Y,Y,Yc,Y,Y,Y,Y,Y,Y,Yr 2,Yc,Y,Yc,Yc,Yc,Y,Y,Y,Yc,Y,Y,Y,Y,Y,Y],T:=[(3,ty3),(4,ty4),(9,ty9),(23,ic),(24,oK),(26,oQ),(40,iu),(42,qe)],S:=[(23,iO),(38,pu)],H:=[(0,([7,25,26,27],[7]))],res:=[.tmp 4,.tmp 5],ios:=[],G:=gl0}
def fI:List D→Option Out:=bW kX Tryd.f19
@[reducible] def lN:FS:={pm:=[Yc,Y],rm:=[Y,Y],f:=fI}
theorem rZ:aF gl0 Tryd.prog 19 lN:=aS (c:=kX) (af iQ (af kU aH)) Tryd.func19 rfl rfl (by kernel_rfl)
@[reducible] def nX:Cx:={K:=[Yc,.no,Y,Y,Y,.no,.box 4 0 false,Yc,Y,Y,Yc,Y,Y,Y,Yc,Y,Y,Yr 6,Y,Y,Y,Y],T:=[(3,ty3),(9,ty9),(23,ic),(70,nr)],S:=[(31,fU)],H:=[(0,([4,10,11,12],[4]))],res:=[.tmp 2,.tmp 3],ios:=[],G:=gl0}
def gL:List D→Option Out:=bW nX Tryd.f33
@[reducible] def mP:FS:={pm:=[Yc],rm:=[Y,Y],f:=gL}
theorem vD:aF gl0 Tryd.prog 33 mP:=aS (c:=nX) (af iR aH) Tryd.func33 rfl rfl (by kernel_rfl)
@[reducible] def jV:Cx:={K:=[Yc,.box 4 2 false,Y,Y,Y,Y,.no,.box 4 2 false,Yc,Y,Y,.tup [Y,Y],Yr 1,Yc,.tup [Y,Y],Y,Y,Yr 1,Yc,Y,Y,Y,Yc,Yc,Y,Yr 7,Yc,Y,Y,Y,Y,Yr 1,Y,Y],T:=[(3,ty3),(4,ty4),(9,ty9),(23,ic),(24,oK),(26,oQ),(40,iu),(42,qe),(70,nr)],S:=[(13,eR),(33,mP)],H:=[(0,([1,4,18,19,20],[1,4]))],res:=[.tmp 2,.tmp 3],ios:=[],G:=gl0}
def dn:List D→Option Out:=bW jV Tryd.f14
@[reducible] def jX:FS:={pm:=[Yc],rm:=[Y,Y],f:=dn}
theorem qk:aF gl0 Tryd.prog 14 jX:=aS (c:=jV) (af eL (af vD aH)) Tryd.func14 rfl rfl (by kernel_rfl)
@[reducible] def pG:Cx:={K:=[Yc,Yc,.no,.no,Y,Y,Yc,Y,Yc,Y,Y,Yc,Y,Y,Y,Y,Yc,Y,Yc,Y,Yc,Y,Yc,Y,Y,Y],T:=[(3,ty3),(9,ty9),(23,ic),(70,nr)],S:=[],H:=[(0,([0,1,12,13],[]))],res:=[.tmp 4],ios:=[],G:=gl0}
def iM:List D→Option Out:=bW pG Tryd.f28
@[reducible] def pd:FS:={pm:=[Yc,Yc],rm:=[Y],f:=iM}
theorem wV:aF gl0 Tryd.prog 28 pd:=aS (c:=pG) aH Tryd.func28 rfl rfl (by kernel_rfl)
@[reducible] def pi:Cx:={K:=[Yc,Yc,.no,.no,Y,Y,Yc,Y,Yc,Y,Y,Yc,Y,Y,Y,Y,Yc,Y,Yc,Y,Yc,Y,Yc,Y,Y,Y],T:=[(3,ty3),(9,ty9),(40,iu)],S:=[],H:=[(0,([0,1,12,13],[]))],res:=[.tmp 4],ios:=[],G:=gl0}
def iJ:List D→Option Out:=bW pi Tryd.f29
@[reducible] def py:FS:={pm:=[Yc,Yc],rm:=[Y],f:=iJ}
theorem wG:aF gl0 Tryd.prog 29 py:=aS (c:=pi) aH Tryd.func29 rfl rfl (by kernel_rfl)
@[reducible] def qQ:Cx:={K:=[Yc,Yc,.box 4 2 false,.box 4 2 false,Y,Y,.box 4 2 false,.box 4 2 false,Yr 2,Yc,Yr 3,Yc,Y,Y,Y,Yr 2,Yc,Y,Yr 3,Yc,Y,Y,Y,Y,Yr 2,Y,Yr 3,Y,Y,Y,Y,Yr 2,Y,Yr 3,Y,Y,Y,Yr 2,Yc,Y,Y,Y,Y,Yc,Yc,Yr 3,Yc,Y,Yc,Yc,Yr 6,Y,Yr 7,Y,Y,Y,Yr 6,Yc,Yr 7,Yc,Y,Y,Y,Y,Yr 6,Y,Yr 7,Y,Y,Y,Y,Yr 6,Y,Yr 7,Y,Y,Y,Y],T:=[(3,ty3),(4,ty4),(9,ty9),(23,ic),(24,oK),(26,oQ),(40,iu),(42,qe),(70,nr)],S:=[(28,pd),(29,py)],H:=[(0,([3,38,39,40],[]))],res:=[.tmp 4],ios:=[],G:=gl0}
def jH:List D→Option Out:=bW qQ Tryd.f11
@[reducible] def qB:FS:={pm:=[Yc,Yc],rm:=[Y],f:=jH}
theorem yE:aF gl0 Tryd.prog 11 qB:=aS (c:=qQ) (af wV (af wG aH)) Tryd.func11 rfl rfl (by kernel_rfl)
@[reducible] def rB:Cx:={K:=[Yc,Yc,.no,.no,Y,Y,Yc,Y,Yc,Y,Y,Yc,Y,Y,Y,Y,Yc,Y,Yc,Y,Yc,Y,Yc,Y,Y,Y],T:=[(3,ty3),(30,wT)],S:=[],H:=[(0,([0,1,12,13],[]))],res:=[.tmp 4],ios:=[],G:=gl0}
def jL:List D→Option Out:=bW rB Tryd.f12
@[reducible] def qE:FS:={pm:=[Yc,Yc],rm:=[Y],f:=jL}
theorem xO:aF gl0 Tryd.prog 12 qE:=aS (c:=rB) aH Tryd.func12 rfl rfl (by kernel_rfl)
@[reducible] def tj:Cx:={K:=[Yc,Y,.no,.no,Y,.no,Y,Yc,Y,Y,Y,Yc,Y,Y,Y,Y,Y],T:=[(3,ty3),(30,wT)],S:=[],H:=[(0,([1,7,8,9],[]))],res:=[.tmp 4],ios:=[],G:=gl0}
def jc:List D→Option Out:=bW tj Tryd.f17
@[reducible] def tn:FS:={pm:=[Yc,Y],rm:=[Y],f:=jc}
theorem Al:aF gl0 Tryd.prog 17 tn:=aS (c:=tj) aH Tryd.func17 rfl rfl (by kernel_rfl)
@[reducible] def qG:Cx:={K:=[Yc,Y,.no,.no,Y,Y,Y,Y,Yc,Y,Y,Y,Y,Yc,Y,Y,Y,Y,Y,Y,Y,Y,Y,Y,Y],T:=[(3,ty3),(9,ty9),(40,iu)],S:=[],H:=[(0,([1,5,8,9,10],[5]))],res:=[.tmp 4],ios:=[],G:=gl0}
def gF:List D→Option Out:=bW qG Tryd.f16
@[reducible] def rH:FS:={pm:=[Yc,Y],rm:=[Y],f:=gF}
theorem yk:aF gl0 Tryd.prog 16 rH:=aS (c:=qG) aH Tryd.func16 rfl rfl (by kernel_rfl)
open Go Go.V
set_option maxRecDepth 100000
theorem tY (x0:D):fY [x0]=((fy 4 x0).bind fun y=>(bF true 4 0 y).bind fun z=>ao (de [z]) fun c _=>(un .not (sl c 0)).bind fun z=>ifD z (some (.ret [.v (.string ⟨⟨[]⟩⟩),B false] [])) ((aa y (.ref 0 1)).bind fun z=>((atD y z).bind (ak false 1)).bind fun z=>(lenD false z).bind fun n=>(bq (fun s=>(bin .lss false [] (sl s 4) (sl s 3)).bind fun z=>ifD z ((JT D.ptr (bm 4 (sl s 2) (sl s 4))).bind fun z=>(ldD true 4 z).bind fun z=>(stD 4 (.agg [I 0,.arr 1 [],B false,I 0]) (.ref 0 0) z).bind fun b=>(aa b (.ref 0 0)).bind fun z=>(((atD b z).bind (ak false 1)).bind aV).bind fun z=>ao (nE [z]) fun c _=>(bin .add false [] (sl c 0) (.v (.string ⟨⟨[58]⟩⟩))).bind fun z=>(aa b (.ref 0 1)).bind fun d=>((atD b d).bind (ak false 1)).bind fun e=>(lenD false e).bind fun f=>ao (nE [f]) fun c _=>(bin .add false [] z (sl c 0)).bind fun z=>(bin .add false [] (sl s 1) z).bind fun z=>(aa b (.ref 0 2)).bind fun g=>(((atD b g).bind (ak false 1)).bind aV).bind fun p=>ifD p ((bin .add false [] z (.v (.string ⟨⟨[42]⟩⟩))).bind fun z=>(aa b (.ref 0 3)).bind fun h=>(((atD b h).bind (ak false 1)).bind aV).bind fun j=>ao (nE [j]) fun c _=>(bin .add false [] (.v (.string ⟨⟨[112]⟩⟩)) (sl c 0)).bind fun k=>(bin .add false [] k (.v (.string ⟨⟨[32]⟩⟩))).bind fun l=>(bin .add false [] z l).bind fun z=>(bin .add false [] (sl s 4) (I 1)).bind fun m=>some (.nrm [sl s 0,z,sl s 2,sl s 3,m])) ((aa b (.ref 0 3)).bind fun h=>(((atD b h).bind (ak false 1)).bind aV).bind fun j=>ao (nE [j]) fun c _=>(bin .add false [] (.v (.string ⟨⟨[112]⟩⟩)) (sl c 0)).bind fun k=>(bin .add false [] k (.v (.string ⟨⟨[32]⟩⟩))).bind fun l=>(bin .add false [] z l).bind fun z=>(bin .add false [] (sl s 4) (I 1)).bind fun m=>some (.nrm [sl s 0,z,sl s 2,sl s 3,m]))) (some (.ext 0 [sl s 0,sl s 1]))) [y,.v (.string ⟨⟨[]⟩⟩),z,n,I 0]).bind fun o=>dw o (fun i s=>ifN (i.beq 0) ((bin .add false [] (sl s 1) (.v (.string ⟨⟨[108,111,115,116,32]⟩⟩))).bind fun z=>(aa (sl s 0) (.ref 0 2)).bind fun d=>(((atD (sl s 0) d).bind (ak false 1)).bind aV).bind fun e=>ao (nE [e]) fun c _=>(bin .add false [] z (sl c 0)).bind fun z=>(bin .add false [] z (.v (.string ⟨⟨[32,115,104,101,101,116,115,32]⟩⟩))).bind fun z=>(aa (sl s 0) (.ref 0 3)).bind fun f=>(((atD (sl s 0) f).bind (ak false 1)).bind aV).bind fun g=>ao (nE [g]) fun c _=>(bin .add false [] z (sl c 0)).bind fun z=>some (.ret [z,B true] [])) none) fun a b=>some (.ret a b))):=by kernel_rfl
theorem yt (n:Nat) (x0:D):bP (n+1) [x0]=((bin .lss false [] x0 (I 10)).bind fun z=>ifD z ((bin .add false [] (I 48) x0).bind fun z=>(kz (some .u8) false z).bind fun z=>(bj 1 [z]).bind fun a=>(wC a).bind fun z=>some (.ret [z] [])) ((bin .quo false [] x0 (I 10)).bind fun z=>ao (bP n [z]) fun c _=>(bin .rem false [] x0 (I 10)).bind fun z=>(bin .add false [] (I 48) z).bind fun z=>(kz (some .u8) false z).bind fun z=>(bj 1 [z]).bind fun a=>(wC a).bind fun z=>(bin .add false [] (sl c 0) z).bind fun z=>some (.ret [z] []))):=by kernel_rfl
theorem tU (x0:D):gc [x0]=((fy 4 x0).bind fun y=>(bF true 4 0 y).bind fun z=>ao (eQ [z]) fun c _=>(un .not (sl c 0)).bind fun z=>ifD z (some (.ret [.v (.string ⟨⟨[]⟩⟩),B false] [])) ((aa y (.ref 0 1)).bind fun z=>((atD y z).bind (ak false 1)).bind fun z=>(lenD false z).bind fun n=>(bq (fun s=>(bin .lss false [] (sl s 4) (sl s 3)).bind fun z=>ifD z ((JT D.ptr (bm 4 (sl s 2) (sl s 4))).bind fun z=>(ldD true 4 z).bind fun z=>(stD 4 (.agg [I 0,.arr 1 [],B false,I 0]) (.ref 0 0) z).bind fun b=>(aa b (.ref 0 0)).bind fun z=>(((atD b z).bind (ak false 1)).bind aV).bind fun z=>ao (dC [z]) fun c _=>(bin .add false [] (sl c 0) (.v (.string ⟨⟨[58]⟩⟩))).bind fun z=>(aa b (.ref 0 1)).bind fun d=>((atD b d).bind (ak false 1)).bind fun e=>(lenD false e).bind fun f=>ao (dC [f]) fun c _=>(bin .add false [] z (sl c 0)).bind fun z=>(bin .add false [] (sl s 1) z).bind fun z=>(aa b (.ref 0 2)).bind fun g=>(((atD b g).bind (ak false 1)).bind aV).bind fun p=>ifD p ((bin .add false [] z (.v (.string ⟨⟨[42]⟩⟩))).bind fun z=>(aa b (.ref 0 3)).bind fun h=>(((atD b h).bind (ak false 1)).bind aV).bind fun j=>ao (dC [j]) fun c _=>(bin .add false [] (.v (.string ⟨⟨[112]⟩⟩)) (sl c 0)).bind fun k=>(bin .add false [] k (.v (.string ⟨⟨[32]⟩⟩))).bind fun l=>(bin .add false [] z l).bind fun z=>(bin .add false [] (sl s 4) (I 1)).bind fun m=>some (.nrm [sl s 0,z,sl s 2,sl s 3,m])) ((aa b (.ref 0 3)).bind fun h=>(((atD b h).bind (ak false 1)).bind aV).bind fun j=>ao (dC [j]) fun c _=>(bin .add false [] (.v (.string ⟨⟨[112]⟩⟩)) (sl c 0)).bind fun k=>(bin .add false [] k (.v (.string ⟨⟨[32]⟩⟩))).bind fun l=>(bin .add false [] z l).bind fun z=>(bin .add false [] (sl s 4) (I 1)).bind fun m=>some (.nrm [sl s 0,z,sl s 2,sl s 3,m]))) (some (.ext 0 [sl s 0,sl s 1]))) [y,.v (.string ⟨⟨[]⟩⟩),z,n,I 0]).bind fun o=>dw o (fun i s=>ifN (i.beq 0) ((bin .add false [] (sl s 1) (.v (.string ⟨⟨[108,111,115,116,32]⟩⟩))).bind fun z=>(aa (sl s 0) (.ref 0 2)).bind fun d=>(((atD (sl s 0) d).bind (ak false 1)).bind aV).bind fun e=>ao (dC [e]) fun c _=>(bin .add false [] z (sl c 0)).bind fun z=>(bin .add false [] z (.v (.string ⟨⟨[32,115,104,101,101,116,115,32]⟩⟩))).bind fun z=>(aa (sl s 0) (.ref 0 3)).bind fun f=>(((atD (sl s 0) f).bind (ak false 1)).bind aV).bind fun g=>ao (dC [g]) fun c _=>(bin .add false [] z (sl c 0)).bind fun z=>some (.ret [z,B true] [])) none) fun a b=>some (.ret a b))):=by kernel_rfl
theorem sB (x0 x1:D):dk [x0,x1]=((fy 4 x0).bind fun y=>(bF true 4 0 y).bind fun z=>ao (dV [z,x1]) fun c _=>(bU (.tup c) 0).bind fun z=>(bU (.tup c) 1).bind fun e=>(bF true 4 0 y).bind fun f=>ao (de [f]) fun c _=>(un .not (sl c 0)).bind fun d=>(ae (.tup []) d false (some e)).bind fun g=>(ae (.tup []) d false (un .not g)).bind fun h=>(aR d (B true) h).bind fun j=>ifD j (some (.ret [.v (.string ⟨⟨[]⟩⟩),B false] [])) ((aa y (.ref 0 1)).bind fun k=>((atD y k).bind (ak false 1)).bind fun l=>(JT D.ptr (bm 4 l z)).bind fun z=>(sE 1 z).bind fun z=>(ldD false 1 z).bind fun z=>ao (xy [z,.v (.string ⟨⟨[]⟩⟩)]) fun c _=>some (.ret [sl c 0,B true] []))):=by kernel_rfl
theorem sW (x0 x1:D):fI [x0,x1]=((fy 4 x0).bind fun y=>(bF true 4 0 y).bind fun z=>ao (fX [z,x1]) fun c _=>(bF true 4 0 y).bind fun z=>ao (eQ [z]) fun d _=>(un .not (sl d 0)).bind fun z=>(ae (.tup []) z false (some (sl c 0))).bind fun e=>(ae (.tup []) z false (bin .lss false [] e (I 0))).bind fun f=>(aR z (B true) f).bind fun z=>ifD z (some (.ret [.v (.string ⟨⟨[]⟩⟩),B false] [])) ((aa y (.ref 0 1)).bind fun z=>((atD y z).bind (ak false 1)).bind fun z=>(JT D.ptr (bm 4 z (sl c 0))).bind fun z=>(sE 1 z).bind fun z=>(ldD false 1 z).bind fun z=>(lenD false z).bind fun g=>(bq (fun s=>(bin .lss false [] (sl s 3) (sl s 2)).bind fun z=>ifD z ((JT D.ptr (bm 1 (sl s 1) (sl s 3))).bind fun z=>((ldD false 1 z).bind aV).bind fun z=>(bin .add false [] (sl s 0) z).bind fun z=>(bin .add false [] (sl s 3) (I 1)).bind fun h=>some (.nrm [z,sl s 1,sl s 2,h])) (some (.ext 0 [sl s 0]))) [.v (.string ⟨⟨[]⟩⟩),z,g,I 0]).bind fun o=>dw o (fun i s=>ifN (i.beq 0) (some (.ret [sl s 0,B true] [])) none) fun a b=>some (.ret a b))):=by kernel_rfl
theorem vB (x0:D):gL [x0]=(ao (dN [x0]) fun c _=>(un .not (sl c 0)).bind fun z=>ifD z (some (.ret [I 0,B false] [])) ((lenD false x0).bind fun z=>(bq (fun s=>(bin .lss false [] (sl s 3) (sl s 2)).bind fun z=>ifD z ((JT D.ptr (bm 4 (sl s 1) (sl s 3))).bind fun z=>((ldD true 4 z).bind aV).bind fun z=>(stD 4 (.agg [.v (.string ⟨⟨[]⟩⟩),I 0,I 0,I 0]) (.ref 0 0) z).bind fun b=>(aa b (.ref 0 3)).bind fun z=>((atD b z).bind (ak false 1)).bind fun z=>(bin .add false [] (sl s 0) z).bind fun z=>(bin .add false [] (sl s 3) (I 1)).bind fun d=>some (.nrm [z,sl s 1,sl s 2,d])) (some (.ext 0 [sl s 0]))) [I 0,x0,z,I 0]).bind fun o=>dw o (fun i s=>ifN (i.beq 0) (some (.ret [sl s 0,B true] [])) none) fun a b=>some (.ret a b))):=by kernel_rfl
theorem qg (x0:D):dn [x0]=((fy 4 x0).bind fun y=>(bF true 4 0 y).bind fun z=>ao (de [z]) fun c _=>(un .not (sl c 0)).bind fun z=>ifD z (some (.ret [I 0,B false] [])) ((aa y (.ref 0 0)).bind fun z=>((atD y z).bind (ak false 1)).bind fun z=>ao (gL [z]) fun c _=>(bU (.tup c) 0).bind fun z=>(bU (.tup c) 1).bind fun _=>(aa y (.ref 0 1)).bind fun e=>((atD y e).bind (ak false 1)).bind fun d=>(lenD false d).bind fun f=>(bq (fun s=>(bin .lss false [] (sl s 4) (sl s 3)).bind fun z=>ifD z ((JT D.ptr (bm 4 (sl s 2) (sl s 4))).bind fun z=>(ldD true 4 z).bind fun z=>(stD 4 (.agg [I 0,.arr 1 [],B false,I 0]) (.ref 0 0) z).bind fun b=>(aa b (.ref 0 1)).bind fun z=>((atD b z).bind (ak false 1)).bind fun z=>(lenD false z).bind fun z=>(bin .add false [] (sl s 1) z).bind fun z=>(bin .add false [] (sl s 4) (I 1)).bind fun g=>some (.nrm [sl s 0,z,sl s 2,sl s 3,g])) (some (.ext 0 [sl s 0,sl s 1]))) [y,z,d,f,I 0]).bind fun o=>dw o (fun i s=>ifN (i.beq 0) ((aa (sl s 0) (.ref 0 2)).bind fun z=>(((atD (sl s 0) z).bind (ak false 1)).bind aV).bind fun z=>(bin .add false [] (sl s 1) z).bind fun z=>some (.ret [z,B true] [])) none) fun a b=>some (.ret a b))):=by kernel_rfl
theorem wE (x0 x1:D):iM [x0,x1]=((lenD false x0).bind fun z=>(lenD false x1).bind fun c=>(bin .neq false [] z c).bind fun z=>ifD z (some (.ret [B false] [])) ((lenD false x0).bind fun z=>(bq (fun s=>(bin .lss false [] (sl s 3) (sl s 2)).bind fun z=>ifD z ((JT D.ptr (bm 4 (sl s 0) (sl s 3))).bind fun z=>((ldD true 4 z).bind aV).bind fun z=>(JT D.ptr (bm 4 (sl s 1) (sl s 3))).bind fun d=>((ldD true 4 d).bind aV).bind fun e=>(bin .neq false [3,1,1,1] z e).bind fun z=>ifD z (some (.ret [B false] [])) ((bin .add false [] (sl s 3) (I 1)).bind fun z=>some (.nrm [sl s 0,sl s 1,sl s 2,z]))) (some (.ext 0 []))) [x0,x1,z,I 0]).bind fun o=>dw o (fun i _=>ifN (i.beq 0) (some (.ret [B true] [])) none) fun a b=>some (.ret a b))):=by kernel_rfl
theorem wB (x0 x1:D):iJ [x0,x1]=((lenD false x0).bind fun z=>(lenD false x1).bind fun c=>(bin .neq false [] z c).bind fun z=>ifD z (some (.ret [B false] [])) ((lenD false x0).bind fun z=>(bq (fun s=>(bin .lss false [] (sl s 3) (sl s 2)).bind fun z=>ifD z ((JT D.ptr (bm 1 (sl s 0) (sl s 3))).bind fun z=>((ldD false 1 z).bind aV).bind fun z=>(JT D.ptr (bm 1 (sl s 1) (sl s 3))).bind fun d=>((ldD false 1 d).bind aV).bind fun e=>(bin .neq false [] z e).bind fun z=>ifD z (some (.ret [B false] [])) ((bin .add false [] (sl s 3) (I 1)).bind fun z=>some (.nrm [sl s 0,sl s 1,sl s 2,z]))) (some (.ext 0 []))) [x0,x1,z,I 0]).bind fun o=>dw o (fun i _=>ifN (i.beq 0) (some (.ret [B true] [])) none) fun a b=>some (.ret a b))):=by kernel_rfl
theorem xU (x0 x1:D):jH [x0,x1]=((fy 4 x0).bind fun y=>(fy 4 x1).bind fun c=>(aa y (.ref 0 0)).bind fun z=>((atD y z).bind (ak false 1)).bind fun z=>(aa c (.ref 0 0)).bind fun f=>((atD c f).bind (ak false 1)).bind fun g=>ao (iM [z,g]) fun e _=>(un .not (sl e 0)).bind fun z=>(ae D.bad z false (aa y (.ref 0 1))).bind fun h=>(ae (.tup []) z false ((atD y h).bind (ak false 1))).bind fun j=>(ae (.tup []) z false (lenD false j)).bind fun k=>(ae D.bad z false (aa c (.ref 0 1))).bind fun l=>(ae (.tup []) z false ((atD c l).bind (ak false 1))).bind fun m=>(ae (.tup []) z false (lenD false m)).bind fun n=>(ae (.tup []) z false (bin .neq false [] k n)).bind fun p=>(aR z (B true) p).bind fun z=>(ae D.bad z false (aa y (.ref 0 2))).bind fun q=>(ae (.tup []) z false (((atD y q).bind (ak false 1)).bind aV)).bind fun r=>(ae D.bad z false (aa c (.ref 0 2))).bind fun t=>(ae (.tup []) z false (((atD c t).bind (ak false 1)).bind aV)).bind fun u=>(ae (.tup []) z false (bin .neq false [] r u)).bind fun v=>(aR z (B true) v).bind fun z=>(ae D.bad z false (aa y (.ref 0 3))).bind fun w=>(ae (.tup []) z false (((atD y w).bind (ak false 1)).bind aV)).bind fun za=>(ae D.bad z false (aa c (.ref 0 3))).bind fun zb=>(ae (.tup []) z false (((atD c zb).bind (ak false 1)).bind aV)).bind fun zc=>(ae (.tup []) z false (bin .neq false [] za zc)).bind fun zd=>(aR z (B true) zd).bind fun z=>ifD z (some (.ret [B false] [])) ((aa y (.ref 0 1)).bind fun z=>((atD y z).bind (ak false 1)).bind fun z=>(lenD false z).bind fun ze=>(bq (fun s=>(bin .lss false [] (sl s 3) (sl s 2)).bind fun z=>ifD z ((JT D.ptr (bm 4 (sl s 1) (sl s 3))).bind fun z=>(ldD true 4 z).bind fun z=>(stD 4 (.agg [I 0,.arr 1 [],B false,I 0]) (.ref 0 0) z).bind fun b=>(aa (sl s 0) (.ref 0 1)).bind fun z=>((atD (sl s 0) z).bind (ak false 1)).bind fun z=>(JT D.ptr (bm 4 z (sl s 3))).bind fun z=>(ldD true 4 z).bind fun z=>(stD 4 (.agg [I 0,.arr 1 [],B false,I 0]) (.ref 0 0) z).bind fun d=>(aa b (.ref 0 0)).bind fun z=>(((atD b z).bind (ak false 1)).bind aV).bind fun z=>(aa d (.ref 0 0)).bind fun zf=>(((atD d zf).bind (ak false 1)).bind aV).bind fun zg=>(bin .neq false [] z zg).bind fun z=>(ae D.bad z false (aa b (.ref 0 1))).bind fun zh=>(ae (.tup []) z false ((atD b zh).bind (ak false 1))).bind fun zi=>(ae D.bad z false (aa d (.ref 0 1))).bind fun zj=>(ae (.tup []) z false ((atD d zj).bind (ak false 1))).bind fun zk=>dF z false (ao (iJ [zi,zk]) fun e _=>some (.nrm [sl e 0])) [.tup []] fun zl=>(ae (.tup []) z false (un .not (sl zl 0))).bind fun zm=>(aR z (B true) zm).bind fun z=>(ae D.bad z false (aa b (.ref 0 2))).bind fun zn=>(ae (.tup []) z false (((atD b zn).bind (ak false 1)).bind aV)).bind fun zo=>(ae D.bad z false (aa d (.ref 0 2))).bind fun zp=>(ae (.tup []) z false (((atD d zp).bind (ak false 1)).bind aV)).bind fun zq=>(ae (.tup []) z false (bin .neq true [] zo zq)).bind fun zr=>(aR z (B true) zr).bind fun z=>(ae D.bad z false (aa b (.ref 0 3))).bind fun zs=>(ae (.tup []) z false (((atD b zs).bind (ak false 1)).bind aV)).bind fun zt=>(ae D.bad z false (aa d (.ref 0 3))).bind fun zu=>(ae (.tup []) z false (((atD d zu).bind (ak false 1)).bind aV)).bind fun zv=>(ae (.tup []) z false (bin .neq false [] zt zv)).bind fun zw=>(aR z (B true) zw).bind fun z=>ifD z (some (.ret [B false] [])) ((bin .add false [] (sl s 3) (I 1)).bind fun z=>some (.nrm [sl s 0,sl s 1,sl s 2,z]))) (some (.ext 0 []))) [c,z,ze,I 0]).bind fun o=>dw o (fun i _=>ifN (i.beq 0) (some (.ret [B true] [])) none) fun a b=>some (.ret a b))):=by kernel_rfl
theorem yq (x0 x1:D):jL [x0,x1]=((lenD false x0).bind fun z=>(lenD false x1).bind fun c=>(bin .neq false [] z c).bind fun z=>ifD z (some (.ret [B false] [])) ((lenD false x0).bind fun z=>(bq (fun s=>(bin .lss false [] (sl s 3) (sl s 2)).bind fun z=>ifD z ((JT D.ptr (bm 1 (sl s 0) (sl s 3))).bind fun z=>((ldD false 1 z).bind aV).bind fun z=>(JT D.ptr (bm 1 (sl s 1) (sl s 3))).bind fun d=>((ldD false 1 d).bind aV).bind fun e=>(bin .neq false [] z e).bind fun z=>ifD z (some (.ret [B false] [])) ((bin .add false [] (sl s 3) (I 1)).bind fun z=>some (.nrm [sl s 0,sl s 1,sl s 2,z]))) (some (.ext 0 []))) [x0,x1,z,I 0]).bind fun o=>dw o (fun i _=>ifN (i.beq 0) (some (.ret [B true] [])) none) fun a b=>some (.ret a b))):=by kernel_rfl
theorem Aj (x0 x1:D):jc [x0,x1]=((lenD false x0).bind fun z=>(bq (fun s=>(bin .lss false [] (sl s 3) (sl s 2)).bind fun z=>ifD z ((JT D.ptr (bm 1 (sl s 1) (sl s 3))).bind fun z=>((ldD false 1 z).bind aV).bind fun z=>(bin .eql false [] z (sl s 0)).bind fun z=>ifD z (some (.ret [B true] [])) ((bin .add false [] (sl s 3) (I 1)).bind fun z=>some (.nrm [sl s 0,sl s 1,sl s 2,z]))) (some (.ext 0 []))) [x1,x0,z,I 0]).bind fun o=>dw o (fun i _=>ifN (i.beq 0) (some (.ret [B false] [])) none) fun a b=>some (.ret a b)):=by kernel_rfl
theorem xN (x0 x1:D):gF [x0,x1]=((lenD false x0).bind fun z=>(bq (fun s=>(bin .lss false [] (sl s 4) (sl s 3)).bind fun z=>ifD z ((JT D.ptr (bm 1 (sl s 2) (sl s 4))).bind fun z=>((ldD false 1 z).bind aV).bind fun z=>(bin .gtr false [] (sl s 4) (I 0)).bind fun d=>ifD d ((bin .add false [] (sl s 1) (sl s 0)).bind fun c=>(bin .add false [] c z).bind fun z=>(bin .add false [] (sl s 4) (I 1)).bind fun e=>some (.nrm [sl s 0,z,sl s 2,sl s 3,e])) ((bin .add false [] (sl s 1) z).bind fun z=>(bin .add false [] (sl s 4) (I 1)).bind fun c=>some (.nrm [sl s 0,z,sl s 2,sl s 3,c]))) (some (.ext 0 [sl s 1]))) [x1,.v (.string ⟨⟨[]⟩⟩),x0,z,I 0]).bind fun o=>dw o (fun i s=>ifN (i.beq 0) (some (.ret [sl s 0] [])) none) fun a b=>some (.ret a b)):=by kernel_rfl
end Go.Proofs.YtkcojipciiakdaaDoor

namespace Go.Proofs.YtkcojipciiakdaaDoor
open Go.V
set_option maxRecDepth 100000
@[reducible] def kD:Cx:={K:=[Yc,.no,.box 4 1 false,Yr 6,Yc,Yc,.box 3 2 false,Yr 6,Yb],T:=[(3,ty3),(22,Ea),(23,ic),(24,oK),(26,oQ),(62,HZ),(64,Iq)],S:=[(36,gX)],H:=[],res:=[.cell 2 26],ios:=[],G:=gl0}
def fb:List D→Option Out:=bW kD Tryd.f20
@[reducible] def kr:FS:={pm:=[Yc],rm:=[Yb],f:=fb}
theorem rp:aF gl0 Tryd.prog 20 kr:=aS (c:=kD) (af kq aH) Tryd.func20 rfl rfl (by kernel_rfl)
@[reducible] def gk:Cx:={K:=[Yc,.no,.box 4 1 false,Yc,Yb],T:=[(3,ty3),(23,ic),(24,oK),(26,oQ)],S:=[(20,kr)],H:=[],res:=[.cell 2 26],ios:=[],G:=gl0}
def cT:List D→Option Out:=bW gk Tryd.f4
@[reducible] def gu:FS:={pm:=[Yc],rm:=[Yb],f:=cT}
theorem lI:aF gl0 Tryd.prog 4 gu:=aS (c:=gk) (af rp aH) Tryd.func4 rfl rfl (by kernel_rfl)
@[reducible] def jd:Cx:={K:=[Yc,.no,.box 4 1 false,Y,Yr 7,Yc,Yc,.box 3 2 false,Yr 7,Yb,Yr 7,Yr 7,Yb,Y,Yb,Y],T:=[(3,ty3),(22,Ea),(23,ic),(24,oK),(26,oQ),(30,wT),(62,HZ),(64,Iq)],S:=[(36,gX),(37,ep)],H:=[],res:=[.cell 2 26,.tmp 3],ios:=[],G:=gl0}
def dD:List D→Option Out:=bW jd Tryd.f18
@[reducible] def iY:FS:={pm:=[Yc],rm:=[Yb,Y],f:=dD}
theorem ni:aF gl0 Tryd.prog 18 iY:=aS (c:=jd) (af kq (af es aH)) Tryd.func18 rfl rfl (by kernel_rfl)
@[reducible] def lk:Cx:={K:=[Yc,Yc,.no,.no,Y,.box 4 1 false,.box 4 1 false,Y,.box 4 1 false,Y,Yb,Y,Yb,Y,Y,Y,Y,Y,Y,Y,Y,Y,.no,.box 4 1 false,Y,Y,.box 4 1 false,Y,Y,Y,Y,Y,Yc,Y,Yc,Y,Y,Y,Yc,Yb,.tup [Yb,Y],Yb,.tup [Yb,Y],Yb,Y,.tup [Yb,Y],Yb,.tup [Yb,Y],Yb,Y,.tup [Yo 1 0,Y],Yb,.tup [Yo 1 0,Y],Yb,Y,.tup [Yo 1 0,Y],Yb,.tup [Yo 1 0,Y],Yb,Y,.tup [Y,Y],Yb,.tup [Y,Y],Y,Y,.tup [Y,Y],Yb,.tup [Y,Y],Y,Y,Y,Y,Y,Y,Yb,Yb,Y,Y,Y,Y,Y,Y,Y,Y,Y,Yb,Yb,Y,Y,Y,Y,Y,Y,Y,Y,Y,Y,Y,Y,Y,Y,Y,Yb,Y,Y,Y,Y,Y,Y,Y,Y,Y,Y,Y,Y,Y,Y,Y,Y,.tup [Y,Y],Yb,.tup [Y,Y],Y,Y,.tup [Y,Y],Yb,.tup [Y,Y],Y,Y,Y,Y,Y,Y,Y,Y,Y,Y,Y,Y,Y,Y,Yr 8,Yb,Y,Y,Y,Y,Yr 8,Y,Yr 5,Y,Y,Y,Y,Yr 5,Yb,Y,Y,Y,Yb,Yb,.tup [Y,Y],Yb,Yr 23,Y,.tup [Y,Y],Y,Y,Y,Y,Y,Y,Yr 23,Yb,Y,Y,Y,Y,Yb,Yr 23,Y,Y,Yr 23,Y,Y,Y,Y,.tup [Yb,Y],Yc,.tup [Yb,Y],Yb,Y,.tup [Y,Y],Yb,Y,.tup [Y,Y],Y,Y,.tup [Y,Y],Yb,Y,.tup [Y,Y],Y,Y,Y,Y,Y,Y,Y,Y,Y,Y],T:=[(3,ty3),(4,ty4),(5,ty5),(9,ty9),(22,Ea),(23,ic),(24,oK),(26,oQ),(40,iu),(42,qe)],S:=[(4,gu),(5,jw),(6,jx),(7,js),(8,jq),(9,mG),(10,mw),(11,qB),(12,qE),(13,eR),(14,jX),(15,lh),(16,rH),(17,tn),(18,iY),(19,lN)],H:=[(0,([1,5,12,155,156,157],[1]))],res:=[.tmp 4],ios:=[],G:=gl1}
@[reducible] def lD:List (Nat × List Nat):=[(2047,[1,5,11,12]),(4095,[1])]
def fJ:List D→Option Out:=tr lk lD Tryd.f3
@[reducible] def im:FS:={pm:=[Yc,Yc],rm:=[Y],f:=fJ}
theorem sD:aF gl1 Tryd.prog 3 im:=Dq (J:=lD) (P:=Tryd.prog) (c:=lk) (fn:=Tryd.f3) (pm:=im.pm) (rm:=im.rm) (by kernel_rfl) (af (bX oS lI) (af (bX oS oJ) (af (bX oS oP) (af (bX oS oV) (af (bX oS oI) (af tE (af (bX oS tD) (af (bX oS yE) (af (bX oS xO) (af (bX oS eL) (af (bX oS qk) (af (bX oS sf) (af (bX oS yk) (af (bX oS Al) (af (bX oS ni) (af (bX oS rZ) aH)))))))))))))))) kQ (by kernel_rfl) Tryd.func3 (by kernel_rfl) (by kernel_rfl) rfl
open Go Go.V
set_option maxRecDepth 100000
theorem qD (x0:D):fb [x0]=((kV [(0,1)] [.arr 1 [],I 0,.v (Kq KO 0)] [x0]).bind fun z=>(fy 3 z).bind fun y=>(aa y (.ref 0 0)).bind fun z=>(aa z z).bind fun z=>(cY z y).bind fun i=>(aa i i).bind fun i=>ao (bZ [i]) fun c _=>(stD 4 (.agg [.arr 4 [],.arr 4 [],I 0,I 0]) (.ref 0 0) (sl c 0)).bind fun b=>(bF true 4 0 b).bind fun y=>some (.ret [y] [])):=by kernel_rfl
theorem lB (x0:D):cT [x0]=(ao (fb [x0]) fun c _=>(stD 4 (.agg [.arr 4 [],.arr 4 [],I 0,I 0]) (.ref 0 0) (sl c 0)).bind fun b=>(bF true 4 0 b).bind fun y=>some (.ret [y] [])):=by kernel_rfl
theorem mV (x0:D):dD [x0]=((kV [(0,1)] [.arr 1 [],I 0,.v (Kq KO 0)] [x0]).bind fun z=>(fy 3 z).bind fun y=>(aa y (.ref 0 0)).bind fun z=>(aa z z).bind fun d=>(cY d y).bind fun i=>(aa i i).bind fun i=>ao (bZ [i]) fun e c=>(aa z z).bind fun f=>(aa z z).bind fun z=>(bj 1 [I 10,I 0,I 100]).bind fun a=>(cY z (sl c 0)).bind fun i=>(aa i i).bind fun i=>ao (au [i,a]) fun g c=>(bj 1 [I 1,I 2,I 3,I 1,I 2,sl g 0]).bind fun a=>(cY f (sl c 0)).bind fun i=>(aa i i).bind fun i=>ao (au [i,a]) fun h _=>(stD 4 (.agg [.arr 4 [],.arr 4 [],I 0,I 0]) (.ref 0 0) (sl e 0)).bind fun b=>(bF true 4 0 b).bind fun y=>some (.ret [y,sl h 0] [])):=by kernel_rfl
theorem sQ (x0 x1:D):fJ [x0,x1]=((lenD false x0).bind fun z=>(lenD false x1).bind fun zo=>(bin .add false [] z zo).bind fun z=>(bin .gtr false [] z (I 1048576)).bind fun z=>ifD z (some (.ret [B true] [])) (ao (cT [x0]) fun c _=>(stD 4 (.agg [.arr 4 [],.arr 4 [],I 0,I 0]) (.ref 0 0) (sl c 0)).bind fun b=>(bF true 4 0 b).bind fun z=>ao (fN [z]) fun c _=>(bU (.tup c) 0).bind fun z=>(bU (.tup c) 1).bind fun ze=>(stD 4 (.agg [.arr 4 [],.arr 4 [],I 0,I 0]) (.ref 0 0) z).bind fun zm=>(bF true 4 0 b).bind fun z=>ao (fO [z]) fun c _=>(bU (.tup c) 0).bind fun z=>(bU (.tup c) 1).bind fun zp=>(stD 4 (.agg [.arr 4 [],.arr 4 [],I 0,I 0]) (.ref 0 0) z).bind fun m=>(bF true 4 0 b).bind fun z=>ao (dS [z]) fun c _=>(bU (.tup c) 0).bind fun y=>(bU (qh (.tup c) 0) 1).bind fun z=>(bF true 4 0 b).bind fun zq=>ao (dT [zq]) fun c _=>(bU (.tup c) 0).bind fun zf=>(bU (qh (.tup c) 0) 1).bind fun zr=>(bF true 4 0 b).bind fun zs=>ao (fY [zs]) fun c _=>(bU (.tup c) 0).bind fun zt=>(bU (.tup c) 1).bind fun zn=>(bF true 4 0 b).bind fun zu=>ao (gc [zu]) fun c _=>(bU (.tup c) 0).bind fun zv=>(bU (.tup c) 1).bind fun zw=>(bin .neq true [] ze zp).bind fun n=>(ae (.tup []) n false (bF true 4 0 zm)).bind fun z_13=>(ae (.tup []) n false (bF true 4 0 m)).bind fun z_14=>dF n false (ao (jH [z_13,z_14]) fun c _=>some (.nrm [sl c 0])) [.tup []] fun e=>(ae (.tup []) n false (un .not (sl e 0))).bind fun z_15=>(aR n (B true) z_15).bind fun w=>(ae (.tup []) w false (some z)).bind fun z_17=>(ae (.tup []) w false (some zr)).bind fun z_18=>(ae (.tup []) w false (bin .neq true [] z_17 z_18)).bind fun z_19=>(aR w (B true) z_19).bind fun p=>(ae (.tup []) p false (some y)).bind fun z_21=>(ae (.tup []) p false (some zf)).bind fun z_22=>dF p false (ao (jL [z_21,z_22]) fun c _=>some (.nrm [sl c 0])) [.tup []] fun e=>(ae (.tup []) p false (un .not (sl e 0))).bind fun z_23=>(aR p (B true) z_23).bind fun za=>(ae (.tup []) za false (some zn)).bind fun z_25=>(ae (.tup []) za false (some zw)).bind fun z_26=>(ae (.tup []) za false (bin .neq true [] z_25 z_26)).bind fun z_27=>(aR za (B true) z_27).bind fun zb=>(ae (.tup []) zb false (some zt)).bind fun z_29=>(ae (.tup []) zb false (some zv)).bind fun z_30=>(ae (.tup []) zb false (bin .neq false [] z_29 z_30)).bind fun z_31=>(aR zb (B true) z_31).bind fun q=>(ae (.tup []) q false (some z)).bind fun z_33=>(ae (.tup []) q false (bF true 4 0 b)).bind fun z_34=>dF q false (ao (de [z_34]) fun c _=>some (.nrm [sl c 0])) [.tup []] fun e=>(ae (.tup []) q false (bin .neq true [] z_33 (sl e 0))).bind fun z_35=>(aR q (B true) z_35).bind fun zc=>(ae (.tup []) zc false (some zn)).bind fun z_37=>(ae (.tup []) zc false (some z)).bind fun z_38=>(ae (.tup []) zc false (bin .neq true [] z_37 z_38)).bind fun z_39=>(aR zc (B true) z_39).bind fun zd=>(ae (.tup []) zd false (some ze)).bind fun z_41=>(ae (.tup []) zd false (some z_41)).bind fun zg=>(ae (.tup []) zg true (some z)).bind fun z_43=>(ae (.tup []) zg true (un .not z_43)).bind fun z_44=>(ae (.tup []) zd false (aR zg z_44 (B false))).bind fun z_45=>(aR zd (B true) z_45).bind fun z_46=>ifD z_46 (some (.ret [B false] [])) (An (fun j=>ifD ze ((bF true 4 0 b).bind fun h=>ao (dn [h]) fun c _=>(bU (.tup c) 0).bind fun r=>(bU (.tup c) 1).bind fun t=>(bF true 4 0 zm).bind fun u=>ao (dn [u]) fun c _=>(bU (.tup c) 0).bind fun d=>(bU (.tup c) 1).bind fun f=>(un .not t).bind fun g=>(ae (.tup []) g false (some f)).bind fun zh=>(ae (.tup []) g false (un .not zh)).bind fun zi=>(aR g (B true) zi).bind fun k=>(ae (.tup []) k false (some r)).bind fun zj=>(ae (.tup []) k false (some d)).bind fun zk=>(ae (.tup []) k false (bin .neq false [] zj zk)).bind fun zl=>(aR k (B true) zl).bind fun v=>(ae D.bad v false (aa m (.ref 0 1))).bind fun z_61=>(ae (.tup []) v false ((atD m z_61).bind (ak false 1))).bind fun z_62=>(ae (.tup []) v false (lenD false z_62)).bind fun z_63=>(ae (.tup []) v false (bin .gtr false [] z_63 (I 0))).bind fun z_64=>(aR v (B true) z_64).bind fun l=>(ae D.bad l false (aa m (.ref 0 2))).bind fun z_66=>(ae (.tup []) l false (((atD m z_66).bind (ak false 1)).bind aV)).bind fun z_67=>(ae D.bad l false (aa b (.ref 0 2))).bind fun z_68=>(ae (.tup []) l false (((atD b z_68).bind (ak false 1)).bind aV)).bind fun z_69=>(ae (.tup []) l false (bin .neq false [] z_67 z_69)).bind fun z_70=>(aR l (B true) z_70).bind fun z_71=>ifD z_71 (some (.ret [B false] [])) (j [x1,b,z,zf])) (j [x1,b,z,zf])) fun s=>An (fun j=>ifD (sl s 2) ((aa (sl s 1) (.ref 0 1)).bind fun z=>((atD (sl s 1) z).bind (ak false 1)).bind fun z=>(lenD false z).bind fun h=>(bq (fun s=>(bin .lss false [] (sl s 5) (sl s 4)).bind fun z=>ifD z ((JT D.ptr (bm 4 (sl s 3) (sl s 5))).bind fun z=>(ldD true 4 z).bind fun z=>(stD 4 (.agg [I 0,.arr 1 [],B false,I 0]) (.ref 0 0) z).bind fun b=>(bF true 4 0 (sl s 1)).bind fun z=>(aa b (.ref 0 0)).bind fun r=>(((atD b r).bind (ak false 1)).bind aV).bind fun t=>ao (dk [z,t]) fun c _=>(bU (.tup c) 0).bind fun z=>(bU (.tup c) 1).bind fun u=>(un .not u).bind fun d=>(ae (.tup []) d false (some z)).bind fun z=>(ae D.bad d false (aa b (.ref 0 1))).bind fun f=>(ae (.tup []) d false ((atD b f).bind (ak false 1))).bind fun g=>dF d false (ao (gF [g,.v (.string ⟨⟨[]⟩⟩)]) fun c _=>some (.nrm [sl c 0])) [.tup []] fun e=>(ae (.tup []) d false (bin .neq false [] z (sl e 0))).bind fun z=>(aR d (B true) z).bind fun z=>(ae (.tup []) z false (some (sl s 2))).bind fun zh=>(ae D.bad z false (aa b (.ref 0 0))).bind fun zi=>(ae (.tup []) z false (((atD b zi).bind (ak false 1)).bind aV)).bind fun k=>dF z false (ao (jc [zh,k]) fun c _=>some (.nrm [sl c 0])) [.tup []] fun e=>(ae D.bad z false (aa b (.ref 0 2))).bind fun zj=>(ae (.tup []) z false (((atD b zj).bind (ak false 1)).bind aV)).bind fun zk=>(ae (.tup []) z false (bin .neq true [] (sl e 0) zk)).bind fun zl=>(aR z (B true) zl).bind fun z=>ifD z (some (.ret [B false] [])) ((bin .add false [] (sl s 5) (I 1)).bind fun z=>some (.nrm [sl s 0,sl s 1,sl s 2,sl s 3,sl s 4,z]))) (some (.ext 0 [sl s 0]))) [sl s 0,sl s 1,sl s 3,z,h,I 0]).bind fun o=>dw o (fun i s=>ifN (i.beq 0) (j [sl s 0]) none) fun a b=>some (.ret a b)) (j [sl s 0])) fun s=>ao (dD [sl s 0]) fun c _=>(bU (.tup c) 0).bind fun z=>(bU (.tup c) 1).bind fun h=>(stD 4 (.agg [.arr 4 [],.arr 4 [],I 0,I 0]) (.ref 0 0) z).bind fun b=>(bF true 4 0 b).bind fun z=>ao (dk [z,h]) fun c _=>(bU (.tup c) 0).bind fun z=>(bU (.tup c) 1).bind fun r=>(bF true 4 0 b).bind fun t=>ao (fI [t,h]) fun c _=>(bU (.tup c) 0).bind fun u=>(bU (.tup c) 1).bind fun d=>(bin .eql true [] r d).bind fun f=>(ae (.tup []) f true (some z)).bind fun z=>(ae (.tup []) f true (some u)).bind fun g=>(ae (.tup []) f true (bin .eql false [] z g)).bind fun z=>(aR f z (B false)).bind fun z=>some (.ret [z] [])))):=by kernel_rfl
set_option maxRecDepth 100000
theorem IG (l:List Int):fy 3 (D.agg [gj l,I 0,D.v (.int .u64 0)])=some (aP ⟨l,0,0⟩):=by simp [D.cells,D.single]
theorem Cw (x y z u:D) (s:Sp) (h:x.single=true∧y.single=true∧z.single=true∧u.single=true):stD 4 (.agg [x,y,z,u]) (.ref 0 0) (sp s)=some (sp s):=by
 simp [D.cells,D.single,bO]
theorem sU (s:Sp):bF true 4 0 (sp s)=some (sp s):=by simp
theorem Fh (l:List Int) (h:Bytes l):bZ [aP ⟨l,0,0⟩]=some (.ret [sp (sh ⟨l,0,0⟩).2] [aP (sh ⟨l,0,0⟩).1])∧cm (sh ⟨l,0,0⟩).2∧(sh ⟨l,0,0⟩).1.ok 1500:=by
 have h0:=JD h;obtain⟨h1,h2⟩:=IV h0 (by omega);exact⟨EI (h0.mono (by omega)),h2,h1.mono (by omega)⟩
theorem xV (l:List Int) (h:Bytes l):∃s:Sp,fb [gj l]=some (.ret [sp s] [])∧cm s:=by
 obtain⟨e1,h1,h2⟩:=Fh l h;refine⟨_,?_,h1⟩
 rw [qD];have hsp:=Cw (.arr 4 []) (.arr 4 []) (I 0) (I 0) (sh ⟨l,0,0⟩).2 ⟨rfl,rfl,rfl,rfl⟩;simp -implicitDefEqProofs only [DE,IG,JL,aI,oC,gd,e1,aA,aG,hsp,sU]
theorem qr (l:List Int) (h:Bytes l):∃s:Sp,cT [gj l]=some (.ret [sp s] [])∧cm s:=by
 obtain⟨s,e1,h1⟩:=xV l h;refine⟨s,?_,h1⟩
 rw [lB];have hsp:=Cw (.arr 4 []) (.arr 4 []) (I 0) (I 0) s ⟨rfl,rfl,rfl,rfl⟩;simp -implicitDefEqProofs only [JL,e1,aA,aG,hsp,sU]
theorem tJ (l:List Int) (h:Bytes l):∃(s:Sp) (n:Int),dD [gj l]=some (.ret [sp s,I n] [])∧cm s:=by
 obtain⟨e1,h1,h2⟩:=Fh l h;obtain⟨v2,c2,e2,m2,k2⟩:=jF _ [10,0,100] _ h2 (by omega) (by simp) (by simp);obtain⟨v3,c3,e3,m3,k3⟩:=jF c2 [1,2,3,1,2,v2] _ k2 (by omega) (by simp) (by simp);refine⟨_,v3,?_,h1⟩
 rw [mV];have hsp:=Cw (.arr 4 []) (.arr 4 []) (I 0) (I 0) (sh ⟨l,0,0⟩).2 ⟨rfl,rfl,rfl,rfl⟩;have m1:bj 1 [I 10,I 0,I 100]=some (ll [10,0,100]):=nU (l:=[10,0,100]);have m4:bj 1 [I 1,I 2,I 3,I 1,I 2,I v2]=some (ll [1,2,3,1,2,v2]):=nU (l:=[1,2,3,1,2,v2]);simp -implicitDefEqProofs only [DE,IG,JL,aI,oC,gd,e1,e2,e3,m1,m4,aA,aG,hsp,sU]
set_option maxRecDepth 100000
def sL (u:Nat):ByteArray:=⟨(Lib.decDigits u).toArray⟩
def sH (n:Int):ByteArray:=⟨(Lib.itoa n).toArray⟩
theorem zJ (u:Nat):sH (u:Int)=sL u:=by
 unfold sH sL;rw [Lib.itoa_nonneg]
theorem qo {u:Nat} (h:u<10):sL u=⟨#[Kj (48+u)]⟩:=by
 unfold sL;rw [Lib.decDigits_one h]
theorem zH {u:Nat} (h:¬u<10):sL u=sL (u / 10)++⟨#[Kj (48+u % 10)]⟩:=by
 unfold sL;rw [Lib.decDigits,dif_neg h];apply ByteArray.ext;simp
theorem rS:∀(k u:Nat),u<10 ^ (k+1)→(sL u).size≤k+1
 | 0,u,h=>by
  rw [qo (by simpa using h)];exact Kh _
 | k+1,u,h=>by
  by_cases hu:u<10
  ·rw [qo hu]
   show 1≤k+1+1
   omega
  ·rw [zH hu,JW]
   have h1:=rS k (u / 10) (by rw [Nat.pow_succ] at h;exact Nat.div_lt_of_lt_mul (by rw [Nat.mul_comm];exact h));have h2:(⟨#[Kj (48+u % 10)]⟩:ByteArray).size=1:=rfl;omega
theorem dl (k:Nat) {n:Int} (h0:0≤n) (h1:n<10 ^ (k+1)):(sH n).size≤k+1:=by
 obtain⟨u,rfl⟩:=Kf h0;rw [zJ];exact rS k u (by exact_mod_cast h1)
theorem Cc (u:Nat) (h:u<10):kB [.v (.int .u8 (48+(u:Int)))]=some [Kj (48+u)]:=by
 have e:(48+(u:Int)).toNat=48+u:=by omega
 simp only [kB,e,JV]
theorem Hq (a:Int) (h0:0≤a) (h1:a<256):IntKind.u8.wrap a=a:=by
 have:=Int.emod_eq_of_lt h0 h1;simpa [IntKind.wrap,IntKind.bits,IntKind.signed] using this
theorem yV (a:Int):bj 1 [.v (.int .u8 a)]=some (.arr 1 [.v (.int .u8 a)]):=by simp [bj,gg]
theorem ut (k u:Nat) (hu:u<10 ^ 18) (ih:bP k [I ((u / 10:Nat):Int)]=none∨bP k [I ((u / 10:Nat):Int)]=some (.ret [T (sL (u / 10))] [])) :
  (bP (k+1) [I (u:Int)]=none∧bP k [I ((u / 10:Nat):Int)]=none∧¬u<10)∨bP (k+1) [I (u:Int)]=some (.ret [T (sL u)] []):=by
 rw [yt];by_cases h:u<10
 ·right
  have h1:(u:Int)<10:=by omega
  have hw:JP.wrap (48+(u:Int))=48+(u:Int):=ax (by omega) (by omega);have hw8:=Hq (48+(u:Int)) (by omega) (by omega);simp only [dU,h1,decide_true,JL,cF,if_true,fG,hw,kz,hw8,yV,wC,Cc u h,JV,qo h]
 ·have h1:¬(u:Int)<10:=by omega
  have hq:JP.wrap ((u:Int).tdiv 10)=((u / 10:Nat):Int):=by
   rw [Int.tdiv_eq_ediv_of_nonneg (by omega),ax (by omega) (by omega)];omega
  have hr:(u:Int).tmod 10=((u % 10:Nat):Int):=by
   rw [Int.tmod_eq_emod_of_nonneg (by omega)];omega
  have hm:u % 10<10:=Nat.mod_lt _ (by decide);have hw:JP.wrap (48+((u % 10:Nat):Int))=48+((u % 10:Nat):Int):=ax (by omega) (by omega);have hw8:=Hq (48+((u % 10:Nat):Int)) (by omega) (by omega);have hs:(sL (u / 10)).size+(⟨#[Kj (48+u % 10)]⟩:ByteArray).size≤1152921504606846976:=by
   have:=rS 17 (u / 10) (by omega);have h2:(⟨#[Kj (48+u % 10)]⟩:ByteArray).size=1:=rfl;omega
  rcases ih with e | e
  ·left
   refine⟨?_,e,h⟩
   simp only [dU,h1,decide_false,JL,cF,JM,if_false,Cz,show ¬(10:Int)=0 by decide,hq,e,ao]
  ·right
   simp only [dU,h1,decide_false,JL,cF,JM,if_false,Cz,show ¬(10:Int)=0 by decide,hq,e,aA,FU,hr,fG,hw,kz,hw8,yV,wC,
    Cc _ hm,JV,aG,fW,hs,if_true,zH h]
theorem yI:∀(k u:Nat),u<10 ^ 18→bP k [I (u:Int)]=none∨bP k [I (u:Int)]=some (.ret [T (sL u)] [])
 | 0,_,_=>.inl rfl
 | k+1,u,hu=>(ut k u hu (yI k (u / 10) (by omega))).imp (fun h=>h.1) id
theorem Cd:∀(k u:Nat),u<10 ^ 18→u<10 ^ (k+1)→bP (k+1) [I (u:Int)]=some (.ret [T (sL u)] [])
 | 0,u,hu,h=>by
  rcases ut 0 u hu (yI 0 _ (by omega)) with ⟨_,_,h1⟩ | h1
  ·exact absurd (by simpa using h) h1
  ·exact h1
 | k+1,u,hu,h=>by
  rcases ut (k+1) u hu (yI (k+1) _ (by omega)) with ⟨_,h1,_⟩ | h1
  ·rw [Cd k (u / 10) (by omega) (by rw [Nat.pow_succ] at h;exact Nat.div_lt_of_lt_mul (by rw [Nat.mul_comm];exact h))] at h1
   cases h1
  ·exact h1
theorem gV {n:Int} (h0:0≤n) (h1:n<1000000000000000000):dC [I n]=some (.ret [T (sH n)] []):=by
 obtain⟨u,rfl⟩:=Kf h0;have hu:u<10 ^ 18:=by omega
 rw [zJ];refine Gh (fun k o ho=>?_) 18 (Cd 17 u hu hu)
 rcases yI k u hu with e | e
 ·rw [e] at ho;cases ho
 ·rw [e] at ho;cases ho;rfl
theorem vQ {n:Int} (h0 : -9223372036854775808≤n) (h1:n≤9223372036854775807):nE [I n]=some (.ret [T (sH n)] []):=by
 simp only [nE,h0,h1,and_self,if_true];rfl
theorem FT {a b:ByteArray} {bl:Bool} {eq:List Nat} (h:a.size+b.size≤1152921504606846976):bin .add bl eq (T a) (T b)=some (T (a++b)):=by rw [fW,if_pos h]
theorem sz1 (a:UInt8):(⟨#[a]⟩:ByteArray).size=1:=rfl
set_option maxRecDepth 100000
theorem yw {l:List Bx} {x:Fm} (h:eF l x=true):1≤x.1∧x.1≤99:=by
 simp only [eF,JZ,decide_eq_true_eq] at h;exact h.1.1.1.1
theorem pw {s:Sp} (h:aE s=true):0≤s.2.2.2∧s.2.2.2≤1000000:=by
 have hp:0≤jM s.2.1:=by
  have key:∀(l:List Fm) (a:Int),0≤a→(∀x∈l,0≤x.2.2.2)→0≤l.foldl (fun a x=>a+x.2.2.2) a:=by
   intro l;induction l with
   | nil=>exact fun a h _=>h
   | cons y l ih=>exact fun a h hx=>ih _ (show 0≤a+y.2.2.2 by have:=hx y (by simp);omega) fun x hm=>hx x (by simp [hm])
  refine key _ 0 (by omega) fun x hx=>?_
  obtain⟨j,hj,rfl⟩:=Kc hx;exact(bM ((bu h).1 j hj)).1
 simp only [aE,JZ,decide_eq_true_eq] at h;obtain⟨_,h5⟩:=h;omega
def fmT (t:ByteArray) (x:Fm):ByteArray :=
 if x.2.2.1=true then t++((sH x.1++⟨#[58]⟩)++sH x.2.1.length)++⟨#[42]⟩++((⟨#[112]⟩++sH x.2.2.2)++⟨#[32]⟩)
 else t++((sH x.1++⟨#[58]⟩)++sH x.2.1.length)++((⟨#[112]⟩++sH x.2.2.2)++⟨#[32]⟩)
def wN (l:List Fm):ByteArray:=l.foldl fmT ⟨#[]⟩
def Cg (s:Sp):ByteArray:=wN s.2.1++⟨#[108,111,115,116,32]⟩++sH s.2.2.1++⟨#[32,115,104,101,101,116,115,32]⟩++sH s.2.2.2
theorem DW {l:List Bx} {x:Fm} (h:eF l x=true) (t:ByteArray):(fmT t x).size≤t.size+50:=by
 have h1:=yw h;have h2:=ed h;have h3:=bM h;have s1:=dl 9 (n:=x.1) (by omega) (by omega);have s2:=dl 9 (n:=(x.2.1.length:Int)) (by omega) (by omega);have s3:=dl 9 (n:=x.2.2.2) (by omega) (by omega);unfold fmT;split<;>simp only [JW,sz1]<;>omega
theorem sv {l:List Fm} {i:Nat} (hi:i<l.length):wN (l.take (i+1))=fmT (wN (l.take i)) l[i]:=by
 unfold wN;rw [Kb hi,KG];rfl
theorem lc {s:Sp} (h:∀(j:Nat) (hj:j<s.2.1.length),eF s.1 s.2.1[j]=true):∀i,i≤s.2.1.length→(wN (s.2.1.take i)).size≤50*i
 | 0,_=>by
  show(⟨#[]⟩:ByteArray).size≤_
  exact KA _
 | i+1,hi=>by
  rw [sv (by omega)];have h1:=lc h i (by omega);have h2:=DW (h i (by omega)) (wN (s.2.1.take i));omega
theorem sz5 (a b c d e:UInt8):(⟨#[a,b,c,d,e]⟩:ByteArray).size=5:=rfl
theorem sz8 (a b c d e f g h:UInt8):(⟨#[a,b,c,d,e,f,g,h]⟩:ByteArray).size=8:=rfl
theorem tC (s:Sp) (h:cm s):gc [sp s]=some (.ret [T (if aE s then Cg s else⟨#[]⟩),B (aE s)] []):=by
 rw [tU];cases hs:aE s
 ·simp -implicitDefEqProofs [eN s h,hs]
 obtain⟨hf,_,hl,hlost⟩:=bu hs;have hsh:=pw hs;have bf:(fy 4 (sp s))=some (sp s):=by simp
 have ff:bF true 4 0 (sp s)=some (sp s):=by simp
 simp only [bf,ff,eN s h,hs,JL,aA,aG,fj,JR,cF,JM,if_false,aI,gW,if_true];have t1:ak false 1 (List.drop 1 [bxs s.1,fms s.2.1,I s.2.2.1,I s.2.2.2])=some (fms s.2.1):=rfl;simp only [t1,JL,bw,JS];refine aO _ (du s.2.1.length (fun i=>[sp s,T (wN (s.2.1.take i)),fms s.2.1,I s.2.1.length,I i]) (.ext 0 [sp s,T (wN s.2.1)]) (fun i hi=>?_) ?_ rfl rfl) ?_
 ·have hw:JP.wrap ((i:Int)+1)=(i:Int)+1:=ax (by omega) (by omega)
  have hx:=hf i hi;have h1:=yw hx;have h2:=ed hx;have h3:=bM hx;have n1:=gV (n:=s.2.1[i].1) (by omega) (by omega);have n2:=gV (n:=(s.2.1[i].2.1.length:Int)) (by omega) (by omega);have n3:=gV (n:=s.2.1[i].2.2.2) (by omega) (by omega);have s1:=dl 9 (n:=s.2.1[i].1) (by omega) (by omega);have s2:=dl 9 (n:=(s.2.1[i].2.1.length:Int)) (by omega) (by omega);have s3:=dl 9 (n:=s.2.1[i].2.2.2) (by omega) (by omega);have s0:=lc hf i (by omega);rw [sv hi];cases hk:s.2.1[i].2.2.1 <;>
   simp -implicitDefEqProofs (disch:=(first | assumption | (simp only [JW,sz1];omega))) [hi,hw,n1,n2,n3,FT,-fW,fmT,hk]
 ·simp
 ·have n1:=gV (n:=s.2.2.1) (by omega) (by omega)
  have n2:=gV (n:=s.2.2.2) (by omega) (by omega);have s1:=dl 9 (n:=s.2.2.1) (by omega) (by omega);have s2:=dl 9 (n:=s.2.2.2) (by omega) (by omega);have s0:=lc hf s.2.1.length (by omega);rw [Kx] at s0;simp -implicitDefEqProofs (disch:=(simp only [JW,sz5,sz8];omega)) [n1,n2,FT,-fW,Cg]
theorem tO (s:Sp) (h:cm s):fY [sp s]=some (.ret [T (if aE s then Cg s else⟨#[]⟩),B (aE s)] []):=by
 rw [tY];cases hs:aE s
 ·simp -implicitDefEqProofs [cL s h,hs]
 obtain⟨hf,_,hl,hlost⟩:=bu hs;have hsh:=pw hs;have bf:(fy 4 (sp s))=some (sp s):=by simp
 have ff:bF true 4 0 (sp s)=some (sp s):=by simp
 simp only [bf,ff,cL s h,hs,JL,aA,aG,fj,JR,cF,JM,if_false,aI,gW,if_true];have t1:ak false 1 (List.drop 1 [bxs s.1,fms s.2.1,I s.2.2.1,I s.2.2.2])=some (fms s.2.1):=rfl;simp only [t1,JL,bw,JS];refine aO _ (du s.2.1.length (fun i=>[sp s,T (wN (s.2.1.take i)),fms s.2.1,I s.2.1.length,I i]) (.ext 0 [sp s,T (wN s.2.1)]) (fun i hi=>?_) ?_ rfl rfl) ?_
 ·have hw:JP.wrap ((i:Int)+1)=(i:Int)+1:=ax (by omega) (by omega)
  have hx:=hf i hi;have h1:=yw hx;have h2:=ed hx;have h3:=bM hx;have n1:=vQ (n:=s.2.1[i].1) (by omega) (by omega);have n2:=vQ (n:=(s.2.1[i].2.1.length:Int)) (by omega) (by omega);have n3:=vQ (n:=s.2.1[i].2.2.2) (by omega) (by omega);have s1:=dl 9 (n:=s.2.1[i].1) (by omega) (by omega);have s2:=dl 9 (n:=(s.2.1[i].2.1.length:Int)) (by omega) (by omega);have s3:=dl 9 (n:=s.2.1[i].2.2.2) (by omega) (by omega);have s0:=lc hf i (by omega);rw [sv hi];cases hk:s.2.1[i].2.2.1 <;>
   simp -implicitDefEqProofs (disch:=(first | assumption | (simp only [JW,sz1];omega))) [hi,hw,n1,n2,n3,FT,-fW,fmT,hk]
 ·simp
 ·have n1:=vQ (n:=s.2.2.1) (by omega) (by omega)
  have n2:=vQ (n:=s.2.2.2) (by omega) (by omega);have s1:=dl 9 (n:=s.2.2.1) (by omega) (by omega);have s2:=dl 9 (n:=s.2.2.2) (by omega) (by omega);have s0:=lc hf s.2.1.length (by omega);rw [Kx] at s0;simp -implicitDefEqProofs (disch:=(simp only [JW,sz5,sz8];omega)) [n1,n2,FT,-fW,Cg]
set_option maxRecDepth 100000
theorem kj {β:Type} {p:β→Bool}:∀{l:List β} {i:Nat},dv p i l=none→∀x∈l,p x=false
 | [],_,_,x,hx=>by cases hx
 | y::l,i,h,x,hx=>by
  simp only [dv] at h;by_cases hp:p y=true
  ·rw [if_pos hp] at h;cases h
  ·rw [if_neg hp] at h
   rcases List.mem_cons.1 hx with rfl | hx
   ·simpa using hp
   ·exact kj h x hx
theorem CH (s:Sp) (n:Int) (h:cm s):∃i:Nat,i≤s.2.1.length∧(∀(k:Nat) (hk:k<s.2.1.length),k<i→s.2.1[k].1<n)∧(∀hi:i<s.2.1.length,¬s.2.1[i].1<n) ∧
  dV [sp s,I n]=some (.ret [I (i:Int),B (if hi:i<s.2.1.length then decide (s.2.1[i].1=n) else false)] []):=by
 rw [oR];have hl:=h.2.1;simp -implicitDefEqProofs only [show fy 4 (sp s)=some (sp s) by simp,JL];refine fx (fun X=>∃i:Nat,i≤s.2.1.length∧(∀(k:Nat) (hk:k<s.2.1.length),k<i→s.2.1[k].1<n)∧(∀hi:i<s.2.1.length,¬s.2.1[i].1<n)∧X=some (.ret [I (i:Int),B (if hi:i<s.2.1.length then decide (s.2.1[i].1=n) else false)] []))
  (fun i:Nat=>[I n,sp s,I (i:Int)]) (fun i=>i≤s.2.1.length∧∀(k:Nat) (hk:k<s.2.1.length),k<i→s.2.1[k].1<n) (fun i=>s.2.1.length - i)
  (fun o=>∃i:Nat,o = .ext 0 [I n,sp s,I (i:Int)]∧i≤s.2.1.length∧(∀(k:Nat) (hk:k<s.2.1.length),k<i→s.2.1[k].1<n)∧∀hi:i<s.2.1.length,¬s.2.1[i].1<n) ?_ 0 ⟨KA _,fun k _ h=>by omega⟩ rfl ?_
 ·rintro i ⟨g1,g2⟩
  by_cases hi:i<s.2.1.length
  ·have hi':(i:Int)<(s.2.1.length:Int):=by omega
   have hw:JP.wrap ((i:Int)+1)=((i+1:Nat):Int):=by rw [ax (by omega) (by omega)];omega
   by_cases hc:s.2.1[i].1<n
   ·left
    refine⟨i+1,by simp -implicitDefEqProofs [hi,hi',hc,hw],⟨by omega,fun k hk hlt=>?_⟩,by omega⟩
    by_cases hki:k=i
    ·subst hki;exact hc
    ·exact g2 k hk (by omega)
   ·right
    exact⟨.ext 0 [I n,sp s,I (i:Int)],by simp -implicitDefEqProofs [hi,hi',hc],rfl,i,rfl,g1,g2,fun _=>hc⟩
  ·right
   have hi':¬(i:Int)<(s.2.1.length:Int):=by omega
   exact⟨.ext 0 [I n,sp s,I (i:Int)],by simp -implicitDefEqProofs [hi,hi'],rfl,i,rfl,g1,g2,fun h=>absurd h hi⟩
 ·rintro o ⟨i,rfl,g1,g2,g3⟩
  refine⟨i,g1,g2,g3,?_⟩
  by_cases hi:i<s.2.1.length
  ·have hi':(i:Int)<(s.2.1.length:Int):=by omega
   simp -implicitDefEqProofs [hi,hi']
  ·have hi':¬(i:Int)<(s.2.1.length:Int):=by omega
   simp -implicitDefEqProofs [hi,hi']
theorem sX {l:List Bx} (h:oO l) {cs:List ByteArray} (ha:kf l cs=true):∀c∈cs,c.size≤1048576:=by
 have key:∀(m:List ByteArray) (i:Nat),cW (fun _ c=>!decide (fB l c<0)) i m=true→∀c∈m,c.size≤1048576:=by
  intro m;induction m with
  | nil=>intro i _ c hc;cases hc
  | cons x m ih =>
   intro i hp c hc;simp only [cW,JZ,Kg,decide_eq_false_iff_not] at hp;rcases List.mem_cons.1 hc with rfl | hc
   ·have h1:=hp.1
    unfold fB at h1;cases hf:dv (fun b:Bx=>decide (b.1=c)) 0 l with
    | none=>rw [hf] at h1;simp at h1
    | some j =>
     obtain⟨_,h2,h3,_⟩:=nD hf;rw [←of_decide_eq_true h3];exact h.2 _ (JU h2)
   ·exact ih (i+1) hp.2 c hc
 exact key cs 0 ha
def gD (l:List ByteArray):ByteArray:=l.foldl (·++·) ⟨#[]⟩
theorem om {m:Nat}:∀(l:List ByteArray) (a:ByteArray),(∀c∈l,c.size≤m)→(l.foldl (·++·) a).size≤a.size+l.length*m
 | [],a,_=>by simp
 | x::l,a,h=>by
  have h1:=om (m:=m) l (a++x) fun c hc=>h c (by simp [hc])
  have h2:=h x (by simp);rw [JW] at h1;rw [Kz,Kw,Nat.succ_mul];omega
theorem xC:∀(l:List ByteArray) (a:ByteArray),bd (l.foldl (·++·) a)=bd a++(l.map bd).flatten
 | [],a=>by simp
 | x::l,a=>by
  rw [Kz,xC l];simp [bd]
theorem IZ (l:List ByteArray):pU l ⟨#[]⟩=gD l:=by
 have h:bd (pU l ⟨#[]⟩)=bd (gD l):=by
  unfold gD;rw [xC];unfold pU;have:Lib.join (l.map (·.data.toList)) []=(l.map bd).flatten:=by
   cases l with
   | nil=>rfl
   | cons x l =>
    rw [Ks,Lib.join_cons];simp [Lib.joinTail,bd];rfl
  simp only [bd,List.toList_toArray] at this ⊢;rw [this];simp
 cases hx:pU l ⟨#[]⟩ with | mk a =>
  cases hy:gD l with | mk b =>
   rw [hx,hy] at h;simp only [bd] at h;congr
   exact Array.ext' h
theorem xk {l:List ByteArray} {i:Nat} (hi:i<l.length):gD (l.take (i+1))=gD (l.take i)++l[i]:=by
 unfold gD;rw [Kb hi,KG];rfl
def zT (s:Sp) (n:Int):Option ByteArray:=if aE s=true then(s.2.1.find? (idP n)).map fun x=>gD x.2.1 else none
theorem sA {s:Sp} {n:Int} (h:aE s=true) {j:Nat} (hj:j<s.2.1.length) (e:s.2.1[j].1=n):s.2.1.find? (idP n)=some s.2.1[j]:=by
 obtain⟨_,hinc⟩:=ko h;have key:∀(l:List Fm) (k:Nat) (hk:k<l.length),l[k].1=n→(∀(i:Nat) (hi:i<l.length),i<k→¬l[i].1=n)→l.find? (idP n)=some l[k]:=by
  intro l;induction l with
  | nil=>intro k hk;simp at hk
  | cons x l ih =>
   intro k hk hkn hb;cases k with
   | zero =>
    simp only [Ki] at hkn ⊢;rw [List.find?_cons_of_pos (by simpa [idP] using hkn)]
   | succ k =>
    have h0:=hb 0 (by simp) (by omega);simp only [Ki] at h0;rw [List.find?_cons_of_neg (by simpa [idP] using h0)];simp only [KB] at hkn ⊢;exact ih k (by simpa using hk) hkn fun i hi hik=>by
     have:=hb (i+1) (by simpa using hi) (by omega);simpa using this
 exact key _ j hj e fun i hi hij he=>by
  have:=hinc i j hj hij;omega
theorem sq (s:Sp) (n:Int) (h:cm s):fI [sp s,I n]=some (.ret [T ((zT s n).getD ⟨#[]⟩),B (zT s n).isSome] []):=by
 rw [sW];have e0:(D.v (Kv {data:={toList:=[]}}))=T ⟨#[]⟩:=rfl;have hb4:fy 4 (sp s)=some (sp s):=by simp
 have hf4:bF true 4 0 (sp s)=some (sp s):=by simp
 have hsf:=iI s n h;have hsg:=eN s h;unfold zT;cases hg:aE s
 ·rw [hg] at hsg
  simp -implicitDefEqProofs only [e0,hb4,hf4,JL,hsf,hsg,aA,aG,fj,KD,ip,if_true,fF,cF,JM,if_false];rfl
 rw [hg] at hsg;cases hf:dv (idP n) 0 s.2.1 with
 | none =>
  rw [hf] at hsf;have hno:s.2.1.find? (idP n)=none:=List.find?_eq_none.2 fun x hx=>by rw [kj hf x hx];simp
  simp -implicitDefEqProofs only [e0,hb4,hf4,JL,hsf,hsg,aA,aG,fj,JR,ip,if_true,JM,if_false,Option.elim,dU,show(-1:Int)<0 by decide,decide_true,fF,cF,hno,KL];rfl
 | some j =>
  rw [hf] at hsf;obtain⟨_,h2,h3,_⟩:=nD hf;simp only [Nat.sub_zero] at h2 h3;have hid:=of_decide_eq_true h3;have hfs:=sA hg h2 hid;have hneg:¬((j:Int)<0):=by omega
  have hall:=ko hg;have hfm:=hall.1 _ (JU h2);simp only [eF,JZ,Kg,decide_eq_false_iff_not] at hfm;have hcs:=sX h.1 hfm.2;have hlen:s.2.1[j].2.1.length≤40:=by omega
  have hel:bm 4 (fms s.2.1) (I (j:Int))=some [I s.2.1[j].1,txs s.2.1[j].2.1,B s.2.1[j].2.2.1,I s.2.1[j].2.2.2]:=by simp [h2]
  simp -implicitDefEqProofs only [e0,hb4,hf4,JL,hsf,hsg,aA,aG,fj,JR,ip,if_true,JM,if_false,Option.elim,dU,hneg,decide_false,fF,cF,hfs,JV,KJ,Option.isSome_some,aI,gW,JX,Ka,gb,hel,rE,ia,bw,JS];generalize s.2.1[j].2.1=cs at hcs hlen;refine aO _ (du cs.length (fun i=>[T (gD (cs.take i)),txs cs,I cs.length,I i]) (.ext 0 [T (gD cs)]) (fun i hi=>?_) ?_ rfl rfl) ?_
  ·have hi':(i:Int)<(cs.length:Int):=by omega
   have hw:JP.wrap ((i:Int)+1)=((i+1:Nat):Int):=by rw [ax (by omega) (by omega)];omega
   have hel:bm 1 (txs cs) (I (i:Int))=some [T cs[i]]:=by simp [hi]
   have z1:=om (m:=1048576) (cs.take i) ⟨#[]⟩ fun c hc=>hcs c (KE hc)
   have z2:=hcs cs[i] (JU hi);have z3:(cs.take i).length≤40:=by rw [KK];omega
   have z4:(⟨#[]⟩:ByteArray).size=0:=rfl;have z5:(gD (cs.take i)).size≤40*1048576:=by
    unfold gD;have:(cs.take i).length*1048576≤40*1048576:=Km _ z3;omega
   have ha:bin .add false [] (T (gD (cs.take i))) (T cs[i])=some (T (gD (cs.take (i+1)))):=by
    rw [fW,if_pos (by omega),xk hi]
   show _=some (Out.nrm [T (gD (cs.take (i+1))),txs cs,I cs.length,I ((i+1:Nat):Int)])
   simp -implicitDefEqProofs only [aG,fe,dU,hi',decide_true,JL,cF,if_true,hel,JV,ia,gb,lS,ha,fG,hw]
  ·simp
  ·simp
theorem lO (s:Sp) (n:Int) (h:cm s):dk [sp s,I n]=some (.ret [T ((zT s n).getD ⟨#[]⟩),B (zT s n).isSome] []):=by
 rw [sB];have e0:(D.v (Kv {data:={toList:=[]}}))=T ⟨#[]⟩:=rfl;have hb4:fy 4 (sp s)=some (sp s):=by simp
 have hf4:bF true 4 0 (sp s)=some (sp s):=by simp
 obtain⟨i,g1,g2,g3,hfa⟩:=CH s n h;have hsg:=cL s h;have tp0:∀(a:Int) (b:Bool),bU (.tup [I a,B b]) 0=some (I a):=fun _ _=>rfl
 have tp1:∀(a:Int) (b:Bool),bU (.tup [I a,B b]) 1=some (B b):=fun _ _=>rfl
 unfold zT;cases hg:aE s
 ·rw [hg] at hsg
  simp -implicitDefEqProofs only [e0,hb4,hf4,JL,hfa,hsg,aA,tp0,tp1,aG,fj,KD,ip,if_true,fF,cF,JM,if_false];rfl
 rw [hg] at hsg;by_cases hi:i<s.2.1.length∧(∃hi:i<s.2.1.length,s.2.1[i].1=n)
 ·obtain⟨hi,_,hid⟩:=hi
  rw [dif_pos hi,hid,decide_eq_true rfl] at hfa;have hfs:=sA hg hi hid;have hall:=ko hg;have hfm:=hall.1 _ (JU hi);simp only [eF,JZ,Kg,decide_eq_false_iff_not] at hfm;have hcs:=sX h.1 hfm.2;have hlen:s.2.1[i].2.1.length≤40:=by omega
  have hel:bm 4 (fms s.2.1) (I (i:Int))=some [I s.2.1[i].1,txs s.2.1[i].2.1,B s.2.1[i].2.2.1,I s.2.1[i].2.2.2]:=by simp [hi]
  have z1:=om (m:=1048576) s.2.1[i].2.1 ⟨#[]⟩ hcs;have z4:(⟨#[]⟩:ByteArray).size=0:=rfl;have z5:(gD s.2.1[i].2.1).size≤40*1048576:=by
   unfold gD;have:s.2.1[i].2.1.length*1048576≤40*1048576:=Km _ hlen;omega
  have hj:xy [txs s.2.1[i].2.1,T ⟨#[]⟩]=some (.ret [T (gD s.2.1[i].2.1)] []):=by
   simp only [xy,xA,JL,IZ];rw [if_pos ⟨by omega,by omega⟩]
  simp -implicitDefEqProofs only [e0,hb4,hf4,JL,hfa,hsg,aA,tp0,tp1,aG,fj,JR,ip,if_true,JM,if_false,fF,cF,hfs,JV,KJ,Option.isSome_some,aI,gW,JX,Ka,gb,hel,rE,ia,hj]
 ·have hb:(if hi:i<s.2.1.length then decide (s.2.1[i].1=n) else false)=false:=by
   split
   ·rename_i hi'
    exact decide_eq_false fun e=>hi ⟨hi',hi',e⟩
   ·rfl
  have hno:s.2.1.find? (idP n)=none:=List.find?_eq_none.2 fun x hx=>by
   obtain⟨j,hj,rfl⟩:=Kc hx;simp only [idP,decide_eq_true_eq];intro e;rcases KH j i with hji | hji | hji
   ·have:=g2 j hj hji;omega
   ·subst hji;exact hi ⟨hj,hj,e⟩
   ·have h1:=(ko hg).2 i j hj hji
    have h2:=g3 (by omega);omega
  rw [hb] at hfa;simp -implicitDefEqProofs only [e0,hb4,hf4,JL,hfa,hsg,aA,tp0,tp1,aG,fj,JR,KD,ip,if_true,JM,if_false,fF,cF,hno,KL];rfl
set_option maxRecDepth 100000
theorem AE {β:Type} {body:List D→Option Out} (l:List β) (st:Nat→Int→List D) (f:β→Int) (fin:Int→Out) (M a:Int) (hf:∀x∈l,0≤f x∧f x≤M) (hM:0≤M) (hb:0≤a) (hB:a+M*l.length<9223372036854775808)
  (hs:∀(i:Nat) (a:Int) (hi:i<l.length),JP.wrap (a+f l[i])=a+f l[i]→body (st i a)=some (.nrm (st (i+1) (a+f l[i])))) (he:∀a,body (st l.length a)=some (fin a)) (h1:∀a,(fin a).ends=true) {s0:List D} (h:s0=st 0 a) :
  bq body s0=some (fin (a+(l.map f).sum)):=by
 have e:∀(m:List β) (i:Nat) (a:Int),vx (fun _ a x=>a+f x) i m a=a+(m.map f).sum:=by
  intro m;induction m with
  | nil=>intro i a;simp [vx]
  | cons x m ih=>intro i a;simp only [vx,ih,Ks,List.sum_cons];omega
 rw [←e l 0 a];refine Bw l st (fun i b=>0≤b∧b≤a+M*i) (fun _ a x=>a+f x) fin a (fun i b hi hI=>?_) (fun a _=>he a) h1 ⟨hb,by simp⟩ h
 have hx:=hf l[i] (JU hi);have h3:M*(i:Int)+M≤M*l.length:=by
  have:M*((i:Int)+1)≤M*l.length:=Int.mul_le_mul_of_nonneg_left (by omega) hM;rw [KI,Int.mul_one] at this;exact this
 have h4:M*((i+1:Nat):Int)=M*(i:Int)+M:=by
  rw [KM,KI];simp
 exact⟨hs i b hi (ax (by omega) (by omega)),by omega,by rw [h4];omega⟩
theorem Bq {β:Type} {f:β→Int} {M:Int}:∀{l:List β},(∀x∈l,0≤f x∧f x≤M)→0≤(l.map f).sum∧(l.map f).sum≤M*l.length
 | [],_=>by simp
 | x::l,h=>by
  have h1:=h x (by simp);have h2:=Bq (l:=l) fun y hy=>h y (by simp [hy])
  simp only [Ks,List.sum_cons,Kw,KM,KI];simp only [Int.natCast_one,Int.mul_one];omega
theorem vV (l:List Bx) (ho:oO l) (h:bp l=true):gL [bxs l]=some (.ret [I (dz l),B true] []):=by
 rw [vB];obtain⟨h32,hc⟩:=mo h;simp -implicitDefEqProofs only [dc l ho,h,aA,aG,fj,JR,JL,cF,JM,if_false,bw,JS];refine aO _ (AE l (fun i a=>[I a,bxs l,I l.length,I i]) (fun x=>x.2.2.2) (fun a=>.ext 0 [I a]) 9999 0 hc (by omega) (by omega) (by omega) (fun i a hi hwa=>?_) (fun a=>?_) (fun _=>rfl) rfl) ?_
 ·have hw:JP.wrap ((i:Int)+1)=(i:Int)+1:=ax (by omega) (by omega)
  simp -implicitDefEqProofs [hi,hw,hwa]
 ·simp -implicitDefEqProofs
 ·simp -implicitDefEqProofs [dz]
theorem ke (s:Sp) (h:cm s):dn [sp s]=some (.ret [I (mg s),B (aE s)] []):=by
 rw [qg];unfold mg;cases hok:aE s
 ·simp -implicitDefEqProofs [cL s h,hok]
 obtain⟨p1,p2,p3,p4⟩:=bu hok;obtain⟨h32,hc⟩:=mo p2;have hsum:0≤dz s.1∧dz s.1≤9999*s.1.length:=Bq hc;have hf:∀x∈s.2.1,0≤(x.2.1.length:Int)∧(x.2.1.length:Int)≤40:=fun x hx=>by
  obtain⟨j,hj,rfl⟩:=List.mem_iff_getElem.1 hx;have:=ed (p1 j hj);omega
 have hsum2:0≤nW s.2.1∧nW s.2.1≤40*s.2.1.length:=Bq hf;have hw0:JP.wrap (dz s.1+nW s.2.1+s.2.2.1)=dz s.1+s.2.2.1+nW s.2.1:=by
  rw [ax (by omega) (by omega)];omega
 simp -implicitDefEqProofs [cL s h,hok,vV s.1 h.1 p2];refine aO (.ext 0 [sp s,I (dz s.1+nW s.2.1)]) (AE s.2.1 (fun i a=>[sp s,I a,fms s.2.1,I s.2.1.length,I i]) (fun x=>(x.2.1.length:Int)) (fun a=>.ext 0 [sp s,I a]) 40 (dz s.1) hf (by omega) (by omega) (by omega) (fun i a hi hwa=>?_) (fun a=>?_) (fun _=>rfl) rfl) ?_
 ·have hw:JP.wrap ((i:Int)+1)=(i:Int)+1:=ax (by omega) (by omega)
  simp -implicitDefEqProofs [hi,hw,hwa]
 ·simp -implicitDefEqProofs
 ·simp -implicitDefEqProofs [hw0]
theorem wO (l:List Bx) (h:l.length≤1048577):iM [bxs l,bxs l]=some (.ret [B true] []):=by
 rw [wE];simp -implicitDefEqProofs only [bw,JS,JL,iK,decide_true,JR,cF,JM,if_false];refine aO (.ext 0 []) (du l.length (fun i=>[bxs l,bxs l,I l.length,I i]) _ (fun i hi=>?_) ?_ rfl rfl) ?_
 ·have hw:JP.wrap ((i:Int)+1)=((i+1:Nat):Int):=by rw [ax (by omega) (by omega)];omega
  have hq:bin .neq false [3,1,1,1] (bx l[i]) (bx l[i])=some (B false):=by simp [bin,pj]
  simp -implicitDefEqProofs [hi,hw,xP,aV,hq]
 ·simp -implicitDefEqProofs
 ·simp -implicitDefEqProofs
theorem wH (l:List ByteArray) (h:l.length≤1048577):iJ [txs l,txs l]=some (.ret [B true] []):=by
 rw [wB];simp -implicitDefEqProofs only [bw,JS,JL,iK,decide_true,JR,cF,JM,if_false];refine aO (.ext 0 []) (du l.length (fun i=>[txs l,txs l,I l.length,I i]) _ (fun i hi=>?_) ?_ rfl rfl) ?_
 ·have hw:JP.wrap ((i:Int)+1)=((i+1:Nat):Int):=by rw [ax (by omega) (by omega)];omega
  simp -implicitDefEqProofs [hi,hw]
 ·simp -implicitDefEqProofs
 ·simp -implicitDefEqProofs
theorem yr (s:Sp) (h:cm s):jH [sp s,sp s]=some (.ret [B true] []):=by
 rw [xU];have h1:=wO s.1 (by have:=h.1.1;omega);have hl:=h.2.1;have hb:fy 4 (sp s)=some (sp s):=by simp [D.cells,D.single]
 simp -implicitDefEqProofs only [hb,h1,aI,JL,gW,Ka,JX,gb,aA,aG,fj,JR,ip,bw,JS,iK,decide_true,JM,if_false,fF,lS,cF];refine aO (.ext 0 []) (du s.2.1.length (fun i=>[sp s,fms s.2.1,I s.2.1.length,I i]) _ (fun i hi=>?_) ?_ rfl rfl) ?_
 ·have hw:JP.wrap ((i:Int)+1)=((i+1:Nat):Int):=by rw [ax (by omega) (by omega)];omega
  have hi':(i:Int)<(s.2.1.length:Int):=by omega
  have ht:=wH s.2.1[i].2.1 (by have:=h.2.2 _ (JU hi);omega);have hg:=yJ hi;generalize s.2.1[i]=x at *;obtain⟨x1,x2,x3,x4⟩:=x;have hs:=Ci (x1,x2,x3,x4);have hld:ldD true 4 (.ptr [I x1,txs x2,B x3,I x4])=some (.agg [I x1,txs x2,B x3,I x4]):=by simp
  simp -implicitDefEqProofs only [aG,fe,dU,hi',decide_true,JL,cF,if_true,hg,JV,hld,hs,aI,gW,Ka,JX,gb,lS,iK,JR,ip,oD,ht,aA,jO,fj,fF,vO,beq_self_eq_true,JM,if_false,fG,hw]
 ·simp -implicitDefEqProofs
 ·simp -implicitDefEqProofs
theorem Gw {s:Sp} (h:cm s):cm (kc s):=by
 unfold kc;split
 ·exact⟨iF h.1 (lJ _ _),by simp [ET]⟩
 ·exact⟨by simp [oO],by simp [ET]⟩
theorem yp (l:List Int) (h:l.length≤1048576):jL [jI l,jI l]=some (.ret [B true] []):=by
 rw [yq];simp only [bw,JS,JL,iK,decide_true,JR,cF,JM,if_false];refine aO (.ext 0 []) (du l.length (fun i=>[jI l,jI l,I l.length,I i]) _ (fun i hi=>?_) ?_ rfl rfl) ?_
 ·have hw:JP.wrap ((i:Int)+1)=(i:Int)+1:=ax (by omega) (by omega)
  simp -implicitDefEqProofs [hi,hw]
 ·simp
 ·simp
theorem zN (l:List Int) (n:Int) (h:l.length≤1048577):jc [jI l,I n]=some (.ret [B (decide (n∈l))] []):=by
 rw [Aj];simp only [bw,JS,JL];refine aO _ (lM l (fun i=>[I n,jI l,I l.length,I i]) (fun x=>decide (x=n)) (fun _=>.ret [B true] []) (.ext 0 []) (fun i hi=>?_) ?_ (fun _=>rfl) rfl rfl) ?_
 ·have hw:JP.wrap ((i:Int)+1)=(i:Int)+1:=ax (by omega) (by omega)
  by_cases h1:l[i]=n<;>simp -implicitDefEqProofs [hi,hw,h1]
 ·simp
 ·cases hf:dv (fun x=>decide (x=n)) 0 l with
  | none =>
   have hm:n∉l:=fun hm=>by
    have:=kj hf n hm;simp at this
   simp [hm]
  | some j =>
   obtain⟨_,h2,h3,_⟩:=nD hf;have hm:n∈l:=by
    rw [←of_decide_eq_true h3];exact JU h2
   simp [hm]
theorem IJ (a:ByteArray):a++(⟨#[]⟩:ByteArray)=a:=by
 apply ByteArray.ext;simp
theorem xY (l:List ByteArray) (h:l.length≤40) (hc:∀c∈l,c.size≤1048576):gF [txs l,T ⟨#[]⟩]=some (.ret [T (gD l)] []):=by
 rw [xN];simp only [bw,JS,JL];refine aO _ (du l.length (fun i=>[T ⟨#[]⟩,T (gD (l.take i)),txs l,I l.length,I i]) (.ext 0 [T (gD l)]) (fun i hi=>?_) ?_ rfl rfl) ?_
 ·have hi':(i:Int)<(l.length:Int):=by omega
  have hw:JP.wrap ((i:Int)+1)=((i+1:Nat):Int):=by rw [ax (by omega) (by omega)];omega
  have hel:bm 1 (txs l) (I (i:Int))=some [T l[i]]:=by simp [hi]
  have z1:=om (m:=1048576) (l.take i) ⟨#[]⟩ fun c hx=>hc c (KE hx)
  have z2:=hc l[i] (JU hi);have z3:(l.take i).length≤40:=by rw [KK];omega
  have z4:(⟨#[]⟩:ByteArray).size=0:=rfl;have z5:(gD (l.take i)).size≤40*1048576:=by
   unfold gD;have:(l.take i).length*1048576≤40*1048576:=Km _ z3;omega
  have ha:bin .add false [] (T (gD (l.take i))) (T l[i])=some (T (gD (l.take (i+1)))):=by
   rw [fW,if_pos (by omega),xk hi]
  have hb:bin .add false [] (T (gD (l.take i))) (T ⟨#[]⟩)=some (T (gD (l.take i))):=by
   rw [fW,if_pos (by omega),IJ]
  show _=some (Out.nrm [T ⟨#[]⟩,T (gD (l.take (i+1))),txs l,I l.length,I ((i+1:Nat):Int)])
  by_cases h0:(0:Int)<(i:Int)
  ·simp -implicitDefEqProofs only [aG,fe,dU,og,hi',h0,decide_true,JL,cF,if_true,hel,JV,ia,gb,lS,ha,hb,fG,hw]
  ·simp -implicitDefEqProofs only [aG,fe,dU,og,hi',h0,decide_true,decide_false,JM,if_false,JL,cF,if_true,hel,JV,ia,gb,lS,ha,hb,fG,hw]
 ·simp
 ·simp
set_option maxRecDepth 100000
theorem tu {s:Sp} (h:cm s) (hg:aE s=true) {i:Nat} (hi:i<s.2.1.length):s.2.1[i].2.1.length≤40∧∀c∈s.2.1[i].2.1,c.size≤1048576:=by
 have hfm:=(ko hg).1 _ (JU hi);simp only [eF,JZ,Kg,decide_eq_false_iff_not] at hfm;exact⟨by omega,sX h.1 hfm.2⟩
theorem BE {s:Sp} (h:cm s) (hg:aE s=true) {i:Nat} (hi:i<s.2.1.length):dk [sp s,I s.2.1[i].1]=some (.ret [T (gD s.2.1[i].2.1),B true] []):=by
 rw [lO s _ h];unfold zT;rw [if_pos hg,sA hg hi rfl];rfl
theorem Ba {s:Sp} (h:cm s) (hg:aE s=true) {i:Nat} (hi:i<s.2.1.length):gF [txs s.2.1[i].2.1,T ⟨#[]⟩]=some (.ret [T (gD s.2.1[i].2.1)] []) :=
 xY _ (tu h hg hi).1 (tu h hg hi).2
theorem GB {s:Sp} (hg:aE s=true) {i:Nat} (hi:i<s.2.1.length):decide (s.2.1[i].1∈tS s)=s.2.1[i].2.2.1:=by
 have hinc:=(ko hg).2;unfold tS sI;rw [if_pos hg];cases hb:s.2.1[i].2.2.1
 ·refine decide_eq_false fun hm=>?_
  obtain⟨x,hx,he⟩:=List.mem_map.1 hm;obtain⟨hx1,hx2⟩:=KN.1 hx;obtain⟨j,hj,rfl⟩:=Kc hx1;rcases KH j i with hji | hji | hji
  ·have:=hinc j i hi hji
   omega
  ·subst hji
   rw [hb] at hx2;cases hx2
  ·have:=hinc i j hj hji
   omega
 ·exact decide_eq_true (List.mem_map.2 ⟨_,KN.2 ⟨JU hi,hb⟩,rfl⟩)
theorem yT {s:Sp} (h:cm s):(tS s).length≤1048576:=by
 have:=yB s.2.1;have:=h.2.1;unfold tS;split
 ·omega
 ·simp
theorem Dx {s:Sp} (h:cm s) (hg:aE s=true) {i:Nat} (hi:i<s.2.1.length):jc [jI (tS s),I s.2.1[i].1]=some (.ret [B s.2.1[i].2.2.1] []):=by
 rw [zN _ _ (by have:=yT h;omega),GB hg hi]
set_option maxRecDepth 100000
theorem tps (s:Sp) (ds:List D):bU (.tup (sp s::ds)) 0=some (sp s):=rfl
theorem Gp (v:Value) (ds:List D):bU (.tup (.v v::ds)) 0=some (.v v):=rfl
theorem He (a:D) (v:Value) (ds:List D):bU (.tup (a :: .v v::ds)) 1=some (.v v):=rfl
theorem JA (l:List Int) (ds:List D):bU (.tup (jI l::ds)) 0=some (jI l):=rfl
theorem JB (l:List Int) (b:Bool):bU (qh (.tup [jI l,B b]) 0) 1=some (B b):=rfl
theorem Gx {b o:Bool} (h:(b && !o)=false) (p q:Option Out):((ae (D.tup []) (B b) true (some (B o))).bind fun z=>(ae (D.tup []) (B b) true (un UnOp.not z)).bind fun y=>ifD (if b=true then y else B false) p q)=q:=by
 cases b<;>cases o<;>simp at h<;>simp -implicitDefEqProofs
theorem Ev {s:Sp} (h:nT s=true):tW s:=by
 cases Classical.em (tW s) with
 | inl h=>exact h
 | inr g=>rw [(um g).1] at h;cases h
theorem xm {s:Sp} (hs:cm s) (h:nT s=true):aE s=true∧aE (kc s)=true∧mg (kc s)=mg s∧(kc s).2.2.1=s.2.2.1∧(kc s).2.1=[]:=by
 have hg:=Ev h;obtain⟨h1,h2,h3,h4⟩:=Dh hs hg;exact⟨hg.1,h2,h1,h3,h4⟩
set_option maxHeartbeats 4000000 in
theorem AU (code more:List Int) (hb1:∀n∈code,0≤n∧n≤255) (hb2:∀n∈more,0≤n∧n≤255) (hi1:code.length≤9223372036854775807) (hi2:more.length≤9223372036854775807):fJ [gj code,gj more]=some (.ret [B true] []):=by
 rw [sQ];simp -implicitDefEqProofs only [bw,JS,JL,fG,og,cF,decide_eq_true_eq];by_cases hbig:1048576<JP.wrap ((code.length:Int)+(more.length:Int))
 ·rw [if_pos hbig]
 rw [if_neg hbig];obtain⟨s,e1,hs⟩:=qr code ⟨hb1,hi1⟩;have hsp:=fun t:Sp=>Cw (.arr 4 []) (.arr 4 []) (I 0) (I 0) t ⟨rfl,rfl,rfl,rfl⟩
 have i1:fN [sp s]=some (.ret [sp (kc s),B (nT s)] []):=qf hs;have i2:fO [sp s]=some (.ret [sp (kc s),B (nT s)] []):=qf hs;have i3:=oN s hs;have i4:=oY s hs;have i5:=tO s hs;have i6:=tC s hs;have hro:=Gw hs;have i7:=yr _ hro;have i8:=yp (tS s) (yT hs);have i9:=cL s hs;have k1:=ke s hs;have k2:=ke _ hro;have hcond:(nT s && !aE s)=false:=by
  cases h:nT s
  ·rfl
  ·rw [(xm hs h).1]
   rfl
 simp -implicitDefEqProofs only [e1,aA,aG,tps,Gp,He,JA,JB,JL,hsp,sU,i1,i2,i3,i4,i5,i6,vO,bne_self_eq_false,beq_self_eq_true,JR,ip,oD,i7,i8,i9,jO,fj,fF,JM,if_false,AX,iK,decide_true];refine(Gx hcond _ _).trans ?_
 refine zx (fun q=>q=[gj more,sp s,B (aE s),jI (tS s)]) ?_ ?_
 ·rintro _ rfl
  refine zx (fun q=>q=[gj more]) ?_ ?_
  ·rintro _ rfl
   obtain⟨u,n,e2,hu⟩:=tJ more ⟨hb2,hi2⟩;have j1:=lO u n hu;have j2:=sq u n hu;simp -implicitDefEqProofs only [aG,e2,aA,tps,Gp,He,JL,hsp,sU,j1,j2];cases (zT u n).isSome<;>simp -implicitDefEqProofs
  ·intro j hj
   simp -implicitDefEqProofs only [aG,fe,cF];cases hg:aE s
   ·simp -implicitDefEqProofs only [JM,if_false]
    exact hj _ rfl
   ·have hl:=hs.2.1
    simp -implicitDefEqProofs only [if_true,aI,JL,gW,Ka,JX,gb,bw,JS];refine aO (.ext 0 [gj more]) (du s.2.1.length (fun i=>[gj more,sp s,jI (tS s),fms s.2.1,I s.2.1.length,I i]) _ (fun i hi=>?_) ?_ rfl rfl) ?_
    ·have hw:JP.wrap ((i:Int)+1)=((i+1:Nat):Int):=by rw [ax (by omega) (by omega)];omega
     have hi':(i:Int)<(s.2.1.length:Int):=by omega
     have f1:=BE hs hg hi;have f2:=Ba hs hg hi;have f3:=Dx hs hg hi;have hgt:=yJ hi;generalize s.2.1[i]=x at *;obtain⟨x1,x2,x3,x4⟩:=x;have hst:=Ci (x1,x2,x3,x4);have hld:ldD true 4 (.ptr [I x1,txs x2,B x3,I x4])=some (.agg [I x1,txs x2,B x3,I x4]):=by simp
     have e0:(D.v (Kv {data:={toList:=[]}}))=T ⟨#[]⟩:=rfl;simp -implicitDefEqProofs only [e0,aG,fe,dU,hi',decide_true,JL,cF,if_true,hgt,JV,hld,hst,sU,aI,gW,Ka,JX,gb,lS,f1,f2,f3,aA,Gp,He,jO,fj,JR,ip,oD,fF,AX,iK,vO,bne_self_eq_false,beq_self_eq_true,decide_true,JM,if_false,fG,hw]
    ·simp -implicitDefEqProofs
    ·simp -implicitDefEqProofs only [nJ,Nat.beq_refl,zE,if_true,aG]
     exact hj _ rfl
 ·intro j hj
  cases hB:nT s
  ·simp -implicitDefEqProofs only [cF,JM,if_false]
   exact hj _ rfl
  ·obtain⟨r1,r2,r3,r4,r5⟩:=xm hs hB
   rw [r1] at k1;rw [r2,r3] at k2;have r6:¬((0:Int)<((kc s).2.1.length:Int)):=by rw [r5];simp
   simp -implicitDefEqProofs only [cF,if_true,k1,k2,aA,Gp,He,JL,fj,JR,ip,oD,jO,aG,fF,JM,if_false,iK,decide_true,aI,gW,Ka,JX,gb,lS,og,bw,JS,r6,r4,decide_false];exact hj _ rfl
end Go.Proofs.YtkcojipciiakdaaDoor

end
