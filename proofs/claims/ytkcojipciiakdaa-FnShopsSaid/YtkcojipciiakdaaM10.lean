/-
  A part of the proof: contracts and plain forms of functions beneath the statement, made small by a program (names shortened, what is not needed left out).
-/
import Derived.Test.YtkcojipciiakdaaRows
import Derived.Test.YtkcojipciiakdaaM9
open List renaming setIfInBounds_toArray → Ji, set_cons_zero → Jj, set_cons_succ → Jk, length_map → Ju, getElem?_eq_getElem → JA, getElem_mem → JG, drop_succ_cons → JI, replicate → JJ, getD_eq_getElem?_getD → JK, length_take → JN, take_of_length_le → JQ, getElem_cons_succ → JR, take_append_drop → JS, drop_zero → JT, mem_iff_getElem → JW, length_cons → Ka, foldl_cons → Kb
open Option renaming bind_some → Jl, map → Jz
open Go.Act renaming put → Jm
open Go.AllReadyH renaming cons → Jn, nil → Jr
open Bool renaming false_eq_true → Jo, and_eq_true → Jp, not_true → Jw, true_and → JX, not_eq_true' → JY
open Classical renaming choose_spec → Jq, choose → Jt
open Go.IntKind renaming i64 → Js, u64 → JZ
open Or renaming inl → Jv
open Nat renaming lt_of_lt_of_le → Jx, le_refl → JD, zero_le → JP
open List.cons renaming injEq → Jy, inj → JC
open Go.Proofs renaming enters_of → JB
open Go.Value.int renaming injEq → JE
open Int renaming eq_ofNat_of_zero_le → JF, toNat_natCast → JL
open Go.Value renaming int → JH
open Option.some renaming injEq → JM
open Array renaming replicate → JO
open Go.RowKit.Below renaming refl → JU
open Go.World renaming cell?_of_block → JV, setCell → Kc
set_option maxRecDepth 100000
set_option linter.unusedSimpArgs false
set_option linter.unusedVariables false
noncomputable section
namespace Go.Proofs.Ytkcojipciiakdaa
open Go Go.Proofs Go.V Go.RowKit
set_option maxRecDepth 100000
variable {Z:Nat→Prop}
set_option maxHeartbeats 8000000 in
set_option maxRecDepth 1000000 in
theorem CZ (c:Cur) (B:Nat) (h:c.ok B) (hB:B≤100000) (w:World) (q:Nat) (hZ:∀b,Z b→b<w.heap.size) (hC:es Z w q (fun _=>False) (aV c)) :
  Calls Try.prog 59 #[.pointer (some ⟨q,0,none⟩)] w fun e w'=>∃v Vb Vf ys,e = .returned v∧ShopAt w' w.heap.size v Vb Vf ys (sh c).2∧es Z w' q (ShS Vb Vf ys) (aV (sh c).1)∧KeptX (fun b=>b=q) w w':=by
 have hq:=hC.lt
 go_enter Try.func59,Try.ntmps59
 go_upto_region 1 with fail
 have hBa:=au w (.cells #[.slice none 0 0,.slice none 0 0,.int .i64 0,.int .i64 0] 33);have hr:(w.alloc (.cells #[.slice none 0 0,.slice none 0 0,.int .i64 0,.int .i64 0] 33)).heap[w.heap.size]?=some (.cells #[.slice none 0 0,.slice none 0 0,.int .i64 0,.int .i64 0] 33 (0,0)):=ae _ rfl;have hC1:=hC.below (T:=fun b=>b=w.heap.size) hBa fun b hb=>.inr (by omega)
 have hs1:(w.alloc (.cells #[.slice none 0 0,.slice none 0 0,.int .i64 0,.int .i64 0] 33)).heap.size=w.heap.size+1:=by simp
 generalize w.alloc (.cells #[.slice none 0 0,.slice none 0 0,.int .i64 0,.int .i64 0] 33)=W1 at *;obtain⟨-,f2,f3,f4⟩:=FD h (by omega);obtain⟨-,b2,b3,b4,b5⟩:=En f4 (by omega) f2 f3;have hZ1:∀{W:World},w.heap.size≤W.heap.size→∀b,Z b→b<W.heap.size:=fun hW b hb=>Jx (hZ b hb) hW
 have hcf:=Dn h (by omega) hC1 (fun b hb=>by omega) (hZ1 (by omega))
 go_upto_region 2 with (first
  | (go_at_call 97;refine hcf.mono ?_;rintro e w2 ⟨y,rfl,hy,hC2,k2⟩;have hk2s:=k2.size;have hcb:=Bv f4 (by omega) f2 f3 hC2 (fun b hb=>by omega) (hZ1 (by omega)) (Fa:=fun b=>W1.heap.size≤b∧b<w2.heap.size) (fun b hb=>⟨hb.2,by omega,by omega,fun hz=>by have:=hZ b hz;omega⟩) hy)
  | (go_at_call 96;refine hcb.mono ?_;rintro e w3 ⟨A,n,k,rfl,hob,hnb,hC3,k3⟩))
 generalize hE:bo (fo c).2 (fo c).1=bb at *;have hk3s:=k3.size;have hob':=ba (w':=w3.alloc (.cells #[.slice A n k,.slice none 0 0,.int .i64 0,.int .i64 0] 33)) hob fun b hb=>(au w3 _).block b (hnb b hb).2
 have st:SitP Z w (w3.alloc (.cells #[.slice A n k,.slice none 0 0,.int .i64 0,.int .i64 0] 33)) q w3.heap.size bb.2 (bb.1,[],0,0) A n k none 0 0 []:=by
  have hno:∀b,¬FmS (.slice none 0 0) [] b:=fun b hb=>by
   rcases hb with hb | ⟨y,hy,_⟩
   ·cases hb
   ·simp at hy
  refine⟨ae _ rfl,⟨rfl,hob',fun b hb=>by have:=(hnb b hb).1;omega,oS _ _,fun b _ hb=>hno b hb⟩,fun hb=>?_,by omega,ah _ ((k3.block _ (by omega) (by omega)).trans ((k2.block _ (by omega) (by omega)).trans hr)),?_,?_,hq,hZ⟩
  ·rcases hb with hb | hb
   ·have:=(hnb _ hb).2
    omega
   ·exact hno _ hb
  ·refine hC3.below (au w3 _) fun b hb=>?_
   rcases hb with rfl | rfl | hb | hb
   ·exact .inr (JD _)
   ·exact .inl (.inl rfl)
   ·exact .inl (.inr hb)
   ·exact absurd hb (hno b)
  ·have h2:=hBa
   refine⟨k3.os.trans (k2.os.trans hBa.os),k3.tape.trans (k2.tape.trans hBa.tape),k3.output.trans (k2.output.trans hBa.output),by simp;omega,fun b hb hn=>?_⟩
   rw [gX _ (by omega)];exact(k3.block b (by omega) hn).trans ((k2.block b (by omega) hn).trans (hBa.block b hb))
 have hpl:=st.hS _ (.inl rfl);have hc3:bb.2.ok (B+200):=b5.mono (by omega);clear hcf hcb hy hC1 hC2 hC3 k2 k3 hob hob' hBa hr hs1 hnb hk2s hk3s f2 f3 f4 b5;generalize w3.alloc (.cells #[.slice A n k,.slice none 0 0,.int .i64 0,.int .i64 0] 33)=W3 at *;generalize w3.heap.size=p at *;obtain⟨g,o,hA,hn,-⟩:=uX st.shop.box (i:=0) (by have:=(lS.1 b2).2.2.2.1;show 0<bb.1.length;omega);replace hn:n=bb.1.length:=hn;subst hA hn;obtain⟨e0,-,-,-⟩:=aa st.box
 go_wp2
 go_loopw [19] (fun v19 wr=>∃i:Nat,v19 = .int .i64 i∧i≤bb.1.length∧SitP Z w wr q p (ups bb.2 bb.1 i).1 ((ups bb.2 bb.1 i).2,[],0,0) (some ⟨g,o,none⟩) bb.1.length k none 0 0 []) (fun v19 _=>bb.1.length - (intOf v19).toNat)
 case atStart=>exact⟨0,rfl,JP _,st⟩
 case round =>
  obtain⟨i,rfl,hil,sr⟩:=hrel;obtain⟨u1,u2,-⟩:=Bo hc3 (by omega) b4 i hil (by omega);by_cases hp:i<bb.1.length
  ·have hpi:(i:Int)<(bb.1.length:Int):=by omega
   have hco:=zE (n:=2) u1 (by omega) (by omega) sr.cur sr.hS sr.hZ;have hsucc:=Ap bb.2 bb.1 i;have hlen:=u2.len;have hw:Js.wrap ((i:Int)+1)=((i+1:Nat):Int):=by rw [ay (by omega) (by omega)];omega
   obtain⟨t,htE⟩:∃t,t=ups bb.2 bb.1 i:=⟨_,rfl⟩
   rw [←htE] at sr u1 u2 hco hsucc hlen;clear htE;cases hb:(on t.1 2).1
   ·rw [hb] at hco
    go_wp2_with (go_at_call 69;refine hco.mono ?_;rintro e w2 ⟨rfl,hC2,k2⟩)
    refine⟨⟨i+1,congrArg (JH .i64) (by omega),hp,?_⟩,?_⟩
    ·rw [hsucc]
     unfold up5;rw [hb];exact sr.move hC2 k2
    ·show bb.1.length - ((i:Int)+1).toNat<bb.1.length - (i:Int).toNat
     omega
   ·rw [hb] at hco
    go_wp2_with (go_at_call 69;refine hco.mono ?_;rintro e w2 ⟨rfl,hC2,k2⟩;have st2:=sr.move hC2 k2;obtain⟨g',o',hA',-,-,x3,fz,hset⟩:=uX st2.shop.box (i:=i) (show i<t.2.length by omega);injection hA' with hA';injection hA' with hA1 hA2;subst hA1 hA2;have c0:=(aa st2.box).1)
    have hst3:=st2.row (a:=⟨g,o+i*4+3,none⟩) (v:=.int .i64 (Js.wrap (t.2[i].2.2.2+5))) rfl (hset _);refine⟨⟨i+1,congrArg (JH .i64) (by omega),hp,?_⟩,?_⟩
    ·rw [hsucc]
     unfold up5;rw [hb];have hg:t.2.getD i zBx=t.2[i]:=by rw [JK,JA (by omega)];rfl
     rw [hg,w64];exact hst3
    ·show bb.1.length - ((i:Int)+1).toNat<bb.1.length - (i:Int).toNat
     omega
  ·have hpi:¬(i:Int)<(bb.1.length:Int):=by omega
   have hie:i=bb.1.length:=by omega
   subst hie;have hsh1:ups bb.2 bb.1 bb.1.length=sh1 c:=by unfold sh1;rw [hE]
   obtain⟨-,-,-,m4,m5⟩:=FC h hB;rw [hsh1] at sr;have hcp:=oZ (n:=12) m4 (by omega) (by omega) sr.cur sr.hS sr.hZ;obtain⟨-,n1,n2,n3⟩:=sx (n:=12) m4 (by omega) (by omega);clear hsh1 hil hp st e0 u1 u2
   go_wp2_with (go_at_call 68;refine hcp.mono ?_;rintro e w4 ⟨rfl,hC4,k4⟩;have st4:=sr.move hC4 k4)
   clear hcp sr hC4 k4
   go_loopw [5] (fun v5 wr=>∃(m:Nat) (a:Cur × Sp),v5 = .int .i64 m∧m≤11∧doN m a=sh2 c∧a.1.ok (B+1400 - 100*m)∧bH a.2∧aD a.2=true∧Iu Z w wr q p a.1 a.2) (fun v5 _=>(intOf v5).toNat)
   case atStart =>
    obtain⟨nn,hnn⟩:=JF n1;have hok:=GY m5;obtain⟨⟨t1,t2,t3⟩,_⟩:=gB hok;refine⟨nn,((pk (sh1 c).1 12).2,(sh1 c).2,[],0,0),by rw [hnn],by omega,?_,n3.mono (by omega),lL ⟨⟨t2,t3⟩,by simp,by simp⟩,hok,_,_,_,_,_,_,_,st4⟩
    unfold sh2;rw [hnn];rfl
   case round =>
    obtain⟨m,a,rfl,hm,hdo,hcok,hs,hok,A,n,k,A',n',k',ys,sr⟩:=hrel;by_cases hp:0<m
    ·have hpi:(0:Int)<(m:Int):=by omega
     obtain⟨-,hx20,hcok2⟩:=BJ hcok (by omega);have hxs:(sst a.1).1.2.2.1.size≤9223372036854775807:=by omega
     go_upto_region 11 with fail
     go_cut [6,7] from 131 (fun t6 t7 wc=>DoC Z w q p (sst a.1).2 a.2 (stS a.2 (sst a.1).1) (fe a.2 (sst a.1).1) A n k A' n' k' ys t6 t7 wc)
     case first =>
      have st:=sr.below (ac wr);have hc:=st.cur;have hSd:=cO st.box;refine ce (l:=[_,_,_,_,_,_,_,_,_]) (o:=_) (S:=fun w'=>(w'.cell? ⟨p,0,none⟩=some (.slice A n k)∧w'.cell? ⟨p,1,none⟩=some (.slice A' n' k'))∧(w'.cell? ⟨p,2,none⟩=some (.int .i64 a.2.2.2.1)∧w'.cell? ⟨p,3,none⟩=some (.int .i64 a.2.2.2.2))) (by kernel_rfl) (by kernel_rfl) hSd (fun hHeld=>?_)
      change wpAnyH _ _ _ _ _ 9 (JO 9 false) _ _
      generalize wr.drew=W0 at *;refine wpAnyH_take (i:=0) (oi:=_) (v:=?vd1) rfl (by kernel_rfl) (by kernel_rfl) (by kernel_rfl) (fun _ _ _ h=>h) (Jv ⟨by rfl,?yd1⟩) hHeld ?rd1
      case yd1=>(intro w0 hSw;obtain⟨hSw0,hSw1⟩:=hSw;go_simp;try with_reducible rfl)
      (try simp only [Jm,Ji,Jj,Jk])
      refine wpAnyH_take (i:=1) (oi:=_) (v:=?vd2) rfl (by kernel_rfl) (by kernel_rfl) (by kernel_rfl) (fun _ _ _ h=>h) (Jv ⟨by rfl,?yd2⟩) hHeld ?rd2
      case yd2=>(intro w0 hSw;obtain⟨hSw0,hSw1⟩:=hSw;go_simp;try with_reducible rfl)
      (try simp only [Jm,Ji,Jj,Jk])
      refine wpAnyH_ready (rs:=[2,7]) (by kernel_rfl) (by simp) ?_
      refine Jn (o:=_) rfl (fun K hK=>?_) ?_
      ·go_simp
       go_at_call 60
       refine(pN hcok (by omega) hc (fun b hb=>st.hS b hb) st.hZ).mono ?_
       rintro e w5 ⟨rfl,hc,k5⟩;have st:=st.move (hc.more fun b hb=>.inl hb) k5
       go_wp2_with fail
       refine hK.out _ _ ?_ (fun hHeld=>?_)
       ·exact cO st.box
       clear hK K
       (try simp only [Jm,Ji,Jj,Jk])
       refine wpAnyH_ready (rs:=[3,7]) (by kernel_rfl) (by simp) ?_
       refine Jn (o:=_) rfl (fun K hK=>?_) ?_
       ·go_simp
        go_at_call 54
        refine(lJ a.2 hs hok (sst a.1).1 hxs _ _ _ st.shop.rep (fun b hb=>(st.shop.lt b hb).2)).mono ?_
        rintro e w6 ⟨v6,rfl,⟨Vb6,Vf6,zs,sa⟩,b6⟩;obtain rfl:=sa.val;obtain⟨mA,mn,mk,rfl⟩:=bB sa.box;obtain⟨mA',mn',mk',rfl⟩:=ax sa.fms.own;have salt:=sa.lt;have hpn:¬ShS (.slice mA mn mk) (.slice mA' mn' mk') zs p:=fun hb=>by have:=(salt p hb).1;have:=st.hS p (.inl rfl);omega
        have sbase:=st.hS w.heap.size (.inr (.inl rfl));have hc:=hc.below (T:=fun b=>fI w.heap.size p (.slice A n k) (.slice A' n' k') ys b∨ShS (.slice mA mn mk) (.slice mA' mn' mk') zs b) b6 (fun b hb=>hb.imp (fun h=>h) fun h=>(salt b h).1);have st:=st.below b6
        go_wp2_with fail
        refine hK.out _ _ ?_ (fun hHeld=>?_)
        ·exact cO st.box
        clear hK K
        (try simp only [Jm,Ji,Jj,Jk])
        refine wpAnyH_take (i:=4) (oi:=_) (v:=?vd3) rfl (by kernel_rfl) (by kernel_rfl) (by kernel_rfl) (fun _ _ _ h=>h) (Jv ⟨by rfl,?yd3⟩) hHeld ?rd3
        case yd3=>(intro w0 hSw;obtain⟨hSw0,hSw1⟩:=hSw;go_simp;try with_reducible rfl)
        (try simp only [Jm,Ji,Jj,Jk])
        refine wpAnyH_take (i:=5) (oi:=_) (v:=?vd4) rfl (by kernel_rfl) (by kernel_rfl) (by kernel_rfl) (fun _ _ _ h=>h) (Jv ⟨by rfl,?yd4⟩) hHeld ?rd4
        case yd4=>(intro w0 hSw;obtain⟨hSw0,hSw1⟩:=hSw;go_simp;try with_reducible rfl)
        (try simp only [Jm,Ji,Jj,Jk])
        refine wpAnyH_take (i:=6) (oi:=_) (v:=?vd5) rfl (by kernel_rfl) (by kernel_rfl) (by kernel_rfl) (fun _ _ _ h=>h) (Jv ⟨by rfl,?yd5⟩) hHeld ?rd5
        case yd5=>(intro w0 hSw;obtain⟨hSw0,hSw1⟩:=hSw;go_simp;try with_reducible rfl)
        (try simp only [Jm,Ji,Jj,Jk])
        refine wpAnyH_ready (rs:=[7]) (by kernel_rfl) (by simp) ?_
        refine Jn (o:=_) rfl (fun K hK=>?_) ?_
        ·go_simp
         have hq:(w6.alloc (.cells #[.slice none 0 0,.slice none 0 0,.int .i64 0,.int .i64 0] 33)).heap[w6.heap.size]?=some (.cells #[.slice none 0 0,.slice none 0 0,.int .i64 0,.int .i64 0] 33 (0,0)):=ae _ rfl;have hqm:¬fI w.heap.size p (.slice A n k) (.slice A' n' k') ys w6.heap.size:=fun hb=>by have:=st.hS _ hb;omega
         have hqw:w.heap.size≤w6.heap.size:=by have:=st.hS w.heap.size (.inr (.inl rfl));omega
         have hqp:w6.heap.size≠p:=fun e=>by have:=st.hS p (.inl rfl);omega
         have hqr:w6.heap.size≠w.heap.size:=fun e=>by have:=st.hS w.heap.size (.inr (.inl rfl));omega
         have hqq:w6.heap.size≠q:=fun e=>by have:=st.hS w.heap.size (.inr (.inl rfl));omega
         have st9:=st;have hc9:=hc;have hqn:∀b,ShS (.slice mA mn mk) (.slice mA' mn' mk') zs b→w6.heap.size≠b:=fun b hb=>by have:=(salt b hb).2;omega
         have hc:=hc.below (T:=fun b=>(fI w.heap.size p (.slice A n k) (.slice A' n' k') ys b∨ShS (.slice mA mn mk) (.slice mA' mn' mk') zs b)∨b=w6.heap.size) (au w6 (.cells #[.slice none 0 0,.slice none 0 0,.int .i64 0,.int .i64 0] 33)) (fun b hb=>hb.imp (fun h=>h) fun h=>by omega);have st:=st.below (au w6 (.cells #[.slice none 0 0,.slice none 0 0,.int .i64 0,.int .i64 0] 33));refine hK.out _ _ ?_ (fun hHeld=>?_)
         ·exact cO st.box
         clear hK K
         (try simp only [Jm,Ji,Jj,Jk])
         refine wpAnyH_ready (rs:=[8]) (by kernel_rfl) (by simp) ?_
         refine Jn (o:=_) rfl (fun K hK=>?_) ?_
         ·obtain⟨g0,g1,g2,g3⟩:=aa hq
          obtain⟨j0,j1,j2,j3⟩:=aI hq
          go_simp
          replace hq:(w6.alloc (.cells #[.slice mA mn mk,.slice mA' mn' mk',.int .i64 (stS a.2 (sst a.1).1).2.2.1,.int .i64 (stS a.2 (sst a.1).1).2.2.2] 33)).heap[w6.heap.size]?=some (.cells #[.slice mA mn mk,.slice mA' mn' mk',.int .i64 (stS a.2 (sst a.1).1).2.2.1,.int .i64 (stS a.2 (sst a.1).1).2.2.2] 33 (0,0)):=ae _ rfl;have st:=st9.below (au w6 (.cells #[.slice mA mn mk,.slice mA' mn' mk',.int .i64 (stS a.2 (sst a.1).1).2.2.1,.int .i64 (stS a.2 (sst a.1).1).2.2.2] 33));have hc:=hc9.below (T:=fun b=>fI w.heap.size p (.slice A n k) (.slice A' n' k') ys b∨b=w6.heap.size∨ShS (.slice mA mn mk) (.slice mA' mn' mk') zs b) (au w6 (.cells #[.slice mA mn mk,.slice mA' mn' mk',.int .i64 (stS a.2 (sst a.1).1).2.2.1,.int .i64 (stS a.2 (sst a.1).1).2.2.2] 33)) (fun b hb=>by
           rcases hb with hb | rfl | hb
           ·exact .inl (.inl hb)
           ·exact .inr (JD _)
           ·exact .inl (.inr hb))
          replace sa:=sa.below (au w6 (.cells #[.slice mA mn mk,.slice mA' mn' mk',.int .i64 (stS a.2 (sst a.1).1).2.2.1,.int .i64 (stS a.2 (sst a.1).1).2.2.2] 33));clear g0 g1 g2 g3 j0 j1 j2 j3;refine hK.out _ _ ?_ (fun hHeld=>?_)
          ·exact cO st.box
          clear hK K
          (try simp only [Jm,Ji,Jj,Jk])
          refine bh (by kernel_rfl) ?_
          go_simp
          go_wp2
          go_meet
          case rel =>
           exact⟨_,_,_,_,_,_,_,_,rfl,rfl,st,hq,sa.base (by omega),hpn,fun hb=>hqn _ hb rfl,⟨hqp,hqr,hqq⟩,hc.more fun b hb=>.inl hb⟩
         exact Jr
        exact Jr
       refine Jn (o:=_) rfl (fun K hK=>?_) ?_
       ·go_simp
        have hq:(w5.alloc (.cells #[.slice none 0 0,.slice none 0 0,.int .i64 0,.int .i64 0] 33)).heap[w5.heap.size]?=some (.cells #[.slice none 0 0,.slice none 0 0,.int .i64 0,.int .i64 0] 33 (0,0)):=ae _ rfl;have hqm:¬fI w.heap.size p (.slice A n k) (.slice A' n' k') ys w5.heap.size:=fun hb=>by have:=st.hS _ hb;omega
        have hqw:w.heap.size≤w5.heap.size:=by have:=st.hS w.heap.size (.inr (.inl rfl));omega
        have hqp:w5.heap.size≠p:=fun e=>by have:=st.hS p (.inl rfl);omega
        have hqr:w5.heap.size≠w.heap.size:=fun e=>by have:=st.hS w.heap.size (.inr (.inl rfl));omega
        have hqq:w5.heap.size≠q:=fun e=>by have:=st.hS w.heap.size (.inr (.inl rfl));omega
        have hc:=hc.below (T:=fun b=>fI w.heap.size p (.slice A n k) (.slice A' n' k') ys b∨b=w5.heap.size) (au w5 (.cells #[.slice none 0 0,.slice none 0 0,.int .i64 0,.int .i64 0] 33)) (fun b hb=>hb.imp (fun h=>h) fun h=>by omega);have st:=st.below (au w5 (.cells #[.slice none 0 0,.slice none 0 0,.int .i64 0,.int .i64 0] 33));refine hK.out _ _ ?_ (fun hHeld=>?_)
        ·exact cO st.box
        clear hK K
        (try simp only [Jm,Ji,Jj,Jk])
        refine wpAnyH_ready (rs:=[3]) (by kernel_rfl) (by simp) ?_
        refine Jn (o:=_) rfl (fun K hK=>?_) ?_
        ·go_simp
         go_at_call 54
         refine(lJ a.2 hs hok (sst a.1).1 hxs _ _ _ st.shop.rep (fun b hb=>(st.shop.lt b hb).2)).mono ?_
         rintro e w6 ⟨v6,rfl,⟨Vb6,Vf6,zs,sa⟩,b6⟩;obtain rfl:=sa.val;obtain⟨mA,mn,mk,rfl⟩:=bB sa.box;obtain⟨mA',mn',mk',rfl⟩:=ax sa.fms.own;have salt:=sa.lt;have hpn:¬ShS (.slice mA mn mk) (.slice mA' mn' mk') zs p:=fun hb=>by have:=(salt p hb).1;have:=st.hS p (.inl rfl);omega
         have sbase:=st.hS w.heap.size (.inr (.inl rfl));have hqn:∀b,ShS (.slice mA mn mk) (.slice mA' mn' mk') zs b→w5.heap.size≠b:=fun b hb=>by have:=(salt b hb).1;have:=bd hq;omega
         replace hq:=Below.some b6 hq;have hc:=hc.below (T:=fun b=>(fI w.heap.size p (.slice A n k) (.slice A' n' k') ys b∨b=w5.heap.size)∨ShS (.slice mA mn mk) (.slice mA' mn' mk') zs b) b6 (fun b hb=>hb.imp (fun h=>h) fun h=>(salt b h).1);have st:=st.below b6
         go_wp2_with fail
         refine hK.out _ _ ?_ (fun hHeld=>?_)
         ·exact cO st.box
         clear hK K
         (try simp only [Jm,Ji,Jj,Jk])
         refine wpAnyH_take (i:=4) (oi:=_) (v:=?vd6) rfl (by kernel_rfl) (by kernel_rfl) (by kernel_rfl) (fun _ _ _ h=>h) (Jv ⟨by rfl,?yd6⟩) hHeld ?rd6
         case yd6=>(intro w0 hSw;obtain⟨hSw0,hSw1⟩:=hSw;go_simp;try with_reducible rfl)
         (try simp only [Jm,Ji,Jj,Jk])
         refine wpAnyH_take (i:=5) (oi:=_) (v:=?vd7) rfl (by kernel_rfl) (by kernel_rfl) (by kernel_rfl) (fun _ _ _ h=>h) (Jv ⟨by rfl,?yd7⟩) hHeld ?rd7
         case yd7=>(intro w0 hSw;obtain⟨hSw0,hSw1⟩:=hSw;go_simp;try with_reducible rfl)
         (try simp only [Jm,Ji,Jj,Jk])
         refine wpAnyH_take (i:=6) (oi:=_) (v:=?vd8) rfl (by kernel_rfl) (by kernel_rfl) (by kernel_rfl) (fun _ _ _ h=>h) (Jv ⟨by rfl,?yd8⟩) hHeld ?rd8
         case yd8=>(intro w0 hSw;obtain⟨hSw0,hSw1⟩:=hSw;go_simp;try with_reducible rfl)
         (try simp only [Jm,Ji,Jj,Jk])
         refine wpAnyH_ready (rs:=[8]) (by kernel_rfl) (by simp) ?_
         refine Jn (o:=_) rfl (fun K hK=>?_) ?_
         ·obtain⟨g0,g1,g2,g3⟩:=aa hq
          obtain⟨j0,j1,j2,j3⟩:=aI hq
          go_simp
          have hnq:¬((fI w.heap.size p (.slice A n k) (.slice A' n' k') ys q∨q=w5.heap.size)∨ShS (.slice mA mn mk) (.slice mA' mn' mk') zs q):=fun hb=>by
           rcases hb with (hb | hb) | hb
           ·exact st.nq hb
           ·exact hqq hb.symm
           ·have:=(salt q hb).1
            have:=st.qlt;omega
          have hc:=(((hc.set hnq ⟨w5.heap.size,0,none⟩ (.slice mA mn mk) (.inl (.inr rfl))).set hnq ⟨w5.heap.size,1,none⟩ (.slice mA' mn' mk') (.inl (.inr rfl))).set hnq ⟨w5.heap.size,2,none⟩ (.int .i64 (stS a.2 (sst a.1).1).2.2.1) (.inl (.inr rfl))).set hnq ⟨w5.heap.size,3,none⟩ (.int .i64 (stS a.2 (sst a.1).1).2.2.2) (.inl (.inr rfl));have st:=st.other4 (.slice mA mn mk) (.slice mA' mn' mk') (.int .i64 (stS a.2 (sst a.1).1).2.2.1) (.int .i64 (stS a.2 (sst a.1).1).2.2.2) hqm hqw (hc.more fun b hb=>.inl (.inl (.inl hb)));have hc:=hc.more (T:=fun b=>fI w.heap.size p (.slice A n k) (.slice A' n' k') ys b∨b=w5.heap.size∨ShS (.slice mA mn mk) (.slice mA' mn' mk') zs b) fun b hb=>.inl (by
           rcases hb with hb | hb | hb
           ·exact .inl (.inl hb)
           ·exact .inl (.inr hb)
           ·exact .inr hb)
          have hq:=aF (.slice mA mn mk) (.slice mA' mn' mk') (.int .i64 (stS a.2 (sst a.1).1).2.2.1) (.int .i64 (stS a.2 (sst a.1).1).2.2.2) hq;replace sa:=sa.set4 (.slice mA mn mk) (.slice mA' mn' mk') (.int .i64 (stS a.2 (sst a.1).1).2.2.1) (.int .i64 (stS a.2 (sst a.1).1).2.2.2) hqn;clear g0 g1 g2 g3 j0 j1 j2 j3;refine hK.out _ _ ?_ (fun hHeld=>?_)
          ·exact cO st.box
          clear hK K
          (try simp only [Jm,Ji,Jj,Jk])
          refine bh (by kernel_rfl) ?_
          go_simp
          go_wp2
          go_meet
          case rel =>
           exact⟨_,_,_,_,_,_,_,_,rfl,rfl,st,hq,sa.base (by omega),hpn,fun hb=>hqn _ hb rfl,⟨hqp,hqr,hqq⟩,hc.more fun b hb=>.inl hb⟩
         exact Jr
        exact Jr
       exact Jr
      refine Jn (o:=_) rfl (fun K hK=>?_) ?_
      ·go_simp
       have hq:(W0.alloc (.cells #[.slice none 0 0,.slice none 0 0,.int .i64 0,.int .i64 0] 33)).heap[W0.heap.size]?=some (.cells #[.slice none 0 0,.slice none 0 0,.int .i64 0,.int .i64 0] 33 (0,0)):=ae _ rfl;have hqm:¬fI w.heap.size p (.slice A n k) (.slice A' n' k') ys W0.heap.size:=fun hb=>by have:=st.hS _ hb;omega
       have hqw:w.heap.size≤W0.heap.size:=by have:=st.hS w.heap.size (.inr (.inl rfl));omega
       have hqp:W0.heap.size≠p:=fun e=>by have:=st.hS p (.inl rfl);omega
       have hqr:W0.heap.size≠w.heap.size:=fun e=>by have:=st.hS w.heap.size (.inr (.inl rfl));omega
       have hqq:W0.heap.size≠q:=fun e=>by have:=st.hS w.heap.size (.inr (.inl rfl));omega
       have hc:=hc.below (T:=fun b=>fI w.heap.size p (.slice A n k) (.slice A' n' k') ys b∨b=W0.heap.size) (au W0 (.cells #[.slice none 0 0,.slice none 0 0,.int .i64 0,.int .i64 0] 33)) (fun b hb=>hb.imp (fun h=>h) fun h=>by omega);have st:=st.below (au W0 (.cells #[.slice none 0 0,.slice none 0 0,.int .i64 0,.int .i64 0] 33));refine hK.out _ _ ?_ (fun hHeld=>?_)
       ·exact cO st.box
       clear hK K
       (try simp only [Jm,Ji,Jj,Jk])
       refine wpAnyH_ready (rs:=[2]) (by kernel_rfl) (by simp) ?_
       refine Jn (o:=_) rfl (fun K hK=>?_) ?_
       ·go_simp
        go_at_call 60
        refine(pN hcok (by omega) hc (fun b hb=>by rcases hb with hb | rfl;exact st.hS b hb;exact bd hq) st.hZ).mono ?_
        rintro e w5 ⟨rfl,hc,k5⟩;have st:=st.move (hc.more fun b hb=>.inl (.inl hb)) k5;replace hq:=KeptX.some k5 hq hqq
        go_wp2_with fail
        refine hK.out _ _ ?_ (fun hHeld=>?_)
        ·exact cO st.box
        clear hK K
        (try simp only [Jm,Ji,Jj,Jk])
        refine wpAnyH_ready (rs:=[3]) (by kernel_rfl) (by simp) ?_
        refine Jn (o:=_) rfl (fun K hK=>?_) ?_
        ·go_simp
         go_at_call 54
         refine(lJ a.2 hs hok (sst a.1).1 hxs _ _ _ st.shop.rep (fun b hb=>(st.shop.lt b hb).2)).mono ?_
         rintro e w6 ⟨v6,rfl,⟨Vb6,Vf6,zs,sa⟩,b6⟩;obtain rfl:=sa.val;obtain⟨mA,mn,mk,rfl⟩:=bB sa.box;obtain⟨mA',mn',mk',rfl⟩:=ax sa.fms.own;have salt:=sa.lt;have hpn:¬ShS (.slice mA mn mk) (.slice mA' mn' mk') zs p:=fun hb=>by have:=(salt p hb).1;have:=st.hS p (.inl rfl);omega
         have sbase:=st.hS w.heap.size (.inr (.inl rfl));have hqn:∀b,ShS (.slice mA mn mk) (.slice mA' mn' mk') zs b→W0.heap.size≠b:=fun b hb=>by have:=(salt b hb).1;have:=bd hq;omega
         replace hq:=Below.some b6 hq;have hc:=hc.below (T:=fun b=>(fI w.heap.size p (.slice A n k) (.slice A' n' k') ys b∨b=W0.heap.size)∨ShS (.slice mA mn mk) (.slice mA' mn' mk') zs b) b6 (fun b hb=>hb.imp (fun h=>h) fun h=>(salt b h).1);have st:=st.below b6
         go_wp2_with fail
         refine hK.out _ _ ?_ (fun hHeld=>?_)
         ·exact cO st.box
         clear hK K
         (try simp only [Jm,Ji,Jj,Jk])
         refine wpAnyH_take (i:=4) (oi:=_) (v:=?vd9) rfl (by kernel_rfl) (by kernel_rfl) (by kernel_rfl) (fun _ _ _ h=>h) (Jv ⟨by rfl,?yd9⟩) hHeld ?rd9
         case yd9=>(intro w0 hSw;obtain⟨hSw0,hSw1⟩:=hSw;go_simp;try with_reducible rfl)
         (try simp only [Jm,Ji,Jj,Jk])
         refine wpAnyH_take (i:=5) (oi:=_) (v:=?vd10) rfl (by kernel_rfl) (by kernel_rfl) (by kernel_rfl) (fun _ _ _ h=>h) (Jv ⟨by rfl,?yd10⟩) hHeld ?rd10
         case yd10=>(intro w0 hSw;obtain⟨hSw0,hSw1⟩:=hSw;go_simp;try with_reducible rfl)
         (try simp only [Jm,Ji,Jj,Jk])
         refine wpAnyH_take (i:=6) (oi:=_) (v:=?vd11) rfl (by kernel_rfl) (by kernel_rfl) (by kernel_rfl) (fun _ _ _ h=>h) (Jv ⟨by rfl,?yd11⟩) hHeld ?rd11
         case yd11=>(intro w0 hSw;obtain⟨hSw0,hSw1⟩:=hSw;go_simp;try with_reducible rfl)
         (try simp only [Jm,Ji,Jj,Jk])
         refine wpAnyH_ready (rs:=[8]) (by kernel_rfl) (by simp) ?_
         refine Jn (o:=_) rfl (fun K hK=>?_) ?_
         ·obtain⟨g0,g1,g2,g3⟩:=aa hq
          obtain⟨j0,j1,j2,j3⟩:=aI hq
          go_simp
          have hnq:¬((fI w.heap.size p (.slice A n k) (.slice A' n' k') ys q∨q=W0.heap.size)∨ShS (.slice mA mn mk) (.slice mA' mn' mk') zs q):=fun hb=>by
           rcases hb with (hb | hb) | hb
           ·exact st.nq hb
           ·exact hqq hb.symm
           ·have:=(salt q hb).1
            have:=st.qlt;omega
          have hc:=(((hc.set hnq ⟨W0.heap.size,0,none⟩ (.slice mA mn mk) (.inl (.inr rfl))).set hnq ⟨W0.heap.size,1,none⟩ (.slice mA' mn' mk') (.inl (.inr rfl))).set hnq ⟨W0.heap.size,2,none⟩ (.int .i64 (stS a.2 (sst a.1).1).2.2.1) (.inl (.inr rfl))).set hnq ⟨W0.heap.size,3,none⟩ (.int .i64 (stS a.2 (sst a.1).1).2.2.2) (.inl (.inr rfl));have st:=st.other4 (.slice mA mn mk) (.slice mA' mn' mk') (.int .i64 (stS a.2 (sst a.1).1).2.2.1) (.int .i64 (stS a.2 (sst a.1).1).2.2.2) hqm hqw (hc.more fun b hb=>.inl (.inl (.inl hb)));have hc:=hc.more (T:=fun b=>fI w.heap.size p (.slice A n k) (.slice A' n' k') ys b∨b=W0.heap.size∨ShS (.slice mA mn mk) (.slice mA' mn' mk') zs b) fun b hb=>.inl (by
           rcases hb with hb | hb | hb
           ·exact .inl (.inl hb)
           ·exact .inl (.inr hb)
           ·exact .inr hb)
          have hq:=aF (.slice mA mn mk) (.slice mA' mn' mk') (.int .i64 (stS a.2 (sst a.1).1).2.2.1) (.int .i64 (stS a.2 (sst a.1).1).2.2.2) hq;replace sa:=sa.set4 (.slice mA mn mk) (.slice mA' mn' mk') (.int .i64 (stS a.2 (sst a.1).1).2.2.1) (.int .i64 (stS a.2 (sst a.1).1).2.2.2) hqn;clear g0 g1 g2 g3 j0 j1 j2 j3;refine hK.out _ _ ?_ (fun hHeld=>?_)
          ·exact cO st.box
          clear hK K
          (try simp only [Jm,Ji,Jj,Jk])
          refine bh (by kernel_rfl) ?_
          go_simp
          go_wp2
          go_meet
          case rel =>
           exact⟨_,_,_,_,_,_,_,_,rfl,rfl,st,hq,sa.base (by omega),hpn,fun hb=>hqn _ hb rfl,⟨hqp,hqr,hqq⟩,hc.more fun b hb=>.inl hb⟩
         exact Jr
        exact Jr
       exact Jr
      exact Jr
     case rest =>
      obtain⟨q6,B1,m1,j1,B2,m2,j2,zs,rfl,rfl,st,hn⟩:=hcut;have hX:=cO st.box;obtain⟨i0,i1,i2,i3⟩:=aa st.box;obtain⟨l0,l1,l2,l3⟩:=aI st.box;obtain⟨d0,d1,d2,d3⟩:=aa hn.box;obtain⟨m',hm'⟩:∃m',m=m'+1:=⟨m - 1,by omega⟩
      subst hm';have hdo':doN m' (doF a)=sh2 c:=hdo;obtain⟨h1,h2,h3⟩:=EN hcok (by omega) ⟨hs,hok⟩;cases hst:fe a.2 (sst a.1).1
      ·go_wp2
       refine⟨⟨m',doF a,congrArg (JH .i64) (by omega),by omega,hdo',h1.mono (by omega),h2,h3,?_⟩,?_⟩
       ·have e:doF a=((sst a.1).2,a.2):=by unfold doF;rw [hst];rfl
        rw [e];exact⟨_,_,_,_,_,_,_,st⟩
       ·show((m':Nat):Int).toNat<((m'+1:Nat):Int).toNat
        omega
      ·go_wp2
       refine⟨⟨m',doF a,congrArg (JH .i64) (by omega),by omega,hdo',h1.mono (by omega),h2,h3,?_⟩,?_⟩
       ·have e:doF a=((sst a.1).2,stS a.2 (sst a.1).1):=by unfold doF;rw [hst];rfl
        rw [e];exact⟨_,_,_,_,_,_,_,st.swap hn⟩
       ·show((m':Nat):Int).toNat<((m'+1:Nat):Int).toNat
        omega
    ·have hm0:m=0:=by omega
     subst hm0;have hdoH:Hid (a=sh2 c):=hdo;clear hdo hs;have hck:=hcok.mono (show B+1400 - 100*0≤B+1400 by omega);have hcp:=oZ (n:=30) hck (by omega) (by omega) sr.cur sr.hS sr.hZ;obtain⟨-,n1',n2',n3'⟩:=sx (n:=30) hck (by omega) (by omega)
     go_upto_block 4 with (go_at_call 68;refine hcp.mono ?_;rintro e w5 ⟨rfl,hC5,k5⟩;have st5:=sr.move hC5 k5)
     clear hcp hC5 k5 sr;obtain⟨k0,hk0⟩:∃k0,(pk a.1 30).1=k0:=⟨_,rfl⟩
     obtain⟨ck,hk1⟩:∃ck,(pk a.1 30).2=ck:=⟨_,rfl⟩
     have hkE:pk a.1 30=(k0,ck):=by rw [←hk0,←hk1]
     rw [hk1] at n3' st5;rw [hk0] at n1' n2' ⊢;clear hk0 hk1
     go_cut [] from 131 (fun wc=>Iu Z w wc q p (fin (k0,ck) a.2).1 (fin (k0,ck) a.2).2)
     case first =>
      have row3:∀(x y z:Int) (W:World),aU (W.alloc (.cells #[.int .i64 x,.int .i64 y,.int .i64 z] 3)) (fun b=>b=W.heap.size) (nL [x,y,z]) (.slice (some ⟨W.heap.size,0,none⟩) 3 3):=fun x y z W =>
       AA _ [x,y,z] 3 (JD _) 3 (ae _ rfl) (fun i v hi=>by
        match i,hi with
        | 0,hi=>cases hi;rfl
        | 1,hi=>cases hi;rfl
        | 2,hi=>cases hi;rfl)
      have am3:∀{W:World} {cu:Cur} {C:Nat} {s:Sp} {A:Option Addr} {n k:Nat} {A':Option Addr} {n' k':Nat} {ys:List Value} (x y z:Int),SitP Z w W q p cu s A n k A' n' k' ys→cu.ok C→C≤100000000 →
        Calls Try.prog 98 #[.pointer (some ⟨q,0,none⟩),.slice (some ⟨W.heap.size,0,none⟩) 3 3] (W.alloc (.cells #[.int .i64 x,.int .i64 y,.int .i64 z] 3)) fun e w'=>e = .returned (.int .i64 (am cu [x,y,z]).1)∧SitP Z w w' q p (am cu [x,y,z]).2 s A n k A' n' k' ys:=fun {W cu C s A n k A' n' k' ys} x y z hst hcu hC=>by
       have hsa:=hst.below (au W (.cells #[.int .i64 x,.int .i64 y,.int .i64 z] 3));refine(qt (Fa:=fun b=>b=W.heap.size) hcu (by omega) (l:=[x,y,z]) (by simp) (by simp) hsa.cur hsa.hS hsa.hZ (fun b hb=>?_) (row3 x y z W)).mono ?_
       ·have hr:=hst.hS w.heap.size (.inr (.inl rfl))
        have hq1:=hst.qlt;refine⟨by simp;omega,by omega,fun h=>?_,fun hz=>?_⟩
        ·have:=hst.hS b h
         omega
        ·have:=hst.zlt b hz
         omega
       ·rintro e w' ⟨rfl,hC',k'⟩
        exact⟨rfl,hsa.move hC' k'⟩
      have am2:∀{W:World} {cu:Cur} {C:Nat} {s:Sp} {A:Option Addr} {n k:Nat} {A':Option Addr} {n' k':Nat} {ys:List Value} (x y:Int),SitP Z w W q p cu s A n k A' n' k' ys→cu.ok C→C≤100000000 →
        Calls Try.prog 98 #[.pointer (some ⟨q,0,none⟩),.slice (some ⟨W.heap.size,0,none⟩) 2 2] (W.alloc (.cells #[.int .i64 x,.int .i64 y] 3)) fun e w'=>e = .returned (.int .i64 (am cu [x,y]).1)∧SitP Z w w' q p (am cu [x,y]).2 s A n k A' n' k' ys:=fun {W cu C s A n k A' n' k' ys} x y hst hcu hC=>by
       have hsa:=hst.below (au W (.cells #[.int .i64 x,.int .i64 y] 3));refine(qt (Fa:=fun b=>b=W.heap.size) hcu (by omega) (l:=[x,y]) (by simp) (by simp) hsa.cur hsa.hS hsa.hZ (fun b hb=>?_) (AA _ [x,y] 2 (JD _) 3 (ae _ rfl) (fun i v hi=>by
        match i,hi with
        | 0,hi=>cases hi;rfl
        | 1,hi=>cases hi;rfl))).mono ?_
       ·have hr:=hst.hS w.heap.size (.inr (.inl rfl))
        have hq1:=hst.qlt;refine⟨by simp;omega,by omega,fun h=>?_,fun hz=>?_⟩
        ·have:=hst.hS b h
         omega
        ·have:=hst.zlt b hz
         omega
       ·rintro e w' ⟨rfl,hC',k'⟩
        exact⟨rfl,hsa.move hC' k'⟩
      by_cases q0:k0=0
      ·subst q0
       have hfin:fin (0,ck) a.2=((am ck [9999,10000,-1]).2,a.2.1,a.2.2.1,(am ck [9999,10000,-1]).1,a.2.2.2.2):=rfl;have hca:=am3 9999 10000 (-1) st5 n3' (by omega)
       go_wp2_with (go_at_call 98;refine hca.mono ?_;rintro e w6 ⟨rfl,st6⟩;obtain⟨d0,d1,d2,d3⟩:=aa st6.box;obtain⟨l0,l1,l2,l3⟩:=aI st6.box)
       go_meet
       case rel =>
        rw [hfin];exact⟨_,_,_,_,_,_,_,st6.cell 2 _ _ _ rfl⟩
      by_cases q1:k0=1
      ·subst q1
       have hfin:fin (1,ck) a.2=((am ck [1000000,1000001,-1]).2,a.2.1,a.2.2.1,a.2.2.2.1,(am ck [1000000,1000001,-1]).1):=rfl;have hca:=am3 1000000 1000001 (-1) st5 n3' (by omega)
       go_wp2_with (go_at_call 98;refine hca.mono ?_;rintro e w6 ⟨rfl,st6⟩;obtain⟨d0,d1,d2,d3⟩:=aa st6.box;obtain⟨l0,l1,l2,l3⟩:=aI st6.box)
       go_meet
       case rel =>
        rw [hfin];exact⟨_,_,_,_,_,_,_,st6.cell 3 _ _ _ rfl⟩
      by_cases q2:k0=2
      ·subst q2
       have hfin:fin (2,ck) a.2=((am ck [9999,10000,-1]).2,a.2.1.set 0 (qr (a.2.1.getD 0 zBx) (am ck [9999,10000,-1]).1),a.2.2.1,a.2.2.2.1,a.2.2.2.2):=rfl;have hl0:=(gB hok).1.1;obtain⟨g1,o1,hA1,hn1,-⟩:=uX st5.shop.box (i:=0) (by omega);subst hA1 hn1;have hlp:0<a.2.1.length:=by omega
       go_upto_region 20 with fail
       have st:=st5.below (ac w5);have hSd:=cO st.box;refine ce (l:=[_,_,_,_,_,_,_]) (o:=_) (S:=fun w'=>(w'.cell? ⟨p,0,none⟩=some (.slice (some ⟨g1,o1,none⟩) a.2.1.length k)∧w'.cell? ⟨p,1,none⟩=some (.slice A' n' k'))∧(w'.cell? ⟨p,2,none⟩=some (.int .i64 a.2.2.2.1)∧w'.cell? ⟨p,3,none⟩=some (.int .i64 a.2.2.2.2))) (by kernel_rfl) (by kernel_rfl) hSd (fun hHeld=>?_)
       change wpAnyH _ _ _ _ _ 7 (JO 7 false) _ _
       generalize w5.drew=W0 at *;refine wpAnyH_take (i:=0) (oi:=_) (v:=?ve1) rfl (by kernel_rfl) (by kernel_rfl) (by kernel_rfl) (fun _ _ _ h=>h) (Jv ⟨by rfl,?ye1⟩) hHeld ?re1
       case ye1=>(intro w0 hSw;obtain⟨hSw0,hSw1⟩:=hSw;go_simp;(try rw [if_pos hlp]);try with_reducible rfl)
       (try simp only [Jm,Ji,Jj,Jk])
       refine wpAnyH_take (i:=1) (oi:=_) (v:=?ve2) rfl (by kernel_rfl) (by kernel_rfl) (by kernel_rfl) (fun _ _ _ h=>h) (Jv ⟨by rfl,?ye2⟩) hHeld ?re2
       case ye2=>(intro w0 hSw;obtain⟨hSw0,hSw1⟩:=hSw;go_simp;(try rw [if_pos hlp]);try with_reducible rfl)
       (try simp only [Jm,Ji,Jj,Jk])
       refine wpAnyH_take (i:=2) (oi:=_) (v:=?ve3) rfl (by kernel_rfl) (by kernel_rfl) (by kernel_rfl) (fun _ _ _ h=>h) (Jv ⟨by rfl,?ye3⟩) hHeld ?re3
       case ye3=>(intro w0 hSw;obtain⟨hSw0,hSw1⟩:=hSw;go_simp;(try rw [if_pos hlp]);try with_reducible rfl)
       (try simp only [Jm,Ji,Jj,Jk])
       refine wpAnyH_ready (rs:=[3]) (by kernel_rfl) (by simp) ?_
       refine Jn (o:=_) rfl (fun K hK=>?_) ?_
       ·go_simp
        have sta:=st.below (au W0 (.cells #[.int .i64 9999,.int .i64 10000,.int .i64 (-1)] 3));refine hK.out _ _ ?_ (fun hHeld=>?_)
        ·exact cO sta.box
        clear hK K
        (try simp only [Jm,Ji,Jj,Jk])
        refine wpAnyH_ready (rs:=[4]) (by kernel_rfl) (by simp) ?_
        refine Jn (o:=_) rfl (fun K hK=>?_) ?_
        ·go_simp
         go_at_call 98
         refine(am3 9999 10000 (-1) st n3' (by omega)).mono ?_
         rintro e w6 ⟨rfl,st6⟩
         go_wp2_with fail
         refine hK.out _ _ ?_ (fun hHeld=>?_)
         ·exact cO st6.box
         clear hK K
         (try simp only [Jm,Ji,Jj,Jk])
         refine wpAnyH_take (i:=5) (oi:=_) (v:=?ve4) rfl (by kernel_rfl) (by kernel_rfl) (by kernel_rfl) (fun _ _ _ h=>h) (Jv ⟨by rfl,?ye4⟩) hHeld ?re4
         case ye4=>(intro w0 hSw;obtain⟨hSw0,hSw1⟩:=hSw;go_simp;(try rw [if_pos hlp]);try with_reducible rfl)
         (try simp only [Jm,Ji,Jj,Jk])
         refine wpAnyH_take (i:=6) (oi:=_) (v:=?ve5) rfl (by kernel_rfl) (by kernel_rfl) (by kernel_rfl) (fun _ _ _ h=>h) (Jv ⟨by rfl,?ye5⟩) hHeld ?re5
         case ye5=>(intro w0 hSw;obtain⟨hSw0,hSw1⟩:=hSw;go_simp;(try rw [if_pos hlp]);try with_reducible rfl)
         (try simp only [Jm,Ji,Jj,Jk])
         refine bh (by kernel_rfl) ?_
         obtain⟨-,x3,fz,hset⟩:=Cq st6.shop.box hlp
         go_simp
         go_wp2
         go_meet
         case rel =>
          rw [hfin];exact⟨_,_,_,_,_,_,_,st6.row rfl (hset _)⟩
        exact Jr
       exact Jr
      by_cases q3:k0=3
      ·subst q3
       have hfin:fin (3,ck) a.2=((on (am ck [99,1]).2 2).2,a.2.1,a.2.2.1++[((am ck [99,1]).1,[],(on (am ck [99,1]).2 2).1,0)],a.2.2.2.1,a.2.2.2.2):=rfl;obtain⟨-,-,hc99⟩:=wg (l:=[99,1]) n3' (by omega) (by simp) (by simp);have f5:=(gB hok).2.1;obtain⟨i2,hi2,hx0,hx1,hx2⟩:=info_parts fE
       go_upto_region 22 with fail
       have st:=st5.below (ac w5);have hSd:=cO st.box;refine ce (l:=[_,_,_,_,_,_,_,_,_,_,_]) (o:=_) (S:=fun w'=>(w'.cell? ⟨p,0,none⟩=some (.slice A n k)∧w'.cell? ⟨p,1,none⟩=some (.slice A' n' k'))∧(w'.cell? ⟨p,2,none⟩=some (.int .i64 a.2.2.2.1)∧w'.cell? ⟨p,3,none⟩=some (.int .i64 a.2.2.2.2))) (by kernel_rfl) (by kernel_rfl) hSd (fun hHeld=>?_)
       change wpAnyH _ _ _ _ _ 11 (JO 11 false) _ _
       generalize w5.drew=W0 at *;refine wpAnyH_take (i:=0) (oi:=_) (v:=?vf1) rfl (by kernel_rfl) (by kernel_rfl) (by kernel_rfl) (fun _ _ _ h=>h) (Jv ⟨by rfl,?yf1⟩) hHeld ?rf1
       case yf1=>(intro w0 hSw;obtain⟨hSw0,hSw1⟩:=hSw;go_simp;try with_reducible rfl)
       (try simp only [Jm,Ji,Jj,Jk])
       refine wpAnyH_take (i:=1) (oi:=_) (v:=?vf2) rfl (by kernel_rfl) (by kernel_rfl) (by kernel_rfl) (fun _ _ _ h=>h) (Jv ⟨by rfl,?yf2⟩) hHeld ?rf2
       case yf2=>(intro w0 hSw;obtain⟨hSw0,hSw1⟩:=hSw;go_simp;try with_reducible rfl)
       (try simp only [Jm,Ji,Jj,Jk])
       refine wpAnyH_take (i:=2) (oi:=_) (v:=?vf3) rfl (by kernel_rfl) (by kernel_rfl) (by kernel_rfl) (fun _ _ _ h=>h) (Jv ⟨by rfl,?yf3⟩) hHeld ?rf3
       case yf3=>(intro w0 hSw;obtain⟨hSw0,hSw1⟩:=hSw;go_simp;try with_reducible rfl)
       (try simp only [Jm,Ji,Jj,Jk])
       refine wpAnyH_take (i:=5) (oi:=_) (v:=?vf4) rfl (by kernel_rfl) (by kernel_rfl) (by kernel_rfl) (fun _ _ _ h=>h) (Jv ⟨by rfl,?yf4⟩) hHeld ?rf4
       case yf4=>(intro w0 hSw;obtain⟨hSw0,hSw1⟩:=hSw;go_simp;try with_reducible rfl)
       (try simp only [Jm,Ji,Jj,Jk])
       refine wpAnyH_ready (rs:=[3]) (by kernel_rfl) (by simp) ?_
       refine Jn (o:=_) rfl (fun K hK=>?_) ?_
       ·go_simp
        have sta:=st.below (au W0 (.cells #[.int .i64 99,.int .i64 1] 3));refine hK.out _ _ ?_ (fun hHeld=>?_)
        ·exact cO sta.box
        clear hK K
        (try simp only [Jm,Ji,Jj,Jk])
        refine wpAnyH_ready (rs:=[4]) (by kernel_rfl) (by simp) ?_
        refine Jn (o:=_) rfl (fun K hK=>?_) ?_
        ·go_simp
         go_at_call 98
         refine(am2 99 1 st n3' (by omega)).mono ?_
         rintro e w6 ⟨rfl,st6⟩
         go_wp2_with fail
         refine hK.out _ _ ?_ (fun hHeld=>?_)
         ·exact cO st6.box
         clear hK K
         (try simp only [Jm,Ji,Jj,Jk])
         refine wpAnyH_ready (rs:=[6]) (by kernel_rfl) (by simp) ?_
         refine Jn (o:=_) rfl (fun K hK=>?_) ?_
         ·go_simp
          go_at_call 69
          refine(zE (n:=2) hc99 (by omega) (by omega) st6.cur st6.hS st6.hZ).mono ?_
          rintro e w7 ⟨rfl,hC7,k7⟩;have st7:=st6.move hC7 k7
          go_wp2_with fail
          refine hK.out _ _ ?_ (fun hHeld=>?_)
          ·exact cO st7.box
          clear hK K
          (try simp only [Jm,Ji,Jj,Jk])
          refine wpAnyH_take (i:=7) (oi:=_) (v:=?vf5) rfl (by kernel_rfl) (by kernel_rfl) (by kernel_rfl) (fun _ _ _ h=>h) (Jv ⟨by rfl,?yf5⟩) hHeld ?rf5
          case yf5=>(intro w0 hSw;obtain⟨hSw0,hSw1⟩:=hSw;go_simp;try with_reducible rfl)
          (try simp only [Jm,Ji,Jj,Jk])
          refine wpAnyH_ready (rs:=[8]) (by kernel_rfl) (by simp) ?_
          refine Jn (o:=_) rfl (fun K hK=>?_) ?_
          ·go_simp
           have stb:=st7.below (au w7 (.cells #[.int .i64 (am ck [99,1]).1,.slice none 0 0,.bool (on (am ck [99,1]).2 2).1,.int .i64 0] 75));have hM:(w7.alloc (.cells #[.int .i64 (am ck [99,1]).1,.slice none 0 0,.bool (on (am ck [99,1]).2 2).1,.int .i64 0] 75)).heap[w7.heap.size]?=some (.cells #[.int .i64 (am ck [99,1]).1,.slice none 0 0,.bool (on (am ck [99,1]).2 2).1,.int .i64 0] 75 (0,0)):=ae _ rfl;refine hK.out _ _ ?_ (fun hHeld=>?_)
           ·exact cO stb.box
           clear hK K
           (try simp only [Jm,Ji,Jj,Jk])
           refine wpAnyH_ready (rs:=[9]) (by kernel_rfl) (by simp) ?_
           refine Jn (o:=_) rfl (fun K hK=>?_) ?_
           ·refine ai _ rfl _ _ 31 rfl (w.heap.size+1) 75 i2 (.agg #[.int .i64 0,.slice none 0 0,.bool false,.int .i64 0]) 4 48 Try.underlying31 hi2 hx0 hx1 hx2 rfl (by decide) (.slice A' n' k') _ _ (by simp [go_sem];done) stb.shop.fms.own (some ⟨w7.heap.size,0,none⟩) 1 1 [.int .i64 (am ck [99,1]).1,.slice none 0 0,.bool (on (am ck [99,1]).2 2).1,.int .i64 0] (by simp [go_sem];done) rfl (fun _=>⟨_,_,rfl,cq hM⟩) (by intro u hu;simp at hu;rcases hu with rfl | rfl | rfl | rfl<;>rfl) (by unfold maxLen;omega) (by omega) (by have:=stb.hS w.heap.size (.inr (.inl rfl));omega) ?_
            intro v9 w9 hown9 hg9 hat9;obtain⟨A9,n9,k9,rfl⟩:=ax hown9;have hst9:=st7.snoc (x:=((am ck [99,1]).1,[],(on (am ck [99,1]).2 2).1,0)) rfl hown9 hg9 hat9;have hb9:=(qy hg9 (S:=FmS (.slice A' n' k') ys) fun b hb=>.inl hb).some stb.box fun hb=>st7.np (.inr hb)
            simp only [Jm,Ji,Jj,Jk];refine hK.out _ _ ?_ (fun hHeld=>?_)
            ·exact cO hb9
            clear hK K
            (try simp only [Jm,Ji,Jj,Jk])
            refine wpAnyH_take (i:=10) (oi:=_) (v:=?vf6) rfl (by kernel_rfl) (by kernel_rfl) (by kernel_rfl) (fun _ _ _ h=>h) (Jv ⟨by rfl,?yf6⟩) hHeld ?rf6
            case yf6=>(intro w0 hSw;obtain⟨hSw0,hSw1⟩:=hSw;go_simp;try with_reducible rfl)
            (try simp only [Jm,Ji,Jj,Jk])
            refine bh (by kernel_rfl) ?_
            obtain⟨d0,d1,d2,d3⟩:=aa hb9;obtain⟨l0,l1,l2,l3⟩:=aI hb9
            go_simp
            go_wp2
            go_meet
            case rel =>
             rw [hfin];exact⟨_,_,_,_,_,_,_,hst9⟩
           exact Jr
          exact Jr
         exact Jr
        exact Jr
       exact Jr
      by_cases q4:k0=4
      ·subst q4
       have hfin:fin (4,ck) a.2=((pk ck 2).2,a.2.1,pad ((5+(pk ck 2).1).toNat - a.2.2.1.length) a.2.2.1,a.2.2.2.1,a.2.2.2.2):=rfl;have f5:=(gB hok).2.1;obtain⟨-,p1,p2,p3⟩:=sx (n:=2) n3' (by omega) (by omega);have p4:(pk ck 2).1<2:=by omega
       have hcp:=oZ (n:=2) n3' (by omega) (by omega) st5.cur st5.hS st5.hZ;obtain⟨N,hN⟩:∃N:Nat,5+(pk ck 2).1=N:=⟨(5+(pk ck 2).1).toNat,by omega⟩
       rw [hN,JL] at hfin;obtain⟨i2,hi2,hx0,hx1,hx2⟩:=info_parts fE
       go_wp2_with (go_at_call 68;refine hcp.mono ?_;rintro e w6 ⟨rfl,hC6,k6⟩;have st6:=st5.move hC6 k6)
       have hN5:5≤N∧N≤6:=by omega
       clear hcp hC6 k6
       go_loopw [] (fun wr=>∃(l:List Fm) (A1:Option Addr) (n1 k1:Nat) (zs:List Value),l.length≤N∧pad (N - l.length) l=pad (N - a.2.2.1.length) a.2.2.1∧SitP Z w wr q p (pk ck 2).2 (a.2.1,l,a.2.2.2.1,a.2.2.2.2) A n k A1 n1 k1 zs) (fun wr=>N - lenAt wr p)
       case atStart=>exact⟨a.2.2.1,_,_,_,_,by omega,rfl,st6⟩
       case round =>
        obtain⟨l,A1,n1,k1,zs,hl,hpad,sr6⟩:=hrel;obtain⟨hla,hln⟩:=sr6.lenAt;replace hln:n1=l.length:=hln;subst hln;obtain⟨d0,d1,d2,d3⟩:=aa sr6.box;obtain⟨l0,l1,l2,l3⟩:=aI sr6.box;by_cases hlt:l.length<N
        ·have hlt':(l.length:Int)<(N:Int):=by omega
         have hpadH:Hid _:=hpad;have hlaH:Hid _:=hla;clear hpad hla;have stb:=sr6.below (au wr (.cells #[.int .i64 (10+(l.length:Int)),.slice none 0 0,.bool false,.int .i64 0] 75));have hM:(wr.alloc (.cells #[.int .i64 (10+(l.length:Int)),.slice none 0 0,.bool false,.int .i64 0] 75)).heap[wr.heap.size]?=some (.cells #[.int .i64 (10+(l.length:Int)),.slice none 0 0,.bool false,.int .i64 0] 75 (0,0)):=ae _ rfl;have hbase:=stb.hS w.heap.size (.inr (.inl rfl));have hown0:(wr.alloc (.cells #[.int .i64 (10+(l.length:Int)),.slice none 0 0,.bool false,.int .i64 0] 75)).ownsRow (w.heap.size+1) 75 4 (.slice A1 l.length k1) l.length (bu l zs):=stb.shop.fms.own
         go_wp2_with (at_builtin;refine cW _ rfl _ _ 31 rfl (w.heap.size+1) 75 i2 (.agg #[.int .i64 0,.slice none 0 0,.bool false,.int .i64 0]) 4 48 Try.underlying31 hi2 hx0 hx1 hx2 rfl (by decide) (.slice A1 l.length k1) l.length (bu l zs) rfl hown0 (some ⟨wr.heap.size,0,none⟩) 1 1 [.int .i64 (10+(l.length:Int)),.slice none 0 0,.bool false,.int .i64 0] (by simp [go_sem]) rfl (fun _=>⟨_,_,rfl,cq hM⟩) (by intro u hu;simp at hu;rcases hu with rfl | rfl | rfl | rfl<;>rfl) (by unfold maxLen;omega) (by omega) (by omega) ?_;intro v9 w9 hown9 hg9 hat9;obtain⟨A9,n9,k9,rfl⟩:=ax hown9;have hst9:=sr6.snoc (x:=(10+(l.length:Int),[],false,0)) rfl hown9 hg9 hat9;have hb9:=(qy hg9 (S:=FmS (.slice A1 l.length k1) zs) fun b hb=>.inl hb).some stb.box (fun hb=>sr6.np (.inr hb));obtain⟨m0,m1,m2,m3⟩:=aI hb9;obtain⟨c0,c1,c2,c3⟩:=aa hb9)
         have hls:=hst9.lenAt.1;replace hls:lenAt _ p=(l++[((10+(l.length:Int)),([]:List ByteArray),false,(0:Int))]).length:=hls;refine⟨⟨l++[(10+(l.length:Int),[],false,0)],_,_,_,_,by simp;omega,?_,hst9⟩,?_⟩
         ·rw [←hpadH.out,show N - l.length=(N - (l++[(10+(l.length:Int),([]:List ByteArray),false,(0:Int))]).length)+1 by simp;omega]
          show _=pad _ (l++[(((10+l.length:Nat):Int),[],false,0)])
          rw [show((10+l.length:Nat):Int)=10+(l.length:Int) by omega]
         ·rw [hls,hlaH.out]
          show N - (l++[(10+(l.length:Int),([]:List ByteArray),false,(0:Int))]).length<N - l.length
          simp;omega
        ·have hlt':¬(l.length:Int)<(N:Int):=by omega
         have hle:N - l.length=0:=by omega
         rw [hle] at hpad;have hpadH:Hid (l=pad (N - a.2.2.1.length) a.2.2.1):=hpad;clear hpad hla
         go_wp2
         go_meet
         case rel =>
          rw [hfin,←hpadH.out];exact⟨_,_,_,_,_,_,_,sr6⟩
      by_cases q5:k0=5
      ·subst q5
       have hfin:fin (5,ck) a.2=((am (pk ck 2).2 [0,100000,100001]).2,a.2.1,[(1,JJ (40+(pk ck 2).1).toNat (a.2.1.getD 0 zBx).1,false,(am (pk ck 2).2 [0,100000,100001]).1)],a.2.2.2.1,200000):=rfl;have hl0:=(gB hok).1.1;obtain⟨-,p1,p2,p3⟩:=sx (n:=2) n3' (by omega) (by omega);have p4:(pk ck 2).1<2:=by omega
       have hcp:=oZ (n:=2) n3' (by omega) (by omega) st5.cur st5.hS st5.hZ;obtain⟨N,hN⟩:∃N:Nat,40+(pk ck 2).1=N:=⟨(40+(pk ck 2).1).toNat,by omega⟩
       rw [hN,JL] at hfin;obtain⟨i2,hi2,hx0,hx1,hx2⟩:=info_parts xF;obtain⟨g1,o1,hA1,hn1,-⟩:=uX st5.shop.box (i:=0) (by omega);subst hA1 hn1
       go_wp2_with (go_at_call 68;refine hcp.mono ?_;rintro e w6 ⟨rfl,hC6,k6⟩;have st6:=st5.move hC6 k6)
       have hN5:40≤N∧N≤41:=by omega
       have hlp:0<a.2.1.length:=by omega
       have hg0:a.2.1.getD 0 zBx=a.2.1[0]:=by rw [JK,JA hlp];rfl
       rw [hg0] at hfin;obtain⟨x0,-,-,-⟩:=Cq st6.shop.box hlp;generalize a.2.1[0].1=code at *;have hfinH:Hid _:=hfin;clear hcp hC6 k6 hfin hg0;have y0:=(aa st6.box).1
       go_loopw [9] (fun v9 wr=>∃m:Nat,m≤N∧wr.ownsRow w6.heap.size 9 1 v9 m (JJ m (.string code))∧Below w6.heap.size w6 wr) (fun v9 _=>N - IY v9)
       case atStart=>exact⟨0,JP _,⟨rfl,.inl ⟨rfl,rfl⟩⟩,JU _ _⟩
       case round =>
        obtain⟨m,hm,hrow,hB6⟩:=hrel;have hs6:=hB6.size;have stL:=st6.below hB6;have z0:=(aa stL.box).1;have z1:wr.cell? ⟨g1,o1,none⟩=some (.string code):=(hB6.cell (by have:=dc st6.shop.box g1 rfl;exact this)).trans x0;obtain⟨v9A,v9k,rfl⟩:=aW hrow;by_cases hlt:m<N
        ·have hlt':(m:Int)<(N:Int):=by omega
         have hM:(wr.alloc (.cells #[.string code] 9)).cell? ⟨wr.heap.size,0,none⟩=some (.string code):=by simp
         have hrow1:=vS (w':=wr.alloc (.cells #[.string code] 9)) hrow fun b hb=>(au wr _).block b (mK hrow b hb).2
         have hlpi:(0:Int)<(a.2.1.length:Int):=by omega
         go_wp2_with (at_builtin;refine cW _ rfl _ _ 73 rfl w6.heap.size 9 i2 (.string ⟨#[]⟩) 1 16 Try.underlying73 hi2 hx0 hx1 hx2 rfl (by decide) (.slice v9A m v9k) _ _ rfl hrow1 (some ⟨wr.heap.size,0,none⟩) 1 1 [.string code] (by simp [go_sem]) rfl (fun _=>⟨_,_,rfl,fun j u hj=>by
          match j,hj with
          | 0,hj=>cases hj;simp⟩) (by intro u hu;simp at hu;subst hu;rfl) (by unfold maxLen;omega) (by omega) (by simp;omega) ?_;intro v1 w9 hown9 hg9 hat9;obtain⟨A9,k9,rfl⟩:=aW hown9)
         refine⟨⟨m+1,by omega,by rw [List.replicate_succ'];exact hown9,(hB6.alloc hs6 _).grown hg9 (by simp;omega) fun b hb=>(mK hrow b hb).1⟩,?_⟩
         show N - (m+1)<N - m
         omega
        ·have hlt':¬(m:Int)<(N:Int):=by omega
         have hmN:m=N:=by omega
         subst hmN;have hcL:=st6.cur.below (T:=fun b=>fI w.heap.size p (.slice (some ⟨g1,o1,none⟩) a.2.1.length k) (.slice A' n' k') ys b∨aH (.slice v9A m v9k) b) hB6 fun b hb=>hb.imp (fun h=>h) fun h=>(mK hrow b h).1
         have hownL:=Cz hrow;have hvlt:=mK hrow;have hn3:=n3';have hca:Calls Try.prog 98 #[.pointer (some ⟨q,0,none⟩),.slice (some ⟨wr.heap.size,0,none⟩) 3 3] (wr.alloc (.cells #[.int .i64 0,.int .i64 100000,.int .i64 100001] 3)) fun e w'=>e = .returned (.int .i64 (am (pk ck 2).2 [0,100000,100001]).1)∧SitP Z w w' q p (am (pk ck 2).2 [0,100000,100001]).2 a.2 (some ⟨g1,o1,none⟩) a.2.1.length k A' n' k' ys ∧
           es Z w' q (fun b=>fI w.heap.size p (.slice (some ⟨g1,o1,none⟩) a.2.1.length k) (.slice A' n' k') ys b∨aH (.slice v9A m v9k) b) (aV (am (pk ck 2).2 [0,100000,100001]).2)∧bv w' (fun _=>False) (aH (.slice v9A m v9k)) 1 (txs (JJ m code)) (.slice v9A m v9k):=by
          have hsa:=stL.below (au wr (.cells #[.int .i64 0,.int .i64 100000,.int .i64 100001] 3));have hr:=stL.hS w.heap.size (.inr (.inl rfl));have hr6:=st6.hS w.heap.size (.inr (.inl rfl));have hq1:=stL.qlt;refine(qt (Fa:=fun b=>b=wr.heap.size) p3 (by omega) (l:=[0,100000,100001]) (by simp) (by simp) (hcL.below (au wr (.cells #[.int .i64 0,.int .i64 100000,.int .i64 100001] 3)) fun b hb=>.inl hb) (fun b hb=>?_) (fun b hb=>?_) (fun b hb=>?_) (row3 0 100000 100001 wr)).mono ?_
          ·rcases hb with hb | hb
           ·exact hsa.hS b hb
           ·have:=(hvlt b hb).2
            simp;omega
          ·exact hsa.hZ b hb
          ·refine⟨by simp;omega,by omega,fun h=>?_,fun hz=>?_⟩
           ·rcases h with h | h
            ·have:=stL.hS b h
             omega
            ·have:=(hvlt b h).2
             omega
           ·have:=stL.zlt b hz
            omega
          ·rintro e w' ⟨rfl,hC',k'⟩
           refine⟨rfl,hsa.move (hC'.more fun b hb=>.inl (.inl hb)) k',hC',ba hownL fun b hb=>?_⟩
           have:=hvlt b hb;exact(k'.block b (by simp;omega) (by omega)).trans ((au wr _).block b this.2)
         go_wp2_with (go_at_call 98;refine hca.mono ?_;rintro e w8 ⟨rfl,st8,hc8,own8⟩;have hst9:=st8.sole (x:=(1,JJ m code,false,(am (pk ck 2).2 [0,100000,100001]).1)) own8 (fun b hb=>⟨by have:=(hvlt b hb).1;have:=st6.hS w.heap.size (.inr (.inl rfl));omega,fun e=>by have:=(hvlt b hb).1;have:=st6.hS p (.inl rfl);omega,fun e=>by have:=(hvlt b hb).1;have:=st6.hS b (.inr (.inr (.inl e)));omega⟩) hc8;obtain⟨d0,d1,d2,d3⟩:=aa (ah (.cells #[.int .i64 1,.slice v9A m v9k,.bool false,.int .i64 (am (pk ck 2).2 [0,100000,100001]).1] 75) st8.box);obtain⟨l0,l1,l2,l3⟩:=aI (ah (.cells #[.int .i64 1,.slice v9A m v9k,.bool false,.int .i64 (am (pk ck 2).2 [0,100000,100001]).1] 75) st8.box))
         go_meet
         case rel =>
          rw [hfinH.out];exact⟨_,_,_,_,_,_,_,hst9.cell 3 _ _ _ rfl⟩
      have hfin:fin (k0,ck) a.2=(ck,a.2):=by
       unfold fin;rw [if_neg q0,if_neg q1,if_neg q2,if_neg q3,if_neg q4,if_neg q5]
      go_wp2
      go_meet
      case rel =>
       rw [hfin];exact⟨_,_,_,_,_,_,_,st5⟩
     case rest =>
      obtain⟨A,n,k,A',n',k',ys,st⟩:=hcut;have hsh:Hid (fin (k0,ck) a.2=sh c):=by
       show fin (k0,ck) a.2=sh c
       rw [←hkE,hdoH.out];rfl
      generalize fin (k0,ck) a.2=z at *;clear hkE;obtain⟨d0,d1,d2,d3⟩:=aa st.box;obtain⟨i0,i1,i2,i3⟩:=aa st.res;obtain⟨l0,l1,l2,l3⟩:=aI st.res
      go_wp2
      obtain⟨e0,e1,e2,e3⟩:=aa (aF (.slice A n k) (.slice A' n' k') (.int .i64 z.2.2.2.1) (.int .i64 z.2.2.2.2) st.res);refine bodyPost_ret (by simp [results,Try.results59,go_sem,e0,e1,e2,e3];try rfl) rfl ?_
      rw [←hsh.out];obtain⟨r1,r2,r3⟩:=st.done (.slice A n k) (.slice A' n' k') (.int .i64 z.2.2.2.1) (.int .i64 z.2.2.2.2);exact⟨_,_,_,_,rfl,r1,r2,r3⟩
end Go.Proofs.Ytkcojipciiakdaa

namespace Go.Proofs.Ytkcojipciiakdaa
open Go Go.Proofs Go.V Go.RowKit
set_option maxRecDepth 100000
abbrev jC (l:List Stp):D:=.arr 4 (l.map stp)
def mD (a:Sp × Nat) (x:Stp):Sp × Nat:=if fe a.1 x=true then(stS a.1 x,a.2+1) else a
def run (s:Sp) (l:List Stp):Sp × Nat:=l.foldl mD (s,0)
def js (s:Sp) (l:List Stp):Bool:=aD s&&decide (l.length≤40)
def jF (s:Sp) (l:List Stp):Sp:=if js s l=true then(run s l).1 else([],[],0,0)
def jY (s:Sp) (l:List Stp):Int:=if js s l=true then((run s l).2:Int) else 0
theorem Ca {s:Sp} {x:Stp} (hs:bH s) (hok:aD s=true) (h:fe s x=true):bH (stS s x)∧aD (stS s x)=true:=by
 rw [vI h];unfold fe at h;simp only [Jp] at h;exact⟨xZ s x hs hok h.1.1 h.1.2,h.2⟩
theorem Cc {a:Sp × Nat} {x:Stp} (h:bH a.1∧aD a.1=true):bH (mD a x).1∧aD (mD a x).1=true:=by
 unfold mD;split
 ·rename_i hst
  exact Ca h.1 h.2 hst
 ·exact h
theorem Cu:∀(l:List Stp) (a:Sp × Nat),bH a.1∧aD a.1=true→(bH (l.foldl mD a).1∧aD (l.foldl mD a).1=true)∧(l.foldl mD a).2≤a.2+l.length
 | [],a,h=>⟨h,by simp⟩
 | x::l,a,h=>by
  obtain⟨h1,h2⟩:=Cu l (mD a x) (Cc h);refine⟨h1,?_⟩
  have:(mD a x).2≤a.2+1:=by
   unfold mD;split<;>simp
  simp only [Kb,Ka];omega
theorem yn {s:Sp} (hs:bH s) (hok:aD s=true) (l:List Stp):bH (run s l).1∧aD (run s l).1=true∧(run s l).2≤l.length:=by
 obtain⟨h1,h2⟩:=Cu l (s,0) ⟨hs,hok⟩;refine⟨h1.1,h1.2,?_⟩
 show(l.foldl mD (s,0)).2≤l.length
 simpa using h2
theorem AN (s:Sp) {l:List Stp} {i:Nat} (h:i<l.length):run s (l.take (i+1))=mD (run s (l.take i)) l[i]:=by
 unfold run;rw [List.take_succ_eq_append_getElem h,List.foldl_append];rfl
theorem Fr {w:World} {F:Nat→Prop} {z:Nat} {l:List D} {y:Value} (h:aU w F (.arr z l) y):∃A c,y = .slice A l.length c:=by
 obtain⟨A,c,us,e,_⟩:=h;simp only [Jy,and_true] at e;exact⟨A,c,e⟩
theorem AC {l:List Stp}:∀d∈l.map stp,d.single=true∨∃m,d = .agg m:=fun d hd=>by
 obtain⟨x,_,rfl⟩:=List.mem_map.1 hd;exact .inr ⟨_,rfl⟩
theorem xN {w:World} {F:Nat→Prop} {l:List Stp} {us:List Value} (h:bF w F (l.map stp) us) {i:Nat} (hi:i<l.length) :
  us[i*4]?=some (.int .i64 l[i].1)∧us[i*4+1]?=some (.int .i64 l[i].2.1)∧us[i*4+2]?=some (.string l[i].2.2.1)∧us[i*4+3]?=some (.int .i64 l[i].2.2.2):=by
 obtain⟨p,m,q,rfl,hp,hm,hc,_⟩:=mi (z:=4) _ _ h (fun d hd=>by obtain⟨x,_,rfl⟩:=List.mem_map.1 hd;rfl) i (stp l[i]) (by simp [hi]);simp only [RepC,aA,aP] at hc;obtain⟨⟨v1,v2,rfl,⟨rfl,_⟩,v3,v4,rfl,⟨rfl,_⟩,v5,v6,rfl,⟨rfl,_⟩,v7,v8,rfl,⟨rfl,_⟩,rfl⟩,_⟩:=hc;refine⟨?_,?_,?_,?_⟩<;>rw [List.append_assoc,List.getElem?_append_right (by omega),hp]<;>simp [show ∀k,i*4+k - i*4=k from fun k=>by omega]
set_option maxHeartbeats 8000000 in
set_option maxRecDepth 1000000 in
theorem qR (s:Sp) (hs:bH s) (x:Stp) (hx:x.2.2.1.size≤9223372036854775807) (v0:Value) (w:World) (F:Nat→Prop) (hr:aU w F (sp s) v0) (hF:∀b,F b→b<w.heap.size) :
  Calls Try.prog 21 #[v0,stV x] w fun e w'=>∃v,e = .returned (.tuple #[v,.bool (dE s x)])∧nj w' w.heap.size v (eD s x)∧Below w.heap.size w w':=by
 obtain⟨A,n,c,A',n',c',rfl,hb,hf⟩:=fK hr;clear hb hf
 go_enter Try.func21,Try.ntmps21
 have hb3:∀a b c,Below w.heap.size w (((w.alloc a).alloc b).alloc c):=fun a b c=>(((JU _ w).alloc (JD _) _).alloc (by simp) _).alloc (by simp;omega) _
 have rep:∀{W:World},Below w.heap.size w W→aU W F (sp s) (.agg #[.slice A n c,.slice A' n' c',.int .i64 s.2.2.1,.int .i64 s.2.2.2]):=fun {W} h=>aS (fun _ h=>h) (fun b hb=>h.block b (hF b hb)) hr
 have hFW:∀{W:World},Below w.heap.size w W→∀b,F b→b<W.heap.size:=fun {W} h b hb=>Jx (hF b hb) h.size
 have hc1:=fun a b c=>nu s hs (rep (hb3 a b c)) (hFW (hb3 a b c))
 cases hok:aD s
 ·have hno:dE s x=false:=by simp [dE,hok]
  rw [hok] at hc1
  go_wp2_with (go_at_call 41;refine(hc1 _ _ _).mono ?_;rintro e w2 ⟨rfl,b2⟩;have B2:Below w.heap.size w w2:=bI (hb3 _ _ _) b2 (by simp;omega);have H2:w2.heap[w.heap.size+2]?=some (.cells #[.slice none 0 0,.slice none 0 0,.int .i64 0,.int .i64 0] 33 (0,0)):=Below.some b2 (ae _ (by simp));have i0:=(aa H2).1;have i1:=(aa H2).2.1;have i2:=(aa H2).2.2.1;have i3:=(aa H2).2.2.2;have j0:=(aI H2).1;have j1:=(aI H2).2.1;have j2:=(aI H2).2.2.1;have j3:=(aI H2).2.2.2)
  obtain⟨d0,d1,d2,d3⟩:=aa (aF (.slice none 0 0) (.slice none 0 0) (.int .i64 0) (.int .i64 0) H2);refine bodyPost_ret (by simp [results,Try.results21,go_sem,d0,d1,d2,d3];try rfl) rfl ?_
  (try rw [hno])
  (try rw [yI hno])
  exact⟨_,rfl,dM _ _,bt _ _ _ _ B2 (by omega)⟩
 ·rw [hok] at hc1
  have hyB:dE s x=fe s x:=by simp [dE,hok]
  have hyS:eD s x=stS s x:=by simp [eD,hok]
  have hc3:=fun(W:World) (h:Below w.heap.size w W)=>lJ s hs hok x hx _ W F (rep h) (hFW h)
  go_wp2_with (first
   | (go_at_call 41;refine(hc1 _ _ _).mono ?_;rintro e w2 ⟨rfl,b2⟩;have B2:Below w.heap.size w w2:=bI (hb3 _ _ _) b2 (by simp;omega);have H2:w2.heap[w.heap.size+2]?=some (.cells #[.slice none 0 0,.slice none 0 0,.int .i64 0,.int .i64 0] 33 (0,0)):=Below.some b2 (ae _ (by simp));have H1:w2.heap[w.heap.size+1]?=some (.cells #[.int .i64 x.1,.int .i64 x.2.1,.string x.2.2.1,.int .i64 x.2.2.2] 46 (0,0)):=Below.some b2 (ah _ (ae _ (by simp)));have H0:w2.heap[w.heap.size]?=some (.cells #[.slice A n c,.slice A' n' c',.int .i64 s.2.2.1,.int .i64 s.2.2.2] 33 (0,0)):=Below.some b2 (ah _ (ah _ (ae _ rfl)));have i0:=(aa H1).1;have i1:=(aa H1).2.1;have i2:=(aa H1).2.2.1;have i3:=(aa H1).2.2.2;have j0:=(aa H0).1;have j1:=(aa H0).2.1;have j2:=(aa H0).2.2.1;have j3:=(aa H0).2.2.2)
   | (go_at_call 54;refine(hc3 _ B2).mono ?_))
  rintro e w4 ⟨v4,rfl,⟨Vb,Vf,ys,sa⟩,b4⟩;obtain rfl:=sa.val;obtain⟨bA,bn,bc,rfl⟩:=bB sa.box;obtain⟨fA,fc,rfl⟩:=aW sa.fms.own;have H4:=Below.some b4 H2;have B4:=bI B2 b4 B2.size;obtain⟨e0,e1,e2,e3⟩:=aa H4;obtain⟨g0,g1,g2,g3⟩:=aI H4;have hl3:=bd H2
  go_wp2
  obtain⟨d0,d1,d2,d3⟩:=aa (aF (.slice bA bn bc) (.slice fA (stS s x).2.1.length fc) (.int .i64 (stS s x).2.2.1) (.int .i64 (stS s x).2.2.2) H4);refine bodyPost_ret (by simp [results,Try.results21,go_sem,d0,d1,d2,d3];try rfl) rfl ?_
  (try rw [hyB])
  (try rw [hyS])
  have hS8:=sa.set4 (g:=w.heap.size+2) (.slice bA bn bc) (.slice fA (stS s x).2.1.length fc) (.int .i64 (stS s x).2.2.1) (.int .i64 (stS s x).2.2.2) fun b hb=>by have:=(sa.lt b hb).1;omega
  exact⟨_,rfl,⟨_,_,_,hS8.val,hS8.box,fun b hb=>by have:=hS8.bge b hb;omega,hS8.fms.base (by omega),hS8.dis⟩,bt _ _ _ _ B4 (by omega)⟩
set_option maxHeartbeats 8000000 in
set_option maxRecDepth 1000000 in
theorem sE (s:Sp) (hs:bH s) (l:List Stp) (hll:l.length≤9223372036854775807) (hlw:∀x∈l,x.2.2.1.size≤9223372036854775807) (v0 vl:Value) (w:World) (F F':Nat→Prop) (hr:aU w F (sp s) v0) (hrl:aU w F' (jC l) vl) (hF:∀b,F b→b<w.heap.size) (hF':∀b,F' b→b<w.heap.size) :
  Calls Try.prog 27 #[v0,vl] w fun e w'=>∃v,e = .returned (.tuple #[v,.int .i64 (jY s l),.bool (js s l)])∧nj w' w.heap.size v (jF s l)∧Below w.heap.size w w':=by
 obtain⟨A,n,c,A',n',c',rfl,hb,hf⟩:=fK hr;clear hb hf;obtain⟨lA,lc,rfl⟩:=Fr hrl;obtain⟨us,-,-,hus,-,-,huA⟩:=mz hrl AC;rw [Ju] at huA ⊢;clear hrl
 go_enter Try.func27,Try.ntmps27
 have hb2:∀a b,Below w.heap.size w ((w.alloc a).alloc b):=fun a b=>((JU _ w).alloc (JD _) _).alloc (by simp) _
 have rep:∀{W:World},Below w.heap.size w W→aU W F (sp s) (.agg #[.slice A n c,.slice A' n' c',.int .i64 s.2.2.1,.int .i64 s.2.2.2]):=fun {W} h=>aS (fun _ h=>h) (fun b hb=>h.block b (hF b hb)) hr
 have hFW:∀{W:World},Below w.heap.size w W→∀b,F b→b<W.heap.size:=fun {W} h b hb=>Jx (hF b hb) h.size
 have hc1:=fun a b=>nY s hs (rep (hb2 a b)) (hFW (hb2 a b))
 cases hok:aD s
 ·have hno:js s l=false:=by simp [js,hok]
  have hnoH:Hid _:=hno;clear hno;rw [hok] at hc1
  go_upto_region 2 with (go_at_call 34;refine(hc1 _ _).mono ?_;rintro e w2 ⟨rfl,b2⟩;have B2:Below w.heap.size w w2:=bI (hb2 _ _) b2 (by simp<;>omega);have H2:w2.heap[w.heap.size+1]?=some (.cells #[.slice none 0 0,.slice none 0 0,.int .i64 0,.int .i64 0] 33 (0,0)):=Below.some b2 (ae _ (by simp)))
  obtain⟨i0,i1,i2,i3⟩:=aa H2;obtain⟨j0,j1,j2,j3⟩:=aI H2
  go_wp2
  obtain⟨d0,d1,d2,d3⟩:=aa (aF (.slice none 0 0) (.slice none 0 0) (.int .i64 0) (.int .i64 0) H2);refine bodyPost_ret (by simp [results,Try.results27,go_sem,d0,d1,d2,d3];try rfl) rfl ?_
  rw [show jY s l=0 by simp [jY,hnoH.out],show jF s l=([],[],0,0) by simp [jF,hnoH.out],hnoH.out];exact⟨_,rfl,dM _ _,bt _ _ _ _ B2 (by omega)⟩
 rw [hok] at hc1;by_cases h40:l.length≤40
 rotate_left
 ·have hno:js s l=false:=by simp [js,h40]
  have hnoH:Hid _:=hno;clear hno;have hgt:(40:Int)<(l.length:Int):=by omega
  go_upto_region 2 with (go_at_call 34;refine(hc1 _ _).mono ?_;rintro e w2 ⟨rfl,b2⟩;have B2:Below w.heap.size w w2:=bI (hb2 _ _) b2 (by simp<;>omega);have H2:w2.heap[w.heap.size+1]?=some (.cells #[.slice none 0 0,.slice none 0 0,.int .i64 0,.int .i64 0] 33 (0,0)):=Below.some b2 (ae _ (by simp)))
  obtain⟨i0,i1,i2,i3⟩:=aa H2;obtain⟨j0,j1,j2,j3⟩:=aI H2
  go_wp2
  obtain⟨d0,d1,d2,d3⟩:=aa (aF (.slice none 0 0) (.slice none 0 0) (.int .i64 0) (.int .i64 0) H2);refine bodyPost_ret (by simp [results,Try.results27,go_sem,d0,d1,d2,d3];try rfl) rfl ?_
  rw [show jY s l=0 by simp [jY,hnoH.out],show jF s l=([],[],0,0) by simp [jF,hnoH.out],hnoH.out];exact⟨_,rfl,dM _ _,bt _ _ _ _ B2 (by omega)⟩
 have hyB:js s l=true:=by simp [js,hok,h40]
 have hyH:Hid _:=hyB;clear hyB;have hngt:¬(40:Int)<(l.length:Int):=by omega
 go_upto_region 3 with (go_at_call 34;refine(hc1 _ _).mono ?_;rintro e w2 ⟨rfl,b2⟩;have B2:Below w.heap.size w w2:=bI (hb2 _ _) b2 (by simp<;>omega);have H2:w2.heap[w.heap.size+1]?=some (.cells #[.slice none 0 0,.slice none 0 0,.int .i64 0,.int .i64 0] 33 (0,0)):=Below.some b2 (ae _ (by simp));have P2:w2.heap[w.heap.size]?=some (.cells #[.slice A n c,.slice A' n' c',.int .i64 s.2.2.1,.int .i64 s.2.2.2] 33 (0,0)):=Below.some b2 (ah _ (ae _ rfl));clear b2)
 have hc2:=nH s hs _ w2 F (rep B2) (hFW B2);have hl2:=bd H2;obtain⟨e0,e1,e2,e3⟩:=aa P2;clear hc1 hb2 rep hFW
 go_upto_region 5 with (go_at_call 50;refine hc2.mono ?_;rintro e w3 ⟨v3,rfl,⟨Vb,Vf,ys,sa⟩,b3⟩;obtain rfl:=sa.val;obtain⟨bA,bn,bc,rfl⟩:=bB sa.box;obtain⟨fA,fc,rfl⟩:=aW sa.fms.own)
 have H3:=Below.some b3 H2;have B3:=bI B2 b3 B2.size;have hs3:=b3.size;have hlt3:=sa.lt;have sa':=sa.below (au w3 (.cells #[.slice bA bn bc,.slice fA s.2.1.length fc,.int .i64 s.2.2.1,.int .i64 s.2.2.2] 33));have hbox:ko (w3.alloc (.cells #[.slice bA bn bc,.slice fA s.2.1.length fc,.int .i64 s.2.2.1,.int .i64 s.2.2.2] 33)) w3.heap.size (w.heap.size+2) s :=
  ⟨_,_,_,_,_,_,_,ae _ rfl,⟨rfl,sa'.box,fun b hb=>by have:=(hlt3 b (.inl hb)).1;omega,sa'.fms.base (by omega),sa'.dis⟩,fun h=>by have:=(hlt3 _ h).2;omega⟩
 have H4:=ah (.cells #[.slice bA bn bc,.slice fA s.2.1.length fc,.int .i64 s.2.2.1,.int .i64 s.2.2.2] 33) H3;have B4:Below w.heap.size w (w3.alloc (.cells #[.slice bA bn bc,.slice fA s.2.1.length fc,.int .i64 s.2.2.1,.int .i64 s.2.2.2] 33)):=B3.alloc B3.size _;have hpl:w3.heap.size<(w3.alloc (.cells #[.slice bA bn bc,.slice fA s.2.1.length fc,.int .i64 s.2.2.1,.int .i64 s.2.2.2] 33)).heap.size:=by simp
 have hwp:w.heap.size+2≤w3.heap.size:=by omega
 clear hc2 e0 e1 e2 e3 b3 sa sa' H3 B3 hlt3 hs3 H2 P2 B2 hl2;generalize w3.alloc (.cells #[.slice bA bn bc,.slice fA s.2.1.length fc,.int .i64 s.2.2.1,.int .i64 s.2.2.2] 33)=w4 at *;generalize w3.heap.size=p at *
 go_wp2
 go_loopw [8,26] (fun v8 v26 wr=>∃i:Nat,v26 = .int .i64 (i:Int)∧i≤l.length∧v8 = .int .i64 ((run s (l.take i)).2:Int)∧ko wr p (w.heap.size+2) (run s (l.take i)).1∧wr.heap[w.heap.size+1]?=some (.cells #[.slice none 0 0,.slice none 0 0,.int .i64 0,.int .i64 0] 33 (0,0))∧Below w.heap.size w wr∧p<wr.heap.size) (fun _ v26 _=>l.length - (intOf v26).toNat)
 case atStart=>exact⟨0,rfl,JP _,rfl,hbox,H4,B4,hpl⟩
 case round =>
  obtain⟨i,rfl,hil,rfl,hboxr,Hr,Br,hpr⟩:=hrel;obtain⟨hto,htk,htn⟩:=yn hs hok (l.take i);rw [JN] at htn;obtain⟨t,htE⟩:∃t,t=run s (l.take i):=⟨_,rfl⟩
  rw [←htE] at hboxr hto htk htn ⊢;obtain⟨A1,m1,c1,A2,m2,c2,zs,hpc,hSc,hnp⟩:=hboxr;by_cases hp:i<l.length
  ·have hpi:(i:Int)<(l.length:Int):=by omega
   have hsucc:=AN s hp;rw [←htE] at hsucc;have htEH:Hid _:=htE;have hsuccH:Hid _:=hsucc;clear htE hsucc;obtain⟨b,o,rfl,hFb,hcell⟩:=huA (by omega);obtain⟨u0,u1,u2,u3⟩:=xN hus hp;have hxw:=hlw l[i] (JG hp);generalize l[i]=x at *;have hcb:∀{k:Nat} {u:Value},us[k]?=some u→wr.cell? ⟨b,o+k,none⟩=some u:=fun {k u} hu=>(JV (w:=w) (Br.block b (hF' b hFb))).trans (hcell k u hu)
   have k0:=hcb u0;have k1:=hcb u1;have k2:=hcb u2;have k3:=hcb u3;simp only [←Nat.add_assoc] at k1 k2 k3;have hSa:=hSc.below (au wr (.cells #[.int .i64 x.1,.int .i64 x.2.1,.string x.2.2.1,.int .i64 x.2.2.2] 46));have hpa:=ah (.cells #[.int .i64 x.1,.int .i64 x.2.1,.string x.2.2.1,.int .i64 x.2.2.2] 46) hpc;have hxa:(wr.alloc (.cells #[.int .i64 x.1,.int .i64 x.2.1,.string x.2.2.1,.int .i64 x.2.2.2] 46)).heap[wr.heap.size]?=some (.cells #[.int .i64 x.1,.int .i64 x.2.1,.string x.2.2.1,.int .i64 x.2.2.2] 46 (0,0)):=ae _ rfl;have Ha:=ah (.cells #[.int .i64 x.1,.int .i64 x.2.1,.string x.2.2.1,.int .i64 x.2.2.2] 46) Hr;have Ba:Below w.heap.size w (wr.alloc (.cells #[.int .i64 x.1,.int .i64 x.2.1,.string x.2.2.1,.int .i64 x.2.2.2] 46)):=Br.alloc Br.size _;have hpra:p<(wr.alloc (.cells #[.int .i64 x.1,.int .i64 x.2.1,.string x.2.2.1,.int .i64 x.2.2.2] 46)).heap.size:=by simp;omega
   have hc:=qb t.1 hto x hxw _ (wr.alloc (.cells #[.int .i64 x.1,.int .i64 x.2.1,.string x.2.2.1,.int .i64 x.2.2.2] 46)) _ hSa.rep (fun b hb=>(hSa.lt b hb).2);rw [show dE t.1 x=fe t.1 x by simp [dE,htk],show eD t.1 x=stS t.1 x by simp [eD,htk]] at hc;have hw:Js.wrap ((i:Int)+1)=((i+1:Nat):Int):=by rw [ay (by omega) (by omega)];omega
   have hw2:Js.wrap ((t.2:Int)+1)=((t.2+1:Nat):Int):=by rw [ay (by omega) (by omega)];omega
   go_upto_region 8 with fail
   generalize wr.alloc (.cells #[.int .i64 x.1,.int .i64 x.2.1,.string x.2.2.1,.int .i64 x.2.2.2] 46)=wa at *;obtain⟨e0,e1,e2,e3⟩:=aa hpa;obtain⟨f0,f1,f2,f3⟩:=aa hxa;clear k0 k1 k2 k3;cases hst:fe t.1 x
   ·have hns:run s (l.take (i+1))=t:=by rw [hsuccH.out,mD,hst];rfl
    have hnsH:Hid _:=hns;clear hns;rw [hst] at hc
    go_wp2_with (go_at_call 23;refine hc.mono ?_;rintro e w5 ⟨v5,rfl,⟨Vb5,Vf5,ys5,sm⟩,b5⟩;obtain rfl:=sm.val;obtain⟨nA,nn,nc,rfl⟩:=bB sm.box;obtain⟨nfA,nfc,rfl⟩:=aW sm.fms.own)
    refine⟨⟨i+1,rfl,hp,by rw [hnsH.out],?_,ah _ (Below.some b5 Ha),(bI Ba b5 Ba.size).alloc (by have:=b5.size;have:=Ba.size;omega) _,by have:=b5.size;simp;omega⟩,?_⟩
    ·rw [hnsH.out]
     exact(ko.below ⟨A1,m1,c1,A2,m2,c2,zs,hpa,hSa,hnp⟩ b5).below (au _ _)
    ·show l.length - (((i+1:Nat):Int)).toNat<l.length - ((i:Int)).toNat
     omega
   ·have hns:run s (l.take (i+1))=(stS t.1 x,t.2+1):=by rw [hsuccH.out,mD,hst];rfl
    have hnsH:Hid _:=hns;clear hns;rw [hst] at hc
    go_upto_region 10 with (go_at_call 23;refine hc.mono ?_;rintro e w5 ⟨v5,rfl,⟨Vb5,Vf5,ys5,sm⟩,b5⟩;obtain rfl:=sm.val;obtain⟨nA,nn,nc,rfl⟩:=bB sm.box;obtain⟨nfA,nfc,rfl⟩:=aW sm.fms.own)
    have hp6:=ah (.cells #[.slice nA nn nc,.slice nfA (stS t.1 x).2.1.length nfc,.int .i64 (stS t.1 x).2.2.1,.int .i64 (stS t.1 x).2.2.2] 33) (Below.some b5 hpa);have hq6:(w5.alloc (.cells #[.slice nA nn nc,.slice nfA (stS t.1 x).2.1.length nfc,.int .i64 (stS t.1 x).2.2.1,.int .i64 (stS t.1 x).2.2.2] 33)).heap[w5.heap.size]?=some (.cells #[.slice nA nn nc,.slice nfA (stS t.1 x).2.1.length nfc,.int .i64 (stS t.1 x).2.2.1,.int .i64 (stS t.1 x).2.2.2] 33 (0,0)):=ae _ rfl;have H6:=ah (.cells #[.slice nA nn nc,.slice nfA (stS t.1 x).2.1.length nfc,.int .i64 (stS t.1 x).2.2.1,.int .i64 (stS t.1 x).2.2.2] 33) (Below.some b5 Ha);have B6:Below w.heap.size w (w5.alloc (.cells #[.slice nA nn nc,.slice nfA (stS t.1 x).2.1.length nfc,.int .i64 (stS t.1 x).2.2.1,.int .i64 (stS t.1 x).2.2.2] 33)):=(bI Ba b5 Ba.size).alloc (by have:=b5.size;have:=Ba.size;omega) _;have hmlt:=sm.lt;have sm6:=sm.below (au w5 (.cells #[.slice nA nn nc,.slice nfA (stS t.1 x).2.1.length nfc,.int .i64 (stS t.1 x).2.2.1,.int .i64 (stS t.1 x).2.2.2] 33));have hs6:p<(w5.alloc (.cells #[.slice nA nn nc,.slice nfA (stS t.1 x).2.1.length nfc,.int .i64 (stS t.1 x).2.2.1,.int .i64 (stS t.1 x).2.2.2] 33)).heap.size:=by have:=b5.size;simp;omega
    have hs5:=b5.size;clear hpa hxa e0 e1 e2 e3 f0 f1 f2 f3 hc hSa sm b5 Ha Ba hpc hSc;generalize w5.alloc (.cells #[.slice nA nn nc,.slice nfA (stS t.1 x).2.1.length nfc,.int .i64 (stS t.1 x).2.2.1,.int .i64 (stS t.1 x).2.2.2] 33)=w6 at *;obtain⟨e0,e1,e2,e3⟩:=aa hq6;obtain⟨f0,f1,f2,f3⟩:=aa hp6;obtain⟨j0,j1,j2,j3⟩:=aI hp6
    go_wp2
    refine⟨⟨i+1,rfl,hp,by rw [hnsH.out];simp,?_,(im _ _ _ _ (by omega)).trans H6,bt _ _ _ _ B6 (by omega),by simp [Kc];omega⟩,?_⟩
    ·rw [hnsH.out]
     have sm7:=sm6.set4 (g:=p) (.slice nA nn nc) (.slice nfA (stS t.1 x).2.1.length nfc) (.int .i64 (stS t.1 x).2.2.1) (.int .i64 (stS t.1 x).2.2.2) fun b hb=>by have:=(hmlt b hb).1;omega
     exact⟨_,_,_,_,_,_,_,aF (.slice nA nn nc) (.slice nfA (stS t.1 x).2.1.length nfc) (.int .i64 (stS t.1 x).2.2.1) (.int .i64 (stS t.1 x).2.2.2) hp6,⟨rfl,sm7.box,fun b hb=>by have:=(hmlt b (.inl hb)).1;omega,sm7.fms.base (by omega),sm7.dis⟩,fun h=>by have:=(hmlt _ h).1;omega⟩
    ·show l.length - (((i+1:Nat):Int)).toNat<l.length - ((i:Int)).toNat
     omega
  ·have hpi:¬(i:Int)<(l.length:Int):=by omega
   have hie:l.take i=l:=JQ (by omega);rw [hie] at htE;have htEH:Hid _:=htE;clear htE hie;obtain⟨e0,e1,e2,e3⟩:=aa hpc;obtain⟨i0,i1,i2,i3⟩:=aa Hr;obtain⟨j0,j1,j2,j3⟩:=aI Hr
   go_wp2
   obtain⟨d0,d1,d2,d3⟩:=aa (aF (.slice A1 m1 c1) (.slice A2 m2 c2) (.int .i64 t.1.2.2.1) (.int .i64 t.1.2.2.2) Hr);refine bodyPost_ret (by simp [results,Try.results27,go_sem,d0,d1,d2,d3];try rfl) rfl ?_
   have hS8:=hSc.set4 (g:=w.heap.size+1) (.slice A1 m1 c1) (.slice A2 m2 c2) (.int .i64 t.1.2.2.1) (.int .i64 t.1.2.2.2) fun b hb=>by have:=(hSc.lt b hb).1;omega
   have eN:jY s l=(t.2:Int):=by rw [jY,if_pos hyH.out,htEH.out]
   have eS:jF s l=t.1:=by rw [jF,if_pos hyH.out,htEH.out]
   rw [eN,eS,hyH.out];exact⟨_,rfl,⟨_,_,_,hS8.val,hS8.box,fun b hb=>by have:=hS8.bge b hb;omega,hS8.fms.base (by omega),hS8.dis⟩,bt _ _ _ _ Br (by omega)⟩
set_option maxHeartbeats 8000000 in
set_option maxRecDepth 1000000 in
theorem rv (s:Sp) (hs:bH s) (l:List Stp) (hll:l.length≤9223372036854775807) (hlw:∀x∈l,x.2.2.1.size≤9223372036854775807) (v0 vl:Value) (w:World) (F F':Nat→Prop) (hr:aU w F (sp s) v0) (hrl:aU w F' (jC l) vl) (hF:∀b,F b→b<w.heap.size) (hF':∀b,F' b→b<w.heap.size) :
  Calls Try.prog 25 #[v0,vl] w fun e w'=>∃v,e = .returned (.tuple #[v,.int .i64 (jY s l),.bool (js s l)])∧nj w' w.heap.size v (jF s l)∧Below w.heap.size w w':=by
 obtain⟨A,n,c,A',n',c',rfl,hb,hf⟩:=fK hr;clear hb hf;obtain⟨lA,lc,rfl⟩:=Fr hrl;obtain⟨us,-,-,hus,-,-,huA⟩:=mz hrl AC;rw [Ju] at huA ⊢;clear hrl
 go_enter Try.func25,Try.ntmps25
 have hb2:∀a b,Below w.heap.size w ((w.alloc a).alloc b):=fun a b=>((JU _ w).alloc (JD _) _).alloc (by simp) _
 have rep:∀{W:World},Below w.heap.size w W→aU W F (sp s) (.agg #[.slice A n c,.slice A' n' c',.int .i64 s.2.2.1,.int .i64 s.2.2.2]):=fun {W} h=>aS (fun _ h=>h) (fun b hb=>h.block b (hF b hb)) hr
 have hFW:∀{W:World},Below w.heap.size w W→∀b,F b→b<W.heap.size:=fun {W} h b hb=>Jx (hF b hb) h.size
 have hc1:=fun a b=>nu s hs (rep (hb2 a b)) (hFW (hb2 a b))
 cases hok:aD s
 ·have hno:js s l=false:=by simp [js,hok]
  have hnoH:Hid _:=hno;clear hno;rw [hok] at hc1
  go_upto_region 2 with (go_at_call 41;refine(hc1 _ _).mono ?_;rintro e w2 ⟨rfl,b2⟩;have B2:Below w.heap.size w w2:=bI (hb2 _ _) b2 (by simp<;>omega);have H2:w2.heap[w.heap.size+1]?=some (.cells #[.slice none 0 0,.slice none 0 0,.int .i64 0,.int .i64 0] 33 (0,0)):=Below.some b2 (ae _ (by simp)))
  obtain⟨i0,i1,i2,i3⟩:=aa H2;obtain⟨j0,j1,j2,j3⟩:=aI H2
  go_wp2
  obtain⟨d0,d1,d2,d3⟩:=aa (aF (.slice none 0 0) (.slice none 0 0) (.int .i64 0) (.int .i64 0) H2);refine bodyPost_ret (by simp [results,Try.results25,go_sem,d0,d1,d2,d3];try rfl) rfl ?_
  rw [show jY s l=0 by simp [jY,hnoH.out],show jF s l=([],[],0,0) by simp [jF,hnoH.out],hnoH.out];exact⟨_,rfl,dM _ _,bt _ _ _ _ B2 (by omega)⟩
 rw [hok] at hc1;by_cases h40:l.length≤40
 rotate_left
 ·have hno:js s l=false:=by simp [js,h40]
  have hnoH:Hid _:=hno;clear hno;have hgt:(40:Int)<(l.length:Int):=by omega
  go_upto_region 2 with (go_at_call 41;refine(hc1 _ _).mono ?_;rintro e w2 ⟨rfl,b2⟩;have B2:Below w.heap.size w w2:=bI (hb2 _ _) b2 (by simp<;>omega);have H2:w2.heap[w.heap.size+1]?=some (.cells #[.slice none 0 0,.slice none 0 0,.int .i64 0,.int .i64 0] 33 (0,0)):=Below.some b2 (ae _ (by simp)))
  obtain⟨i0,i1,i2,i3⟩:=aa H2;obtain⟨j0,j1,j2,j3⟩:=aI H2
  go_wp2
  obtain⟨d0,d1,d2,d3⟩:=aa (aF (.slice none 0 0) (.slice none 0 0) (.int .i64 0) (.int .i64 0) H2);refine bodyPost_ret (by simp [results,Try.results25,go_sem,d0,d1,d2,d3];try rfl) rfl ?_
  rw [show jY s l=0 by simp [jY,hnoH.out],show jF s l=([],[],0,0) by simp [jF,hnoH.out],hnoH.out];exact⟨_,rfl,dM _ _,bt _ _ _ _ B2 (by omega)⟩
 have hyB:js s l=true:=by simp [js,hok,h40]
 have hyH:Hid _:=hyB;clear hyB;have hngt:¬(40:Int)<(l.length:Int):=by omega
 go_upto_region 3 with (go_at_call 41;refine(hc1 _ _).mono ?_;rintro e w2 ⟨rfl,b2⟩;have B2:Below w.heap.size w w2:=bI (hb2 _ _) b2 (by simp<;>omega);have H2:w2.heap[w.heap.size+1]?=some (.cells #[.slice none 0 0,.slice none 0 0,.int .i64 0,.int .i64 0] 33 (0,0)):=Below.some b2 (ae _ (by simp));have P2:w2.heap[w.heap.size]?=some (.cells #[.slice A n c,.slice A' n' c',.int .i64 s.2.2.1,.int .i64 s.2.2.2] 33 (0,0)):=Below.some b2 (ah _ (ae _ rfl));clear b2)
 have hc2:=qX s hs _ w2 F (rep B2) (hFW B2);have hl2:=bd H2;obtain⟨e0,e1,e2,e3⟩:=aa P2;clear hc1 hb2 rep hFW
 go_upto_region 4 with (go_at_call 48;refine hc2.mono ?_;rintro e w3 ⟨v3,rfl,⟨Vb,Vf,ys,sa⟩,b3⟩;obtain rfl:=sa.val;obtain⟨bA,bn,bc,rfl⟩:=bB sa.box;obtain⟨fA,fc,rfl⟩:=aW sa.fms.own)
 have H3:=Below.some b3 H2;have B3:=bI B2 b3 B2.size;have hs3:=b3.size;have hlt3:=sa.lt;have sa':=sa.below (au w3 (.cells #[.slice bA bn bc,.slice fA s.2.1.length fc,.int .i64 s.2.2.1,.int .i64 s.2.2.2] 33));have hbox:ko (w3.alloc (.cells #[.slice bA bn bc,.slice fA s.2.1.length fc,.int .i64 s.2.2.1,.int .i64 s.2.2.2] 33)) w3.heap.size (w.heap.size+2) s :=
  ⟨_,_,_,_,_,_,_,ae _ rfl,⟨rfl,sa'.box,fun b hb=>by have:=(hlt3 b (.inl hb)).1;omega,sa'.fms.base (by omega),sa'.dis⟩,fun h=>by have:=(hlt3 _ h).2;omega⟩
 have H4:=ah (.cells #[.slice bA bn bc,.slice fA s.2.1.length fc,.int .i64 s.2.2.1,.int .i64 s.2.2.2] 33) H3;have B4:Below w.heap.size w (w3.alloc (.cells #[.slice bA bn bc,.slice fA s.2.1.length fc,.int .i64 s.2.2.1,.int .i64 s.2.2.2] 33)):=B3.alloc B3.size _;have hpl:w3.heap.size<(w3.alloc (.cells #[.slice bA bn bc,.slice fA s.2.1.length fc,.int .i64 s.2.2.1,.int .i64 s.2.2.2] 33)).heap.size:=by simp
 have hwp:w.heap.size+2≤w3.heap.size:=by omega
 clear hc2 e0 e1 e2 e3 b3 sa sa' H3 B3 hlt3 hs3 H2 P2 B2 hl2;generalize w3.alloc (.cells #[.slice bA bn bc,.slice fA s.2.1.length fc,.int .i64 s.2.2.1,.int .i64 s.2.2.2] 33)=w4 at *;generalize w3.heap.size=p at *
 go_wp2
 go_loopw [8,26] (fun v8 v26 wr=>∃i:Nat,v26 = .int .i64 (i:Int)∧i≤l.length∧v8 = .int .i64 ((run s (l.take i)).2:Int)∧ko wr p (w.heap.size+2) (run s (l.take i)).1∧wr.heap[w.heap.size+1]?=some (.cells #[.slice none 0 0,.slice none 0 0,.int .i64 0,.int .i64 0] 33 (0,0))∧Below w.heap.size w wr∧p<wr.heap.size) (fun _ v26 _=>l.length - (intOf v26).toNat)
 case atStart=>exact⟨0,rfl,JP _,rfl,hbox,H4,B4,hpl⟩
 case round =>
  obtain⟨i,rfl,hil,rfl,hboxr,Hr,Br,hpr⟩:=hrel;obtain⟨hto,htk,htn⟩:=yn hs hok (l.take i);rw [JN] at htn;obtain⟨t,htE⟩:∃t,t=run s (l.take i):=⟨_,rfl⟩
  rw [←htE] at hboxr hto htk htn ⊢;obtain⟨A1,m1,c1,A2,m2,c2,zs,hpc,hSc,hnp⟩:=hboxr;by_cases hp:i<l.length
  ·have hpi:(i:Int)<(l.length:Int):=by omega
   have hsucc:=AN s hp;rw [←htE] at hsucc;have htEH:Hid _:=htE;have hsuccH:Hid _:=hsucc;clear htE hsucc;obtain⟨b,o,rfl,hFb,hcell⟩:=huA (by omega);obtain⟨u0,u1,u2,u3⟩:=xN hus hp;have hxw:=hlw l[i] (JG hp);generalize l[i]=x at *;have hcb:∀{k:Nat} {u:Value},us[k]?=some u→wr.cell? ⟨b,o+k,none⟩=some u:=fun {k u} hu=>(JV (w:=w) (Br.block b (hF' b hFb))).trans (hcell k u hu)
   have k0:=hcb u0;have k1:=hcb u1;have k2:=hcb u2;have k3:=hcb u3;simp only [←Nat.add_assoc] at k1 k2 k3;have hSa:=hSc.below (au wr (.cells #[.int .i64 x.1,.int .i64 x.2.1,.string x.2.2.1,.int .i64 x.2.2.2] 46));have hpa:=ah (.cells #[.int .i64 x.1,.int .i64 x.2.1,.string x.2.2.1,.int .i64 x.2.2.2] 46) hpc;have hxa:(wr.alloc (.cells #[.int .i64 x.1,.int .i64 x.2.1,.string x.2.2.1,.int .i64 x.2.2.2] 46)).heap[wr.heap.size]?=some (.cells #[.int .i64 x.1,.int .i64 x.2.1,.string x.2.2.1,.int .i64 x.2.2.2] 46 (0,0)):=ae _ rfl;have Ha:=ah (.cells #[.int .i64 x.1,.int .i64 x.2.1,.string x.2.2.1,.int .i64 x.2.2.2] 46) Hr;have Ba:Below w.heap.size w (wr.alloc (.cells #[.int .i64 x.1,.int .i64 x.2.1,.string x.2.2.1,.int .i64 x.2.2.2] 46)):=Br.alloc Br.size _;have hpra:p<(wr.alloc (.cells #[.int .i64 x.1,.int .i64 x.2.1,.string x.2.2.1,.int .i64 x.2.2.2] 46)).heap.size:=by simp;omega
   have hc:=lJ t.1 hto htk x hxw _ (wr.alloc (.cells #[.int .i64 x.1,.int .i64 x.2.1,.string x.2.2.1,.int .i64 x.2.2.2] 46)) _ hSa.rep (fun b hb=>(hSa.lt b hb).2);have hw:Js.wrap ((i:Int)+1)=((i+1:Nat):Int):=by rw [ay (by omega) (by omega)];omega
   have hw2:Js.wrap ((t.2:Int)+1)=((t.2+1:Nat):Int):=by rw [ay (by omega) (by omega)];omega
   go_upto_region 7 with fail
   generalize wr.alloc (.cells #[.int .i64 x.1,.int .i64 x.2.1,.string x.2.2.1,.int .i64 x.2.2.2] 46)=wa at *;obtain⟨e0,e1,e2,e3⟩:=aa hpa;obtain⟨f0,f1,f2,f3⟩:=aa hxa;clear k0 k1 k2 k3;cases hst:fe t.1 x
   ·have hns:run s (l.take (i+1))=t:=by rw [hsuccH.out,mD,hst];rfl
    have hnsH:Hid _:=hns;clear hns;rw [hst] at hc
    go_wp2_with (go_at_call 54;refine hc.mono ?_;rintro e w5 ⟨v5,rfl,⟨Vb5,Vf5,ys5,sm⟩,b5⟩;obtain rfl:=sm.val;obtain⟨nA,nn,nc,rfl⟩:=bB sm.box;obtain⟨nfA,nfc,rfl⟩:=aW sm.fms.own)
    refine⟨⟨i+1,rfl,hp,by rw [hnsH.out],?_,ah _ (Below.some b5 Ha),(bI Ba b5 Ba.size).alloc (by have:=b5.size;have:=Ba.size;omega) _,by have:=b5.size;simp;omega⟩,?_⟩
    ·rw [hnsH.out]
     exact(ko.below ⟨A1,m1,c1,A2,m2,c2,zs,hpa,hSa,hnp⟩ b5).below (au _ _)
    ·show l.length - (((i+1:Nat):Int)).toNat<l.length - ((i:Int)).toNat
     omega
   ·have hns:run s (l.take (i+1))=(stS t.1 x,t.2+1):=by rw [hsuccH.out,mD,hst];rfl
    have hnsH:Hid _:=hns;clear hns;rw [hst] at hc
    go_upto_region 9 with (go_at_call 54;refine hc.mono ?_;rintro e w5 ⟨v5,rfl,⟨Vb5,Vf5,ys5,sm⟩,b5⟩;obtain rfl:=sm.val;obtain⟨nA,nn,nc,rfl⟩:=bB sm.box;obtain⟨nfA,nfc,rfl⟩:=aW sm.fms.own)
    have hp6:=ah (.cells #[.slice nA nn nc,.slice nfA (stS t.1 x).2.1.length nfc,.int .i64 (stS t.1 x).2.2.1,.int .i64 (stS t.1 x).2.2.2] 33) (Below.some b5 hpa);have hq6:(w5.alloc (.cells #[.slice nA nn nc,.slice nfA (stS t.1 x).2.1.length nfc,.int .i64 (stS t.1 x).2.2.1,.int .i64 (stS t.1 x).2.2.2] 33)).heap[w5.heap.size]?=some (.cells #[.slice nA nn nc,.slice nfA (stS t.1 x).2.1.length nfc,.int .i64 (stS t.1 x).2.2.1,.int .i64 (stS t.1 x).2.2.2] 33 (0,0)):=ae _ rfl;have H6:=ah (.cells #[.slice nA nn nc,.slice nfA (stS t.1 x).2.1.length nfc,.int .i64 (stS t.1 x).2.2.1,.int .i64 (stS t.1 x).2.2.2] 33) (Below.some b5 Ha);have B6:Below w.heap.size w (w5.alloc (.cells #[.slice nA nn nc,.slice nfA (stS t.1 x).2.1.length nfc,.int .i64 (stS t.1 x).2.2.1,.int .i64 (stS t.1 x).2.2.2] 33)):=(bI Ba b5 Ba.size).alloc (by have:=b5.size;have:=Ba.size;omega) _;have hmlt:=sm.lt;have sm6:=sm.below (au w5 (.cells #[.slice nA nn nc,.slice nfA (stS t.1 x).2.1.length nfc,.int .i64 (stS t.1 x).2.2.1,.int .i64 (stS t.1 x).2.2.2] 33));have hs6:p<(w5.alloc (.cells #[.slice nA nn nc,.slice nfA (stS t.1 x).2.1.length nfc,.int .i64 (stS t.1 x).2.2.1,.int .i64 (stS t.1 x).2.2.2] 33)).heap.size:=by have:=b5.size;simp;omega
    have hs5:=b5.size;clear hpa hxa e0 e1 e2 e3 f0 f1 f2 f3 hc hSa sm b5 Ha Ba hpc hSc;generalize w5.alloc (.cells #[.slice nA nn nc,.slice nfA (stS t.1 x).2.1.length nfc,.int .i64 (stS t.1 x).2.2.1,.int .i64 (stS t.1 x).2.2.2] 33)=w6 at *;obtain⟨e0,e1,e2,e3⟩:=aa hq6;obtain⟨f0,f1,f2,f3⟩:=aa hp6;obtain⟨j0,j1,j2,j3⟩:=aI hp6
    go_wp2
    refine⟨⟨i+1,rfl,hp,by rw [hnsH.out];simp,?_,(im _ _ _ _ (by omega)).trans H6,bt _ _ _ _ B6 (by omega),by simp [Kc];omega⟩,?_⟩
    ·rw [hnsH.out]
     have sm7:=sm6.set4 (g:=p) (.slice nA nn nc) (.slice nfA (stS t.1 x).2.1.length nfc) (.int .i64 (stS t.1 x).2.2.1) (.int .i64 (stS t.1 x).2.2.2) fun b hb=>by have:=(hmlt b hb).1;omega
     exact⟨_,_,_,_,_,_,_,aF (.slice nA nn nc) (.slice nfA (stS t.1 x).2.1.length nfc) (.int .i64 (stS t.1 x).2.2.1) (.int .i64 (stS t.1 x).2.2.2) hp6,⟨rfl,sm7.box,fun b hb=>by have:=(hmlt b (.inl hb)).1;omega,sm7.fms.base (by omega),sm7.dis⟩,fun h=>by have:=(hmlt _ h).1;omega⟩
    ·show l.length - (((i+1:Nat):Int)).toNat<l.length - ((i:Int)).toNat
     omega
  ·have hpi:¬(i:Int)<(l.length:Int):=by omega
   have hie:l.take i=l:=JQ (by omega);rw [hie] at htE;have htEH:Hid _:=htE;clear htE hie;obtain⟨e0,e1,e2,e3⟩:=aa hpc;obtain⟨i0,i1,i2,i3⟩:=aa Hr;obtain⟨j0,j1,j2,j3⟩:=aI Hr
   go_wp2
   obtain⟨d0,d1,d2,d3⟩:=aa (aF (.slice A1 m1 c1) (.slice A2 m2 c2) (.int .i64 t.1.2.2.1) (.int .i64 t.1.2.2.2) Hr);refine bodyPost_ret (by simp [results,Try.results25,go_sem,d0,d1,d2,d3];try rfl) rfl ?_
   have hS8:=hSc.set4 (g:=w.heap.size+1) (.slice A1 m1 c1) (.slice A2 m2 c2) (.int .i64 t.1.2.2.1) (.int .i64 t.1.2.2.2) fun b hb=>by have:=(hSc.lt b hb).1;omega
   have eN:jY s l=(t.2:Int):=by rw [jY,if_pos hyH.out,htEH.out]
   have eS:jF s l=t.1:=by rw [jF,if_pos hyH.out,htEH.out]
   rw [eN,eS,hyH.out];exact⟨_,rfl,⟨_,_,_,hS8.val,hS8.box,fun b hb=>by have:=hS8.bge b hb;omega,hS8.fms.base (by omega),hS8.dis⟩,bt _ _ _ _ Br (by omega)⟩
set_option maxRecDepth 100000
theorem pd {α:Type} {f:α→D} (hf:∀x y,f x=f y→x=y):∀(l m:List α),l.map f=m.map f→l=m
 | [],[],_=>rfl
 | x::l,y::m,h=>by
  simp only [List.map_cons,Jy] at h;rw [hf _ _ h.1,pd hf l m h.2]
 | [],_::_,h=>by simp at h
 | _::_,[],h=>by simp at h
theorem Ik (x y:Int) (h:U x=U y):x=y:=by
 injection h with h;injection h
theorem Et {c d:Cur} (h:aV c=aV d):c=d:=by
 obtain⟨a1,a2,a3⟩:=c;obtain⟨b1,b2,b3⟩:=d;simp only [aV,iP,D.agg.injEq,Jy,D.arr.injEq,D.v.injEq,JE,and_true,true_and] at h;obtain⟨h1,h2,h3⟩:=h;have e1:=pd Ik _ _ h1;have e2:a2=b2:=by omega
 subst e1 e2 h3;rfl
theorem Ic (x y:ByteArray) (h:T x=T y):x=y:=by
 injection h with h;injection h
theorem HH (x y:Bx) (h:bx x=bx y):x=y:=by
 obtain⟨a,b,c,d⟩:=x;obtain⟨a',b',c',d'⟩:=y;simp only [D.agg.injEq,Jy,D.v.injEq,JE,Value.string.injEq,and_true,true_and] at h;obtain⟨rfl,rfl,rfl,rfl⟩:=h;rfl
theorem Ht (x y:Fm) (h:fm x=fm y):x=y:=by
 obtain⟨a,b,c,d⟩:=x;obtain⟨a',b',c',d'⟩:=y;simp only [D.agg.injEq,Jy,D.v.injEq,D.arr.injEq,JE,Value.bool.injEq,and_true,true_and] at h;obtain⟨rfl,h2,rfl,rfl⟩:=h;obtain rfl:=pd Ic _ _ h2;rfl
theorem EZ {x y:Sp} (h:sp x=sp y):x=y:=by
 obtain⟨a,b,c,d⟩:=x;obtain⟨a',b',c',d'⟩:=y;simp only [D.agg.injEq,Jy,D.v.injEq,D.arr.injEq,JE,and_true,true_and] at h;obtain⟨h1,h2,rfl,rfl⟩:=h;obtain rfl:=pd HH _ _ h1;obtain rfl:=pd Ht _ _ h2;rfl
theorem Cm (x y:Stp) (h:stp x=stp y):x=y:=by
 obtain⟨a,b,c,d⟩:=x;obtain⟨a',b',c',d'⟩:=y;simp only [D.agg.injEq,Jy,D.v.injEq,JE,Value.string.injEq,and_true,true_and] at h;obtain⟨rfl,rfl,rfl,rfl⟩:=h;rfl
theorem EK {l m:List Stp} (h:jC l=jC m):l=m:=by
 simp only [D.arr.injEq,true_and] at h;exact pd Cm _ _ h
open Classical in
def bY (ds:List D):Option Out:=if h:∃c:Cur,ds=[aV c]∧c.ok 100000 then some (.ret [sp (sh (Jt h)).2] [aV (sh (Jt h)).1]) else none
theorem EA {c:Cur} (h:c.ok 100000):bY [aV c]=some (.ret [sp (sh c).2] [aV (sh c).1]):=by
 have hx:∃d:Cur,[aV c]=[aV d]∧d.ok 100000:=⟨c,rfl,h⟩
 unfold bY;rw [dif_pos hx];have:=Jq hx;have e:=Et (JC this.1).1;rw [←e]
@[reducible] def fv:FS:={pm:=[.box 3 2 true],rm:=[.dat 1],f:=bY}
theorem gP:aM gl0 Try.prog 59 fv:=by
 refine kx (JB Try.func59 (by kernel_rfl) rfl) fun ds rs us hd args w F ow hg ha hF hO=>?_
 replace hd:bY ds=some (.ret rs us):=hd;have hc:∃c:Cur,ds=[aV c]∧c.ok 100000:=by
  unfold bY at hd;split at hd
  ·rename_i h
   exact h
  ·cases hd
 obtain⟨c,rfl,hok⟩:=hc;rw [EA hok] at hd;simp only [JM,Out.ret.injEq] at hd;obtain⟨rfl,rfl⟩:=hd;obtain⟨l⟩:=args
 match l,ha with
 | [y],⟨ha,_⟩ =>
  rcases ha with ha | ha
  ·cases ha
  obtain⟨l,us,q,e,h1,rfl,h3,h4,h5,h6,h7⟩:=ha;have hql:=(Array.getElem?_eq_some_iff.1 h3).1;have hFq:∀b,F b→b≠q:=fun b hb e=>by
   have:=(hF b hb).2;rw [e,h7] at this;cases this
  have hcv:es (fun b=>b<w.heap.size∧¬F b∧b≠q) w q (fun _=>False) (aV c):=⟨F,⟨l,us,q,e,h1,rfl,h3,h4,h5,h6,rfl⟩,fun b hb=>⟨(hF b hb).1,hFq b hb,fun h=>h,fun h=>h.2.1 hb⟩⟩
  refine(CZ c 100000 hok (by omega) w q (fun b hb=>hb.1) hcv).mono ?_
  rintro e' w' ⟨v,Vb,Vf,ys,rfl,hs,⟨F1,hb1,hF1⟩,hk⟩;have hlt:=hs.lt;refine⟨v,rfl,fun b=>F1 b∨ShS Vb Vf ys b∨F b,fun _=>none,[v],rfl,⟨hk.os,hk.tape,hk.output,hk.size,fun b hb hn=>hk.block b hb fun e=>?_,fun b hb=>.inr (.inr hb),fun b hb=>?_,(fun b j h=>by cases h),rfl,rfl,fun j=>?_,?_⟩⟩
  ·subst e
   have:(some 0:Option Nat)=none:=h7.symm.trans hn;cases this
  ·refine⟨?_,?_,rfl⟩
   ·rcases hb with hb | hb | hb
    ·obtain⟨g1,g2,g3,g4⟩:=hF1 b hb
     by_cases hlt:b<w.heap.size
     ·by_cases hfb:F b
      ·exact .inl hfb
      ·exact absurd ⟨hlt,hfb,g2⟩ g4
     ·exact .inr (by omega)
    ·exact .inr (hlt b hb).1
    ·exact .inl hb
   ·rcases hb with hb | hb | hb
    ·exact(hF1 b hb).1
    ·exact(hlt b hb).2
    ·exact Jx (hF b hb).1 hk.size
  ·match j with
   | 0=>exact .inr (aS (fun b hb=>⟨.inr (.inl hb),(hlt b hb).1⟩) (fun _ _=>rfl) hs.rep)
   | j+1=>exact .inl rfl
  ·refine⟨mv _,.inr (gC (F:=F1) (own:=fun g=>g=q) (fun b hb=>.inl hb) (fun _ _=>rfl) (fun g _ _=>⟨trivial,rfl⟩) hb1),trivial⟩
theorem xH {S:FS} {args:Array Value} {s:Sp} {fl:List Value} {v:Value} {w w':World} {F:Nat→Prop} {ow:Nat→Option Nat} (hv:nj w' w.heap.size v s) (hB:Below w.heap.size w w') (hF:∀b,F b→b<w.heap.size∧ow b=none)
  (hio:(S.pm.all fun k=>!lE k)=true) (hl:S.pm.length=args.size) (hrm:S.rm = .dat 1::fl.map fun _=>.dat 0) (hfl:∀x∈fl,flat x=true):∃F' R,CallPost S args (sp s::fl.map D.v) [] w F ow F' R (v::fl) w':=by
 obtain⟨Vb,Vf,ys,hs⟩:=hv;have hlt:=hs.lt;refine⟨fun b=>ShS Vb Vf ys b∨F b,fun _=>none,hB.os,hB.tape,hB.output,hB.size,fun b hb _=>hB.block b hb,fun b hb=>.inr hb,fun b hb=>⟨?_,?_,rfl⟩,(fun b j h=>by cases h),by rw [hrm];simp,by rw [hrm];simp,fun j=>?_,xL _ _ hio (by simpa using hl)⟩
 ·rcases hb with hb | hb
  ·exact .inr (hlt b hb).1
  ·exact .inl hb
 ·rcases hb with hb | hb
  ·exact(hlt b hb).2
  ·exact Jx (hF b hb).1 hB.size
 ·rw [hrm]
  match j with
  | 0=>exact .inr (aS (fun b hb=>⟨.inl hb,(hlt b hb).1⟩) (fun _ _=>rfl) hs.rep)
  | j+1 =>
   have key:∀(p:Nat→Prop) (fl:List Value) (j:Nat),(∀x∈fl,flat x=true)→xS w' (fun b=>ShS Vb Vf ys b∨F b) w.heap.size p (ao (fl.map fun _=>Kd.dat 0) j) (nth (fl.map D.v) j) (fl.getD j undef):=by
    intro p fl;induction fl with
    | nil=>exact fun j _=>.inl (by cases j<;>rfl)
    | cons x fl ih =>
     intro j hx;cases j with
     | zero=>exact .inr (eG.2 ⟨rfl,hx x (by simp)⟩)
     | succ j=>exact ih j fun y hy=>hx y (by simp [hy])
   exact key _ fl j hfl
open Classical in
def gM (ds:List D):Option Out:=if h:∃(s:Sp) (x:Stp),ds=[sp s,stp x]∧bH s∧x.2.2.1.size≤1048576 then some (.ret [sp (eD (Jt h) (Jt (Jq h))),B (dE (Jt h) (Jt (Jq h)))] []) else none
theorem kQ {s:Sp} {x:Stp} (hs:bH s) (hx:x.2.2.1.size≤1048576):gM [sp s,stp x]=some (.ret [sp (eD s x),B (dE s x)] []):=by
 have hh:∃(t:Sp) (y:Stp),[sp s,stp x]=[sp t,stp y]∧bH t∧y.2.2.1.size≤1048576:=⟨s,x,rfl,hs,hx⟩
 unfold gM;rw [dif_pos hh];have h2:=Jq (Jq hh);have e1:=EZ (JC h2.1).1;have e2:=Cm _ _ (JC (JC h2.1).2).1;rw [←e2,←e1]
open Classical in
def jk (ds:List D):Option Out:=if h:∃(s:Sp) (l:List Stp),ds=[sp s,jC l]∧bH s∧l.length≤1048576∧∀x∈l,x.2.2.1.size≤1048576 then some (.ret [sp (jF (Jt h) (Jt (Jq h))),I (jY (Jt h) (Jt (Jq h))),B (js (Jt h) (Jt (Jq h)))] []) else none
theorem qw {s:Sp} {l:List Stp} (hs:bH s) (hl:l.length≤1048576) (hx:∀x∈l,x.2.2.1.size≤1048576):jk [sp s,jC l]=some (.ret [sp (jF s l),I (jY s l),B (js s l)] []):=by
 have hh:∃(t:Sp) (m:List Stp),[sp s,jC l]=[sp t,jC m]∧bH t∧m.length≤1048576∧∀x∈m,x.2.2.1.size≤1048576:=⟨s,l,rfl,hs,hl,hx⟩
 unfold jk;rw [dif_pos hh];have h2:=Jq (Jq hh);have e1:=EZ (JC h2.1).1;have e2:=EK (JC (JC h2.1).2).1;rw [←e2,←e1]
theorem AG {w:World} {F:Nat→Prop} {ow:Nat→Option Nat} {k k':Nat} {d d':D} {args:Array Value} (h:dA w F ow 0 [.dat k,.dat k'] [d,d'] args.toList) (h1:d ≠ .bad) (h2:d' ≠ .bad):∃y y',args=#[y,y']∧aU w (FB F 0 k) d y∧aU w (FB F 0 k') d' y':=by
 obtain⟨l⟩:=args
 match l,h with
 | [y,y'],⟨ha,hb,_⟩=>exact⟨y,y',rfl,ha.resolve_left h1,hb.resolve_left h2⟩
theorem vy {f:Nat} (he:∀args w,(callFunc f args).run Try.prog w = .ok (.enter f args) w)
  (hw:∀(s:Sp),bH s→∀(x:Stp),x.2.2.1.size≤1048576→∀(v0:Value) (w:World) (F:Nat→Prop),aU w F (sp s) v0→(∀b,F b→b<w.heap.size)→Calls Try.prog f #[v0,stV x] w fun e w'=>∃v,e = .returned (.tuple #[v,.bool (dE s x)])∧nj w' w.heap.size v (eD s x)∧Below w.heap.size w w') :
  aM gl0 Try.prog f {pm:=[.dat 2,.dat 0],rm:=[.dat 1,.dat 0],f:=gM}:=by
 refine kx he fun ds rs us hd args w F ow hg ha hF hO=>?_
 replace hd:gM ds=some (.ret rs us):=hd;have hc:∃(s:Sp) (x:Stp),ds=[sp s,stp x]∧bH s∧x.2.2.1.size≤1048576:=by
  unfold gM at hd;split at hd
  ·rename_i h
   exact h
  ·cases hd
 obtain⟨s,x,rfl,hs,hx⟩:=hc;rw [kQ hs hx] at hd;simp only [JM,Out.ret.injEq] at hd;obtain⟨rfl,rfl⟩:=hd;obtain⟨y,y',rfl,h1,h2⟩:=AG ha (by simp) (by simp);obtain rfl:=Cg h2;refine(hw s hs x hx y w _ h1 fun b hb=>(hF b (dJ b hb)).1).mono ?_
 rintro e w' ⟨v,rfl,hv,hB⟩;obtain⟨F',R,hp⟩:=xH (S:={pm:=[.dat 2,.dat 0],rm:=[.dat 1,.dat 0],f:=gM}) (args:=#[y,stV x]) (fl:=[.bool (dE s x)]) hv hB hF rfl rfl rfl (by simp [flat]);exact⟨_,rfl,F',R,_,rfl,hp⟩
theorem xA {f:Nat} (he:∀args w,(callFunc f args).run Try.prog w = .ok (.enter f args) w)
  (hw:∀(s:Sp),bH s→∀(l:List Stp),l.length≤1048576→(∀x∈l,x.2.2.1.size≤1048576)→∀(v0 vl:Value) (w:World) (F F':Nat→Prop),aU w F (sp s) v0→aU w F' (jC l) vl→(∀b,F b→b<w.heap.size)→(∀b,F' b→b<w.heap.size)→Calls Try.prog f #[v0,vl] w fun e w'=>∃v,e = .returned (.tuple #[v,.int .i64 (jY s l),.bool (js s l)])∧nj w' w.heap.size v (jF s l)∧Below w.heap.size w w') :
  aM gl0 Try.prog f {pm:=[.dat 2,.dat 2],rm:=[.dat 1,.dat 0,.dat 0],f:=jk}:=by
 refine kx he fun ds rs us hd args w F ow hg ha hF hO=>?_
 replace hd:jk ds=some (.ret rs us):=hd;have hc:∃(s:Sp) (l:List Stp),ds=[sp s,jC l]∧bH s∧l.length≤1048576∧∀x∈l,x.2.2.1.size≤1048576:=by
  unfold jk at hd;split at hd
  ·rename_i h
   exact h
  ·cases hd
 obtain⟨s,l,rfl,hs,hl,hx⟩:=hc;rw [qw hs hl hx] at hd;simp only [JM,Out.ret.injEq] at hd;obtain⟨rfl,rfl⟩:=hd;obtain⟨y,y',rfl,h1,h2⟩:=AG ha (by simp) (by simp);refine(hw s hs l hl hx y y' w _ _ h1 h2 (fun b hb=>(hF b (dJ b hb)).1) fun b hb=>(hF b (dJ b hb)).1).mono ?_
 rintro e w' ⟨v,rfl,hv,hB⟩;obtain⟨F',R,hp⟩:=xH (S:={pm:=[.dat 2,.dat 2],rm:=[.dat 1,.dat 0,.dat 0],f:=jk}) (args:=#[y,y']) (fl:=[.int .i64 (jY s l),.bool (js s l)]) hv hB hF rfl rfl rfl (by simp [flat]);exact⟨_,rfl,F',R,_,rfl,hp⟩
def eZ:List D→Option Out:=gM
def jz:List D→Option Out:=gM
def kC:List D→Option Out:=jk
def ki:List D→Option Out:=jk
@[reducible] def nb:FS:={pm:=[.dat 2,.dat 0],rm:=[.dat 1,.dat 0],f:=eZ}
@[reducible] def na:FS:={pm:=[.dat 2,.dat 0],rm:=[.dat 1,.dat 0],f:=jz}
@[reducible] def nW:FS:={pm:=[.dat 2,.dat 2],rm:=[.dat 1,.dat 0,.dat 0],f:=kC}
@[reducible] def oK:FS:={pm:=[.dat 2,.dat 2],rm:=[.dat 1,.dat 0,.dat 0],f:=ki}
theorem tU:aM gl0 Try.prog 23 nb :=
 vy (JB Try.func23 (by kernel_rfl) rfl) fun s hs x hx v0 w F hr hF=>qb s hs x (by omega) v0 w F hr hF
theorem ua:aM gl0 Try.prog 21 na :=
 vy (JB Try.func21 (by kernel_rfl) rfl) fun s hs x hx v0 w F hr hF=>qR s hs x (by omega) v0 w F hr hF
theorem vY:aM gl0 Try.prog 27 nW :=
 xA (JB Try.func27 (by kernel_rfl) rfl) fun s hs l hl hx v0 vl w F F' hr hrl hF hF'=>sE s hs l (by omega) (fun x h=>by have:=hx x h;omega) v0 vl w F F' hr hrl hF hF'
theorem uu:aM gl0 Try.prog 25 oK :=
 xA (JB Try.func25 (by kernel_rfl) rfl) fun s hs l hl hx v0 vl w F F' hr hrl hF hF'=>rv s hs l (by omega) (fun x h=>by have:=hx x h;omega) v0 vl w F F' hr hrl hF hF'
end Go.Proofs.Ytkcojipciiakdaa

namespace Go.Proofs.Ytkcojipciiakdaa
open Go.V
set_option maxRecDepth 100000
@[reducible] def jN:Cx:={K:=[Yc,.no,.box 4 1 false,.box 4 0 false,Yr 7,Yc,Yc,.box 3 2 false,Yr 7,Yb,Yr 7,Y],T:=[(3,ty3),(9,ty9),(30,iB),(31,sP),(33,sS),(46,CA),(58,DS),(90,GL),(92,GC)],S:=[(59,fv),(60,fq)],H:=[],res:=[.cell 2 33,.cell 3 46],ios:=[],G:=gl0}
def ee:List D→Option Out:=cj jN Try.f30
@[reducible] def jH:FS:={pm:=[Yc],rm:=[Yb,Y],f:=ee}
theorem pi:aM gl0 Try.prog 30 jH:=aZ (c:=jN) (aj gP (aj fp aK)) Try.func30 rfl rfl (by kernel_rfl)
@[reducible] def oL:Cx:={K:=[Yc,.no,Y,Y,Y,.no,.box 4 0 false,Yc,Y,Y,Yc,Y,Y,Y,Yc,Y,Y,Yr 6,Y,Y,Y,Y],T:=[(3,ty3),(9,ty9),(30,iB),(112,fW)],S:=[(66,gi)],H:=[(0,([4,10,11,12],[4]))],res:=[.tmp 2,.tmp 3],ios:=[],G:=gl0}
def gU:List D→Option Out:=cj oL Try.f61
@[reducible] def nv:FS:={pm:=[Yc],rm:=[Y,Y],f:=gU}
theorem vN:aM gl0 Try.prog 61 nv:=aZ (c:=oL) (aj jd aK) Try.func61 rfl rfl (by kernel_rfl)
@[reducible] def km:Cx:={K:=[Yc,.box 4 2 false,Y,Y,Y,Y,.no,.box 4 2 false,Yc,Y,Y,.tup [Y,Y],Yr 1,Yc,.tup [Y,Y],Y,Y,Yr 1,Yc,Y,Y,Y,Yc,Yc,Y,Yr 7,Yc,Y,Y,Y,Y,Yr 1,Y,Y],T:=[(3,ty3),(4,ty4),(9,ty9),(30,iB),(31,sP),(33,sS),(73,lp),(75,wM),(112,fW)],S:=[(34,jh),(61,nv)],H:=[(0,([1,4,18,19,20],[1,4]))],res:=[.tmp 2,.tmp 3],ios:=[],G:=gl0}
def cE:List D→Option Out:=cj km Try.f31
@[reducible] def kt:FS:={pm:=[Yc],rm:=[Y,Y],f:=cE}
theorem qM:aM gl0 Try.prog 31 kt:=aZ (c:=km) (aj iW (aj vN aK)) Try.func31 rfl rfl (by kernel_rfl)
@[reducible] def sB:Cx:={K:=[Yc,.no,Y,Y,.no,.box 4 0 false,Yc,Y,Y,Y,Yc,Y,Y,Yr 5,Y,Y,Y,Y],T:=[(3,ty3),(9,ty9),(30,iB),(112,fW)],S:=[],H:=[(0,([3,6,7,8],[3]))],res:=[.tmp 2],ios:=[],G:=gl0}
def jZ:List D→Option Out:=cj sB Try.f62
@[reducible] def rN:FS:={pm:=[Yc],rm:=[Y],f:=jZ}
theorem yo:aM gl0 Try.prog 62 rN:=aZ (c:=sB) aK Try.func62 rfl rfl (by kernel_rfl)
@[reducible] def kl:Cx:={K:=[Yc,.box 4 2 false,Y,Y,Y,.no,.box 4 2 false,Yc,Y,Y,Yr 1,Yc,Y,Yr 1,Y,Y,Yr 1,Yc,Y,Y,Y,Yc,Yc,Y,Yr 6,Yc,Y,Y,Y,Y],T:=[(3,ty3),(4,ty4),(9,ty9),(30,iB),(31,sP),(33,sS),(73,lp),(75,wM),(112,fW)],S:=[(41,ly),(62,rN)],H:=[(0,([4,17,18,19],[4]))],res:=[.tmp 2,.tmp 3],ios:=[],G:=gl0}
def eP:List D→Option Out:=cj kl Try.f32
@[reducible] def kF:FS:={pm:=[Yc],rm:=[Y,Y],f:=eP}
theorem qI:aM gl0 Try.prog 32 kF:=aZ (c:=kl) (aj lD (aj yo aK)) Try.func32 rfl rfl (by kernel_rfl)
@[reducible] def qh:Cx:={K:=[Yc,Yc,.no,.no,Y,Y,Yc,Y,Yc,Y,Y,Yc,Y,Y,Y,Y,Yc,Y,Yc,Y,Yc,Y,Yc,Y,Y,Y],T:=[(3,ty3),(9,ty9),(30,iB),(112,fW)],S:=[],H:=[(0,([0,1,12,13],[]))],res:=[.tmp 4],ios:=[],G:=gl0}
def iZ:List D→Option Out:=cj qh Try.f63
@[reducible] def pD:FS:={pm:=[Yc,Yc],rm:=[Y],f:=iZ}
theorem xm:aM gl0 Try.prog 63 pD:=aZ (c:=qh) aK Try.func63 rfl rfl (by kernel_rfl)
@[reducible] def pJ:Cx:={K:=[Yc,Yc,.no,.no,Y,Y,Yc,Y,Yc,Y,Y,Yc,Y,Y,Y,Y,Yc,Y,Yc,Y,Yc,Y,Yc,Y,Y,Y],T:=[(3,ty3),(9,ty9),(73,lp)],S:=[],H:=[(0,([0,1,12,13],[]))],res:=[.tmp 4],ios:=[],G:=gl0}
def iX:List D→Option Out:=cj pJ Try.f64
@[reducible] def pW:FS:={pm:=[Yc,Yc],rm:=[Y],f:=iX}
theorem wW:aM gl0 Try.prog 64 pW:=aZ (c:=pJ) aK Try.func64 rfl rfl (by kernel_rfl)
@[reducible] def rz:Cx:={K:=[Yc,Yc,.box 4 2 false,.box 4 2 false,Y,Y,.box 4 2 false,.box 4 2 false,Yr 2,Yc,Yr 3,Yc,Y,Y,Y,Yr 2,Yc,Y,Yr 3,Yc,Y,Y,Y,Y,Yr 2,Y,Yr 3,Y,Y,Y,Y,Yr 2,Y,Yr 3,Y,Y,Y,Yr 2,Yc,Y,Y,Y,Y,Yc,Yc,Yr 3,Yc,Y,Yc,Yc,Yr 6,Y,Yr 7,Y,Y,Y,Yr 6,Yc,Yr 7,Yc,Y,Y,Y,Y,Yr 6,Y,Yr 7,Y,Y,Y,Y,Yr 6,Y,Yr 7,Y,Y,Y,Y],T:=[(3,ty3),(4,ty4),(9,ty9),(30,iB),(31,sP),(33,sS),(73,lp),(75,wM),(112,fW)],S:=[(63,pD),(64,pW)],H:=[(0,([3,38,39,40],[]))],res:=[.tmp 4],ios:=[],G:=gl0}
def ie:List D→Option Out:=cj rz Try.f33
@[reducible] def rf:FS:={pm:=[Yc,Yc],rm:=[Y],f:=ie}
theorem yP:aM gl0 Try.prog 33 rf:=aZ (c:=rz) (aj xm (aj wW aK)) Try.func33 rfl rfl (by kernel_rfl)
@[reducible] def kn:Cx:={K:=[Yc,.no,.box 4 1 false,Yo 4 0,Yr 10,.box 4 1 false,Yo 4 0,Y,Yc,Yc,.box 3 2 false,Yr 10,Yb,Yr 10,Y,Yr 10,Y,Yr 10,Y,Y,.via 6,Y,Y,Y,Yo 4 0,Yr 10,Y,Yb,Yo 4 0,Yb,Yo 4 0],T:=[(3,ty3),(30,iB),(31,sP),(33,sS),(46,CA),(53,Ig),(58,DS),(90,GL),(92,GC)],S:=[(59,fv),(60,fq),(68,bK),(69,iO)],H:=[(0,([2,4,5,6,7,10],[2,5,6]))],res:=[.cell 2 33,.tmp 3],ios:=[],G:=gl0}
def eL:List D→Option Out:=cj kn Try.f35
@[reducible] def kp:FS:={pm:=[Yc],rm:=[Yb,Yo 4 0],f:=eL}
theorem qY:aM gl0 Try.prog 35 kp:=aZ (c:=kn) (aj gP (aj fp (aj bL (aj iL aK)))) Try.func35 rfl rfl (by kernel_rfl)
@[reducible] def jL:Cx:={K:=[Yc,.no,.box 4 1 false,Y,Yr 7,Yc,Yc,.box 3 2 false,Yr 7,Yb,Yr 7,Y],T:=[(3,ty3),(30,iB),(31,sP),(33,sS),(58,DS),(90,GL),(92,GC)],S:=[(59,fv),(70,fL)],H:=[],res:=[.cell 2 33,.tmp 3],ios:=[],G:=gl0}
def ed:List D→Option Out:=cj jL Try.f36
@[reducible] def jI:FS:={pm:=[Yc],rm:=[Yb,Y],f:=ed}
theorem pq:aM gl0 Try.prog 36 jI:=aZ (c:=jL) (aj gP (aj jo aK)) Try.func36 rfl rfl (by kernel_rfl)
@[reducible] def mZ:Cx:={K:=[Yc,Y,.box 4 2 false,.no,Y,Y,Yb,Y,Yc,Y,Y,Y,Y,Y,Y,Y,.tup [Yo 1 0,Y],Yr 2,Yc,Y,.tup [Yo 1 0,Y],Yb,Y,Y,Y,.tup [Yo 4 0,Y],Yr 2,Yc,Yb,.tup [Yo 4 0,Y],Yb,Y,Y],T:=[(3,ty3),(30,iB),(31,sP),(33,sS),(112,fW)],S:=[(34,jh),(71,lu),(72,nB),(73,lU)],H:=[],res:=[.tmp 4,.tmp 5],ios:=[],G:=gl0}
def gu:List D→Option Out:=cj mZ Try.f37
@[reducible] def mY:FS:={pm:=[Yc,Y],rm:=[Y,Y],f:=gu}
theorem uf:aM gl0 Try.prog 37 mY:=aZ (c:=mZ) (aj iW (aj pM (aj nt (aj mr aK)))) Try.func37 rfl rfl (by kernel_rfl)
@[reducible] def mS:Cx:={K:=[Yc,Y,.box 4 2 false,.no,Y,Y,Yb,Y,Yb,Y,Yc,Y,Y,Y,Y,Y,Y,Y,.tup [Yo 1 0,Y],Yr 2,Yc,Y,.tup [Yo 1 0,Y],Yb,Y,Y,Y,.tup [Yo 4 0,Y],Yr 2,Yc,Yb,.tup [Yo 4 0,Y],Yb,Y,Y],T:=[(3,ty3),(30,iB),(31,sP),(33,sS),(112,fW)],S:=[(41,ly),(49,qo),(74,lF),(75,nI)],H:=[],res:=[.tmp 4,.tmp 5],ios:=[],G:=gl0}
def gr:List D→Option Out:=cj mS Try.f38
@[reducible] def mV:FS:={pm:=[Yc,Y],rm:=[Y,Y],f:=gr}
theorem tQ:aM gl0 Try.prog 38 mV:=aZ (c:=mS) (aj lD (aj pR (aj pC (aj nO aK)))) Try.func38 rfl rfl (by kernel_rfl)
@[reducible] def oz:Cx:={K:=[Yc,Yc,.no,.no,Y,.box 4 1 false,.box 4 0 false,.box 4 1 false,Y,.box 4 1 false,Y,Y,Y,Y,Y,Y,Y,.box 4 1 false,Yb,.box 4 1 false,Y,Y,.box 4 1 false,Y,Y,Y,Y,Y,Y,.box 4 1 false,Y,Y,Y,Y,Y,.box 4 1 false,Y,Yc,Y,Yc,Y,Y,Y,.tup [Yb,Y],Yc,.tup [Yb,Y],Yb,Y,.tup [Yb,Y],Yb,Y,.tup [Yb,Y],Yb,Y,.tup [Yb,Y],Yb,Y,.tup [Yb,Y],Yb,Y,.tup [Y,Y],Yb,.tup [Y,Y],Y,Y,.tup [Y,Y],Yb,.tup [Y,Y],Y,Y,Y,Y,Y,Y,Yb,Yb,Y,Y,Y,Y,Y,Y,Y,Y,Y,Y,Y,Y,Y,Y,Y,Yb,Y,Y,Y,Y,Y,Y,Y,Y,Y,Y,Y,.tup [Y,Y],Yb,.tup [Y,Y],Y,Y,Y,Y,Y,Y,Y,Y,Y,Y,Yb,Y,Y,Y,Y,Yr 9,Y,Yr 5,Y,Y,Y,Y,Yr 9,Y,Yr 5,Y,Y,Y,.tup [Yb,Yo 4 0],Yc,.tup [Yb,Yo 4 0],Yb,Yb,.tup [Yb,Y,Y],Yb,Yb,.tup [Yb,Y,Y],Yb,Y,Y,.tup [Yb,Y,Y],Yb,Yb,.tup [Yb,Y,Y],Yb,Y,Y,Y,Y,Y,Y,Yb,Yb,Y,Y,Y,Y,Y,Y,Y,Y,Y,.tup [Y,Y],Yb,.tup [Y,Y],Y,Y,.tup [Y,Y],Yb,.tup [Y,Y],Y,Y,Y,Y,Y,Y,Y,Y,Y,Y,Y,Y,Y,Y,Y,Yb,Y,Y,Y,.tup [Yb,Y],Yc,.tup [Yb,Y],Yb,Y,.tup [Y,Y],Yb,Y,.tup [Y,Y],Y,Y,.tup [Y,Y],Yb,Y,.tup [Y,Y],Y,Y,Y,Y,Y,Y,Y,Y,Y,Y,Y,Y,Yr 29,Yb,Y,Y,Y,.tup [Yb,Y],Yb,Y,Y,.tup [Yb,Y],Yb,Y,Y,Y,Y],T:=[(3,ty3),(4,ty4),(5,ty5),(9,ty9),(30,iB),(31,sP),(33,sS),(46,CA),(53,Ig),(58,DS),(75,wM)],S:=[(21,na),(23,nb),(25,oK),(27,nW),(30,jH),(31,kt),(32,kF),(33,rf),(34,jh),(35,kp),(36,jI),(37,mY),(38,mV)],H:=[],res:=[.tmp 4],ios:=[],G:=gl0}
@[reducible] def nM:List (Nat × List Nat):=[(511,[1]),(16383,[1])]
def iq:List D→Option Out:=tK oz nM Try.f7
@[reducible] def kG:FS:={pm:=[Yc,Yc],rm:=[Y],f:=iq}
theorem vD:aM gl0 Try.prog 7 kG:=Dm (J:=nM) (P:=Try.prog) (c:=oz) (fn:=Try.f7) (pm:=kG.pm) (rm:=kG.rm) (by kernel_rfl) (aj ua (aj tU (aj uu (aj vY (aj pi (aj qM (aj qI (aj yP (aj iW (aj qY (aj pq (aj uf (aj tQ aK))))))))))))) qa (by kernel_rfl) Try.func7 (by kernel_rfl) (by kernel_rfl) rfl
open Go Go.V
set_option maxRecDepth 100000
theorem pr (x0:D):ee [x0]=((jx [(0,1)] [.arr 1 [],I 0,.v (JH JZ 0)] [x0]).bind fun z=>(gT 3 z).bind fun y=>(ab y (.ref 0 0)).bind fun z=>(ab z z).bind fun c=>(cQ c y).bind fun i=>(ab i i).bind fun i=>aq (bY [i]) fun d e=>(ab z z).bind fun z=>(cQ z (sl e 0)).bind fun i=>(ab i i).bind fun i=>aq (bq [i]) fun f _=>(stD 4 (.agg [.arr 4 [],.arr 4 [],I 0,I 0]) (.ref 0 0) (sl d 0)).bind fun b=>(stD 4 (.agg [I 0,I 0,.v (.string ⟨⟨[]⟩⟩),I 0]) (.ref 0 0) (sl f 0)).bind fun g=>(bM true 4 0 b).bind fun y=>(bM true 4 0 g).bind fun h=>some (.ret [y,h] [])):=by kernel_rfl
theorem vM (x0:D):gU [x0]=(aq (dW [x0]) fun c _=>(un .not (sl c 0)).bind fun z=>ifD z (some (.ret [I 0,B false] [])) ((lenD false x0).bind fun z=>(bD (fun s=>(bin .lss false [] (sl s 3) (sl s 2)).bind fun z=>ifD z ((Jz D.ptr (bO 4 (sl s 1) (sl s 3))).bind fun z=>((ldD true 4 z).bind bw).bind fun z=>(stD 4 (.agg [.v (.string ⟨⟨[]⟩⟩),I 0,I 0,I 0]) (.ref 0 0) z).bind fun b=>(ab b (.ref 0 3)).bind fun z=>((atD b z).bind (an false 1)).bind fun z=>(bin .add false [] (sl s 0) z).bind fun z=>(bin .add false [] (sl s 3) (I 1)).bind fun d=>some (.nrm [z,sl s 1,sl s 2,d])) (some (.ext 0 [sl s 0]))) [I 0,x0,z,I 0]).bind fun o=>dH o (fun i s=>ifN (i.beq 0) (some (.ret [sl s 0,B true] [])) none) fun a b=>some (.ret a b))):=by kernel_rfl
theorem qJ (x0:D):cE [x0]=((gT 4 x0).bind fun y=>(bM true 4 0 y).bind fun z=>aq (dU [z]) fun c _=>(un .not (sl c 0)).bind fun z=>ifD z (some (.ret [I 0,B false] [])) ((ab y (.ref 0 0)).bind fun z=>((atD y z).bind (an false 1)).bind fun z=>aq (gU [z]) fun c _=>(bz (.tup c) 0).bind fun z=>(bz (.tup c) 1).bind fun _=>(ab y (.ref 0 1)).bind fun e=>((atD y e).bind (an false 1)).bind fun d=>(lenD false d).bind fun f=>(bD (fun s=>(bin .lss false [] (sl s 4) (sl s 3)).bind fun z=>ifD z ((Jz D.ptr (bO 4 (sl s 2) (sl s 4))).bind fun z=>(ldD true 4 z).bind fun z=>(stD 4 (.agg [I 0,.arr 1 [],B false,I 0]) (.ref 0 0) z).bind fun b=>(ab b (.ref 0 1)).bind fun z=>((atD b z).bind (an false 1)).bind fun z=>(lenD false z).bind fun z=>(bin .add false [] (sl s 1) z).bind fun z=>(bin .add false [] (sl s 4) (I 1)).bind fun g=>some (.nrm [sl s 0,z,sl s 2,sl s 3,g])) (some (.ext 0 [sl s 0,sl s 1]))) [y,z,d,f,I 0]).bind fun o=>dH o (fun i s=>ifN (i.beq 0) ((ab (sl s 0) (.ref 0 2)).bind fun z=>(((atD (sl s 0) z).bind (an false 1)).bind bw).bind fun z=>(bin .add false [] (sl s 1) z).bind fun z=>some (.ret [z,B true] [])) none) fun a b=>some (.ret a b))):=by kernel_rfl
theorem ym (x0:D):jZ [x0]=((lenD false x0).bind fun z=>(bD (fun s=>(bin .lss false [] (sl s 3) (sl s 2)).bind fun z=>ifD z ((Jz D.ptr (bO 4 (sl s 1) (sl s 3))).bind fun z=>((ldD true 4 z).bind bw).bind fun z=>(stD 4 (.agg [.v (.string ⟨⟨[]⟩⟩),I 0,I 0,I 0]) (.ref 0 0) z).bind fun b=>(ab b (.ref 0 3)).bind fun z=>((atD b z).bind (an false 1)).bind fun z=>(bin .add false [] (sl s 0) z).bind fun z=>(bin .add false [] (sl s 3) (I 1)).bind fun c=>some (.nrm [z,sl s 1,sl s 2,c])) (some (.ext 0 [sl s 0]))) [I 0,x0,z,I 0]).bind fun o=>dH o (fun i s=>ifN (i.beq 0) (some (.ret [sl s 0] [])) none) fun a b=>some (.ret a b)):=by kernel_rfl
theorem qN (x0:D):eP [x0]=((gT 4 x0).bind fun y=>(bM true 4 0 y).bind fun z=>aq (gn [z]) fun c _=>(un .not (sl c 0)).bind fun z=>ifD z (some (.ret [I 0,B false] [])) ((ab y (.ref 0 0)).bind fun z=>((atD y z).bind (an false 1)).bind fun z=>aq (jZ [z]) fun c _=>(ab y (.ref 0 2)).bind fun z=>(((atD y z).bind (an false 1)).bind bw).bind fun z=>(bin .add false [] (sl c 0) z).bind fun z=>(ab y (.ref 0 1)).bind fun e=>((atD y e).bind (an false 1)).bind fun d=>(lenD false d).bind fun f=>(bD (fun s=>(bin .lss false [] (sl s 3) (sl s 2)).bind fun z=>ifD z ((Jz D.ptr (bO 4 (sl s 1) (sl s 3))).bind fun z=>(ldD true 4 z).bind fun z=>(stD 4 (.agg [I 0,.arr 1 [],B false,I 0]) (.ref 0 0) z).bind fun b=>(ab b (.ref 0 1)).bind fun z=>((atD b z).bind (an false 1)).bind fun z=>(lenD false z).bind fun z=>(bin .add false [] (sl s 0) z).bind fun z=>(bin .add false [] (sl s 3) (I 1)).bind fun g=>some (.nrm [z,sl s 1,sl s 2,g])) (some (.ext 0 [sl s 0]))) [z,d,f,I 0]).bind fun o=>dH o (fun i s=>ifN (i.beq 0) (some (.ret [sl s 0,B true] [])) none) fun a b=>some (.ret a b))):=by kernel_rfl
theorem wU (x0 x1:D):iZ [x0,x1]=((lenD false x0).bind fun z=>(lenD false x1).bind fun c=>(bin .neq false [] z c).bind fun z=>ifD z (some (.ret [B false] [])) ((lenD false x0).bind fun z=>(bD (fun s=>(bin .lss false [] (sl s 3) (sl s 2)).bind fun z=>ifD z ((Jz D.ptr (bO 4 (sl s 0) (sl s 3))).bind fun z=>((ldD true 4 z).bind bw).bind fun z=>(Jz D.ptr (bO 4 (sl s 1) (sl s 3))).bind fun d=>((ldD true 4 d).bind bw).bind fun e=>(bin .neq false [3,1,1,1] z e).bind fun z=>ifD z (some (.ret [B false] [])) ((bin .add false [] (sl s 3) (I 1)).bind fun z=>some (.nrm [sl s 0,sl s 1,sl s 2,z]))) (some (.ext 0 []))) [x0,x1,z,I 0]).bind fun o=>dH o (fun i _=>ifN (i.beq 0) (some (.ret [B true] [])) none) fun a b=>some (.ret a b))):=by kernel_rfl
theorem wS (x0 x1:D):iX [x0,x1]=((lenD false x0).bind fun z=>(lenD false x1).bind fun c=>(bin .neq false [] z c).bind fun z=>ifD z (some (.ret [B false] [])) ((lenD false x0).bind fun z=>(bD (fun s=>(bin .lss false [] (sl s 3) (sl s 2)).bind fun z=>ifD z ((Jz D.ptr (bO 1 (sl s 0) (sl s 3))).bind fun z=>((ldD false 1 z).bind bw).bind fun z=>(Jz D.ptr (bO 1 (sl s 1) (sl s 3))).bind fun d=>((ldD false 1 d).bind bw).bind fun e=>(bin .neq false [] z e).bind fun z=>ifD z (some (.ret [B false] [])) ((bin .add false [] (sl s 3) (I 1)).bind fun z=>some (.nrm [sl s 0,sl s 1,sl s 2,z]))) (some (.ext 0 []))) [x0,x1,z,I 0]).bind fun o=>dH o (fun i _=>ifN (i.beq 0) (some (.ret [B true] [])) none) fun a b=>some (.ret a b))):=by kernel_rfl
theorem yi (x0 x1:D):ie [x0,x1]=((gT 4 x0).bind fun y=>(gT 4 x1).bind fun c=>(ab y (.ref 0 0)).bind fun z=>((atD y z).bind (an false 1)).bind fun z=>(ab c (.ref 0 0)).bind fun f=>((atD c f).bind (an false 1)).bind fun g=>aq (iZ [z,g]) fun e _=>(un .not (sl e 0)).bind fun z=>(af D.bad z false (ab y (.ref 0 1))).bind fun h=>(af (.tup []) z false ((atD y h).bind (an false 1))).bind fun j=>(af (.tup []) z false (lenD false j)).bind fun k=>(af D.bad z false (ab c (.ref 0 1))).bind fun l=>(af (.tup []) z false ((atD c l).bind (an false 1))).bind fun m=>(af (.tup []) z false (lenD false m)).bind fun n=>(af (.tup []) z false (bin .neq false [] k n)).bind fun p=>(aR z (B true) p).bind fun z=>(af D.bad z false (ab y (.ref 0 2))).bind fun q=>(af (.tup []) z false (((atD y q).bind (an false 1)).bind bw)).bind fun r=>(af D.bad z false (ab c (.ref 0 2))).bind fun t=>(af (.tup []) z false (((atD c t).bind (an false 1)).bind bw)).bind fun u=>(af (.tup []) z false (bin .neq false [] r u)).bind fun v=>(aR z (B true) v).bind fun z=>(af D.bad z false (ab y (.ref 0 3))).bind fun w=>(af (.tup []) z false (((atD y w).bind (an false 1)).bind bw)).bind fun za=>(af D.bad z false (ab c (.ref 0 3))).bind fun zb=>(af (.tup []) z false (((atD c zb).bind (an false 1)).bind bw)).bind fun zc=>(af (.tup []) z false (bin .neq false [] za zc)).bind fun zd=>(aR z (B true) zd).bind fun z=>ifD z (some (.ret [B false] [])) ((ab y (.ref 0 1)).bind fun z=>((atD y z).bind (an false 1)).bind fun z=>(lenD false z).bind fun ze=>(bD (fun s=>(bin .lss false [] (sl s 3) (sl s 2)).bind fun z=>ifD z ((Jz D.ptr (bO 4 (sl s 1) (sl s 3))).bind fun z=>(ldD true 4 z).bind fun z=>(stD 4 (.agg [I 0,.arr 1 [],B false,I 0]) (.ref 0 0) z).bind fun b=>(ab (sl s 0) (.ref 0 1)).bind fun z=>((atD (sl s 0) z).bind (an false 1)).bind fun z=>(Jz D.ptr (bO 4 z (sl s 3))).bind fun z=>(ldD true 4 z).bind fun z=>(stD 4 (.agg [I 0,.arr 1 [],B false,I 0]) (.ref 0 0) z).bind fun d=>(ab b (.ref 0 0)).bind fun z=>(((atD b z).bind (an false 1)).bind bw).bind fun z=>(ab d (.ref 0 0)).bind fun zf=>(((atD d zf).bind (an false 1)).bind bw).bind fun zg=>(bin .neq false [] z zg).bind fun z=>(af D.bad z false (ab b (.ref 0 1))).bind fun zh=>(af (.tup []) z false ((atD b zh).bind (an false 1))).bind fun zi=>(af D.bad z false (ab d (.ref 0 1))).bind fun zj=>(af (.tup []) z false ((atD d zj).bind (an false 1))).bind fun zk=>dD z false (aq (iX [zi,zk]) fun e _=>some (.nrm [sl e 0])) [.tup []] fun zl=>(af (.tup []) z false (un .not (sl zl 0))).bind fun zm=>(aR z (B true) zm).bind fun z=>(af D.bad z false (ab b (.ref 0 2))).bind fun zn=>(af (.tup []) z false (((atD b zn).bind (an false 1)).bind bw)).bind fun zo=>(af D.bad z false (ab d (.ref 0 2))).bind fun zp=>(af (.tup []) z false (((atD d zp).bind (an false 1)).bind bw)).bind fun zq=>(af (.tup []) z false (bin .neq true [] zo zq)).bind fun zr=>(aR z (B true) zr).bind fun z=>(af D.bad z false (ab b (.ref 0 3))).bind fun zs=>(af (.tup []) z false (((atD b zs).bind (an false 1)).bind bw)).bind fun zt=>(af D.bad z false (ab d (.ref 0 3))).bind fun zu=>(af (.tup []) z false (((atD d zu).bind (an false 1)).bind bw)).bind fun zv=>(af (.tup []) z false (bin .neq false [] zt zv)).bind fun zw=>(aR z (B true) zw).bind fun z=>ifD z (some (.ret [B false] [])) ((bin .add false [] (sl s 3) (I 1)).bind fun z=>some (.nrm [sl s 0,sl s 1,sl s 2,z]))) (some (.ext 0 []))) [c,z,ze,I 0]).bind fun o=>dH o (fun i _=>ifN (i.beq 0) (some (.ret [B true] [])) none) fun a b=>some (.ret a b))):=by kernel_rfl
theorem qu (x0:D):eL [x0]=((jx [(0,1)] [.arr 1 [],I 0,.v (JH JZ 0)] [x0]).bind fun z=>(gT 3 z).bind fun y=>(ab y (.ref 0 0)).bind fun z=>(ab z z).bind fun e=>(cQ e y).bind fun i=>(ab i i).bind fun i=>aq (bY [i]) fun d c=>(stD 4 (.agg [.arr 4 [],.arr 4 [],I 0,I 0]) (.ref 0 0) (sl d 0)).bind fun b=>(ab z z).bind fun f=>(cQ f (sl c 0)).bind fun i=>(ab i i).bind fun i=>aq (aB [i,I 14]) fun d c=>(ab z z).bind fun g=>(cQ g (sl c 0)).bind fun i=>(ab i i).bind fun i=>aq (ci [i,I 12]) fun h c=>ifD (sl h 0) ((ab z z).bind fun j=>(cQ j (sl c 0)).bind fun i=>(ab i i).bind fun i=>aq (aB [i,I 2]) fun d c=>(bin .add false [] (I 40) (sl d 0)).bind fun k=>(bD (fun s=>(ab (sl s 3) (.ref 0 0)).bind fun z=>((ab z (sl s 3)).bind (lenD false)).bind fun z=>(bin .lss false [] z (sl s 4)).bind fun z=>ifD z ((ab (sl s 1) (sl s 1)).bind fun z=>(cQ z (sl s 5)).bind fun i=>(ab i i).bind fun i=>aq (bq [i]) fun d c=>(bC 4 [sl d 0]).bind fun a=>(iE a).bind fun b=>(gx 4 40 (sl s 3) b).bind fun y=>some (.nrm [sl s 0,sl s 1,sl s 2,y,sl s 4,sl c 0])) (some (.ext 0 [sl s 0,sl s 2,sl s 3]))) [.agg [.arr 4 [],.arr 4 [],I 0,I 0],z,b,.arr 4 [],k,sl c 0]).bind fun o=>dH o (fun i s=>ifN (i.beq 0) ((bM true 4 0 (sl s 1)).bind fun z=>(stD 4 (sl s 0) (.ref 0 0) z).bind fun b=>(bM true 4 0 b).bind fun y=>some (.ret [y,sl s 2] [])) none) fun a b=>some (.ret a b)) ((bD (fun s=>(ab (sl s 3) (.ref 0 0)).bind fun z=>((ab z (sl s 3)).bind (lenD false)).bind fun z=>(bin .lss false [] z (sl s 4)).bind fun z=>ifD z ((ab (sl s 1) (sl s 1)).bind fun z=>(cQ z (sl s 5)).bind fun i=>(ab i i).bind fun i=>aq (bq [i]) fun d c=>(bC 4 [sl d 0]).bind fun a=>(iE a).bind fun b=>(gx 4 40 (sl s 3) b).bind fun y=>some (.nrm [sl s 0,sl s 1,sl s 2,y,sl s 4,sl c 0])) (some (.ext 0 [sl s 0,sl s 2,sl s 3]))) [.agg [.arr 4 [],.arr 4 [],I 0,I 0],z,b,.arr 4 [],sl d 0,sl c 0]).bind fun o=>dH o (fun i s=>ifN (i.beq 0) ((bM true 4 0 (sl s 1)).bind fun z=>(stD 4 (sl s 0) (.ref 0 0) z).bind fun b=>(bM true 4 0 b).bind fun y=>some (.ret [y,sl s 2] [])) none) fun a b=>some (.ret a b))):=by kernel_rfl
theorem pl (x0:D):ed [x0]=((jx [(0,1)] [.arr 1 [],I 0,.v (JH JZ 0)] [x0]).bind fun z=>(gT 3 z).bind fun y=>(ab y (.ref 0 0)).bind fun z=>(ab z z).bind fun c=>(cQ c y).bind fun i=>(ab i i).bind fun i=>aq (bY [i]) fun d e=>(ab z z).bind fun z=>(cQ z (sl e 0)).bind fun i=>(ab i i).bind fun i=>aq (bN [i]) fun f _=>(stD 4 (.agg [.arr 4 [],.arr 4 [],I 0,I 0]) (.ref 0 0) (sl d 0)).bind fun b=>(bM true 4 0 b).bind fun y=>some (.ret [y,sl f 0] [])):=by kernel_rfl
theorem ue (x0 x1:D):gu [x0,x1]=((gT 4 x0).bind fun y=>(bM true 4 0 y).bind fun z=>aq (dU [z]) fun c _=>(un .not (sl c 0)).bind fun z=>(af (.tup []) z false (some x1)).bind fun d=>dD z false (aq (gj [d]) fun c _=>some (.nrm [sl c 0])) [.tup []] fun e=>(af (.tup []) z false (un .not (sl e 0))).bind fun f=>(aR z (B true) f).bind fun z=>ifD z (some (.ret [B false,B false] [])) ((ab y (.ref 0 0)).bind fun z=>((atD y z).bind (an false 1)).bind fun z=>aq (fM [z,x1]) fun c _=>(bz (.tup c) 0).bind fun g=>(bz (lB (.tup c) 0) 1).bind fun z=>(un .not z).bind fun z=>ifD z (some (.ret [B false,B true] [])) ((ab y (.ref 0 0)).bind fun z=>((atD y z).bind (an false 1)).bind fun z=>aq (fS [z,g]) fun c _=>(bz (.tup c) 0).bind fun _=>(bz (lB (.tup c) 0) 1).bind fun z=>some (.ret [z,B true] [])))):=by kernel_rfl
theorem tP (x0 x1:D):gr [x0,x1]=((gT 4 x0).bind fun y=>(bM true 4 0 y).bind fun z=>aq (gn [z]) fun c _=>(un .not (sl c 0)).bind fun z=>(af (.tup []) z false (some x1)).bind fun d=>dD z false (aq (gb [d]) fun c _=>some (.nrm [sl c 0])) [.tup []] fun e=>(af (.tup []) z false (un .not (sl e 0))).bind fun f=>(aR z (B true) f).bind fun z=>ifD z (some (.ret [B false,B false] [])) ((ab y (.ref 0 0)).bind fun z=>((atD y z).bind (an false 1)).bind fun z=>aq (fH [z,x1]) fun c _=>(bz (.tup c) 0).bind fun g=>(bz (lB (.tup c) 0) 1).bind fun z=>(un .not z).bind fun z=>ifD z (some (.ret [B false,B true] [])) ((ab y (.ref 0 0)).bind fun z=>((atD y z).bind (an false 1)).bind fun z=>aq (iU [z,g,I (-1)]) fun c _=>(bz (.tup c) 0).bind fun _=>(bz (lB (.tup c) 0) 1).bind fun z=>some (.ret [z,B true] [])))):=by kernel_rfl
theorem uT (x0 x1:D):iq [x0,x1]=((lenD false x0).bind fun z=>(lenD false x1).bind fun zp=>(bin .add false [] z zp).bind fun z=>(bin .gtr false [] z (I 1048576)).bind fun z=>ifD z (some (.ret [B true] [])) (aq (ee [x0]) fun c _=>(bz (.tup c) 0).bind fun z=>(bz (.tup c) 1).bind fun zq=>(stD 4 (.agg [.arr 4 [],.arr 4 [],I 0,I 0]) (.ref 0 0) z).bind fun b=>(stD 4 (.agg [I 0,I 0,.v (.string ⟨⟨[]⟩⟩),I 0]) (.ref 0 0) zq).bind fun zm=>(bM true 4 0 b).bind fun z=>(bM true 4 0 zm).bind fun zr=>aq (eZ [z,zr]) fun c _=>(bz (.tup c) 0).bind fun z=>(bz (.tup c) 1).bind fun v=>(stD 4 (.agg [.arr 4 [],.arr 4 [],I 0,I 0]) (.ref 0 0) z).bind fun w=>(bM true 4 0 b).bind fun z=>(bM true 4 0 zm).bind fun zs=>aq (jz [z,zs]) fun c _=>(bz (.tup c) 0).bind fun z=>(bz (.tup c) 1).bind fun zt=>(stD 4 (.agg [.arr 4 [],.arr 4 [],I 0,I 0]) (.ref 0 0) z).bind fun n=>(bM true 4 0 b).bind fun z=>aq (cE [z]) fun c _=>(bz (.tup c) 0).bind fun z=>(bz (.tup c) 1).bind fun za=>(bM true 4 0 b).bind fun zu=>aq (eP [zu]) fun c _=>(bz (.tup c) 0).bind fun zn=>(bz (.tup c) 1).bind fun zv=>(bin .neq true [] v zt).bind fun p=>(af (.tup []) p false (bM true 4 0 w)).bind fun zw=>(af (.tup []) p false (bM true 4 0 n)).bind fun z_13=>dD p false (aq (ie [zw,z_13]) fun c _=>some (.nrm [sl c 0])) [.tup []] fun e=>(af (.tup []) p false (un .not (sl e 0))).bind fun z_14=>(aR p (B true) z_14).bind fun r=>(af (.tup []) r false (some za)).bind fun z_16=>(af (.tup []) r false (some zv)).bind fun z_17=>(af (.tup []) r false (bin .neq true [] z_16 z_17)).bind fun z_18=>(aR r (B true) z_18).bind fun t=>(af (.tup []) t false (some z)).bind fun z=>(af (.tup []) t false (some zn)).bind fun z_20=>(af (.tup []) t false (bin .neq false [] z z_20)).bind fun z=>(aR t (B true) z).bind fun z=>(af (.tup []) z false (some za)).bind fun z_21=>(af (.tup []) z false (bM true 4 0 b)).bind fun z_22=>dD z false (aq (dU [z_22]) fun c _=>some (.nrm [sl c 0])) [.tup []] fun e=>(af (.tup []) z false (bin .neq true [] z_21 (sl e 0))).bind fun z_23=>(aR z (B true) z_23).bind fun z=>(af (.tup []) z false (some v)).bind fun z_24=>(af (.tup []) z false (some z_24)).bind fun zb=>(af (.tup []) zb true (some za)).bind fun z_26=>(af (.tup []) zb true (un .not z_26)).bind fun z_27=>(af (.tup []) z false (aR zb z_27 (B false))).bind fun z_28=>(aR z (B true) z_28).bind fun z=>ifD z (some (.ret [B false] [])) (Ar (fun j=>ifD v ((bM true 4 0 w).bind fun z=>aq (cE [z]) fun c _=>(bz (.tup c) 0).bind fun z=>(bz (.tup c) 1).bind fun zc=>(un .not zc).bind fun f=>(af (.tup []) f false (some z)).bind fun z=>(af (.tup []) f false (some zn)).bind fun u=>(af (.tup []) f false (bin .neq false [] z u)).bind fun z=>(aR f (B true) z).bind fun z=>(af (.tup []) z false (bM true 4 0 w)).bind fun zd=>dD z false (aq (dU [zd]) fun c _=>some (.nrm [sl c 0])) [.tup []] fun e=>(af (.tup []) z false (un .not (sl e 0))).bind fun ze=>(aR z (B true) ze).bind fun z=>(af D.bad z false (ab n (.ref 0 2))).bind fun zf=>(af (.tup []) z false (((atD n zf).bind (an false 1)).bind bw)).bind fun zg=>(af D.bad z false (ab b (.ref 0 2))).bind fun zh=>(af (.tup []) z false (((atD b zh).bind (an false 1)).bind bw)).bind fun zi=>(af (.tup []) z false (bin .lss false [] zg zi)).bind fun zj=>(aR z (B true) zj).bind fun z=>(af D.bad z false (ab n (.ref 0 3))).bind fun g=>(af (.tup []) z false (((atD n g).bind (an false 1)).bind bw)).bind fun d=>(af D.bad z false (ab b (.ref 0 3))).bind fun q=>(af (.tup []) z false (((atD b q).bind (an false 1)).bind bw)).bind fun k=>(af (.tup []) z false (bin .lss false [] d k)).bind fun h=>(aR z (B true) h).bind fun z=>ifD z (some (.ret [B false] [])) (j [x1])) (j [x1])) fun s=>aq (eL [sl s 0]) fun c _=>(bz (.tup c) 0).bind fun z=>(bz (.tup c) 1).bind fun y=>(stD 4 (.agg [.arr 4 [],.arr 4 [],I 0,I 0]) (.ref 0 0) z).bind fun b=>(bM true 4 0 b).bind fun z=>aq (kC [z,y]) fun c _=>(bz (.tup c) 0).bind fun z=>(bz (.tup c) 1).bind fun zc=>(bz (.tup c) 2).bind fun f=>(stD 4 (.agg [.arr 4 [],.arr 4 [],I 0,I 0]) (.ref 0 0) z).bind fun zo=>(bM true 4 0 b).bind fun z=>aq (ki [z,y]) fun c _=>(bz (.tup c) 0).bind fun z=>(bz (.tup c) 1).bind fun u=>(bz (.tup c) 2).bind fun zd=>(stD 4 (.agg [.arr 4 [],.arr 4 [],I 0,I 0]) (.ref 0 0) z).bind fun b_5=>(bin .neq true [] f zd).bind fun z=>(af (.tup []) z false (bM true 4 0 zo)).bind fun ze=>(af (.tup []) z false (bM true 4 0 b_5)).bind fun zf=>dD z false (aq (ie [ze,zf]) fun c _=>some (.nrm [sl c 0])) [.tup []] fun e=>(af (.tup []) z false (un .not (sl e 0))).bind fun zg=>(aR z (B true) zg).bind fun z=>(af (.tup []) z false (some zc)).bind fun zh=>(af (.tup []) z false (some u)).bind fun zi=>(af (.tup []) z false (bin .neq false [] zh zi)).bind fun zj=>(aR z (B true) zj).bind fun z=>ifD z (some (.ret [B false] [])) (Ar (fun j=>ifD f ((bM true 4 0 b).bind fun z=>aq (cE [z]) fun c _=>(bz (.tup c) 0).bind fun z=>(bz (.tup c) 1).bind fun g=>(bM true 4 0 zo).bind fun d=>aq (cE [d]) fun c _=>(bz (.tup c) 0).bind fun q=>(bz (.tup c) 1).bind fun k=>(un .not g).bind fun h=>(af (.tup []) h false (some k)).bind fun l=>(af (.tup []) h false (un .not l)).bind fun zk=>(aR h (B true) zk).bind fun m=>(af (.tup []) m false (some z)).bind fun z=>(af (.tup []) m false (some q)).bind fun zl=>(af (.tup []) m false (bin .neq false [] z zl)).bind fun z=>(aR m (B true) z).bind fun z=>(af (.tup []) z false (some u)).bind fun z_48=>(af (.tup []) z false (some y)).bind fun z_49=>(af (.tup []) z false (lenD false z_49)).bind fun z_50=>(af (.tup []) z false (bin .gtr false [] z_48 z_50)).bind fun z_51=>(aR z (B true) z_51).bind fun z=>ifD z (some (.ret [B false] [])) (j [sl s 0])) (j [sl s 0])) fun s=>aq (ed [sl s 0]) fun c _=>(bz (.tup c) 0).bind fun z=>(bz (.tup c) 1).bind fun g=>(stD 4 (.agg [.arr 4 [],.arr 4 [],I 0,I 0]) (.ref 0 0) z).bind fun b=>(bM true 4 0 b).bind fun z=>aq (gu [z,g]) fun c _=>(bz (.tup c) 0).bind fun z=>(bz (.tup c) 1).bind fun d=>(bM true 4 0 b).bind fun q=>aq (gr [q,g]) fun c _=>(bz (.tup c) 0).bind fun k=>(bz (.tup c) 1).bind fun h=>(bin .neq true [] d h).bind fun l=>(af (.tup []) l false (some z)).bind fun z=>(af (.tup []) l false (some k)).bind fun zk=>(af (.tup []) l false (bin .neq true [] z zk)).bind fun z=>(aR l (B true) z).bind fun z=>ifD z (some (.ret [B false] [])) ((af D.bad d true (ab b (.ref 0 1))).bind fun z=>(af (.tup []) d true ((atD b z).bind (an false 1))).bind fun z=>(af (.tup []) d true (lenD false z)).bind fun z=>(af (.tup []) d true (bin .eql false [] z (I 0))).bind fun z=>(aR d z (B false)).bind fun z=>ifD z ((bM true 4 0 b).bind fun z=>(jx [(0,1),(1,1),(2,1)] [I 0,I 0,.v (.string ⟨⟨[]⟩⟩),I 0] [I 1,I 1,g]).bind fun m=>aq (eZ [z,m]) fun c _=>(bz (.tup c) 0).bind fun z=>(bz (.tup c) 1).bind fun zl=>(stD 4 (.agg [.arr 4 [],.arr 4 [],I 0,I 0]) (.ref 0 0) z).bind fun _=>(bin .eql true [] zl k).bind fun z=>some (.ret [z] [])) (some (.ret [B true] []))))))):=by kernel_rfl
open Go Go.Proofs Go.V Go.RowKit
set_option maxRecDepth 100000
theorem tC (x:Bx) (l:List Bx):cR (x::l)=x.2.2.2+cR l:=by simp [cR]
theorem oN (x:Fm) (l:List Fm):kH (x::l)=(x.2.1.length:Int)+kH l:=by simp [kH]
theorem sC (l m:List Fm):kH (l++m)=kH l+kH m:=by simp [kH]
theorem wm:∀(l:List Bx) (i:Nat) (x:Bx) (h:i<l.length),cR (l.set i x)=cR l - l[i].2.2.2+x.2.2.2
 | y::l,0,x,_=>by
  simp only [Jj,tC,List.getElem_cons_zero];omega
 | y::l,i+1,x,h=>by
  have ih:=wm l i x (by simpa using h);simp only [Jk,tC,JR];omega
theorem wj:∀(l:List Fm) (i:Nat) (x:Fm) (h:i<l.length),kH (l.set i x)=kH l - (l[i].2.1.length:Int)+(x.2.1.length:Int)
 | y::l,0,x,_=>by
  simp only [Jj,oN,List.getElem_cons_zero];omega
 | y::l,i+1,x,h=>by
  have ih:=wj l i x (by simpa using h);simp only [Jk,oN,JR];omega
def Bd (n:Nat) (l:List Bx):Prop:=∀x∈l,-(n:Int)≤x.2.2.2∧x.2.2.2≤n
theorem Bw {cs:List ByteArray} {by_:Int} (hby:by_=1∨by_ = -1) {l:List Bx} {c:ByteArray} {n:Nat} (hb:Bd n l) (hn:n≤1000000000) (hc:∃k:Nat,fC cs c=k∧k<l.length):cR (tc cs by_ l c)=cR l+by_∧Bd (n+1) (tc cs by_ l c)∧(tc cs by_ l c).length=l.length:=by
 obtain⟨k,hk,hl⟩:=hc;have h1:=hb l[k] (JG hl);have e:l.getD k (ByteArray.empty,0,0,0)=l[k]:=by simp [hl]
 have hw:Js.wrap (l[k].2.2.2+by_)=l[k].2.2.2+by_:=ay (by omega) (by omega);unfold tc;rw [hk,JL,e,hw];refine⟨?_,fun x hx=>?_,by simp⟩
 ·rw [wm l k _ hl]
  show cR l - l[k].2.2.2+(l[k].2.2.2+by_)=_
  omega
 ·rcases List.mem_or_eq_of_mem_set hx with h | rfl
  ·have:=hb x h
   omega
  ·show -((n+1:Nat):Int)≤l[k].2.2.2+by_∧l[k].2.2.2+by_≤((n+1:Nat):Int)
   omega
theorem nG {cs:List ByteArray} {by_:Int} (hby:by_=1∨by_ = -1):∀(codes:List ByteArray) (l:List Bx) (n:Nat),Bd n l→n+codes.length≤1000000000→(∀c∈codes,∃k:Nat,fC cs c=k∧k<l.length)→cR (bj cs by_ l codes)=cR l+by_*codes.length
 | [],l,n,_,_,_=>by simp [bj]
 | c::codes,l,n,hb,hn,hc=>by
  simp only [Ka] at hn;obtain⟨h1,h2,h3⟩:=Bw hby hb (by omega) (hc c (by simp));have ih:=nG hby codes (tc cs by_ l c) (n+1) h2 (by omega) fun d hd=>by rw [h3];exact hc d (by simp [hd])
  show cR (bj cs by_ (tc cs by_ l c) codes)=_
  rw [ih,h1];rcases hby with rfl | rfl<;>simp<;>omega
theorem BW {l:List Bx} (h:bg l=true):Bd 9999 l:=fun x hx=>by
 obtain⟨_,hc⟩:=iv h;have:=hc x hx;omega
theorem EM (l:List Fm) (n:Int):kH (dh l n)=kH l:=by
 unfold dh;split
 ·rfl
 ·have:=congrArg kH (JS (atF l n) l)
  rw [sC] at this;rw [sC,oN];simp only [List.length_nil];omega
theorem Fe {l:List Fm} {i:Nat} (h:i<l.length) (cs:List ByteArray):kH (zD l i cs)=kH l+cs.length:=by
 unfold zD;rw [JA h];simp only;rw [wj l i _ h];simp only [List.length_append];omega
theorem Ao {s:Sp} {x:Stp} (hs:bH s) (hok:aD s=true) (h:fe s x=true):eR (stS s x)=eR s∧s.2.2.1≤(stS s x).2.2.1∧s.2.2.2≤(stS s x).2.2.2:=by
 have hnew:=(Ca hs hok h).2;rw [vI h] at hnew ⊢;unfold eR;rw [if_pos hnew,if_pos hok];clear hnew;unfold fe at h;simp only [Jp] at h;obtain⟨⟨hx,hr⟩,-⟩:=h;obtain⟨hfm,hgc,hl5,hlost⟩:=bp hok;have hk:=qO hx;unfold iw at hr;unfold gN;by_cases h1:x.1=1
 ·rw [if_pos h1] at hr ⊢
  unfold iD at hr;simp only [Jp] at hr;obtain⟨hwl,hwc⟩:=iI hgc hr.1.1;have hu:=rW hx h1;have hc:=nG (cs:=aL s.1) (by_:=-1) (.inr rfl) (bP s.1 x.2.2.1) s.1 9999 (BW hgc) (by omega) hwc;unfold vq;simp only;rw [hc,Fe (Bl _ _),EM];refine⟨by omega,by omega,by omega⟩
 ·rw [if_neg h1] at hr ⊢
  simp only [Jp] at hr;obtain⟨hi,-⟩:=jW hr.1;have hr2:=hr.2;unfold dk at hr2;unfold fP;rw [JA hi] at hr2 ⊢;simp only at hr2 ⊢;have hset:=dI (hfm _ hi);have hin:=yN (hfm _ hi);generalize hf:s.2.1[atF s.2.1 x.2.1]=f at *;have hsx:=fun y=>wj s.2.1 (atF s.2.1 x.2.1) y hi
  rw [hf] at hsx;by_cases h2:x.1=2
  ·rw [if_pos h2]
   simp only;rw [hsx];simp only;refine⟨by omega,by omega,by omega⟩
  rw [if_neg h2] at hr2 ⊢;by_cases h3:x.1=3
  ·rw [if_pos h3]
   have:=ya hx h3;simp only;rw [hsx];simp only;refine⟨by omega,by omega,by omega⟩
  rw [if_neg h3] at hr2 ⊢;by_cases h4:x.1=4
  ·rw [if_pos h4]
   simp only;rw [hsx];simp only;refine⟨by omega,by omega,by omega⟩
  rw [if_neg h4] at hr2 ⊢;by_cases h5:x.1=5
  ·rw [if_pos h5] at hr2 ⊢
   simp only [Jp,JY,decide_eq_false_iff_not] at hr2;simp only;rw [hsx];simp only [JN];refine⟨by omega,by omega,by omega⟩
  ·rw [if_neg h5]
   have hc:=nG (cs:=aL s.1) (by_:=1) (.inl rfl) f.2.1 s.1 9999 (BW hgc) (by omega) hin;have hsp:=congrArg kH (JS (atF s.2.1 x.2.1) s.2.1);rw [List.drop_eq_getElem_cons hi,hf,sC,oN] at hsp;simp only;rw [hc,sC];refine⟨by omega,by omega,by omega⟩
theorem vH:∀(l:List Stp) (a:Sp × Nat),bH a.1∧aD a.1=true→eR (l.foldl mD a).1=eR a.1
 | [],a,_=>rfl
 | x::l,a,h=>by
  rw [Kb,vH l (mD a x) (Cc h)];unfold mD;split
  ·rename_i hst
   exact(Ao h.1 h.2 hst).1
  ·rfl
theorem CW {s:Sp} (hs:bH s) (hok:aD s=true) (l:List Stp):eR (run s l).1=eR s:=vH l (s,0) ⟨hs,hok⟩
set_option maxRecDepth 100000
theorem GP {s:Sp} (hs:bH s) (hok:aD s=true) (h0:s.2.1=[]) {w:ByteArray} (hw:cZ w 1 16=true):dE s (1,1,w,0)=(kJ s.1 w&&bg (bj (aL s.1) (-1) s.1 (bP s.1 w))):=by
 obtain⟨bx,fs,lo,sh⟩:=s;simp only at h0;subst h0;obtain⟨hfm,hgc,hl5,hlost⟩:=bp hok;have hsh:=ou hok;have hpr:lj ([]:List Fm)=0:=rfl;have hst:dm (1,1,w,0)=true:=by simp [dm,hw]
 have hraw:iw (bx,[],lo,sh) (1,1,w,0)=(kJ bx w&&bg (bj (aL bx) (-1) bx (bP bx w))):=by
  simp [iw,iD,dh,fx,atF,sy]
 unfold dE fe;rw [hok,hst,hraw,JX,JX];cases hb:kJ bx w&&bg (bj (aL bx) (-1) bx (bP bx w))
 ·rfl
 rw [JX];simp only [Jp] at hb;obtain⟨hwl,hwc⟩:=iI hgc hb.1;have hu:w.size≤16:=rW hst rfl;have hwl':(bP bx w).length≤w.size:=hwl;have hS:gN (bx,[],lo,sh) (1,1,w,0)=(bj (aL bx) (-1) bx (bP bx w),[(1,bP bx w,false,0)],lo,sh):=by
  simp [gN,vq,dh,fx,atF,zD]
 rw [hS];have hm:=eH (aL bx) (-1) (bP bx w) bx;have hlen:(bj (aL bx) (-1) bx (bP bx w)).length=bx.length:=by
  have:=congrArg List.length hm;simpa using this
 have hall:ky (bj (aL bx) (-1) bx (bP bx w)) (bP bx w)=true:=by
  have key:∀(l:List ByteArray) (i:Nat),(∀c∈l,∃k:Nat,fC (aL bx) c=k∧k<bx.length)→dq (fun _ c=>!decide (fB (bj (aL bx) (-1) bx (bP bx w)) c<0)) i l=true:=by
   intro l;induction l with
   | nil=>intro i _;rfl
   | cons c l ih =>
    intro i hc;simp only [dq,Jp];refine⟨?_,ih (i+1) fun d hd=>hc d (by simp [hd])⟩
    obtain⟨k,hk,_⟩:=hc c (by simp);rw [zL,hm,hk];simp
  exact key _ 0 hwc
 have hp0:lj ([(1,bP bx w,false,0)]:List Fm)=0:=rfl;have hsheets:(0:Int)≤sh∧sh≤1000000:=by
  unfold aD at hok;simp only [Jp,decide_eq_true_eq,hpr] at hok;exact hok.2
 unfold aD;simp only [Jp,decide_eq_true_eq,hp0];refine⟨⟨⟨⟨?_,hb.2⟩,by simp⟩,hlost⟩,hsheets⟩
 simp only [dq,pS,fY,hall,Bool.and_true,Jp,decide_eq_true_eq,JY,decide_eq_false_iff_not];refine⟨⟨⟨⟨?_,?_⟩,?_⟩,?_⟩,?_⟩<;>first
  | (simp;done)
  | (simp;omega)
  | omega
end Go.Proofs.Ytkcojipciiakdaa

namespace Go.Proofs.Ytkcojipciiakdaa
open Go Go.V
set_option maxRecDepth 100000
theorem yt (l:List Bx) (h:bg l=true):jZ [bxs l]=some (.ret [I (cR l)] []):=by
 rw [ym];obtain⟨h32,hc⟩:=iv h;simp only [cn,Ju,Jl];refine be _ (sw l (fun i a=>[I a,bxs l,I l.length,I i]) (fun x=>x.2.2.2) (fun a=>.ext 0 [I a]) 9999 0 hc (by omega) (by omega) (by omega) (fun i a hi hwa=>?_) (fun a=>?_) (fun _=>rfl) rfl) ?_
 ·have hw:Js.wrap ((i:Int)+1)=(i:Int)+1:=ay (by omega) (by omega)
  simp -implicitDefEqProofs [hi,hw,hwa]
 ·simp -implicitDefEqProofs
 ·simp -implicitDefEqProofs [cR]
theorem wn (l:List Bx) (ho:qB l) (h:bg l=true):gU [bxs l]=some (.ret [I (cR l),B true] []):=by
 rw [vM];obtain⟨h32,hc⟩:=iv h;simp -implicitDefEqProofs only [dv l ho,h,aO,aY,mw,Jw,Jl,eX,Jo,if_false,cn,Ju];refine be _ (sw l (fun i a=>[I a,bxs l,I l.length,I i]) (fun x=>x.2.2.2) (fun a=>.ext 0 [I a]) 9999 0 hc (by omega) (by omega) (by omega) (fun i a hi hwa=>?_) (fun a=>?_) (fun _=>rfl) rfl) ?_
 ·have hw:Js.wrap ((i:Int)+1)=(i:Int)+1:=ay (by omega) (by omega)
  simp -implicitDefEqProofs [hi,hw,hwa]
 ·simp -implicitDefEqProofs
 ·simp -implicitDefEqProofs [cR]
theorem qV (s:Sp) (h:bH s):eP [sp s]=some (.ret [I (eR s),B (aD s)] []):=by
 rw [qN];unfold eR;cases hok:aD s
 ·simp -implicitDefEqProofs [jb s h,hok]
 obtain⟨p1,p2,p3,p4⟩:=bp hok;obtain⟨h32,hc⟩:=iv p2;have hsum:0≤cR s.1∧cR s.1≤9999*s.1.length:=yw hc;have hf:∀x∈s.2.1,0≤(x.2.1.length:Int)∧(x.2.1.length:Int)≤40:=fun x hx=>by
  obtain⟨j,hj,rfl⟩:=JW.1 hx;have:=dI (p1 j hj);omega
 have hw0:Js.wrap (cR s.1+s.2.2.1)=cR s.1+s.2.2.1:=ay (by omega) (by omega);simp -implicitDefEqProofs [jb s h,hok,yt s.1 p2,hw0];refine be _ (sw s.2.1 (fun i a=>[I a,fms s.2.1,I s.2.1.length,I i]) (fun x=>(x.2.1.length:Int)) (fun a=>.ext 0 [I a]) 40 (cR s.1+s.2.2.1) hf (by omega) (by omega) (by omega) (fun i a hi hwa=>?_) (fun a=>?_) (fun _=>rfl) rfl) ?_
 ·have hw:Js.wrap ((i:Int)+1)=(i:Int)+1:=ay (by omega) (by omega)
  simp -implicitDefEqProofs [hi,hw,hwa]
 ·simp -implicitDefEqProofs
 ·simp -implicitDefEqProofs [kH]
theorem eQ (s:Sp) (h:bH s):cE [sp s]=some (.ret [I (eR s),B (aD s)] []):=by
 rw [qJ];unfold eR;cases hok:aD s
 ·simp -implicitDefEqProofs [fh s h,hok]
 obtain⟨p1,p2,p3,p4⟩:=bp hok;obtain⟨h32,hc⟩:=iv p2;have hsum:0≤cR s.1∧cR s.1≤9999*s.1.length:=yw hc;have hf:∀x∈s.2.1,0≤(x.2.1.length:Int)∧(x.2.1.length:Int)≤40:=fun x hx=>by
  obtain⟨j,hj,rfl⟩:=JW.1 hx;have:=dI (p1 j hj);omega
 have hsum2:0≤kH s.2.1∧kH s.2.1≤40*s.2.1.length:=yw hf;have hw0:Js.wrap (cR s.1+kH s.2.1+s.2.2.1)=cR s.1+s.2.2.1+kH s.2.1:=by
  rw [ay (by omega) (by omega)];omega
 simp -implicitDefEqProofs [fh s h,hok,wn s.1 h.1 p2];refine be (.ext 0 [sp s,I (cR s.1+kH s.2.1)]) (sw s.2.1 (fun i a=>[sp s,I a,fms s.2.1,I s.2.1.length,I i]) (fun x=>(x.2.1.length:Int)) (fun a=>.ext 0 [sp s,I a]) 40 (cR s.1) hf (by omega) (by omega) (by omega) (fun i a hi hwa=>?_) (fun a=>?_) (fun _=>rfl) rfl) ?_
 ·have hw:Js.wrap ((i:Int)+1)=(i:Int)+1:=ay (by omega) (by omega)
  simp -implicitDefEqProofs [hi,hw,hwa]
 ·simp -implicitDefEqProofs
 ·simp -implicitDefEqProofs [hw0]
theorem xg (l:List Bx) (h:l.length≤1048577):iZ [bxs l,bxs l]=some (.ret [B true] []):=by
 rw [wU];simp -implicitDefEqProofs only [cn,Ju,Jl,kO,decide_true,Jw,eX,Jo,if_false];refine be (.ext 0 []) (ig l.length (fun i=>[bxs l,bxs l,I l.length,I i]) _ (fun i hi=>?_) ?_ rfl rfl) ?_
 ·have hw:Js.wrap ((i:Int)+1)=((i+1:Nat):Int):=by rw [ay (by omega) (by omega)];omega
  have hq:bin .neq false [3,1,1,1] (bx l[i]) (bx l[i])=some (B false):=by simp [bin,pK]
  simp -implicitDefEqProofs [hi,hw,yb,bw,hq]
 ·simp -implicitDefEqProofs
 ·simp -implicitDefEqProofs
theorem wX (l:List ByteArray) (h:l.length≤1048577):iX [txs l,txs l]=some (.ret [B true] []):=by
 rw [wS];simp -implicitDefEqProofs only [cn,Ju,Jl,kO,decide_true,Jw,eX,Jo,if_false];refine be (.ext 0 []) (ig l.length (fun i=>[txs l,txs l,I l.length,I i]) _ (fun i hi=>?_) ?_ rfl rfl) ?_
 ·have hw:Js.wrap ((i:Int)+1)=((i+1:Nat):Int):=by rw [ay (by omega) (by omega)];omega
  simp -implicitDefEqProofs [hi,hw]
 ·simp -implicitDefEqProofs
 ·simp -implicitDefEqProofs
theorem rX (s:Sp) (h:bH s):ie [sp s,sp s]=some (.ret [B true] []):=by
 rw [yi];have h1:=xg s.1 (by have:=h.1.1;omega);have hl:=h.2.1;have hb:gT 4 (sp s)=some (sp s):=by simp [D.cells,D.single]
 simp -implicitDefEqProofs only [hb,h1,aT,Jl,yJ,JT,JI,yD,aO,aY,mw,Jw,qv,cn,Ju,kO,decide_true,Jo,if_false,mG,Be,eX];refine be (.ext 0 []) (ig s.2.1.length (fun i=>[sp s,fms s.2.1,I s.2.1.length,I i]) _ (fun i hi=>?_) ?_ rfl rfl) ?_
 ·have hw:Js.wrap ((i:Int)+1)=((i+1:Nat):Int):=by rw [ay (by omega) (by omega)];omega
  have hi':(i:Int)<(s.2.1.length:Int):=by omega
  have ht:=wX s.2.1[i].2.1 (by have:=h.2.2 _ (JG hi);omega);have hg:=HK hi;generalize s.2.1[i]=x at *;obtain⟨x1,x2,x3,x4⟩:=x;have hs:=HZ (x1,x2,x3,x4);have hld:ldD true 4 (.ptr [I x1,txs x2,B x3,I x4])=some (.agg [I x1,txs x2,B x3,I x4]):=by simp
  simp -implicitDefEqProofs only [aY,jg,lh,hi',decide_true,Jl,eX,if_true,hg,Option.map_some,hld,hs,aT,yJ,JT,JI,yD,Be,kO,Jw,qv,uo,ht,aO,oR,mw,mG,su,beq_self_eq_true,Jo,if_false,pc,hw]
 ·simp -implicitDefEqProofs
 ·simp -implicitDefEqProofs
def CM (s:Sp) (w:ByteArray):Bool:=aD s&&cZ w 1 16
def Ec (s:Sp) (w:ByteArray):Bool:=CM s w&&(kJ s.1 w&&bg (bj (aL s.1) (-1) s.1 (bP s.1 w)))
theorem xo (s:Sp) (w:ByteArray) (h:bH s) (hw:w.size≤1048576):gr [sp s,T w]=some (.ret [B (Ec s w),B (CM s w)] [])∧gu [sp s,T w]=some (.ret [B (Ec s w),B (CM s w)] []):=by
 rw [tP,ue];have g1:=jb s h;have g2:=fh s h;have w1:=pT w (by omega);have w2:=qi w (by omega);unfold Ec CM;cases hok:aD s
 ·exact⟨by simp -implicitDefEqProofs [g1,hok],by simp -implicitDefEqProofs [g2,hok]⟩
 rw [hok] at g1 g2;cases hlt:cZ w 1 16
 ·exact⟨by simp -implicitDefEqProofs [g1,w1,hlt],by simp -implicitDefEqProofs [g2,w2,hlt]⟩
 rw [hlt] at w1 w2;obtain⟨_,p2,_,_⟩:=bp hok;have hc:=gK p2;have h16:w.size≤16:=by
  simp only [cZ,Jp,decide_eq_true_eq] at hlt;omega
 have hb:=h.1.1;have hr:=oO p2 w;have c1:fH [bxs s.1,T w]=some (.ret [txs (bP s.1 w),B (kJ s.1 w)] []):=om s.1 hc hb w (by omega) hr;have c2:fM [bxs s.1,T w]=some (.ret [txs (bP s.1 w),B (kJ s.1 w)] []):=ot s.1 hc hb w (by omega) hr;cases hwb:kJ s.1 w
 ·rw [hwb] at c1 c2
  exact⟨by simp -implicitDefEqProofs [g1,w1,c1],by simp -implicitDefEqProofs [g2,w2,c2]⟩
 ·rw [hwb] at c1 c2
  obtain⟨q1,hin⟩:=iI p2 hwb;have m1:=ql s.1 (bP s.1 w) (-1) h.1 (by omega) hin;have m2:=lT s.1 (bP s.1 w) h.1 (by omega) p2 hin;refine⟨?_,?_⟩
  ·cases hq:bg (bj (aL s.1) (-1) s.1 (bP s.1 w))<;>rw [hq] at m1<;>simp -implicitDefEqProofs at m1<;>simp -implicitDefEqProofs [g1,w1,c1,m1]
  ·cases hq:bg (bj (aL s.1) (-1) s.1 (bP s.1 w))<;>rw [hq] at m2<;>simp -implicitDefEqProofs at m2<;>simp -implicitDefEqProofs [g2,w2,c2,m2]
theorem Ga (l:List Int):gT 3 (D.agg [iP l,I 0,D.v (.int .u64 0)])=some (aV ⟨l,0,0⟩):=by simp [D.cells,D.single]
theorem Cs (x y z u:D) (s:Sp) (h:x.single=true∧y.single=true∧z.single=true∧u.single=true):stD 4 (.agg [x,y,z,u]) (.ref 0 0) (sp s)=some (sp s):=by
 simp [D.cells,D.single,cd]
theorem tu (s:Sp):bM true 4 0 (sp s)=some (sp s):=by simp
theorem BK (l:List Int) (h:Bytes l):bY [aV ⟨l,0,0⟩]=some (.ret [sp (sh ⟨l,0,0⟩).2] [aV (sh ⟨l,0,0⟩).1])∧bH (sh ⟨l,0,0⟩).2∧(sh ⟨l,0,0⟩).1.ok 1500:=by
 have h0:=Jd h;obtain⟨h1,h2⟩:=Ij h0 (by omega);exact⟨EA (h0.mono (by omega)),h2,h1.mono (by omega)⟩
theorem vw (l:List Int) (h:Bytes l):∃(s:Sp) (x:Stp),ee [iP l]=some (.ret [sp s,stp x] [])∧bH s∧x.2.2.1.size≤1048576:=by
 obtain⟨e1,h1,h2⟩:=BK l h;obtain⟨x,c2,e2,hx,_⟩:=qQ _ _ h2 (by omega);refine⟨_,x,?_,h1,by omega⟩
 rw [pr];have hst:=st0 0 0 ⟨⟨[]⟩⟩ 0 x.1 x.2.1 x.2.2.1 x.2.2.2;have hfl:=nU x.1 x.2.1 x.2.2.1 x.2.2.2;have hsp:=Cs (.arr 4 []) (.arr 4 []) (I 0) (I 0) (sh ⟨l,0,0⟩).2 ⟨rfl,rfl,rfl,rfl⟩;simp -implicitDefEqProofs only [xY,Ga,Jl,aT,kf,fV,e1,e2,aO,aY,tS',hsp,hst,hfl,tu]
theorem vm (l:List Int) (h:Bytes l):∃(s:Sp) (w:ByteArray),ed [iP l]=some (.ret [sp s,T w] [])∧bH s∧w.size≤1048576:=by
 obtain⟨e1,h1,h2⟩:=BK l h;obtain⟨w,c2,e2,hx,_⟩:=xI _ _ h2 (by omega);refine⟨_,w,?_,h1,by omega⟩
 rw [pl];have hsp:=Cs (.arr 4 []) (.arr 4 []) (I 0) (I 0) (sh ⟨l,0,0⟩).2 ⟨rfl,rfl,rfl,rfl⟩;simp -implicitDefEqProofs only [xY,Ga,Jl,aT,kf,fV,e1,e2,aO,aY,hsp,tu]
theorem EF (l:List Stp) (x:Stp) (h:l.length≤1048576):gx 4 40 (jC l) (jC [x])=some (jC (l++[x])):=by
 rw [dK,if_pos (by simp only [Ju,List.length_singleton];omega),←List.map_append]
theorem FN (x:Stp):bC 4 [stp x]=some (jC [x]):=by simp [bC,ia]
theorem GR (x:Stp):iE (jC [x])=some (jC [x]):=kw fun _=>rfl
theorem wI (l:List Int) (h:Bytes l):∃(s:Sp) (m:List Stp),eL [iP l]=some (.ret [sp s,jC m] [])∧bH s∧m.length≤1048576∧∀x∈m,x.2.2.1.size≤1048576:=by
 obtain⟨e1,h1,h2⟩:=BK l h;obtain⟨v2,c2,e2,l2,u2,k2⟩:=gV _ 14 _ h2 (by omega) (by omega);obtain⟨b3,c3,e3,k3⟩:=Cf c2 12 _ k2 (by omega) (by omega);rw [qu];generalize (sh ⟨l,0,0⟩).2=s at *;have hsp:=Cs (.arr 4 []) (.arr 4 []) (I 0) (I 0) s ⟨rfl,rfl,rfl,rfl⟩;have hbod:∀(c:Cur) (n:Nat),n≤100→c.ok 2000→∃(m:List Stp),(m.length≤1048576∧∀x∈m,x.2.2.1.size≤1048576)∧((bD (fun q=>(ab (sl q 3) (D.ref 0 0)).bind fun z=>((ab z (sl q 3)).bind (lenD false)).bind fun z=>(bin BinOp.lss false [] z (sl q 4)).bind fun z=>ifD z ((ab (sl q 1) (sl q 1)).bind fun z =>
   (cQ z (sl q 5)).bind fun i=>(ab i i).bind fun i=>aq (bq [i]) fun rs us=>(bC 4 [sl rs 0]).bind fun a=>(iE a).bind fun b=>(gx 4 40 (sl q 3) b).bind fun y=>some (Out.nrm
   [sl q 0,sl q 1,sl q 2,y,sl q 4,sl us 0])) (some (Out.ext 0 [sl q 0,sl q 2,sl q 3]))) [D.agg [D.arr 4 [],D.arr 4 [],I 0,I 0],.ref 0 0,sp s,D.arr 4 [],I n,aV c]).bind fun o=>dH o (fun i s=>ifN (i.beq 0) ((bM true 4 0 (sl s 1)).bind fun z =>
   (stD 4 (sl s 0) (D.ref 0 0) z).bind fun b=>(bM true 4 0 b).bind fun y=>some (Out.ret [y,sl s 2] [])) none) fun a b=>some (Out.ret a b))=some (.ret [sp s,jC m] []):=fun c n hn hc=>by
  refine eJ (fun X=>∃m:List Stp,(m.length≤1048576∧∀x∈m,x.2.2.1.size≤1048576)∧X=some (.ret [sp s,jC m] [])) (fun a:Cur × List Stp=>[D.agg [D.arr 4 [],D.arr 4 [],I 0,I 0],.ref 0 0,sp s,jC a.2,I n,aV a.1])
   (fun a=>a.1.ok (2000+100*a.2.length)∧a.2.length≤n∧∀x∈a.2,x.2.2.1.size≤1048576) (fun a=>n - a.2.length) (fun o=>∃m:List Stp,o = .ext 0 [D.agg [D.arr 4 [],D.arr 4 [],I 0,I 0],sp s,jC m]∧m.length≤1048576∧∀x∈m,x.2.2.1.size≤1048576) ?_ (c,[]) ⟨hc.mono (by simp),by simp,by simp⟩ rfl ?_
  ·rintro⟨ca,m⟩ ⟨g1,g2,g3⟩
   simp only at g1 g2 g3;by_cases hlt:m.length<n
   ·have hlt':(m.length:Int)<(n:Int):=by omega
    obtain⟨x,c5,e5,hx,k5⟩:=qQ ca _ g1 (by omega);have ha:=EF m x (by omega);refine .inl ⟨(c5,m++[x]),?_,⟨k5.mono (by simp;omega),by simp;omega,fun y hy=>?_⟩,by simp;omega⟩
    ·simp -implicitDefEqProofs only [aY,jg,xu,aT,kf,Jl,cn,Ju,lh,hlt',decide_true,eX,if_true,fV,e5,aO,FN,GR,ha]
    ·rcases List.mem_append.1 hy with hy | hy
     ·exact g3 y hy
     ·simp at hy
      subst hy;omega
   ·have hlt':¬(m.length:Int)<(n:Int):=by omega
    refine .inr ⟨_,?_,rfl,m,rfl,by omega,g3⟩
    simp -implicitDefEqProofs only [aY,jg,xu,kf,Jl,cn,Ju,lh,hlt',decide_false,eX,Jo,if_false]
  ·rintro o ⟨m,rfl,g1,g2⟩
   refine⟨m,⟨g1,g2⟩,?_⟩
   simp -implicitDefEqProofs only [wb,Nat.beq_refl,DO,if_true,aY,jg,tu,Jl,hsp]
 cases b3
 ·obtain⟨n,rfl⟩:=JF l2
  obtain⟨m,hm,hE⟩:=hbod c3 n (by omega) (k3.mono (by omega));refine⟨s,m,?_,h1,hm⟩
  simp -implicitDefEqProofs only [xY,Ga,Jl,aT,kf,fV,e1,e2,e3,aO,aY,hsp,eX,Jo,if_false];exact hE
 ·obtain⟨v4,c4,e4,l4,u4,k4⟩:=gV c3 2 _ k3 (by omega) (by omega)
  obtain⟨v,rfl⟩:=JF l4;have hw:Js.wrap (40+(v:Int))=((40+v:Nat):Int):=by rw [ay (by omega) (by omega)];omega
  obtain⟨m,hm,hE⟩:=hbod c4 (40+v) (by omega) (k4.mono (by omega));refine⟨s,m,?_,h1,hm⟩
  simp -implicitDefEqProofs only [xY,Ga,Jl,aT,kf,fV,e1,e2,e3,e4,aO,aY,hsp,eX,if_true,pc,hw];exact hE
set_option maxRecDepth 100000
theorem tps (s:Sp) (ds:List D):bz (.tup (sp s::ds)) 0=some (sp s):=rfl
theorem Ei (v:Value) (ds:List D):bz (.tup (.v v::ds)) 0=some (.v v):=rfl
theorem Fp (a:D) (v:Value) (ds:List D):bz (.tup (a :: .v v::ds)) 1=some (.v v):=rfl
theorem It (a b:D) (v:Value) (ds:List D):bz (.tup (a::b :: .v v::ds)) 2=some (.v v):=rfl
theorem IZ (a:D) (x:Stp) (ds:List D):bz (.tup (a::stp x::ds)) 1=some (stp x):=rfl
theorem Jb (a:D) (l:List Stp) (ds:List D):bz (.tup (a::jC l::ds)) 1=some (jC l):=rfl
theorem GH {s:Sp} {x:Stp} (hs:bH s):bH (eD s x):=by
 unfold eD;split
 ·rename_i hok
  cases h:fe s x
  ·rw [wh h]
   exact lL ⟨⟨by simp,by simp⟩,by simp,by simp⟩
  ·exact(Ca hs hok h).1
 ·exact lL ⟨⟨by simp,by simp⟩,by simp,by simp⟩
theorem uL {s:Sp} {x:Stp} (hs:bH s) (h:dE s x=true):aD s=true∧aD (eD s x)=true∧eR (eD s x)=eR s∧s.2.2.1≤(eD s x).2.2.1∧s.2.2.2≤(eD s x).2.2.2:=by
 simp only [dE,Jp] at h;obtain⟨h1,h2⟩:=h;have e:eD s x=stS s x:=by simp [eD,h1]
 rw [e];exact⟨h1,(Ca hs h1 h2).2,Ao hs h1 h2⟩
theorem GM {s:Sp} {l:List Stp} (hs:bH s):bH (jF s l):=by
 unfold jF;split
 ·rename_i h
  simp only [js,Jp] at h;exact(yn hs h.1 l).1
 ·exact lL ⟨⟨by simp,by simp⟩,by simp,by simp⟩
theorem CR {s:Sp} {l:List Stp} (hs:bH s) (h:js s l=true):aD s=true∧aD (jF s l)=true∧eR (jF s l)=eR s∧jY s l≤l.length:=by
 have h0:=h;simp only [js,Jp] at h;obtain⟨h1,h2⟩:=h;obtain⟨g1,g2,g3⟩:=yn hs h1 l;have e:jF s l=(run s l).1:=by simp [jF,h0]
 have e2:jY s l=((run s l).2:Int):=by simp [jY,h0]
 rw [e,e2];exact⟨h1,g2,CW hs h1 l,by omega⟩
theorem He (w:ByteArray):jx [(0,1),(1,1),(2,1)] [I 0,I 0,T ⟨⟨[]⟩⟩,I 0] [I 1,I 1,T w]=some (stp (1,1,w,0)):=by simp [jx,oI]
theorem Gi {b o:Bool} (h:(b && !o)=false) (p q:Option Out):((af (D.tup []) (B b) true (some (B o))).bind fun z=>(af (D.tup []) (B b) true (un UnOp.not z)).bind fun y=>ifD (if b=true then y else B false) p q)=q:=by
 cases b<;>cases o<;>simp at h<;>simp -implicitDefEqProofs
set_option maxHeartbeats 4000000 in
theorem Dp (code more:List Int) (hb1:∀n∈code,0≤n∧n≤255) (hb2:∀n∈more,0≤n∧n≤255) (hi1:code.length≤9223372036854775807) (hi2:more.length≤9223372036854775807):iq [iP code,iP more]=some (.ret [B true] []):=by
 rw [uT];simp -implicitDefEqProofs only [cn,Ju,Jl,pc,Cd,eX,decide_eq_true_eq];by_cases hbig:1048576<Js.wrap ((code.length:Int)+(more.length:Int))
 ·rw [if_pos hbig]
 rw [if_neg hbig];obtain⟨s,x,e1,hs,hx⟩:=vw code ⟨hb1,hi1⟩;have hst:=st0 0 0 ⟨⟨[]⟩⟩ 0 x.1 x.2.1 x.2.2.1 x.2.2.2;have hfl:=nU x.1 x.2.1 x.2.2.1 x.2.2.2;have hsp:=fun t:Sp=>Cs (.arr 4 []) (.arr 4 []) (I 0) (I 0) t ⟨rfl,rfl,rfl,rfl⟩
 have i1:eZ [sp s,stp x]=some (.ret [sp (eD s x),B (dE s x)] []):=kQ hs hx;have i2:jz [sp s,stp x]=some (.ret [sp (eD s x),B (dE s x)] []):=kQ hs hx;have i3:=eQ s hs;have i4:=qV s hs;have i5:=fh s hs;have hso:=GH (x:=x) hs;have i6:=rX _ hso;have i7:=eQ _ hso;have i8:=fh _ hso;have hcond:(dE s x && !aD s)=false:=by
  cases h:dE s x
  ·rfl
  ·rw [(uL hs h).1]
   rfl
 simp -implicitDefEqProofs only [e1,aO,tps,IZ,Ei,Fp,Jl,hsp,tS',hst,hfl,tu,i1,i2,i3,i4,su,bne_self_eq_false,beq_self_eq_true,Jw,qv,uo,i6,oR,aY,mw,mG,Jo,if_false,kO,decide_true,i5];refine(Gi hcond _ _).trans ?_
 refine zC (fun s=>s=[iP more]) ?_ ?_
 ·rintro _ rfl
  obtain⟨u,l,e2,hu,hl,hlx⟩:=wI more ⟨hb2,hi2⟩;have j1:kC [sp u,jC l]=some (.ret [sp (jF u l),I (jY u l),B (js u l)] []):=qw hu hl hlx;have j2:ki [sp u,jC l]=some (.ret [sp (jF u l),I (jY u l),B (js u l)] []):=qw hu hl hlx;have hro:=GM (l:=l) hu;have j3:=rX _ hro;have j4:=eQ u hu;have j5:=eQ _ hro;simp -implicitDefEqProofs only [aY,e2,aO,tps,Jb,Ei,Fp,It,Jl,hsp,tu,j1,j2,su,bne_self_eq_false,beq_self_eq_true,Jw,qv,uo,j3,oR,mw,mG,Jo,if_false,kO,decide_true,eX];refine zC (fun s=>s=[iP more]) ?_ ?_
  ·rintro _ rfl
   obtain⟨v,w,e3,hv,hw⟩:=vm more ⟨hb2,hi2⟩;obtain⟨k1,k2⟩:=xo v w hv hw;have k3:eZ [sp v,stp (1,1,w,0)]=some (.ret [sp (eD v (1,1,w,0)),B (dE v (1,1,w,0))] []):=kQ hv hw;simp -implicitDefEqProofs only [aY,e3,aO,tps,Ei,Fp,Jl,hsp,tu,k1,k2,su,bne_self_eq_false,beq_self_eq_true,Jw,qv,mw,mG,Jo,if_false,eX,tS',He,k3];cases hM:CM v w
   ·simp -implicitDefEqProofs
   ·by_cases hz:v.2.1.length=0
    ·have hM2:=hM
     simp only [CM,Jp] at hM2;have hm:=GP hv hM2.1 (List.length_eq_zero_iff.1 hz) hM2.2;have hA:Ec v w=dE v (1,1,w,0):=by
      rw [hm];unfold Ec;rw [hM];rfl
     rw [hA];simp -implicitDefEqProofs [hz]
    ·have hz':¬(v.2.1.length:Int)=0:=by omega
     simp -implicitDefEqProofs [hz,hz']
  ·intro j hj
   cases hB:js u l
   ·simp -implicitDefEqProofs only [Jo,if_false]
    exact hj _ rfl
   ·obtain⟨r1,r2,r3,r4⟩:=CR hu hB
    rw [r1] at j4;rw [r2,r3] at j5;have r5:¬((l.length:Int)<jY u l):=by omega
    simp -implicitDefEqProofs only [if_true,j4,j5,aO,Ei,Fp,It,Jl,mw,Jw,qv,mG,Jo,if_false,kO,decide_true,cn,Ju,Cd,r5,decide_false,eX];exact hj _ rfl
 ·intro j hj
  cases hB:dE s x
  ·simp -implicitDefEqProofs only [eX,Jo,if_false]
   exact hj _ rfl
  ·obtain⟨r1,r2,r3,r4,r5⟩:=uL hs hB
   rw [r2,r3] at i7;rw [r2] at i8;have r6:¬((eD s x).2.2.1<s.2.2.1):=by omega
   have r7:¬((eD s x).2.2.2<s.2.2.2):=by omega
   simp -implicitDefEqProofs only [eX,if_true,i7,i8,aO,Ei,Fp,Jl,mw,Jw,qv,uo,oR,aY,mG,Jo,if_false,kO,decide_true,aT,yJ,JT,JI,yD,Be,lh,r6,r7,decide_false];exact hj _ rfl
end Go.Proofs.Ytkcojipciiakdaa

end
