/-
  A part of the proof: contracts and plain forms of functions beneath the statement, made small by a program (names shortened, what is not needed left out).
-/
import Derived.Test.YtkcojipciiakdaaRows
import Derived.Test.YtkcojipciiakdaaM6
import Derived.StillTailTactics
open List renaming setIfInBounds_toArray → HA, set_cons_zero → HB, set_cons_succ → HC, mem_of_getElem? → HJ, getElem?_eq_getElem → HK, mem_of_mem_take → HL, mem_of_mem_drop → HM, mem_append → HN, mem_singleton → HO, length_take → HS, length_drop → HT, nil_append → HV, mem_or_eq_of_mem_set → HY, eq_nil_of_length_eq_zero → HZ, length_map → Ic, length_set → Ie, getElem?_set_self → Ig
open Option.some renaming inj → HD
open Go.Act renaming put → HE
open Go.AllReadyH renaming cons → HG, nil → HI
open Or renaming inl → HH
open Nat renaming lt_of_lt_of_le → HQ, min_eq_left → HU, le_refl → HW, le_trans → HX
open Go.World renaming setCell → HR
open Go.RowKit.Below renaming refl → Ia
open Array renaming replicate → Ib
open Bool renaming false_eq_true → Ih, false_and → Ij
open Go.Value.slice renaming injEq → Ii
set_option maxRecDepth 100000
set_option linter.unusedSimpArgs false
set_option linter.unusedVariables false
noncomputable section
namespace Go.Proofs.Ytkcojipciiakdaa
open Go Go.Proofs Go.V Go.RowKit
set_option maxRecDepth 100000
set_option maxHeartbeats 16000000 in
set_option maxRecDepth 1000000 in
theorem Ai (s:Sp) (hs:cK s) (hok:aW s=true) (id:Int) (u:ByteArray) (n:Int) (hx:cN (1,id,u,n)=true) (w:World) (p B:Nat) (hbox:lu w p B s) (hpB:B≤p) :
  Calls Try.prog 93 #[.pointer (some ⟨p,0,none⟩),stV (1,id,u,n)] w (oh w p B (iz s id u) (xw s id u)):=by
 obtain⟨hfm,hgc,hl5,hlost⟩:=bv hok;have hu:u.size≤16:=xF hx rfl;obtain⟨A,bn,c,A',n',c',ys,hp0,hS0,hnp⟩:=hbox;obtain⟨fA,fc,efs⟩:=bt hS0.fms.own;cases efs;have hpl:=aB hp0;have hltw:=fun b hb=>(hS0.fms.lt b hb).2
 have hW:=be w (.cells #[.int .i64 1,.int .i64 id,.string u,.int .i64 n] 46);have hBW:Below B w (w.alloc (.cells #[.int .i64 1,.int .i64 id,.string u,.int .i64 n] 46)):=(Ia _ w).alloc (by omega) _;have hp:=Below.some hW hp0;have hS:=hS0.below hW;have hq:(w.alloc (.cells #[.int .i64 1,.int .i64 id,.string u,.int .i64 n] 46)).heap[w.heap.size]?=some (.cells #[.int .i64 1,.int .i64 id,.string u,.int .i64 n] 46 (0,0)):=ac _ rfl;have hWs:w.heap.size<(w.alloc (.cells #[.int .i64 1,.int .i64 id,.string u,.int .i64 n] 46)).heap.size:=by simp
 have hbl:s.1.length≤1048576:=hs.1.1
 go_enter Try.func93,Try.ntmps93
 go_upto_region 1 with fail
 generalize (w.alloc (.cells #[.int .i64 1,.int .i64 id,.string u,.int .i64 n] 46))=W at *;have hpd:=Below.some (ab W) hp;have hqd:=Below.some (ab W) hq;have hSd:=hS.below (ab W);obtain⟨e0,e1,e2,e3⟩:=aa hpd;obtain⟨f0,f1,f2,f3⟩:=aa hqd;have hc:=xK s.1 u hgc hbl (by omega) (dW hSd.box) (cd hSd.box)
 go_region_held3 (fun w'=>w'.cell? ⟨p,0,none⟩=some (.slice A bn c)∧w'.cell? ⟨w.heap.size,2,none⟩=some (.string u)) (first | (refine⟨?_,?_⟩<;>assumption) | go_keep)
  (first
   | (go_at_call 72;refine hc.mono ?_;intro e w2 hout;obtain⟨A2,n2,c2,rfl,own2,hv2,b2⟩:=hout;have hp2:=Below.some b2 hpd;have hq2:=Below.some b2 hqd;obtain⟨r0,r1,r2,r3⟩:=aa hp2;obtain⟨t0,t1,t2,t3⟩:=aa hq2)
   | fail)
 have hS2:=hSd.below b2;have B2:Below B w w2:=(hBW.trans ((ab W).mono (by omega))).trans (b2.mono (by show B≤W.heap.size;omega));have hs2:W.heap.size≤w2.heap.size:=b2.size;have hv2':∀b,aA (.slice A2 n2 c2) b→W.heap.size≤b∧b<w2.heap.size:=hv2;clear hc e0 e1 e2 e3 f0 f1 f2 f3 hpd hqd hSd b2 hp0 hS0 hv2 r1 r2 r3 t0 t1 t2 t3;cases hwb:sr s.1 u
 ·go_wp2
  go_ret
  exact⟨false,rfl,(fun h=>by cases h),(fun _=>by simp [iz,hwb]),B2⟩
 obtain⟨hwl,hwc⟩:=nT hgc hwb;have hc3:=uo s.1 (cI s.1 u) hs.1 (by omega) hgc hwc (dW hS2.box) (cd hS2.box) (dW own2) (cd own2)
 go_wp2_with (go_at_call 73;refine hc3.mono ?_)
 intro e w3 hout;obtain⟨A3,n3,c3,rfl,own3,hv3,b3⟩:=hout;have hp3:=Below.some b3 hp2;have hq3:=Below.some b3 hq2;have hS3:=hS2.below b3;have own2':=bf.below own2 b3;have B3:Below B w w3:=B2.trans (b3.mono (by omega));have hs3:=b3.size;clear hc3 b3 hp2 hq2 own2 hS2 r0;cases hgo:bI (br (aK s.1) (-1) s.1 (cI s.1 u))
 ·go_wp2
  go_ret
  exact⟨false,rfl,(fun h=>by cases h),(fun _=>by simp [iz,hgo]),B3⟩
 have em:mvd s.1 (cI s.1 u) (-1)=br (aK s.1) (-1) s.1 (cI s.1 u):=by
  unfold mvd;rw [if_pos hgo]
 rw [em] at own3
 go_wp2
 have hpd:=Below.some (ab w3) hp3;have hqd:=Below.some (ab w3) hq3;have hSd:=hS3.below (ab w3);obtain⟨e0,e1,e2,e3⟩:=aa hpd;obtain⟨f0,f1,f2,f3⟩:=aa hqd;have hc:=pu s id hs hSd.rep (fun b hb=>(hSd.lt b hb).2)
 go_region_held3 (fun w'=>w'.cell? ⟨p,0,none⟩=some (.slice A bn c)∧w'.cell? ⟨p,1,none⟩=some (.slice A' s.2.1.length c')∧w'.cell? ⟨p,2,none⟩=some (.int .i64 s.2.2.1)∧w'.cell? ⟨p,3,none⟩=some (.int .i64 s.2.2.2)∧w'.cell? ⟨w.heap.size,1,none⟩=some (.int .i64 id)) (first | (refine⟨?_,?_,?_,?_,?_⟩<;>assumption) | go_keep)
  (first
   | (go_at_call 94;refine hc.mono ?_;rintro e w4 ⟨rfl,b4⟩;have hp4:=Below.some b4 hpd;have hq4:=Below.some b4 hqd;obtain⟨r0,r1,r2,r3⟩:=aa hp4;obtain⟨t0,t1,t2,t3⟩:=aa hq4)
   | fail)
 have hS4:=hSd.below b4;have B4:Below B w w4:=(B3.trans ((ab w3).mono (by omega))).trans (b4.mono (by show B≤w3.heap.size;omega));have hs4:w3.heap.size≤w4.heap.size:=b4.size;have own24:=bf.below (bf.below own2' (ab w3)) b4;have own34:=bf.below (bf.below own3 (ab w3)) b4;clear hc e0 e1 e2 e3 f0 f1 f2 f3 hpd hqd hSd b4 hp3 hq3 hS3 own2' own3 r0 r1 r2 r3 t0 t1 t2 t3 hp hq hS;have hpl4:=aB hp4;have hql4:=aB hq4;have hN:W.heap.size≤w4.heap.size:=HX (HX hs2 hs3) hs4;have hF4:=hS4.fms;have hlt4:=hF4.lt;have hat:=xj s.2.1 id;obtain⟨at_,hat_⟩:∃k,k=atF s.2.1 id:=⟨_,rfl⟩
 rw [←hat_] at hat ⊢;have hatH:Hid (at_=atF s.2.1 id):=hat_;clear hat_;have hBN:B≤w4.heap.size:=by omega
 have hltW:∀b,FmS (.slice A' s.2.1.length c') ys b→b<w.heap.size:=hltw
 go_upto_if 43 with fail
 go_cut [9] from 10 (fun _ wc=>GZ w4 wc p B (.slice A bn c) (.slice A' s.2.1.length c') ys s.2.2.1 s.2.2.2 (cL s.2.1 id))
 case first =>
  clear hs hok hx hfm hgc hlost hu hbl hwl hwc own24 own34 hgo em hwb hv2' hv3 hs2 hs3 hs4 B2 B3;cases hhf:eR s.2.1 id
  ·obtain⟨i2,hi2,hx0,hx1,hx2⟩:=info_parts fy
   have hp0:=Below.some (ab w4) hp4;have hq0:=Below.some (ab w4) hq4;have hX0:Below w4.heap.size w4 w4.drew:=ab w4;have hSd:w4.drew.cell? ⟨p,1,none⟩=some (.slice A' s.2.1.length c')∧w4.drew.cell? ⟨w.heap.size,1,none⟩=some (.int .i64 id):=⟨(aa hp0).2.1,(aa hq0).2.1⟩
   have hcells:Hid (∀X:World,Below w4.heap.size w4 X→X.cell? ⟨p,1,none⟩=some (.slice A' s.2.1.length c')∧X.cell? ⟨w.heap.size,1,none⟩=some (.int .i64 id)):=fun X hX=>⟨(aa ((hX.block p hpl4).trans hp4)).2.1,(aa ((hX.block _ hql4).trans hq4)).2.1⟩
   have hfmsX:Hid (∀X:World,Below w4.heap.size w4 X→FmsAt X B (.slice A' s.2.1.length c') ys s.2.1):=fun X hX=>hF4.keep fun b hb=>hX.block b (hlt4 b hb).2
   go_upto_region 9 with fail
   rcases hF4.own.2 with ⟨eA,hl0⟩ | ⟨g,cap,cur,eA,_⟩
   ·simp only [Ii] at eA
    obtain⟨rfl,hl0',rfl⟩:=eA;have hs0:s.2.1=[]:=HZ hl0;have hy0:ys=[]:=HZ (by rw [hF4.len,hs0];rfl);obtain rfl:at_=0:=by omega
    subst hy0;replace hcells:Hid (∀X:World,Below w4.heap.size w4 X→X.cell? ⟨p,1,none⟩=some (.slice none 0 0)∧X.cell? ⟨w.heap.size,1,none⟩=some (.int .i64 id)):=fun X hX=>by
     have h:=hcells.out X hX;rw [hs0] at h;exact h
    replace hSd:=hcells.out _ hX0;refine bO (l:=[_,_,_,_,_,_,_,_,_,_,_,_,_,_,_,_,_,_,_,_,_,_,_]) (o:=_) (S:=fun w'=>w'.cell? ⟨p,1,none⟩=some (.slice none 0 0)∧w'.cell? ⟨w.heap.size,1,none⟩=some (.int .i64 id)) (by kernel_rfl) (by kernel_rfl) hSd (fun hHeld=>?_)
    change wpAnyH _ _ _ _ _ 23 (Ib 23 false) _ _
    generalize w4.drew=W0 at *;have hX:=hX0;refine wpAnyH_take (i:=0) (oi:=_) (v:=?vn1) rfl (by kernel_rfl) (by kernel_rfl) (by kernel_rfl) (fun _ _ _ h=>h) (HH ⟨by rfl,?yn1⟩) hHeld ?rn1
    case yn1=>(intro w0 hSw;obtain⟨hSw0,hSw1⟩:=hSw;go_simp;try with_reducible rfl)
    (try simp only [HE,HA,HB,HC])
    refine wpAnyH_take (i:=2) (oi:=_) (v:=?vn2) rfl (by kernel_rfl) (by kernel_rfl) (by kernel_rfl) (fun _ _ _ h=>h) (HH ⟨by rfl,?yn2⟩) hHeld ?rn2
    case yn2=>(intro w0 hSw;obtain⟨hSw0,hSw1⟩:=hSw;go_simp;try with_reducible rfl)
    (try simp only [HE,HA,HB,HC])
    refine wpAnyH_take (i:=3) (oi:=_) (v:=?vn3) rfl (by kernel_rfl) (by kernel_rfl) (by kernel_rfl) (fun _ _ _ h=>h) (HH ⟨by rfl,?yn3⟩) hHeld ?rn3
    case yn3=>(intro w0 hSw;obtain⟨hSw0,hSw1⟩:=hSw;go_simp;try with_reducible rfl)
    (try simp only [HE,HA,HB,HC])
    refine wpAnyH_take (i:=4) (oi:=_) (v:=?vn4) rfl (by kernel_rfl) (by kernel_rfl) (by kernel_rfl) (fun _ _ _ h=>h) (HH ⟨by rfl,?yn4⟩) hHeld ?rn4
    case yn4=>(intro w0 hSw;obtain⟨hSw0,hSw1⟩:=hSw;go_simp;try with_reducible rfl)
    (try simp only [HE,HA,HB,HC])
    refine wpAnyH_take (i:=5) (oi:=_) (v:=?vn5) rfl (by kernel_rfl) (by kernel_rfl) (by kernel_rfl) (fun _ _ _ h=>h) (HH ⟨by rfl,?yn5⟩) hHeld ?rn5
    case yn5=>(intro w0 hSw;obtain⟨hSw0,hSw1⟩:=hSw;go_simp;try with_reducible rfl)
    (try simp only [HE,HA,HB,HC])
    refine wpAnyH_take (i:=6) (oi:=_) (v:=?vn6) rfl (by kernel_rfl) (by kernel_rfl) (by kernel_rfl) (fun _ _ _ h=>h) (HH ⟨by rfl,?yn6⟩) hHeld ?rn6
    case yn6=>(intro w0 hSw;obtain⟨hSw0,hSw1⟩:=hSw;go_simp;try with_reducible rfl)
    (try simp only [HE,HA,HB,HC])
    refine wpAnyH_take (i:=7) (oi:=_) (v:=?vn7) rfl (by kernel_rfl) (by kernel_rfl) (by kernel_rfl) (fun _ _ _ h=>h) (HH ⟨by rfl,?yn7⟩) hHeld ?rn7
    case yn7=>(intro w0 hSw;obtain⟨hSw0,hSw1⟩:=hSw;go_simp;try with_reducible rfl)
    (try simp only [HE,HA,HB,HC])
    refine wpAnyH_take (i:=9) (oi:=_) (v:=?vn8) rfl (by kernel_rfl) (by kernel_rfl) (by kernel_rfl) (fun _ _ _ h=>h) (HH ⟨by rfl,?yn8⟩) hHeld ?rn8
    case yn8=>(intro w0 hSw;obtain⟨hSw0,hSw1⟩:=hSw;go_simp;try with_reducible rfl)
    (try simp only [HE,HA,HB,HC])
    refine wpAnyH_take (i:=10) (oi:=_) (v:=?vn9) rfl (by kernel_rfl) (by kernel_rfl) (by kernel_rfl) (fun _ _ _ h=>h) (HH ⟨by rfl,?yn9⟩) hHeld ?rn9
    case yn9=>(intro w0 hSw;obtain⟨hSw0,hSw1⟩:=hSw;go_simp;try with_reducible rfl)
    (try simp only [HE,HA,HB,HC])
    refine wpAnyH_take (i:=11) (oi:=_) (v:=?vn10) rfl (by kernel_rfl) (by kernel_rfl) (by kernel_rfl) (fun _ _ _ h=>h) (HH ⟨by rfl,?yn10⟩) hHeld ?rn10
    case yn10=>(intro w0 hSw;obtain⟨hSw0,hSw1⟩:=hSw;go_simp;try with_reducible rfl)
    (try simp only [HE,HA,HB,HC])
    refine wpAnyH_take (i:=14) (oi:=_) (v:=?vn11) rfl (by kernel_rfl) (by kernel_rfl) (by kernel_rfl) (fun _ _ _ h=>h) (HH ⟨by rfl,?yn11⟩) hHeld ?rn11
    case yn11=>(intro w0 hSw;obtain⟨hSw0,hSw1⟩:=hSw;go_simp;try with_reducible rfl)
    (try simp only [HE,HA,HB,HC])
    refine wpAnyH_take (i:=15) (oi:=_) (v:=?vn12) rfl (by kernel_rfl) (by kernel_rfl) (by kernel_rfl) (fun _ _ _ h=>h) (HH ⟨by rfl,?yn12⟩) hHeld ?rn12
    case yn12=>(intro w0 hSw;obtain⟨hSw0,hSw1⟩:=hSw;go_simp;try with_reducible rfl)
    (try simp only [HE,HA,HB,HC])
    refine wpAnyH_take (i:=16) (oi:=_) (v:=?vn13) rfl (by kernel_rfl) (by kernel_rfl) (by kernel_rfl) (fun _ _ _ h=>h) (HH ⟨by rfl,?yn13⟩) hHeld ?rn13
    case yn13=>(intro w0 hSw;obtain⟨hSw0,hSw1⟩:=hSw;go_simp;try with_reducible rfl)
    (try simp only [HE,HA,HB,HC])
    refine wpAnyH_take (i:=17) (oi:=_) (v:=?vn14) rfl (by kernel_rfl) (by kernel_rfl) (by kernel_rfl) (fun _ _ _ h=>h) (HH ⟨by rfl,?yn14⟩) hHeld ?rn14
    case yn14=>(intro w0 hSw;obtain⟨hSw0,hSw1⟩:=hSw;go_simp;try with_reducible rfl)
    (try simp only [HE,HA,HB,HC])
    refine wpAnyH_take (i:=18) (oi:=_) (v:=?vn15) rfl (by kernel_rfl) (by kernel_rfl) (by kernel_rfl) (fun _ _ _ h=>h) (HH ⟨by rfl,?yn15⟩) hHeld ?rn15
    case yn15=>(intro w0 hSw;obtain⟨hSw0,hSw1⟩:=hSw;go_simp;try with_reducible rfl)
    (try simp only [HE,HA,HB,HC])
    refine wpAnyH_take (i:=19) (oi:=_) (v:=?vn16) rfl (by kernel_rfl) (by kernel_rfl) (by kernel_rfl) (fun _ _ _ h=>h) (HH ⟨by rfl,?yn16⟩) hHeld ?rn16
    case yn16=>(intro w0 hSw;obtain⟨hSw0,hSw1⟩:=hSw;go_simp;try with_reducible rfl)
    (try simp only [HE,HA,HB,HC])
    refine wpAnyH_ready (rs:=[1,12]) (by kernel_rfl) (by simp) ?_
    refine HG (o:=_) rfl (fun K hK=>?_) ?_
    ·go_simp
     have hX:=hX.alloc hX.size (.cells #[] 75);have hE:(W0.alloc (.cells #[] 75)).heap[W0.heap.size]?=some (.cells #[] 75 (0,0)):=ac _ (by simp);refine hK.out _ _ ?_ (fun hHeld=>?_)
     ·exact hcells.out _ hX
     clear hK K
     (try simp only [HE,HA,HB,HC])
     refine wpAnyH_ready (rs:=[8,12]) (by kernel_rfl) (by simp) ?_
     refine HG (o:=_) rfl (fun K hK=>?_) ?_
     ·refine af _ rfl _ _ 31 rfl B 75 i2 (.agg #[.int .i64 0,.slice none 0 0,.bool false,.int .i64 0]) 4 48 Try.underlying31 hi2 hx0 hx1 hx2 rfl (by decide) (.slice (some ⟨W0.heap.size,0,none⟩) 0 0) 0 [] (by simp [go_sem];done) (bR hE (by have:=hX0.size;omega)) none 0 0 [] (by simp [go_sem,sliced];done) rfl (fun h=>absurd rfl h) (fun u hu=>by cases hu) (by unfold maxLen;omega) (by omega) (by have:=hX.size;omega) ?_
      intro v5 w5 hown5 hg5 hat5;have hV1:FmsAt w5 B v5 [] []:=⟨rfl,by simpa [aV] using hown5,fun i x y hx=>by simp at hx,fun i y b hy=>by simp at hy,fun i j y z _ hi=>by simp at hi⟩
      have hf1:∀b,FmS v5 [] b→FmS (.slice none 0 0) [] b∨w4.heap.size≤b:=fun b hb=>by
       rcases hb with hb | ⟨z,hz,hzb⟩
       ·rcases hat5 with h | h
        ·have e:some b=some (W0.heap.size):=hb.symm.trans h
         have:=HD e;have:=hX0.size;exact .inr (by omega)
        ·have e:some b=some ((W0.alloc (.cells #[] 75)).heap.size):=hb.symm.trans h
         have:=HD e;have:=hX.size;exact .inr (by omega)
       ·cases hz
      have hge5:∀b,aA v5 b→w4.heap.size≤b:=fun b hb=>by
       rcases hat5 with h | h
       ·have e:some b=some (W0.heap.size):=hb.symm.trans h
        have:=HD e;have:=hX0.size;omega
       ·have e:some b=some ((W0.alloc (.cells #[] 75)).heap.size):=hb.symm.trans h
        have:=HD e;have:=hX.size;omega
      have hX:=hX.grown hg5 hX.size (fun k hk=>by have e:W0.heap.size=k:=HD hk;have:=hX0.size;omega);obtain⟨A5,n5,c5,rfl⟩:=am hV1.own;clear hat5;refine hK.out _ _ ?_ (fun hHeld=>?_)
      ·exact hcells.out _ hX
      clear hK K
      (try simp only [HE,HA,HB,HC])
      refine wpAnyH_ready (rs:=[12]) (by kernel_rfl) (by simp) ?_
      refine HG (o:=_) rfl (fun K hK=>?_) ?_
      ·go_simp
       have hX:=hX.alloc hX.size (.cells #[.int .i64 id,.slice none 0 0,.bool false,.int .i64 0] 75);have hM:(w5.alloc (.cells #[.int .i64 id,.slice none 0 0,.bool false,.int .i64 0] 75)).heap[w5.heap.size]?=some (.cells #[.int .i64 id,.slice none 0 0,.bool false,.int .i64 0] 75 (0,0)):=ac _ (by simp);have hV1:=hV1.keep (w':=(w5.alloc (.cells #[.int .i64 id,.slice none 0 0,.bool false,.int .i64 0] 75))) fun b hb=>fi _ (hV1.lt b hb).2
       refine hK.out _ _ ?_ (fun hHeld=>?_)
       ·exact hcells.out _ hX
       clear hK K
       (try simp only [HE,HA,HB,HC])
       refine wpAnyH_ready (rs:=[13]) (by kernel_rfl) (by simp) ?_
       refine HG (o:=_) rfl (fun K hK=>?_) ?_
       ·refine af _ rfl _ _ 31 rfl B 75 i2 (.agg #[.int .i64 0,.slice none 0 0,.bool false,.int .i64 0]) 4 48 Try.underlying31 hi2 hx0 hx1 hx2 rfl (by decide) (.slice A5 n5 c5) _ _ (by simp [go_sem];done) hV1.own (some ⟨w5.heap.size,0,none⟩) 1 1 [.int .i64 id,.slice none 0 0,.bool false,.int .i64 0] (by simp [go_sem];done) rfl (fun _=>⟨_,_,rfl,cg hM⟩) (by intro u hu;simp at hu;rcases hu with rfl | rfl | rfl | rfl<;>rfl) (by unfold maxLen;simp;try omega) (by simp;try omega) (by have:=hX.size;omega) ?_
        intro v6 w6 hown6 hg6 hat6;have hV2:=cf (x:=(id,[],false,0)) (y:=.slice none 0 0) hV1 (by have:=hX.size;omega) hown6 hg6 hat6 (dR _ _ _ _) (fun b hb=>by cases hb);have hf2:∀b,FmS v6 ([]++[.slice none 0 0]) b→FmS (.slice none 0 0) [] b∨w4.heap.size≤b:=fun b hb=>by
         rcases hb with hb | ⟨z,hz,hzb⟩
         ·rcases hat6 with h | h
          ·exact hf1 b (.inl (hb.symm.trans h).symm)
          ·have e:some b=some ((w5.alloc (.cells #[.int .i64 id,.slice none 0 0,.bool false,.int .i64 0] 75)).heap.size):=hb.symm.trans h
           have:=HD e;have:=hX.size;exact .inr (by omega)
         ·rcases HN.1 hz with hz | hz
          ·exact hf1 b (.inr ⟨z,hz,hzb⟩)
          ·obtain rfl:=HO.1 hz
           cases hzb
        have hge6:∀b,aA v6 b→w4.heap.size≤b:=fun b hb=>by
         rcases hat6 with h | h
         ·exact hge5 b (h.symm.trans hb)
         ·have e:some b=some ((w5.alloc (.cells #[.int .i64 id,.slice none 0 0,.bool false,.int .i64 0] 75)).heap.size):=hb.symm.trans h
          have:=HD e;have:=hX.size;omega
        have hX:=hX.grown hg6 hX.size (fun k hk=>hge5 k hk);obtain⟨A6,n6,c6,rfl⟩:=am hV2.own;clear hat6;refine hK.out _ _ ?_ (fun hHeld=>?_)
        ·exact hcells.out _ hX
        clear hK K
        (try simp only [HE,HA,HB,HC])
        refine wpAnyH_ready (rs:=[20]) (by kernel_rfl) (by simp) ?_
        refine HG (o:=_) rfl (fun K hK=>?_) ?_
        ·refine af _ rfl _ _ 31 rfl B 75 i2 (.agg #[.int .i64 0,.slice none 0 0,.bool false,.int .i64 0]) 4 48 Try.underlying31 hi2 hx0 hx1 hx2 rfl (by decide) (.slice A6 n6 c6) _ _ (by simp [go_sem];done) hV2.own none 0 0 [] (by simp [go_sem,sliced];done) rfl (fun h=>absurd rfl h) (fun u hu=>by cases hu) (by unfold maxLen;simp;try omega) (by simp;try omega) (by have:=hX.size;omega) ?_
         intro v7 w7 hown7 hg7 hat7;have hV3:=bE hV2 (m:=[]) (zs:=[]) (by have:=hX.size;omega) (by simpa [aV] using hown7) hg7 hat7 rfl (fun i x y hx=>by simp at hx) (fun i y b hj=>by simp at hj) (fun i j y z _ hi=>by simp at hi);have hf3:∀b,FmS v7 (([]++[.slice none 0 0])++[]) b→w4.heap.size≤b:=fun b hb=>by
          rcases hb with hb | ⟨z,hz,hzb⟩
          ·rcases hat7 with h | h
           ·exact hge6 b (h.symm.trans hb)
           ·have e:some b=some (w6.heap.size):=hb.symm.trans h
            have:=HD e;have:=hX.size;omega
          ·simp at hz
           subst hz;cases hzb
         have hX:=hX.grown hg7 hX.size (fun k hk=>hge6 k hk);obtain⟨A7,n7,c7,rfl⟩:=am hV3.own;clear hat7;refine hK.out _ _ ?_ (fun hHeld=>?_)
         ·exact hcells.out _ hX
         clear hK K
         (try simp only [HE,HA,HB,HC])
         refine wpAnyH_take (i:=21) (oi:=_) (v:=?vn17) rfl (by kernel_rfl) (by kernel_rfl) (by kernel_rfl) (fun _ _ _ h=>h) (HH ⟨by rfl,?yn17⟩) hHeld ?rn17
         case yn17=>(intro w0 hSw;obtain⟨hSw0,hSw1⟩:=hSw;go_simp;try with_reducible rfl)
         (try simp only [HE,HA,HB,HC])
         refine wpAnyH_take (i:=22) (oi:=_) (v:=?vn18) rfl (by kernel_rfl) (by kernel_rfl) (by kernel_rfl) (fun _ _ _ h=>h) (HH ⟨by rfl,?yn18⟩) hHeld ?rn18
         case yn18=>(intro w0 hSw;obtain⟨hSw0,hSw1⟩:=hSw;go_simp;try with_reducible rfl)
         (try simp only [HE,HA,HB,HC])
         refine aL (by kernel_rfl) ?_
         have hp7:=(hX.block p hpl4).trans hp4;have g1:=(aa hp7).2.1;have h1:=(aG hp7).2.1;have hp8:(w7.setCell ⟨p,1,none⟩ (.slice A7 n7 c7)).heap[p]?=some (.cells #[.slice A bn c,.slice A7 n7 c7,.int .i64 s.2.2.1,.int .i64 s.2.2.2] 33 (0,0)):=heap_setCell_same _ _ 1 _ _ (.slice A7 n7 c7) hp7;have hV4:=hV3.keep (w':=w7.setCell ⟨p,1,none⟩ (.slice A7 n7 c7)) fun b hb=>heap_setCell_other _ _ _ _ (by
          simp;rintro rfl;have:=hf3 _ hb;omega)
         have eI:cL s.2.1 id=([]++[(id,[],false,0)])++[]:=by
          unfold cL;rw [if_neg (by simp [hhf]),hs0];simp
         go_simp
         go_wp2
         all_goals (
          go_meet
          case rel=>exact⟨A7,n7,c7,_,hp8,by rw [eI];exact hV4,fun b hb=>.inr (hf3 b hb),fun b hb hne=>(heap_setCell_other _ _ _ _ (by simpa using hne)).trans (hX.block b hb),by simp [HR];exact hX.size,hX.os,hX.tape,hX.output⟩)
        exact HI
       exact HI
      exact HI
     refine HG (o:=_) rfl (fun K hK=>?_) ?_
     ·go_simp
      have hX:=hX.alloc hX.size (.cells #[.int .i64 id,.slice none 0 0,.bool false,.int .i64 0] 75);have hM:((W0.alloc (.cells #[] 75)).alloc (.cells #[.int .i64 id,.slice none 0 0,.bool false,.int .i64 0] 75)).heap[W0.heap.size+1]?=some (.cells #[.int .i64 id,.slice none 0 0,.bool false,.int .i64 0] 75 (0,0)):=ac _ (by simp);have hE:=ah (.cells #[.int .i64 id,.slice none 0 0,.bool false,.int .i64 0] 75) hE;refine hK.out _ _ ?_ (fun hHeld=>?_)
      ·exact hcells.out _ hX
      clear hK K
      (try simp only [HE,HA,HB,HC])
      refine wpAnyH_ready (rs:=[8]) (by kernel_rfl) (by simp) ?_
      refine HG (o:=_) rfl (fun K hK=>?_) ?_
      ·refine af _ rfl _ _ 31 rfl B 75 i2 (.agg #[.int .i64 0,.slice none 0 0,.bool false,.int .i64 0]) 4 48 Try.underlying31 hi2 hx0 hx1 hx2 rfl (by decide) (.slice (some ⟨W0.heap.size,0,none⟩) 0 0) 0 [] (by simp [go_sem];done) (bR hE (by have:=hX0.size;omega)) none 0 0 [] (by simp [go_sem,sliced];done) rfl (fun h=>absurd rfl h) (fun u hu=>by cases hu) (by unfold maxLen;omega) (by omega) (by have:=hX.size;omega) ?_
       intro v5 w5 hown5 hg5 hat5;have hV1:FmsAt w5 B v5 [] []:=⟨rfl,by simpa [aV] using hown5,fun i x y hx=>by simp at hx,fun i y b hy=>by simp at hy,fun i j y z _ hi=>by simp at hi⟩
       have hf1:∀b,FmS v5 [] b→FmS (.slice none 0 0) [] b∨w4.heap.size≤b:=fun b hb=>by
        rcases hb with hb | ⟨z,hz,hzb⟩
        ·rcases hat5 with h | h
         ·have e:some b=some (W0.heap.size):=hb.symm.trans h
          have:=HD e;have:=hX0.size;exact .inr (by omega)
         ·have e:some b=some (((W0.alloc (.cells #[] 75)).alloc (.cells #[.int .i64 id,.slice none 0 0,.bool false,.int .i64 0] 75)).heap.size):=hb.symm.trans h
          have:=HD e;have:=hX.size;exact .inr (by omega)
        ·cases hz
       have hge5:∀b,aA v5 b→w4.heap.size≤b:=fun b hb=>by
        rcases hat5 with h | h
        ·have e:some b=some (W0.heap.size):=hb.symm.trans h
         have:=HD e;have:=hX0.size;omega
        ·have e:some b=some (((W0.alloc (.cells #[] 75)).alloc (.cells #[.int .i64 id,.slice none 0 0,.bool false,.int .i64 0] 75)).heap.size):=hb.symm.trans h
         have:=HD e;have:=hX.size;omega
       have hM:=(hg5.block (W0.heap.size+1) (aB hM) (fun h=>by have e:W0.heap.size+1=W0.heap.size:=HD h;omega)).trans hM;have hX:=hX.grown hg5 hX.size (fun k hk=>by have e:W0.heap.size=k:=HD hk;have:=hX0.size;omega);obtain⟨A5,n5,c5,rfl⟩:=am hV1.own;clear hat5;refine hK.out _ _ ?_ (fun hHeld=>?_)
       ·exact hcells.out _ hX
       clear hK K
       (try simp only [HE,HA,HB,HC])
       refine wpAnyH_ready (rs:=[13]) (by kernel_rfl) (by simp) ?_
       refine HG (o:=_) rfl (fun K hK=>?_) ?_
       ·refine af _ rfl _ _ 31 rfl B 75 i2 (.agg #[.int .i64 0,.slice none 0 0,.bool false,.int .i64 0]) 4 48 Try.underlying31 hi2 hx0 hx1 hx2 rfl (by decide) (.slice A5 n5 c5) _ _ (by simp [go_sem];done) hV1.own (some ⟨W0.heap.size+1,0,none⟩) 1 1 [.int .i64 id,.slice none 0 0,.bool false,.int .i64 0] (by simp [go_sem];done) rfl (fun _=>⟨_,_,rfl,cg hM⟩) (by intro u hu;simp at hu;rcases hu with rfl | rfl | rfl | rfl<;>rfl) (by unfold maxLen;simp;try omega) (by simp;try omega) (by have:=hX.size;omega) ?_
        intro v6 w6 hown6 hg6 hat6;have hV2:=cf (x:=(id,[],false,0)) (y:=.slice none 0 0) hV1 (by have:=hX.size;omega) hown6 hg6 hat6 (dR _ _ _ _) (fun b hb=>by cases hb);have hf2:∀b,FmS v6 ([]++[.slice none 0 0]) b→FmS (.slice none 0 0) [] b∨w4.heap.size≤b:=fun b hb=>by
         rcases hb with hb | ⟨z,hz,hzb⟩
         ·rcases hat6 with h | h
          ·exact hf1 b (.inl (hb.symm.trans h).symm)
          ·have e:some b=some (w5.heap.size):=hb.symm.trans h
           have:=HD e;have:=hX.size;exact .inr (by omega)
         ·rcases HN.1 hz with hz | hz
          ·exact hf1 b (.inr ⟨z,hz,hzb⟩)
          ·obtain rfl:=HO.1 hz
           cases hzb
        have hge6:∀b,aA v6 b→w4.heap.size≤b:=fun b hb=>by
         rcases hat6 with h | h
         ·exact hge5 b (h.symm.trans hb)
         ·have e:some b=some (w5.heap.size):=hb.symm.trans h
          have:=HD e;have:=hX.size;omega
        have hX:=hX.grown hg6 hX.size (fun k hk=>hge5 k hk);obtain⟨A6,n6,c6,rfl⟩:=am hV2.own;clear hat6;refine hK.out _ _ ?_ (fun hHeld=>?_)
        ·exact hcells.out _ hX
        clear hK K
        (try simp only [HE,HA,HB,HC])
        refine wpAnyH_ready (rs:=[20]) (by kernel_rfl) (by simp) ?_
        refine HG (o:=_) rfl (fun K hK=>?_) ?_
        ·refine af _ rfl _ _ 31 rfl B 75 i2 (.agg #[.int .i64 0,.slice none 0 0,.bool false,.int .i64 0]) 4 48 Try.underlying31 hi2 hx0 hx1 hx2 rfl (by decide) (.slice A6 n6 c6) _ _ (by simp [go_sem];done) hV2.own none 0 0 [] (by simp [go_sem,sliced];done) rfl (fun h=>absurd rfl h) (fun u hu=>by cases hu) (by unfold maxLen;simp;try omega) (by simp;try omega) (by have:=hX.size;omega) ?_
         intro v7 w7 hown7 hg7 hat7;have hV3:=bE hV2 (m:=[]) (zs:=[]) (by have:=hX.size;omega) (by simpa [aV] using hown7) hg7 hat7 rfl (fun i x y hx=>by simp at hx) (fun i y b hj=>by simp at hj) (fun i j y z _ hi=>by simp at hi);have hf3:∀b,FmS v7 (([]++[.slice none 0 0])++[]) b→w4.heap.size≤b:=fun b hb=>by
          rcases hb with hb | ⟨z,hz,hzb⟩
          ·rcases hat7 with h | h
           ·exact hge6 b (h.symm.trans hb)
           ·have e:some b=some (w6.heap.size):=hb.symm.trans h
            have:=HD e;have:=hX.size;omega
          ·simp at hz
           subst hz;cases hzb
         have hX:=hX.grown hg7 hX.size (fun k hk=>hge6 k hk);obtain⟨A7,n7,c7,rfl⟩:=am hV3.own;clear hat7;refine hK.out _ _ ?_ (fun hHeld=>?_)
         ·exact hcells.out _ hX
         clear hK K
         (try simp only [HE,HA,HB,HC])
         refine wpAnyH_take (i:=21) (oi:=_) (v:=?vn19) rfl (by kernel_rfl) (by kernel_rfl) (by kernel_rfl) (fun _ _ _ h=>h) (HH ⟨by rfl,?yn19⟩) hHeld ?rn19
         case yn19=>(intro w0 hSw;obtain⟨hSw0,hSw1⟩:=hSw;go_simp;try with_reducible rfl)
         (try simp only [HE,HA,HB,HC])
         refine wpAnyH_take (i:=22) (oi:=_) (v:=?vn20) rfl (by kernel_rfl) (by kernel_rfl) (by kernel_rfl) (fun _ _ _ h=>h) (HH ⟨by rfl,?yn20⟩) hHeld ?rn20
         case yn20=>(intro w0 hSw;obtain⟨hSw0,hSw1⟩:=hSw;go_simp;try with_reducible rfl)
         (try simp only [HE,HA,HB,HC])
         refine aL (by kernel_rfl) ?_
         have hp7:=(hX.block p hpl4).trans hp4;have g1:=(aa hp7).2.1;have h1:=(aG hp7).2.1;have hp8:(w7.setCell ⟨p,1,none⟩ (.slice A7 n7 c7)).heap[p]?=some (.cells #[.slice A bn c,.slice A7 n7 c7,.int .i64 s.2.2.1,.int .i64 s.2.2.2] 33 (0,0)):=heap_setCell_same _ _ 1 _ _ (.slice A7 n7 c7) hp7;have hV4:=hV3.keep (w':=w7.setCell ⟨p,1,none⟩ (.slice A7 n7 c7)) fun b hb=>heap_setCell_other _ _ _ _ (by
          simp;rintro rfl;have:=hf3 _ hb;omega)
         have eI:cL s.2.1 id=([]++[(id,[],false,0)])++[]:=by
          unfold cL;rw [if_neg (by simp [hhf]),hs0];simp
         go_simp
         go_wp2
         all_goals (
          go_meet
          case rel=>exact⟨A7,n7,c7,_,hp8,by rw [eI];exact hV4,fun b hb=>.inr (hf3 b hb),fun b hb hne=>(heap_setCell_other _ _ _ _ (by simpa using hne)).trans (hX.block b hb),by simp [HR];exact hX.size,hX.os,hX.tape,hX.output⟩)
        exact HI
       exact HI
      exact HI
     exact HI
    refine HG (o:=_) rfl (fun K hK=>?_) ?_
    ·go_simp
     have hX:=hX.alloc hX.size (.cells #[.int .i64 id,.slice none 0 0,.bool false,.int .i64 0] 75);have hM:(W0.alloc (.cells #[.int .i64 id,.slice none 0 0,.bool false,.int .i64 0] 75)).heap[W0.heap.size]?=some (.cells #[.int .i64 id,.slice none 0 0,.bool false,.int .i64 0] 75 (0,0)):=ac _ (by simp);refine hK.out _ _ ?_ (fun hHeld=>?_)
     ·exact hcells.out _ hX
     clear hK K
     (try simp only [HE,HA,HB,HC])
     refine wpAnyH_ready (rs:=[1]) (by kernel_rfl) (by simp) ?_
     refine HG (o:=_) rfl (fun K hK=>?_) ?_
     ·go_simp
      have hX:=hX.alloc hX.size (.cells #[] 75);have hE:((W0.alloc (.cells #[.int .i64 id,.slice none 0 0,.bool false,.int .i64 0] 75)).alloc (.cells #[] 75)).heap[W0.heap.size+1]?=some (.cells #[] 75 (0,0)):=ac _ (by simp);have hM:=ah (.cells #[] 75) hM;refine hK.out _ _ ?_ (fun hHeld=>?_)
      ·exact hcells.out _ hX
      clear hK K
      (try simp only [HE,HA,HB,HC])
      refine wpAnyH_ready (rs:=[8]) (by kernel_rfl) (by simp) ?_
      refine HG (o:=_) rfl (fun K hK=>?_) ?_
      ·refine af _ rfl _ _ 31 rfl B 75 i2 (.agg #[.int .i64 0,.slice none 0 0,.bool false,.int .i64 0]) 4 48 Try.underlying31 hi2 hx0 hx1 hx2 rfl (by decide) (.slice (some ⟨W0.heap.size+1,0,none⟩) 0 0) 0 [] (by simp [go_sem];done) (bR hE (by have:=hX0.size;omega)) none 0 0 [] (by simp [go_sem,sliced];done) rfl (fun h=>absurd rfl h) (fun u hu=>by cases hu) (by unfold maxLen;omega) (by omega) (by have:=hX.size;omega) ?_
       intro v5 w5 hown5 hg5 hat5;have hV1:FmsAt w5 B v5 [] []:=⟨rfl,by simpa [aV] using hown5,fun i x y hx=>by simp at hx,fun i y b hy=>by simp at hy,fun i j y z _ hi=>by simp at hi⟩
       have hf1:∀b,FmS v5 [] b→FmS (.slice none 0 0) [] b∨w4.heap.size≤b:=fun b hb=>by
        rcases hb with hb | ⟨z,hz,hzb⟩
        ·rcases hat5 with h | h
         ·have e:some b=some (W0.heap.size+1):=hb.symm.trans h
          have:=HD e;have:=hX0.size;exact .inr (by omega)
         ·have e:some b=some (((W0.alloc (.cells #[.int .i64 id,.slice none 0 0,.bool false,.int .i64 0] 75)).alloc (.cells #[] 75)).heap.size):=hb.symm.trans h
          have:=HD e;have:=hX.size;exact .inr (by omega)
        ·cases hz
       have hge5:∀b,aA v5 b→w4.heap.size≤b:=fun b hb=>by
        rcases hat5 with h | h
        ·have e:some b=some (W0.heap.size+1):=hb.symm.trans h
         have:=HD e;have:=hX0.size;omega
        ·have e:some b=some (((W0.alloc (.cells #[.int .i64 id,.slice none 0 0,.bool false,.int .i64 0] 75)).alloc (.cells #[] 75)).heap.size):=hb.symm.trans h
         have:=HD e;have:=hX.size;omega
       have hM:=(hg5.block (W0.heap.size) (aB hM) (fun h=>by have e:W0.heap.size=W0.heap.size+1:=HD h;omega)).trans hM;have hX:=hX.grown hg5 hX.size (fun k hk=>by have e:W0.heap.size+1=k:=HD hk;have:=hX0.size;omega);obtain⟨A5,n5,c5,rfl⟩:=am hV1.own;clear hat5;refine hK.out _ _ ?_ (fun hHeld=>?_)
       ·exact hcells.out _ hX
       clear hK K
       (try simp only [HE,HA,HB,HC])
       refine wpAnyH_ready (rs:=[13]) (by kernel_rfl) (by simp) ?_
       refine HG (o:=_) rfl (fun K hK=>?_) ?_
       ·refine af _ rfl _ _ 31 rfl B 75 i2 (.agg #[.int .i64 0,.slice none 0 0,.bool false,.int .i64 0]) 4 48 Try.underlying31 hi2 hx0 hx1 hx2 rfl (by decide) (.slice A5 n5 c5) _ _ (by simp [go_sem];done) hV1.own (some ⟨W0.heap.size,0,none⟩) 1 1 [.int .i64 id,.slice none 0 0,.bool false,.int .i64 0] (by simp [go_sem];done) rfl (fun _=>⟨_,_,rfl,cg hM⟩) (by intro u hu;simp at hu;rcases hu with rfl | rfl | rfl | rfl<;>rfl) (by unfold maxLen;simp;try omega) (by simp;try omega) (by have:=hX.size;omega) ?_
        intro v6 w6 hown6 hg6 hat6;have hV2:=cf (x:=(id,[],false,0)) (y:=.slice none 0 0) hV1 (by have:=hX.size;omega) hown6 hg6 hat6 (dR _ _ _ _) (fun b hb=>by cases hb);have hf2:∀b,FmS v6 ([]++[.slice none 0 0]) b→FmS (.slice none 0 0) [] b∨w4.heap.size≤b:=fun b hb=>by
         rcases hb with hb | ⟨z,hz,hzb⟩
         ·rcases hat6 with h | h
          ·exact hf1 b (.inl (hb.symm.trans h).symm)
          ·have e:some b=some (w5.heap.size):=hb.symm.trans h
           have:=HD e;have:=hX.size;exact .inr (by omega)
         ·rcases HN.1 hz with hz | hz
          ·exact hf1 b (.inr ⟨z,hz,hzb⟩)
          ·obtain rfl:=HO.1 hz
           cases hzb
        have hge6:∀b,aA v6 b→w4.heap.size≤b:=fun b hb=>by
         rcases hat6 with h | h
         ·exact hge5 b (h.symm.trans hb)
         ·have e:some b=some (w5.heap.size):=hb.symm.trans h
          have:=HD e;have:=hX.size;omega
        have hX:=hX.grown hg6 hX.size (fun k hk=>hge5 k hk);obtain⟨A6,n6,c6,rfl⟩:=am hV2.own;clear hat6;refine hK.out _ _ ?_ (fun hHeld=>?_)
        ·exact hcells.out _ hX
        clear hK K
        (try simp only [HE,HA,HB,HC])
        refine wpAnyH_ready (rs:=[20]) (by kernel_rfl) (by simp) ?_
        refine HG (o:=_) rfl (fun K hK=>?_) ?_
        ·refine af _ rfl _ _ 31 rfl B 75 i2 (.agg #[.int .i64 0,.slice none 0 0,.bool false,.int .i64 0]) 4 48 Try.underlying31 hi2 hx0 hx1 hx2 rfl (by decide) (.slice A6 n6 c6) _ _ (by simp [go_sem];done) hV2.own none 0 0 [] (by simp [go_sem,sliced];done) rfl (fun h=>absurd rfl h) (fun u hu=>by cases hu) (by unfold maxLen;simp;try omega) (by simp;try omega) (by have:=hX.size;omega) ?_
         intro v7 w7 hown7 hg7 hat7;have hV3:=bE hV2 (m:=[]) (zs:=[]) (by have:=hX.size;omega) (by simpa [aV] using hown7) hg7 hat7 rfl (fun i x y hx=>by simp at hx) (fun i y b hj=>by simp at hj) (fun i j y z _ hi=>by simp at hi);have hf3:∀b,FmS v7 (([]++[.slice none 0 0])++[]) b→w4.heap.size≤b:=fun b hb=>by
          rcases hb with hb | ⟨z,hz,hzb⟩
          ·rcases hat7 with h | h
           ·exact hge6 b (h.symm.trans hb)
           ·have e:some b=some (w6.heap.size):=hb.symm.trans h
            have:=HD e;have:=hX.size;omega
          ·simp at hz
           subst hz;cases hzb
         have hX:=hX.grown hg7 hX.size (fun k hk=>hge6 k hk);obtain⟨A7,n7,c7,rfl⟩:=am hV3.own;clear hat7;refine hK.out _ _ ?_ (fun hHeld=>?_)
         ·exact hcells.out _ hX
         clear hK K
         (try simp only [HE,HA,HB,HC])
         refine wpAnyH_take (i:=21) (oi:=_) (v:=?vn21) rfl (by kernel_rfl) (by kernel_rfl) (by kernel_rfl) (fun _ _ _ h=>h) (HH ⟨by rfl,?yn21⟩) hHeld ?rn21
         case yn21=>(intro w0 hSw;obtain⟨hSw0,hSw1⟩:=hSw;go_simp;try with_reducible rfl)
         (try simp only [HE,HA,HB,HC])
         refine wpAnyH_take (i:=22) (oi:=_) (v:=?vn22) rfl (by kernel_rfl) (by kernel_rfl) (by kernel_rfl) (fun _ _ _ h=>h) (HH ⟨by rfl,?yn22⟩) hHeld ?rn22
         case yn22=>(intro w0 hSw;obtain⟨hSw0,hSw1⟩:=hSw;go_simp;try with_reducible rfl)
         (try simp only [HE,HA,HB,HC])
         refine aL (by kernel_rfl) ?_
         have hp7:=(hX.block p hpl4).trans hp4;have g1:=(aa hp7).2.1;have h1:=(aG hp7).2.1;have hp8:(w7.setCell ⟨p,1,none⟩ (.slice A7 n7 c7)).heap[p]?=some (.cells #[.slice A bn c,.slice A7 n7 c7,.int .i64 s.2.2.1,.int .i64 s.2.2.2] 33 (0,0)):=heap_setCell_same _ _ 1 _ _ (.slice A7 n7 c7) hp7;have hV4:=hV3.keep (w':=w7.setCell ⟨p,1,none⟩ (.slice A7 n7 c7)) fun b hb=>heap_setCell_other _ _ _ _ (by
          simp;rintro rfl;have:=hf3 _ hb;omega)
         have eI:cL s.2.1 id=([]++[(id,[],false,0)])++[]:=by
          unfold cL;rw [if_neg (by simp [hhf]),hs0];simp
         go_simp
         go_wp2
         all_goals (
          go_meet
          case rel=>exact⟨A7,n7,c7,_,hp8,by rw [eI];exact hV4,fun b hb=>.inr (hf3 b hb),fun b hb hne=>(heap_setCell_other _ _ _ _ (by simpa using hne)).trans (hX.block b hb),by simp [HR];exact hX.size,hX.os,hX.tape,hX.output⟩)
        exact HI
       exact HI
      exact HI
     exact HI
    exact HI
   ·simp only [Ii,true_and] at eA
    obtain⟨rfl,rfl⟩:=eA;have hbc:at_≤c':=HX hat (ji hF4).1;have hcl:s.2.1.length≤c':=(ji hF4).1;refine bO (l:=[_,_,_,_,_,_,_,_,_,_,_,_,_,_,_,_,_,_,_,_,_,_,_]) (o:=_) (S:=fun w'=>w'.cell? ⟨p,1,none⟩=some (.slice (some ⟨g,0,none⟩) s.2.1.length c')∧w'.cell? ⟨w.heap.size,1,none⟩=some (.int .i64 id)) (by kernel_rfl) (by kernel_rfl) hSd (fun hHeld=>?_)
    change wpAnyH _ _ _ _ _ 23 (Ib 23 false) _ _
    generalize w4.drew=W0 at *;have hX:=hX0;refine wpAnyH_take (i:=0) (oi:=_) (v:=?va1) rfl (by kernel_rfl) (by kernel_rfl) (by kernel_rfl) (fun _ _ _ h=>h) (HH ⟨by rfl,?ya1⟩) hHeld ?ra1
    case ya1=>(intro w0 hSw;obtain⟨hSw0,hSw1⟩:=hSw;go_simp;try with_reducible rfl)
    (try simp only [HE,HA,HB,HC])
    refine wpAnyH_take (i:=2) (oi:=_) (v:=?va2) rfl (by kernel_rfl) (by kernel_rfl) (by kernel_rfl) (fun _ _ _ h=>h) (HH ⟨by rfl,?ya2⟩) hHeld ?ra2
    case ya2=>(intro w0 hSw;obtain⟨hSw0,hSw1⟩:=hSw;go_simp;try with_reducible rfl)
    (try simp only [HE,HA,HB,HC])
    refine wpAnyH_take (i:=3) (oi:=_) (v:=?va3) rfl (by kernel_rfl) (by kernel_rfl) (by kernel_rfl) (fun _ _ _ h=>h) (HH ⟨by rfl,?ya3⟩) hHeld ?ra3
    case ya3=>(intro w0 hSw;obtain⟨hSw0,hSw1⟩:=hSw;go_simp;try with_reducible rfl)
    (try simp only [HE,HA,HB,HC])
    refine wpAnyH_take (i:=4) (oi:=_) (v:=?va4) rfl (by kernel_rfl) (by kernel_rfl) (by kernel_rfl) (fun _ _ _ h=>h) (HH ⟨by rfl,?ya4⟩) hHeld ?ra4
    case ya4=>(intro w0 hSw;obtain⟨hSw0,hSw1⟩:=hSw;go_simp;try with_reducible rfl)
    (try simp only [HE,HA,HB,HC])
    refine wpAnyH_take (i:=5) (oi:=_) (v:=?va5) rfl (by kernel_rfl) (by kernel_rfl) (by kernel_rfl) (fun _ _ _ h=>h) (HH ⟨by rfl,?ya5⟩) hHeld ?ra5
    case ya5=>(intro w0 hSw;obtain⟨hSw0,hSw1⟩:=hSw;go_simp;try with_reducible rfl)
    (try simp only [HE,HA,HB,HC])
    refine wpAnyH_take (i:=6) (oi:=_) (v:=?va6) rfl (by kernel_rfl) (by kernel_rfl) (by kernel_rfl) (fun _ _ _ h=>h) (HH ⟨by rfl,?ya6⟩) hHeld ?ra6
    case ya6=>(intro w0 hSw;obtain⟨hSw0,hSw1⟩:=hSw;go_simp;try with_reducible rfl)
    (try simp only [HE,HA,HB,HC])
    refine wpAnyH_take (i:=7) (oi:=_) (v:=?va7) rfl (by kernel_rfl) (by kernel_rfl) (by kernel_rfl) (fun _ _ _ h=>h) (HH ⟨by rfl,?ya7⟩) hHeld ?ra7
    case ya7=>(intro w0 hSw;obtain⟨hSw0,hSw1⟩:=hSw;go_simp;try with_reducible rfl)
    (try simp only [HE,HA,HB,HC])
    refine wpAnyH_take (i:=9) (oi:=_) (v:=?va8) rfl (by kernel_rfl) (by kernel_rfl) (by kernel_rfl) (fun _ _ _ h=>h) (HH ⟨by rfl,?ya8⟩) hHeld ?ra8
    case ya8=>(intro w0 hSw;obtain⟨hSw0,hSw1⟩:=hSw;go_simp;try with_reducible rfl)
    (try simp only [HE,HA,HB,HC])
    refine wpAnyH_take (i:=10) (oi:=_) (v:=?va9) rfl (by kernel_rfl) (by kernel_rfl) (by kernel_rfl) (fun _ _ _ h=>h) (HH ⟨by rfl,?ya9⟩) hHeld ?ra9
    case ya9=>(intro w0 hSw;obtain⟨hSw0,hSw1⟩:=hSw;go_simp;try with_reducible rfl)
    (try simp only [HE,HA,HB,HC])
    refine wpAnyH_take (i:=11) (oi:=_) (v:=?va10) rfl (by kernel_rfl) (by kernel_rfl) (by kernel_rfl) (fun _ _ _ h=>h) (HH ⟨by rfl,?ya10⟩) hHeld ?ra10
    case ya10=>(intro w0 hSw;obtain⟨hSw0,hSw1⟩:=hSw;go_simp;try with_reducible rfl)
    (try simp only [HE,HA,HB,HC])
    refine wpAnyH_take (i:=14) (oi:=_) (v:=?va11) rfl (by kernel_rfl) (by kernel_rfl) (by kernel_rfl) (fun _ _ _ h=>h) (HH ⟨by rfl,?ya11⟩) hHeld ?ra11
    case ya11=>(intro w0 hSw;obtain⟨hSw0,hSw1⟩:=hSw;go_simp;try with_reducible rfl)
    (try simp only [HE,HA,HB,HC])
    refine wpAnyH_take (i:=15) (oi:=_) (v:=?va12) rfl (by kernel_rfl) (by kernel_rfl) (by kernel_rfl) (fun _ _ _ h=>h) (HH ⟨by rfl,?ya12⟩) hHeld ?ra12
    case ya12=>(intro w0 hSw;obtain⟨hSw0,hSw1⟩:=hSw;go_simp;try with_reducible rfl)
    (try simp only [HE,HA,HB,HC])
    refine wpAnyH_take (i:=16) (oi:=_) (v:=?va13) rfl (by kernel_rfl) (by kernel_rfl) (by kernel_rfl) (fun _ _ _ h=>h) (HH ⟨by rfl,?ya13⟩) hHeld ?ra13
    case ya13=>(intro w0 hSw;obtain⟨hSw0,hSw1⟩:=hSw;go_simp;try with_reducible rfl)
    (try simp only [HE,HA,HB,HC])
    refine wpAnyH_take (i:=17) (oi:=_) (v:=?va14) rfl (by kernel_rfl) (by kernel_rfl) (by kernel_rfl) (fun _ _ _ h=>h) (HH ⟨by rfl,?ya14⟩) hHeld ?ra14
    case ya14=>(intro w0 hSw;obtain⟨hSw0,hSw1⟩:=hSw;go_simp;try with_reducible rfl)
    (try simp only [HE,HA,HB,HC])
    refine wpAnyH_take (i:=18) (oi:=_) (v:=?va15) rfl (by kernel_rfl) (by kernel_rfl) (by kernel_rfl) (fun _ _ _ h=>h) (HH ⟨by rfl,?ya15⟩) hHeld ?ra15
    case ya15=>(intro w0 hSw;obtain⟨hSw0,hSw1⟩:=hSw;go_simp;try with_reducible rfl)
    (try simp only [HE,HA,HB,HC])
    refine wpAnyH_take (i:=19) (oi:=_) (v:=?va16) rfl (by kernel_rfl) (by kernel_rfl) (by kernel_rfl) (fun _ _ _ h=>h) (HH ⟨by rfl,?ya16⟩) hHeld ?ra16
    case ya16=>(intro w0 hSw;obtain⟨hSw0,hSw1⟩:=hSw;go_simp;try with_reducible rfl)
    (try simp only [HE,HA,HB,HC])
    refine wpAnyH_ready (rs:=[1,12]) (by kernel_rfl) (by simp) ?_
    refine HG (o:=_) rfl (fun K hK=>?_) ?_
    ·go_simp
     have hX:=hX.alloc hX.size (.cells #[] 75);have hE:(W0.alloc (.cells #[] 75)).heap[W0.heap.size]?=some (.cells #[] 75 (0,0)):=ac _ (by simp);refine hK.out _ _ ?_ (fun hHeld=>?_)
     ·exact hcells.out _ hX
     clear hK K
     (try simp only [HE,HA,HB,HC])
     refine wpAnyH_ready (rs:=[8,12]) (by kernel_rfl) (by simp) ?_
     refine HG (o:=_) rfl (fun K hK=>?_) ?_
     ·refine af _ rfl _ _ 31 rfl B 75 i2 (.agg #[.int .i64 0,.slice none 0 0,.bool false,.int .i64 0]) 4 48 Try.underlying31 hi2 hx0 hx1 hx2 rfl (by decide) (.slice (some ⟨W0.heap.size,0,none⟩) 0 0) 0 [] (by simp [go_sem];done) (bR hE (by have:=hX0.size;omega)) (some ⟨g,0,none⟩) at_ c' (aV (s.2.1.take at_) (ys.take at_)) (by simp [go_sem,sliced];done) (by rw [bD _ _ (by simp [hF4.len]),HS,HU hat]) (fun _=>⟨g,0,rfl,gH (hfmsX.out _ hX) hat⟩) (ck _ _ fun y hy=>cR hF4 y (HL hy)) (by unfold maxLen;omega) (by omega) (by have:=hX.size;omega) ?_
      intro v5 w5 hown5 hg5 hat5;have htk:=iR (hfmsX.out _ hX) at_;have hV1:=bE (dI hE (B:=B) (by have:=hX0.size;omega)) (m:=s.2.1.take at_) (zs:=ys.take at_) (by have:=hX.size;omega) (by rw [HS,HU hat];exact hown5) hg5 hat5 (by simp [hF4.len]) htk.1 (fun j y b hj hb=>by
       obtain⟨h1,_⟩:=htk.2.1 j y b hj hb;have h2:=(hlt4 b (.inr ⟨y,HL (HJ hj),hb⟩)).2;refine⟨h1,HQ h2 hX.size,fun h=>?_⟩
       rcases h with h | ⟨_,h,_⟩
       ·have e:W0.heap.size=b:=HD h
        have:=hX0.size;omega
       ·cases h) htk.2.2
      rw [HV,HV] at hV1;have hf1:∀b,FmS v5 (ys.take at_) b→FmS (.slice (some ⟨g,0,none⟩) s.2.1.length c') ys b∨w4.heap.size≤b:=fun b hb=>by
       rcases hb with hb | ⟨z,hz,hzb⟩
       ·rcases hat5 with h | h
        ·have e:some b=some (W0.heap.size):=hb.symm.trans h
         have:=HD e;have:=hX0.size;exact .inr (by omega)
        ·have e:some b=some ((W0.alloc (.cells #[] 75)).heap.size):=hb.symm.trans h
         have:=HD e;have:=hX.size;exact .inr (by omega)
       ·exact .inl (.inr ⟨z,HL hz,hzb⟩)
      have hge5:∀b,aA v5 b→w4.heap.size≤b:=fun b hb=>by
       rcases hat5 with h | h
       ·have e:some b=some (W0.heap.size):=hb.symm.trans h
        have:=HD e;have:=hX0.size;omega
       ·have e:some b=some ((W0.alloc (.cells #[] 75)).heap.size):=hb.symm.trans h
        have:=HD e;have:=hX.size;omega
      have hX:=hX.grown hg5 hX.size (fun k hk=>by have e:W0.heap.size=k:=HD hk;have:=hX0.size;omega);obtain⟨A5,n5,c5,rfl⟩:=am hV1.own;clear hat5;refine hK.out _ _ ?_ (fun hHeld=>?_)
      ·exact hcells.out _ hX
      clear hK K
      (try simp only [HE,HA,HB,HC])
      refine wpAnyH_ready (rs:=[12]) (by kernel_rfl) (by simp) ?_
      refine HG (o:=_) rfl (fun K hK=>?_) ?_
      ·go_simp
       have hX:=hX.alloc hX.size (.cells #[.int .i64 id,.slice none 0 0,.bool false,.int .i64 0] 75);have hM:(w5.alloc (.cells #[.int .i64 id,.slice none 0 0,.bool false,.int .i64 0] 75)).heap[w5.heap.size]?=some (.cells #[.int .i64 id,.slice none 0 0,.bool false,.int .i64 0] 75 (0,0)):=ac _ (by simp);have hV1:=hV1.keep (w':=(w5.alloc (.cells #[.int .i64 id,.slice none 0 0,.bool false,.int .i64 0] 75))) fun b hb=>fi _ (hV1.lt b hb).2
       refine hK.out _ _ ?_ (fun hHeld=>?_)
       ·exact hcells.out _ hX
       clear hK K
       (try simp only [HE,HA,HB,HC])
       refine wpAnyH_ready (rs:=[13]) (by kernel_rfl) (by simp) ?_
       refine HG (o:=_) rfl (fun K hK=>?_) ?_
       ·refine af _ rfl _ _ 31 rfl B 75 i2 (.agg #[.int .i64 0,.slice none 0 0,.bool false,.int .i64 0]) 4 48 Try.underlying31 hi2 hx0 hx1 hx2 rfl (by decide) (.slice A5 n5 c5) _ _ (by simp [go_sem];done) hV1.own (some ⟨w5.heap.size,0,none⟩) 1 1 [.int .i64 id,.slice none 0 0,.bool false,.int .i64 0] (by simp [go_sem];done) rfl (fun _=>⟨_,_,rfl,cg hM⟩) (by intro u hu;simp at hu;rcases hu with rfl | rfl | rfl | rfl<;>rfl) (by unfold maxLen;simp;try omega) (by simp;try omega) (by have:=hX.size;omega) ?_
        intro v6 w6 hown6 hg6 hat6;have hV2:=cf (x:=(id,[],false,0)) (y:=.slice none 0 0) hV1 (by have:=hX.size;omega) hown6 hg6 hat6 (dR _ _ _ _) (fun b hb=>by cases hb);have hf2:∀b,FmS v6 (ys.take at_++[.slice none 0 0]) b→FmS (.slice (some ⟨g,0,none⟩) s.2.1.length c') ys b∨w4.heap.size≤b:=fun b hb=>by
         rcases hb with hb | ⟨z,hz,hzb⟩
         ·rcases hat6 with h | h
          ·exact hf1 b (.inl (hb.symm.trans h).symm)
          ·have e:some b=some ((w5.alloc (.cells #[.int .i64 id,.slice none 0 0,.bool false,.int .i64 0] 75)).heap.size):=hb.symm.trans h
           have:=HD e;have:=hX.size;exact .inr (by omega)
         ·rcases HN.1 hz with hz | hz
          ·exact hf1 b (.inr ⟨z,hz,hzb⟩)
          ·obtain rfl:=HO.1 hz
           cases hzb
        have hge6:∀b,aA v6 b→w4.heap.size≤b:=fun b hb=>by
         rcases hat6 with h | h
         ·exact hge5 b (h.symm.trans hb)
         ·have e:some b=some ((w5.alloc (.cells #[.int .i64 id,.slice none 0 0,.bool false,.int .i64 0] 75)).heap.size):=hb.symm.trans h
          have:=HD e;have:=hX.size;omega
        have hX:=hX.grown hg6 hX.size (fun k hk=>hge5 k hk);obtain⟨A6,n6,c6,rfl⟩:=am hV2.own;clear hat6;refine hK.out _ _ ?_ (fun hHeld=>?_)
        ·exact hcells.out _ hX
        clear hK K
        (try simp only [HE,HA,HB,HC])
        refine wpAnyH_ready (rs:=[20]) (by kernel_rfl) (by simp) ?_
        refine HG (o:=_) rfl (fun K hK=>?_) ?_
        ·refine af _ rfl _ _ 31 rfl B 75 i2 (.agg #[.int .i64 0,.slice none 0 0,.bool false,.int .i64 0]) 4 48 Try.underlying31 hi2 hx0 hx1 hx2 rfl (by decide) (.slice A6 n6 c6) _ _ (by simp [go_sem];done) hV2.own (if c'=at_ then some ⟨g,0,none⟩ else some ⟨g,at_*4,none⟩) (s.2.1.length - at_) (c' - at_) (aV (s.2.1.drop at_) (ys.drop at_)) (by simp [go_sem,sliced];done) (by rw [bD _ _ (by simp [hF4.len]),HT]) (fun h0=>⟨g,at_*4,by rw [if_neg (by omega)],fP (hfmsX.out _ hX) at_ hat⟩) (ck _ _ fun y hy=>cR hF4 y (HM hy)) (by unfold maxLen;simp;try omega) (by simp;try omega) (by have:=hX.size;omega) ?_
         intro v7 w7 hown7 hg7 hat7;have hdr:=gZ (hfmsX.out _ hX) at_;have hV3:=bE hV2 (m:=s.2.1.drop at_) (zs:=ys.drop at_) (by have:=hX.size;omega) (by rw [HT];exact hown7) hg7 hat7 (by simp [hF4.len]) hdr.1 (fun j y b hj hb=>by
          obtain⟨h1,h2,h3,h4⟩:=hdr.2.1 j y b hj hb;have h5:=(hlt4 b (.inr ⟨y,HM (HJ hj),hb⟩)).2;refine⟨h1,h2,fun h=>?_⟩
          rcases h with h | ⟨z,hz,hzb⟩
          ·have:=hge6 b h
           omega
          ·rcases HN.1 hz with hz | hz
           ·exact h4 at_ (HW _) z hz hzb
           ·obtain rfl:=HO.1 hz
            cases hzb) hdr.2.2
         have hf3:∀b,FmS v7 ((ys.take at_++[.slice none 0 0])++ys.drop at_) b→FmS (.slice (some ⟨g,0,none⟩) s.2.1.length c') ys b∨w4.heap.size≤b:=fun b hb=>by
          rcases hb with hb | ⟨z,hz,hzb⟩
          ·rcases hat7 with h | h
           ·exact hf2 b (.inl (hb.symm.trans h).symm)
           ·have e:some b=some (w6.heap.size):=hb.symm.trans h
            have:=HD e;have:=hX.size;exact .inr (by omega)
          ·rcases HN.1 hz with hz | hz
           ·exact hf2 b (.inr ⟨z,hz,hzb⟩)
           ·exact .inl (.inr ⟨z,HM hz,hzb⟩)
         have hX:=hX.grown hg7 hX.size (fun k hk=>hge6 k hk);obtain⟨A7,n7,c7,rfl⟩:=am hV3.own;clear hat7;refine hK.out _ _ ?_ (fun hHeld=>?_)
         ·exact hcells.out _ hX
         clear hK K
         (try simp only [HE,HA,HB,HC])
         refine wpAnyH_take (i:=21) (oi:=_) (v:=?va17) rfl (by kernel_rfl) (by kernel_rfl) (by kernel_rfl) (fun _ _ _ h=>h) (HH ⟨by rfl,?ya17⟩) hHeld ?ra17
         case ya17=>(intro w0 hSw;obtain⟨hSw0,hSw1⟩:=hSw;go_simp;try with_reducible rfl)
         (try simp only [HE,HA,HB,HC])
         refine wpAnyH_take (i:=22) (oi:=_) (v:=?va18) rfl (by kernel_rfl) (by kernel_rfl) (by kernel_rfl) (fun _ _ _ h=>h) (HH ⟨by rfl,?ya18⟩) hHeld ?ra18
         case ya18=>(intro w0 hSw;obtain⟨hSw0,hSw1⟩:=hSw;go_simp;try with_reducible rfl)
         (try simp only [HE,HA,HB,HC])
         refine aL (by kernel_rfl) ?_
         have hp7:=(hX.block p hpl4).trans hp4;have g1:=(aa hp7).2.1;have h1:=(aG hp7).2.1;have hp8:(w7.setCell ⟨p,1,none⟩ (.slice A7 n7 c7)).heap[p]?=some (.cells #[.slice A bn c,.slice A7 n7 c7,.int .i64 s.2.2.1,.int .i64 s.2.2.2] 33 (0,0)):=heap_setCell_same _ _ 1 _ _ (.slice A7 n7 c7) hp7;have hV4:=hV3.keep (w':=w7.setCell ⟨p,1,none⟩ (.slice A7 n7 c7)) fun b hb=>heap_setCell_other _ _ _ _ (by
          simp;rintro rfl;exact(hf3 _ hb).elim (fun h=>hnp (.inr h)) fun h=>by omega)
         have eI:cL s.2.1 id=(s.2.1.take at_++[(id,[],false,0)])++s.2.1.drop at_:=by
          unfold cL;rw [if_neg (by simp [hhf]),←hatH.out];simp
         go_simp
         go_wp2
         all_goals (
          go_meet
          case rel=>exact⟨A7,n7,c7,_,hp8,by rw [eI];exact hV4,hf3,fun b hb hne=>(heap_setCell_other _ _ _ _ (by simpa using hne)).trans (hX.block b hb),by simp [HR];exact hX.size,hX.os,hX.tape,hX.output⟩)
        exact HI
       exact HI
      exact HI
     refine HG (o:=_) rfl (fun K hK=>?_) ?_
     ·go_simp
      have hX:=hX.alloc hX.size (.cells #[.int .i64 id,.slice none 0 0,.bool false,.int .i64 0] 75);have hM:((W0.alloc (.cells #[] 75)).alloc (.cells #[.int .i64 id,.slice none 0 0,.bool false,.int .i64 0] 75)).heap[W0.heap.size+1]?=some (.cells #[.int .i64 id,.slice none 0 0,.bool false,.int .i64 0] 75 (0,0)):=ac _ (by simp);have hE:=ah (.cells #[.int .i64 id,.slice none 0 0,.bool false,.int .i64 0] 75) hE;refine hK.out _ _ ?_ (fun hHeld=>?_)
      ·exact hcells.out _ hX
      clear hK K
      (try simp only [HE,HA,HB,HC])
      refine wpAnyH_ready (rs:=[8]) (by kernel_rfl) (by simp) ?_
      refine HG (o:=_) rfl (fun K hK=>?_) ?_
      ·refine af _ rfl _ _ 31 rfl B 75 i2 (.agg #[.int .i64 0,.slice none 0 0,.bool false,.int .i64 0]) 4 48 Try.underlying31 hi2 hx0 hx1 hx2 rfl (by decide) (.slice (some ⟨W0.heap.size,0,none⟩) 0 0) 0 [] (by simp [go_sem];done) (bR hE (by have:=hX0.size;omega)) (some ⟨g,0,none⟩) at_ c' (aV (s.2.1.take at_) (ys.take at_)) (by simp [go_sem,sliced];done) (by rw [bD _ _ (by simp [hF4.len]),HS,HU hat]) (fun _=>⟨g,0,rfl,gH (hfmsX.out _ hX) hat⟩) (ck _ _ fun y hy=>cR hF4 y (HL hy)) (by unfold maxLen;omega) (by omega) (by have:=hX.size;omega) ?_
       intro v5 w5 hown5 hg5 hat5;have htk:=iR (hfmsX.out _ hX) at_;have hV1:=bE (dI hE (B:=B) (by have:=hX0.size;omega)) (m:=s.2.1.take at_) (zs:=ys.take at_) (by have:=hX.size;omega) (by rw [HS,HU hat];exact hown5) hg5 hat5 (by simp [hF4.len]) htk.1 (fun j y b hj hb=>by
        obtain⟨h1,_⟩:=htk.2.1 j y b hj hb;have h2:=(hlt4 b (.inr ⟨y,HL (HJ hj),hb⟩)).2;refine⟨h1,HQ h2 hX.size,fun h=>?_⟩
        rcases h with h | ⟨_,h,_⟩
        ·have e:W0.heap.size=b:=HD h
         have:=hX0.size;omega
        ·cases h) htk.2.2
       rw [HV,HV] at hV1;have hf1:∀b,FmS v5 (ys.take at_) b→FmS (.slice (some ⟨g,0,none⟩) s.2.1.length c') ys b∨w4.heap.size≤b:=fun b hb=>by
        rcases hb with hb | ⟨z,hz,hzb⟩
        ·rcases hat5 with h | h
         ·have e:some b=some (W0.heap.size):=hb.symm.trans h
          have:=HD e;have:=hX0.size;exact .inr (by omega)
         ·have e:some b=some (((W0.alloc (.cells #[] 75)).alloc (.cells #[.int .i64 id,.slice none 0 0,.bool false,.int .i64 0] 75)).heap.size):=hb.symm.trans h
          have:=HD e;have:=hX.size;exact .inr (by omega)
        ·exact .inl (.inr ⟨z,HL hz,hzb⟩)
       have hge5:∀b,aA v5 b→w4.heap.size≤b:=fun b hb=>by
        rcases hat5 with h | h
        ·have e:some b=some (W0.heap.size):=hb.symm.trans h
         have:=HD e;have:=hX0.size;omega
        ·have e:some b=some (((W0.alloc (.cells #[] 75)).alloc (.cells #[.int .i64 id,.slice none 0 0,.bool false,.int .i64 0] 75)).heap.size):=hb.symm.trans h
         have:=HD e;have:=hX.size;omega
       have hM:=(hg5.block (W0.heap.size+1) (aB hM) (fun h=>by have e:W0.heap.size+1=W0.heap.size:=HD h;omega)).trans hM;have hX:=hX.grown hg5 hX.size (fun k hk=>by have e:W0.heap.size=k:=HD hk;have:=hX0.size;omega);obtain⟨A5,n5,c5,rfl⟩:=am hV1.own;clear hat5;refine hK.out _ _ ?_ (fun hHeld=>?_)
       ·exact hcells.out _ hX
       clear hK K
       (try simp only [HE,HA,HB,HC])
       refine wpAnyH_ready (rs:=[13]) (by kernel_rfl) (by simp) ?_
       refine HG (o:=_) rfl (fun K hK=>?_) ?_
       ·refine af _ rfl _ _ 31 rfl B 75 i2 (.agg #[.int .i64 0,.slice none 0 0,.bool false,.int .i64 0]) 4 48 Try.underlying31 hi2 hx0 hx1 hx2 rfl (by decide) (.slice A5 n5 c5) _ _ (by simp [go_sem];done) hV1.own (some ⟨W0.heap.size+1,0,none⟩) 1 1 [.int .i64 id,.slice none 0 0,.bool false,.int .i64 0] (by simp [go_sem];done) rfl (fun _=>⟨_,_,rfl,cg hM⟩) (by intro u hu;simp at hu;rcases hu with rfl | rfl | rfl | rfl<;>rfl) (by unfold maxLen;simp;try omega) (by simp;try omega) (by have:=hX.size;omega) ?_
        intro v6 w6 hown6 hg6 hat6;have hV2:=cf (x:=(id,[],false,0)) (y:=.slice none 0 0) hV1 (by have:=hX.size;omega) hown6 hg6 hat6 (dR _ _ _ _) (fun b hb=>by cases hb);have hf2:∀b,FmS v6 (ys.take at_++[.slice none 0 0]) b→FmS (.slice (some ⟨g,0,none⟩) s.2.1.length c') ys b∨w4.heap.size≤b:=fun b hb=>by
         rcases hb with hb | ⟨z,hz,hzb⟩
         ·rcases hat6 with h | h
          ·exact hf1 b (.inl (hb.symm.trans h).symm)
          ·have e:some b=some (w5.heap.size):=hb.symm.trans h
           have:=HD e;have:=hX.size;exact .inr (by omega)
         ·rcases HN.1 hz with hz | hz
          ·exact hf1 b (.inr ⟨z,hz,hzb⟩)
          ·obtain rfl:=HO.1 hz
           cases hzb
        have hge6:∀b,aA v6 b→w4.heap.size≤b:=fun b hb=>by
         rcases hat6 with h | h
         ·exact hge5 b (h.symm.trans hb)
         ·have e:some b=some (w5.heap.size):=hb.symm.trans h
          have:=HD e;have:=hX.size;omega
        have hX:=hX.grown hg6 hX.size (fun k hk=>hge5 k hk);obtain⟨A6,n6,c6,rfl⟩:=am hV2.own;clear hat6;refine hK.out _ _ ?_ (fun hHeld=>?_)
        ·exact hcells.out _ hX
        clear hK K
        (try simp only [HE,HA,HB,HC])
        refine wpAnyH_ready (rs:=[20]) (by kernel_rfl) (by simp) ?_
        refine HG (o:=_) rfl (fun K hK=>?_) ?_
        ·refine af _ rfl _ _ 31 rfl B 75 i2 (.agg #[.int .i64 0,.slice none 0 0,.bool false,.int .i64 0]) 4 48 Try.underlying31 hi2 hx0 hx1 hx2 rfl (by decide) (.slice A6 n6 c6) _ _ (by simp [go_sem];done) hV2.own (if c'=at_ then some ⟨g,0,none⟩ else some ⟨g,at_*4,none⟩) (s.2.1.length - at_) (c' - at_) (aV (s.2.1.drop at_) (ys.drop at_)) (by simp [go_sem,sliced];done) (by rw [bD _ _ (by simp [hF4.len]),HT]) (fun h0=>⟨g,at_*4,by rw [if_neg (by omega)],fP (hfmsX.out _ hX) at_ hat⟩) (ck _ _ fun y hy=>cR hF4 y (HM hy)) (by unfold maxLen;simp;try omega) (by simp;try omega) (by have:=hX.size;omega) ?_
         intro v7 w7 hown7 hg7 hat7;have hdr:=gZ (hfmsX.out _ hX) at_;have hV3:=bE hV2 (m:=s.2.1.drop at_) (zs:=ys.drop at_) (by have:=hX.size;omega) (by rw [HT];exact hown7) hg7 hat7 (by simp [hF4.len]) hdr.1 (fun j y b hj hb=>by
          obtain⟨h1,h2,h3,h4⟩:=hdr.2.1 j y b hj hb;have h5:=(hlt4 b (.inr ⟨y,HM (HJ hj),hb⟩)).2;refine⟨h1,h2,fun h=>?_⟩
          rcases h with h | ⟨z,hz,hzb⟩
          ·have:=hge6 b h
           omega
          ·rcases HN.1 hz with hz | hz
           ·exact h4 at_ (HW _) z hz hzb
           ·obtain rfl:=HO.1 hz
            cases hzb) hdr.2.2
         have hf3:∀b,FmS v7 ((ys.take at_++[.slice none 0 0])++ys.drop at_) b→FmS (.slice (some ⟨g,0,none⟩) s.2.1.length c') ys b∨w4.heap.size≤b:=fun b hb=>by
          rcases hb with hb | ⟨z,hz,hzb⟩
          ·rcases hat7 with h | h
           ·exact hf2 b (.inl (hb.symm.trans h).symm)
           ·have e:some b=some (w6.heap.size):=hb.symm.trans h
            have:=HD e;have:=hX.size;exact .inr (by omega)
          ·rcases HN.1 hz with hz | hz
           ·exact hf2 b (.inr ⟨z,hz,hzb⟩)
           ·exact .inl (.inr ⟨z,HM hz,hzb⟩)
         have hX:=hX.grown hg7 hX.size (fun k hk=>hge6 k hk);obtain⟨A7,n7,c7,rfl⟩:=am hV3.own;clear hat7;refine hK.out _ _ ?_ (fun hHeld=>?_)
         ·exact hcells.out _ hX
         clear hK K
         (try simp only [HE,HA,HB,HC])
         refine wpAnyH_take (i:=21) (oi:=_) (v:=?va19) rfl (by kernel_rfl) (by kernel_rfl) (by kernel_rfl) (fun _ _ _ h=>h) (HH ⟨by rfl,?ya19⟩) hHeld ?ra19
         case ya19=>(intro w0 hSw;obtain⟨hSw0,hSw1⟩:=hSw;go_simp;try with_reducible rfl)
         (try simp only [HE,HA,HB,HC])
         refine wpAnyH_take (i:=22) (oi:=_) (v:=?va20) rfl (by kernel_rfl) (by kernel_rfl) (by kernel_rfl) (fun _ _ _ h=>h) (HH ⟨by rfl,?ya20⟩) hHeld ?ra20
         case ya20=>(intro w0 hSw;obtain⟨hSw0,hSw1⟩:=hSw;go_simp;try with_reducible rfl)
         (try simp only [HE,HA,HB,HC])
         refine aL (by kernel_rfl) ?_
         have hp7:=(hX.block p hpl4).trans hp4;have g1:=(aa hp7).2.1;have h1:=(aG hp7).2.1;have hp8:(w7.setCell ⟨p,1,none⟩ (.slice A7 n7 c7)).heap[p]?=some (.cells #[.slice A bn c,.slice A7 n7 c7,.int .i64 s.2.2.1,.int .i64 s.2.2.2] 33 (0,0)):=heap_setCell_same _ _ 1 _ _ (.slice A7 n7 c7) hp7;have hV4:=hV3.keep (w':=w7.setCell ⟨p,1,none⟩ (.slice A7 n7 c7)) fun b hb=>heap_setCell_other _ _ _ _ (by
          simp;rintro rfl;exact(hf3 _ hb).elim (fun h=>hnp (.inr h)) fun h=>by omega)
         have eI:cL s.2.1 id=(s.2.1.take at_++[(id,[],false,0)])++s.2.1.drop at_:=by
          unfold cL;rw [if_neg (by simp [hhf]),←hatH.out];simp
         go_simp
         go_wp2
         all_goals (
          go_meet
          case rel=>exact⟨A7,n7,c7,_,hp8,by rw [eI];exact hV4,hf3,fun b hb hne=>(heap_setCell_other _ _ _ _ (by simpa using hne)).trans (hX.block b hb),by simp [HR];exact hX.size,hX.os,hX.tape,hX.output⟩)
        exact HI
       exact HI
      exact HI
     exact HI
    refine HG (o:=_) rfl (fun K hK=>?_) ?_
    ·go_simp
     have hX:=hX.alloc hX.size (.cells #[.int .i64 id,.slice none 0 0,.bool false,.int .i64 0] 75);have hM:(W0.alloc (.cells #[.int .i64 id,.slice none 0 0,.bool false,.int .i64 0] 75)).heap[W0.heap.size]?=some (.cells #[.int .i64 id,.slice none 0 0,.bool false,.int .i64 0] 75 (0,0)):=ac _ (by simp);refine hK.out _ _ ?_ (fun hHeld=>?_)
     ·exact hcells.out _ hX
     clear hK K
     (try simp only [HE,HA,HB,HC])
     refine wpAnyH_ready (rs:=[1]) (by kernel_rfl) (by simp) ?_
     refine HG (o:=_) rfl (fun K hK=>?_) ?_
     ·go_simp
      have hX:=hX.alloc hX.size (.cells #[] 75);have hE:((W0.alloc (.cells #[.int .i64 id,.slice none 0 0,.bool false,.int .i64 0] 75)).alloc (.cells #[] 75)).heap[W0.heap.size+1]?=some (.cells #[] 75 (0,0)):=ac _ (by simp);have hM:=ah (.cells #[] 75) hM;refine hK.out _ _ ?_ (fun hHeld=>?_)
      ·exact hcells.out _ hX
      clear hK K
      (try simp only [HE,HA,HB,HC])
      refine wpAnyH_ready (rs:=[8]) (by kernel_rfl) (by simp) ?_
      refine HG (o:=_) rfl (fun K hK=>?_) ?_
      ·refine af _ rfl _ _ 31 rfl B 75 i2 (.agg #[.int .i64 0,.slice none 0 0,.bool false,.int .i64 0]) 4 48 Try.underlying31 hi2 hx0 hx1 hx2 rfl (by decide) (.slice (some ⟨W0.heap.size+1,0,none⟩) 0 0) 0 [] (by simp [go_sem];done) (bR hE (by have:=hX0.size;omega)) (some ⟨g,0,none⟩) at_ c' (aV (s.2.1.take at_) (ys.take at_)) (by simp [go_sem,sliced];done) (by rw [bD _ _ (by simp [hF4.len]),HS,HU hat]) (fun _=>⟨g,0,rfl,gH (hfmsX.out _ hX) hat⟩) (ck _ _ fun y hy=>cR hF4 y (HL hy)) (by unfold maxLen;omega) (by omega) (by have:=hX.size;omega) ?_
       intro v5 w5 hown5 hg5 hat5;have htk:=iR (hfmsX.out _ hX) at_;have hV1:=bE (dI hE (B:=B) (by have:=hX0.size;omega)) (m:=s.2.1.take at_) (zs:=ys.take at_) (by have:=hX.size;omega) (by rw [HS,HU hat];exact hown5) hg5 hat5 (by simp [hF4.len]) htk.1 (fun j y b hj hb=>by
        obtain⟨h1,_⟩:=htk.2.1 j y b hj hb;have h2:=(hlt4 b (.inr ⟨y,HL (HJ hj),hb⟩)).2;refine⟨h1,HQ h2 hX.size,fun h=>?_⟩
        rcases h with h | ⟨_,h,_⟩
        ·have e:W0.heap.size+1=b:=HD h
         have:=hX0.size;omega
        ·cases h) htk.2.2
       rw [HV,HV] at hV1;have hf1:∀b,FmS v5 (ys.take at_) b→FmS (.slice (some ⟨g,0,none⟩) s.2.1.length c') ys b∨w4.heap.size≤b:=fun b hb=>by
        rcases hb with hb | ⟨z,hz,hzb⟩
        ·rcases hat5 with h | h
         ·have e:some b=some (W0.heap.size+1):=hb.symm.trans h
          have:=HD e;have:=hX0.size;exact .inr (by omega)
         ·have e:some b=some (((W0.alloc (.cells #[.int .i64 id,.slice none 0 0,.bool false,.int .i64 0] 75)).alloc (.cells #[] 75)).heap.size):=hb.symm.trans h
          have:=HD e;have:=hX.size;exact .inr (by omega)
        ·exact .inl (.inr ⟨z,HL hz,hzb⟩)
       have hge5:∀b,aA v5 b→w4.heap.size≤b:=fun b hb=>by
        rcases hat5 with h | h
        ·have e:some b=some (W0.heap.size+1):=hb.symm.trans h
         have:=HD e;have:=hX0.size;omega
        ·have e:some b=some (((W0.alloc (.cells #[.int .i64 id,.slice none 0 0,.bool false,.int .i64 0] 75)).alloc (.cells #[] 75)).heap.size):=hb.symm.trans h
         have:=HD e;have:=hX.size;omega
       have hM:=(hg5.block (W0.heap.size) (aB hM) (fun h=>by have e:W0.heap.size=W0.heap.size+1:=HD h;omega)).trans hM;have hX:=hX.grown hg5 hX.size (fun k hk=>by have e:W0.heap.size+1=k:=HD hk;have:=hX0.size;omega);obtain⟨A5,n5,c5,rfl⟩:=am hV1.own;clear hat5;refine hK.out _ _ ?_ (fun hHeld=>?_)
       ·exact hcells.out _ hX
       clear hK K
       (try simp only [HE,HA,HB,HC])
       refine wpAnyH_ready (rs:=[13]) (by kernel_rfl) (by simp) ?_
       refine HG (o:=_) rfl (fun K hK=>?_) ?_
       ·refine af _ rfl _ _ 31 rfl B 75 i2 (.agg #[.int .i64 0,.slice none 0 0,.bool false,.int .i64 0]) 4 48 Try.underlying31 hi2 hx0 hx1 hx2 rfl (by decide) (.slice A5 n5 c5) _ _ (by simp [go_sem];done) hV1.own (some ⟨W0.heap.size,0,none⟩) 1 1 [.int .i64 id,.slice none 0 0,.bool false,.int .i64 0] (by simp [go_sem];done) rfl (fun _=>⟨_,_,rfl,cg hM⟩) (by intro u hu;simp at hu;rcases hu with rfl | rfl | rfl | rfl<;>rfl) (by unfold maxLen;simp;try omega) (by simp;try omega) (by have:=hX.size;omega) ?_
        intro v6 w6 hown6 hg6 hat6;have hV2:=cf (x:=(id,[],false,0)) (y:=.slice none 0 0) hV1 (by have:=hX.size;omega) hown6 hg6 hat6 (dR _ _ _ _) (fun b hb=>by cases hb);have hf2:∀b,FmS v6 (ys.take at_++[.slice none 0 0]) b→FmS (.slice (some ⟨g,0,none⟩) s.2.1.length c') ys b∨w4.heap.size≤b:=fun b hb=>by
         rcases hb with hb | ⟨z,hz,hzb⟩
         ·rcases hat6 with h | h
          ·exact hf1 b (.inl (hb.symm.trans h).symm)
          ·have e:some b=some (w5.heap.size):=hb.symm.trans h
           have:=HD e;have:=hX.size;exact .inr (by omega)
         ·rcases HN.1 hz with hz | hz
          ·exact hf1 b (.inr ⟨z,hz,hzb⟩)
          ·obtain rfl:=HO.1 hz
           cases hzb
        have hge6:∀b,aA v6 b→w4.heap.size≤b:=fun b hb=>by
         rcases hat6 with h | h
         ·exact hge5 b (h.symm.trans hb)
         ·have e:some b=some (w5.heap.size):=hb.symm.trans h
          have:=HD e;have:=hX.size;omega
        have hX:=hX.grown hg6 hX.size (fun k hk=>hge5 k hk);obtain⟨A6,n6,c6,rfl⟩:=am hV2.own;clear hat6;refine hK.out _ _ ?_ (fun hHeld=>?_)
        ·exact hcells.out _ hX
        clear hK K
        (try simp only [HE,HA,HB,HC])
        refine wpAnyH_ready (rs:=[20]) (by kernel_rfl) (by simp) ?_
        refine HG (o:=_) rfl (fun K hK=>?_) ?_
        ·refine af _ rfl _ _ 31 rfl B 75 i2 (.agg #[.int .i64 0,.slice none 0 0,.bool false,.int .i64 0]) 4 48 Try.underlying31 hi2 hx0 hx1 hx2 rfl (by decide) (.slice A6 n6 c6) _ _ (by simp [go_sem];done) hV2.own (if c'=at_ then some ⟨g,0,none⟩ else some ⟨g,at_*4,none⟩) (s.2.1.length - at_) (c' - at_) (aV (s.2.1.drop at_) (ys.drop at_)) (by simp [go_sem,sliced];done) (by rw [bD _ _ (by simp [hF4.len]),HT]) (fun h0=>⟨g,at_*4,by rw [if_neg (by omega)],fP (hfmsX.out _ hX) at_ hat⟩) (ck _ _ fun y hy=>cR hF4 y (HM hy)) (by unfold maxLen;simp;try omega) (by simp;try omega) (by have:=hX.size;omega) ?_
         intro v7 w7 hown7 hg7 hat7;have hdr:=gZ (hfmsX.out _ hX) at_;have hV3:=bE hV2 (m:=s.2.1.drop at_) (zs:=ys.drop at_) (by have:=hX.size;omega) (by rw [HT];exact hown7) hg7 hat7 (by simp [hF4.len]) hdr.1 (fun j y b hj hb=>by
          obtain⟨h1,h2,h3,h4⟩:=hdr.2.1 j y b hj hb;have h5:=(hlt4 b (.inr ⟨y,HM (HJ hj),hb⟩)).2;refine⟨h1,h2,fun h=>?_⟩
          rcases h with h | ⟨z,hz,hzb⟩
          ·have:=hge6 b h
           omega
          ·rcases HN.1 hz with hz | hz
           ·exact h4 at_ (HW _) z hz hzb
           ·obtain rfl:=HO.1 hz
            cases hzb) hdr.2.2
         have hf3:∀b,FmS v7 ((ys.take at_++[.slice none 0 0])++ys.drop at_) b→FmS (.slice (some ⟨g,0,none⟩) s.2.1.length c') ys b∨w4.heap.size≤b:=fun b hb=>by
          rcases hb with hb | ⟨z,hz,hzb⟩
          ·rcases hat7 with h | h
           ·exact hf2 b (.inl (hb.symm.trans h).symm)
           ·have e:some b=some (w6.heap.size):=hb.symm.trans h
            have:=HD e;have:=hX.size;exact .inr (by omega)
          ·rcases HN.1 hz with hz | hz
           ·exact hf2 b (.inr ⟨z,hz,hzb⟩)
           ·exact .inl (.inr ⟨z,HM hz,hzb⟩)
         have hX:=hX.grown hg7 hX.size (fun k hk=>hge6 k hk);obtain⟨A7,n7,c7,rfl⟩:=am hV3.own;clear hat7;refine hK.out _ _ ?_ (fun hHeld=>?_)
         ·exact hcells.out _ hX
         clear hK K
         (try simp only [HE,HA,HB,HC])
         refine wpAnyH_take (i:=21) (oi:=_) (v:=?va21) rfl (by kernel_rfl) (by kernel_rfl) (by kernel_rfl) (fun _ _ _ h=>h) (HH ⟨by rfl,?ya21⟩) hHeld ?ra21
         case ya21=>(intro w0 hSw;obtain⟨hSw0,hSw1⟩:=hSw;go_simp;try with_reducible rfl)
         (try simp only [HE,HA,HB,HC])
         refine wpAnyH_take (i:=22) (oi:=_) (v:=?va22) rfl (by kernel_rfl) (by kernel_rfl) (by kernel_rfl) (fun _ _ _ h=>h) (HH ⟨by rfl,?ya22⟩) hHeld ?ra22
         case ya22=>(intro w0 hSw;obtain⟨hSw0,hSw1⟩:=hSw;go_simp;try with_reducible rfl)
         (try simp only [HE,HA,HB,HC])
         refine aL (by kernel_rfl) ?_
         have hp7:=(hX.block p hpl4).trans hp4;have g1:=(aa hp7).2.1;have h1:=(aG hp7).2.1;have hp8:(w7.setCell ⟨p,1,none⟩ (.slice A7 n7 c7)).heap[p]?=some (.cells #[.slice A bn c,.slice A7 n7 c7,.int .i64 s.2.2.1,.int .i64 s.2.2.2] 33 (0,0)):=heap_setCell_same _ _ 1 _ _ (.slice A7 n7 c7) hp7;have hV4:=hV3.keep (w':=w7.setCell ⟨p,1,none⟩ (.slice A7 n7 c7)) fun b hb=>heap_setCell_other _ _ _ _ (by
          simp;rintro rfl;exact(hf3 _ hb).elim (fun h=>hnp (.inr h)) fun h=>by omega)
         have eI:cL s.2.1 id=(s.2.1.take at_++[(id,[],false,0)])++s.2.1.drop at_:=by
          unfold cL;rw [if_neg (by simp [hhf]),←hatH.out];simp
         go_simp
         go_wp2
         all_goals (
          go_meet
          case rel=>exact⟨A7,n7,c7,_,hp8,by rw [eI];exact hV4,hf3,fun b hb hne=>(heap_setCell_other _ _ _ _ (by simpa using hne)).trans (hX.block b hb),by simp [HR];exact hX.size,hX.os,hX.tape,hX.output⟩)
        exact HI
       exact HI
      exact HI
     exact HI
    exact HI
  ·go_wp2
   go_meet
   case rel =>
    refine⟨A',s.2.1.length,c',ys,hp4,?_,fun b hb=>.inl hb,fun b _ _=>rfl,HW _,rfl,rfl,rfl⟩
    rw [cL,if_pos hhf];exact hF4
 case rest =>
  obtain⟨Ac,nc,cc,yc,hpc,hFc,hfc,hkc,hszc,hosc,htapec,houtc⟩:=hcut;obtain⟨Ac',cc',efc⟩:=bt hFc.own;cases efc;have hatL:at_<(cL s.2.1 id).length:=by rw [hatH.out];exact Do _ _
  obtain⟨g,rfl⟩:=dc hFc.own (by omega);have hv3':∀b,aA (.slice A3 n3 c3) b→w2.heap.size≤b∧b<w4.heap.size:=fun b hb=>⟨(hv3 b hb).1,cd own34 b hb⟩
  have hv24:∀b,aA (.slice A2 n2 c2) b→W.heap.size≤b∧b<w4.heap.size:=fun b hb=>⟨(hv2' b hb).1,cd own24 b hb⟩
  have own2c:=aJ (w':=wc) own24 fun b hb=>hkc b (hv24 b hb).2 (by have:=(hv24 b hb).1;omega)
  have own3c:=aJ (w':=wc) own34 fun b hb=>hkc b (hv3' b hb).2 (by have:=(hv3' b hb).1;omega)
  have hpg:∀b,FmS (.slice (some ⟨g,0,none⟩) (cL s.2.1 id).length cc) yc b→b≠p:=fun b hb e=>by
   subst e;rcases hfc b hb with h | h
   ·exact hnp (.inr h)
   ·omega
  have hfn2:∀b,FmS (.slice (some ⟨g,0,none⟩) (cL s.2.1 id).length cc) yc b→b<W.heap.size∨w4.heap.size≤b:=fun b hb=>by
   rcases hfc b hb with h | h
   ·exact .inl (by have:=hltW b h;omega)
   ·exact .inr h
  obtain⟨e0,e1,e2,e3⟩:=aa hpc;obtain⟨f0,f1,f2,f3⟩:=aG hpc;have hpd:(wc.setCell ⟨p,0,none⟩ (.slice A3 n3 c3)).heap[p]?=some (.cells #[.slice A3 n3 c3,.slice (some ⟨g,0,none⟩) (cL s.2.1 id).length cc,.int .i64 s.2.2.1,.int .i64 s.2.2.2] 33 (0,0)):=heap_setCell_same _ _ 0 _ _ (.slice A3 n3 c3) hpc;have hFd:=hFc.keep (w':=wc.setCell ⟨p,0,none⟩ (.slice A3 n3 c3)) fun b hb=>heap_setCell_other _ _ _ _ (by have:=hpg b hb;simp;omega)
  have own2d:=aJ (w':=wc.setCell ⟨p,0,none⟩ (.slice A3 n3 c3)) own2c fun b hb=>heap_setCell_other _ _ _ _ (by have:=(hv24 b hb).1;simp;omega)
  have own3d:=aJ (w':=wc.setCell ⟨p,0,none⟩ (.slice A3 n3 c3)) own3c fun b hb=>heap_setCell_other _ _ _ _ (by have:=(hv3' b hb).1;simp;omega)
  have Bd:Below B w (wc.setCell ⟨p,0,none⟩ (.slice A3 n3 c3)):=by
   refine Below.setCell ⟨hosc.trans B4.os,htapec.trans B4.tape,houtc.trans B4.output,HX B4.size hszc,fun b hb=>(hkc b (by omega) (by omega)).trans (B4.block b hb)⟩ hpB _
  have hszd:w4.heap.size≤(wc.setCell ⟨p,0,none⟩ (.slice A3 n3 c3)).heap.size:=by simp [HR];exact hszc
  go_wp2
  generalize wc.setCell ⟨p,0,none⟩ (.slice A3 n3 c3)=wd at *;have hF0:FmsAt wd.drew B (.slice (some ⟨g,0,none⟩) (cL s.2.1 id).length cc) yc (cL s.2.1 id):=hFd.keep fun _ _=>rfl
  have hp0:=Below.some (ab wd) hpd;have own20:=bf.below own2d (ab wd);have own30:=bf.below own3d (ab wd);have Bd0:Below B w wd.drew:=bm Bd (ab wd) (by omega);have hsz0:w4.heap.size≤wd.drew.heap.size:=hszd;generalize hfl:cL s.2.1 id=L at *;obtain⟨y,hy⟩:∃y,yc[at_]?=some y:=⟨yc[at_]'(by rw [hF0.len];exact hatL),HK _⟩
  have hgx:L[at_]?=some L[at_]:=HK hatL;obtain⟨f,hf⟩:∃f,f=L[at_]:=⟨_,rfl⟩
  rw [←hf] at hgx;have hrow:=hF0.row at_ _ y hgx hy;obtain⟨Ay,cy,rfl⟩:=co hrow;rw [Ic] at hy hrow;have k1:=ax hF0.own (j:=at_*4+1) (u:=.slice Ay f.2.1.length cy) (by rw [aE _ _ at_ f _ hgx hy 1 (by omega)];rfl);have hyb:∀b,aA (.slice Ay f.2.1.length cy) b→b≠g∧b≠p∧(b<W.heap.size∨w4.heap.size≤b)∧B≤b:=fun b hb=>⟨fun e=>(hF0.blk at_ _ b hy hb).2 (by rw [e];rfl),hpg b (.inr ⟨_,HJ hy,hb⟩),hfn2 b (.inr ⟨_,HJ hy,hb⟩),(hF0.blk at_ _ b hy hb).1⟩
  have hgp:g≠p:=hpg g (.inl rfl);have hgW:=hfn2 g (.inl rfl);have hgB:=(hF0.lt g (.inl rfl)).1;have hglt:=(hF0.lt g (.inl rfl)).2;have hpi:(at_:Int)<(L.length:Int):=by omega
  have hflen:f.2.1.length≤40:=by
   have:=pG hfm id f (by rw [hfl];exact HJ hgx);exact this
  have hSd:wd.drew.cell? ⟨p,1,none⟩=some (.slice (some ⟨g,0,none⟩) L.length cc)∧wd.drew.cell? ⟨g,at_*4+1,none⟩=some (.slice Ay f.2.1.length cy):=⟨(aa hp0).2.1,k1⟩
  clear hf;refine bO (l:=[_,_,_,_,_,_,_,_,_,_,_,_,_,_,_,_,_]) (o:=_) (S:=fun w'=>w'.cell? ⟨p,1,none⟩=some (.slice (some ⟨g,0,none⟩) L.length cc)∧w'.cell? ⟨g,at_*4+1,none⟩=some (.slice Ay f.2.1.length cy)) (by kernel_rfl) (by kernel_rfl) hSd (fun hHeld=>?_)
  change wpAnyH _ _ _ _ _ 17 (Ib 17 false) _ _
  generalize wd.drew=W0 at *;refine wpAnyH_take (i:=0) (oi:=_) (v:=?vb1) rfl (by kernel_rfl) (by kernel_rfl) (by kernel_rfl) (fun _ _ _ h=>h) (HH ⟨by rfl,?yb1⟩) hHeld ?rb1
  case yb1=>(intro w0 hSw;obtain⟨hSw0,hSw1⟩:=hSw;go_simp;try with_reducible rfl)
  (try simp only [HE,HA,HB,HC])
  refine wpAnyH_take (i:=1) (oi:=_) (v:=?vb2) rfl (by kernel_rfl) (by kernel_rfl) (by kernel_rfl) (fun _ _ _ h=>h) (HH ⟨by rfl,?yb2⟩) hHeld ?rb2
  case yb2=>(intro w0 hSw;obtain⟨hSw0,hSw1⟩:=hSw;go_simp;try with_reducible rfl)
  (try simp only [HE,HA,HB,HC])
  refine wpAnyH_take (i:=2) (oi:=_) (v:=?vb3) rfl (by kernel_rfl) (by kernel_rfl) (by kernel_rfl) (fun _ _ _ h=>h) (HH ⟨by rfl,?yb3⟩) hHeld ?rb3
  case yb3=>(intro w0 hSw;obtain⟨hSw0,hSw1⟩:=hSw;go_simp;try with_reducible rfl)
  (try simp only [HE,HA,HB,HC])
  refine wpAnyH_take (i:=3) (oi:=_) (v:=?vb4) rfl (by kernel_rfl) (by kernel_rfl) (by kernel_rfl) (fun _ _ _ h=>h) (HH ⟨by rfl,?yb4⟩) hHeld ?rb4
  case yb4=>(intro w0 hSw;obtain⟨hSw0,hSw1⟩:=hSw;go_simp;try with_reducible rfl)
  (try simp only [HE,HA,HB,HC])
  refine wpAnyH_take (i:=4) (oi:=_) (v:=?vb5) rfl (by kernel_rfl) (by kernel_rfl) (by kernel_rfl) (fun _ _ _ h=>h) (HH ⟨by rfl,?yb5⟩) hHeld ?rb5
  case yb5=>(intro w0 hSw;obtain⟨hSw0,hSw1⟩:=hSw;go_simp;try with_reducible rfl)
  (try simp only [HE,HA,HB,HC])
  refine wpAnyH_take (i:=5) (oi:=_) (v:=?vb6) rfl (by kernel_rfl) (by kernel_rfl) (by kernel_rfl) (fun _ _ _ h=>h) (HH ⟨by rfl,?yb6⟩) hHeld ?rb6
  case yb6=>(intro w0 hSw;obtain⟨hSw0,hSw1⟩:=hSw;go_simp;try with_reducible rfl)
  (try simp only [HE,HA,HB,HC])
  refine wpAnyH_take (i:=6) (oi:=_) (v:=?vb7) rfl (by kernel_rfl) (by kernel_rfl) (by kernel_rfl) (fun _ _ _ h=>h) (HH ⟨by rfl,?yb7⟩) hHeld ?rb7
  case yb7=>(intro w0 hSw;obtain⟨hSw0,hSw1⟩:=hSw;go_simp;try with_reducible rfl)
  (try simp only [HE,HA,HB,HC])
  refine wpAnyH_take (i:=7) (oi:=_) (v:=?vb8) rfl (by kernel_rfl) (by kernel_rfl) (by kernel_rfl) (fun _ _ _ h=>h) (HH ⟨by rfl,?yb8⟩) hHeld ?rb8
  case yb8=>(intro w0 hSw;obtain⟨hSw0,hSw1⟩:=hSw;go_simp;try with_reducible rfl)
  (try simp only [HE,HA,HB,HC])
  refine wpAnyH_take (i:=8) (oi:=_) (v:=?vb9) rfl (by kernel_rfl) (by kernel_rfl) (by kernel_rfl) (fun _ _ _ h=>h) (HH ⟨by rfl,?yb9⟩) hHeld ?rb9
  case yb9=>(intro w0 hSw;obtain⟨hSw0,hSw1⟩:=hSw;go_simp;try with_reducible rfl)
  (try simp only [HE,HA,HB,HC])
  refine wpAnyH_take (i:=9) (oi:=_) (v:=?vb10) rfl (by kernel_rfl) (by kernel_rfl) (by kernel_rfl) (fun _ _ _ h=>h) (HH ⟨by rfl,?yb10⟩) hHeld ?rb10
  case yb10=>(intro w0 hSw;obtain⟨hSw0,hSw1⟩:=hSw;go_simp;try with_reducible rfl)
  (try simp only [HE,HA,HB,HC])
  refine wpAnyH_take (i:=10) (oi:=_) (v:=?vb11) rfl (by kernel_rfl) (by kernel_rfl) (by kernel_rfl) (fun _ _ _ h=>h) (HH ⟨by rfl,?yb11⟩) hHeld ?rb11
  case yb11=>(intro w0 hSw;obtain⟨hSw0,hSw1⟩:=hSw;go_simp;try with_reducible rfl)
  (try simp only [HE,HA,HB,HC])
  refine wpAnyH_take (i:=11) (oi:=_) (v:=?vb12) rfl (by kernel_rfl) (by kernel_rfl) (by kernel_rfl) (fun _ _ _ h=>h) (HH ⟨by rfl,?yb12⟩) hHeld ?rb12
  case yb12=>(intro w0 hSw;obtain⟨hSw0,hSw1⟩:=hSw;go_simp;try with_reducible rfl)
  (try simp only [HE,HA,HB,HC])
  refine wpAnyH_take (i:=12) (oi:=_) (v:=?vb13) rfl (by kernel_rfl) (by kernel_rfl) (by kernel_rfl) (fun _ _ _ h=>h) (HH ⟨by rfl,?yb13⟩) hHeld ?rb13
  case yb13=>(intro w0 hSw;obtain⟨hSw0,hSw1⟩:=hSw;go_simp;try with_reducible rfl)
  (try simp only [HE,HA,HB,HC])
  refine wpAnyH_take (i:=13) (oi:=_) (v:=?vb14) rfl (by kernel_rfl) (by kernel_rfl) (by kernel_rfl) (fun _ _ _ h=>h) (HH ⟨by rfl,?yb14⟩) hHeld ?rb14
  case yb14=>(intro w0 hSw;obtain⟨hSw0,hSw1⟩:=hSw;go_simp;try with_reducible rfl)
  (try simp only [HE,HA,HB,HC])
  refine wpAnyH_ready (rs:=[14]) (by kernel_rfl) (by simp) ?_
  refine HG (o:=_) rfl (fun K hK=>?_) ?_
  ·refine lp _ rfl _ _ rfl f.2.1 (cI s.1 u) (.slice Ay f.2.1.length cy) (.slice A2 n2 c2) (by simp [go_sem];done) (by simp [go_sem];done) hrow (dW own20) (by omega) ?_
   intro A5 n5 c5 w5 own5 hv5 hk5;have hp5:=KeptX.some hk5 hp0 (fun h=>(hyb p h).2.1 rfl);refine hK.out _ _ ?_ (fun hHeld=>?_)
   ·exact⟨(aa hp5).2.1,(World.cell?_of_block (hk5.block g hglt (fun h=>(hyb g h).1 rfl))).trans k1⟩
   clear hK K
   (try simp only [HE,HA,HB,HC])
   refine wpAnyH_take (i:=15) (oi:=_) (v:=?vb15) rfl (by kernel_rfl) (by kernel_rfl) (by kernel_rfl) (fun _ _ _ h=>h) (HH ⟨by rfl,?yb15⟩) hHeld ?rb15
   case yb15=>(intro w0 hSw;obtain⟨hSw0,hSw1⟩:=hSw;go_simp;try with_reducible rfl)
   (try simp only [HE,HA,HB,HC])
   refine wpAnyH_take (i:=16) (oi:=_) (v:=?vb16) rfl (by kernel_rfl) (by kernel_rfl) (by kernel_rfl) (fun _ _ _ h=>h) (HH ⟨by rfl,?yb16⟩) hHeld ?rb16
   case yb16=>(intro w0 hSw;obtain⟨hSw0,hSw1⟩:=hSw;go_simp;try with_reducible rfl)
   (try simp only [HE,HA,HB,HC])
   refine aL (by kernel_rfl) ?_
   have hown5:=zA hF0.own (w':=w5) fun b hb=>hk5.block b (hF0.lt b (.inl hb)).2 (fun h=>(hyb b h).1 (HD hb).symm)
   have k15:=ax hown5 (j:=at_*4+1) (u:=.slice Ay f.2.1.length cy) (by rw [aE _ _ at_ f _ hgx hy 1 (by omega)];rfl);have z15:=aN hown5 (at_*4+1);have hv5':∀b,aA (.slice A5 n5 c5) b→b≠g∧b≠p∧(b<W.heap.size∨w4.heap.size≤b)∧B≤b∧(aA (.slice Ay f.2.1.length cy) b∨W0.heap.size≤b):=fun b hb=>by
    rcases hv5 b hb with h | h
    ·exact⟨(hyb b h).1,(hyb b h).2.1,(hyb b h).2.2.1,(hyb b h).2.2.2,.inl h⟩
    ·exact⟨by omega,by omega,.inr (by omega),by omega,.inr h⟩
   have hw6:∀b,b≠g→(w5.setCell ⟨g,at_*4+1,none⟩ (.slice A5 n5 c5)).heap[b]?=w5.heap[b]?:=fun b hb=>heap_setCell_other _ _ _ _ (by simpa using hb)
   have hF6:=jQ (w':=w5.setCell ⟨g,at_*4+1,none⟩ (.slice A5 n5 c5)) (x:=(f.1,f.2.1++cI s.1 u,f.2.2.1,f.2.2.2)) (y:=.slice A5 n5 c5) hF0 hatL (aJ own5 fun b hb=>hw6 b (hv5' b hb).1) (fun b hb=>⟨(hv5' b hb).2.2.2.1,(hv5' b hb).1⟩)
    (fun j z hj hz=>by
     cases hb:(Value.slice A5 n5 c5).ownBlock with
     | none=>exact .inl rfl
     | some b =>
      refine .inr fun e=>?_
      rcases(hv5' b hb).2.2.2.2 with h | h
      ·rcases hF0.dis at_ j _ z (fun e=>hj e.symm) hy hz with h2 | h2
       ·rw [aA,h2] at h
        cases h
       ·exact h2 (h.trans e)
      ·have:=(hF0.lt b (.inr ⟨z,HJ hz,e.symm⟩)).2
       omega)
    (fun j z b hj hz hb=>(hw6 b fun e=>(hF0.blk j z b hz hb).2 (by rw [e];rfl)).trans (hk5.block b (hF0.lt b (.inr ⟨z,HJ hz,hb⟩)).2 fun h=>by
     rcases hF0.dis at_ j _ z (fun e=>hj e.symm) hy hz with h2 | h2
     ·rw [aA,h2] at h
      cases h
     ·exact h2 (h.trans hb.symm)))
    (by rw [gK L yc at_ f (f.1,f.2.1++cI s.1 u,f.2.2.1,f.2.2.2) _ _ (.slice A5 n5 c5) 1 (by omega) hgx hy rfl];exact bN hown5 rfl _ _)
   have hp6:=(hw6 p (fun e=>hgp e.symm)).trans hp5;have own36:bf (w5.setCell ⟨g,at_*4+1,none⟩ (.slice A5 n5 c5)) (fun _=>False) (aA (.slice A3 n3 c3)) 4 _ (.slice A3 n3 c3):=aJ own30 fun b hb=>by
    have h1:=hv3' b hb;rw [hw6 b (by omega)];exact hk5.block b (by omega) fun h=>by have:=(hyb b h).2.2.1;omega
   have B6:Below B w (w5.setCell ⟨g,at_*4+1,none⟩ (.slice A5 n5 c5)):=(Bd0.trans (hk5.below (fun b hb=>(hyb b hb).2.2.2) (by omega))).setCell hgB _;have hfs6:∀b,FmS (.slice (some ⟨g,0,none⟩) L.length cc) (yc.set at_ (.slice A5 n5 c5)) b→b≠p∧(b<W.heap.size∨w4.heap.size≤b):=fun b hb=>by
    rcases hb with hb | ⟨z,hz,hzb⟩
    ·exact⟨hpg b (.inl hb),hfn2 b (.inl hb)⟩
    ·rcases HY hz with h | rfl
     ·exact⟨hpg b (.inr ⟨z,h,hzb⟩),hfn2 b (.inr ⟨z,h,hzb⟩)⟩
     ·exact⟨(hv5' b hzb).2.1,(hv5' b hzb).2.2.1⟩
   have hbx:lu (w5.setCell ⟨g,at_*4+1,none⟩ (.slice A5 n5 c5)) p B (br (aK s.1) (-1) s.1 (cI s.1 u),L.set at_ (f.1,f.2.1++cI s.1 u,f.2.2.1,f.2.2.2),s.2.2.1,s.2.2.2) :=
    ⟨_,_,_,_,_,_,_,hp6,⟨rfl,own36,fun b hb=>by have:=(hv3' b hb).1;omega,hF6,fun b hb h=>by have:=hv3' b hb;have:=(hfs6 b h).2;omega⟩,fun h=>h.elim (fun h=>by have:=(hv3' p h).1;omega) fun h=>(hfs6 p h).1 rfl⟩
   have hown6:=hF6.own;rw [Ie] at hown6;have k26:=ax hown6 (j:=at_*4+2) (u:=.bool f.2.2.1) (by rw [aE _ _ at_ (f.1,f.2.1++cI s.1 u,f.2.2.1,f.2.2.2) (.slice A5 n5 c5) (Ig hatL) (Ig (by rw [hF0.len];exact hatL)) 2 (by omega)];rfl);have x0:=(aa hp6).1;have x1:=(aa hp6).2.1;have eS:xw s id u=(br (aK s.1) (-1) s.1 (cI s.1 u),L.set at_ (f.1,f.2.1++cI s.1 u,f.2.2.1,f.2.2.2),s.2.2.1,s.2.2.2):=by
    unfold xw CV;rw [hfl,←hatH.out,hgx]
   have eO:iz s id u = !f.2.2.1:=by
    unfold iz uh;rw [hfl,←hatH.out,hgx,hwb,hgo];rfl
   go_simp
   generalize w5.setCell ⟨g,at_*4+1,none⟩ (.slice A5 n5 c5)=w6 at *;clear hfl hatH
   go_wp2
   go_ret
   rw [eS,eO];cases hb:f.2.2.1
   ·rw [hb] at hbx
    exact⟨true,rfl,fun _=>⟨rfl,hbx⟩,(fun h=>by cases h),B6⟩
   ·exact⟨false,rfl,(fun h=>by cases h),(fun _=>rfl),B6⟩
  exact HI
set_option maxRecDepth 100000
theorem ym (s:Sp) (hs:cK s) (hok:aW s=true) (i:Nat) (hi:i<s.2.1.length) (x:Stp) (hx:cN x=true) (hk:x.1≠1) (w:World) (p B:Nat) (hbox:lu w p B s) (hpB:B≤p) :
  Calls Try.prog 95 #[.pointer (some ⟨p,0,none⟩),.int .i64 i,stV x] w (oh w p B (cG s i x) (eU s i x)):=by
 obtain⟨k,id,u,n⟩:=x;have h:=tI hx;simp only at h hk;rcases h with h | h | h | h | h | h
 ·exact absurd h hk
 ·subst h
  exact Dy s hs hok i hi id u n hx w p B hbox hpB
 ·subst h
  exact DP s hs hok i hi id u n hx w p B hbox hpB
 ·subst h
  exact DH s hs hok i hi id u n hx w p B hbox hpB
 ·subst h
  exact El s hs hok i hi id u n hx w p B hbox hpB
 ·subst h
  exact DY s hs hok i hi id u n hx w p B hbox hpB
theorem xW {l:List Fm} (h:l.length≤5) (hf:∀f∈l,f.2.1.length≤40) (i:Nat) (f:Fm) (h2:f.2.1.length≤100):Az (l.set i f):=by
 refine⟨by rw [Ie];omega,fun x hx=>?_⟩
 rcases HY hx with h3 | rfl
 ·have:=hf x h3
  omega
 ·omega
theorem zZ (s:Sp) (x:Stp) (hs:cK s) (hok:aW s=true) (hx:cN x=true) (hr:iB s x=true):cK (gw s x):=by
 obtain⟨hfm,hgc,hl5,_⟩:=bv hok;have hfs:∀f∈s.2.1,f.2.1.length≤40:=fun f hf=>by
  obtain⟨j,hj,rfl⟩:=List.getElem_of_mem hf;exact dE (hfm j hj)
 unfold gw;unfold iB at hr;by_cases h1:x.1=1
 ·rw [if_pos h1] at hr ⊢
  unfold iz at hr;simp only [Bool.and_eq_true] at hr;have hw:=(nT hgc hr.1.1).1;have hu:=xF hx h1;refine⟨ku hs.1 (eC _ _ _ _),?_⟩
  have hil:(cL s.2.1 x.2.1).length≤6:=by
   unfold cL;split
   ·omega
   ·have:=xj s.2.1 x.2.1
    simp;omega
  show Az (CV (cL s.2.1 x.2.1) (atF s.2.1 x.2.1) (cI s.1 x.2.2.1))
  unfold CV;split
  ·rename_i f hf
   have h40:=pG hfm x.2.1 f (HJ hf);refine⟨by rw [Ie];omega,fun y hy=>?_⟩
   rcases HY hy with h3 | rfl
   ·have:=pG hfm x.2.1 y h3
    omega
   ·simp only [List.length_append]
    omega
  ·exact⟨by omega,fun y hy=>by have:=pG hfm x.2.1 y hy;omega⟩
 ·rw [if_neg h1]
  unfold eU;split
  ·exact hs
  ·rename_i f hf
   have h40:=hfs f (HJ hf);split
   ·exact⟨hs.1,xW hl5 hfs _ _ (by show f.2.1.length≤100;omega)⟩
   split
   ·exact⟨hs.1,xW hl5 hfs _ _ (by show f.2.1.length≤100;omega)⟩
   split
   ·exact⟨hs.1,xW hl5 hfs _ _ (by show f.2.1.length≤100;omega)⟩
   split
   ·exact⟨hs.1,xW hl5 hfs _ _ (by show(f.2.1.take _).length≤100;rw [HS];omega)⟩
   ·refine⟨ku hs.1 (eC _ _ _ _),?_,fun y hy=>?_⟩
    ·simp
     omega
    ·rcases HN.1 hy with h | h
     ·have:=hfs y (HL h)
      omega
     ·have:=hfs y (HM h)
      omega
theorem uj {s:Sp} {x:Stp} (h:gJ s x=false):stS s x=([],[],0,0):=by simp [stS,h]
theorem Aw {s:Sp} {x:Stp} (h:gJ s x=true):stS s x=gw s x:=by simp [stS,h]
set_option maxRecDepth 100000
def GT (s:Sp) (x:Stp) (w wc:World) (p:Nat) (t:Value):Prop:=∃ok:Bool,t = .bool ok∧(ok=true→iB s x=true∧lu wc p (w.heap.size+3) (gw s x))∧(ok=false→(iB s x&&aW (gw s x))=false) ∧
 wc.heap[w.heap.size+2]?=some (.cells #[.slice none 0 0,.slice none 0 0,.int .i64 0,.int .i64 0] 33 (0,0))∧Below w.heap.size w wc∧w.heap.size+3≤p∧p<wc.heap.size
set_option maxHeartbeats 8000000 in
set_option maxRecDepth 1000000 in
theorem vD (s:Sp) (hs:cK s) (hok:aW s=true) (x:Stp) (hx:cN x=true) (v0:Value) (w:World) (F:Nat→Prop) (hr:aQ w F (sp s) v0) (hF:∀b,F b→b<w.heap.size) :
  Calls Try.prog 56 #[v0,stV x] w fun e w'=>∃v,e = .returned (.tuple #[v,.bool (gJ s x)])∧ut w' w.heap.size v (stS s x)∧Below w.heap.size w w':=by
 obtain⟨A,n,c,A',n',c',rfl,hb,hf⟩:=eG hr
 go_enter Try.func56,Try.ntmps56
 have hb3:∀a b c,Below w.heap.size w (((w.alloc a).alloc b).alloc c):=fun a b c=>(((Ia _ w).alloc (HW _) _).alloc (by simp) _).alloc (by simp;omega) _
 have hc1:=fun a b c=>sQ s hs _ (((w.alloc a).alloc b).alloc c) F (aI (fun _ h=>h) (fun i hi=>(hb3 a b c).block i (hF i hi)) hr) (fun i hi=>HQ (hF i hi) (hb3 a b c).size)
 go_wp2_with (go_at_call 50;refine(hc1 _ _ _).mono ?_)
 rintro e w3 ⟨v3,rfl,⟨Vb,Vf,ys,sa⟩,b3⟩;obtain rfl:=sa.val;obtain⟨bA,bn,bc,rfl⟩:=aU sa.box;obtain⟨fA,fc,rfl⟩:=bt sa.fms.own;have H3:w3.heap[w.heap.size+1]?=some (.cells #[.int .i64 x.1,.int .i64 x.2.1,.string x.2.2.1,.int .i64 x.2.2.2] 46 (0,0)):=Below.some b3 (ah _ (ac _ (by simp)));have H4:w3.heap[w.heap.size+2]?=some (.cells #[.slice none 0 0,.slice none 0 0,.int .i64 0,.int .i64 0] 33 (0,0)):=Below.some b3 (ac _ (by simp));have B3:Below w.heap.size w w3:=bm (hb3 _ _ _) b3 (by simp;omega);have hl4:=aB H4;have hlt:=sa.lt;have sa':=sa.below (be w3 (.cells #[.slice bA bn bc,.slice fA s.2.1.length fc,.int .i64 s.2.2.1,.int .i64 s.2.2.2] 33));have hbox:lu (w3.alloc (.cells #[.slice bA bn bc,.slice fA s.2.1.length fc,.int .i64 s.2.2.1,.int .i64 s.2.2.2] 33)) w3.heap.size (w.heap.size+3) s :=
  ⟨_,_,_,_,_,_,_,ac _ rfl,⟨rfl,sa'.box,fun b hb=>by have:=(hlt b (.inl hb)).1;simp at this;omega,sa'.fms.base (by simp<;>omega),sa'.dis⟩,fun h=>by have:=(hlt _ h).2;omega⟩
 have HP:(w3.alloc (.cells #[.slice bA bn bc,.slice fA s.2.1.length fc,.int .i64 s.2.2.1,.int .i64 s.2.2.2] 33)).heap[w3.heap.size]?=_:=ac _ rfl;have H3':=ah (.cells #[.slice bA bn bc,.slice fA s.2.1.length fc,.int .i64 s.2.2.1,.int .i64 s.2.2.2] 33) H3;have H4':=ah (.cells #[.slice bA bn bc,.slice fA s.2.1.length fc,.int .i64 s.2.2.1,.int .i64 s.2.2.2] 33) H4;have B4:Below w.heap.size w (w3.alloc (.cells #[.slice bA bn bc,.slice fA s.2.1.length fc,.int .i64 s.2.2.1,.int .i64 s.2.2.2] 33)):=B3.alloc B3.size _;have hsz:w3.heap.size<(w3.alloc (.cells #[.slice bA bn bc,.slice fA s.2.1.length fc,.int .i64 s.2.2.1,.int .i64 s.2.2.2] 33)).heap.size:=by simp
 obtain⟨q0,q1,q2,q3⟩:=aa H3';obtain⟨p0,p1,p2,p3⟩:=aa HP;clear hc1 b3 sa hb3
 go_upto_if 14 with fail
 generalize w3.alloc (.cells #[.slice bA bn bc,.slice fA s.2.1.length fc,.int .i64 s.2.2.1,.int .i64 s.2.2.2] 33)=W at *
 go_cut [7] from 8 (fun t7 wc=>GT s x w wc w3.heap.size t7)
 case first =>
  by_cases h1:x.1=1
  ·obtain⟨k,id,u,m⟩:=x
   simp only at h1;subst h1;have hc:=Ai s hs hok id u m hx W w3.heap.size (w.heap.size+3) hbox (by omega)
   go_wp2_with (go_at_call 93;refine hc.mono ?_)
   intro e w5 hout;obtain⟨ok,rfl,h2,h3,h4⟩:=hout
   go_wp2
   go_meet
   case rel =>
    exact⟨ok,rfl,h2,h3,(h4.block _ (by omega)).trans H4',B4.trans (h4.mono (by omega)),by omega,HQ hsz h4.size⟩
  ·have hc:=pu s x.2.1 hs sa'.rep (fun b hb=>(sa'.lt b hb).2)
   go_wp2_with (go_at_call 94;refine hc.mono ?_)
   rintro e w5 ⟨rfl,b5⟩;have hbox5:=hbox.below b5;have H35:=Below.some b5 H3';have H45:=Below.some b5 H4';have B5:=bm B4 b5 B4.size;have hsz5:=HQ hsz b5.size;cases hh:eR s.2.1 x.2.1
   ·go_wp2
    go_meet
    case rel =>
     exact⟨false,rfl,(fun h=>by cases h),(fun _=>by simp [iB,h1,hh]),H45,B5,by omega,hsz5⟩
   ·obtain⟨hi,_⟩:=jt hh
    have hc2:=ym s hs hok _ hi x hx h1 w5 w3.heap.size (w.heap.size+3) hbox5 (by omega);obtain⟨r0,r1,r2,r3⟩:=aa H35
    go_wp2_with (go_at_call 95;refine hc2.mono ?_)
    intro e w6 hout;obtain⟨ok,rfl,h2,h3,h4⟩:=hout;have eS:gw s x=eU s (atF s.2.1 x.2.1) x:=by simp [gw,h1]
    have eO:iB s x=cG s (atF s.2.1 x.2.1) x:=by simp [iB,h1,hh]
    go_wp2
    go_meet
    case rel =>
     refine⟨ok,rfl,?_,?_,(h4.block _ (by omega)).trans H45,B5.trans (h4.mono (by omega)),by omega,HQ hsz5 h4.size⟩
     ·rw [eS,eO]
      exact h2
     ·rw [eS,eO]
      exact h3
 case rest =>
  obtain⟨ok,rfl,hyes,hnol,H4c,Bc,hpp,hpl⟩:=hcut;obtain⟨e0,e1,e2,e3⟩:=aa H4c;obtain⟨g0,g1,g2,g3⟩:=aG H4c;cases ok
  ·have hno:gJ s x=false:=by
    unfold gJ;rw [Bool.and_assoc,hnol rfl,Bool.and_false]
   go_wp2
   obtain⟨d0,d1,d2,d3⟩:=aa (aD (.slice none 0 0) (.slice none 0 0) (.int .i64 0) (.int .i64 0) H4c);refine bodyPost_ret (by simp [results,Try.results56,go_sem,d0,d1,d2,d3];try rfl) rfl ?_
   (try rw [hno])
   (try rw [uj hno])
   exact⟨_,rfl,fN _ _,bd _ _ _ _ Bc (by omega)⟩
  ·obtain⟨hro,A1,m1,c1,A2,m2,c2,zs,hpc,hSc,hnp⟩:=hyes rfl
   have hrk:=zZ s x hs hok hx hro;have hc:=qS (gw s x) hrk hSc.rep (fun b hb=>(hSc.lt b hb).2);obtain⟨s0,s1,s2,s3⟩:=aa hpc;cases hsk:aW (gw s x)
   ·have hno:gJ s x=false:=by simp [gJ,hsk]
    rw [hsk] at hc
    go_wp2_with (go_at_call 34;refine hc.mono ?_;rintro e w7 ⟨rfl,b7⟩;have H47:=Below.some b7 H4c;have B7:=bm Bc b7 Bc.size;have i0:=(aa H47).1;have i1:=(aa H47).2.1;have i2:=(aa H47).2.2.1;have i3:=(aa H47).2.2.2;have j0:=(aG H47).1;have j1:=(aG H47).2.1;have j2:=(aG H47).2.2.1;have j3:=(aG H47).2.2.2)
    obtain⟨d0,d1,d2,d3⟩:=aa (aD (.slice none 0 0) (.slice none 0 0) (.int .i64 0) (.int .i64 0) H47);refine bodyPost_ret (by simp [results,Try.results56,go_sem,d0,d1,d2,d3];try rfl) rfl ?_
    (try rw [hno])
    (try rw [uj hno])
    exact⟨_,rfl,fN _ _,bd _ _ _ _ B7 (by omega)⟩
   ·have hy:gJ s x=true:=by simp [gJ,hx,hro,hsk]
    rw [hsk] at hc
    go_wp2_with (go_at_call 34;refine hc.mono ?_;rintro e w7 ⟨rfl,b7⟩;have H47:=Below.some b7 H4c;have hp7:=Below.some b7 hpc;have hS7:=hSc.below b7;have B7:=bm Bc b7 Bc.size;have i0:=(aa H47).1;have i1:=(aa H47).2.1;have i2:=(aa H47).2.2.1;have i3:=(aa H47).2.2.2;have j0:=(aG H47).1;have j1:=(aG H47).2.1;have j2:=(aG H47).2.2.1;have j3:=(aG H47).2.2.2;have k0:=(aa hp7).1;have k1:=(aa hp7).2.1;have k2:=(aa hp7).2.2.1;have k3:=(aa hp7).2.2.2)
    obtain⟨d0,d1,d2,d3⟩:=aa (aD (.slice A1 m1 c1) (.slice A2 m2 c2) (.int .i64 (gw s x).2.2.1) (.int .i64 (gw s x).2.2.2) H47);refine bodyPost_ret (by simp [results,Try.results56,go_sem,d0,d1,d2,d3];try rfl) rfl ?_
    (try rw [hy])
    (try rw [Aw hy])
    have hS8:=hS7.set4 (g:=w.heap.size+2) (.slice A1 m1 c1) (.slice A2 m2 c2) (.int .i64 (gw s x).2.2.1) (.int .i64 (gw s x).2.2.2) fun b hb=>by have:=(hS7.lt b hb).1;omega
    exact⟨_,rfl,⟨_,_,_,hS8.val,hS8.box,fun b hb=>by have:=hS8.bge b hb;omega,hS8.fms.base (by omega),hS8.dis⟩,bd _ _ _ _ B7 (by omega)⟩
set_option maxRecDepth 100000
def iv (s:Sp) (x:Stp):Bool:=aW s&&gJ s x
def km (s:Sp) (x:Stp):Sp:=if aW s=true then stS s x else([],[],0,0)
theorem xI {s:Sp} {x:Stp} (h:iv s x=false):km s x=([],[],0,0):=by
 unfold iv at h;unfold km;cases hs:aW s
 ·simp
 ·rw [hs] at h
  simp [uj (by simpa using h)]
set_option maxHeartbeats 8000000 in
set_option maxRecDepth 1000000 in
theorem dm (s:Sp) (hs:cK s) (x:Stp) (hx:x.2.2.1.size≤9223372036854775807) (v0:Value) (w:World) (F:Nat→Prop) (hr:aQ w F (sp s) v0) (hF:∀b,F b→b<w.heap.size) :
  Calls Try.prog 23 #[v0,stV x] w fun e w'=>∃v,e = .returned (.tuple #[v,.bool (iv s x)])∧ut w' w.heap.size v (km s x)∧Below w.heap.size w w':=by
 obtain⟨A,n,c,A',n',c',rfl,hb,hf⟩:=eG hr;clear hb hf
 go_enter Try.func23,Try.ntmps23
 have hb3:∀a b c,Below w.heap.size w (((w.alloc a).alloc b).alloc c):=fun a b c=>(((Ia _ w).alloc (HW _) _).alloc (by simp) _).alloc (by simp;omega) _
 have rep:∀{W:World},Below w.heap.size w W→aQ W F (sp s) (.agg #[.slice A n c,.slice A' n' c',.int .i64 s.2.2.1,.int .i64 s.2.2.2]):=fun {W} h=>aI (fun _ h=>h) (fun b hb=>h.block b (hF b hb)) hr
 have hFW:∀{W:World},Below w.heap.size w W→∀b,F b→b<W.heap.size:=fun {W} h b hb=>HQ (hF b hb) h.size
 have hc1:=fun a b c=>qS s hs (rep (hb3 a b c)) (hFW (hb3 a b c))
 have hc2:=fun(W:World)=>rL x hx (w:=W)
 cases hok:aW s
 ·have hno:iv s x=false:=by simp [iv,hok]
  rw [hok] at hc1
  go_wp2_with (go_at_call 34;refine(hc1 _ _ _).mono ?_;rintro e w2 ⟨rfl,b2⟩;have B2:Below w.heap.size w w2:=bm (hb3 _ _ _) b2 (by simp;omega);have H2:w2.heap[w.heap.size+2]?=some (.cells #[.slice none 0 0,.slice none 0 0,.int .i64 0,.int .i64 0] 33 (0,0)):=Below.some b2 (ac _ (by simp));have i0:=(aa H2).1;have i1:=(aa H2).2.1;have i2:=(aa H2).2.2.1;have i3:=(aa H2).2.2.2;have j0:=(aG H2).1;have j1:=(aG H2).2.1;have j2:=(aG H2).2.2.1;have j3:=(aG H2).2.2.2)
  obtain⟨d0,d1,d2,d3⟩:=aa (aD (.slice none 0 0) (.slice none 0 0) (.int .i64 0) (.int .i64 0) H2);refine bodyPost_ret (by simp [results,Try.results23,go_sem,d0,d1,d2,d3];try rfl) rfl ?_
  (try rw [hno])
  (try rw [xI hno])
  exact⟨_,rfl,fN _ _,bd _ _ _ _ B2 (by omega)⟩
 ·rw [hok] at hc1
  cases hst:cN x
  ·have hno:iv s x=false:=by simp [iv,gJ,hst]
   rw [hst] at hc2
   go_wp2_with (first
    | (go_at_call 34;refine(hc1 _ _ _).mono ?_;rintro e w2 ⟨rfl,b2⟩;have B2:Below w.heap.size w w2:=bm (hb3 _ _ _) b2 (by simp;omega);have H2:w2.heap[w.heap.size+2]?=some (.cells #[.slice none 0 0,.slice none 0 0,.int .i64 0,.int .i64 0] 33 (0,0)):=Below.some b2 (ac _ (by simp));have H1:w2.heap[w.heap.size+1]?=some (.cells #[.int .i64 x.1,.int .i64 x.2.1,.string x.2.2.1,.int .i64 x.2.2.2] 46 (0,0)):=Below.some b2 (ah _ (ac _ (by simp)));have i0:=(aa H1).1;have i1:=(aa H1).2.1;have i2:=(aa H1).2.2.1;have i3:=(aa H1).2.2.2)
    | (go_at_call 55;refine(hc2 _).mono ?_;rintro e w3 ⟨rfl,b3⟩;have B3:=bm B2 b3 B2.size;have H3:=Below.some b3 H2;have i4:=(aa H3).1;have i5:=(aa H3).2.1;have i6:=(aa H3).2.2.1;have i7:=(aa H3).2.2.2;have j0:=(aG H3).1;have j1:=(aG H3).2.1;have j2:=(aG H3).2.2.1;have j3:=(aG H3).2.2.2))
   obtain⟨d0,d1,d2,d3⟩:=aa (aD (.slice none 0 0) (.slice none 0 0) (.int .i64 0) (.int .i64 0) H3);refine bodyPost_ret (by simp [results,Try.results23,go_sem,d0,d1,d2,d3];try rfl) rfl ?_
   (try rw [hno])
   (try rw [xI hno])
   exact⟨_,rfl,fN _ _,bd _ _ _ _ B3 (by omega)⟩
  ·have hyB:iv s x=gJ s x:=by simp [iv,hok]
   have hyS:km s x=stS s x:=by simp [km,hok]
   rw [hst] at hc2;have hc3:=fun(W:World) (h:Below w.heap.size w W)=>vD s hs hok x hst _ W F (rep h) (hFW h)
   go_wp2_with (first
    | (go_at_call 34;refine(hc1 _ _ _).mono ?_;rintro e w2 ⟨rfl,b2⟩;have B2:Below w.heap.size w w2:=bm (hb3 _ _ _) b2 (by simp;omega);have H2:w2.heap[w.heap.size+2]?=some (.cells #[.slice none 0 0,.slice none 0 0,.int .i64 0,.int .i64 0] 33 (0,0)):=Below.some b2 (ac _ (by simp));have H1:w2.heap[w.heap.size+1]?=some (.cells #[.int .i64 x.1,.int .i64 x.2.1,.string x.2.2.1,.int .i64 x.2.2.2] 46 (0,0)):=Below.some b2 (ah _ (ac _ (by simp)));have H0:w2.heap[w.heap.size]?=some (.cells #[.slice A n c,.slice A' n' c',.int .i64 s.2.2.1,.int .i64 s.2.2.2] 33 (0,0)):=Below.some b2 (ah _ (ah _ (ac _ rfl)));have i0:=(aa H1).1;have i1:=(aa H1).2.1;have i2:=(aa H1).2.2.1;have i3:=(aa H1).2.2.2)
    | (go_at_call 55;refine(hc2 _).mono ?_;rintro e w3 ⟨rfl,b3⟩;have B3:=bm B2 b3 B2.size;have H3:=Below.some b3 H2;have H31:=Below.some b3 H1;have H30:=Below.some b3 H0;have i4:=(aa H31).1;have i5:=(aa H31).2.1;have i6:=(aa H31).2.2.1;have i7:=(aa H31).2.2.2;have j0:=(aa H30).1;have j1:=(aa H30).2.1;have j2:=(aa H30).2.2.1;have j3:=(aa H30).2.2.2)
    | (go_at_call 56;refine(hc3 _ B3).mono ?_))
   rintro e w4 ⟨v4,rfl,⟨Vb,Vf,ys,sa⟩,b4⟩;obtain rfl:=sa.val;obtain⟨bA,bn,bc,rfl⟩:=aU sa.box;obtain⟨fA,fc,rfl⟩:=bt sa.fms.own;have H4:=Below.some b4 H3;have B4:=bm B3 b4 B3.size;obtain⟨e0,e1,e2,e3⟩:=aa H4;obtain⟨g0,g1,g2,g3⟩:=aG H4;have hl3:=aB H3
   go_wp2
   obtain⟨d0,d1,d2,d3⟩:=aa (aD (.slice bA bn bc) (.slice fA (stS s x).2.1.length fc) (.int .i64 (stS s x).2.2.1) (.int .i64 (stS s x).2.2.2) H4);refine bodyPost_ret (by simp [results,Try.results23,go_sem,d0,d1,d2,d3];try rfl) rfl ?_
   (try rw [hyB])
   (try rw [hyS])
   have hS8:=sa.set4 (g:=w.heap.size+2) (.slice bA bn bc) (.slice fA (stS s x).2.1.length fc) (.int .i64 (stS s x).2.2.1) (.int .i64 (stS s x).2.2.2) fun b hb=>by have:=(sa.lt b hb).1;omega
   exact⟨_,rfl,⟨_,_,_,hS8.val,hS8.box,fun b hb=>by have:=hS8.bge b hb;omega,hS8.fms.base (by omega),hS8.dis⟩,bd _ _ _ _ B4 (by omega)⟩
set_option maxRecDepth 100000
theorem pj {w w':World} {B:Nat} {A A' A2:Option Addr} {bn c n' c' n2 c2:Nat} {v:Value} {ys ys':List Value} {l':List Fm} {x y:Int} {s:Sp} (hS:ShopAt w B v (.slice A bn c) (.slice A' n' c') ys s)
  (hb:∀b,aA (.slice A bn c) b→w'.heap[b]?=w.heap[b]?) (hF':FmsAt w' B (.slice A2 n2 c2) ys' l') (hfo:∀b,FmS (.slice A2 n2 c2) ys' b→FmS (.slice A' n' c') ys b∨w.heap.size≤b) :
  ShopAt w' B (.agg #[.slice A bn c,.slice A2 n2 c2,.int .i64 x,.int .i64 y]) (.slice A bn c) (.slice A2 n2 c2) ys' (s.1,l',x,y)∧∀b,ShS (.slice A bn c) (.slice A2 n2 c2) ys' b→ShS (.slice A bn c) (.slice A' n' c') ys b∨w.heap.size≤b :=
 ⟨⟨rfl,aJ hS.box hb,hS.bge,hF',fun b hb h=>(hfo b h).elim (hS.dis b hb) fun h=>by have:=cd hS.box b hb;omega⟩,fun b hb=>hb.elim (fun h=>.inl (.inl h)) fun h=>(hfo b h).imp .inr id⟩
structure WS (P:Program) (ops:Array Oper) (w:World) (Q:Act→Prop) (l:List Oper) (a:Act):Prop where
 out:wpStill P ops w Q l a
structure WG (P:Program) (ops:Array Oper) (w:World) (o:Oper) (a:Act) (K:Act→Prop):Prop where
 out:if Region.wanted o (yielded ops a.tmps) then o.still P a w K else K (a.put o.dst undef)
theorem WS.step {P:Program} {ops:Array Oper} {w:World} {Q:Act→Prop} {a:Act} {o:Oper} {rest:List Oper} (h:∀K:Act→Prop,Hid (∀a,WS P ops w Q rest a→K a)→WG P ops w o a K):WS P ops w Q (o::rest) a :=
 ⟨wpStill_step fun K hK=>(h K fun a ha=>hK a ha.out).out⟩
theorem WS.nil {P:Program} {ops:Array Oper} {w:World} {Q:Act→Prop} {a:Act} (h:Q a):WS P ops w Q [] a:=⟨h⟩
theorem KeptX.ofBelow {S:Nat→Prop} {w w':World} (h:Below w.heap.size w w'):KeptX S w w':=⟨h.os,h.tape,h.output,h.size,fun b hb _=>h.block b hb⟩
theorem KeptX.stepX {S T:Nat→Prop} {w w1 w2:World} (h:KeptX S w w1) (k:KeptX T w1 w2) (hT:∀b,T b→S b∨w.heap.size≤b):KeptX S w w2 :=
 ⟨k.os.trans h.os,k.tape.trans h.tape,k.output.trans h.output,HX h.size k.size,fun b hb hS=>(k.block b (HQ hb h.size) fun ht=>(hT b ht).elim hS fun h=>by omega).trans (h.block b hb hS)⟩
theorem KeptX.step {S:Nat→Prop} {w w1 w2:World} (h:KeptX S w w1) (k:Below w1.heap.size w1 w2):KeptX S w w2 :=
 h.stepX (T:=fun _=>False) (KeptX.ofBelow k) fun _ hb=>hb.elim
theorem KeptX.setO {S:Nat→Prop} {w w1:World} (h:KeptX S w w1) (a:Addr) (v:Value) (ha:S a.block∨w.heap.size≤a.block):KeptX S w (w1.setCell a v) :=
 ⟨h.os,h.tape,h.output,by simpa [HR] using h.size,fun b hb hS=>(heap_setCell_other _ _ _ _ (by rintro rfl;exact ha.elim hS fun h=>by omega)).trans (h.block b hb hS)⟩
theorem KeptX.set4 {S:Nat→Prop} {w w1:World} {r:Nat} (h:KeptX S w w1) (hr:w.heap.size≤r) (x0 x1 x2 x3:Value):KeptX S w ((((w1.setCell ⟨r,0,none⟩ x0).setCell ⟨r,1,none⟩ x1).setCell ⟨r,2,none⟩ x2).setCell ⟨r,3,none⟩ x3) :=
 (((h.setO _ _ (.inr hr)).setO _ _ (.inr hr)).setO _ _ (.inr hr)).setO _ _ (.inr hr)
def nG (w:World) (B:Nat) (S:Nat→Prop) (ok:Bool) (t:Sp) (e:Ending) (w':World):Prop:=∃v Vb Vf ys,e = .returned (.tuple #[v,.bool ok])∧ShopAt w' B v Vb Vf ys (if ok=true then t else([],[],0,0))∧(∀b,ShS Vb Vf ys b→S b∨w.heap.size≤b)∧KeptX S w w'
theorem dN {w w':World} {B r:Nat} {S:Nat→Prop} {t:Sp} (hB:KeptX S w w') (hr:w.heap.size≤r):nG w B S false t (.returned (.tuple #[.agg #[.slice none 0 0,.slice none 0 0,.int .i64 0,.int .i64 0],.bool false])) ((((w'.setCell ⟨r,0,none⟩ (.slice none 0 0)).setCell ⟨r,1,none⟩ (.slice none 0 0)).setCell ⟨r,2,none⟩ (.int .i64 0)).setCell ⟨r,3,none⟩ (.int .i64 0)) :=
 ⟨_,_,_,[],rfl,⟨rfl,dR _ _ _ _,(fun b hb=>by cases hb),qs _ _,(fun b hb=>by cases hb)⟩,fun b hb=>hb.elim (fun h=>by cases h) (fun h=>h.elim (fun h=>by cases h) fun⟨_,h,_⟩=>by cases h),hB.set4 hr _ _ _ _⟩
theorem jT {w w':World} {B r:Nat} {S:Nat→Prop} {t:Sp} {A A':Option Addr} {n c n' c':Nat} {ys:List Value} (hS:ShopAt w' B (.agg #[.slice A n c,.slice A' n' c',.int .i64 t.2.2.1,.int .i64 t.2.2.2]) (.slice A n c) (.slice A' n' c') ys t) (hB:KeptX S w w') (hr:w.heap.size≤r) (hg:∀b,ShS (.slice A n c) (.slice A' n' c') ys b→r≠b)
  (hsub:∀b,ShS (.slice A n c) (.slice A' n' c') ys b→S b∨w.heap.size≤b) :
  nG w B S true t (.returned (.tuple #[.agg #[.slice A n c,.slice A' n' c',.int .i64 t.2.2.1,.int .i64 t.2.2.2],.bool true])) ((((w'.setCell ⟨r,0,none⟩ (.slice A n c)).setCell ⟨r,1,none⟩ (.slice A' n' c')).setCell ⟨r,2,none⟩ (.int .i64 t.2.2.1)).setCell ⟨r,3,none⟩ (.int .i64 t.2.2.2)) :=
 ⟨_,_,_,_,rfl,hS.set4 _ _ _ _ hg,hsub,hB.set4 hr _ _ _ _⟩
set_option maxHeartbeats 8000000 in
set_option maxRecDepth 1000000 in
theorem Ef (s:Sp) (hs:cK s) (hok:aW s=true) (id:Int) (u:ByteArray) (n:Int) (hx:cN (2,id,u,n)=true) (w:World) (B:Nat) (v Vb Vf:Value) (ys:List Value) (hS0:ShopAt w B v Vb Vf ys s) (hB:B≤w.heap.size) :
  Calls Try.prog 91 #[v,stV (2,id,u,n)] w (nG w B (ShS Vb Vf ys) (eR s.2.1 id&&cG s (atF s.2.1 id) (2,id,u,n)) (eU s (atF s.2.1 id) (2,id,u,n))):=by
 obtain⟨hfm,hgc,_,hlost⟩:=bv hok;obtain rfl:=hS0.val;obtain⟨bA,bn,bc,rfl⟩:=aU hS0.box;obtain⟨fA,fc,rfl⟩:=bt hS0.fms.own;have hlt0:=hS0.lt
 go_enter Try.func91,Try.ntmps91
 go_upto_region 1 with fail
 have hW:Below w.heap.size w (((w.alloc (.cells #[.slice bA bn bc,.slice fA s.2.1.length fc,.int .i64 s.2.2.1,.int .i64 s.2.2.2] 33)).alloc (.cells #[.int .i64 2,.int .i64 id,.string u,.int .i64 n] 46)).alloc (.cells #[.slice none 0 0,.slice none 0 0,.int .i64 0,.int .i64 0] 33)):=((Ia _ w).alloc (HW _) _).alloc (by simp) _ |>.alloc (by simp;omega) _;have hWs:w.heap.size+3≤(((w.alloc (.cells #[.slice bA bn bc,.slice fA s.2.1.length fc,.int .i64 s.2.2.1,.int .i64 s.2.2.2] 33)).alloc (.cells #[.int .i64 2,.int .i64 id,.string u,.int .i64 n] 46)).alloc (.cells #[.slice none 0 0,.slice none 0 0,.int .i64 0,.int .i64 0] 33)).heap.size:=by simp
 have hp:(((w.alloc (.cells #[.slice bA bn bc,.slice fA s.2.1.length fc,.int .i64 s.2.2.1,.int .i64 s.2.2.2] 33)).alloc (.cells #[.int .i64 2,.int .i64 id,.string u,.int .i64 n] 46)).alloc (.cells #[.slice none 0 0,.slice none 0 0,.int .i64 0,.int .i64 0] 33)).heap[w.heap.size]?=some (.cells #[.slice bA bn bc,.slice fA s.2.1.length fc,.int .i64 s.2.2.1,.int .i64 s.2.2.2] 33 (0,0)):=ah _ (ah _ (ac _ rfl));have hq:(((w.alloc (.cells #[.slice bA bn bc,.slice fA s.2.1.length fc,.int .i64 s.2.2.1,.int .i64 s.2.2.2] 33)).alloc (.cells #[.int .i64 2,.int .i64 id,.string u,.int .i64 n] 46)).alloc (.cells #[.slice none 0 0,.slice none 0 0,.int .i64 0,.int .i64 0] 33)).heap[w.heap.size+1]?=some (.cells #[.int .i64 2,.int .i64 id,.string u,.int .i64 n] 46 (0,0)):=ah _ (ac _ (by simp));have hr:(((w.alloc (.cells #[.slice bA bn bc,.slice fA s.2.1.length fc,.int .i64 s.2.2.1,.int .i64 s.2.2.2] 33)).alloc (.cells #[.int .i64 2,.int .i64 id,.string u,.int .i64 n] 46)).alloc (.cells #[.slice none 0 0,.slice none 0 0,.int .i64 0,.int .i64 0] 33)).heap[w.heap.size+1+1]?=some (.cells #[.slice none 0 0,.slice none 0 0,.int .i64 0,.int .i64 0] 33 (0,0)):=ac _ (by simp);have hS:=hS0.below hW;generalize (((w.alloc (.cells #[.slice bA bn bc,.slice fA s.2.1.length fc,.int .i64 s.2.2.1,.int .i64 s.2.2.2] 33)).alloc (.cells #[.int .i64 2,.int .i64 id,.string u,.int .i64 n] 46)).alloc (.cells #[.slice none 0 0,.slice none 0 0,.int .i64 0,.int .i64 0] 33))=W at *;have hc:=ic s id hs hok hS.rep (fun b hb=>(hS.lt b hb).2);obtain⟨e0,e1,e2,e3⟩:=aa hp;obtain⟨f0,f1,f2,f3⟩:=aa hq;cases hh:eR s.2.1 id
 ·rw [hh] at hc
  simp only [Ih,if_false] at hc;have hhH:Hid (eR s.2.1 id=false):=hh
  go_upto_region 4 with (go_at_call 115;refine hc.mono ?_;rintro e w2 ⟨rfl,b2⟩)
  have B2:KeptX (ShS (.slice bA bn bc) (.slice fA s.2.1.length fc) ys) w w2:=(KeptX.ofBelow hW).step b2;have hr2:=Below.some b2 hr;clear hc hS hS0 hfm hgc hlt0 hs hok hx hlost hh;refine wp_region_still_lit (by kernel_rfl) (by kernel_rfl) (WS.out ?_)
  refine WS.step (fun K hK=>WG.mk ?_)
  go_simp
  refine hK.out _ ?_
  clear hK K;refine WS.step (fun K hK=>WG.mk ?_)
  go_simp
  refine hK.out _ ?_
  clear hK K;refine WS.step (fun K hK=>WG.mk ?_)
  go_simp
  refine hK.out _ ?_
  clear hK K;refine WS.step (fun K hK=>WG.mk ?_)
  go_simp
  refine hK.out _ ?_
  clear hK K;refine WS.step (fun K hK=>WG.mk ?_)
  go_simp
  refine hK.out _ ?_
  clear hK K;refine WS.step (fun K hK=>WG.mk ?_)
  go_simp
  refine hK.out _ ?_
  clear hK K;refine WS.step (fun K hK=>WG.mk ?_)
  go_simp
  refine hK.out _ ?_
  clear hK K;refine WS.step (fun K hK=>WG.mk ?_)
  go_simp
  refine hK.out _ ?_
  clear hK K;refine WS.step (fun K hK=>WG.mk ?_)
  go_simp
  refine hK.out _ ?_
  clear hK K;refine WS.step (fun K hK=>WG.mk ?_)
  go_simp
  refine hK.out _ ?_
  clear hK K;refine WS.step (fun K hK=>WG.mk ?_)
  go_simp
  refine hK.out _ ?_
  clear hK K;refine WS.step (fun K hK=>WG.mk ?_)
  go_simp
  refine hK.out _ ?_
  clear hK K;refine WS.step (fun K hK=>WG.mk ?_)
  go_simp
  refine hK.out _ ?_
  clear hK K;refine WS.step (fun K hK=>WG.mk ?_)
  go_simp
  refine hK.out _ ?_
  clear hK K;refine WS.step (fun K hK=>WG.mk ?_)
  go_simp
  refine hK.out _ ?_
  clear hK K;refine WS.step (fun K hK=>WG.mk ?_)
  go_simp
  refine hK.out _ ?_
  clear hK K;refine WS.step (fun K hK=>WG.mk ?_)
  go_simp
  refine hK.out _ ?_
  clear hK K;refine WS.step (fun K hK=>WG.mk ?_)
  go_simp
  refine hK.out _ ?_
  clear hK K;refine WS.step (fun K hK=>WG.mk ?_)
  go_simp
  refine hK.out _ ?_
  clear hK K;refine WS.nil ?_
  change Exit.then _ _ _ _ w2.drew
  have B3:KeptX (ShS (.slice bA bn bc) (.slice fA s.2.1.length fc) ys) w w2.drew:=B2.step (ab w2);have hr3:=Below.some (ab w2) hr2;generalize w2.drew=w3 at *;obtain⟨g0,g1,g2,g3⟩:=aa hr3;obtain⟨j0,j1,j2,j3⟩:=aG hr3
  go_wp2
  obtain⟨d0,d1,d2,d3⟩:=aa (aD (.slice none 0 0) (.slice none 0 0) (.int .i64 0) (.int .i64 0) hr3);refine bodyPost_ret (by simp [results,Try.results91,go_sem,d0,d1,d2,d3];try rfl) rfl ?_
  rw [hhH.out,Ij];exact dN B3 (by omega)
 rw [hh] at hc;simp only [if_true] at hc;have hhH:Hid (eR s.2.1 id=true):=hh;obtain⟨hi,-⟩:=jt hh;obtain⟨i,hati⟩:∃i,i=atF s.2.1 id:=⟨_,rfl⟩
 rw [←hati] at hc hi;have hatH:Hid (i=atF s.2.1 id):=hati;clear hati;have haS:eU s i (2,id,u,n)=(s.1,s.2.1.set i (s.2.1[i].1,s.2.1[i].2.1,true,s.2.1[i].2.2.2),s.2.2.1,s.2.2.2):=by
  unfold eU;rw [HK hi];simp
 have haO:cG s i (2,id,u,n)=(!s.2.1[i].2.2.1):=by
  unfold cG;rw [HK hi];simp
 have haSH:Hid _:=haS;have haOH:Hid _:=haO;have hfi:=hfm i hi
 go_upto_region 4 with (go_at_call 115;refine hc.mono ?_;rintro e w2 ⟨rfl,b2⟩)
 have B2:KeptX (ShS (.slice bA bn bc) (.slice fA s.2.1.length fc) ys) w w2:=(KeptX.ofBelow hW).step b2;have hp2:=Below.some b2 hp;have hq2:=Below.some b2 hq;have hr2:=Below.some b2 hr;have hS2:=hS.below b2;have hs2:=b2.size;clear hc hS hS0 haS haO hW b2 hp hq hr e0 e1 e2 e3 f0 f1 f2 f3 hh;obtain⟨g,rfl⟩:=dc hS2.fms.own (by omega);have hgl:=hlt0 g (.inr (.inl rfl));have hgx:s.2.1[i]?=some s.2.1[i]:=HK hi;have hpi:(i:Int)<(s.2.1.length:Int):=by omega
 have hset:=dE hfi;have hprt:=bL hfi;obtain⟨f,hf⟩:∃f,f=s.2.1[i]:=⟨_,rfl⟩
 rw [←hf] at hfi hgx hset hprt haOH haSH;obtain⟨y,hy⟩:∃y,ys[i]?=some y:=⟨ys[i]'(by rw [hS2.fms.len];exact hi),HK _⟩
 have k2:=ax hS2.fms.own (j:=i*4+2) (u:=.bool f.2.2.1) (by rw [aE _ _ i f _ hgx hy 2 (by omega)];rfl);obtain⟨e0,e1,e2,e3⟩:=aa hp2;obtain⟨f0,f1,f2,f3⟩:=aa hq2;have hnn:¬((i:Int)<0):=by omega
 cases hb:f.2.2.1
 ·rw [hb] at k2
  have hbH:Hid _:=hb;clear hb;refine wp_region_still_lit (by kernel_rfl) (by kernel_rfl) (WS.out ?_)
  refine WS.step (fun K hK=>WG.mk ?_)
  go_simp
  refine hK.out _ ?_
  clear hK K;refine WS.step (fun K hK=>WG.mk ?_)
  go_simp
  refine hK.out _ ?_
  clear hK K;refine WS.step (fun K hK=>WG.mk ?_)
  go_simp
  refine hK.out _ ?_
  clear hK K;refine WS.step (fun K hK=>WG.mk ?_)
  go_simp
  refine hK.out _ ?_
  clear hK K;refine WS.step (fun K hK=>WG.mk ?_)
  go_simp
  refine hK.out _ ?_
  clear hK K;refine WS.step (fun K hK=>WG.mk ?_)
  go_simp
  refine hK.out _ ?_
  clear hK K;refine WS.step (fun K hK=>WG.mk ?_)
  go_simp
  refine hK.out _ ?_
  clear hK K;refine WS.step (fun K hK=>WG.mk ?_)
  go_simp
  refine hK.out _ ?_
  clear hK K;refine WS.step (fun K hK=>WG.mk ?_)
  go_simp
  refine hK.out _ ?_
  clear hK K;refine WS.step (fun K hK=>WG.mk ?_)
  go_simp
  refine hK.out _ ?_
  clear hK K;refine WS.step (fun K hK=>WG.mk ?_)
  go_simp
  refine hK.out _ ?_
  clear hK K;refine WS.step (fun K hK=>WG.mk ?_)
  go_simp
  refine hK.out _ ?_
  clear hK K;refine WS.step (fun K hK=>WG.mk ?_)
  go_simp
  refine hK.out _ ?_
  clear hK K;refine WS.step (fun K hK=>WG.mk ?_)
  go_simp
  refine hK.out _ ?_
  clear hK K;refine WS.step (fun K hK=>WG.mk ?_)
  go_simp
  refine hK.out _ ?_
  clear hK K;refine WS.step (fun K hK=>WG.mk ?_)
  go_simp
  refine hK.out _ ?_
  clear hK K;refine WS.step (fun K hK=>WG.mk ?_)
  go_simp
  refine hK.out _ ?_
  clear hK K;refine WS.step (fun K hK=>WG.mk ?_)
  go_simp
  refine hK.out _ ?_
  clear hK K;refine WS.step (fun K hK=>WG.mk ?_)
  go_simp
  refine hK.out _ ?_
  clear hK K;refine WS.nil ?_
  change Exit.then _ _ _ _ w2.drew
  have B3:KeptX (ShS (.slice bA bn bc) (.slice (some ⟨g,0,none⟩) s.2.1.length fc) ys) w w2.drew:=B2.step (ab w2);have hp3:=Below.some (ab w2) hp2;have hq3:=Below.some (ab w2) hq2;have hr3:=Below.some (ab w2) hr2;have hS3:=hS2.below (ab w2);have hs3:w.heap.size+3≤w2.drew.heap.size:=HX hWs hs2;clear k2 e0 e1 e2 e3 f0 f1 f2 f3 hp2 hq2 hr2 hS2 B2 hWs hs2;generalize w2.drew=w3 at *;clear w2 W;have hF:=hS3.fms;have hrow:=hF.row i _ y hgx hy;obtain⟨Ay,cy,rfl⟩:=co hrow;rw [Ic] at hy hrow;have k1:=ax hF.own (j:=i*4+1) (u:=.slice Ay f.2.1.length cy) (by rw [aE _ _ i f _ hgx hy 1 (by omega)];rfl);have k2:=ax hF.own (j:=i*4+2) (u:=.bool f.2.2.1) (by rw [aE _ _ i f _ hgx hy 2 (by omega)];rfl);rw [hbH.out] at k2;have k3:=ax hF.own (j:=i*4+3) (u:=.int .i64 f.2.2.2) (by rw [aE _ _ i f _ hgx hy 3 (by omega)];rfl);have z1:=aN hF.own (i*4+1);have z2:=aN hF.own (i*4+2);have z3:=aN hF.own (i*4+3);have hgp:g≠w.heap.size:=by omega
  have hfe:s.2.1[i]=f:=hf.symm;clear hf;have hcel:=fun(k:Nat) (v:Value) (x':Fm) hk hx hc=>cv hF hi hy (x':=x') (k:=k) (v:=v) hk hx hc
  rw [hfe] at hcel;obtain⟨e0,e1,e2,e3⟩:=aa hp3;obtain⟨f0,f1,f2,f3⟩:=aa hq3;have hwy:∀b,aA (.slice Ay f.2.1.length cy) b→b≠g:=fun b hb e=>(hF.blk i _ b hy hb).2 (by rw [e];rfl)
  have hpz:(w3.setCell ⟨g,i*4+2,none⟩ (.bool true)).heap[w.heap.size]?=_:=(heap_setCell_other _ _ _ _ (by simp;omega)).trans hp3;have hrz:(w3.setCell ⟨g,i*4+2,none⟩ (.bool true)).heap[w.heap.size+1+1]?=_:=(heap_setCell_other _ _ _ _ (by simp;omega)).trans hr3;have hFz:=hcel 2 (.bool true) (f.1,f.2.1,true,f.2.2.2) (by omega) rfl rfl;obtain⟨hSz,hShz⟩:=pj (x:=s.2.2.1) (y:=s.2.2.2) hS3 (fun b hb=>heap_setCell_other _ _ _ _ (by
   have:=hS3.dis b hb;simp;exact fun e=>this (.inl (by rw [e];rfl)))) hFz (fun b hb=>.inl hb)
  have Bz:KeptX (ShS (.slice bA bn bc) (.slice (some ⟨g,0,none⟩) s.2.1.length fc) ys) w (w3.setCell ⟨g,i*4+2,none⟩ (.bool true)):=B3.setO _ _ (.inl (.inr (.inl rfl)));have hszz:w3.heap.size≤(w3.setCell ⟨g,i*4+2,none⟩ (.bool true)).heap.size:=by simp [HR]
  go_upto_region 25 with fail
  clear e0 e1 e2 e3 f0 f1 f2 f3 k1 k2 k3 z1 z2 z3;obtain⟨a0,a1,a2,a3⟩:=aa hpz;obtain⟨g0,g1,g2,g3⟩:=aa hrz;obtain⟨j0,j1,j2,j3⟩:=aG hrz
  go_wp2
  obtain⟨d0,d1,d2,d3⟩:=aa (aD (.slice bA bn bc) (.slice (some ⟨g,0,none⟩) s.2.1.length fc) (.int .i64 s.2.2.1) (.int .i64 s.2.2.2) hrz);refine bodyPost_ret (by simp [results,Try.results91,go_sem,d0,d1,d2,d3];try rfl) rfl ?_
  rw [hhH.out,←hatH.out,haOH.out,hbH.out,haSH.out];exact jT hSz Bz (by omega) (fun b hb=>by
   rcases hShz b hb with h | h
   ·have:=hlt0 b h
    omega
   ·omega) (fun b hb=>(hShz b hb).imp (fun h=>h) fun h=>by omega)
 ·rw [hb] at k2
  have hbH:Hid _:=hb;clear hb;refine wp_region_still_lit (by kernel_rfl) (by kernel_rfl) (WS.out ?_)
  refine WS.step (fun K hK=>WG.mk ?_)
  go_simp
  refine hK.out _ ?_
  clear hK K;refine WS.step (fun K hK=>WG.mk ?_)
  go_simp
  refine hK.out _ ?_
  clear hK K;refine WS.step (fun K hK=>WG.mk ?_)
  go_simp
  refine hK.out _ ?_
  clear hK K;refine WS.step (fun K hK=>WG.mk ?_)
  go_simp
  refine hK.out _ ?_
  clear hK K;refine WS.step (fun K hK=>WG.mk ?_)
  go_simp
  refine hK.out _ ?_
  clear hK K;refine WS.step (fun K hK=>WG.mk ?_)
  go_simp
  refine hK.out _ ?_
  clear hK K;refine WS.step (fun K hK=>WG.mk ?_)
  go_simp
  refine hK.out _ ?_
  clear hK K;refine WS.step (fun K hK=>WG.mk ?_)
  go_simp
  refine hK.out _ ?_
  clear hK K;refine WS.step (fun K hK=>WG.mk ?_)
  go_simp
  refine hK.out _ ?_
  clear hK K;refine WS.step (fun K hK=>WG.mk ?_)
  go_simp
  refine hK.out _ ?_
  clear hK K;refine WS.step (fun K hK=>WG.mk ?_)
  go_simp
  refine hK.out _ ?_
  clear hK K;refine WS.step (fun K hK=>WG.mk ?_)
  go_simp
  refine hK.out _ ?_
  clear hK K;refine WS.step (fun K hK=>WG.mk ?_)
  go_simp
  refine hK.out _ ?_
  clear hK K;refine WS.step (fun K hK=>WG.mk ?_)
  go_simp
  refine hK.out _ ?_
  clear hK K;refine WS.step (fun K hK=>WG.mk ?_)
  go_simp
  refine hK.out _ ?_
  clear hK K;refine WS.step (fun K hK=>WG.mk ?_)
  go_simp
  refine hK.out _ ?_
  clear hK K;refine WS.step (fun K hK=>WG.mk ?_)
  go_simp
  refine hK.out _ ?_
  clear hK K;refine WS.step (fun K hK=>WG.mk ?_)
  go_simp
  refine hK.out _ ?_
  clear hK K;refine WS.step (fun K hK=>WG.mk ?_)
  go_simp
  refine hK.out _ ?_
  clear hK K;refine WS.nil ?_
  change Exit.then _ _ _ _ w2.drew
  have B3:KeptX (ShS (.slice bA bn bc) (.slice (some ⟨g,0,none⟩) s.2.1.length fc) ys) w w2.drew:=B2.step (ab w2);have hr3:=Below.some (ab w2) hr2;generalize w2.drew=w3 at *;obtain⟨g0,g1,g2,g3⟩:=aa hr3;obtain⟨j0,j1,j2,j3⟩:=aG hr3
  go_wp2
  obtain⟨d0,d1,d2,d3⟩:=aa (aD (.slice none 0 0) (.slice none 0 0) (.int .i64 0) (.int .i64 0) hr3);refine bodyPost_ret (by simp [results,Try.results91,go_sem,d0,d1,d2,d3];try rfl) rfl ?_
  rw [hhH.out,←hatH.out,haOH.out,hbH.out];exact dN B3 (by omega)
set_option maxHeartbeats 8000000 in
set_option maxRecDepth 1000000 in
theorem DA (s:Sp) (hs:cK s) (hok:aW s=true) (id:Int) (u:ByteArray) (n:Int) (hx:cN (4,id,u,n)=true) (w:World) (B:Nat) (v Vb Vf:Value) (ys:List Value) (hS0:ShopAt w B v Vb Vf ys s) (hB:B≤w.heap.size) :
  Calls Try.prog 91 #[v,stV (4,id,u,n)] w (nG w B (ShS Vb Vf ys) (eR s.2.1 id&&cG s (atF s.2.1 id) (4,id,u,n)) (eU s (atF s.2.1 id) (4,id,u,n))):=by
 obtain⟨hfm,hgc,_,hlost⟩:=bv hok;obtain rfl:=hS0.val;obtain⟨bA,bn,bc,rfl⟩:=aU hS0.box;obtain⟨fA,fc,rfl⟩:=bt hS0.fms.own;have hlt0:=hS0.lt
 go_enter Try.func91,Try.ntmps91
 go_upto_region 1 with fail
 have hW:Below w.heap.size w (((w.alloc (.cells #[.slice bA bn bc,.slice fA s.2.1.length fc,.int .i64 s.2.2.1,.int .i64 s.2.2.2] 33)).alloc (.cells #[.int .i64 4,.int .i64 id,.string u,.int .i64 n] 46)).alloc (.cells #[.slice none 0 0,.slice none 0 0,.int .i64 0,.int .i64 0] 33)):=((Ia _ w).alloc (HW _) _).alloc (by simp) _ |>.alloc (by simp;omega) _;have hWs:w.heap.size+3≤(((w.alloc (.cells #[.slice bA bn bc,.slice fA s.2.1.length fc,.int .i64 s.2.2.1,.int .i64 s.2.2.2] 33)).alloc (.cells #[.int .i64 4,.int .i64 id,.string u,.int .i64 n] 46)).alloc (.cells #[.slice none 0 0,.slice none 0 0,.int .i64 0,.int .i64 0] 33)).heap.size:=by simp
 have hp:(((w.alloc (.cells #[.slice bA bn bc,.slice fA s.2.1.length fc,.int .i64 s.2.2.1,.int .i64 s.2.2.2] 33)).alloc (.cells #[.int .i64 4,.int .i64 id,.string u,.int .i64 n] 46)).alloc (.cells #[.slice none 0 0,.slice none 0 0,.int .i64 0,.int .i64 0] 33)).heap[w.heap.size]?=some (.cells #[.slice bA bn bc,.slice fA s.2.1.length fc,.int .i64 s.2.2.1,.int .i64 s.2.2.2] 33 (0,0)):=ah _ (ah _ (ac _ rfl));have hq:(((w.alloc (.cells #[.slice bA bn bc,.slice fA s.2.1.length fc,.int .i64 s.2.2.1,.int .i64 s.2.2.2] 33)).alloc (.cells #[.int .i64 4,.int .i64 id,.string u,.int .i64 n] 46)).alloc (.cells #[.slice none 0 0,.slice none 0 0,.int .i64 0,.int .i64 0] 33)).heap[w.heap.size+1]?=some (.cells #[.int .i64 4,.int .i64 id,.string u,.int .i64 n] 46 (0,0)):=ah _ (ac _ (by simp));have hr:(((w.alloc (.cells #[.slice bA bn bc,.slice fA s.2.1.length fc,.int .i64 s.2.2.1,.int .i64 s.2.2.2] 33)).alloc (.cells #[.int .i64 4,.int .i64 id,.string u,.int .i64 n] 46)).alloc (.cells #[.slice none 0 0,.slice none 0 0,.int .i64 0,.int .i64 0] 33)).heap[w.heap.size+1+1]?=some (.cells #[.slice none 0 0,.slice none 0 0,.int .i64 0,.int .i64 0] 33 (0,0)):=ac _ (by simp);have hS:=hS0.below hW;generalize (((w.alloc (.cells #[.slice bA bn bc,.slice fA s.2.1.length fc,.int .i64 s.2.2.1,.int .i64 s.2.2.2] 33)).alloc (.cells #[.int .i64 4,.int .i64 id,.string u,.int .i64 n] 46)).alloc (.cells #[.slice none 0 0,.slice none 0 0,.int .i64 0,.int .i64 0] 33))=W at *;have hc:=ic s id hs hok hS.rep (fun b hb=>(hS.lt b hb).2);obtain⟨e0,e1,e2,e3⟩:=aa hp;obtain⟨f0,f1,f2,f3⟩:=aa hq;cases hh:eR s.2.1 id
 ·rw [hh] at hc
  simp only [Ih,if_false] at hc;have hhH:Hid (eR s.2.1 id=false):=hh
  go_upto_region 4 with (go_at_call 115;refine hc.mono ?_;rintro e w2 ⟨rfl,b2⟩)
  have B2:KeptX (ShS (.slice bA bn bc) (.slice fA s.2.1.length fc) ys) w w2:=(KeptX.ofBelow hW).step b2;have hr2:=Below.some b2 hr;clear hc hS hS0 hfm hgc hlt0 hs hok hx hlost hh;refine wp_region_still_lit (by kernel_rfl) (by kernel_rfl) (WS.out ?_)
  refine WS.step (fun K hK=>WG.mk ?_)
  go_simp
  refine hK.out _ ?_
  clear hK K;refine WS.step (fun K hK=>WG.mk ?_)
  go_simp
  refine hK.out _ ?_
  clear hK K;refine WS.step (fun K hK=>WG.mk ?_)
  go_simp
  refine hK.out _ ?_
  clear hK K;refine WS.step (fun K hK=>WG.mk ?_)
  go_simp
  refine hK.out _ ?_
  clear hK K;refine WS.step (fun K hK=>WG.mk ?_)
  go_simp
  refine hK.out _ ?_
  clear hK K;refine WS.step (fun K hK=>WG.mk ?_)
  go_simp
  refine hK.out _ ?_
  clear hK K;refine WS.step (fun K hK=>WG.mk ?_)
  go_simp
  refine hK.out _ ?_
  clear hK K;refine WS.step (fun K hK=>WG.mk ?_)
  go_simp
  refine hK.out _ ?_
  clear hK K;refine WS.step (fun K hK=>WG.mk ?_)
  go_simp
  refine hK.out _ ?_
  clear hK K;refine WS.step (fun K hK=>WG.mk ?_)
  go_simp
  refine hK.out _ ?_
  clear hK K;refine WS.step (fun K hK=>WG.mk ?_)
  go_simp
  refine hK.out _ ?_
  clear hK K;refine WS.step (fun K hK=>WG.mk ?_)
  go_simp
  refine hK.out _ ?_
  clear hK K;refine WS.step (fun K hK=>WG.mk ?_)
  go_simp
  refine hK.out _ ?_
  clear hK K;refine WS.step (fun K hK=>WG.mk ?_)
  go_simp
  refine hK.out _ ?_
  clear hK K;refine WS.step (fun K hK=>WG.mk ?_)
  go_simp
  refine hK.out _ ?_
  clear hK K;refine WS.step (fun K hK=>WG.mk ?_)
  go_simp
  refine hK.out _ ?_
  clear hK K;refine WS.step (fun K hK=>WG.mk ?_)
  go_simp
  refine hK.out _ ?_
  clear hK K;refine WS.step (fun K hK=>WG.mk ?_)
  go_simp
  refine hK.out _ ?_
  clear hK K;refine WS.step (fun K hK=>WG.mk ?_)
  go_simp
  refine hK.out _ ?_
  clear hK K;refine WS.nil ?_
  change Exit.then _ _ _ _ w2.drew
  have B3:KeptX (ShS (.slice bA bn bc) (.slice fA s.2.1.length fc) ys) w w2.drew:=B2.step (ab w2);have hr3:=Below.some (ab w2) hr2;generalize w2.drew=w3 at *;obtain⟨g0,g1,g2,g3⟩:=aa hr3;obtain⟨j0,j1,j2,j3⟩:=aG hr3
  go_wp2
  obtain⟨d0,d1,d2,d3⟩:=aa (aD (.slice none 0 0) (.slice none 0 0) (.int .i64 0) (.int .i64 0) hr3);refine bodyPost_ret (by simp [results,Try.results91,go_sem,d0,d1,d2,d3];try rfl) rfl ?_
  rw [hhH.out,Ij];exact dN B3 (by omega)
 rw [hh] at hc;simp only [if_true] at hc;have hhH:Hid (eR s.2.1 id=true):=hh;obtain⟨hi,-⟩:=jt hh;obtain⟨i,hati⟩:∃i,i=atF s.2.1 id:=⟨_,rfl⟩
 rw [←hati] at hc hi;have hatH:Hid (i=atF s.2.1 id):=hati;clear hati;have haS:eU s i (4,id,u,n)=(s.1,s.2.1.set i (s.2.1[i].1,s.2.1[i].2.1,false,s.2.1[i].2.2.2),s.2.2.1,s.2.2.2):=by
  unfold eU;rw [HK hi];simp
 have haO:cG s i (4,id,u,n)=s.2.1[i].2.2.1:=by
  unfold cG;rw [HK hi];simp
 have haSH:Hid _:=haS;have haOH:Hid _:=haO;have hfi:=hfm i hi
 go_upto_region 4 with (go_at_call 115;refine hc.mono ?_;rintro e w2 ⟨rfl,b2⟩)
 have B2:KeptX (ShS (.slice bA bn bc) (.slice fA s.2.1.length fc) ys) w w2:=(KeptX.ofBelow hW).step b2;have hp2:=Below.some b2 hp;have hq2:=Below.some b2 hq;have hr2:=Below.some b2 hr;have hS2:=hS.below b2;have hs2:=b2.size;clear hc hS hS0 haS haO hW b2 hp hq hr e0 e1 e2 e3 f0 f1 f2 f3 hh;obtain⟨g,rfl⟩:=dc hS2.fms.own (by omega);have hgl:=hlt0 g (.inr (.inl rfl));have hgx:s.2.1[i]?=some s.2.1[i]:=HK hi;have hpi:(i:Int)<(s.2.1.length:Int):=by omega
 have hset:=dE hfi;have hprt:=bL hfi;obtain⟨f,hf⟩:∃f,f=s.2.1[i]:=⟨_,rfl⟩
 rw [←hf] at hfi hgx hset hprt haOH haSH;obtain⟨y,hy⟩:∃y,ys[i]?=some y:=⟨ys[i]'(by rw [hS2.fms.len];exact hi),HK _⟩
 have k2:=ax hS2.fms.own (j:=i*4+2) (u:=.bool f.2.2.1) (by rw [aE _ _ i f _ hgx hy 2 (by omega)];rfl);obtain⟨e0,e1,e2,e3⟩:=aa hp2;obtain⟨f0,f1,f2,f3⟩:=aa hq2;have hnn:¬((i:Int)<0):=by omega
 cases hb:f.2.2.1
 ·rw [hb] at k2
  have hbH:Hid _:=hb;clear hb;refine wp_region_still_lit (by kernel_rfl) (by kernel_rfl) (WS.out ?_)
  refine WS.step (fun K hK=>WG.mk ?_)
  go_simp
  refine hK.out _ ?_
  clear hK K;refine WS.step (fun K hK=>WG.mk ?_)
  go_simp
  refine hK.out _ ?_
  clear hK K;refine WS.step (fun K hK=>WG.mk ?_)
  go_simp
  refine hK.out _ ?_
  clear hK K;refine WS.step (fun K hK=>WG.mk ?_)
  go_simp
  refine hK.out _ ?_
  clear hK K;refine WS.step (fun K hK=>WG.mk ?_)
  go_simp
  refine hK.out _ ?_
  clear hK K;refine WS.step (fun K hK=>WG.mk ?_)
  go_simp
  refine hK.out _ ?_
  clear hK K;refine WS.step (fun K hK=>WG.mk ?_)
  go_simp
  refine hK.out _ ?_
  clear hK K;refine WS.step (fun K hK=>WG.mk ?_)
  go_simp
  refine hK.out _ ?_
  clear hK K;refine WS.step (fun K hK=>WG.mk ?_)
  go_simp
  refine hK.out _ ?_
  clear hK K;refine WS.step (fun K hK=>WG.mk ?_)
  go_simp
  refine hK.out _ ?_
  clear hK K;refine WS.step (fun K hK=>WG.mk ?_)
  go_simp
  refine hK.out _ ?_
  clear hK K;refine WS.step (fun K hK=>WG.mk ?_)
  go_simp
  refine hK.out _ ?_
  clear hK K;refine WS.step (fun K hK=>WG.mk ?_)
  go_simp
  refine hK.out _ ?_
  clear hK K;refine WS.step (fun K hK=>WG.mk ?_)
  go_simp
  refine hK.out _ ?_
  clear hK K;refine WS.step (fun K hK=>WG.mk ?_)
  go_simp
  refine hK.out _ ?_
  clear hK K;refine WS.step (fun K hK=>WG.mk ?_)
  go_simp
  refine hK.out _ ?_
  clear hK K;refine WS.step (fun K hK=>WG.mk ?_)
  go_simp
  refine hK.out _ ?_
  clear hK K;refine WS.step (fun K hK=>WG.mk ?_)
  go_simp
  refine hK.out _ ?_
  clear hK K;refine WS.step (fun K hK=>WG.mk ?_)
  go_simp
  refine hK.out _ ?_
  clear hK K;refine WS.nil ?_
  change Exit.then _ _ _ _ w2.drew
  have B3:KeptX (ShS (.slice bA bn bc) (.slice (some ⟨g,0,none⟩) s.2.1.length fc) ys) w w2.drew:=B2.step (ab w2);have hr3:=Below.some (ab w2) hr2;generalize w2.drew=w3 at *;obtain⟨g0,g1,g2,g3⟩:=aa hr3;obtain⟨j0,j1,j2,j3⟩:=aG hr3
  go_wp2
  obtain⟨d0,d1,d2,d3⟩:=aa (aD (.slice none 0 0) (.slice none 0 0) (.int .i64 0) (.int .i64 0) hr3);refine bodyPost_ret (by simp [results,Try.results91,go_sem,d0,d1,d2,d3];try rfl) rfl ?_
  rw [hhH.out,←hatH.out,haOH.out,hbH.out];exact dN B3 (by omega)
 ·rw [hb] at k2
  have hbH:Hid _:=hb;clear hb;refine wp_region_still_lit (by kernel_rfl) (by kernel_rfl) (WS.out ?_)
  refine WS.step (fun K hK=>WG.mk ?_)
  go_simp
  refine hK.out _ ?_
  clear hK K;refine WS.step (fun K hK=>WG.mk ?_)
  go_simp
  refine hK.out _ ?_
  clear hK K;refine WS.step (fun K hK=>WG.mk ?_)
  go_simp
  refine hK.out _ ?_
  clear hK K;refine WS.step (fun K hK=>WG.mk ?_)
  go_simp
  refine hK.out _ ?_
  clear hK K;refine WS.step (fun K hK=>WG.mk ?_)
  go_simp
  refine hK.out _ ?_
  clear hK K;refine WS.step (fun K hK=>WG.mk ?_)
  go_simp
  refine hK.out _ ?_
  clear hK K;refine WS.step (fun K hK=>WG.mk ?_)
  go_simp
  refine hK.out _ ?_
  clear hK K;refine WS.step (fun K hK=>WG.mk ?_)
  go_simp
  refine hK.out _ ?_
  clear hK K;refine WS.step (fun K hK=>WG.mk ?_)
  go_simp
  refine hK.out _ ?_
  clear hK K;refine WS.step (fun K hK=>WG.mk ?_)
  go_simp
  refine hK.out _ ?_
  clear hK K;refine WS.step (fun K hK=>WG.mk ?_)
  go_simp
  refine hK.out _ ?_
  clear hK K;refine WS.step (fun K hK=>WG.mk ?_)
  go_simp
  refine hK.out _ ?_
  clear hK K;refine WS.step (fun K hK=>WG.mk ?_)
  go_simp
  refine hK.out _ ?_
  clear hK K;refine WS.step (fun K hK=>WG.mk ?_)
  go_simp
  refine hK.out _ ?_
  clear hK K;refine WS.step (fun K hK=>WG.mk ?_)
  go_simp
  refine hK.out _ ?_
  clear hK K;refine WS.step (fun K hK=>WG.mk ?_)
  go_simp
  refine hK.out _ ?_
  clear hK K;refine WS.step (fun K hK=>WG.mk ?_)
  go_simp
  refine hK.out _ ?_
  clear hK K;refine WS.step (fun K hK=>WG.mk ?_)
  go_simp
  refine hK.out _ ?_
  clear hK K;refine WS.step (fun K hK=>WG.mk ?_)
  go_simp
  refine hK.out _ ?_
  clear hK K;refine WS.nil ?_
  change Exit.then _ _ _ _ w2.drew
  have B3:KeptX (ShS (.slice bA bn bc) (.slice (some ⟨g,0,none⟩) s.2.1.length fc) ys) w w2.drew:=B2.step (ab w2);have hp3:=Below.some (ab w2) hp2;have hq3:=Below.some (ab w2) hq2;have hr3:=Below.some (ab w2) hr2;have hS3:=hS2.below (ab w2);have hs3:w.heap.size+3≤w2.drew.heap.size:=HX hWs hs2;clear k2 e0 e1 e2 e3 f0 f1 f2 f3 hp2 hq2 hr2 hS2 B2 hWs hs2;generalize w2.drew=w3 at *;clear w2 W;have hF:=hS3.fms;have hrow:=hF.row i _ y hgx hy;obtain⟨Ay,cy,rfl⟩:=co hrow;rw [Ic] at hy hrow;have k1:=ax hF.own (j:=i*4+1) (u:=.slice Ay f.2.1.length cy) (by rw [aE _ _ i f _ hgx hy 1 (by omega)];rfl);have k2:=ax hF.own (j:=i*4+2) (u:=.bool f.2.2.1) (by rw [aE _ _ i f _ hgx hy 2 (by omega)];rfl);rw [hbH.out] at k2;have k3:=ax hF.own (j:=i*4+3) (u:=.int .i64 f.2.2.2) (by rw [aE _ _ i f _ hgx hy 3 (by omega)];rfl);have z1:=aN hF.own (i*4+1);have z2:=aN hF.own (i*4+2);have z3:=aN hF.own (i*4+3);have hgp:g≠w.heap.size:=by omega
  have hfe:s.2.1[i]=f:=hf.symm;clear hf;have hcel:=fun(k:Nat) (v:Value) (x':Fm) hk hx hc=>cv hF hi hy (x':=x') (k:=k) (v:=v) hk hx hc
  rw [hfe] at hcel;obtain⟨e0,e1,e2,e3⟩:=aa hp3;obtain⟨f0,f1,f2,f3⟩:=aa hq3;have hwy:∀b,aA (.slice Ay f.2.1.length cy) b→b≠g:=fun b hb e=>(hF.blk i _ b hy hb).2 (by rw [e];rfl)
  have hpz:(w3.setCell ⟨g,i*4+2,none⟩ (.bool false)).heap[w.heap.size]?=_:=(heap_setCell_other _ _ _ _ (by simp;omega)).trans hp3;have hrz:(w3.setCell ⟨g,i*4+2,none⟩ (.bool false)).heap[w.heap.size+1+1]?=_:=(heap_setCell_other _ _ _ _ (by simp;omega)).trans hr3;have hFz:=hcel 2 (.bool false) (f.1,f.2.1,false,f.2.2.2) (by omega) rfl rfl;obtain⟨hSz,hShz⟩:=pj (x:=s.2.2.1) (y:=s.2.2.2) hS3 (fun b hb=>heap_setCell_other _ _ _ _ (by
   have:=hS3.dis b hb;simp;exact fun e=>this (.inl (by rw [e];rfl)))) hFz (fun b hb=>.inl hb)
  have Bz:KeptX (ShS (.slice bA bn bc) (.slice (some ⟨g,0,none⟩) s.2.1.length fc) ys) w (w3.setCell ⟨g,i*4+2,none⟩ (.bool false)):=B3.setO _ _ (.inl (.inr (.inl rfl)));have hszz:w3.heap.size≤(w3.setCell ⟨g,i*4+2,none⟩ (.bool false)).heap.size:=by simp [HR]
  go_upto_region 25 with fail
  clear e0 e1 e2 e3 f0 f1 f2 f3 k1 k2 k3 z1 z2 z3;obtain⟨a0,a1,a2,a3⟩:=aa hpz;obtain⟨g0,g1,g2,g3⟩:=aa hrz;obtain⟨j0,j1,j2,j3⟩:=aG hrz
  go_wp2
  obtain⟨d0,d1,d2,d3⟩:=aa (aD (.slice bA bn bc) (.slice (some ⟨g,0,none⟩) s.2.1.length fc) (.int .i64 s.2.2.1) (.int .i64 s.2.2.2) hrz);refine bodyPost_ret (by simp [results,Try.results91,go_sem,d0,d1,d2,d3];try rfl) rfl ?_
  rw [hhH.out,←hatH.out,haOH.out,hbH.out,haSH.out];exact jT hSz Bz (by omega) (fun b hb=>by
   rcases hShz b hb with h | h
   ·have:=hlt0 b h
    omega
   ·omega) (fun b hb=>(hShz b hb).imp (fun h=>h) fun h=>by omega)
end Go.Proofs.Ytkcojipciiakdaa

end
