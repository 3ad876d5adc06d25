/-
  A part of the proof: contracts and plain forms of functions beneath the statement, made small by a program (names shortened, what is not needed left out).
-/
import Derived.Test.YtkcojipciiakdaaRows
import Derived.Test.YtkcojipciiakdaaM6
import Derived.StillTailTactics
open List renaming setIfInBounds_toArray → Ji, set_cons_zero → Jj, set_cons_succ → Jk, getElem?_eq_getElem → Jq, mem_of_getElem? → Jr, mem_append → Js, mem_of_mem_take → Jt, mem_of_mem_drop → Ju, mem_singleton → Jv, length_take → Jy, mem_or_eq_of_mem_set → JA, length_drop → JB, nil_append → JE, length_set → JG, getElem_mem → JH, eq_nil_of_length_eq_zero → JI, getD_eq_getElem?_getD → JJ, length_map → JM, getElem?_set_self → JN, mem_iff_getElem → JO, length_append → JP
open Option.some renaming inj → Jl
open Go.Act renaming put → Jm
open Go.AllReadyH renaming cons → Jn, nil → Jp
open Or renaming inl → Jo
open Nat renaming lt_of_lt_of_le → Jw, le_refl → Jz, min_eq_left → JD, le_trans → JF
open Go.World renaming setCell → Jx
open Bool renaming and_eq_true → JC, false_eq_true → JQ, false_and → JS
open Go.RowKit.Below renaming refl → JK
open Array renaming replicate → JL
open Go.Value.slice renaming injEq → JR
set_option maxRecDepth 100000
set_option linter.unusedSimpArgs false
set_option linter.unusedVariables false
noncomputable section
namespace Go.Proofs.Ytkcojipciiakdaa
open Go Go.Proofs Go.V Go.RowKit
set_option maxRecDepth 100000
set_option maxHeartbeats 16000000 in
set_option maxRecDepth 1000000 in
theorem Bn (s:Sp) (hs:bH s) (hok:aD s=true) (id:Int) (u:ByteArray) (n:Int) (hx:dm (1,id,u,n)=true) (w:World) (p B:Nat) (hbox:ko w p B s) (hpB:B≤p) :
  Calls Try.prog 93 #[.pointer (some ⟨p,0,none⟩),stV (1,id,u,n)] w (qU w p B (iD s id u) (vq s id u)):=by
 obtain⟨hfm,hgc,hl5,hlost⟩:=bp hok;have hu:u.size≤16:=rW hx rfl;obtain⟨A,bn,c,A',n',c',ys,hp0,hS0,hnp⟩:=hbox;obtain⟨fA,fc,efs⟩:=aW hS0.fms.own;cases efs;have hpl:=bd hp0;have hltw:=fun b hb=>(hS0.fms.lt b hb).2
 have hW:=au w (.cells #[.int .i64 1,.int .i64 id,.string u,.int .i64 n] 46);have hBW:Below B w (w.alloc (.cells #[.int .i64 1,.int .i64 id,.string u,.int .i64 n] 46)):=(JK _ w).alloc (by omega) _;have hp:=Below.some hW hp0;have hS:=hS0.below hW;have hq:(w.alloc (.cells #[.int .i64 1,.int .i64 id,.string u,.int .i64 n] 46)).heap[w.heap.size]?=some (.cells #[.int .i64 1,.int .i64 id,.string u,.int .i64 n] 46 (0,0)):=ae _ rfl;have hWs:w.heap.size<(w.alloc (.cells #[.int .i64 1,.int .i64 id,.string u,.int .i64 n] 46)).heap.size:=by simp
 have hbl:s.1.length≤1048576:=hs.1.1
 go_enter Try.func93,Try.ntmps93
 go_upto_region 1 with fail
 generalize (w.alloc (.cells #[.int .i64 1,.int .i64 id,.string u,.int .i64 n] 46))=W at *;have hpd:=Below.some (ac W) hp;have hqd:=Below.some (ac W) hq;have hSd:=hS.below (ac W);obtain⟨e0,e1,e2,e3⟩:=aa hpd;obtain⟨f0,f1,f2,f3⟩:=aa hqd;have hc:=yK s.1 u hgc hbl (by omega) (eY hSd.box) (dc hSd.box)
 go_region_held3 (fun w'=>w'.cell? ⟨p,0,none⟩=some (.slice A bn c)∧w'.cell? ⟨w.heap.size,2,none⟩=some (.string u)) (first | (refine⟨?_,?_⟩<;>assumption) | go_keep)
  (first
   | (go_at_call 72;refine hc.mono ?_;intro e w2 hout;obtain⟨A2,n2,c2,rfl,own2,hv2,b2⟩:=hout;have hp2:=Below.some b2 hpd;have hq2:=Below.some b2 hqd;obtain⟨r0,r1,r2,r3⟩:=aa hp2;obtain⟨t0,t1,t2,t3⟩:=aa hq2)
   | fail)
 have hS2:=hSd.below b2;have B2:Below B w w2:=(hBW.trans ((ac W).mono (by omega))).trans (b2.mono (by show B≤W.heap.size;omega));have hs2:W.heap.size≤w2.heap.size:=b2.size;have hv2':∀b,aH (.slice A2 n2 c2) b→W.heap.size≤b∧b<w2.heap.size:=hv2;clear hc e0 e1 e2 e3 f0 f1 f2 f3 hpd hqd hSd b2 hp0 hS0 hv2 r1 r2 r3 t0 t1 t2 t3;cases hwb:kJ s.1 u
 ·go_wp2
  go_ret
  exact⟨false,rfl,(fun h=>by cases h),(fun _=>by simp [iD,hwb]),B2⟩
 obtain⟨hwl,hwc⟩:=iI hgc hwb;have hc3:=wq s.1 (bP s.1 u) hs.1 (by omega) hgc hwc (eY hS2.box) (dc hS2.box) (eY own2) (dc own2)
 go_wp2_with (go_at_call 73;refine hc3.mono ?_)
 intro e w3 hout;obtain⟨A3,n3,c3,rfl,own3,hv3,b3⟩:=hout;have hp3:=Below.some b3 hp2;have hq3:=Below.some b3 hq2;have hS3:=hS2.below b3;have own2':=bv.below own2 b3;have B3:Below B w w3:=B2.trans (b3.mono (by omega));have hs3:=b3.size;clear hc3 b3 hp2 hq2 own2 hS2 r0;cases hgo:bg (bj (aL s.1) (-1) s.1 (bP s.1 u))
 ·go_wp2
  go_ret
  exact⟨false,rfl,(fun h=>by cases h),(fun _=>by simp [iD,hgo]),B3⟩
 have em:mvd s.1 (bP s.1 u) (-1)=bj (aL s.1) (-1) s.1 (bP s.1 u):=by
  unfold mvd;rw [if_pos hgo]
 rw [em] at own3
 go_wp2
 have hpd:=Below.some (ac w3) hp3;have hqd:=Below.some (ac w3) hq3;have hSd:=hS3.below (ac w3);obtain⟨e0,e1,e2,e3⟩:=aa hpd;obtain⟨f0,f1,f2,f3⟩:=aa hqd;have hc:=rS s id hs hSd.rep (fun b hb=>(hSd.lt b hb).2)
 go_region_held3 (fun w'=>w'.cell? ⟨p,0,none⟩=some (.slice A bn c)∧w'.cell? ⟨p,1,none⟩=some (.slice A' s.2.1.length c')∧w'.cell? ⟨p,2,none⟩=some (.int .i64 s.2.2.1)∧w'.cell? ⟨p,3,none⟩=some (.int .i64 s.2.2.2)∧w'.cell? ⟨w.heap.size,1,none⟩=some (.int .i64 id)) (first | (refine⟨?_,?_,?_,?_,?_⟩<;>assumption) | go_keep)
  (first
   | (go_at_call 94;refine hc.mono ?_;rintro e w4 ⟨rfl,b4⟩;have hp4:=Below.some b4 hpd;have hq4:=Below.some b4 hqd;obtain⟨r0,r1,r2,r3⟩:=aa hp4;obtain⟨t0,t1,t2,t3⟩:=aa hq4)
   | fail)
 have hS4:=hSd.below b4;have B4:Below B w w4:=(B3.trans ((ac w3).mono (by omega))).trans (b4.mono (by show B≤w3.heap.size;omega));have hs4:w3.heap.size≤w4.heap.size:=b4.size;have own24:=bv.below (bv.below own2' (ac w3)) b4;have own34:=bv.below (bv.below own3 (ac w3)) b4;clear hc e0 e1 e2 e3 f0 f1 f2 f3 hpd hqd hSd b4 hp3 hq3 hS3 own2' own3 r0 r1 r2 r3 t0 t1 t2 t3 hp hq hS;have hpl4:=bd hp4;have hql4:=bd hq4;have hN:W.heap.size≤w4.heap.size:=JF (JF hs2 hs3) hs4;have hF4:=hS4.fms;have hlt4:=hF4.lt;have hat:=yq s.2.1 id;obtain⟨at_,hat_⟩:∃k,k=atF s.2.1 id:=⟨_,rfl⟩
 rw [←hat_] at hat ⊢;have hatH:Hid (at_=atF s.2.1 id):=hat_;clear hat_;have hBN:B≤w4.heap.size:=by omega
 have hltW:∀b,FmS (.slice A' s.2.1.length c') ys b→b<w.heap.size:=hltw
 go_upto_if 43 with fail
 go_cut [9] from 10 (fun _ wc=>Ir w4 wc p B (.slice A bn c) (.slice A' s.2.1.length c') ys s.2.2.1 s.2.2.2 (dh s.2.1 id))
 case first =>
  clear hs hok hx hfm hgc hlost hu hbl hwl hwc own24 own34 hgo em hwb hv2' hv3 hs2 hs3 hs4 B2 B3;cases hhf:fx s.2.1 id
  ·obtain⟨i2,hi2,hx0,hx1,hx2⟩:=info_parts fE
   have hp0:=Below.some (ac w4) hp4;have hq0:=Below.some (ac w4) hq4;have hX0:Below w4.heap.size w4 w4.drew:=ac w4;have hSd:w4.drew.cell? ⟨p,1,none⟩=some (.slice A' s.2.1.length c')∧w4.drew.cell? ⟨w.heap.size,1,none⟩=some (.int .i64 id):=⟨(aa hp0).2.1,(aa hq0).2.1⟩
   have hcells:Hid (∀X:World,Below w4.heap.size w4 X→X.cell? ⟨p,1,none⟩=some (.slice A' s.2.1.length c')∧X.cell? ⟨w.heap.size,1,none⟩=some (.int .i64 id)):=fun X hX=>⟨(aa ((hX.block p hpl4).trans hp4)).2.1,(aa ((hX.block _ hql4).trans hq4)).2.1⟩
   have hfmsX:Hid (∀X:World,Below w4.heap.size w4 X→FmsAt X B (.slice A' s.2.1.length c') ys s.2.1):=fun X hX=>hF4.keep fun b hb=>hX.block b (hlt4 b hb).2
   go_upto_region 9 with fail
   rcases hF4.own.2 with ⟨eA,hl0⟩ | ⟨g,cap,cur,eA,_⟩
   ·simp only [JR] at eA
    obtain⟨rfl,hl0',rfl⟩:=eA;have hs0:s.2.1=[]:=JI hl0;have hy0:ys=[]:=JI (by rw [hF4.len,hs0];rfl);obtain rfl:at_=0:=by omega
    subst hy0;replace hcells:Hid (∀X:World,Below w4.heap.size w4 X→X.cell? ⟨p,1,none⟩=some (.slice none 0 0)∧X.cell? ⟨w.heap.size,1,none⟩=some (.int .i64 id)):=fun X hX=>by
     have h:=hcells.out X hX;rw [hs0] at h;exact h
    replace hSd:=hcells.out _ hX0;refine ce (l:=[_,_,_,_,_,_,_,_,_,_,_,_,_,_,_,_,_,_,_,_,_,_,_]) (o:=_) (S:=fun w'=>w'.cell? ⟨p,1,none⟩=some (.slice none 0 0)∧w'.cell? ⟨w.heap.size,1,none⟩=some (.int .i64 id)) (by kernel_rfl) (by kernel_rfl) hSd (fun hHeld=>?_)
    change wpAnyH _ _ _ _ _ 23 (JL 23 false) _ _
    generalize w4.drew=W0 at *;have hX:=hX0;refine wpAnyH_take (i:=0) (oi:=_) (v:=?vn1) rfl (by kernel_rfl) (by kernel_rfl) (by kernel_rfl) (fun _ _ _ h=>h) (Jo ⟨by rfl,?yn1⟩) hHeld ?rn1
    case yn1=>(intro w0 hSw;obtain⟨hSw0,hSw1⟩:=hSw;go_simp;try with_reducible rfl)
    (try simp only [Jm,Ji,Jj,Jk])
    refine wpAnyH_take (i:=2) (oi:=_) (v:=?vn2) rfl (by kernel_rfl) (by kernel_rfl) (by kernel_rfl) (fun _ _ _ h=>h) (Jo ⟨by rfl,?yn2⟩) hHeld ?rn2
    case yn2=>(intro w0 hSw;obtain⟨hSw0,hSw1⟩:=hSw;go_simp;try with_reducible rfl)
    (try simp only [Jm,Ji,Jj,Jk])
    refine wpAnyH_take (i:=3) (oi:=_) (v:=?vn3) rfl (by kernel_rfl) (by kernel_rfl) (by kernel_rfl) (fun _ _ _ h=>h) (Jo ⟨by rfl,?yn3⟩) hHeld ?rn3
    case yn3=>(intro w0 hSw;obtain⟨hSw0,hSw1⟩:=hSw;go_simp;try with_reducible rfl)
    (try simp only [Jm,Ji,Jj,Jk])
    refine wpAnyH_take (i:=4) (oi:=_) (v:=?vn4) rfl (by kernel_rfl) (by kernel_rfl) (by kernel_rfl) (fun _ _ _ h=>h) (Jo ⟨by rfl,?yn4⟩) hHeld ?rn4
    case yn4=>(intro w0 hSw;obtain⟨hSw0,hSw1⟩:=hSw;go_simp;try with_reducible rfl)
    (try simp only [Jm,Ji,Jj,Jk])
    refine wpAnyH_take (i:=5) (oi:=_) (v:=?vn5) rfl (by kernel_rfl) (by kernel_rfl) (by kernel_rfl) (fun _ _ _ h=>h) (Jo ⟨by rfl,?yn5⟩) hHeld ?rn5
    case yn5=>(intro w0 hSw;obtain⟨hSw0,hSw1⟩:=hSw;go_simp;try with_reducible rfl)
    (try simp only [Jm,Ji,Jj,Jk])
    refine wpAnyH_take (i:=6) (oi:=_) (v:=?vn6) rfl (by kernel_rfl) (by kernel_rfl) (by kernel_rfl) (fun _ _ _ h=>h) (Jo ⟨by rfl,?yn6⟩) hHeld ?rn6
    case yn6=>(intro w0 hSw;obtain⟨hSw0,hSw1⟩:=hSw;go_simp;try with_reducible rfl)
    (try simp only [Jm,Ji,Jj,Jk])
    refine wpAnyH_take (i:=7) (oi:=_) (v:=?vn7) rfl (by kernel_rfl) (by kernel_rfl) (by kernel_rfl) (fun _ _ _ h=>h) (Jo ⟨by rfl,?yn7⟩) hHeld ?rn7
    case yn7=>(intro w0 hSw;obtain⟨hSw0,hSw1⟩:=hSw;go_simp;try with_reducible rfl)
    (try simp only [Jm,Ji,Jj,Jk])
    refine wpAnyH_take (i:=9) (oi:=_) (v:=?vn8) rfl (by kernel_rfl) (by kernel_rfl) (by kernel_rfl) (fun _ _ _ h=>h) (Jo ⟨by rfl,?yn8⟩) hHeld ?rn8
    case yn8=>(intro w0 hSw;obtain⟨hSw0,hSw1⟩:=hSw;go_simp;try with_reducible rfl)
    (try simp only [Jm,Ji,Jj,Jk])
    refine wpAnyH_take (i:=10) (oi:=_) (v:=?vn9) rfl (by kernel_rfl) (by kernel_rfl) (by kernel_rfl) (fun _ _ _ h=>h) (Jo ⟨by rfl,?yn9⟩) hHeld ?rn9
    case yn9=>(intro w0 hSw;obtain⟨hSw0,hSw1⟩:=hSw;go_simp;try with_reducible rfl)
    (try simp only [Jm,Ji,Jj,Jk])
    refine wpAnyH_take (i:=11) (oi:=_) (v:=?vn10) rfl (by kernel_rfl) (by kernel_rfl) (by kernel_rfl) (fun _ _ _ h=>h) (Jo ⟨by rfl,?yn10⟩) hHeld ?rn10
    case yn10=>(intro w0 hSw;obtain⟨hSw0,hSw1⟩:=hSw;go_simp;try with_reducible rfl)
    (try simp only [Jm,Ji,Jj,Jk])
    refine wpAnyH_take (i:=14) (oi:=_) (v:=?vn11) rfl (by kernel_rfl) (by kernel_rfl) (by kernel_rfl) (fun _ _ _ h=>h) (Jo ⟨by rfl,?yn11⟩) hHeld ?rn11
    case yn11=>(intro w0 hSw;obtain⟨hSw0,hSw1⟩:=hSw;go_simp;try with_reducible rfl)
    (try simp only [Jm,Ji,Jj,Jk])
    refine wpAnyH_take (i:=15) (oi:=_) (v:=?vn12) rfl (by kernel_rfl) (by kernel_rfl) (by kernel_rfl) (fun _ _ _ h=>h) (Jo ⟨by rfl,?yn12⟩) hHeld ?rn12
    case yn12=>(intro w0 hSw;obtain⟨hSw0,hSw1⟩:=hSw;go_simp;try with_reducible rfl)
    (try simp only [Jm,Ji,Jj,Jk])
    refine wpAnyH_take (i:=16) (oi:=_) (v:=?vn13) rfl (by kernel_rfl) (by kernel_rfl) (by kernel_rfl) (fun _ _ _ h=>h) (Jo ⟨by rfl,?yn13⟩) hHeld ?rn13
    case yn13=>(intro w0 hSw;obtain⟨hSw0,hSw1⟩:=hSw;go_simp;try with_reducible rfl)
    (try simp only [Jm,Ji,Jj,Jk])
    refine wpAnyH_take (i:=17) (oi:=_) (v:=?vn14) rfl (by kernel_rfl) (by kernel_rfl) (by kernel_rfl) (fun _ _ _ h=>h) (Jo ⟨by rfl,?yn14⟩) hHeld ?rn14
    case yn14=>(intro w0 hSw;obtain⟨hSw0,hSw1⟩:=hSw;go_simp;try with_reducible rfl)
    (try simp only [Jm,Ji,Jj,Jk])
    refine wpAnyH_take (i:=18) (oi:=_) (v:=?vn15) rfl (by kernel_rfl) (by kernel_rfl) (by kernel_rfl) (fun _ _ _ h=>h) (Jo ⟨by rfl,?yn15⟩) hHeld ?rn15
    case yn15=>(intro w0 hSw;obtain⟨hSw0,hSw1⟩:=hSw;go_simp;try with_reducible rfl)
    (try simp only [Jm,Ji,Jj,Jk])
    refine wpAnyH_take (i:=19) (oi:=_) (v:=?vn16) rfl (by kernel_rfl) (by kernel_rfl) (by kernel_rfl) (fun _ _ _ h=>h) (Jo ⟨by rfl,?yn16⟩) hHeld ?rn16
    case yn16=>(intro w0 hSw;obtain⟨hSw0,hSw1⟩:=hSw;go_simp;try with_reducible rfl)
    (try simp only [Jm,Ji,Jj,Jk])
    refine wpAnyH_ready (rs:=[1,12]) (by kernel_rfl) (by simp) ?_
    refine Jn (o:=_) rfl (fun K hK=>?_) ?_
    ·go_simp
     have hX:=hX.alloc hX.size (.cells #[] 75);have hE:(W0.alloc (.cells #[] 75)).heap[W0.heap.size]?=some (.cells #[] 75 (0,0)):=ae _ (by simp);refine hK.out _ _ ?_ (fun hHeld=>?_)
     ·exact hcells.out _ hX
     clear hK K
     (try simp only [Jm,Ji,Jj,Jk])
     refine wpAnyH_ready (rs:=[8,12]) (by kernel_rfl) (by simp) ?_
     refine Jn (o:=_) rfl (fun K hK=>?_) ?_
     ·refine ai _ rfl _ _ 31 rfl B 75 i2 (.agg #[.int .i64 0,.slice none 0 0,.bool false,.int .i64 0]) 4 48 Try.underlying31 hi2 hx0 hx1 hx2 rfl (by decide) (.slice (some ⟨W0.heap.size,0,none⟩) 0 0) 0 [] (by simp [go_sem];done) (cg hE (by have:=hX0.size;omega)) none 0 0 [] (by simp [go_sem,sliced];done) rfl (fun h=>absurd rfl h) (fun u hu=>by cases hu) (by unfold maxLen;omega) (by omega) (by have:=hX.size;omega) ?_
      intro v5 w5 hown5 hg5 hat5;have hV1:FmsAt w5 B v5 [] []:=⟨rfl,by simpa [bu] using hown5,fun i x y hx=>by simp at hx,fun i y b hy=>by simp at hy,fun i j y z _ hi=>by simp at hi⟩
      have hf1:∀b,FmS v5 [] b→FmS (.slice none 0 0) [] b∨w4.heap.size≤b:=fun b hb=>by
       rcases hb with hb | ⟨z,hz,hzb⟩
       ·rcases hat5 with h | h
        ·have e:some b=some (W0.heap.size):=hb.symm.trans h
         have:=Jl e;have:=hX0.size;exact .inr (by omega)
        ·have e:some b=some ((W0.alloc (.cells #[] 75)).heap.size):=hb.symm.trans h
         have:=Jl e;have:=hX.size;exact .inr (by omega)
       ·cases hz
      have hge5:∀b,aH v5 b→w4.heap.size≤b:=fun b hb=>by
       rcases hat5 with h | h
       ·have e:some b=some (W0.heap.size):=hb.symm.trans h
        have:=Jl e;have:=hX0.size;omega
       ·have e:some b=some ((W0.alloc (.cells #[] 75)).heap.size):=hb.symm.trans h
        have:=Jl e;have:=hX.size;omega
      have hX:=hX.grown hg5 hX.size (fun k hk=>by have e:W0.heap.size=k:=Jl hk;have:=hX0.size;omega);obtain⟨A5,n5,c5,rfl⟩:=ax hV1.own;clear hat5;refine hK.out _ _ ?_ (fun hHeld=>?_)
      ·exact hcells.out _ hX
      clear hK K
      (try simp only [Jm,Ji,Jj,Jk])
      refine wpAnyH_ready (rs:=[12]) (by kernel_rfl) (by simp) ?_
      refine Jn (o:=_) rfl (fun K hK=>?_) ?_
      ·go_simp
       have hX:=hX.alloc hX.size (.cells #[.int .i64 id,.slice none 0 0,.bool false,.int .i64 0] 75);have hM:(w5.alloc (.cells #[.int .i64 id,.slice none 0 0,.bool false,.int .i64 0] 75)).heap[w5.heap.size]?=some (.cells #[.int .i64 id,.slice none 0 0,.bool false,.int .i64 0] 75 (0,0)):=ae _ (by simp);have hV1:=hV1.keep (w':=(w5.alloc (.cells #[.int .i64 id,.slice none 0 0,.bool false,.int .i64 0] 75))) fun b hb=>gX _ (hV1.lt b hb).2
       refine hK.out _ _ ?_ (fun hHeld=>?_)
       ·exact hcells.out _ hX
       clear hK K
       (try simp only [Jm,Ji,Jj,Jk])
       refine wpAnyH_ready (rs:=[13]) (by kernel_rfl) (by simp) ?_
       refine Jn (o:=_) rfl (fun K hK=>?_) ?_
       ·refine ai _ rfl _ _ 31 rfl B 75 i2 (.agg #[.int .i64 0,.slice none 0 0,.bool false,.int .i64 0]) 4 48 Try.underlying31 hi2 hx0 hx1 hx2 rfl (by decide) (.slice A5 n5 c5) _ _ (by simp [go_sem];done) hV1.own (some ⟨w5.heap.size,0,none⟩) 1 1 [.int .i64 id,.slice none 0 0,.bool false,.int .i64 0] (by simp [go_sem];done) rfl (fun _=>⟨_,_,rfl,cq hM⟩) (by intro u hu;simp at hu;rcases hu with rfl | rfl | rfl | rfl<;>rfl) (by unfold maxLen;simp;try omega) (by simp;try omega) (by have:=hX.size;omega) ?_
        intro v6 w6 hown6 hg6 hat6;have hV2:=cD (x:=(id,[],false,0)) (y:=.slice none 0 0) hV1 (by have:=hX.size;omega) hown6 hg6 hat6 (fw _ _ _ _) (fun b hb=>by cases hb);have hf2:∀b,FmS v6 ([]++[.slice none 0 0]) b→FmS (.slice none 0 0) [] b∨w4.heap.size≤b:=fun b hb=>by
         rcases hb with hb | ⟨z,hz,hzb⟩
         ·rcases hat6 with h | h
          ·exact hf1 b (.inl (hb.symm.trans h).symm)
          ·have e:some b=some ((w5.alloc (.cells #[.int .i64 id,.slice none 0 0,.bool false,.int .i64 0] 75)).heap.size):=hb.symm.trans h
           have:=Jl e;have:=hX.size;exact .inr (by omega)
         ·rcases Js.1 hz with hz | hz
          ·exact hf1 b (.inr ⟨z,hz,hzb⟩)
          ·obtain rfl:=Jv.1 hz
           cases hzb
        have hge6:∀b,aH v6 b→w4.heap.size≤b:=fun b hb=>by
         rcases hat6 with h | h
         ·exact hge5 b (h.symm.trans hb)
         ·have e:some b=some ((w5.alloc (.cells #[.int .i64 id,.slice none 0 0,.bool false,.int .i64 0] 75)).heap.size):=hb.symm.trans h
          have:=Jl e;have:=hX.size;omega
        have hX:=hX.grown hg6 hX.size (fun k hk=>hge5 k hk);obtain⟨A6,n6,c6,rfl⟩:=ax hV2.own;clear hat6;refine hK.out _ _ ?_ (fun hHeld=>?_)
        ·exact hcells.out _ hX
        clear hK K
        (try simp only [Jm,Ji,Jj,Jk])
        refine wpAnyH_ready (rs:=[20]) (by kernel_rfl) (by simp) ?_
        refine Jn (o:=_) rfl (fun K hK=>?_) ?_
        ·refine ai _ rfl _ _ 31 rfl B 75 i2 (.agg #[.int .i64 0,.slice none 0 0,.bool false,.int .i64 0]) 4 48 Try.underlying31 hi2 hx0 hx1 hx2 rfl (by decide) (.slice A6 n6 c6) _ _ (by simp [go_sem];done) hV2.own none 0 0 [] (by simp [go_sem,sliced];done) rfl (fun h=>absurd rfl h) (fun u hu=>by cases hu) (by unfold maxLen;simp;try omega) (by simp;try omega) (by have:=hX.size;omega) ?_
         intro v7 w7 hown7 hg7 hat7;have hV3:=bR hV2 (m:=[]) (zs:=[]) (by have:=hX.size;omega) (by simpa [bu] using hown7) hg7 hat7 rfl (fun i x y hx=>by simp at hx) (fun i y b hj=>by simp at hj) (fun i j y z _ hi=>by simp at hi);have hf3:∀b,FmS v7 (([]++[.slice none 0 0])++[]) b→w4.heap.size≤b:=fun b hb=>by
          rcases hb with hb | ⟨z,hz,hzb⟩
          ·rcases hat7 with h | h
           ·exact hge6 b (h.symm.trans hb)
           ·have e:some b=some (w6.heap.size):=hb.symm.trans h
            have:=Jl e;have:=hX.size;omega
          ·simp at hz
           subst hz;cases hzb
         have hX:=hX.grown hg7 hX.size (fun k hk=>hge6 k hk);obtain⟨A7,n7,c7,rfl⟩:=ax hV3.own;clear hat7;refine hK.out _ _ ?_ (fun hHeld=>?_)
         ·exact hcells.out _ hX
         clear hK K
         (try simp only [Jm,Ji,Jj,Jk])
         refine wpAnyH_take (i:=21) (oi:=_) (v:=?vn17) rfl (by kernel_rfl) (by kernel_rfl) (by kernel_rfl) (fun _ _ _ h=>h) (Jo ⟨by rfl,?yn17⟩) hHeld ?rn17
         case yn17=>(intro w0 hSw;obtain⟨hSw0,hSw1⟩:=hSw;go_simp;try with_reducible rfl)
         (try simp only [Jm,Ji,Jj,Jk])
         refine wpAnyH_take (i:=22) (oi:=_) (v:=?vn18) rfl (by kernel_rfl) (by kernel_rfl) (by kernel_rfl) (fun _ _ _ h=>h) (Jo ⟨by rfl,?yn18⟩) hHeld ?rn18
         case yn18=>(intro w0 hSw;obtain⟨hSw0,hSw1⟩:=hSw;go_simp;try with_reducible rfl)
         (try simp only [Jm,Ji,Jj,Jk])
         refine bh (by kernel_rfl) ?_
         have hp7:=(hX.block p hpl4).trans hp4;have g1:=(aa hp7).2.1;have h1:=(aI hp7).2.1;have hp8:(w7.setCell ⟨p,1,none⟩ (.slice A7 n7 c7)).heap[p]?=some (.cells #[.slice A bn c,.slice A7 n7 c7,.int .i64 s.2.2.1,.int .i64 s.2.2.2] 33 (0,0)):=heap_setCell_same _ _ 1 _ _ (.slice A7 n7 c7) hp7;have hV4:=hV3.keep (w':=w7.setCell ⟨p,1,none⟩ (.slice A7 n7 c7)) fun b hb=>heap_setCell_other _ _ _ _ (by
          simp;rintro rfl;have:=hf3 _ hb;omega)
         have eI:dh s.2.1 id=([]++[(id,[],false,0)])++[]:=by
          unfold dh;rw [if_neg (by simp [hhf]),hs0];simp
         go_simp
         go_wp2
         all_goals (
          go_meet
          case rel=>exact⟨A7,n7,c7,_,hp8,by rw [eI];exact hV4,fun b hb=>.inr (hf3 b hb),fun b hb hne=>(heap_setCell_other _ _ _ _ (by simpa using hne)).trans (hX.block b hb),by simp [Jx];exact hX.size,hX.os,hX.tape,hX.output⟩)
        exact Jp
       exact Jp
      exact Jp
     refine Jn (o:=_) rfl (fun K hK=>?_) ?_
     ·go_simp
      have hX:=hX.alloc hX.size (.cells #[.int .i64 id,.slice none 0 0,.bool false,.int .i64 0] 75);have hM:((W0.alloc (.cells #[] 75)).alloc (.cells #[.int .i64 id,.slice none 0 0,.bool false,.int .i64 0] 75)).heap[W0.heap.size+1]?=some (.cells #[.int .i64 id,.slice none 0 0,.bool false,.int .i64 0] 75 (0,0)):=ae _ (by simp);have hE:=ah (.cells #[.int .i64 id,.slice none 0 0,.bool false,.int .i64 0] 75) hE;refine hK.out _ _ ?_ (fun hHeld=>?_)
      ·exact hcells.out _ hX
      clear hK K
      (try simp only [Jm,Ji,Jj,Jk])
      refine wpAnyH_ready (rs:=[8]) (by kernel_rfl) (by simp) ?_
      refine Jn (o:=_) rfl (fun K hK=>?_) ?_
      ·refine ai _ rfl _ _ 31 rfl B 75 i2 (.agg #[.int .i64 0,.slice none 0 0,.bool false,.int .i64 0]) 4 48 Try.underlying31 hi2 hx0 hx1 hx2 rfl (by decide) (.slice (some ⟨W0.heap.size,0,none⟩) 0 0) 0 [] (by simp [go_sem];done) (cg hE (by have:=hX0.size;omega)) none 0 0 [] (by simp [go_sem,sliced];done) rfl (fun h=>absurd rfl h) (fun u hu=>by cases hu) (by unfold maxLen;omega) (by omega) (by have:=hX.size;omega) ?_
       intro v5 w5 hown5 hg5 hat5;have hV1:FmsAt w5 B v5 [] []:=⟨rfl,by simpa [bu] using hown5,fun i x y hx=>by simp at hx,fun i y b hy=>by simp at hy,fun i j y z _ hi=>by simp at hi⟩
       have hf1:∀b,FmS v5 [] b→FmS (.slice none 0 0) [] b∨w4.heap.size≤b:=fun b hb=>by
        rcases hb with hb | ⟨z,hz,hzb⟩
        ·rcases hat5 with h | h
         ·have e:some b=some (W0.heap.size):=hb.symm.trans h
          have:=Jl e;have:=hX0.size;exact .inr (by omega)
         ·have e:some b=some (((W0.alloc (.cells #[] 75)).alloc (.cells #[.int .i64 id,.slice none 0 0,.bool false,.int .i64 0] 75)).heap.size):=hb.symm.trans h
          have:=Jl e;have:=hX.size;exact .inr (by omega)
        ·cases hz
       have hge5:∀b,aH v5 b→w4.heap.size≤b:=fun b hb=>by
        rcases hat5 with h | h
        ·have e:some b=some (W0.heap.size):=hb.symm.trans h
         have:=Jl e;have:=hX0.size;omega
        ·have e:some b=some (((W0.alloc (.cells #[] 75)).alloc (.cells #[.int .i64 id,.slice none 0 0,.bool false,.int .i64 0] 75)).heap.size):=hb.symm.trans h
         have:=Jl e;have:=hX.size;omega
       have hM:=(hg5.block (W0.heap.size+1) (bd hM) (fun h=>by have e:W0.heap.size+1=W0.heap.size:=Jl h;omega)).trans hM;have hX:=hX.grown hg5 hX.size (fun k hk=>by have e:W0.heap.size=k:=Jl hk;have:=hX0.size;omega);obtain⟨A5,n5,c5,rfl⟩:=ax hV1.own;clear hat5;refine hK.out _ _ ?_ (fun hHeld=>?_)
       ·exact hcells.out _ hX
       clear hK K
       (try simp only [Jm,Ji,Jj,Jk])
       refine wpAnyH_ready (rs:=[13]) (by kernel_rfl) (by simp) ?_
       refine Jn (o:=_) rfl (fun K hK=>?_) ?_
       ·refine ai _ rfl _ _ 31 rfl B 75 i2 (.agg #[.int .i64 0,.slice none 0 0,.bool false,.int .i64 0]) 4 48 Try.underlying31 hi2 hx0 hx1 hx2 rfl (by decide) (.slice A5 n5 c5) _ _ (by simp [go_sem];done) hV1.own (some ⟨W0.heap.size+1,0,none⟩) 1 1 [.int .i64 id,.slice none 0 0,.bool false,.int .i64 0] (by simp [go_sem];done) rfl (fun _=>⟨_,_,rfl,cq hM⟩) (by intro u hu;simp at hu;rcases hu with rfl | rfl | rfl | rfl<;>rfl) (by unfold maxLen;simp;try omega) (by simp;try omega) (by have:=hX.size;omega) ?_
        intro v6 w6 hown6 hg6 hat6;have hV2:=cD (x:=(id,[],false,0)) (y:=.slice none 0 0) hV1 (by have:=hX.size;omega) hown6 hg6 hat6 (fw _ _ _ _) (fun b hb=>by cases hb);have hf2:∀b,FmS v6 ([]++[.slice none 0 0]) b→FmS (.slice none 0 0) [] b∨w4.heap.size≤b:=fun b hb=>by
         rcases hb with hb | ⟨z,hz,hzb⟩
         ·rcases hat6 with h | h
          ·exact hf1 b (.inl (hb.symm.trans h).symm)
          ·have e:some b=some (w5.heap.size):=hb.symm.trans h
           have:=Jl e;have:=hX.size;exact .inr (by omega)
         ·rcases Js.1 hz with hz | hz
          ·exact hf1 b (.inr ⟨z,hz,hzb⟩)
          ·obtain rfl:=Jv.1 hz
           cases hzb
        have hge6:∀b,aH v6 b→w4.heap.size≤b:=fun b hb=>by
         rcases hat6 with h | h
         ·exact hge5 b (h.symm.trans hb)
         ·have e:some b=some (w5.heap.size):=hb.symm.trans h
          have:=Jl e;have:=hX.size;omega
        have hX:=hX.grown hg6 hX.size (fun k hk=>hge5 k hk);obtain⟨A6,n6,c6,rfl⟩:=ax hV2.own;clear hat6;refine hK.out _ _ ?_ (fun hHeld=>?_)
        ·exact hcells.out _ hX
        clear hK K
        (try simp only [Jm,Ji,Jj,Jk])
        refine wpAnyH_ready (rs:=[20]) (by kernel_rfl) (by simp) ?_
        refine Jn (o:=_) rfl (fun K hK=>?_) ?_
        ·refine ai _ rfl _ _ 31 rfl B 75 i2 (.agg #[.int .i64 0,.slice none 0 0,.bool false,.int .i64 0]) 4 48 Try.underlying31 hi2 hx0 hx1 hx2 rfl (by decide) (.slice A6 n6 c6) _ _ (by simp [go_sem];done) hV2.own none 0 0 [] (by simp [go_sem,sliced];done) rfl (fun h=>absurd rfl h) (fun u hu=>by cases hu) (by unfold maxLen;simp;try omega) (by simp;try omega) (by have:=hX.size;omega) ?_
         intro v7 w7 hown7 hg7 hat7;have hV3:=bR hV2 (m:=[]) (zs:=[]) (by have:=hX.size;omega) (by simpa [bu] using hown7) hg7 hat7 rfl (fun i x y hx=>by simp at hx) (fun i y b hj=>by simp at hj) (fun i j y z _ hi=>by simp at hi);have hf3:∀b,FmS v7 (([]++[.slice none 0 0])++[]) b→w4.heap.size≤b:=fun b hb=>by
          rcases hb with hb | ⟨z,hz,hzb⟩
          ·rcases hat7 with h | h
           ·exact hge6 b (h.symm.trans hb)
           ·have e:some b=some (w6.heap.size):=hb.symm.trans h
            have:=Jl e;have:=hX.size;omega
          ·simp at hz
           subst hz;cases hzb
         have hX:=hX.grown hg7 hX.size (fun k hk=>hge6 k hk);obtain⟨A7,n7,c7,rfl⟩:=ax hV3.own;clear hat7;refine hK.out _ _ ?_ (fun hHeld=>?_)
         ·exact hcells.out _ hX
         clear hK K
         (try simp only [Jm,Ji,Jj,Jk])
         refine wpAnyH_take (i:=21) (oi:=_) (v:=?vn19) rfl (by kernel_rfl) (by kernel_rfl) (by kernel_rfl) (fun _ _ _ h=>h) (Jo ⟨by rfl,?yn19⟩) hHeld ?rn19
         case yn19=>(intro w0 hSw;obtain⟨hSw0,hSw1⟩:=hSw;go_simp;try with_reducible rfl)
         (try simp only [Jm,Ji,Jj,Jk])
         refine wpAnyH_take (i:=22) (oi:=_) (v:=?vn20) rfl (by kernel_rfl) (by kernel_rfl) (by kernel_rfl) (fun _ _ _ h=>h) (Jo ⟨by rfl,?yn20⟩) hHeld ?rn20
         case yn20=>(intro w0 hSw;obtain⟨hSw0,hSw1⟩:=hSw;go_simp;try with_reducible rfl)
         (try simp only [Jm,Ji,Jj,Jk])
         refine bh (by kernel_rfl) ?_
         have hp7:=(hX.block p hpl4).trans hp4;have g1:=(aa hp7).2.1;have h1:=(aI hp7).2.1;have hp8:(w7.setCell ⟨p,1,none⟩ (.slice A7 n7 c7)).heap[p]?=some (.cells #[.slice A bn c,.slice A7 n7 c7,.int .i64 s.2.2.1,.int .i64 s.2.2.2] 33 (0,0)):=heap_setCell_same _ _ 1 _ _ (.slice A7 n7 c7) hp7;have hV4:=hV3.keep (w':=w7.setCell ⟨p,1,none⟩ (.slice A7 n7 c7)) fun b hb=>heap_setCell_other _ _ _ _ (by
          simp;rintro rfl;have:=hf3 _ hb;omega)
         have eI:dh s.2.1 id=([]++[(id,[],false,0)])++[]:=by
          unfold dh;rw [if_neg (by simp [hhf]),hs0];simp
         go_simp
         go_wp2
         all_goals (
          go_meet
          case rel=>exact⟨A7,n7,c7,_,hp8,by rw [eI];exact hV4,fun b hb=>.inr (hf3 b hb),fun b hb hne=>(heap_setCell_other _ _ _ _ (by simpa using hne)).trans (hX.block b hb),by simp [Jx];exact hX.size,hX.os,hX.tape,hX.output⟩)
        exact Jp
       exact Jp
      exact Jp
     exact Jp
    refine Jn (o:=_) rfl (fun K hK=>?_) ?_
    ·go_simp
     have hX:=hX.alloc hX.size (.cells #[.int .i64 id,.slice none 0 0,.bool false,.int .i64 0] 75);have hM:(W0.alloc (.cells #[.int .i64 id,.slice none 0 0,.bool false,.int .i64 0] 75)).heap[W0.heap.size]?=some (.cells #[.int .i64 id,.slice none 0 0,.bool false,.int .i64 0] 75 (0,0)):=ae _ (by simp);refine hK.out _ _ ?_ (fun hHeld=>?_)
     ·exact hcells.out _ hX
     clear hK K
     (try simp only [Jm,Ji,Jj,Jk])
     refine wpAnyH_ready (rs:=[1]) (by kernel_rfl) (by simp) ?_
     refine Jn (o:=_) rfl (fun K hK=>?_) ?_
     ·go_simp
      have hX:=hX.alloc hX.size (.cells #[] 75);have hE:((W0.alloc (.cells #[.int .i64 id,.slice none 0 0,.bool false,.int .i64 0] 75)).alloc (.cells #[] 75)).heap[W0.heap.size+1]?=some (.cells #[] 75 (0,0)):=ae _ (by simp);have hM:=ah (.cells #[] 75) hM;refine hK.out _ _ ?_ (fun hHeld=>?_)
      ·exact hcells.out _ hX
      clear hK K
      (try simp only [Jm,Ji,Jj,Jk])
      refine wpAnyH_ready (rs:=[8]) (by kernel_rfl) (by simp) ?_
      refine Jn (o:=_) rfl (fun K hK=>?_) ?_
      ·refine ai _ rfl _ _ 31 rfl B 75 i2 (.agg #[.int .i64 0,.slice none 0 0,.bool false,.int .i64 0]) 4 48 Try.underlying31 hi2 hx0 hx1 hx2 rfl (by decide) (.slice (some ⟨W0.heap.size+1,0,none⟩) 0 0) 0 [] (by simp [go_sem];done) (cg hE (by have:=hX0.size;omega)) none 0 0 [] (by simp [go_sem,sliced];done) rfl (fun h=>absurd rfl h) (fun u hu=>by cases hu) (by unfold maxLen;omega) (by omega) (by have:=hX.size;omega) ?_
       intro v5 w5 hown5 hg5 hat5;have hV1:FmsAt w5 B v5 [] []:=⟨rfl,by simpa [bu] using hown5,fun i x y hx=>by simp at hx,fun i y b hy=>by simp at hy,fun i j y z _ hi=>by simp at hi⟩
       have hf1:∀b,FmS v5 [] b→FmS (.slice none 0 0) [] b∨w4.heap.size≤b:=fun b hb=>by
        rcases hb with hb | ⟨z,hz,hzb⟩
        ·rcases hat5 with h | h
         ·have e:some b=some (W0.heap.size+1):=hb.symm.trans h
          have:=Jl e;have:=hX0.size;exact .inr (by omega)
         ·have e:some b=some (((W0.alloc (.cells #[.int .i64 id,.slice none 0 0,.bool false,.int .i64 0] 75)).alloc (.cells #[] 75)).heap.size):=hb.symm.trans h
          have:=Jl e;have:=hX.size;exact .inr (by omega)
        ·cases hz
       have hge5:∀b,aH v5 b→w4.heap.size≤b:=fun b hb=>by
        rcases hat5 with h | h
        ·have e:some b=some (W0.heap.size+1):=hb.symm.trans h
         have:=Jl e;have:=hX0.size;omega
        ·have e:some b=some (((W0.alloc (.cells #[.int .i64 id,.slice none 0 0,.bool false,.int .i64 0] 75)).alloc (.cells #[] 75)).heap.size):=hb.symm.trans h
         have:=Jl e;have:=hX.size;omega
       have hM:=(hg5.block (W0.heap.size) (bd hM) (fun h=>by have e:W0.heap.size=W0.heap.size+1:=Jl h;omega)).trans hM;have hX:=hX.grown hg5 hX.size (fun k hk=>by have e:W0.heap.size+1=k:=Jl hk;have:=hX0.size;omega);obtain⟨A5,n5,c5,rfl⟩:=ax hV1.own;clear hat5;refine hK.out _ _ ?_ (fun hHeld=>?_)
       ·exact hcells.out _ hX
       clear hK K
       (try simp only [Jm,Ji,Jj,Jk])
       refine wpAnyH_ready (rs:=[13]) (by kernel_rfl) (by simp) ?_
       refine Jn (o:=_) rfl (fun K hK=>?_) ?_
       ·refine ai _ rfl _ _ 31 rfl B 75 i2 (.agg #[.int .i64 0,.slice none 0 0,.bool false,.int .i64 0]) 4 48 Try.underlying31 hi2 hx0 hx1 hx2 rfl (by decide) (.slice A5 n5 c5) _ _ (by simp [go_sem];done) hV1.own (some ⟨W0.heap.size,0,none⟩) 1 1 [.int .i64 id,.slice none 0 0,.bool false,.int .i64 0] (by simp [go_sem];done) rfl (fun _=>⟨_,_,rfl,cq hM⟩) (by intro u hu;simp at hu;rcases hu with rfl | rfl | rfl | rfl<;>rfl) (by unfold maxLen;simp;try omega) (by simp;try omega) (by have:=hX.size;omega) ?_
        intro v6 w6 hown6 hg6 hat6;have hV2:=cD (x:=(id,[],false,0)) (y:=.slice none 0 0) hV1 (by have:=hX.size;omega) hown6 hg6 hat6 (fw _ _ _ _) (fun b hb=>by cases hb);have hf2:∀b,FmS v6 ([]++[.slice none 0 0]) b→FmS (.slice none 0 0) [] b∨w4.heap.size≤b:=fun b hb=>by
         rcases hb with hb | ⟨z,hz,hzb⟩
         ·rcases hat6 with h | h
          ·exact hf1 b (.inl (hb.symm.trans h).symm)
          ·have e:some b=some (w5.heap.size):=hb.symm.trans h
           have:=Jl e;have:=hX.size;exact .inr (by omega)
         ·rcases Js.1 hz with hz | hz
          ·exact hf1 b (.inr ⟨z,hz,hzb⟩)
          ·obtain rfl:=Jv.1 hz
           cases hzb
        have hge6:∀b,aH v6 b→w4.heap.size≤b:=fun b hb=>by
         rcases hat6 with h | h
         ·exact hge5 b (h.symm.trans hb)
         ·have e:some b=some (w5.heap.size):=hb.symm.trans h
          have:=Jl e;have:=hX.size;omega
        have hX:=hX.grown hg6 hX.size (fun k hk=>hge5 k hk);obtain⟨A6,n6,c6,rfl⟩:=ax hV2.own;clear hat6;refine hK.out _ _ ?_ (fun hHeld=>?_)
        ·exact hcells.out _ hX
        clear hK K
        (try simp only [Jm,Ji,Jj,Jk])
        refine wpAnyH_ready (rs:=[20]) (by kernel_rfl) (by simp) ?_
        refine Jn (o:=_) rfl (fun K hK=>?_) ?_
        ·refine ai _ rfl _ _ 31 rfl B 75 i2 (.agg #[.int .i64 0,.slice none 0 0,.bool false,.int .i64 0]) 4 48 Try.underlying31 hi2 hx0 hx1 hx2 rfl (by decide) (.slice A6 n6 c6) _ _ (by simp [go_sem];done) hV2.own none 0 0 [] (by simp [go_sem,sliced];done) rfl (fun h=>absurd rfl h) (fun u hu=>by cases hu) (by unfold maxLen;simp;try omega) (by simp;try omega) (by have:=hX.size;omega) ?_
         intro v7 w7 hown7 hg7 hat7;have hV3:=bR hV2 (m:=[]) (zs:=[]) (by have:=hX.size;omega) (by simpa [bu] using hown7) hg7 hat7 rfl (fun i x y hx=>by simp at hx) (fun i y b hj=>by simp at hj) (fun i j y z _ hi=>by simp at hi);have hf3:∀b,FmS v7 (([]++[.slice none 0 0])++[]) b→w4.heap.size≤b:=fun b hb=>by
          rcases hb with hb | ⟨z,hz,hzb⟩
          ·rcases hat7 with h | h
           ·exact hge6 b (h.symm.trans hb)
           ·have e:some b=some (w6.heap.size):=hb.symm.trans h
            have:=Jl e;have:=hX.size;omega
          ·simp at hz
           subst hz;cases hzb
         have hX:=hX.grown hg7 hX.size (fun k hk=>hge6 k hk);obtain⟨A7,n7,c7,rfl⟩:=ax hV3.own;clear hat7;refine hK.out _ _ ?_ (fun hHeld=>?_)
         ·exact hcells.out _ hX
         clear hK K
         (try simp only [Jm,Ji,Jj,Jk])
         refine wpAnyH_take (i:=21) (oi:=_) (v:=?vn21) rfl (by kernel_rfl) (by kernel_rfl) (by kernel_rfl) (fun _ _ _ h=>h) (Jo ⟨by rfl,?yn21⟩) hHeld ?rn21
         case yn21=>(intro w0 hSw;obtain⟨hSw0,hSw1⟩:=hSw;go_simp;try with_reducible rfl)
         (try simp only [Jm,Ji,Jj,Jk])
         refine wpAnyH_take (i:=22) (oi:=_) (v:=?vn22) rfl (by kernel_rfl) (by kernel_rfl) (by kernel_rfl) (fun _ _ _ h=>h) (Jo ⟨by rfl,?yn22⟩) hHeld ?rn22
         case yn22=>(intro w0 hSw;obtain⟨hSw0,hSw1⟩:=hSw;go_simp;try with_reducible rfl)
         (try simp only [Jm,Ji,Jj,Jk])
         refine bh (by kernel_rfl) ?_
         have hp7:=(hX.block p hpl4).trans hp4;have g1:=(aa hp7).2.1;have h1:=(aI hp7).2.1;have hp8:(w7.setCell ⟨p,1,none⟩ (.slice A7 n7 c7)).heap[p]?=some (.cells #[.slice A bn c,.slice A7 n7 c7,.int .i64 s.2.2.1,.int .i64 s.2.2.2] 33 (0,0)):=heap_setCell_same _ _ 1 _ _ (.slice A7 n7 c7) hp7;have hV4:=hV3.keep (w':=w7.setCell ⟨p,1,none⟩ (.slice A7 n7 c7)) fun b hb=>heap_setCell_other _ _ _ _ (by
          simp;rintro rfl;have:=hf3 _ hb;omega)
         have eI:dh s.2.1 id=([]++[(id,[],false,0)])++[]:=by
          unfold dh;rw [if_neg (by simp [hhf]),hs0];simp
         go_simp
         go_wp2
         all_goals (
          go_meet
          case rel=>exact⟨A7,n7,c7,_,hp8,by rw [eI];exact hV4,fun b hb=>.inr (hf3 b hb),fun b hb hne=>(heap_setCell_other _ _ _ _ (by simpa using hne)).trans (hX.block b hb),by simp [Jx];exact hX.size,hX.os,hX.tape,hX.output⟩)
        exact Jp
       exact Jp
      exact Jp
     exact Jp
    exact Jp
   ·simp only [JR,true_and] at eA
    obtain⟨rfl,rfl⟩:=eA;have hbc:at_≤c':=JF hat (kK hF4).1;have hcl:s.2.1.length≤c':=(kK hF4).1;refine ce (l:=[_,_,_,_,_,_,_,_,_,_,_,_,_,_,_,_,_,_,_,_,_,_,_]) (o:=_) (S:=fun w'=>w'.cell? ⟨p,1,none⟩=some (.slice (some ⟨g,0,none⟩) s.2.1.length c')∧w'.cell? ⟨w.heap.size,1,none⟩=some (.int .i64 id)) (by kernel_rfl) (by kernel_rfl) hSd (fun hHeld=>?_)
    change wpAnyH _ _ _ _ _ 23 (JL 23 false) _ _
    generalize w4.drew=W0 at *;have hX:=hX0;refine wpAnyH_take (i:=0) (oi:=_) (v:=?va1) rfl (by kernel_rfl) (by kernel_rfl) (by kernel_rfl) (fun _ _ _ h=>h) (Jo ⟨by rfl,?ya1⟩) hHeld ?ra1
    case ya1=>(intro w0 hSw;obtain⟨hSw0,hSw1⟩:=hSw;go_simp;try with_reducible rfl)
    (try simp only [Jm,Ji,Jj,Jk])
    refine wpAnyH_take (i:=2) (oi:=_) (v:=?va2) rfl (by kernel_rfl) (by kernel_rfl) (by kernel_rfl) (fun _ _ _ h=>h) (Jo ⟨by rfl,?ya2⟩) hHeld ?ra2
    case ya2=>(intro w0 hSw;obtain⟨hSw0,hSw1⟩:=hSw;go_simp;try with_reducible rfl)
    (try simp only [Jm,Ji,Jj,Jk])
    refine wpAnyH_take (i:=3) (oi:=_) (v:=?va3) rfl (by kernel_rfl) (by kernel_rfl) (by kernel_rfl) (fun _ _ _ h=>h) (Jo ⟨by rfl,?ya3⟩) hHeld ?ra3
    case ya3=>(intro w0 hSw;obtain⟨hSw0,hSw1⟩:=hSw;go_simp;try with_reducible rfl)
    (try simp only [Jm,Ji,Jj,Jk])
    refine wpAnyH_take (i:=4) (oi:=_) (v:=?va4) rfl (by kernel_rfl) (by kernel_rfl) (by kernel_rfl) (fun _ _ _ h=>h) (Jo ⟨by rfl,?ya4⟩) hHeld ?ra4
    case ya4=>(intro w0 hSw;obtain⟨hSw0,hSw1⟩:=hSw;go_simp;try with_reducible rfl)
    (try simp only [Jm,Ji,Jj,Jk])
    refine wpAnyH_take (i:=5) (oi:=_) (v:=?va5) rfl (by kernel_rfl) (by kernel_rfl) (by kernel_rfl) (fun _ _ _ h=>h) (Jo ⟨by rfl,?ya5⟩) hHeld ?ra5
    case ya5=>(intro w0 hSw;obtain⟨hSw0,hSw1⟩:=hSw;go_simp;try with_reducible rfl)
    (try simp only [Jm,Ji,Jj,Jk])
    refine wpAnyH_take (i:=6) (oi:=_) (v:=?va6) rfl (by kernel_rfl) (by kernel_rfl) (by kernel_rfl) (fun _ _ _ h=>h) (Jo ⟨by rfl,?ya6⟩) hHeld ?ra6
    case ya6=>(intro w0 hSw;obtain⟨hSw0,hSw1⟩:=hSw;go_simp;try with_reducible rfl)
    (try simp only [Jm,Ji,Jj,Jk])
    refine wpAnyH_take (i:=7) (oi:=_) (v:=?va7) rfl (by kernel_rfl) (by kernel_rfl) (by kernel_rfl) (fun _ _ _ h=>h) (Jo ⟨by rfl,?ya7⟩) hHeld ?ra7
    case ya7=>(intro w0 hSw;obtain⟨hSw0,hSw1⟩:=hSw;go_simp;try with_reducible rfl)
    (try simp only [Jm,Ji,Jj,Jk])
    refine wpAnyH_take (i:=9) (oi:=_) (v:=?va8) rfl (by kernel_rfl) (by kernel_rfl) (by kernel_rfl) (fun _ _ _ h=>h) (Jo ⟨by rfl,?ya8⟩) hHeld ?ra8
    case ya8=>(intro w0 hSw;obtain⟨hSw0,hSw1⟩:=hSw;go_simp;try with_reducible rfl)
    (try simp only [Jm,Ji,Jj,Jk])
    refine wpAnyH_take (i:=10) (oi:=_) (v:=?va9) rfl (by kernel_rfl) (by kernel_rfl) (by kernel_rfl) (fun _ _ _ h=>h) (Jo ⟨by rfl,?ya9⟩) hHeld ?ra9
    case ya9=>(intro w0 hSw;obtain⟨hSw0,hSw1⟩:=hSw;go_simp;try with_reducible rfl)
    (try simp only [Jm,Ji,Jj,Jk])
    refine wpAnyH_take (i:=11) (oi:=_) (v:=?va10) rfl (by kernel_rfl) (by kernel_rfl) (by kernel_rfl) (fun _ _ _ h=>h) (Jo ⟨by rfl,?ya10⟩) hHeld ?ra10
    case ya10=>(intro w0 hSw;obtain⟨hSw0,hSw1⟩:=hSw;go_simp;try with_reducible rfl)
    (try simp only [Jm,Ji,Jj,Jk])
    refine wpAnyH_take (i:=14) (oi:=_) (v:=?va11) rfl (by kernel_rfl) (by kernel_rfl) (by kernel_rfl) (fun _ _ _ h=>h) (Jo ⟨by rfl,?ya11⟩) hHeld ?ra11
    case ya11=>(intro w0 hSw;obtain⟨hSw0,hSw1⟩:=hSw;go_simp;try with_reducible rfl)
    (try simp only [Jm,Ji,Jj,Jk])
    refine wpAnyH_take (i:=15) (oi:=_) (v:=?va12) rfl (by kernel_rfl) (by kernel_rfl) (by kernel_rfl) (fun _ _ _ h=>h) (Jo ⟨by rfl,?ya12⟩) hHeld ?ra12
    case ya12=>(intro w0 hSw;obtain⟨hSw0,hSw1⟩:=hSw;go_simp;try with_reducible rfl)
    (try simp only [Jm,Ji,Jj,Jk])
    refine wpAnyH_take (i:=16) (oi:=_) (v:=?va13) rfl (by kernel_rfl) (by kernel_rfl) (by kernel_rfl) (fun _ _ _ h=>h) (Jo ⟨by rfl,?ya13⟩) hHeld ?ra13
    case ya13=>(intro w0 hSw;obtain⟨hSw0,hSw1⟩:=hSw;go_simp;try with_reducible rfl)
    (try simp only [Jm,Ji,Jj,Jk])
    refine wpAnyH_take (i:=17) (oi:=_) (v:=?va14) rfl (by kernel_rfl) (by kernel_rfl) (by kernel_rfl) (fun _ _ _ h=>h) (Jo ⟨by rfl,?ya14⟩) hHeld ?ra14
    case ya14=>(intro w0 hSw;obtain⟨hSw0,hSw1⟩:=hSw;go_simp;try with_reducible rfl)
    (try simp only [Jm,Ji,Jj,Jk])
    refine wpAnyH_take (i:=18) (oi:=_) (v:=?va15) rfl (by kernel_rfl) (by kernel_rfl) (by kernel_rfl) (fun _ _ _ h=>h) (Jo ⟨by rfl,?ya15⟩) hHeld ?ra15
    case ya15=>(intro w0 hSw;obtain⟨hSw0,hSw1⟩:=hSw;go_simp;try with_reducible rfl)
    (try simp only [Jm,Ji,Jj,Jk])
    refine wpAnyH_take (i:=19) (oi:=_) (v:=?va16) rfl (by kernel_rfl) (by kernel_rfl) (by kernel_rfl) (fun _ _ _ h=>h) (Jo ⟨by rfl,?ya16⟩) hHeld ?ra16
    case ya16=>(intro w0 hSw;obtain⟨hSw0,hSw1⟩:=hSw;go_simp;try with_reducible rfl)
    (try simp only [Jm,Ji,Jj,Jk])
    refine wpAnyH_ready (rs:=[1,12]) (by kernel_rfl) (by simp) ?_
    refine Jn (o:=_) rfl (fun K hK=>?_) ?_
    ·go_simp
     have hX:=hX.alloc hX.size (.cells #[] 75);have hE:(W0.alloc (.cells #[] 75)).heap[W0.heap.size]?=some (.cells #[] 75 (0,0)):=ae _ (by simp);refine hK.out _ _ ?_ (fun hHeld=>?_)
     ·exact hcells.out _ hX
     clear hK K
     (try simp only [Jm,Ji,Jj,Jk])
     refine wpAnyH_ready (rs:=[8,12]) (by kernel_rfl) (by simp) ?_
     refine Jn (o:=_) rfl (fun K hK=>?_) ?_
     ·refine ai _ rfl _ _ 31 rfl B 75 i2 (.agg #[.int .i64 0,.slice none 0 0,.bool false,.int .i64 0]) 4 48 Try.underlying31 hi2 hx0 hx1 hx2 rfl (by decide) (.slice (some ⟨W0.heap.size,0,none⟩) 0 0) 0 [] (by simp [go_sem];done) (cg hE (by have:=hX0.size;omega)) (some ⟨g,0,none⟩) at_ c' (bu (s.2.1.take at_) (ys.take at_)) (by simp [go_sem,sliced];done) (by rw [ch _ _ (by simp [hF4.len]),Jy,JD hat]) (fun _=>⟨g,0,rfl,iS (hfmsX.out _ hX) hat⟩) (cL _ _ fun y hy=>dB hF4 y (Jt hy)) (by unfold maxLen;omega) (by omega) (by have:=hX.size;omega) ?_
      intro v5 w5 hown5 hg5 hat5;have htk:=kh (hfmsX.out _ hX) at_;have hV1:=bR (eC hE (B:=B) (by have:=hX0.size;omega)) (m:=s.2.1.take at_) (zs:=ys.take at_) (by have:=hX.size;omega) (by rw [Jy,JD hat];exact hown5) hg5 hat5 (by simp [hF4.len]) htk.1 (fun j y b hj hb=>by
       obtain⟨h1,_⟩:=htk.2.1 j y b hj hb;have h2:=(hlt4 b (.inr ⟨y,Jt (Jr hj),hb⟩)).2;refine⟨h1,Jw h2 hX.size,fun h=>?_⟩
       rcases h with h | ⟨_,h,_⟩
       ·have e:W0.heap.size=b:=Jl h
        have:=hX0.size;omega
       ·cases h) htk.2.2
      rw [JE,JE] at hV1;have hf1:∀b,FmS v5 (ys.take at_) b→FmS (.slice (some ⟨g,0,none⟩) s.2.1.length c') ys b∨w4.heap.size≤b:=fun b hb=>by
       rcases hb with hb | ⟨z,hz,hzb⟩
       ·rcases hat5 with h | h
        ·have e:some b=some (W0.heap.size):=hb.symm.trans h
         have:=Jl e;have:=hX0.size;exact .inr (by omega)
        ·have e:some b=some ((W0.alloc (.cells #[] 75)).heap.size):=hb.symm.trans h
         have:=Jl e;have:=hX.size;exact .inr (by omega)
       ·exact .inl (.inr ⟨z,Jt hz,hzb⟩)
      have hge5:∀b,aH v5 b→w4.heap.size≤b:=fun b hb=>by
       rcases hat5 with h | h
       ·have e:some b=some (W0.heap.size):=hb.symm.trans h
        have:=Jl e;have:=hX0.size;omega
       ·have e:some b=some ((W0.alloc (.cells #[] 75)).heap.size):=hb.symm.trans h
        have:=Jl e;have:=hX.size;omega
      have hX:=hX.grown hg5 hX.size (fun k hk=>by have e:W0.heap.size=k:=Jl hk;have:=hX0.size;omega);obtain⟨A5,n5,c5,rfl⟩:=ax hV1.own;clear hat5;refine hK.out _ _ ?_ (fun hHeld=>?_)
      ·exact hcells.out _ hX
      clear hK K
      (try simp only [Jm,Ji,Jj,Jk])
      refine wpAnyH_ready (rs:=[12]) (by kernel_rfl) (by simp) ?_
      refine Jn (o:=_) rfl (fun K hK=>?_) ?_
      ·go_simp
       have hX:=hX.alloc hX.size (.cells #[.int .i64 id,.slice none 0 0,.bool false,.int .i64 0] 75);have hM:(w5.alloc (.cells #[.int .i64 id,.slice none 0 0,.bool false,.int .i64 0] 75)).heap[w5.heap.size]?=some (.cells #[.int .i64 id,.slice none 0 0,.bool false,.int .i64 0] 75 (0,0)):=ae _ (by simp);have hV1:=hV1.keep (w':=(w5.alloc (.cells #[.int .i64 id,.slice none 0 0,.bool false,.int .i64 0] 75))) fun b hb=>gX _ (hV1.lt b hb).2
       refine hK.out _ _ ?_ (fun hHeld=>?_)
       ·exact hcells.out _ hX
       clear hK K
       (try simp only [Jm,Ji,Jj,Jk])
       refine wpAnyH_ready (rs:=[13]) (by kernel_rfl) (by simp) ?_
       refine Jn (o:=_) rfl (fun K hK=>?_) ?_
       ·refine ai _ rfl _ _ 31 rfl B 75 i2 (.agg #[.int .i64 0,.slice none 0 0,.bool false,.int .i64 0]) 4 48 Try.underlying31 hi2 hx0 hx1 hx2 rfl (by decide) (.slice A5 n5 c5) _ _ (by simp [go_sem];done) hV1.own (some ⟨w5.heap.size,0,none⟩) 1 1 [.int .i64 id,.slice none 0 0,.bool false,.int .i64 0] (by simp [go_sem];done) rfl (fun _=>⟨_,_,rfl,cq hM⟩) (by intro u hu;simp at hu;rcases hu with rfl | rfl | rfl | rfl<;>rfl) (by unfold maxLen;simp;try omega) (by simp;try omega) (by have:=hX.size;omega) ?_
        intro v6 w6 hown6 hg6 hat6;have hV2:=cD (x:=(id,[],false,0)) (y:=.slice none 0 0) hV1 (by have:=hX.size;omega) hown6 hg6 hat6 (fw _ _ _ _) (fun b hb=>by cases hb);have hf2:∀b,FmS v6 (ys.take at_++[.slice none 0 0]) b→FmS (.slice (some ⟨g,0,none⟩) s.2.1.length c') ys b∨w4.heap.size≤b:=fun b hb=>by
         rcases hb with hb | ⟨z,hz,hzb⟩
         ·rcases hat6 with h | h
          ·exact hf1 b (.inl (hb.symm.trans h).symm)
          ·have e:some b=some ((w5.alloc (.cells #[.int .i64 id,.slice none 0 0,.bool false,.int .i64 0] 75)).heap.size):=hb.symm.trans h
           have:=Jl e;have:=hX.size;exact .inr (by omega)
         ·rcases Js.1 hz with hz | hz
          ·exact hf1 b (.inr ⟨z,hz,hzb⟩)
          ·obtain rfl:=Jv.1 hz
           cases hzb
        have hge6:∀b,aH v6 b→w4.heap.size≤b:=fun b hb=>by
         rcases hat6 with h | h
         ·exact hge5 b (h.symm.trans hb)
         ·have e:some b=some ((w5.alloc (.cells #[.int .i64 id,.slice none 0 0,.bool false,.int .i64 0] 75)).heap.size):=hb.symm.trans h
          have:=Jl e;have:=hX.size;omega
        have hX:=hX.grown hg6 hX.size (fun k hk=>hge5 k hk);obtain⟨A6,n6,c6,rfl⟩:=ax hV2.own;clear hat6;refine hK.out _ _ ?_ (fun hHeld=>?_)
        ·exact hcells.out _ hX
        clear hK K
        (try simp only [Jm,Ji,Jj,Jk])
        refine wpAnyH_ready (rs:=[20]) (by kernel_rfl) (by simp) ?_
        refine Jn (o:=_) rfl (fun K hK=>?_) ?_
        ·refine ai _ rfl _ _ 31 rfl B 75 i2 (.agg #[.int .i64 0,.slice none 0 0,.bool false,.int .i64 0]) 4 48 Try.underlying31 hi2 hx0 hx1 hx2 rfl (by decide) (.slice A6 n6 c6) _ _ (by simp [go_sem];done) hV2.own (if c'=at_ then some ⟨g,0,none⟩ else some ⟨g,at_*4,none⟩) (s.2.1.length - at_) (c' - at_) (bu (s.2.1.drop at_) (ys.drop at_)) (by simp [go_sem,sliced];done) (by rw [ch _ _ (by simp [hF4.len]),JB]) (fun h0=>⟨g,at_*4,by rw [if_neg (by omega)],gJ (hfmsX.out _ hX) at_ hat⟩) (cL _ _ fun y hy=>dB hF4 y (Ju hy)) (by unfold maxLen;simp;try omega) (by simp;try omega) (by have:=hX.size;omega) ?_
         intro v7 w7 hown7 hg7 hat7;have hdr:=jm (hfmsX.out _ hX) at_;have hV3:=bR hV2 (m:=s.2.1.drop at_) (zs:=ys.drop at_) (by have:=hX.size;omega) (by rw [JB];exact hown7) hg7 hat7 (by simp [hF4.len]) hdr.1 (fun j y b hj hb=>by
          obtain⟨h1,h2,h3,h4⟩:=hdr.2.1 j y b hj hb;have h5:=(hlt4 b (.inr ⟨y,Ju (Jr hj),hb⟩)).2;refine⟨h1,h2,fun h=>?_⟩
          rcases h with h | ⟨z,hz,hzb⟩
          ·have:=hge6 b h
           omega
          ·rcases Js.1 hz with hz | hz
           ·exact h4 at_ (Jz _) z hz hzb
           ·obtain rfl:=Jv.1 hz
            cases hzb) hdr.2.2
         have hf3:∀b,FmS v7 ((ys.take at_++[.slice none 0 0])++ys.drop at_) b→FmS (.slice (some ⟨g,0,none⟩) s.2.1.length c') ys b∨w4.heap.size≤b:=fun b hb=>by
          rcases hb with hb | ⟨z,hz,hzb⟩
          ·rcases hat7 with h | h
           ·exact hf2 b (.inl (hb.symm.trans h).symm)
           ·have e:some b=some (w6.heap.size):=hb.symm.trans h
            have:=Jl e;have:=hX.size;exact .inr (by omega)
          ·rcases Js.1 hz with hz | hz
           ·exact hf2 b (.inr ⟨z,hz,hzb⟩)
           ·exact .inl (.inr ⟨z,Ju hz,hzb⟩)
         have hX:=hX.grown hg7 hX.size (fun k hk=>hge6 k hk);obtain⟨A7,n7,c7,rfl⟩:=ax hV3.own;clear hat7;refine hK.out _ _ ?_ (fun hHeld=>?_)
         ·exact hcells.out _ hX
         clear hK K
         (try simp only [Jm,Ji,Jj,Jk])
         refine wpAnyH_take (i:=21) (oi:=_) (v:=?va17) rfl (by kernel_rfl) (by kernel_rfl) (by kernel_rfl) (fun _ _ _ h=>h) (Jo ⟨by rfl,?ya17⟩) hHeld ?ra17
         case ya17=>(intro w0 hSw;obtain⟨hSw0,hSw1⟩:=hSw;go_simp;try with_reducible rfl)
         (try simp only [Jm,Ji,Jj,Jk])
         refine wpAnyH_take (i:=22) (oi:=_) (v:=?va18) rfl (by kernel_rfl) (by kernel_rfl) (by kernel_rfl) (fun _ _ _ h=>h) (Jo ⟨by rfl,?ya18⟩) hHeld ?ra18
         case ya18=>(intro w0 hSw;obtain⟨hSw0,hSw1⟩:=hSw;go_simp;try with_reducible rfl)
         (try simp only [Jm,Ji,Jj,Jk])
         refine bh (by kernel_rfl) ?_
         have hp7:=(hX.block p hpl4).trans hp4;have g1:=(aa hp7).2.1;have h1:=(aI hp7).2.1;have hp8:(w7.setCell ⟨p,1,none⟩ (.slice A7 n7 c7)).heap[p]?=some (.cells #[.slice A bn c,.slice A7 n7 c7,.int .i64 s.2.2.1,.int .i64 s.2.2.2] 33 (0,0)):=heap_setCell_same _ _ 1 _ _ (.slice A7 n7 c7) hp7;have hV4:=hV3.keep (w':=w7.setCell ⟨p,1,none⟩ (.slice A7 n7 c7)) fun b hb=>heap_setCell_other _ _ _ _ (by
          simp;rintro rfl;exact(hf3 _ hb).elim (fun h=>hnp (.inr h)) fun h=>by omega)
         have eI:dh s.2.1 id=(s.2.1.take at_++[(id,[],false,0)])++s.2.1.drop at_:=by
          unfold dh;rw [if_neg (by simp [hhf]),←hatH.out];simp
         go_simp
         go_wp2
         all_goals (
          go_meet
          case rel=>exact⟨A7,n7,c7,_,hp8,by rw [eI];exact hV4,hf3,fun b hb hne=>(heap_setCell_other _ _ _ _ (by simpa using hne)).trans (hX.block b hb),by simp [Jx];exact hX.size,hX.os,hX.tape,hX.output⟩)
        exact Jp
       exact Jp
      exact Jp
     refine Jn (o:=_) rfl (fun K hK=>?_) ?_
     ·go_simp
      have hX:=hX.alloc hX.size (.cells #[.int .i64 id,.slice none 0 0,.bool false,.int .i64 0] 75);have hM:((W0.alloc (.cells #[] 75)).alloc (.cells #[.int .i64 id,.slice none 0 0,.bool false,.int .i64 0] 75)).heap[W0.heap.size+1]?=some (.cells #[.int .i64 id,.slice none 0 0,.bool false,.int .i64 0] 75 (0,0)):=ae _ (by simp);have hE:=ah (.cells #[.int .i64 id,.slice none 0 0,.bool false,.int .i64 0] 75) hE;refine hK.out _ _ ?_ (fun hHeld=>?_)
      ·exact hcells.out _ hX
      clear hK K
      (try simp only [Jm,Ji,Jj,Jk])
      refine wpAnyH_ready (rs:=[8]) (by kernel_rfl) (by simp) ?_
      refine Jn (o:=_) rfl (fun K hK=>?_) ?_
      ·refine ai _ rfl _ _ 31 rfl B 75 i2 (.agg #[.int .i64 0,.slice none 0 0,.bool false,.int .i64 0]) 4 48 Try.underlying31 hi2 hx0 hx1 hx2 rfl (by decide) (.slice (some ⟨W0.heap.size,0,none⟩) 0 0) 0 [] (by simp [go_sem];done) (cg hE (by have:=hX0.size;omega)) (some ⟨g,0,none⟩) at_ c' (bu (s.2.1.take at_) (ys.take at_)) (by simp [go_sem,sliced];done) (by rw [ch _ _ (by simp [hF4.len]),Jy,JD hat]) (fun _=>⟨g,0,rfl,iS (hfmsX.out _ hX) hat⟩) (cL _ _ fun y hy=>dB hF4 y (Jt hy)) (by unfold maxLen;omega) (by omega) (by have:=hX.size;omega) ?_
       intro v5 w5 hown5 hg5 hat5;have htk:=kh (hfmsX.out _ hX) at_;have hV1:=bR (eC hE (B:=B) (by have:=hX0.size;omega)) (m:=s.2.1.take at_) (zs:=ys.take at_) (by have:=hX.size;omega) (by rw [Jy,JD hat];exact hown5) hg5 hat5 (by simp [hF4.len]) htk.1 (fun j y b hj hb=>by
        obtain⟨h1,_⟩:=htk.2.1 j y b hj hb;have h2:=(hlt4 b (.inr ⟨y,Jt (Jr hj),hb⟩)).2;refine⟨h1,Jw h2 hX.size,fun h=>?_⟩
        rcases h with h | ⟨_,h,_⟩
        ·have e:W0.heap.size=b:=Jl h
         have:=hX0.size;omega
        ·cases h) htk.2.2
       rw [JE,JE] at hV1;have hf1:∀b,FmS v5 (ys.take at_) b→FmS (.slice (some ⟨g,0,none⟩) s.2.1.length c') ys b∨w4.heap.size≤b:=fun b hb=>by
        rcases hb with hb | ⟨z,hz,hzb⟩
        ·rcases hat5 with h | h
         ·have e:some b=some (W0.heap.size):=hb.symm.trans h
          have:=Jl e;have:=hX0.size;exact .inr (by omega)
         ·have e:some b=some (((W0.alloc (.cells #[] 75)).alloc (.cells #[.int .i64 id,.slice none 0 0,.bool false,.int .i64 0] 75)).heap.size):=hb.symm.trans h
          have:=Jl e;have:=hX.size;exact .inr (by omega)
        ·exact .inl (.inr ⟨z,Jt hz,hzb⟩)
       have hge5:∀b,aH v5 b→w4.heap.size≤b:=fun b hb=>by
        rcases hat5 with h | h
        ·have e:some b=some (W0.heap.size):=hb.symm.trans h
         have:=Jl e;have:=hX0.size;omega
        ·have e:some b=some (((W0.alloc (.cells #[] 75)).alloc (.cells #[.int .i64 id,.slice none 0 0,.bool false,.int .i64 0] 75)).heap.size):=hb.symm.trans h
         have:=Jl e;have:=hX.size;omega
       have hM:=(hg5.block (W0.heap.size+1) (bd hM) (fun h=>by have e:W0.heap.size+1=W0.heap.size:=Jl h;omega)).trans hM;have hX:=hX.grown hg5 hX.size (fun k hk=>by have e:W0.heap.size=k:=Jl hk;have:=hX0.size;omega);obtain⟨A5,n5,c5,rfl⟩:=ax hV1.own;clear hat5;refine hK.out _ _ ?_ (fun hHeld=>?_)
       ·exact hcells.out _ hX
       clear hK K
       (try simp only [Jm,Ji,Jj,Jk])
       refine wpAnyH_ready (rs:=[13]) (by kernel_rfl) (by simp) ?_
       refine Jn (o:=_) rfl (fun K hK=>?_) ?_
       ·refine ai _ rfl _ _ 31 rfl B 75 i2 (.agg #[.int .i64 0,.slice none 0 0,.bool false,.int .i64 0]) 4 48 Try.underlying31 hi2 hx0 hx1 hx2 rfl (by decide) (.slice A5 n5 c5) _ _ (by simp [go_sem];done) hV1.own (some ⟨W0.heap.size+1,0,none⟩) 1 1 [.int .i64 id,.slice none 0 0,.bool false,.int .i64 0] (by simp [go_sem];done) rfl (fun _=>⟨_,_,rfl,cq hM⟩) (by intro u hu;simp at hu;rcases hu with rfl | rfl | rfl | rfl<;>rfl) (by unfold maxLen;simp;try omega) (by simp;try omega) (by have:=hX.size;omega) ?_
        intro v6 w6 hown6 hg6 hat6;have hV2:=cD (x:=(id,[],false,0)) (y:=.slice none 0 0) hV1 (by have:=hX.size;omega) hown6 hg6 hat6 (fw _ _ _ _) (fun b hb=>by cases hb);have hf2:∀b,FmS v6 (ys.take at_++[.slice none 0 0]) b→FmS (.slice (some ⟨g,0,none⟩) s.2.1.length c') ys b∨w4.heap.size≤b:=fun b hb=>by
         rcases hb with hb | ⟨z,hz,hzb⟩
         ·rcases hat6 with h | h
          ·exact hf1 b (.inl (hb.symm.trans h).symm)
          ·have e:some b=some (w5.heap.size):=hb.symm.trans h
           have:=Jl e;have:=hX.size;exact .inr (by omega)
         ·rcases Js.1 hz with hz | hz
          ·exact hf1 b (.inr ⟨z,hz,hzb⟩)
          ·obtain rfl:=Jv.1 hz
           cases hzb
        have hge6:∀b,aH v6 b→w4.heap.size≤b:=fun b hb=>by
         rcases hat6 with h | h
         ·exact hge5 b (h.symm.trans hb)
         ·have e:some b=some (w5.heap.size):=hb.symm.trans h
          have:=Jl e;have:=hX.size;omega
        have hX:=hX.grown hg6 hX.size (fun k hk=>hge5 k hk);obtain⟨A6,n6,c6,rfl⟩:=ax hV2.own;clear hat6;refine hK.out _ _ ?_ (fun hHeld=>?_)
        ·exact hcells.out _ hX
        clear hK K
        (try simp only [Jm,Ji,Jj,Jk])
        refine wpAnyH_ready (rs:=[20]) (by kernel_rfl) (by simp) ?_
        refine Jn (o:=_) rfl (fun K hK=>?_) ?_
        ·refine ai _ rfl _ _ 31 rfl B 75 i2 (.agg #[.int .i64 0,.slice none 0 0,.bool false,.int .i64 0]) 4 48 Try.underlying31 hi2 hx0 hx1 hx2 rfl (by decide) (.slice A6 n6 c6) _ _ (by simp [go_sem];done) hV2.own (if c'=at_ then some ⟨g,0,none⟩ else some ⟨g,at_*4,none⟩) (s.2.1.length - at_) (c' - at_) (bu (s.2.1.drop at_) (ys.drop at_)) (by simp [go_sem,sliced];done) (by rw [ch _ _ (by simp [hF4.len]),JB]) (fun h0=>⟨g,at_*4,by rw [if_neg (by omega)],gJ (hfmsX.out _ hX) at_ hat⟩) (cL _ _ fun y hy=>dB hF4 y (Ju hy)) (by unfold maxLen;simp;try omega) (by simp;try omega) (by have:=hX.size;omega) ?_
         intro v7 w7 hown7 hg7 hat7;have hdr:=jm (hfmsX.out _ hX) at_;have hV3:=bR hV2 (m:=s.2.1.drop at_) (zs:=ys.drop at_) (by have:=hX.size;omega) (by rw [JB];exact hown7) hg7 hat7 (by simp [hF4.len]) hdr.1 (fun j y b hj hb=>by
          obtain⟨h1,h2,h3,h4⟩:=hdr.2.1 j y b hj hb;have h5:=(hlt4 b (.inr ⟨y,Ju (Jr hj),hb⟩)).2;refine⟨h1,h2,fun h=>?_⟩
          rcases h with h | ⟨z,hz,hzb⟩
          ·have:=hge6 b h
           omega
          ·rcases Js.1 hz with hz | hz
           ·exact h4 at_ (Jz _) z hz hzb
           ·obtain rfl:=Jv.1 hz
            cases hzb) hdr.2.2
         have hf3:∀b,FmS v7 ((ys.take at_++[.slice none 0 0])++ys.drop at_) b→FmS (.slice (some ⟨g,0,none⟩) s.2.1.length c') ys b∨w4.heap.size≤b:=fun b hb=>by
          rcases hb with hb | ⟨z,hz,hzb⟩
          ·rcases hat7 with h | h
           ·exact hf2 b (.inl (hb.symm.trans h).symm)
           ·have e:some b=some (w6.heap.size):=hb.symm.trans h
            have:=Jl e;have:=hX.size;exact .inr (by omega)
          ·rcases Js.1 hz with hz | hz
           ·exact hf2 b (.inr ⟨z,hz,hzb⟩)
           ·exact .inl (.inr ⟨z,Ju hz,hzb⟩)
         have hX:=hX.grown hg7 hX.size (fun k hk=>hge6 k hk);obtain⟨A7,n7,c7,rfl⟩:=ax hV3.own;clear hat7;refine hK.out _ _ ?_ (fun hHeld=>?_)
         ·exact hcells.out _ hX
         clear hK K
         (try simp only [Jm,Ji,Jj,Jk])
         refine wpAnyH_take (i:=21) (oi:=_) (v:=?va19) rfl (by kernel_rfl) (by kernel_rfl) (by kernel_rfl) (fun _ _ _ h=>h) (Jo ⟨by rfl,?ya19⟩) hHeld ?ra19
         case ya19=>(intro w0 hSw;obtain⟨hSw0,hSw1⟩:=hSw;go_simp;try with_reducible rfl)
         (try simp only [Jm,Ji,Jj,Jk])
         refine wpAnyH_take (i:=22) (oi:=_) (v:=?va20) rfl (by kernel_rfl) (by kernel_rfl) (by kernel_rfl) (fun _ _ _ h=>h) (Jo ⟨by rfl,?ya20⟩) hHeld ?ra20
         case ya20=>(intro w0 hSw;obtain⟨hSw0,hSw1⟩:=hSw;go_simp;try with_reducible rfl)
         (try simp only [Jm,Ji,Jj,Jk])
         refine bh (by kernel_rfl) ?_
         have hp7:=(hX.block p hpl4).trans hp4;have g1:=(aa hp7).2.1;have h1:=(aI hp7).2.1;have hp8:(w7.setCell ⟨p,1,none⟩ (.slice A7 n7 c7)).heap[p]?=some (.cells #[.slice A bn c,.slice A7 n7 c7,.int .i64 s.2.2.1,.int .i64 s.2.2.2] 33 (0,0)):=heap_setCell_same _ _ 1 _ _ (.slice A7 n7 c7) hp7;have hV4:=hV3.keep (w':=w7.setCell ⟨p,1,none⟩ (.slice A7 n7 c7)) fun b hb=>heap_setCell_other _ _ _ _ (by
          simp;rintro rfl;exact(hf3 _ hb).elim (fun h=>hnp (.inr h)) fun h=>by omega)
         have eI:dh s.2.1 id=(s.2.1.take at_++[(id,[],false,0)])++s.2.1.drop at_:=by
          unfold dh;rw [if_neg (by simp [hhf]),←hatH.out];simp
         go_simp
         go_wp2
         all_goals (
          go_meet
          case rel=>exact⟨A7,n7,c7,_,hp8,by rw [eI];exact hV4,hf3,fun b hb hne=>(heap_setCell_other _ _ _ _ (by simpa using hne)).trans (hX.block b hb),by simp [Jx];exact hX.size,hX.os,hX.tape,hX.output⟩)
        exact Jp
       exact Jp
      exact Jp
     exact Jp
    refine Jn (o:=_) rfl (fun K hK=>?_) ?_
    ·go_simp
     have hX:=hX.alloc hX.size (.cells #[.int .i64 id,.slice none 0 0,.bool false,.int .i64 0] 75);have hM:(W0.alloc (.cells #[.int .i64 id,.slice none 0 0,.bool false,.int .i64 0] 75)).heap[W0.heap.size]?=some (.cells #[.int .i64 id,.slice none 0 0,.bool false,.int .i64 0] 75 (0,0)):=ae _ (by simp);refine hK.out _ _ ?_ (fun hHeld=>?_)
     ·exact hcells.out _ hX
     clear hK K
     (try simp only [Jm,Ji,Jj,Jk])
     refine wpAnyH_ready (rs:=[1]) (by kernel_rfl) (by simp) ?_
     refine Jn (o:=_) rfl (fun K hK=>?_) ?_
     ·go_simp
      have hX:=hX.alloc hX.size (.cells #[] 75);have hE:((W0.alloc (.cells #[.int .i64 id,.slice none 0 0,.bool false,.int .i64 0] 75)).alloc (.cells #[] 75)).heap[W0.heap.size+1]?=some (.cells #[] 75 (0,0)):=ae _ (by simp);have hM:=ah (.cells #[] 75) hM;refine hK.out _ _ ?_ (fun hHeld=>?_)
      ·exact hcells.out _ hX
      clear hK K
      (try simp only [Jm,Ji,Jj,Jk])
      refine wpAnyH_ready (rs:=[8]) (by kernel_rfl) (by simp) ?_
      refine Jn (o:=_) rfl (fun K hK=>?_) ?_
      ·refine ai _ rfl _ _ 31 rfl B 75 i2 (.agg #[.int .i64 0,.slice none 0 0,.bool false,.int .i64 0]) 4 48 Try.underlying31 hi2 hx0 hx1 hx2 rfl (by decide) (.slice (some ⟨W0.heap.size+1,0,none⟩) 0 0) 0 [] (by simp [go_sem];done) (cg hE (by have:=hX0.size;omega)) (some ⟨g,0,none⟩) at_ c' (bu (s.2.1.take at_) (ys.take at_)) (by simp [go_sem,sliced];done) (by rw [ch _ _ (by simp [hF4.len]),Jy,JD hat]) (fun _=>⟨g,0,rfl,iS (hfmsX.out _ hX) hat⟩) (cL _ _ fun y hy=>dB hF4 y (Jt hy)) (by unfold maxLen;omega) (by omega) (by have:=hX.size;omega) ?_
       intro v5 w5 hown5 hg5 hat5;have htk:=kh (hfmsX.out _ hX) at_;have hV1:=bR (eC hE (B:=B) (by have:=hX0.size;omega)) (m:=s.2.1.take at_) (zs:=ys.take at_) (by have:=hX.size;omega) (by rw [Jy,JD hat];exact hown5) hg5 hat5 (by simp [hF4.len]) htk.1 (fun j y b hj hb=>by
        obtain⟨h1,_⟩:=htk.2.1 j y b hj hb;have h2:=(hlt4 b (.inr ⟨y,Jt (Jr hj),hb⟩)).2;refine⟨h1,Jw h2 hX.size,fun h=>?_⟩
        rcases h with h | ⟨_,h,_⟩
        ·have e:W0.heap.size+1=b:=Jl h
         have:=hX0.size;omega
        ·cases h) htk.2.2
       rw [JE,JE] at hV1;have hf1:∀b,FmS v5 (ys.take at_) b→FmS (.slice (some ⟨g,0,none⟩) s.2.1.length c') ys b∨w4.heap.size≤b:=fun b hb=>by
        rcases hb with hb | ⟨z,hz,hzb⟩
        ·rcases hat5 with h | h
         ·have e:some b=some (W0.heap.size+1):=hb.symm.trans h
          have:=Jl e;have:=hX0.size;exact .inr (by omega)
         ·have e:some b=some (((W0.alloc (.cells #[.int .i64 id,.slice none 0 0,.bool false,.int .i64 0] 75)).alloc (.cells #[] 75)).heap.size):=hb.symm.trans h
          have:=Jl e;have:=hX.size;exact .inr (by omega)
        ·exact .inl (.inr ⟨z,Jt hz,hzb⟩)
       have hge5:∀b,aH v5 b→w4.heap.size≤b:=fun b hb=>by
        rcases hat5 with h | h
        ·have e:some b=some (W0.heap.size+1):=hb.symm.trans h
         have:=Jl e;have:=hX0.size;omega
        ·have e:some b=some (((W0.alloc (.cells #[.int .i64 id,.slice none 0 0,.bool false,.int .i64 0] 75)).alloc (.cells #[] 75)).heap.size):=hb.symm.trans h
         have:=Jl e;have:=hX.size;omega
       have hM:=(hg5.block (W0.heap.size) (bd hM) (fun h=>by have e:W0.heap.size=W0.heap.size+1:=Jl h;omega)).trans hM;have hX:=hX.grown hg5 hX.size (fun k hk=>by have e:W0.heap.size+1=k:=Jl hk;have:=hX0.size;omega);obtain⟨A5,n5,c5,rfl⟩:=ax hV1.own;clear hat5;refine hK.out _ _ ?_ (fun hHeld=>?_)
       ·exact hcells.out _ hX
       clear hK K
       (try simp only [Jm,Ji,Jj,Jk])
       refine wpAnyH_ready (rs:=[13]) (by kernel_rfl) (by simp) ?_
       refine Jn (o:=_) rfl (fun K hK=>?_) ?_
       ·refine ai _ rfl _ _ 31 rfl B 75 i2 (.agg #[.int .i64 0,.slice none 0 0,.bool false,.int .i64 0]) 4 48 Try.underlying31 hi2 hx0 hx1 hx2 rfl (by decide) (.slice A5 n5 c5) _ _ (by simp [go_sem];done) hV1.own (some ⟨W0.heap.size,0,none⟩) 1 1 [.int .i64 id,.slice none 0 0,.bool false,.int .i64 0] (by simp [go_sem];done) rfl (fun _=>⟨_,_,rfl,cq hM⟩) (by intro u hu;simp at hu;rcases hu with rfl | rfl | rfl | rfl<;>rfl) (by unfold maxLen;simp;try omega) (by simp;try omega) (by have:=hX.size;omega) ?_
        intro v6 w6 hown6 hg6 hat6;have hV2:=cD (x:=(id,[],false,0)) (y:=.slice none 0 0) hV1 (by have:=hX.size;omega) hown6 hg6 hat6 (fw _ _ _ _) (fun b hb=>by cases hb);have hf2:∀b,FmS v6 (ys.take at_++[.slice none 0 0]) b→FmS (.slice (some ⟨g,0,none⟩) s.2.1.length c') ys b∨w4.heap.size≤b:=fun b hb=>by
         rcases hb with hb | ⟨z,hz,hzb⟩
         ·rcases hat6 with h | h
          ·exact hf1 b (.inl (hb.symm.trans h).symm)
          ·have e:some b=some (w5.heap.size):=hb.symm.trans h
           have:=Jl e;have:=hX.size;exact .inr (by omega)
         ·rcases Js.1 hz with hz | hz
          ·exact hf1 b (.inr ⟨z,hz,hzb⟩)
          ·obtain rfl:=Jv.1 hz
           cases hzb
        have hge6:∀b,aH v6 b→w4.heap.size≤b:=fun b hb=>by
         rcases hat6 with h | h
         ·exact hge5 b (h.symm.trans hb)
         ·have e:some b=some (w5.heap.size):=hb.symm.trans h
          have:=Jl e;have:=hX.size;omega
        have hX:=hX.grown hg6 hX.size (fun k hk=>hge5 k hk);obtain⟨A6,n6,c6,rfl⟩:=ax hV2.own;clear hat6;refine hK.out _ _ ?_ (fun hHeld=>?_)
        ·exact hcells.out _ hX
        clear hK K
        (try simp only [Jm,Ji,Jj,Jk])
        refine wpAnyH_ready (rs:=[20]) (by kernel_rfl) (by simp) ?_
        refine Jn (o:=_) rfl (fun K hK=>?_) ?_
        ·refine ai _ rfl _ _ 31 rfl B 75 i2 (.agg #[.int .i64 0,.slice none 0 0,.bool false,.int .i64 0]) 4 48 Try.underlying31 hi2 hx0 hx1 hx2 rfl (by decide) (.slice A6 n6 c6) _ _ (by simp [go_sem];done) hV2.own (if c'=at_ then some ⟨g,0,none⟩ else some ⟨g,at_*4,none⟩) (s.2.1.length - at_) (c' - at_) (bu (s.2.1.drop at_) (ys.drop at_)) (by simp [go_sem,sliced];done) (by rw [ch _ _ (by simp [hF4.len]),JB]) (fun h0=>⟨g,at_*4,by rw [if_neg (by omega)],gJ (hfmsX.out _ hX) at_ hat⟩) (cL _ _ fun y hy=>dB hF4 y (Ju hy)) (by unfold maxLen;simp;try omega) (by simp;try omega) (by have:=hX.size;omega) ?_
         intro v7 w7 hown7 hg7 hat7;have hdr:=jm (hfmsX.out _ hX) at_;have hV3:=bR hV2 (m:=s.2.1.drop at_) (zs:=ys.drop at_) (by have:=hX.size;omega) (by rw [JB];exact hown7) hg7 hat7 (by simp [hF4.len]) hdr.1 (fun j y b hj hb=>by
          obtain⟨h1,h2,h3,h4⟩:=hdr.2.1 j y b hj hb;have h5:=(hlt4 b (.inr ⟨y,Ju (Jr hj),hb⟩)).2;refine⟨h1,h2,fun h=>?_⟩
          rcases h with h | ⟨z,hz,hzb⟩
          ·have:=hge6 b h
           omega
          ·rcases Js.1 hz with hz | hz
           ·exact h4 at_ (Jz _) z hz hzb
           ·obtain rfl:=Jv.1 hz
            cases hzb) hdr.2.2
         have hf3:∀b,FmS v7 ((ys.take at_++[.slice none 0 0])++ys.drop at_) b→FmS (.slice (some ⟨g,0,none⟩) s.2.1.length c') ys b∨w4.heap.size≤b:=fun b hb=>by
          rcases hb with hb | ⟨z,hz,hzb⟩
          ·rcases hat7 with h | h
           ·exact hf2 b (.inl (hb.symm.trans h).symm)
           ·have e:some b=some (w6.heap.size):=hb.symm.trans h
            have:=Jl e;have:=hX.size;exact .inr (by omega)
          ·rcases Js.1 hz with hz | hz
           ·exact hf2 b (.inr ⟨z,hz,hzb⟩)
           ·exact .inl (.inr ⟨z,Ju hz,hzb⟩)
         have hX:=hX.grown hg7 hX.size (fun k hk=>hge6 k hk);obtain⟨A7,n7,c7,rfl⟩:=ax hV3.own;clear hat7;refine hK.out _ _ ?_ (fun hHeld=>?_)
         ·exact hcells.out _ hX
         clear hK K
         (try simp only [Jm,Ji,Jj,Jk])
         refine wpAnyH_take (i:=21) (oi:=_) (v:=?va21) rfl (by kernel_rfl) (by kernel_rfl) (by kernel_rfl) (fun _ _ _ h=>h) (Jo ⟨by rfl,?ya21⟩) hHeld ?ra21
         case ya21=>(intro w0 hSw;obtain⟨hSw0,hSw1⟩:=hSw;go_simp;try with_reducible rfl)
         (try simp only [Jm,Ji,Jj,Jk])
         refine wpAnyH_take (i:=22) (oi:=_) (v:=?va22) rfl (by kernel_rfl) (by kernel_rfl) (by kernel_rfl) (fun _ _ _ h=>h) (Jo ⟨by rfl,?ya22⟩) hHeld ?ra22
         case ya22=>(intro w0 hSw;obtain⟨hSw0,hSw1⟩:=hSw;go_simp;try with_reducible rfl)
         (try simp only [Jm,Ji,Jj,Jk])
         refine bh (by kernel_rfl) ?_
         have hp7:=(hX.block p hpl4).trans hp4;have g1:=(aa hp7).2.1;have h1:=(aI hp7).2.1;have hp8:(w7.setCell ⟨p,1,none⟩ (.slice A7 n7 c7)).heap[p]?=some (.cells #[.slice A bn c,.slice A7 n7 c7,.int .i64 s.2.2.1,.int .i64 s.2.2.2] 33 (0,0)):=heap_setCell_same _ _ 1 _ _ (.slice A7 n7 c7) hp7;have hV4:=hV3.keep (w':=w7.setCell ⟨p,1,none⟩ (.slice A7 n7 c7)) fun b hb=>heap_setCell_other _ _ _ _ (by
          simp;rintro rfl;exact(hf3 _ hb).elim (fun h=>hnp (.inr h)) fun h=>by omega)
         have eI:dh s.2.1 id=(s.2.1.take at_++[(id,[],false,0)])++s.2.1.drop at_:=by
          unfold dh;rw [if_neg (by simp [hhf]),←hatH.out];simp
         go_simp
         go_wp2
         all_goals (
          go_meet
          case rel=>exact⟨A7,n7,c7,_,hp8,by rw [eI];exact hV4,hf3,fun b hb hne=>(heap_setCell_other _ _ _ _ (by simpa using hne)).trans (hX.block b hb),by simp [Jx];exact hX.size,hX.os,hX.tape,hX.output⟩)
        exact Jp
       exact Jp
      exact Jp
     exact Jp
    exact Jp
  ·go_wp2
   go_meet
   case rel =>
    refine⟨A',s.2.1.length,c',ys,hp4,?_,fun b hb=>.inl hb,fun b _ _=>rfl,Jz _,rfl,rfl,rfl⟩
    rw [dh,if_pos hhf];exact hF4
 case rest =>
  obtain⟨Ac,nc,cc,yc,hpc,hFc,hfc,hkc,hszc,hosc,htapec,houtc⟩:=hcut;obtain⟨Ac',cc',efc⟩:=aW hFc.own;cases efc;have hatL:at_<(dh s.2.1 id).length:=by rw [hatH.out];exact Bl _ _
  obtain⟨g,rfl⟩:=dQ hFc.own (by omega);have hv3':∀b,aH (.slice A3 n3 c3) b→w2.heap.size≤b∧b<w4.heap.size:=fun b hb=>⟨(hv3 b hb).1,dc own34 b hb⟩
  have hv24:∀b,aH (.slice A2 n2 c2) b→W.heap.size≤b∧b<w4.heap.size:=fun b hb=>⟨(hv2' b hb).1,dc own24 b hb⟩
  have own2c:=ba (w':=wc) own24 fun b hb=>hkc b (hv24 b hb).2 (by have:=(hv24 b hb).1;omega)
  have own3c:=ba (w':=wc) own34 fun b hb=>hkc b (hv3' b hb).2 (by have:=(hv3' b hb).1;omega)
  have hpg:∀b,FmS (.slice (some ⟨g,0,none⟩) (dh s.2.1 id).length cc) yc b→b≠p:=fun b hb e=>by
   subst e;rcases hfc b hb with h | h
   ·exact hnp (.inr h)
   ·omega
  have hfn2:∀b,FmS (.slice (some ⟨g,0,none⟩) (dh s.2.1 id).length cc) yc b→b<W.heap.size∨w4.heap.size≤b:=fun b hb=>by
   rcases hfc b hb with h | h
   ·exact .inl (by have:=hltW b h;omega)
   ·exact .inr h
  obtain⟨e0,e1,e2,e3⟩:=aa hpc;obtain⟨f0,f1,f2,f3⟩:=aI hpc;have hpd:(wc.setCell ⟨p,0,none⟩ (.slice A3 n3 c3)).heap[p]?=some (.cells #[.slice A3 n3 c3,.slice (some ⟨g,0,none⟩) (dh s.2.1 id).length cc,.int .i64 s.2.2.1,.int .i64 s.2.2.2] 33 (0,0)):=heap_setCell_same _ _ 0 _ _ (.slice A3 n3 c3) hpc;have hFd:=hFc.keep (w':=wc.setCell ⟨p,0,none⟩ (.slice A3 n3 c3)) fun b hb=>heap_setCell_other _ _ _ _ (by have:=hpg b hb;simp;omega)
  have own2d:=ba (w':=wc.setCell ⟨p,0,none⟩ (.slice A3 n3 c3)) own2c fun b hb=>heap_setCell_other _ _ _ _ (by have:=(hv24 b hb).1;simp;omega)
  have own3d:=ba (w':=wc.setCell ⟨p,0,none⟩ (.slice A3 n3 c3)) own3c fun b hb=>heap_setCell_other _ _ _ _ (by have:=(hv3' b hb).1;simp;omega)
  have Bd:Below B w (wc.setCell ⟨p,0,none⟩ (.slice A3 n3 c3)):=by
   refine Below.setCell ⟨hosc.trans B4.os,htapec.trans B4.tape,houtc.trans B4.output,JF B4.size hszc,fun b hb=>(hkc b (by omega) (by omega)).trans (B4.block b hb)⟩ hpB _
  have hszd:w4.heap.size≤(wc.setCell ⟨p,0,none⟩ (.slice A3 n3 c3)).heap.size:=by simp [Jx];exact hszc
  go_wp2
  generalize wc.setCell ⟨p,0,none⟩ (.slice A3 n3 c3)=wd at *;have hF0:FmsAt wd.drew B (.slice (some ⟨g,0,none⟩) (dh s.2.1 id).length cc) yc (dh s.2.1 id):=hFd.keep fun _ _=>rfl
  have hp0:=Below.some (ac wd) hpd;have own20:=bv.below own2d (ac wd);have own30:=bv.below own3d (ac wd);have Bd0:Below B w wd.drew:=bI Bd (ac wd) (by omega);have hsz0:w4.heap.size≤wd.drew.heap.size:=hszd;generalize hfl:dh s.2.1 id=L at *;obtain⟨y,hy⟩:∃y,yc[at_]?=some y:=⟨yc[at_]'(by rw [hF0.len];exact hatL),Jq _⟩
  have hgx:L[at_]?=some L[at_]:=Jq hatL;obtain⟨f,hf⟩:∃f,f=L[at_]:=⟨_,rfl⟩
  rw [←hf] at hgx;have hrow:=hF0.row at_ _ y hgx hy;obtain⟨Ay,cy,rfl⟩:=cN hrow;rw [JM] at hy hrow;have k1:=aJ hF0.own (j:=at_*4+1) (u:=.slice Ay f.2.1.length cy) (by rw [aN _ _ at_ f _ hgx hy 1 (by omega)];rfl);have hyb:∀b,aH (.slice Ay f.2.1.length cy) b→b≠g∧b≠p∧(b<W.heap.size∨w4.heap.size≤b)∧B≤b:=fun b hb=>⟨fun e=>(hF0.blk at_ _ b hy hb).2 (by rw [e];rfl),hpg b (.inr ⟨_,Jr hy,hb⟩),hfn2 b (.inr ⟨_,Jr hy,hb⟩),(hF0.blk at_ _ b hy hb).1⟩
  have hgp:g≠p:=hpg g (.inl rfl);have hgW:=hfn2 g (.inl rfl);have hgB:=(hF0.lt g (.inl rfl)).1;have hglt:=(hF0.lt g (.inl rfl)).2;have hpi:(at_:Int)<(L.length:Int):=by omega
  have hflen:f.2.1.length≤40:=by
   have:=sq hfm id f (by rw [hfl];exact Jr hgx);exact this
  have hSd:wd.drew.cell? ⟨p,1,none⟩=some (.slice (some ⟨g,0,none⟩) L.length cc)∧wd.drew.cell? ⟨g,at_*4+1,none⟩=some (.slice Ay f.2.1.length cy):=⟨(aa hp0).2.1,k1⟩
  clear hf;refine ce (l:=[_,_,_,_,_,_,_,_,_,_,_,_,_,_,_,_,_]) (o:=_) (S:=fun w'=>w'.cell? ⟨p,1,none⟩=some (.slice (some ⟨g,0,none⟩) L.length cc)∧w'.cell? ⟨g,at_*4+1,none⟩=some (.slice Ay f.2.1.length cy)) (by kernel_rfl) (by kernel_rfl) hSd (fun hHeld=>?_)
  change wpAnyH _ _ _ _ _ 17 (JL 17 false) _ _
  generalize wd.drew=W0 at *;refine wpAnyH_take (i:=0) (oi:=_) (v:=?vb1) rfl (by kernel_rfl) (by kernel_rfl) (by kernel_rfl) (fun _ _ _ h=>h) (Jo ⟨by rfl,?yb1⟩) hHeld ?rb1
  case yb1=>(intro w0 hSw;obtain⟨hSw0,hSw1⟩:=hSw;go_simp;try with_reducible rfl)
  (try simp only [Jm,Ji,Jj,Jk])
  refine wpAnyH_take (i:=1) (oi:=_) (v:=?vb2) rfl (by kernel_rfl) (by kernel_rfl) (by kernel_rfl) (fun _ _ _ h=>h) (Jo ⟨by rfl,?yb2⟩) hHeld ?rb2
  case yb2=>(intro w0 hSw;obtain⟨hSw0,hSw1⟩:=hSw;go_simp;try with_reducible rfl)
  (try simp only [Jm,Ji,Jj,Jk])
  refine wpAnyH_take (i:=2) (oi:=_) (v:=?vb3) rfl (by kernel_rfl) (by kernel_rfl) (by kernel_rfl) (fun _ _ _ h=>h) (Jo ⟨by rfl,?yb3⟩) hHeld ?rb3
  case yb3=>(intro w0 hSw;obtain⟨hSw0,hSw1⟩:=hSw;go_simp;try with_reducible rfl)
  (try simp only [Jm,Ji,Jj,Jk])
  refine wpAnyH_take (i:=3) (oi:=_) (v:=?vb4) rfl (by kernel_rfl) (by kernel_rfl) (by kernel_rfl) (fun _ _ _ h=>h) (Jo ⟨by rfl,?yb4⟩) hHeld ?rb4
  case yb4=>(intro w0 hSw;obtain⟨hSw0,hSw1⟩:=hSw;go_simp;try with_reducible rfl)
  (try simp only [Jm,Ji,Jj,Jk])
  refine wpAnyH_take (i:=4) (oi:=_) (v:=?vb5) rfl (by kernel_rfl) (by kernel_rfl) (by kernel_rfl) (fun _ _ _ h=>h) (Jo ⟨by rfl,?yb5⟩) hHeld ?rb5
  case yb5=>(intro w0 hSw;obtain⟨hSw0,hSw1⟩:=hSw;go_simp;try with_reducible rfl)
  (try simp only [Jm,Ji,Jj,Jk])
  refine wpAnyH_take (i:=5) (oi:=_) (v:=?vb6) rfl (by kernel_rfl) (by kernel_rfl) (by kernel_rfl) (fun _ _ _ h=>h) (Jo ⟨by rfl,?yb6⟩) hHeld ?rb6
  case yb6=>(intro w0 hSw;obtain⟨hSw0,hSw1⟩:=hSw;go_simp;try with_reducible rfl)
  (try simp only [Jm,Ji,Jj,Jk])
  refine wpAnyH_take (i:=6) (oi:=_) (v:=?vb7) rfl (by kernel_rfl) (by kernel_rfl) (by kernel_rfl) (fun _ _ _ h=>h) (Jo ⟨by rfl,?yb7⟩) hHeld ?rb7
  case yb7=>(intro w0 hSw;obtain⟨hSw0,hSw1⟩:=hSw;go_simp;try with_reducible rfl)
  (try simp only [Jm,Ji,Jj,Jk])
  refine wpAnyH_take (i:=7) (oi:=_) (v:=?vb8) rfl (by kernel_rfl) (by kernel_rfl) (by kernel_rfl) (fun _ _ _ h=>h) (Jo ⟨by rfl,?yb8⟩) hHeld ?rb8
  case yb8=>(intro w0 hSw;obtain⟨hSw0,hSw1⟩:=hSw;go_simp;try with_reducible rfl)
  (try simp only [Jm,Ji,Jj,Jk])
  refine wpAnyH_take (i:=8) (oi:=_) (v:=?vb9) rfl (by kernel_rfl) (by kernel_rfl) (by kernel_rfl) (fun _ _ _ h=>h) (Jo ⟨by rfl,?yb9⟩) hHeld ?rb9
  case yb9=>(intro w0 hSw;obtain⟨hSw0,hSw1⟩:=hSw;go_simp;try with_reducible rfl)
  (try simp only [Jm,Ji,Jj,Jk])
  refine wpAnyH_take (i:=9) (oi:=_) (v:=?vb10) rfl (by kernel_rfl) (by kernel_rfl) (by kernel_rfl) (fun _ _ _ h=>h) (Jo ⟨by rfl,?yb10⟩) hHeld ?rb10
  case yb10=>(intro w0 hSw;obtain⟨hSw0,hSw1⟩:=hSw;go_simp;try with_reducible rfl)
  (try simp only [Jm,Ji,Jj,Jk])
  refine wpAnyH_take (i:=10) (oi:=_) (v:=?vb11) rfl (by kernel_rfl) (by kernel_rfl) (by kernel_rfl) (fun _ _ _ h=>h) (Jo ⟨by rfl,?yb11⟩) hHeld ?rb11
  case yb11=>(intro w0 hSw;obtain⟨hSw0,hSw1⟩:=hSw;go_simp;try with_reducible rfl)
  (try simp only [Jm,Ji,Jj,Jk])
  refine wpAnyH_take (i:=11) (oi:=_) (v:=?vb12) rfl (by kernel_rfl) (by kernel_rfl) (by kernel_rfl) (fun _ _ _ h=>h) (Jo ⟨by rfl,?yb12⟩) hHeld ?rb12
  case yb12=>(intro w0 hSw;obtain⟨hSw0,hSw1⟩:=hSw;go_simp;try with_reducible rfl)
  (try simp only [Jm,Ji,Jj,Jk])
  refine wpAnyH_take (i:=12) (oi:=_) (v:=?vb13) rfl (by kernel_rfl) (by kernel_rfl) (by kernel_rfl) (fun _ _ _ h=>h) (Jo ⟨by rfl,?yb13⟩) hHeld ?rb13
  case yb13=>(intro w0 hSw;obtain⟨hSw0,hSw1⟩:=hSw;go_simp;try with_reducible rfl)
  (try simp only [Jm,Ji,Jj,Jk])
  refine wpAnyH_take (i:=13) (oi:=_) (v:=?vb14) rfl (by kernel_rfl) (by kernel_rfl) (by kernel_rfl) (fun _ _ _ h=>h) (Jo ⟨by rfl,?yb14⟩) hHeld ?rb14
  case yb14=>(intro w0 hSw;obtain⟨hSw0,hSw1⟩:=hSw;go_simp;try with_reducible rfl)
  (try simp only [Jm,Ji,Jj,Jk])
  refine wpAnyH_ready (rs:=[14]) (by kernel_rfl) (by simp) ?_
  refine Jn (o:=_) rfl (fun K hK=>?_) ?_
  ·refine nh _ rfl _ _ rfl f.2.1 (bP s.1 u) (.slice Ay f.2.1.length cy) (.slice A2 n2 c2) (by simp [go_sem];done) (by simp [go_sem];done) hrow (eY own20) (by omega) ?_
   intro A5 n5 c5 w5 own5 hv5 hk5;have hp5:=KeptX.some hk5 hp0 (fun h=>(hyb p h).2.1 rfl);refine hK.out _ _ ?_ (fun hHeld=>?_)
   ·exact⟨(aa hp5).2.1,(World.cell?_of_block (hk5.block g hglt (fun h=>(hyb g h).1 rfl))).trans k1⟩
   clear hK K
   (try simp only [Jm,Ji,Jj,Jk])
   refine wpAnyH_take (i:=15) (oi:=_) (v:=?vb15) rfl (by kernel_rfl) (by kernel_rfl) (by kernel_rfl) (fun _ _ _ h=>h) (Jo ⟨by rfl,?yb15⟩) hHeld ?rb15
   case yb15=>(intro w0 hSw;obtain⟨hSw0,hSw1⟩:=hSw;go_simp;try with_reducible rfl)
   (try simp only [Jm,Ji,Jj,Jk])
   refine wpAnyH_take (i:=16) (oi:=_) (v:=?vb16) rfl (by kernel_rfl) (by kernel_rfl) (by kernel_rfl) (fun _ _ _ h=>h) (Jo ⟨by rfl,?yb16⟩) hHeld ?rb16
   case yb16=>(intro w0 hSw;obtain⟨hSw0,hSw1⟩:=hSw;go_simp;try with_reducible rfl)
   (try simp only [Jm,Ji,Jj,Jk])
   refine bh (by kernel_rfl) ?_
   have hown5:=vS hF0.own (w':=w5) fun b hb=>hk5.block b (hF0.lt b (.inl hb)).2 (fun h=>(hyb b h).1 (Jl hb).symm)
   have k15:=aJ hown5 (j:=at_*4+1) (u:=.slice Ay f.2.1.length cy) (by rw [aN _ _ at_ f _ hgx hy 1 (by omega)];rfl);have z15:=bf hown5 (at_*4+1);have hv5':∀b,aH (.slice A5 n5 c5) b→b≠g∧b≠p∧(b<W.heap.size∨w4.heap.size≤b)∧B≤b∧(aH (.slice Ay f.2.1.length cy) b∨W0.heap.size≤b):=fun b hb=>by
    rcases hv5 b hb with h | h
    ·exact⟨(hyb b h).1,(hyb b h).2.1,(hyb b h).2.2.1,(hyb b h).2.2.2,.inl h⟩
    ·exact⟨by omega,by omega,.inr (by omega),by omega,.inr h⟩
   have hw6:∀b,b≠g→(w5.setCell ⟨g,at_*4+1,none⟩ (.slice A5 n5 c5)).heap[b]?=w5.heap[b]?:=fun b hb=>heap_setCell_other _ _ _ _ (by simpa using hb)
   have hF6:=lI (w':=w5.setCell ⟨g,at_*4+1,none⟩ (.slice A5 n5 c5)) (x:=(f.1,f.2.1++bP s.1 u,f.2.2.1,f.2.2.2)) (y:=.slice A5 n5 c5) hF0 hatL (ba own5 fun b hb=>hw6 b (hv5' b hb).1) (fun b hb=>⟨(hv5' b hb).2.2.2.1,(hv5' b hb).1⟩)
    (fun j z hj hz=>by
     cases hb:(Value.slice A5 n5 c5).ownBlock with
     | none=>exact .inl rfl
     | some b =>
      refine .inr fun e=>?_
      rcases(hv5' b hb).2.2.2.2 with h | h
      ·rcases hF0.dis at_ j _ z (fun e=>hj e.symm) hy hz with h2 | h2
       ·rw [aH,h2] at h
        cases h
       ·exact h2 (h.trans e)
      ·have:=(hF0.lt b (.inr ⟨z,Jr hz,e.symm⟩)).2
       omega)
    (fun j z b hj hz hb=>(hw6 b fun e=>(hF0.blk j z b hz hb).2 (by rw [e];rfl)).trans (hk5.block b (hF0.lt b (.inr ⟨z,Jr hz,hb⟩)).2 fun h=>by
     rcases hF0.dis at_ j _ z (fun e=>hj e.symm) hy hz with h2 | h2
     ·rw [aH,h2] at h
      cases h
     ·exact h2 (h.trans hb.symm)))
    (by rw [iT L yc at_ f (f.1,f.2.1++bP s.1 u,f.2.2.1,f.2.2.2) _ _ (.slice A5 n5 c5) 1 (by omega) hgx hy rfl];exact jn hown5 rfl _ _)
   have hp6:=(hw6 p (fun e=>hgp e.symm)).trans hp5;have own36:bv (w5.setCell ⟨g,at_*4+1,none⟩ (.slice A5 n5 c5)) (fun _=>False) (aH (.slice A3 n3 c3)) 4 _ (.slice A3 n3 c3):=ba own30 fun b hb=>by
    have h1:=hv3' b hb;rw [hw6 b (by omega)];exact hk5.block b (by omega) fun h=>by have:=(hyb b h).2.2.1;omega
   have B6:Below B w (w5.setCell ⟨g,at_*4+1,none⟩ (.slice A5 n5 c5)):=(Bd0.trans (hk5.below (fun b hb=>(hyb b hb).2.2.2) (by omega))).setCell hgB _;have hfs6:∀b,FmS (.slice (some ⟨g,0,none⟩) L.length cc) (yc.set at_ (.slice A5 n5 c5)) b→b≠p∧(b<W.heap.size∨w4.heap.size≤b):=fun b hb=>by
    rcases hb with hb | ⟨z,hz,hzb⟩
    ·exact⟨hpg b (.inl hb),hfn2 b (.inl hb)⟩
    ·rcases JA hz with h | rfl
     ·exact⟨hpg b (.inr ⟨z,h,hzb⟩),hfn2 b (.inr ⟨z,h,hzb⟩)⟩
     ·exact⟨(hv5' b hzb).2.1,(hv5' b hzb).2.2.1⟩
   have hbx:ko (w5.setCell ⟨g,at_*4+1,none⟩ (.slice A5 n5 c5)) p B (bj (aL s.1) (-1) s.1 (bP s.1 u),L.set at_ (f.1,f.2.1++bP s.1 u,f.2.2.1,f.2.2.2),s.2.2.1,s.2.2.2) :=
    ⟨_,_,_,_,_,_,_,hp6,⟨rfl,own36,fun b hb=>by have:=(hv3' b hb).1;omega,hF6,fun b hb h=>by have:=hv3' b hb;have:=(hfs6 b h).2;omega⟩,fun h=>h.elim (fun h=>by have:=(hv3' p h).1;omega) fun h=>(hfs6 p h).1 rfl⟩
   have hown6:=hF6.own;rw [JG] at hown6;have k26:=aJ hown6 (j:=at_*4+2) (u:=.bool f.2.2.1) (by rw [aN _ _ at_ (f.1,f.2.1++bP s.1 u,f.2.2.1,f.2.2.2) (.slice A5 n5 c5) (JN hatL) (JN (by rw [hF0.len];exact hatL)) 2 (by omega)];rfl);have x0:=(aa hp6).1;have x1:=(aa hp6).2.1;have eS:vq s id u=(bj (aL s.1) (-1) s.1 (bP s.1 u),L.set at_ (f.1,f.2.1++bP s.1 u,f.2.2.1,f.2.2.2),s.2.2.1,s.2.2.2):=by
    unfold vq zD;rw [hfl,←hatH.out,hgx]
   have eO:iD s id u = !f.2.2.1:=by
    unfold iD sy;rw [hfl,←hatH.out,hgx,hwb,hgo];rfl
   go_simp
   generalize w5.setCell ⟨g,at_*4+1,none⟩ (.slice A5 n5 c5)=w6 at *;clear hfl hatH
   go_wp2
   go_ret
   rw [eS,eO];cases hb:f.2.2.1
   ·rw [hb] at hbx
    exact⟨true,rfl,fun _=>⟨rfl,hbx⟩,(fun h=>by cases h),B6⟩
   ·exact⟨false,rfl,(fun h=>by cases h),(fun _=>rfl),B6⟩
  exact Jp
set_option maxRecDepth 100000
theorem zG (s:Sp) (hs:bH s) (hok:aD s=true) (i:Nat) (hi:i<s.2.1.length) (x:Stp) (hx:dm x=true) (hk:x.1≠1) (w:World) (p B:Nat) (hbox:ko w p B s) (hpB:B≤p) :
  Calls Try.prog 95 #[.pointer (some ⟨p,0,none⟩),.int .i64 i,stV x] w (qU w p B (dk s i x) (fP s i x)):=by
 obtain⟨k,id,u,n⟩:=x;have h:=qO hx;simp only at h hk;rcases h with h | h | h | h | h | h
 ·exact absurd h hk
 ·subst h
  exact Ea s hs hok i hi id u n hx w p B hbox hpB
 ·subst h
  exact Ev s hs hok i hi id u n hx w p B hbox hpB
 ·subst h
  exact El s hs hok i hi id u n hx w p B hbox hpB
 ·subst h
  exact EU s hs hok i hi id u n hx w p B hbox hpB
 ·subst h
  exact EE s hs hok i hi id u n hx w p B hbox hpB
theorem yV {l:List Fm} (h:l.length≤5) (hf:∀f∈l,f.2.1.length≤40) (i:Nat) (f:Fm) (h2:f.2.1.length≤100):Hz (l.set i f):=by
 refine⟨by rw [JG];omega,fun x hx=>?_⟩
 rcases JA hx with h3 | rfl
 ·have:=hf x h3
  omega
 ·omega
theorem xZ (s:Sp) (x:Stp) (hs:bH s) (hok:aD s=true) (hx:dm x=true) (hr:iw s x=true):bH (gN s x):=by
 obtain⟨hfm,hgc,hl5,_⟩:=bp hok;have hfs:∀f∈s.2.1,f.2.1.length≤40:=fun f hf=>by
  obtain⟨j,hj,rfl⟩:=List.getElem_of_mem hf;exact dI (hfm j hj)
 unfold gN;unfold iw at hr;by_cases h1:x.1=1
 ·rw [if_pos h1] at hr ⊢
  unfold iD at hr;simp only [JC] at hr;have hw:=(iI hgc hr.1.1).1;have hu:=rW hx h1;refine⟨mo hs.1 (eH _ _ _ _),?_⟩
  have hil:(dh s.2.1 x.2.1).length≤6:=by
   unfold dh;split
   ·omega
   ·have:=yq s.2.1 x.2.1
    simp;omega
  show Hz (zD (dh s.2.1 x.2.1) (atF s.2.1 x.2.1) (bP s.1 x.2.2.1))
  unfold zD;split
  ·rename_i f hf
   have h40:=sq hfm x.2.1 f (Jr hf);refine⟨by rw [JG];omega,fun y hy=>?_⟩
   rcases JA hy with h3 | rfl
   ·have:=sq hfm x.2.1 y h3
    omega
   ·simp only [JP]
    omega
  ·exact⟨by omega,fun y hy=>by have:=sq hfm x.2.1 y hy;omega⟩
 ·rw [if_neg h1]
  unfold fP;split
  ·exact hs
  ·rename_i f hf
   have h40:=hfs f (Jr hf);split
   ·exact⟨hs.1,yV hl5 hfs _ _ (by show f.2.1.length≤100;omega)⟩
   split
   ·exact⟨hs.1,yV hl5 hfs _ _ (by show f.2.1.length≤100;omega)⟩
   split
   ·exact⟨hs.1,yV hl5 hfs _ _ (by show f.2.1.length≤100;omega)⟩
   split
   ·exact⟨hs.1,yV hl5 hfs _ _ (by show(f.2.1.take _).length≤100;rw [Jy];omega)⟩
   ·refine⟨mo hs.1 (eH _ _ _ _),?_,fun y hy=>?_⟩
    ·simp
     omega
    ·rcases Js.1 hy with h | h
     ·have:=hfs y (Jt h)
      omega
     ·have:=hfs y (Ju h)
      omega
theorem wh {s:Sp} {x:Stp} (h:fe s x=false):stS s x=([],[],0,0):=by simp [stS,h]
theorem vI {s:Sp} {x:Stp} (h:fe s x=true):stS s x=gN s x:=by simp [stS,h]
set_option maxRecDepth 100000
theorem HL {s:Sp} {x:Stp} (hs:bH s) (hok:aD s=true) (h:fe s x=true):bH (stS s x)∧aD (stS s x)=true:=by
 rw [vI h];unfold fe at h;simp only [JC] at h;exact⟨xZ s x hs hok h.1.1 h.1.2,h.2⟩
def zBx:Bx:=(⟨#[]⟩,0,0,0)
def qr (x:Bx) (n:Int):Bx:=(x.1,x.2.1,x.2.2.1,n)
def up5 (a:Cur × List Bx) (i:Nat):Cur × List Bx:=((on a.1 2).2,if (on a.1 2).1=true then a.2.set i (qr (a.2.getD i zBx) (IntKind.i64.wrap ((a.2.getD i zBx).2.2.2+5))) else a.2)
def ups (c:Cur) (l:List Bx) (n:Nat):Cur × List Bx:=(List.range n).foldl up5 (c,l)
theorem Ap (c:Cur) (l:List Bx) (n:Nat):ups c l (n+1)=up5 (ups c l n) n:=by
 unfold ups;rw [List.range_succ,List.foldl_append];rfl
structure SameB (l m:List Bx):Prop where
 len:m.length=l.length
 row:∀(i:Nat) (h:i<l.length),(m[i]'(by omega)).1=l[i].1∧(m[i]'(by omega)).2.1=l[i].2.1∧(m[i]'(by omega)).2.2.1=l[i].2.2.1∧0≤(m[i]'(by omega)).2.2.2∧(m[i]'(by omega)).2.2.2≤25
theorem SameB.good {l m:List Bx} (h:SameB l m) (hg:bg l=true):bg m=true:=by
 obtain⟨h1,h2,h3,h4,h5⟩:=lS.1 hg;have hl:=h.len;refine lS.2 ⟨fun i hi=>?_,fun i hi h0=>?_,fun i j hi hj=>?_,by omega,by omega⟩
 ·obtain⟨a,b,c,d,e⟩:=h.row i (by omega)
  have:=h1 i (by omega);simp only [po,JC,decide_eq_true_eq] at this ⊢;rw [a,b,c];exact⟨this.1,d,by omega⟩
 ·rw [(h.row i (by omega)).1,(h.row (i - 1) (by omega)).1]
  exact h2 i (by omega) h0
 ·have:=h3 i j (by omega) hj
  obtain⟨_,b,c,_⟩:=h.row i (by omega);obtain⟨_,b',c',_⟩:=h.row j (by omega);unfold gc at this ⊢;rw [b,c,b',c'];exact this
theorem Bo {c:Cur} {l:List Bx} {B:Nat} (h:c.ok B) (hB:B≤1000000000) (hl:∀x∈l,0≤x.2.2.2∧x.2.2.2≤20):∀n,n≤l.length→n≤100→(ups c l n).1.ok (B+2*n)∧SameB l (ups c l n).2∧∀(i:Nat) (hi:i<l.length),n≤i→(ups c l n).2[i]?=some l[i]
 | 0,_,_=>⟨h,⟨rfl,fun i hi=>⟨rfl,rfl,rfl,(hl _ (JH hi)).1,by
   show l[i].2.2.2≤25
   have:=(hl _ (JH hi)).2;omega⟩⟩,fun i hi _=>by simp [ups,hi]⟩
 | n+1,hn,hn1=>by
  obtain⟨h1,h2,h3⟩:=Bo h hB hl n (by omega) (by omega);have hlen:=h2.len;have hk:=(Dy (n:=2) h1 (by omega) (by omega)).2;rw [Ap];refine⟨hk.mono (by omega),?_,fun i hi hni=>?_⟩
  ·unfold up5
   simp only;split
   ·refine⟨by rw [JG];exact hlen,fun i hi=>?_⟩
    have hx:=h3 n (by omega) (Jz _);have hx2:=hl _ (JH (show n<l.length by omega));by_cases hin:n=i
    ·subst hin
     have hg:(ups c l n).2.getD n zBx=l[n]:=by rw [JJ,hx];rfl
     simp only [List.getElem_set_self,qr];rw [hg,ay (by omega) (by omega)];exact⟨rfl,rfl,rfl,by omega,by omega⟩
    ·simp only [List.getElem_set_ne hin]
     exact h2.row i hi
   ·exact h2
  ·unfold up5
   simp only;split
   ·rw [List.getElem?_set_ne (by omega)]
    exact h3 i hi (by omega)
   ·exact h3 i hi (by omega)
def doF (a:Cur × Sp):Cur × Sp:=((sst a.1).2,if fe a.2 (sst a.1).1=true then stS a.2 (sst a.1).1 else a.2)
def doN:Nat→Cur × Sp→Cur × Sp
 | 0,a=>a
 | n+1,a=>doN n (doF a)
theorem EN {a:Cur × Sp} {B:Nat} (h:a.1.ok B) (hB:B≤800000000) (hs:bH a.2∧aD a.2=true):(doF a).1.ok (B+100)∧bH (doF a).2∧aD (doF a).2=true:=by
 refine⟨(BJ h hB).2.2,?_⟩
 unfold doF;simp only;split
 ·rename_i hst
  exact HL hs.1 hs.2 hst
 ·exact hs
theorem EC:∀(n:Nat) {a:Cur × Sp} {B:Nat},a.1.ok B→B+100*n≤800000000→bH a.2∧aD a.2=true→(doN n a).1.ok (B+100*n)∧bH (doN n a).2∧aD (doN n a).2=true
 | 0,a,B,h,_,hs=>⟨h,hs⟩
 | n+1,a,B,h,hB,hs=>by
  obtain⟨h1,h2⟩:=EN h (by omega) hs;obtain⟨g1,g2⟩:=EC n h1 (by omega) h2;exact⟨g1.mono (by omega),g2⟩
def pad:Nat→List Fm→List Fm
 | 0,l=>l
 | m+1,l=>pad m (l++[(((10+l.length:Nat):Int),[],false,0)])
theorem Co:∀(m:Nat) (l:List Fm),(pad m l).length=l.length+m
 | 0,l=>rfl
 | m+1,l=>by
  rw [pad,Co m];simp;omega
theorem Cn:∀(m:Nat) (l:List Fm) (x:Fm),x∈pad m l→x∈l∨x.2.1=[]
 | 0,l,x,h=>.inl h
 | m+1,l,x,h=>by
  rcases Cn m _ x h with h | h
  ·rcases Js.1 h with h | h
   ·exact .inl h
   ·simp at h
    subst h;exact .inr rfl
  ·exact .inr h
def fin (k:Int × Cur) (s:Sp):Cur × Sp :=
 if k.1=0 then((am k.2 [9999,10000,-1]).2,s.1,s.2.1,(am k.2 [9999,10000,-1]).1,s.2.2.2)
 else if k.1=1 then((am k.2 [1000000,1000001,-1]).2,s.1,s.2.1,s.2.2.1,(am k.2 [1000000,1000001,-1]).1)
 else if k.1=2 then((am k.2 [9999,10000,-1]).2,s.1.set 0 (qr (s.1.getD 0 zBx) (am k.2 [9999,10000,-1]).1),s.2.1,s.2.2.1,s.2.2.2)
 else if k.1=3 then((on (am k.2 [99,1]).2 2).2,s.1,s.2.1++[((am k.2 [99,1]).1,[],(on (am k.2 [99,1]).2 2).1,0)],s.2.2.1,s.2.2.2)
 else if k.1=4 then((pk k.2 2).2,s.1,pad ((5+(pk k.2 2).1).toNat - s.2.1.length) s.2.1,s.2.2.1,s.2.2.2)
 else if k.1=5 then((am (pk k.2 2).2 [0,100000,100001]).2,s.1,[(1,List.replicate (40+(pk k.2 2).1).toNat (s.1.getD 0 zBx).1,false,(am (pk k.2 2).2 [0,100000,100001]).1)],s.2.2.1,200000)
 else(k.2,s)
theorem gB {s:Sp} (hok:aD s=true):(1≤s.1.length∧s.1.length≤32∧∀x∈s.1,x.1.size≤3)∧s.2.1.length≤5∧∀x∈s.2.1,x.2.1.length≤40:=by
 simp only [aD,JC,decide_eq_true_eq] at hok;obtain⟨⟨⟨⟨h1,h2⟩,h3⟩,h4⟩,h5⟩:=hok;obtain⟨g1,g2,g3,g4,g5⟩:=lS.1 h2;refine⟨⟨g4,g5,fun x hx=>?_⟩,by omega,fun x hx=>?_⟩
 ·obtain⟨i,hi,rfl⟩:=JO.1 hx
  have:=g1 i hi;simp only [po,cZ,JC,decide_eq_true_eq] at this;omega
 ·obtain⟨i,hi,rfl⟩:=JO.1 hx
  have:=uj h1 i hi;rw [Nat.zero_add] at this;simp only [pS,fY,JC,Bool.not_eq_true',decide_eq_false_iff_not,decide_eq_true_eq] at this;omega
theorem lL {s:Sp} (h:(s.1.length≤32∧∀x∈s.1,x.1.size≤3)∧s.2.1.length≤10∧∀x∈s.2.1,x.2.1.length≤41):bH s :=
 ⟨⟨by omega,fun x hx=>by have:=h.1.2 x hx;omega⟩,by omega,fun x hx=>by have:=h.2.2 x hx;omega⟩
theorem Hm {k:Int × Cur} {s:Sp} {B:Nat} (h:k.2.ok B) (hB:B≤1000000) (hok:aD s=true):(fin k s).1.ok (B+4)∧(((fin k s).2.1.length≤32∧∀x∈(fin k s).2.1,x.1.size≤3)∧(fin k s).2.2.1.length≤10∧∀x∈(fin k s).2.2.1,x.2.1.length≤41):=by
 obtain⟨⟨s0,s1,s2⟩,s3,s4⟩:=gB hok;have s4':∀x∈s.2.1,x.2.1.length≤41:=fun x hx=>by have:=s4 x hx;omega
 unfold fin;split
 ·exact⟨((wg (l:=[9999,10000,-1]) h (by omega) (by simp) (by simp)).2.2).mono (by omega),⟨s1,s2⟩,by show s.2.1.length≤10;omega,s4'⟩
 split
 ·exact⟨((wg (l:=[1000000,1000001,-1]) h (by omega) (by simp) (by simp)).2.2).mono (by omega),⟨s1,s2⟩,by show s.2.1.length≤10;omega,s4'⟩
 split
 ·refine⟨((wg (l:=[9999,10000,-1]) h (by omega) (by simp) (by simp)).2.2).mono (by omega),⟨by rw [JG];exact s1,fun x hx=>?_⟩,by show s.2.1.length≤10;omega,s4'⟩
  rcases JA hx with hx | rfl
  ·exact s2 x hx
  ·show(s.1.getD 0 zBx).1.size≤3
   rw [JJ,Jq (by omega)];exact s2 _ (JH _)
 split
 ·have h1:=(wg (l:=[99,1]) h (by omega) (by simp) (by simp)).2.2
  refine⟨((Dy (n:=2) h1 (by omega) (by omega)).2).mono (by omega),⟨s1,s2⟩,by rw [JP];simp;omega,fun x hx=>?_⟩
  rcases Js.1 hx with hx | hx
  ·exact s4' x hx
  ·simp at hx
   subst hx;simp
 split
 ·obtain⟨_,g1,g2,g3⟩:=sx (n:=2) h (by omega) (by omega)
  refine⟨g3.mono (by omega),⟨s1,s2⟩,by rw [Co];omega,fun x hx=>?_⟩
  rcases Cn _ _ _ hx with hx | hx
  ·exact s4' x hx
  ·rw [hx]
   simp
 split
 ·obtain⟨_,g1,g2,g3⟩:=sx (n:=2) h (by omega) (by omega)
  refine⟨((wg (l:=[0,100000,100001]) g3 (by omega) (by simp) (by simp)).2.2).mono (by omega),⟨s1,s2⟩,by simp,fun x hx=>?_⟩
  simp at hx;subst hx;simp only [List.length_replicate];omega
 ·exact⟨h.mono (by omega),⟨s1,s2⟩,by show s.2.1.length≤10;omega,s4'⟩
theorem GY {l:List Bx} (h:bg l=true):aD (l,[],0,0)=true:=by
 simp [aD,dq,lj,h]
def sh1 (c:Cur):Cur × List Bx:=ups (bo (fo c).2 (fo c).1).2 (bo (fo c).2 (fo c).1).1 (bo (fo c).2 (fo c).1).1.length
def sh2 (c:Cur):Cur × Sp:=doN (pk (sh1 c).1 12).1.toNat ((pk (sh1 c).1 12).2,(sh1 c).2,[],0,0)
def sh (c:Cur):Cur × Sp:=fin (pk (sh2 c).1 30) (sh2 c).2
theorem FC {c:Cur} {B:Nat} (h:c.ok B) (hB:B≤100000):(bo (fo c).2 (fo c).1).2.ok (B+200)∧(bo (fo c).2 (fo c).1).1.length≤12∧(∀x∈(bo (fo c).2 (fo c).1).1,0≤x.2.2.2∧x.2.2.2≤20)∧(sh1 c).1.ok (B+224)∧bg (sh1 c).2=true:=by
 obtain⟨_,h2,h3,h4⟩:=FD h (by omega);obtain⟨_,g2,g3,g4,g5⟩:=En h4 (by omega) h2 h3;obtain⟨k1,k2,_⟩:=Bo (l:=(bo (fo c).2 (fo c).1).1) g5 (by omega) g4 _ (Jz _) (by omega);exact⟨g5.mono (by omega),g3,g4,k1.mono (by omega),k2.good g2⟩
theorem HG {c:Cur} {B:Nat} (h:c.ok B) (hB:B≤100000):(sh2 c).1.ok (B+1400)∧bH (sh2 c).2∧aD (sh2 c).2=true:=by
 obtain⟨_,_,_,h4,h5⟩:=FC h hB;obtain⟨_,g1,g2,g3⟩:=sx (n:=12) h4 (by omega) (by omega);have hok:=GY h5;obtain⟨⟨t1,t2,t3⟩,_⟩:=gB hok;obtain⟨k1,k2⟩:=EC (pk (sh1 c).1 12).1.toNat (a:=((pk (sh1 c).1 12).2,(sh1 c).2,[],0,0)) g3 (by omega) ⟨lL ⟨⟨t2,t3⟩,by simp,by simp⟩,hok⟩;exact⟨k1.mono (by omega),k2⟩
theorem Ij {c:Cur} {B:Nat} (h:c.ok B) (hB:B≤100000):(sh c).1.ok (B+1500)∧bH (sh c).2:=by
 obtain⟨h1,h2,h3⟩:=HG h hB;obtain⟨_,_,_,g3⟩:=sx (n:=30) h1 (by omega) (by omega);obtain⟨k1,k2⟩:=Hm g3 (by omega) h3;exact⟨k1.mono (by omega),lL k2⟩
set_option maxRecDepth 100000
def Il (s:Sp) (x:Stp) (w wc:World) (p:Nat) (t:Value):Prop:=∃ok:Bool,t = .bool ok∧(ok=true→iw s x=true∧ko wc p (w.heap.size+3) (gN s x))∧(ok=false→(iw s x&&aD (gN s x))=false) ∧
 wc.heap[w.heap.size+2]?=some (.cells #[.slice none 0 0,.slice none 0 0,.int .i64 0,.int .i64 0] 33 (0,0))∧Below w.heap.size w wc∧w.heap.size+3≤p∧p<wc.heap.size
set_option maxHeartbeats 8000000 in
set_option maxRecDepth 1000000 in
theorem xd (s:Sp) (hs:bH s) (hok:aD s=true) (x:Stp) (hx:dm x=true) (v0:Value) (w:World) (F:Nat→Prop) (hr:aU w F (sp s) v0) (hF:∀b,F b→b<w.heap.size) :
  Calls Try.prog 56 #[v0,stV x] w fun e w'=>∃v,e = .returned (.tuple #[v,.bool (fe s x)])∧nj w' w.heap.size v (stS s x)∧Below w.heap.size w w':=by
 obtain⟨A,n,c,A',n',c',rfl,hb,hf⟩:=fK hr
 go_enter Try.func56,Try.ntmps56
 have hb3:∀a b c,Below w.heap.size w (((w.alloc a).alloc b).alloc c):=fun a b c=>(((JK _ w).alloc (Jz _) _).alloc (by simp) _).alloc (by simp;omega) _
 have hc1:=fun a b c=>nH s hs _ (((w.alloc a).alloc b).alloc c) F (aS (fun _ h=>h) (fun i hi=>(hb3 a b c).block i (hF i hi)) hr) (fun i hi=>Jw (hF i hi) (hb3 a b c).size)
 go_wp2_with (go_at_call 50;refine(hc1 _ _ _).mono ?_)
 rintro e w3 ⟨v3,rfl,⟨Vb,Vf,ys,sa⟩,b3⟩;obtain rfl:=sa.val;obtain⟨bA,bn,bc,rfl⟩:=bB sa.box;obtain⟨fA,fc,rfl⟩:=aW sa.fms.own;have H3:w3.heap[w.heap.size+1]?=some (.cells #[.int .i64 x.1,.int .i64 x.2.1,.string x.2.2.1,.int .i64 x.2.2.2] 46 (0,0)):=Below.some b3 (ah _ (ae _ (by simp)));have H4:w3.heap[w.heap.size+2]?=some (.cells #[.slice none 0 0,.slice none 0 0,.int .i64 0,.int .i64 0] 33 (0,0)):=Below.some b3 (ae _ (by simp));have B3:Below w.heap.size w w3:=bI (hb3 _ _ _) b3 (by simp;omega);have hl4:=bd H4;have hlt:=sa.lt;have sa':=sa.below (au w3 (.cells #[.slice bA bn bc,.slice fA s.2.1.length fc,.int .i64 s.2.2.1,.int .i64 s.2.2.2] 33));have hbox:ko (w3.alloc (.cells #[.slice bA bn bc,.slice fA s.2.1.length fc,.int .i64 s.2.2.1,.int .i64 s.2.2.2] 33)) w3.heap.size (w.heap.size+3) s :=
  ⟨_,_,_,_,_,_,_,ae _ rfl,⟨rfl,sa'.box,fun b hb=>by have:=(hlt b (.inl hb)).1;simp at this;omega,sa'.fms.base (by simp<;>omega),sa'.dis⟩,fun h=>by have:=(hlt _ h).2;omega⟩
 have HP:(w3.alloc (.cells #[.slice bA bn bc,.slice fA s.2.1.length fc,.int .i64 s.2.2.1,.int .i64 s.2.2.2] 33)).heap[w3.heap.size]?=_:=ae _ rfl;have H3':=ah (.cells #[.slice bA bn bc,.slice fA s.2.1.length fc,.int .i64 s.2.2.1,.int .i64 s.2.2.2] 33) H3;have H4':=ah (.cells #[.slice bA bn bc,.slice fA s.2.1.length fc,.int .i64 s.2.2.1,.int .i64 s.2.2.2] 33) H4;have B4:Below w.heap.size w (w3.alloc (.cells #[.slice bA bn bc,.slice fA s.2.1.length fc,.int .i64 s.2.2.1,.int .i64 s.2.2.2] 33)):=B3.alloc B3.size _;have hsz:w3.heap.size<(w3.alloc (.cells #[.slice bA bn bc,.slice fA s.2.1.length fc,.int .i64 s.2.2.1,.int .i64 s.2.2.2] 33)).heap.size:=by simp
 obtain⟨q0,q1,q2,q3⟩:=aa H3';obtain⟨p0,p1,p2,p3⟩:=aa HP;clear hc1 b3 sa hb3
 go_upto_if 14 with fail
 generalize w3.alloc (.cells #[.slice bA bn bc,.slice fA s.2.1.length fc,.int .i64 s.2.2.1,.int .i64 s.2.2.2] 33)=W at *
 go_cut [7] from 8 (fun t7 wc=>Il s x w wc w3.heap.size t7)
 case first =>
  by_cases h1:x.1=1
  ·obtain⟨k,id,u,m⟩:=x
   simp only at h1;subst h1;have hc:=Bn s hs hok id u m hx W w3.heap.size (w.heap.size+3) hbox (by omega)
   go_wp2_with (go_at_call 93;refine hc.mono ?_)
   intro e w5 hout;obtain⟨ok,rfl,h2,h3,h4⟩:=hout
   go_wp2
   go_meet
   case rel =>
    exact⟨ok,rfl,h2,h3,(h4.block _ (by omega)).trans H4',B4.trans (h4.mono (by omega)),by omega,Jw hsz h4.size⟩
  ·have hc:=rS s x.2.1 hs sa'.rep (fun b hb=>(sa'.lt b hb).2)
   go_wp2_with (go_at_call 94;refine hc.mono ?_)
   rintro e w5 ⟨rfl,b5⟩;have hbox5:=hbox.below b5;have H35:=Below.some b5 H3';have H45:=Below.some b5 H4';have B5:=bI B4 b5 B4.size;have hsz5:=Jw hsz b5.size;cases hh:fx s.2.1 x.2.1
   ·go_wp2
    go_meet
    case rel =>
     exact⟨false,rfl,(fun h=>by cases h),(fun _=>by simp [iw,h1,hh]),H45,B5,by omega,hsz5⟩
   ·obtain⟨hi,_⟩:=jW hh
    have hc2:=zG s hs hok _ hi x hx h1 w5 w3.heap.size (w.heap.size+3) hbox5 (by omega);obtain⟨r0,r1,r2,r3⟩:=aa H35
    go_wp2_with (go_at_call 95;refine hc2.mono ?_)
    intro e w6 hout;obtain⟨ok,rfl,h2,h3,h4⟩:=hout;have eS:gN s x=fP s (atF s.2.1 x.2.1) x:=by simp [gN,h1]
    have eO:iw s x=dk s (atF s.2.1 x.2.1) x:=by simp [iw,h1,hh]
    go_wp2
    go_meet
    case rel =>
     refine⟨ok,rfl,?_,?_,(h4.block _ (by omega)).trans H45,B5.trans (h4.mono (by omega)),by omega,Jw hsz5 h4.size⟩
     ·rw [eS,eO]
      exact h2
     ·rw [eS,eO]
      exact h3
 case rest =>
  obtain⟨ok,rfl,hyes,hnol,H4c,Bc,hpp,hpl⟩:=hcut;obtain⟨e0,e1,e2,e3⟩:=aa H4c;obtain⟨g0,g1,g2,g3⟩:=aI H4c;cases ok
  ·have hno:fe s x=false:=by
    unfold fe;rw [Bool.and_assoc,hnol rfl,Bool.and_false]
   go_wp2
   obtain⟨d0,d1,d2,d3⟩:=aa (aF (.slice none 0 0) (.slice none 0 0) (.int .i64 0) (.int .i64 0) H4c);refine bodyPost_ret (by simp [results,Try.results56,go_sem,d0,d1,d2,d3];try rfl) rfl ?_
   (try rw [hno])
   (try rw [wh hno])
   exact⟨_,rfl,dM _ _,bt _ _ _ _ Bc (by omega)⟩
  ·obtain⟨hro,A1,m1,c1,A2,m2,c2,zs,hpc,hSc,hnp⟩:=hyes rfl
   have hrk:=xZ s x hs hok hx hro;have hc:=nY (gN s x) hrk hSc.rep (fun b hb=>(hSc.lt b hb).2);obtain⟨s0,s1,s2,s3⟩:=aa hpc;cases hsk:aD (gN s x)
   ·have hno:fe s x=false:=by simp [fe,hsk]
    rw [hsk] at hc
    go_wp2_with (go_at_call 34;refine hc.mono ?_;rintro e w7 ⟨rfl,b7⟩;have H47:=Below.some b7 H4c;have B7:=bI Bc b7 Bc.size;have i0:=(aa H47).1;have i1:=(aa H47).2.1;have i2:=(aa H47).2.2.1;have i3:=(aa H47).2.2.2;have j0:=(aI H47).1;have j1:=(aI H47).2.1;have j2:=(aI H47).2.2.1;have j3:=(aI H47).2.2.2)
    obtain⟨d0,d1,d2,d3⟩:=aa (aF (.slice none 0 0) (.slice none 0 0) (.int .i64 0) (.int .i64 0) H47);refine bodyPost_ret (by simp [results,Try.results56,go_sem,d0,d1,d2,d3];try rfl) rfl ?_
    (try rw [hno])
    (try rw [wh hno])
    exact⟨_,rfl,dM _ _,bt _ _ _ _ B7 (by omega)⟩
   ·have hy:fe s x=true:=by simp [fe,hx,hro,hsk]
    rw [hsk] at hc
    go_wp2_with (go_at_call 34;refine hc.mono ?_;rintro e w7 ⟨rfl,b7⟩;have H47:=Below.some b7 H4c;have hp7:=Below.some b7 hpc;have hS7:=hSc.below b7;have B7:=bI Bc b7 Bc.size;have i0:=(aa H47).1;have i1:=(aa H47).2.1;have i2:=(aa H47).2.2.1;have i3:=(aa H47).2.2.2;have j0:=(aI H47).1;have j1:=(aI H47).2.1;have j2:=(aI H47).2.2.1;have j3:=(aI H47).2.2.2;have k0:=(aa hp7).1;have k1:=(aa hp7).2.1;have k2:=(aa hp7).2.2.1;have k3:=(aa hp7).2.2.2)
    obtain⟨d0,d1,d2,d3⟩:=aa (aF (.slice A1 m1 c1) (.slice A2 m2 c2) (.int .i64 (gN s x).2.2.1) (.int .i64 (gN s x).2.2.2) H47);refine bodyPost_ret (by simp [results,Try.results56,go_sem,d0,d1,d2,d3];try rfl) rfl ?_
    (try rw [hy])
    (try rw [vI hy])
    have hS8:=hS7.set4 (g:=w.heap.size+2) (.slice A1 m1 c1) (.slice A2 m2 c2) (.int .i64 (gN s x).2.2.1) (.int .i64 (gN s x).2.2.2) fun b hb=>by have:=(hS7.lt b hb).1;omega
    exact⟨_,rfl,⟨_,_,_,hS8.val,hS8.box,fun b hb=>by have:=hS8.bge b hb;omega,hS8.fms.base (by omega),hS8.dis⟩,bt _ _ _ _ B7 (by omega)⟩
set_option maxRecDepth 100000
def dE (s:Sp) (x:Stp):Bool:=aD s&&fe s x
def eD (s:Sp) (x:Stp):Sp:=if aD s=true then stS s x else([],[],0,0)
theorem yI {s:Sp} {x:Stp} (h:dE s x=false):eD s x=([],[],0,0):=by
 unfold dE at h;unfold eD;cases hs:aD s
 ·simp
 ·rw [hs] at h
  simp [wh (by simpa using h)]
set_option maxHeartbeats 8000000 in
set_option maxRecDepth 1000000 in
theorem qb (s:Sp) (hs:bH s) (x:Stp) (hx:x.2.2.1.size≤9223372036854775807) (v0:Value) (w:World) (F:Nat→Prop) (hr:aU w F (sp s) v0) (hF:∀b,F b→b<w.heap.size) :
  Calls Try.prog 23 #[v0,stV x] w fun e w'=>∃v,e = .returned (.tuple #[v,.bool (dE s x)])∧nj w' w.heap.size v (eD s x)∧Below w.heap.size w w':=by
 obtain⟨A,n,c,A',n',c',rfl,hb,hf⟩:=fK hr;clear hb hf
 go_enter Try.func23,Try.ntmps23
 have hb3:∀a b c,Below w.heap.size w (((w.alloc a).alloc b).alloc c):=fun a b c=>(((JK _ w).alloc (Jz _) _).alloc (by simp) _).alloc (by simp;omega) _
 have rep:∀{W:World},Below w.heap.size w W→aU W F (sp s) (.agg #[.slice A n c,.slice A' n' c',.int .i64 s.2.2.1,.int .i64 s.2.2.2]):=fun {W} h=>aS (fun _ h=>h) (fun b hb=>h.block b (hF b hb)) hr
 have hFW:∀{W:World},Below w.heap.size w W→∀b,F b→b<W.heap.size:=fun {W} h b hb=>Jw (hF b hb) h.size
 have hc1:=fun a b c=>nY s hs (rep (hb3 a b c)) (hFW (hb3 a b c))
 have hc2:=fun(W:World)=>uh x hx (w:=W)
 cases hok:aD s
 ·have hno:dE s x=false:=by simp [dE,hok]
  rw [hok] at hc1
  go_wp2_with (go_at_call 34;refine(hc1 _ _ _).mono ?_;rintro e w2 ⟨rfl,b2⟩;have B2:Below w.heap.size w w2:=bI (hb3 _ _ _) b2 (by simp;omega);have H2:w2.heap[w.heap.size+2]?=some (.cells #[.slice none 0 0,.slice none 0 0,.int .i64 0,.int .i64 0] 33 (0,0)):=Below.some b2 (ae _ (by simp));have i0:=(aa H2).1;have i1:=(aa H2).2.1;have i2:=(aa H2).2.2.1;have i3:=(aa H2).2.2.2;have j0:=(aI H2).1;have j1:=(aI H2).2.1;have j2:=(aI H2).2.2.1;have j3:=(aI H2).2.2.2)
  obtain⟨d0,d1,d2,d3⟩:=aa (aF (.slice none 0 0) (.slice none 0 0) (.int .i64 0) (.int .i64 0) H2);refine bodyPost_ret (by simp [results,Try.results23,go_sem,d0,d1,d2,d3];try rfl) rfl ?_
  (try rw [hno])
  (try rw [yI hno])
  exact⟨_,rfl,dM _ _,bt _ _ _ _ B2 (by omega)⟩
 ·rw [hok] at hc1
  cases hst:dm x
  ·have hno:dE s x=false:=by simp [dE,fe,hst]
   rw [hst] at hc2
   go_wp2_with (first
    | (go_at_call 34;refine(hc1 _ _ _).mono ?_;rintro e w2 ⟨rfl,b2⟩;have B2:Below w.heap.size w w2:=bI (hb3 _ _ _) b2 (by simp;omega);have H2:w2.heap[w.heap.size+2]?=some (.cells #[.slice none 0 0,.slice none 0 0,.int .i64 0,.int .i64 0] 33 (0,0)):=Below.some b2 (ae _ (by simp));have H1:w2.heap[w.heap.size+1]?=some (.cells #[.int .i64 x.1,.int .i64 x.2.1,.string x.2.2.1,.int .i64 x.2.2.2] 46 (0,0)):=Below.some b2 (ah _ (ae _ (by simp)));have i0:=(aa H1).1;have i1:=(aa H1).2.1;have i2:=(aa H1).2.2.1;have i3:=(aa H1).2.2.2)
    | (go_at_call 55;refine(hc2 _).mono ?_;rintro e w3 ⟨rfl,b3⟩;have B3:=bI B2 b3 B2.size;have H3:=Below.some b3 H2;have i4:=(aa H3).1;have i5:=(aa H3).2.1;have i6:=(aa H3).2.2.1;have i7:=(aa H3).2.2.2;have j0:=(aI H3).1;have j1:=(aI H3).2.1;have j2:=(aI H3).2.2.1;have j3:=(aI H3).2.2.2))
   obtain⟨d0,d1,d2,d3⟩:=aa (aF (.slice none 0 0) (.slice none 0 0) (.int .i64 0) (.int .i64 0) H3);refine bodyPost_ret (by simp [results,Try.results23,go_sem,d0,d1,d2,d3];try rfl) rfl ?_
   (try rw [hno])
   (try rw [yI hno])
   exact⟨_,rfl,dM _ _,bt _ _ _ _ B3 (by omega)⟩
  ·have hyB:dE s x=fe s x:=by simp [dE,hok]
   have hyS:eD s x=stS s x:=by simp [eD,hok]
   rw [hst] at hc2;have hc3:=fun(W:World) (h:Below w.heap.size w W)=>xd s hs hok x hst _ W F (rep h) (hFW h)
   go_wp2_with (first
    | (go_at_call 34;refine(hc1 _ _ _).mono ?_;rintro e w2 ⟨rfl,b2⟩;have B2:Below w.heap.size w w2:=bI (hb3 _ _ _) b2 (by simp;omega);have H2:w2.heap[w.heap.size+2]?=some (.cells #[.slice none 0 0,.slice none 0 0,.int .i64 0,.int .i64 0] 33 (0,0)):=Below.some b2 (ae _ (by simp));have H1:w2.heap[w.heap.size+1]?=some (.cells #[.int .i64 x.1,.int .i64 x.2.1,.string x.2.2.1,.int .i64 x.2.2.2] 46 (0,0)):=Below.some b2 (ah _ (ae _ (by simp)));have H0:w2.heap[w.heap.size]?=some (.cells #[.slice A n c,.slice A' n' c',.int .i64 s.2.2.1,.int .i64 s.2.2.2] 33 (0,0)):=Below.some b2 (ah _ (ah _ (ae _ rfl)));have i0:=(aa H1).1;have i1:=(aa H1).2.1;have i2:=(aa H1).2.2.1;have i3:=(aa H1).2.2.2)
    | (go_at_call 55;refine(hc2 _).mono ?_;rintro e w3 ⟨rfl,b3⟩;have B3:=bI B2 b3 B2.size;have H3:=Below.some b3 H2;have H31:=Below.some b3 H1;have H30:=Below.some b3 H0;have i4:=(aa H31).1;have i5:=(aa H31).2.1;have i6:=(aa H31).2.2.1;have i7:=(aa H31).2.2.2;have j0:=(aa H30).1;have j1:=(aa H30).2.1;have j2:=(aa H30).2.2.1;have j3:=(aa H30).2.2.2)
    | (go_at_call 56;refine(hc3 _ B3).mono ?_))
   rintro e w4 ⟨v4,rfl,⟨Vb,Vf,ys,sa⟩,b4⟩;obtain rfl:=sa.val;obtain⟨bA,bn,bc,rfl⟩:=bB sa.box;obtain⟨fA,fc,rfl⟩:=aW sa.fms.own;have H4:=Below.some b4 H3;have B4:=bI B3 b4 B3.size;obtain⟨e0,e1,e2,e3⟩:=aa H4;obtain⟨g0,g1,g2,g3⟩:=aI H4;have hl3:=bd H3
   go_wp2
   obtain⟨d0,d1,d2,d3⟩:=aa (aF (.slice bA bn bc) (.slice fA (stS s x).2.1.length fc) (.int .i64 (stS s x).2.2.1) (.int .i64 (stS s x).2.2.2) H4);refine bodyPost_ret (by simp [results,Try.results23,go_sem,d0,d1,d2,d3];try rfl) rfl ?_
   (try rw [hyB])
   (try rw [hyS])
   have hS8:=sa.set4 (g:=w.heap.size+2) (.slice bA bn bc) (.slice fA (stS s x).2.1.length fc) (.int .i64 (stS s x).2.2.1) (.int .i64 (stS s x).2.2.2) fun b hb=>by have:=(sa.lt b hb).1;omega
   exact⟨_,rfl,⟨_,_,_,hS8.val,hS8.box,fun b hb=>by have:=hS8.bge b hb;omega,hS8.fms.base (by omega),hS8.dis⟩,bt _ _ _ _ B4 (by omega)⟩
set_option maxRecDepth 100000
theorem rK {w w':World} {B:Nat} {A A' A2:Option Addr} {bn c n' c' n2 c2:Nat} {v:Value} {ys ys':List Value} {l':List Fm} {x y:Int} {s:Sp} (hS:ShopAt w B v (.slice A bn c) (.slice A' n' c') ys s)
  (hb:∀b,aH (.slice A bn c) b→w'.heap[b]?=w.heap[b]?) (hF':FmsAt w' B (.slice A2 n2 c2) ys' l') (hfo:∀b,FmS (.slice A2 n2 c2) ys' b→FmS (.slice A' n' c') ys b∨w.heap.size≤b) :
  ShopAt w' B (.agg #[.slice A bn c,.slice A2 n2 c2,.int .i64 x,.int .i64 y]) (.slice A bn c) (.slice A2 n2 c2) ys' (s.1,l',x,y)∧∀b,ShS (.slice A bn c) (.slice A2 n2 c2) ys' b→ShS (.slice A bn c) (.slice A' n' c') ys b∨w.heap.size≤b :=
 ⟨⟨rfl,ba hS.box hb,hS.bge,hF',fun b hb h=>(hfo b h).elim (hS.dis b hb) fun h=>by have:=dc hS.box b hb;omega⟩,fun b hb=>hb.elim (fun h=>.inl (.inl h)) fun h=>(hfo b h).imp .inr id⟩
structure WS (P:Program) (ops:Array Oper) (w:World) (Q:Act→Prop) (l:List Oper) (a:Act):Prop where
 out:wpStill P ops w Q l a
structure WG (P:Program) (ops:Array Oper) (w:World) (o:Oper) (a:Act) (K:Act→Prop):Prop where
 out:if Region.wanted o (yielded ops a.tmps) then o.still P a w K else K (a.put o.dst undef)
theorem WS.step {P:Program} {ops:Array Oper} {w:World} {Q:Act→Prop} {a:Act} {o:Oper} {rest:List Oper} (h:∀K:Act→Prop,Hid (∀a,WS P ops w Q rest a→K a)→WG P ops w o a K):WS P ops w Q (o::rest) a :=
 ⟨wpStill_step fun K hK=>(h K fun a ha=>hK a ha.out).out⟩
theorem WS.nil {P:Program} {ops:Array Oper} {w:World} {Q:Act→Prop} {a:Act} (h:Q a):WS P ops w Q [] a:=⟨h⟩
theorem KeptX.ofBelow {S:Nat→Prop} {w w':World} (h:Below w.heap.size w w'):KeptX S w w':=⟨h.os,h.tape,h.output,h.size,fun b hb _=>h.block b hb⟩
theorem KeptX.stepX {S T:Nat→Prop} {w w1 w2:World} (h:KeptX S w w1) (k:KeptX T w1 w2) (hT:∀b,T b→S b∨w.heap.size≤b):KeptX S w w2 :=
 ⟨k.os.trans h.os,k.tape.trans h.tape,k.output.trans h.output,JF h.size k.size,fun b hb hS=>(k.block b (Jw hb h.size) fun ht=>(hT b ht).elim hS fun h=>by omega).trans (h.block b hb hS)⟩
theorem KeptX.step {S:Nat→Prop} {w w1 w2:World} (h:KeptX S w w1) (k:Below w1.heap.size w1 w2):KeptX S w w2 :=
 h.stepX (T:=fun _=>False) (KeptX.ofBelow k) fun _ hb=>hb.elim
theorem KeptX.setO {S:Nat→Prop} {w w1:World} (h:KeptX S w w1) (a:Addr) (v:Value) (ha:S a.block∨w.heap.size≤a.block):KeptX S w (w1.setCell a v) :=
 ⟨h.os,h.tape,h.output,by simpa [Jx] using h.size,fun b hb hS=>(heap_setCell_other _ _ _ _ (by rintro rfl;exact ha.elim hS fun h=>by omega)).trans (h.block b hb hS)⟩
theorem KeptX.set4 {S:Nat→Prop} {w w1:World} {r:Nat} (h:KeptX S w w1) (hr:w.heap.size≤r) (x0 x1 x2 x3:Value):KeptX S w ((((w1.setCell ⟨r,0,none⟩ x0).setCell ⟨r,1,none⟩ x1).setCell ⟨r,2,none⟩ x2).setCell ⟨r,3,none⟩ x3) :=
 (((h.setO _ _ (.inr hr)).setO _ _ (.inr hr)).setO _ _ (.inr hr)).setO _ _ (.inr hr)
def qp (w:World) (B:Nat) (S:Nat→Prop) (ok:Bool) (t:Sp) (e:Ending) (w':World):Prop:=∃v Vb Vf ys,e = .returned (.tuple #[v,.bool ok])∧ShopAt w' B v Vb Vf ys (if ok=true then t else([],[],0,0))∧(∀b,ShS Vb Vf ys b→S b∨w.heap.size≤b)∧KeptX S w w'
theorem eK {w w':World} {B r:Nat} {S:Nat→Prop} {t:Sp} (hB:KeptX S w w') (hr:w.heap.size≤r):qp w B S false t (.returned (.tuple #[.agg #[.slice none 0 0,.slice none 0 0,.int .i64 0,.int .i64 0],.bool false])) ((((w'.setCell ⟨r,0,none⟩ (.slice none 0 0)).setCell ⟨r,1,none⟩ (.slice none 0 0)).setCell ⟨r,2,none⟩ (.int .i64 0)).setCell ⟨r,3,none⟩ (.int .i64 0)) :=
 ⟨_,_,_,[],rfl,⟨rfl,fw _ _ _ _,(fun b hb=>by cases hb),oS _ _,(fun b hb=>by cases hb)⟩,fun b hb=>hb.elim (fun h=>by cases h) (fun h=>h.elim (fun h=>by cases h) fun⟨_,h,_⟩=>by cases h),hB.set4 hr _ _ _ _⟩
theorem lN {w w':World} {B r:Nat} {S:Nat→Prop} {t:Sp} {A A':Option Addr} {n c n' c':Nat} {ys:List Value} (hS:ShopAt w' B (.agg #[.slice A n c,.slice A' n' c',.int .i64 t.2.2.1,.int .i64 t.2.2.2]) (.slice A n c) (.slice A' n' c') ys t) (hB:KeptX S w w') (hr:w.heap.size≤r) (hg:∀b,ShS (.slice A n c) (.slice A' n' c') ys b→r≠b)
  (hsub:∀b,ShS (.slice A n c) (.slice A' n' c') ys b→S b∨w.heap.size≤b) :
  qp w B S true t (.returned (.tuple #[.agg #[.slice A n c,.slice A' n' c',.int .i64 t.2.2.1,.int .i64 t.2.2.2],.bool true])) ((((w'.setCell ⟨r,0,none⟩ (.slice A n c)).setCell ⟨r,1,none⟩ (.slice A' n' c')).setCell ⟨r,2,none⟩ (.int .i64 t.2.2.1)).setCell ⟨r,3,none⟩ (.int .i64 t.2.2.2)) :=
 ⟨_,_,_,_,rfl,hS.set4 _ _ _ _ hg,hsub,hB.set4 hr _ _ _ _⟩
set_option maxHeartbeats 8000000 in
set_option maxRecDepth 1000000 in
theorem EP (s:Sp) (hs:bH s) (hok:aD s=true) (id:Int) (u:ByteArray) (n:Int) (hx:dm (2,id,u,n)=true) (w:World) (B:Nat) (v Vb Vf:Value) (ys:List Value) (hS0:ShopAt w B v Vb Vf ys s) (hB:B≤w.heap.size) :
  Calls Try.prog 91 #[v,stV (2,id,u,n)] w (qp w B (ShS Vb Vf ys) (fx s.2.1 id&&dk s (atF s.2.1 id) (2,id,u,n)) (fP s (atF s.2.1 id) (2,id,u,n))):=by
 obtain⟨hfm,hgc,_,hlost⟩:=bp hok;obtain rfl:=hS0.val;obtain⟨bA,bn,bc,rfl⟩:=bB hS0.box;obtain⟨fA,fc,rfl⟩:=aW hS0.fms.own;have hlt0:=hS0.lt
 go_enter Try.func91,Try.ntmps91
 go_upto_region 1 with fail
 have hW:Below w.heap.size w (((w.alloc (.cells #[.slice bA bn bc,.slice fA s.2.1.length fc,.int .i64 s.2.2.1,.int .i64 s.2.2.2] 33)).alloc (.cells #[.int .i64 2,.int .i64 id,.string u,.int .i64 n] 46)).alloc (.cells #[.slice none 0 0,.slice none 0 0,.int .i64 0,.int .i64 0] 33)):=((JK _ w).alloc (Jz _) _).alloc (by simp) _ |>.alloc (by simp;omega) _;have hWs:w.heap.size+3≤(((w.alloc (.cells #[.slice bA bn bc,.slice fA s.2.1.length fc,.int .i64 s.2.2.1,.int .i64 s.2.2.2] 33)).alloc (.cells #[.int .i64 2,.int .i64 id,.string u,.int .i64 n] 46)).alloc (.cells #[.slice none 0 0,.slice none 0 0,.int .i64 0,.int .i64 0] 33)).heap.size:=by simp
 have hp:(((w.alloc (.cells #[.slice bA bn bc,.slice fA s.2.1.length fc,.int .i64 s.2.2.1,.int .i64 s.2.2.2] 33)).alloc (.cells #[.int .i64 2,.int .i64 id,.string u,.int .i64 n] 46)).alloc (.cells #[.slice none 0 0,.slice none 0 0,.int .i64 0,.int .i64 0] 33)).heap[w.heap.size]?=some (.cells #[.slice bA bn bc,.slice fA s.2.1.length fc,.int .i64 s.2.2.1,.int .i64 s.2.2.2] 33 (0,0)):=ah _ (ah _ (ae _ rfl));have hq:(((w.alloc (.cells #[.slice bA bn bc,.slice fA s.2.1.length fc,.int .i64 s.2.2.1,.int .i64 s.2.2.2] 33)).alloc (.cells #[.int .i64 2,.int .i64 id,.string u,.int .i64 n] 46)).alloc (.cells #[.slice none 0 0,.slice none 0 0,.int .i64 0,.int .i64 0] 33)).heap[w.heap.size+1]?=some (.cells #[.int .i64 2,.int .i64 id,.string u,.int .i64 n] 46 (0,0)):=ah _ (ae _ (by simp));have hr:(((w.alloc (.cells #[.slice bA bn bc,.slice fA s.2.1.length fc,.int .i64 s.2.2.1,.int .i64 s.2.2.2] 33)).alloc (.cells #[.int .i64 2,.int .i64 id,.string u,.int .i64 n] 46)).alloc (.cells #[.slice none 0 0,.slice none 0 0,.int .i64 0,.int .i64 0] 33)).heap[w.heap.size+1+1]?=some (.cells #[.slice none 0 0,.slice none 0 0,.int .i64 0,.int .i64 0] 33 (0,0)):=ae _ (by simp);have hS:=hS0.below hW;generalize (((w.alloc (.cells #[.slice bA bn bc,.slice fA s.2.1.length fc,.int .i64 s.2.2.1,.int .i64 s.2.2.2] 33)).alloc (.cells #[.int .i64 2,.int .i64 id,.string u,.int .i64 n] 46)).alloc (.cells #[.slice none 0 0,.slice none 0 0,.int .i64 0,.int .i64 0] 33))=W at *;have hc:=jw s id hs hok hS.rep (fun b hb=>(hS.lt b hb).2);obtain⟨e0,e1,e2,e3⟩:=aa hp;obtain⟨f0,f1,f2,f3⟩:=aa hq;cases hh:fx s.2.1 id
 ·rw [hh] at hc
  simp only [JQ,if_false] at hc;have hhH:Hid (fx s.2.1 id=false):=hh
  go_upto_region 4 with (go_at_call 115;refine hc.mono ?_;rintro e w2 ⟨rfl,b2⟩)
  have B2:KeptX (ShS (.slice bA bn bc) (.slice fA s.2.1.length fc) ys) w w2:=(KeptX.ofBelow hW).step b2;have hr2:=Below.some b2 hr;clear hc hS hS0 hfm hgc hlt0 hs hok hx hlost hh;refine wp_region_still_lit (by kernel_rfl) (by kernel_rfl) (WS.out ?_)
  refine WS.step (fun K hK=>WG.mk ?_)
  go_simp
  refine hK.out _ ?_
  clear hK K;refine WS.step (fun K hK=>WG.mk ?_)
  go_simp
  refine hK.out _ ?_
  clear hK K;refine WS.step (fun K hK=>WG.mk ?_)
  go_simp
  refine hK.out _ ?_
  clear hK K;refine WS.step (fun K hK=>WG.mk ?_)
  go_simp
  refine hK.out _ ?_
  clear hK K;refine WS.step (fun K hK=>WG.mk ?_)
  go_simp
  refine hK.out _ ?_
  clear hK K;refine WS.step (fun K hK=>WG.mk ?_)
  go_simp
  refine hK.out _ ?_
  clear hK K;refine WS.step (fun K hK=>WG.mk ?_)
  go_simp
  refine hK.out _ ?_
  clear hK K;refine WS.step (fun K hK=>WG.mk ?_)
  go_simp
  refine hK.out _ ?_
  clear hK K;refine WS.step (fun K hK=>WG.mk ?_)
  go_simp
  refine hK.out _ ?_
  clear hK K;refine WS.step (fun K hK=>WG.mk ?_)
  go_simp
  refine hK.out _ ?_
  clear hK K;refine WS.step (fun K hK=>WG.mk ?_)
  go_simp
  refine hK.out _ ?_
  clear hK K;refine WS.step (fun K hK=>WG.mk ?_)
  go_simp
  refine hK.out _ ?_
  clear hK K;refine WS.step (fun K hK=>WG.mk ?_)
  go_simp
  refine hK.out _ ?_
  clear hK K;refine WS.step (fun K hK=>WG.mk ?_)
  go_simp
  refine hK.out _ ?_
  clear hK K;refine WS.step (fun K hK=>WG.mk ?_)
  go_simp
  refine hK.out _ ?_
  clear hK K;refine WS.step (fun K hK=>WG.mk ?_)
  go_simp
  refine hK.out _ ?_
  clear hK K;refine WS.step (fun K hK=>WG.mk ?_)
  go_simp
  refine hK.out _ ?_
  clear hK K;refine WS.step (fun K hK=>WG.mk ?_)
  go_simp
  refine hK.out _ ?_
  clear hK K;refine WS.step (fun K hK=>WG.mk ?_)
  go_simp
  refine hK.out _ ?_
  clear hK K;refine WS.nil ?_
  change Exit.then _ _ _ _ w2.drew
  have B3:KeptX (ShS (.slice bA bn bc) (.slice fA s.2.1.length fc) ys) w w2.drew:=B2.step (ac w2);have hr3:=Below.some (ac w2) hr2;generalize w2.drew=w3 at *;obtain⟨g0,g1,g2,g3⟩:=aa hr3;obtain⟨j0,j1,j2,j3⟩:=aI hr3
  go_wp2
  obtain⟨d0,d1,d2,d3⟩:=aa (aF (.slice none 0 0) (.slice none 0 0) (.int .i64 0) (.int .i64 0) hr3);refine bodyPost_ret (by simp [results,Try.results91,go_sem,d0,d1,d2,d3];try rfl) rfl ?_
  rw [hhH.out,JS];exact eK B3 (by omega)
 rw [hh] at hc;simp only [if_true] at hc;have hhH:Hid (fx s.2.1 id=true):=hh;obtain⟨hi,-⟩:=jW hh;obtain⟨i,hati⟩:∃i,i=atF s.2.1 id:=⟨_,rfl⟩
 rw [←hati] at hc hi;have hatH:Hid (i=atF s.2.1 id):=hati;clear hati;have haS:fP s i (2,id,u,n)=(s.1,s.2.1.set i (s.2.1[i].1,s.2.1[i].2.1,true,s.2.1[i].2.2.2),s.2.2.1,s.2.2.2):=by
  unfold fP;rw [Jq hi];simp
 have haO:dk s i (2,id,u,n)=(!s.2.1[i].2.2.1):=by
  unfold dk;rw [Jq hi];simp
 have haSH:Hid _:=haS;have haOH:Hid _:=haO;have hfi:=hfm i hi
 go_upto_region 4 with (go_at_call 115;refine hc.mono ?_;rintro e w2 ⟨rfl,b2⟩)
 have B2:KeptX (ShS (.slice bA bn bc) (.slice fA s.2.1.length fc) ys) w w2:=(KeptX.ofBelow hW).step b2;have hp2:=Below.some b2 hp;have hq2:=Below.some b2 hq;have hr2:=Below.some b2 hr;have hS2:=hS.below b2;have hs2:=b2.size;clear hc hS hS0 haS haO hW b2 hp hq hr e0 e1 e2 e3 f0 f1 f2 f3 hh;obtain⟨g,rfl⟩:=dQ hS2.fms.own (by omega);have hgl:=hlt0 g (.inr (.inl rfl));have hgx:s.2.1[i]?=some s.2.1[i]:=Jq hi;have hpi:(i:Int)<(s.2.1.length:Int):=by omega
 have hset:=dI hfi;have hprt:=cb hfi;obtain⟨f,hf⟩:∃f,f=s.2.1[i]:=⟨_,rfl⟩
 rw [←hf] at hfi hgx hset hprt haOH haSH;obtain⟨y,hy⟩:∃y,ys[i]?=some y:=⟨ys[i]'(by rw [hS2.fms.len];exact hi),Jq _⟩
 have k2:=aJ hS2.fms.own (j:=i*4+2) (u:=.bool f.2.2.1) (by rw [aN _ _ i f _ hgx hy 2 (by omega)];rfl);obtain⟨e0,e1,e2,e3⟩:=aa hp2;obtain⟨f0,f1,f2,f3⟩:=aa hq2;have hnn:¬((i:Int)<0):=by omega
 cases hb:f.2.2.1
 ·rw [hb] at k2
  have hbH:Hid _:=hb;clear hb;refine wp_region_still_lit (by kernel_rfl) (by kernel_rfl) (WS.out ?_)
  refine WS.step (fun K hK=>WG.mk ?_)
  go_simp
  refine hK.out _ ?_
  clear hK K;refine WS.step (fun K hK=>WG.mk ?_)
  go_simp
  refine hK.out _ ?_
  clear hK K;refine WS.step (fun K hK=>WG.mk ?_)
  go_simp
  refine hK.out _ ?_
  clear hK K;refine WS.step (fun K hK=>WG.mk ?_)
  go_simp
  refine hK.out _ ?_
  clear hK K;refine WS.step (fun K hK=>WG.mk ?_)
  go_simp
  refine hK.out _ ?_
  clear hK K;refine WS.step (fun K hK=>WG.mk ?_)
  go_simp
  refine hK.out _ ?_
  clear hK K;refine WS.step (fun K hK=>WG.mk ?_)
  go_simp
  refine hK.out _ ?_
  clear hK K;refine WS.step (fun K hK=>WG.mk ?_)
  go_simp
  refine hK.out _ ?_
  clear hK K;refine WS.step (fun K hK=>WG.mk ?_)
  go_simp
  refine hK.out _ ?_
  clear hK K;refine WS.step (fun K hK=>WG.mk ?_)
  go_simp
  refine hK.out _ ?_
  clear hK K;refine WS.step (fun K hK=>WG.mk ?_)
  go_simp
  refine hK.out _ ?_
  clear hK K;refine WS.step (fun K hK=>WG.mk ?_)
  go_simp
  refine hK.out _ ?_
  clear hK K;refine WS.step (fun K hK=>WG.mk ?_)
  go_simp
  refine hK.out _ ?_
  clear hK K;refine WS.step (fun K hK=>WG.mk ?_)
  go_simp
  refine hK.out _ ?_
  clear hK K;refine WS.step (fun K hK=>WG.mk ?_)
  go_simp
  refine hK.out _ ?_
  clear hK K;refine WS.step (fun K hK=>WG.mk ?_)
  go_simp
  refine hK.out _ ?_
  clear hK K;refine WS.step (fun K hK=>WG.mk ?_)
  go_simp
  refine hK.out _ ?_
  clear hK K;refine WS.step (fun K hK=>WG.mk ?_)
  go_simp
  refine hK.out _ ?_
  clear hK K;refine WS.step (fun K hK=>WG.mk ?_)
  go_simp
  refine hK.out _ ?_
  clear hK K;refine WS.nil ?_
  change Exit.then _ _ _ _ w2.drew
  have B3:KeptX (ShS (.slice bA bn bc) (.slice (some ⟨g,0,none⟩) s.2.1.length fc) ys) w w2.drew:=B2.step (ac w2);have hp3:=Below.some (ac w2) hp2;have hq3:=Below.some (ac w2) hq2;have hr3:=Below.some (ac w2) hr2;have hS3:=hS2.below (ac w2);have hs3:w.heap.size+3≤w2.drew.heap.size:=JF hWs hs2;clear k2 e0 e1 e2 e3 f0 f1 f2 f3 hp2 hq2 hr2 hS2 B2 hWs hs2;generalize w2.drew=w3 at *;clear w2 W;have hF:=hS3.fms;have hrow:=hF.row i _ y hgx hy;obtain⟨Ay,cy,rfl⟩:=cN hrow;rw [JM] at hy hrow;have k1:=aJ hF.own (j:=i*4+1) (u:=.slice Ay f.2.1.length cy) (by rw [aN _ _ i f _ hgx hy 1 (by omega)];rfl);have k2:=aJ hF.own (j:=i*4+2) (u:=.bool f.2.2.1) (by rw [aN _ _ i f _ hgx hy 2 (by omega)];rfl);rw [hbH.out] at k2;have k3:=aJ hF.own (j:=i*4+3) (u:=.int .i64 f.2.2.2) (by rw [aN _ _ i f _ hgx hy 3 (by omega)];rfl);have z1:=bf hF.own (i*4+1);have z2:=bf hF.own (i*4+2);have z3:=bf hF.own (i*4+3);have hgp:g≠w.heap.size:=by omega
  have hfe:s.2.1[i]=f:=hf.symm;clear hf;have hcel:=fun(k:Nat) (v:Value) (x':Fm) hk hx hc=>cT hF hi hy (x':=x') (k:=k) (v:=v) hk hx hc
  rw [hfe] at hcel;obtain⟨e0,e1,e2,e3⟩:=aa hp3;obtain⟨f0,f1,f2,f3⟩:=aa hq3;have hwy:∀b,aH (.slice Ay f.2.1.length cy) b→b≠g:=fun b hb e=>(hF.blk i _ b hy hb).2 (by rw [e];rfl)
  have hpz:(w3.setCell ⟨g,i*4+2,none⟩ (.bool true)).heap[w.heap.size]?=_:=(heap_setCell_other _ _ _ _ (by simp;omega)).trans hp3;have hrz:(w3.setCell ⟨g,i*4+2,none⟩ (.bool true)).heap[w.heap.size+1+1]?=_:=(heap_setCell_other _ _ _ _ (by simp;omega)).trans hr3;have hFz:=hcel 2 (.bool true) (f.1,f.2.1,true,f.2.2.2) (by omega) rfl rfl;obtain⟨hSz,hShz⟩:=rK (x:=s.2.2.1) (y:=s.2.2.2) hS3 (fun b hb=>heap_setCell_other _ _ _ _ (by
   have:=hS3.dis b hb;simp;exact fun e=>this (.inl (by rw [e];rfl)))) hFz (fun b hb=>.inl hb)
  have Bz:KeptX (ShS (.slice bA bn bc) (.slice (some ⟨g,0,none⟩) s.2.1.length fc) ys) w (w3.setCell ⟨g,i*4+2,none⟩ (.bool true)):=B3.setO _ _ (.inl (.inr (.inl rfl)));have hszz:w3.heap.size≤(w3.setCell ⟨g,i*4+2,none⟩ (.bool true)).heap.size:=by simp [Jx]
  go_upto_region 25 with fail
  clear e0 e1 e2 e3 f0 f1 f2 f3 k1 k2 k3 z1 z2 z3;obtain⟨a0,a1,a2,a3⟩:=aa hpz;obtain⟨g0,g1,g2,g3⟩:=aa hrz;obtain⟨j0,j1,j2,j3⟩:=aI hrz
  go_wp2
  obtain⟨d0,d1,d2,d3⟩:=aa (aF (.slice bA bn bc) (.slice (some ⟨g,0,none⟩) s.2.1.length fc) (.int .i64 s.2.2.1) (.int .i64 s.2.2.2) hrz);refine bodyPost_ret (by simp [results,Try.results91,go_sem,d0,d1,d2,d3];try rfl) rfl ?_
  rw [hhH.out,←hatH.out,haOH.out,hbH.out,haSH.out];exact lN hSz Bz (by omega) (fun b hb=>by
   rcases hShz b hb with h | h
   ·have:=hlt0 b h
    omega
   ·omega) (fun b hb=>(hShz b hb).imp (fun h=>h) fun h=>by omega)
 ·rw [hb] at k2
  have hbH:Hid _:=hb;clear hb;refine wp_region_still_lit (by kernel_rfl) (by kernel_rfl) (WS.out ?_)
  refine WS.step (fun K hK=>WG.mk ?_)
  go_simp
  refine hK.out _ ?_
  clear hK K;refine WS.step (fun K hK=>WG.mk ?_)
  go_simp
  refine hK.out _ ?_
  clear hK K;refine WS.step (fun K hK=>WG.mk ?_)
  go_simp
  refine hK.out _ ?_
  clear hK K;refine WS.step (fun K hK=>WG.mk ?_)
  go_simp
  refine hK.out _ ?_
  clear hK K;refine WS.step (fun K hK=>WG.mk ?_)
  go_simp
  refine hK.out _ ?_
  clear hK K;refine WS.step (fun K hK=>WG.mk ?_)
  go_simp
  refine hK.out _ ?_
  clear hK K;refine WS.step (fun K hK=>WG.mk ?_)
  go_simp
  refine hK.out _ ?_
  clear hK K;refine WS.step (fun K hK=>WG.mk ?_)
  go_simp
  refine hK.out _ ?_
  clear hK K;refine WS.step (fun K hK=>WG.mk ?_)
  go_simp
  refine hK.out _ ?_
  clear hK K;refine WS.step (fun K hK=>WG.mk ?_)
  go_simp
  refine hK.out _ ?_
  clear hK K;refine WS.step (fun K hK=>WG.mk ?_)
  go_simp
  refine hK.out _ ?_
  clear hK K;refine WS.step (fun K hK=>WG.mk ?_)
  go_simp
  refine hK.out _ ?_
  clear hK K;refine WS.step (fun K hK=>WG.mk ?_)
  go_simp
  refine hK.out _ ?_
  clear hK K;refine WS.step (fun K hK=>WG.mk ?_)
  go_simp
  refine hK.out _ ?_
  clear hK K;refine WS.step (fun K hK=>WG.mk ?_)
  go_simp
  refine hK.out _ ?_
  clear hK K;refine WS.step (fun K hK=>WG.mk ?_)
  go_simp
  refine hK.out _ ?_
  clear hK K;refine WS.step (fun K hK=>WG.mk ?_)
  go_simp
  refine hK.out _ ?_
  clear hK K;refine WS.step (fun K hK=>WG.mk ?_)
  go_simp
  refine hK.out _ ?_
  clear hK K;refine WS.step (fun K hK=>WG.mk ?_)
  go_simp
  refine hK.out _ ?_
  clear hK K;refine WS.nil ?_
  change Exit.then _ _ _ _ w2.drew
  have B3:KeptX (ShS (.slice bA bn bc) (.slice (some ⟨g,0,none⟩) s.2.1.length fc) ys) w w2.drew:=B2.step (ac w2);have hr3:=Below.some (ac w2) hr2;generalize w2.drew=w3 at *;obtain⟨g0,g1,g2,g3⟩:=aa hr3;obtain⟨j0,j1,j2,j3⟩:=aI hr3
  go_wp2
  obtain⟨d0,d1,d2,d3⟩:=aa (aF (.slice none 0 0) (.slice none 0 0) (.int .i64 0) (.int .i64 0) hr3);refine bodyPost_ret (by simp [results,Try.results91,go_sem,d0,d1,d2,d3];try rfl) rfl ?_
  rw [hhH.out,←hatH.out,haOH.out,hbH.out];exact eK B3 (by omega)
set_option maxHeartbeats 8000000 in
set_option maxRecDepth 1000000 in
theorem Ed (s:Sp) (hs:bH s) (hok:aD s=true) (id:Int) (u:ByteArray) (n:Int) (hx:dm (4,id,u,n)=true) (w:World) (B:Nat) (v Vb Vf:Value) (ys:List Value) (hS0:ShopAt w B v Vb Vf ys s) (hB:B≤w.heap.size) :
  Calls Try.prog 91 #[v,stV (4,id,u,n)] w (qp w B (ShS Vb Vf ys) (fx s.2.1 id&&dk s (atF s.2.1 id) (4,id,u,n)) (fP s (atF s.2.1 id) (4,id,u,n))):=by
 obtain⟨hfm,hgc,_,hlost⟩:=bp hok;obtain rfl:=hS0.val;obtain⟨bA,bn,bc,rfl⟩:=bB hS0.box;obtain⟨fA,fc,rfl⟩:=aW hS0.fms.own;have hlt0:=hS0.lt
 go_enter Try.func91,Try.ntmps91
 go_upto_region 1 with fail
 have hW:Below w.heap.size w (((w.alloc (.cells #[.slice bA bn bc,.slice fA s.2.1.length fc,.int .i64 s.2.2.1,.int .i64 s.2.2.2] 33)).alloc (.cells #[.int .i64 4,.int .i64 id,.string u,.int .i64 n] 46)).alloc (.cells #[.slice none 0 0,.slice none 0 0,.int .i64 0,.int .i64 0] 33)):=((JK _ w).alloc (Jz _) _).alloc (by simp) _ |>.alloc (by simp;omega) _;have hWs:w.heap.size+3≤(((w.alloc (.cells #[.slice bA bn bc,.slice fA s.2.1.length fc,.int .i64 s.2.2.1,.int .i64 s.2.2.2] 33)).alloc (.cells #[.int .i64 4,.int .i64 id,.string u,.int .i64 n] 46)).alloc (.cells #[.slice none 0 0,.slice none 0 0,.int .i64 0,.int .i64 0] 33)).heap.size:=by simp
 have hp:(((w.alloc (.cells #[.slice bA bn bc,.slice fA s.2.1.length fc,.int .i64 s.2.2.1,.int .i64 s.2.2.2] 33)).alloc (.cells #[.int .i64 4,.int .i64 id,.string u,.int .i64 n] 46)).alloc (.cells #[.slice none 0 0,.slice none 0 0,.int .i64 0,.int .i64 0] 33)).heap[w.heap.size]?=some (.cells #[.slice bA bn bc,.slice fA s.2.1.length fc,.int .i64 s.2.2.1,.int .i64 s.2.2.2] 33 (0,0)):=ah _ (ah _ (ae _ rfl));have hq:(((w.alloc (.cells #[.slice bA bn bc,.slice fA s.2.1.length fc,.int .i64 s.2.2.1,.int .i64 s.2.2.2] 33)).alloc (.cells #[.int .i64 4,.int .i64 id,.string u,.int .i64 n] 46)).alloc (.cells #[.slice none 0 0,.slice none 0 0,.int .i64 0,.int .i64 0] 33)).heap[w.heap.size+1]?=some (.cells #[.int .i64 4,.int .i64 id,.string u,.int .i64 n] 46 (0,0)):=ah _ (ae _ (by simp));have hr:(((w.alloc (.cells #[.slice bA bn bc,.slice fA s.2.1.length fc,.int .i64 s.2.2.1,.int .i64 s.2.2.2] 33)).alloc (.cells #[.int .i64 4,.int .i64 id,.string u,.int .i64 n] 46)).alloc (.cells #[.slice none 0 0,.slice none 0 0,.int .i64 0,.int .i64 0] 33)).heap[w.heap.size+1+1]?=some (.cells #[.slice none 0 0,.slice none 0 0,.int .i64 0,.int .i64 0] 33 (0,0)):=ae _ (by simp);have hS:=hS0.below hW;generalize (((w.alloc (.cells #[.slice bA bn bc,.slice fA s.2.1.length fc,.int .i64 s.2.2.1,.int .i64 s.2.2.2] 33)).alloc (.cells #[.int .i64 4,.int .i64 id,.string u,.int .i64 n] 46)).alloc (.cells #[.slice none 0 0,.slice none 0 0,.int .i64 0,.int .i64 0] 33))=W at *;have hc:=jw s id hs hok hS.rep (fun b hb=>(hS.lt b hb).2);obtain⟨e0,e1,e2,e3⟩:=aa hp;obtain⟨f0,f1,f2,f3⟩:=aa hq;cases hh:fx s.2.1 id
 ·rw [hh] at hc
  simp only [JQ,if_false] at hc;have hhH:Hid (fx s.2.1 id=false):=hh
  go_upto_region 4 with (go_at_call 115;refine hc.mono ?_;rintro e w2 ⟨rfl,b2⟩)
  have B2:KeptX (ShS (.slice bA bn bc) (.slice fA s.2.1.length fc) ys) w w2:=(KeptX.ofBelow hW).step b2;have hr2:=Below.some b2 hr;clear hc hS hS0 hfm hgc hlt0 hs hok hx hlost hh;refine wp_region_still_lit (by kernel_rfl) (by kernel_rfl) (WS.out ?_)
  refine WS.step (fun K hK=>WG.mk ?_)
  go_simp
  refine hK.out _ ?_
  clear hK K;refine WS.step (fun K hK=>WG.mk ?_)
  go_simp
  refine hK.out _ ?_
  clear hK K;refine WS.step (fun K hK=>WG.mk ?_)
  go_simp
  refine hK.out _ ?_
  clear hK K;refine WS.step (fun K hK=>WG.mk ?_)
  go_simp
  refine hK.out _ ?_
  clear hK K;refine WS.step (fun K hK=>WG.mk ?_)
  go_simp
  refine hK.out _ ?_
  clear hK K;refine WS.step (fun K hK=>WG.mk ?_)
  go_simp
  refine hK.out _ ?_
  clear hK K;refine WS.step (fun K hK=>WG.mk ?_)
  go_simp
  refine hK.out _ ?_
  clear hK K;refine WS.step (fun K hK=>WG.mk ?_)
  go_simp
  refine hK.out _ ?_
  clear hK K;refine WS.step (fun K hK=>WG.mk ?_)
  go_simp
  refine hK.out _ ?_
  clear hK K;refine WS.step (fun K hK=>WG.mk ?_)
  go_simp
  refine hK.out _ ?_
  clear hK K;refine WS.step (fun K hK=>WG.mk ?_)
  go_simp
  refine hK.out _ ?_
  clear hK K;refine WS.step (fun K hK=>WG.mk ?_)
  go_simp
  refine hK.out _ ?_
  clear hK K;refine WS.step (fun K hK=>WG.mk ?_)
  go_simp
  refine hK.out _ ?_
  clear hK K;refine WS.step (fun K hK=>WG.mk ?_)
  go_simp
  refine hK.out _ ?_
  clear hK K;refine WS.step (fun K hK=>WG.mk ?_)
  go_simp
  refine hK.out _ ?_
  clear hK K;refine WS.step (fun K hK=>WG.mk ?_)
  go_simp
  refine hK.out _ ?_
  clear hK K;refine WS.step (fun K hK=>WG.mk ?_)
  go_simp
  refine hK.out _ ?_
  clear hK K;refine WS.step (fun K hK=>WG.mk ?_)
  go_simp
  refine hK.out _ ?_
  clear hK K;refine WS.step (fun K hK=>WG.mk ?_)
  go_simp
  refine hK.out _ ?_
  clear hK K;refine WS.nil ?_
  change Exit.then _ _ _ _ w2.drew
  have B3:KeptX (ShS (.slice bA bn bc) (.slice fA s.2.1.length fc) ys) w w2.drew:=B2.step (ac w2);have hr3:=Below.some (ac w2) hr2;generalize w2.drew=w3 at *;obtain⟨g0,g1,g2,g3⟩:=aa hr3;obtain⟨j0,j1,j2,j3⟩:=aI hr3
  go_wp2
  obtain⟨d0,d1,d2,d3⟩:=aa (aF (.slice none 0 0) (.slice none 0 0) (.int .i64 0) (.int .i64 0) hr3);refine bodyPost_ret (by simp [results,Try.results91,go_sem,d0,d1,d2,d3];try rfl) rfl ?_
  rw [hhH.out,JS];exact eK B3 (by omega)
 rw [hh] at hc;simp only [if_true] at hc;have hhH:Hid (fx s.2.1 id=true):=hh;obtain⟨hi,-⟩:=jW hh;obtain⟨i,hati⟩:∃i,i=atF s.2.1 id:=⟨_,rfl⟩
 rw [←hati] at hc hi;have hatH:Hid (i=atF s.2.1 id):=hati;clear hati;have haS:fP s i (4,id,u,n)=(s.1,s.2.1.set i (s.2.1[i].1,s.2.1[i].2.1,false,s.2.1[i].2.2.2),s.2.2.1,s.2.2.2):=by
  unfold fP;rw [Jq hi];simp
 have haO:dk s i (4,id,u,n)=s.2.1[i].2.2.1:=by
  unfold dk;rw [Jq hi];simp
 have haSH:Hid _:=haS;have haOH:Hid _:=haO;have hfi:=hfm i hi
 go_upto_region 4 with (go_at_call 115;refine hc.mono ?_;rintro e w2 ⟨rfl,b2⟩)
 have B2:KeptX (ShS (.slice bA bn bc) (.slice fA s.2.1.length fc) ys) w w2:=(KeptX.ofBelow hW).step b2;have hp2:=Below.some b2 hp;have hq2:=Below.some b2 hq;have hr2:=Below.some b2 hr;have hS2:=hS.below b2;have hs2:=b2.size;clear hc hS hS0 haS haO hW b2 hp hq hr e0 e1 e2 e3 f0 f1 f2 f3 hh;obtain⟨g,rfl⟩:=dQ hS2.fms.own (by omega);have hgl:=hlt0 g (.inr (.inl rfl));have hgx:s.2.1[i]?=some s.2.1[i]:=Jq hi;have hpi:(i:Int)<(s.2.1.length:Int):=by omega
 have hset:=dI hfi;have hprt:=cb hfi;obtain⟨f,hf⟩:∃f,f=s.2.1[i]:=⟨_,rfl⟩
 rw [←hf] at hfi hgx hset hprt haOH haSH;obtain⟨y,hy⟩:∃y,ys[i]?=some y:=⟨ys[i]'(by rw [hS2.fms.len];exact hi),Jq _⟩
 have k2:=aJ hS2.fms.own (j:=i*4+2) (u:=.bool f.2.2.1) (by rw [aN _ _ i f _ hgx hy 2 (by omega)];rfl);obtain⟨e0,e1,e2,e3⟩:=aa hp2;obtain⟨f0,f1,f2,f3⟩:=aa hq2;have hnn:¬((i:Int)<0):=by omega
 cases hb:f.2.2.1
 ·rw [hb] at k2
  have hbH:Hid _:=hb;clear hb;refine wp_region_still_lit (by kernel_rfl) (by kernel_rfl) (WS.out ?_)
  refine WS.step (fun K hK=>WG.mk ?_)
  go_simp
  refine hK.out _ ?_
  clear hK K;refine WS.step (fun K hK=>WG.mk ?_)
  go_simp
  refine hK.out _ ?_
  clear hK K;refine WS.step (fun K hK=>WG.mk ?_)
  go_simp
  refine hK.out _ ?_
  clear hK K;refine WS.step (fun K hK=>WG.mk ?_)
  go_simp
  refine hK.out _ ?_
  clear hK K;refine WS.step (fun K hK=>WG.mk ?_)
  go_simp
  refine hK.out _ ?_
  clear hK K;refine WS.step (fun K hK=>WG.mk ?_)
  go_simp
  refine hK.out _ ?_
  clear hK K;refine WS.step (fun K hK=>WG.mk ?_)
  go_simp
  refine hK.out _ ?_
  clear hK K;refine WS.step (fun K hK=>WG.mk ?_)
  go_simp
  refine hK.out _ ?_
  clear hK K;refine WS.step (fun K hK=>WG.mk ?_)
  go_simp
  refine hK.out _ ?_
  clear hK K;refine WS.step (fun K hK=>WG.mk ?_)
  go_simp
  refine hK.out _ ?_
  clear hK K;refine WS.step (fun K hK=>WG.mk ?_)
  go_simp
  refine hK.out _ ?_
  clear hK K;refine WS.step (fun K hK=>WG.mk ?_)
  go_simp
  refine hK.out _ ?_
  clear hK K;refine WS.step (fun K hK=>WG.mk ?_)
  go_simp
  refine hK.out _ ?_
  clear hK K;refine WS.step (fun K hK=>WG.mk ?_)
  go_simp
  refine hK.out _ ?_
  clear hK K;refine WS.step (fun K hK=>WG.mk ?_)
  go_simp
  refine hK.out _ ?_
  clear hK K;refine WS.step (fun K hK=>WG.mk ?_)
  go_simp
  refine hK.out _ ?_
  clear hK K;refine WS.step (fun K hK=>WG.mk ?_)
  go_simp
  refine hK.out _ ?_
  clear hK K;refine WS.step (fun K hK=>WG.mk ?_)
  go_simp
  refine hK.out _ ?_
  clear hK K;refine WS.step (fun K hK=>WG.mk ?_)
  go_simp
  refine hK.out _ ?_
  clear hK K;refine WS.nil ?_
  change Exit.then _ _ _ _ w2.drew
  have B3:KeptX (ShS (.slice bA bn bc) (.slice (some ⟨g,0,none⟩) s.2.1.length fc) ys) w w2.drew:=B2.step (ac w2);have hr3:=Below.some (ac w2) hr2;generalize w2.drew=w3 at *;obtain⟨g0,g1,g2,g3⟩:=aa hr3;obtain⟨j0,j1,j2,j3⟩:=aI hr3
  go_wp2
  obtain⟨d0,d1,d2,d3⟩:=aa (aF (.slice none 0 0) (.slice none 0 0) (.int .i64 0) (.int .i64 0) hr3);refine bodyPost_ret (by simp [results,Try.results91,go_sem,d0,d1,d2,d3];try rfl) rfl ?_
  rw [hhH.out,←hatH.out,haOH.out,hbH.out];exact eK B3 (by omega)
 ·rw [hb] at k2
  have hbH:Hid _:=hb;clear hb;refine wp_region_still_lit (by kernel_rfl) (by kernel_rfl) (WS.out ?_)
  refine WS.step (fun K hK=>WG.mk ?_)
  go_simp
  refine hK.out _ ?_
  clear hK K;refine WS.step (fun K hK=>WG.mk ?_)
  go_simp
  refine hK.out _ ?_
  clear hK K;refine WS.step (fun K hK=>WG.mk ?_)
  go_simp
  refine hK.out _ ?_
  clear hK K;refine WS.step (fun K hK=>WG.mk ?_)
  go_simp
  refine hK.out _ ?_
  clear hK K;refine WS.step (fun K hK=>WG.mk ?_)
  go_simp
  refine hK.out _ ?_
  clear hK K;refine WS.step (fun K hK=>WG.mk ?_)
  go_simp
  refine hK.out _ ?_
  clear hK K;refine WS.step (fun K hK=>WG.mk ?_)
  go_simp
  refine hK.out _ ?_
  clear hK K;refine WS.step (fun K hK=>WG.mk ?_)
  go_simp
  refine hK.out _ ?_
  clear hK K;refine WS.step (fun K hK=>WG.mk ?_)
  go_simp
  refine hK.out _ ?_
  clear hK K;refine WS.step (fun K hK=>WG.mk ?_)
  go_simp
  refine hK.out _ ?_
  clear hK K;refine WS.step (fun K hK=>WG.mk ?_)
  go_simp
  refine hK.out _ ?_
  clear hK K;refine WS.step (fun K hK=>WG.mk ?_)
  go_simp
  refine hK.out _ ?_
  clear hK K;refine WS.step (fun K hK=>WG.mk ?_)
  go_simp
  refine hK.out _ ?_
  clear hK K;refine WS.step (fun K hK=>WG.mk ?_)
  go_simp
  refine hK.out _ ?_
  clear hK K;refine WS.step (fun K hK=>WG.mk ?_)
  go_simp
  refine hK.out _ ?_
  clear hK K;refine WS.step (fun K hK=>WG.mk ?_)
  go_simp
  refine hK.out _ ?_
  clear hK K;refine WS.step (fun K hK=>WG.mk ?_)
  go_simp
  refine hK.out _ ?_
  clear hK K;refine WS.step (fun K hK=>WG.mk ?_)
  go_simp
  refine hK.out _ ?_
  clear hK K;refine WS.step (fun K hK=>WG.mk ?_)
  go_simp
  refine hK.out _ ?_
  clear hK K;refine WS.nil ?_
  change Exit.then _ _ _ _ w2.drew
  have B3:KeptX (ShS (.slice bA bn bc) (.slice (some ⟨g,0,none⟩) s.2.1.length fc) ys) w w2.drew:=B2.step (ac w2);have hp3:=Below.some (ac w2) hp2;have hq3:=Below.some (ac w2) hq2;have hr3:=Below.some (ac w2) hr2;have hS3:=hS2.below (ac w2);have hs3:w.heap.size+3≤w2.drew.heap.size:=JF hWs hs2;clear k2 e0 e1 e2 e3 f0 f1 f2 f3 hp2 hq2 hr2 hS2 B2 hWs hs2;generalize w2.drew=w3 at *;clear w2 W;have hF:=hS3.fms;have hrow:=hF.row i _ y hgx hy;obtain⟨Ay,cy,rfl⟩:=cN hrow;rw [JM] at hy hrow;have k1:=aJ hF.own (j:=i*4+1) (u:=.slice Ay f.2.1.length cy) (by rw [aN _ _ i f _ hgx hy 1 (by omega)];rfl);have k2:=aJ hF.own (j:=i*4+2) (u:=.bool f.2.2.1) (by rw [aN _ _ i f _ hgx hy 2 (by omega)];rfl);rw [hbH.out] at k2;have k3:=aJ hF.own (j:=i*4+3) (u:=.int .i64 f.2.2.2) (by rw [aN _ _ i f _ hgx hy 3 (by omega)];rfl);have z1:=bf hF.own (i*4+1);have z2:=bf hF.own (i*4+2);have z3:=bf hF.own (i*4+3);have hgp:g≠w.heap.size:=by omega
  have hfe:s.2.1[i]=f:=hf.symm;clear hf;have hcel:=fun(k:Nat) (v:Value) (x':Fm) hk hx hc=>cT hF hi hy (x':=x') (k:=k) (v:=v) hk hx hc
  rw [hfe] at hcel;obtain⟨e0,e1,e2,e3⟩:=aa hp3;obtain⟨f0,f1,f2,f3⟩:=aa hq3;have hwy:∀b,aH (.slice Ay f.2.1.length cy) b→b≠g:=fun b hb e=>(hF.blk i _ b hy hb).2 (by rw [e];rfl)
  have hpz:(w3.setCell ⟨g,i*4+2,none⟩ (.bool false)).heap[w.heap.size]?=_:=(heap_setCell_other _ _ _ _ (by simp;omega)).trans hp3;have hrz:(w3.setCell ⟨g,i*4+2,none⟩ (.bool false)).heap[w.heap.size+1+1]?=_:=(heap_setCell_other _ _ _ _ (by simp;omega)).trans hr3;have hFz:=hcel 2 (.bool false) (f.1,f.2.1,false,f.2.2.2) (by omega) rfl rfl;obtain⟨hSz,hShz⟩:=rK (x:=s.2.2.1) (y:=s.2.2.2) hS3 (fun b hb=>heap_setCell_other _ _ _ _ (by
   have:=hS3.dis b hb;simp;exact fun e=>this (.inl (by rw [e];rfl)))) hFz (fun b hb=>.inl hb)
  have Bz:KeptX (ShS (.slice bA bn bc) (.slice (some ⟨g,0,none⟩) s.2.1.length fc) ys) w (w3.setCell ⟨g,i*4+2,none⟩ (.bool false)):=B3.setO _ _ (.inl (.inr (.inl rfl)));have hszz:w3.heap.size≤(w3.setCell ⟨g,i*4+2,none⟩ (.bool false)).heap.size:=by simp [Jx]
  go_upto_region 25 with fail
  clear e0 e1 e2 e3 f0 f1 f2 f3 k1 k2 k3 z1 z2 z3;obtain⟨a0,a1,a2,a3⟩:=aa hpz;obtain⟨g0,g1,g2,g3⟩:=aa hrz;obtain⟨j0,j1,j2,j3⟩:=aI hrz
  go_wp2
  obtain⟨d0,d1,d2,d3⟩:=aa (aF (.slice bA bn bc) (.slice (some ⟨g,0,none⟩) s.2.1.length fc) (.int .i64 s.2.2.1) (.int .i64 s.2.2.2) hrz);refine bodyPost_ret (by simp [results,Try.results91,go_sem,d0,d1,d2,d3];try rfl) rfl ?_
  rw [hhH.out,←hatH.out,haOH.out,hbH.out,haSH.out];exact lN hSz Bz (by omega) (fun b hb=>by
   rcases hShz b hb with h | h
   ·have:=hlt0 b h
    omega
   ·omega) (fun b hb=>(hShz b hb).imp (fun h=>h) fun h=>by omega)
end Go.Proofs.Ytkcojipciiakdaa

end
