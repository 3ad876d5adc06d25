/-
  A part of the proof: contracts and plain forms of functions beneath the statement, made small by a program (names shortened, what is not needed left out).
-/
import Derived.Test.YtkcojipciiakdaaDoorRows
import Derived.Test.YtkcojipciiakdaaDoorTie
import Derived.Test.YtkcojipciiakdaaDoorCards
import Derived.Test.YtkcojipciiakdaaDoorM7
import Derived.Deep.CutBlock
open List renaming setIfInBounds_toArray → JI, set_cons_zero → JJ, set_cons_succ → JK, mem_of_getElem? → JQ, mem_append → JR, mem_of_mem_take → JS, mem_of_mem_drop → JT, mem_singleton → JU, getElem?_eq_getElem → JV, length_take → JW, length_drop → JX, nil_append → Ka, eq_nil_of_length_eq_zero → Kf, mem_or_eq_of_mem_set → Kg
open Option.some renaming inj → JL
open Go.Act renaming put → JM
open Go.AllReadyH renaming cons → JN, nil → JO
open Or renaming inl → JP
open Go.World renaming setCell → JY
open Nat renaming min_eq_left → JZ, le_refl → Kb, lt_of_lt_of_le → Kc
open Array renaming replicate → Ke
open Go.Value.slice renaming injEq → Kh
open Go.RowKit.Below renaming refl → Ki
set_option maxRecDepth 100000
set_option linter.unusedSimpArgs false
set_option linter.unusedVariables false
noncomputable section
namespace Go.Proofs.YtkcojipciiakdaaDoor
open Go Go.Proofs Go.V Go.RowKit
set_option maxRecDepth 100000
theorem GH (s:Sp) (n:Int) (h:cm s) (hok:aE s=true):(dv (idP n) 0 s.2.1).elim (-1) (fun j=>(j:Int))=if gC s.2.1 n=true then(atF s.2.1 n:Int) else -1:=by
 have h1:=(iI s n h).symm.trans (nY s n h hok);simp only [Option.some.injEq,Out.ret.injEq,List.cons.injEq,D.v.injEq,Value.int.injEq,true_and,and_true] at h1;exact h1
theorem yi (s:Sp) (n:Int) (h:cm s) (hok:aE s=true) (l:List Bx) (x y:Int) (h2:cm (l,s.2.1,x,y)) {w:World} {F:Nat→Prop} {v:Value} (hr:aT w F (sp (l,s.2.1,x,y)) v) (hF:∀b,F b→b<w.heap.size) :
  Calls Tryd.prog 38 #[v,.int .i64 n] w fun e w'=>e = .returned (.int .i64 (if gC s.2.1 n=true then(atF s.2.1 n:Int) else -1))∧Below w.heap.size w w' :=
 wb (Go.Proofs.enters_of Tryd.func38 (by kernel_rfl) rfl) kU (by rw [←GH s n h hok];exact iI (l,s.2.1,x,y) n h2) hr hF
set_option maxHeartbeats 16000000 in
set_option maxRecDepth 1000000 in
theorem BO (s:Sp) (hs:cm s) (hok:aE s=true) (id:Int) (u:ByteArray) (n:Int) (hx:gw (1,id,u,n)=true) (w:World) (B:Nat) (v Vb Vf:Value) (ys:List Value) (hS0:ShopAt w B v Vb Vf ys s) (hB:B≤w.heap.size) :
  Calls Tryd.prog 80 #[v,.int .i64 id,.string u] w (pN w B (ShS Vb Vf ys) (nR s id u) (Db s id u)):=by
 obtain⟨hfm,hgc,hl5,hlost⟩:=bu hok;have hu:u.size≤16:=Cn hx rfl;obtain rfl:=hS0.val;obtain⟨oA,on_,oc,rfl⟩:=bQ hS0.box;obtain⟨A',c',rfl⟩:=cB hS0.fms.own;have hltw:=fun b hb=>(hS0.lt b hb).2
 have hbl:s.1.length≤1048576:=hs.1.1
 go_enter Tryd.func80,Tryd.ntmps80
 go_upto_region 1 with fail
 have hW:Below w.heap.size w ((w.alloc (.cells #[.slice oA on_ oc,.slice A' s.2.1.length c',.int .i64 s.2.2.1,.int .i64 s.2.2.2] 26)).alloc (.cells #[.slice none 0 0,.slice none 0 0,.int .i64 0,.int .i64 0] 26)):=((Ki _ w).alloc (Kb _) _).alloc (by simp) _;have hWs:w.heap.size+2≤((w.alloc (.cells #[.slice oA on_ oc,.slice A' s.2.1.length c',.int .i64 s.2.2.1,.int .i64 s.2.2.2] 26)).alloc (.cells #[.slice none 0 0,.slice none 0 0,.int .i64 0,.int .i64 0] 26)).heap.size:=by simp
 have hp:((w.alloc (.cells #[.slice oA on_ oc,.slice A' s.2.1.length c',.int .i64 s.2.2.1,.int .i64 s.2.2.2] 26)).alloc (.cells #[.slice none 0 0,.slice none 0 0,.int .i64 0,.int .i64 0] 26)).heap[w.heap.size]?=some (.cells #[.slice oA on_ oc,.slice A' s.2.1.length c',.int .i64 s.2.2.1,.int .i64 s.2.2.2] 26 (0,0)):=aj _ (al _ rfl);have hr:((w.alloc (.cells #[.slice oA on_ oc,.slice A' s.2.1.length c',.int .i64 s.2.2.1,.int .i64 s.2.2.2] 26)).alloc (.cells #[.slice none 0 0,.slice none 0 0,.int .i64 0,.int .i64 0] 26)).heap[w.heap.size+1]?=some (.cells #[.slice none 0 0,.slice none 0 0,.int .i64 0,.int .i64 0] 26 (0,0)):=al _ (by simp);have hS:=hS0.below hW;generalize ((w.alloc (.cells #[.slice oA on_ oc,.slice A' s.2.1.length c',.int .i64 s.2.2.1,.int .i64 s.2.2.2] 26)).alloc (.cells #[.slice none 0 0,.slice none 0 0,.int .i64 0,.int .i64 0] 26))=W at *;obtain⟨e0,e1,e2,e3⟩:=ab hp;have hc:=ym s.1 u hgc hbl (by omega) (gK hS.box) (dy hS.box)
 go_wp2_with (go_at_call 87;refine hc.mono ?_)
 intro e w2 hout;obtain⟨A2,n2,c2,rfl,own2,hv2,b2⟩:=hout;have hp2:=Below.some b2 hp;have hr2:=Below.some b2 hr;have hS2:=hS.below b2;have B2:KeptX (ShS (.slice oA on_ oc) (.slice A' s.2.1.length c') ys) w w2:=(KeptX.ofBelow hW).step b2;have hs2:W.heap.size≤w2.heap.size:=b2.size;clear hc b2 hp hr hS e0 e1 e2 e3;cases hwb:yY s.1 u
 ·obtain⟨g0,g1,g2,g3⟩:=ab hr2
  obtain⟨j0,j1,j2,j3⟩:=aZ hr2
  go_wp2
  obtain⟨d0,d1,d2,d3⟩:=ab (aK (.slice none 0 0) (.slice none 0 0) (.int .i64 0) (.int .i64 0) hr2);refine bodyPost_ret (by simp [results,Tryd.results80,go_sem,d0,d1,d2,d3];try rfl) rfl ?_
  rw [show nR s id u=false by simp [nR,hwb]];exact er B2 (by omega)
 obtain⟨hwl,hwc⟩:=vk hgc hwb;have hc3:=mS s.1 (gz s.1 u) (-1) hs.1 (by omega) hwc (gK hS2.box) (dy hS2.box) (gK own2) (dy own2);obtain⟨e0,e1,e2,e3⟩:=ab hp2
 go_wp2_with (go_at_call 25;refine hc3.mono ?_)
 intro e w3 hout;obtain⟨A,bn,c,rfl,own3,hv3,b3⟩:=hout;have hp3:=Below.some b3 hp2;have hr3:=Below.some b3 hr2;have hS3:=hS2.below b3;have own23:=bh.below own2 b3;have B3:KeptX (ShS (.slice oA on_ oc) (.slice A' s.2.1.length c') ys) w w3:=B2.step b3;have hs3:=b3.size;clear hc3 b3 hp2 hr2 own2 hS2 e0 e1 e2 e3;cases hgo:bp (bE (aU s.1) (-1) s.1 (gz s.1 u))
 ·obtain⟨g0,g1,g2,g3⟩:=ab hr3
  obtain⟨j0,j1,j2,j3⟩:=aZ hr3
  go_wp2
  obtain⟨d0,d1,d2,d3⟩:=ab (aK (.slice none 0 0) (.slice none 0 0) (.int .i64 0) (.int .i64 0) hr3);refine bodyPost_ret (by simp [results,Tryd.results80,go_sem,d0,d1,d2,d3];try rfl) rfl ?_
  rw [show nR s id u=false by simp [nR,hgo]];exact er B3 (by omega)
 have em:mvd s.1 (gz s.1 u) (-1)=bE (aU s.1) (-1) s.1 (gz s.1 u):=by
  unfold mvd;rw [if_pos hgo]
 rw [em] at own3;have hlb:=bz hp3;have hFb:∀b,FmS (.slice A' s.2.1.length c') ys b→b<w.heap.size:=fun b hb=>hltw b (.inr hb)
 have h3b:∀b,aM (.slice A bn c) b→w2.heap.size≤b∧b<w3.heap.size:=hv3;have h2b:∀b,aM (.slice A2 n2 c2) b→W.heap.size≤b∧b<w2.heap.size:=hv2;have hk:∀b,b≠w.heap.size→(w3.setCell ⟨w.heap.size,0,none⟩ (.slice A bn c)).heap[b]?=w3.heap[b]?:=fun b hb=>heap_setCell_other _ _ _ _ (by simpa using hb)
 have hp4:(w3.setCell ⟨w.heap.size,0,none⟩ (.slice A bn c)).heap[w.heap.size]?=some (.cells #[.slice A bn c,.slice A' s.2.1.length c',.int .i64 s.2.2.1,.int .i64 s.2.2.2] 26 (0,0)):=heap_setCell_same _ _ 0 _ _ (.slice A bn c) hp3;have hr4:=(hk (w.heap.size+1) (by omega)).trans hr3;have hF4:=hS3.fms.keep (w':=w3.setCell ⟨w.heap.size,0,none⟩ (.slice A bn c)) fun b hb=>hk b (by have:=hFb b hb;omega)
 have own24:=aY (w':=w3.setCell ⟨w.heap.size,0,none⟩ (.slice A bn c)) own23 fun b hb=>hk b (by have:=h2b b hb;omega)
 have own34:=aY (w':=w3.setCell ⟨w.heap.size,0,none⟩ (.slice A bn c)) own3 fun b hb=>hk b (by have:=h3b b hb;omega)
 have B4:KeptX (ShS (.slice oA on_ oc) (.slice A' s.2.1.length c') ys) w (w3.setCell ⟨w.heap.size,0,none⟩ (.slice A bn c)):=B3.setO _ _ (.inr (Kb _));have hs4:w3.heap.size≤(w3.setCell ⟨w.heap.size,0,none⟩ (.slice A bn c)).heap.size:=by simp [JY]
 obtain⟨e0,e1,e2,e3⟩:=ab hp3;obtain⟨f0,f1,f2,f3⟩:=aZ hp3
 go_upto_region 8 with fail
 clear e0 e1 e2 e3 f0 f1 f2 f3;generalize w3.setCell ⟨w.heap.size,0,none⟩ (.slice A bn c)=w3' at *;clear hp3 hr3 hS3 own23 own3 hv2 hv3 hk;have hS4':ShopAt w3' B (.agg #[.slice A bn c,.slice A' s.2.1.length c',.int .i64 s.2.2.1,.int .i64 s.2.2.2]) (.slice A bn c) (.slice A' s.2.1.length c') ys (bE (aU s.1) (-1) s.1 (gz s.1 u),s.2.1,s.2.2.1,s.2.2.2) :=
  ⟨rfl,own34,fun b hb=>by have:=h3b b hb;omega,hF4,fun b hb h=>by have:=h3b b hb;have:=hFb b h;omega⟩
 have hc:=yi s id hs hok _ _ _ ⟨iF hs.1 (eo _ _ _ _),hs.2⟩ hS4'.rep (fun b hb=>(hS4'.lt b hb).2);obtain⟨e0,e1,e2,e3⟩:=ab hp4
 go_upto_region 9 with (go_at_call 38;refine hc.mono ?_;rintro e w4 ⟨rfl,b5⟩)
 have hp4':=Below.some b5 hp4;have hr4':=Below.some b5 hr4;have hS4:=hS4'.below b5;have own24':=bh.below own24 b5;have own34':=bh.below own34 b5;have hF4':=hS4.fms;have B4':=B4.step b5;have hs4':=b5.size;clear hc b5 hS4' e0 e1 e2 e3 hp4 hr4 own24 own34 hF4 B4;generalize hpe:w.heap.size=p at *;have hpeH:Hid (w.heap.size=p):=hpe;clear hltw hpe;have hp4:=hp4';have hr4:=hr4';have own24:=own24';have own34:=own34';have hF4:=hF4';have B4:=B4';clear hp4' hr4' own24' own34' hF4' B4';have hpl4:=bz hp4;have hrl4:=bz hr4;have hlt4:=hF4.lt;have hat:=Bm s.2.1 id;have hais:=yo s.2.1 id;obtain⟨at_,hat_⟩:∃k,k=atF s.2.1 id:=⟨_,rfl⟩
 rw [←hat_] at hat hais ⊢;have hatH:Hid (at_=atF s.2.1 id):=hat_;clear hat_;have hBN:B≤w4.heap.size:=by omega
 have hnp:¬ShS (.slice A bn c) (.slice A' s.2.1.length c') ys p:=fun h=>h.elim (fun h=>by have:=h3b p h;omega) (fun h=>by have:=hFb p h;omega)
 go_upto_if 39 with fail
 go_cut [0,12] from 13 (fun _ t12 wc=>t12 = .int .i64 (at_:Int)∧JC w4 wc p B (.slice A bn c) (.slice A' s.2.1.length c') ys s.2.2.1 s.2.2.2 (ie s.2.1 id))
 case first =>
  clear hs hok hx hfm hgc hlost hu hbl hwl hwc own24 own34 hgo em hwb B2 B3;cases hhf:gC s.2.1 id
  ·obtain⟨i2,hi2,hx0,hx1,hx2⟩:=info_parts ij
   obtain⟨e0,e1,e2,e3⟩:=ab hp4;have hln:s.2.1.length≤5:=hl5;obtain⟨-,hlo,hhi⟩:=hais;have hX0:Below w4.heap.size w4 w4.drew:=ac w4;have hSd:w4.drew.cell? ⟨p,1,none⟩=some (.slice A' s.2.1.length c')∧w4.drew.cell? ⟨p,0,none⟩=some (.slice A bn c):=⟨e1,e0⟩
   have hcells:Hid (∀X:World,Below w4.heap.size w4 X→X.cell? ⟨p,1,none⟩=some (.slice A' s.2.1.length c')∧X.cell? ⟨p,0,none⟩=some (.slice A bn c)):=fun X hX=>⟨(ab ((hX.block p hpl4).trans hp4)).2.1,(ab ((hX.block p hpl4).trans hp4)).1⟩
   have hfmsX:Hid (∀X:World,Below w4.heap.size w4 X→FmsAt X B (.slice A' s.2.1.length c') ys s.2.1):=fun X hX=>hF4.keep fun b hb=>hX.block b (hlt4 b hb).2
   go_upto_block 0 with fail
   go_cut [12] from 13 (fun t12 wc=>t12 = .int .i64 (at_:Int)∧wc=w4)
   case first =>
    go_wp2
    go_loopw [12] (fun v12 wr=>∃j:Nat,v12 = .int .i64 (j:Int)∧j≤at_∧wr=w4) (fun v12 _=>at_ - (intOf v12).toNat)
    case atStart=>exact⟨0,rfl,Nat.zero_le _,rfl⟩
    case round =>
     obtain⟨j,rfl,hj,rfl⟩:=hrel;by_cases hjl:j<at_
     ·have hjs:j<s.2.1.length:=by omega
      have hjs':(j:Int)<(s.2.1.length:Int):=by omega
      obtain⟨y,hy⟩:∃y,ys[j]?=some y:=⟨ys[j]'(by rw [hF4.len];exact hjs),JV _⟩
      have hlt:=hlo j hjs hjl;obtain⟨g,rfl⟩:=gT hF4.own (by omega);have k0:=aW hF4.own (j:=j*4) (u:=.int .i64 s.2.1[j].1) (by rw [show j*4=j*4+0 by omega,be _ _ j s.2.1[j] _ (JV hjs) hy 0 (by omega)];rfl);have hw:IntKind.i64.wrap ((j:Int)+1)=((j+1:Nat):Int):=by rw [ax (by omega) (by omega)];omega
      go_wp2
      refine⟨⟨j+1,rfl,by omega,by trivial⟩,?_⟩
      show at_ - (((j+1:Nat):Int)).toNat<at_ - ((j:Int)).toNat
      omega
     ·obtain rfl:j=at_:=by omega
      by_cases hjs:j<s.2.1.length
      ·have hjs':(j:Int)<(s.2.1.length:Int):=by omega
       obtain⟨y,hy⟩:∃y,ys[j]?=some y:=⟨ys[j]'(by rw [hF4.len];exact hjs),JV _⟩
       have hlt:=hhi hjs;obtain⟨g,rfl⟩:=gT hF4.own (by omega);have k0:=aW hF4.own (j:=j*4) (u:=.int .i64 s.2.1[j].1) (by rw [show j*4=j*4+0 by omega,be _ _ j s.2.1[j] _ (JV hjs) hy 0 (by omega)];rfl)
       go_wp2
       go_meet
       case rel=>exact⟨rfl,rfl⟩
      ·have hjs':¬(j:Int)<(s.2.1.length:Int):=by omega
       go_wp2
       go_meet
       case rel=>exact⟨rfl,rfl⟩
   case rest =>
    obtain⟨rfl,rfl⟩:=hcut
    go_upto_region 13 with fail
    rcases hF4.own.2 with ⟨eA,hl0⟩ | ⟨g,cap,cur,eA,_⟩
    ·simp only [Kh] at eA
     obtain⟨rfl,hl0',rfl⟩:=eA;have hs0:s.2.1=[]:=Kf hl0;have hy0:ys=[]:=Kf (by rw [hF4.len,hs0];rfl);obtain rfl:at_=0:=by omega
     subst hy0;replace hcells:Hid (∀X:World,Below wc.heap.size wc X→X.cell? ⟨p,1,none⟩=some (.slice none 0 0)∧X.cell? ⟨p,0,none⟩=some (.slice A bn c)):=fun X hX=>by
      have h:=hcells.out X hX;rw [hs0] at h;exact h
     replace hSd:=hcells.out _ hX0;refine cO (l:=[_,_,_,_,_,_,_,_,_,_,_,_,_,_,_,_]) (o:=_) (S:=fun w'=>w'.cell? ⟨p,1,none⟩=some (.slice none 0 0)∧w'.cell? ⟨p,0,none⟩=some (.slice A bn c)) (by kernel_rfl) (by kernel_rfl) hSd (fun hHeld=>?_)
     change wpAnyH _ _ _ _ _ 16 (Ke 16 false) _ _
     generalize wc.drew=W0 at *;have hX:=hX0;refine wpAnyH_take (i:=1) (oi:=_) (v:=?vn1) rfl (by kernel_rfl) (by kernel_rfl) (by kernel_rfl) (fun _ _ _ h=>h) (JP ⟨by rfl,?yn1⟩) hHeld ?rn1
     case yn1=>(intro w0 hSw;obtain⟨hSw0,hSw1⟩:=hSw;go_simp;try with_reducible rfl)
     (try simp only [JM,JI,JJ,JK])
     refine wpAnyH_take (i:=2) (oi:=_) (v:=?vn2) rfl (by kernel_rfl) (by kernel_rfl) (by kernel_rfl) (fun _ _ _ h=>h) (JP ⟨by rfl,?yn2⟩) hHeld ?rn2
     case yn2=>(intro w0 hSw;obtain⟨hSw0,hSw1⟩:=hSw;go_simp;try with_reducible rfl)
     (try simp only [JM,JI,JJ,JK])
     refine wpAnyH_take (i:=3) (oi:=_) (v:=?vn3) rfl (by kernel_rfl) (by kernel_rfl) (by kernel_rfl) (fun _ _ _ h=>h) (JP ⟨by rfl,?yn3⟩) hHeld ?rn3
     case yn3=>(intro w0 hSw;obtain⟨hSw0,hSw1⟩:=hSw;go_simp;try with_reducible rfl)
     (try simp only [JM,JI,JJ,JK])
     refine wpAnyH_take (i:=4) (oi:=_) (v:=?vn4) rfl (by kernel_rfl) (by kernel_rfl) (by kernel_rfl) (fun _ _ _ h=>h) (JP ⟨by rfl,?yn4⟩) hHeld ?rn4
     case yn4=>(intro w0 hSw;obtain⟨hSw0,hSw1⟩:=hSw;go_simp;try with_reducible rfl)
     (try simp only [JM,JI,JJ,JK])
     refine wpAnyH_take (i:=6) (oi:=_) (v:=?vn5) rfl (by kernel_rfl) (by kernel_rfl) (by kernel_rfl) (fun _ _ _ h=>h) (JP ⟨by rfl,?yn5⟩) hHeld ?rn5
     case yn5=>(intro w0 hSw;obtain⟨hSw0,hSw1⟩:=hSw;go_simp;try with_reducible rfl)
     (try simp only [JM,JI,JJ,JK])
     refine wpAnyH_take (i:=7) (oi:=_) (v:=?vn6) rfl (by kernel_rfl) (by kernel_rfl) (by kernel_rfl) (fun _ _ _ h=>h) (JP ⟨by rfl,?yn6⟩) hHeld ?rn6
     case yn6=>(intro w0 hSw;obtain⟨hSw0,hSw1⟩:=hSw;go_simp;try with_reducible rfl)
     (try simp only [JM,JI,JJ,JK])
     refine wpAnyH_take (i:=10) (oi:=_) (v:=?vn7) rfl (by kernel_rfl) (by kernel_rfl) (by kernel_rfl) (fun _ _ _ h=>h) (JP ⟨by rfl,?yn7⟩) hHeld ?rn7
     case yn7=>(intro w0 hSw;obtain⟨hSw0,hSw1⟩:=hSw;go_simp;try with_reducible rfl)
     (try simp only [JM,JI,JJ,JK])
     refine wpAnyH_take (i:=11) (oi:=_) (v:=?vn8) rfl (by kernel_rfl) (by kernel_rfl) (by kernel_rfl) (fun _ _ _ h=>h) (JP ⟨by rfl,?yn8⟩) hHeld ?rn8
     case yn8=>(intro w0 hSw;obtain⟨hSw0,hSw1⟩:=hSw;go_simp;try with_reducible rfl)
     (try simp only [JM,JI,JJ,JK])
     refine wpAnyH_take (i:=12) (oi:=_) (v:=?vn9) rfl (by kernel_rfl) (by kernel_rfl) (by kernel_rfl) (fun _ _ _ h=>h) (JP ⟨by rfl,?yn9⟩) hHeld ?rn9
     case yn9=>(intro w0 hSw;obtain⟨hSw0,hSw1⟩:=hSw;go_simp;try with_reducible rfl)
     (try simp only [JM,JI,JJ,JK])
     refine wpAnyH_take (i:=13) (oi:=_) (v:=?vn10) rfl (by kernel_rfl) (by kernel_rfl) (by kernel_rfl) (fun _ _ _ h=>h) (JP ⟨by rfl,?yn10⟩) hHeld ?rn10
     case yn10=>(intro w0 hSw;obtain⟨hSw0,hSw1⟩:=hSw;go_simp;try with_reducible rfl)
     (try simp only [JM,JI,JJ,JK])
     refine wpAnyH_ready (rs:=[0,8]) (by kernel_rfl) (by simp) ?_
     refine JN (o:=_) rfl (fun K hK=>?_) ?_
     ·go_simp
      have hX:=hX.alloc hX.size (.cells #[] 42);have hE:(W0.alloc (.cells #[] 42)).heap[W0.heap.size]?=some (.cells #[] 42 (0,0)):=al _ (by simp);refine hK.out _ _ ?_ (fun hHeld=>?_)
      ·exact hcells.out _ hX
      clear hK K
      (try simp only [JM,JI,JJ,JK])
      refine wpAnyH_ready (rs:=[5,8]) (by kernel_rfl) (by simp) ?_
      refine JN (o:=_) rfl (fun K hK=>?_) ?_
      ·refine aB _ rfl _ _ 24 rfl B 42 i2 (.agg #[.int .i64 0,.slice none 0 0,.bool false,.int .i64 0]) 4 48 Tryd.underlying24 hi2 hx0 hx1 hx2 rfl (by decide) (.slice (some ⟨W0.heap.size,0,none⟩) 0 0) 0 [] (by simp [go_sem];done) (dj hE (by have:=hX0.size;omega)) none 0 0 [] (by simp [go_sem,sliced];done) rfl (fun h=>absurd rfl h) (fun u hu=>by cases hu) (by unfold maxLen;omega) (by omega) (by have:=hX.size;omega) ?_
       intro v5 w5 hown5 hg5 hat5;have hV1:FmsAt w5 B v5 [] []:=⟨rfl,by simpa [bK] using hown5,fun i x y hx=>by simp at hx,fun i y b hy=>by simp at hy,fun i j y z _ hi=>by simp at hi⟩
       have hf1:∀b,FmS v5 [] b→FmS (.slice none 0 0) [] b∨wc.heap.size≤b:=fun b hb=>by
        rcases hb with hb | ⟨z,hz,hzb⟩
        ·rcases hat5 with h | h
         ·have e:some b=some (W0.heap.size):=hb.symm.trans h
          have:=JL e;have:=hX0.size;exact .inr (by omega)
         ·have e:some b=some ((W0.alloc (.cells #[] 42)).heap.size):=hb.symm.trans h
          have:=JL e;have:=hX.size;exact .inr (by omega)
        ·cases hz
       have hge5:∀b,aM v5 b→wc.heap.size≤b:=fun b hb=>by
        rcases hat5 with h | h
        ·have e:some b=some (W0.heap.size):=hb.symm.trans h
         have:=JL e;have:=hX0.size;omega
        ·have e:some b=some ((W0.alloc (.cells #[] 42)).heap.size):=hb.symm.trans h
         have:=JL e;have:=hX.size;omega
       have hX:=hX.grown hg5 hX.size (fun k hk=>by have e:W0.heap.size=k:=JL hk;have:=hX0.size;omega);obtain⟨A5,n5,c5,rfl⟩:=aN hV1.own;clear hat5;refine hK.out _ _ ?_ (fun hHeld=>?_)
       ·exact hcells.out _ hX
       clear hK K
       (try simp only [JM,JI,JJ,JK])
       refine wpAnyH_ready (rs:=[8]) (by kernel_rfl) (by simp) ?_
       refine JN (o:=_) rfl (fun K hK=>?_) ?_
       ·go_simp
        have hX:=hX.alloc hX.size (.cells #[.int .i64 id,.slice none 0 0,.bool false,.int .i64 0] 42);have hM:(w5.alloc (.cells #[.int .i64 id,.slice none 0 0,.bool false,.int .i64 0] 42)).heap[w5.heap.size]?=some (.cells #[.int .i64 id,.slice none 0 0,.bool false,.int .i64 0] 42 (0,0)):=al _ (by simp);have hV1:=hV1.keep (w':=(w5.alloc (.cells #[.int .i64 id,.slice none 0 0,.bool false,.int .i64 0] 42))) fun b hb=>fk _ (hV1.lt b hb).2
        refine hK.out _ _ ?_ (fun hHeld=>?_)
        ·exact hcells.out _ hX
        clear hK K
        (try simp only [JM,JI,JJ,JK])
        refine wpAnyH_ready (rs:=[9]) (by kernel_rfl) (by simp) ?_
        refine JN (o:=_) rfl (fun K hK=>?_) ?_
        ·refine aB _ rfl _ _ 24 rfl B 42 i2 (.agg #[.int .i64 0,.slice none 0 0,.bool false,.int .i64 0]) 4 48 Tryd.underlying24 hi2 hx0 hx1 hx2 rfl (by decide) (.slice A5 n5 c5) _ _ (by simp [go_sem];done) hV1.own (some ⟨w5.heap.size,0,none⟩) 1 1 [.int .i64 id,.slice none 0 0,.bool false,.int .i64 0] (by simp [go_sem];done) rfl (fun _=>⟨_,_,rfl,dM hM⟩) (by intro u hu;simp at hu;rcases hu with rfl | rfl | rfl | rfl<;>rfl) (by unfold maxLen;simp;try omega) (by simp;try omega) (by have:=hX.size;omega) ?_
         intro v6 w6 hown6 hg6 hat6;have hV2:=en (x:=(id,[],false,0)) (y:=.slice none 0 0) hV1 (by have:=hX.size;omega) hown6 hg6 hat6 (kI _ _ _ _) (fun b hb=>by cases hb);have hf2:∀b,FmS v6 ([]++[.slice none 0 0]) b→FmS (.slice none 0 0) [] b∨wc.heap.size≤b:=fun b hb=>by
          rcases hb with hb | ⟨z,hz,hzb⟩
          ·rcases hat6 with h | h
           ·exact hf1 b (.inl (hb.symm.trans h).symm)
           ·have e:some b=some ((w5.alloc (.cells #[.int .i64 id,.slice none 0 0,.bool false,.int .i64 0] 42)).heap.size):=hb.symm.trans h
            have:=JL e;have:=hX.size;exact .inr (by omega)
          ·rcases JR.1 hz with hz | hz
           ·exact hf1 b (.inr ⟨z,hz,hzb⟩)
           ·obtain rfl:=JU.1 hz
            cases hzb
         have hge6:∀b,aM v6 b→wc.heap.size≤b:=fun b hb=>by
          rcases hat6 with h | h
          ·exact hge5 b (h.symm.trans hb)
          ·have e:some b=some ((w5.alloc (.cells #[.int .i64 id,.slice none 0 0,.bool false,.int .i64 0] 42)).heap.size):=hb.symm.trans h
           have:=JL e;have:=hX.size;omega
         have hX:=hX.grown hg6 hX.size (fun k hk=>hge5 k hk);obtain⟨A6,n6,c6,rfl⟩:=aN hV2.own;clear hat6;refine hK.out _ _ ?_ (fun hHeld=>?_)
         ·exact hcells.out _ hX
         clear hK K
         (try simp only [JM,JI,JJ,JK])
         refine wpAnyH_ready (rs:=[14]) (by kernel_rfl) (by simp) ?_
         refine JN (o:=_) rfl (fun K hK=>?_) ?_
         ·refine aB _ rfl _ _ 24 rfl B 42 i2 (.agg #[.int .i64 0,.slice none 0 0,.bool false,.int .i64 0]) 4 48 Tryd.underlying24 hi2 hx0 hx1 hx2 rfl (by decide) (.slice A6 n6 c6) _ _ (by simp [go_sem];done) hV2.own none 0 0 [] (by simp [go_sem,sliced];done) rfl (fun h=>absurd rfl h) (fun u hu=>by cases hu) (by unfold maxLen;simp;try omega) (by simp;try omega) (by have:=hX.size;omega) ?_
          intro v7 w7 hown7 hg7 hat7;have hV3:=dB hV2 (m:=[]) (zs:=[]) (by have:=hX.size;omega) (by simpa [bK] using hown7) hg7 hat7 rfl (fun i x y hx=>by simp at hx) (fun i y b hj=>by simp at hj) (fun i j y z _ hi=>by simp at hi);have hf3:∀b,FmS v7 (([]++[.slice none 0 0])++[]) b→wc.heap.size≤b:=fun b hb=>by
           rcases hb with hb | ⟨z,hz,hzb⟩
           ·rcases hat7 with h | h
            ·exact hge6 b (h.symm.trans hb)
            ·have e:some b=some (w6.heap.size):=hb.symm.trans h
             have:=JL e;have:=hX.size;omega
           ·simp at hz
            subst hz;cases hzb
          have hX:=hX.grown hg7 hX.size (fun k hk=>hge6 k hk);obtain⟨A7,n7,c7,rfl⟩:=aN hV3.own;clear hat7;refine hK.out _ _ ?_ (fun hHeld=>?_)
          ·exact hcells.out _ hX
          clear hK K
          (try simp only [JM,JI,JJ,JK])
          refine wpAnyH_take (i:=15) (oi:=_) (v:=?vn11) rfl (by kernel_rfl) (by kernel_rfl) (by kernel_rfl) (fun _ _ _ h=>h) (JP ⟨by rfl,?yn11⟩) hHeld ?rn11
          case yn11=>(intro w0 hSw;obtain⟨hSw0,hSw1⟩:=hSw;go_simp;try with_reducible rfl)
          (try simp only [JM,JI,JJ,JK])
          refine bH (by kernel_rfl) ?_
          have hp7:=(hX.block p hpl4).trans hp4;have g1:=(ab hp7).2.1;have h1:=(aZ hp7).2.1;have hp8:(w7.setCell ⟨p,1,none⟩ (.slice A7 n7 c7)).heap[p]?=some (.cells #[.slice A bn c,.slice A7 n7 c7,.int .i64 s.2.2.1,.int .i64 s.2.2.2] 26 (0,0)):=heap_setCell_same _ _ 1 _ _ (.slice A7 n7 c7) hp7;have hV4:=hV3.keep (w':=w7.setCell ⟨p,1,none⟩ (.slice A7 n7 c7)) fun b hb=>heap_setCell_other _ _ _ _ (by
           simp;rintro rfl;have:=hf3 _ hb;omega)
          have eI:ie s.2.1 id=([]++[(id,[],false,0)])++[]:=by
           unfold ie;rw [if_neg (by simp [hhf]),hs0];simp
          go_simp
          go_wp2
          all_goals (
           go_meet
           case rel=>exact⟨rfl,A7,n7,c7,_,hp8,by rw [eI];exact hV4,fun b hb=>.inr (hf3 b hb),fun b hb hne=>(heap_setCell_other _ _ _ _ (by simpa using hne)).trans (hX.block b hb),by simp [JY];exact hX.size,hX.os,hX.tape,hX.output⟩)
         exact JO
        exact JO
       exact JO
      refine JN (o:=_) rfl (fun K hK=>?_) ?_
      ·go_simp
       have hX:=hX.alloc hX.size (.cells #[.int .i64 id,.slice none 0 0,.bool false,.int .i64 0] 42);have hM:((W0.alloc (.cells #[] 42)).alloc (.cells #[.int .i64 id,.slice none 0 0,.bool false,.int .i64 0] 42)).heap[W0.heap.size+1]?=some (.cells #[.int .i64 id,.slice none 0 0,.bool false,.int .i64 0] 42 (0,0)):=al _ (by simp);have hE:=aj (.cells #[.int .i64 id,.slice none 0 0,.bool false,.int .i64 0] 42) hE;refine hK.out _ _ ?_ (fun hHeld=>?_)
       ·exact hcells.out _ hX
       clear hK K
       (try simp only [JM,JI,JJ,JK])
       refine wpAnyH_ready (rs:=[5]) (by kernel_rfl) (by simp) ?_
       refine JN (o:=_) rfl (fun K hK=>?_) ?_
       ·refine aB _ rfl _ _ 24 rfl B 42 i2 (.agg #[.int .i64 0,.slice none 0 0,.bool false,.int .i64 0]) 4 48 Tryd.underlying24 hi2 hx0 hx1 hx2 rfl (by decide) (.slice (some ⟨W0.heap.size,0,none⟩) 0 0) 0 [] (by simp [go_sem];done) (dj hE (by have:=hX0.size;omega)) none 0 0 [] (by simp [go_sem,sliced];done) rfl (fun h=>absurd rfl h) (fun u hu=>by cases hu) (by unfold maxLen;omega) (by omega) (by have:=hX.size;omega) ?_
        intro v5 w5 hown5 hg5 hat5;have hV1:FmsAt w5 B v5 [] []:=⟨rfl,by simpa [bK] using hown5,fun i x y hx=>by simp at hx,fun i y b hy=>by simp at hy,fun i j y z _ hi=>by simp at hi⟩
        have hf1:∀b,FmS v5 [] b→FmS (.slice none 0 0) [] b∨wc.heap.size≤b:=fun b hb=>by
         rcases hb with hb | ⟨z,hz,hzb⟩
         ·rcases hat5 with h | h
          ·have e:some b=some (W0.heap.size):=hb.symm.trans h
           have:=JL e;have:=hX0.size;exact .inr (by omega)
          ·have e:some b=some (((W0.alloc (.cells #[] 42)).alloc (.cells #[.int .i64 id,.slice none 0 0,.bool false,.int .i64 0] 42)).heap.size):=hb.symm.trans h
           have:=JL e;have:=hX.size;exact .inr (by omega)
         ·cases hz
        have hge5:∀b,aM v5 b→wc.heap.size≤b:=fun b hb=>by
         rcases hat5 with h | h
         ·have e:some b=some (W0.heap.size):=hb.symm.trans h
          have:=JL e;have:=hX0.size;omega
         ·have e:some b=some (((W0.alloc (.cells #[] 42)).alloc (.cells #[.int .i64 id,.slice none 0 0,.bool false,.int .i64 0] 42)).heap.size):=hb.symm.trans h
          have:=JL e;have:=hX.size;omega
        have hM:=(hg5.block (W0.heap.size+1) (bz hM) (fun h=>by have e:W0.heap.size+1=W0.heap.size:=JL h;omega)).trans hM;have hX:=hX.grown hg5 hX.size (fun k hk=>by have e:W0.heap.size=k:=JL hk;have:=hX0.size;omega);obtain⟨A5,n5,c5,rfl⟩:=aN hV1.own;clear hat5;refine hK.out _ _ ?_ (fun hHeld=>?_)
        ·exact hcells.out _ hX
        clear hK K
        (try simp only [JM,JI,JJ,JK])
        refine wpAnyH_ready (rs:=[9]) (by kernel_rfl) (by simp) ?_
        refine JN (o:=_) rfl (fun K hK=>?_) ?_
        ·refine aB _ rfl _ _ 24 rfl B 42 i2 (.agg #[.int .i64 0,.slice none 0 0,.bool false,.int .i64 0]) 4 48 Tryd.underlying24 hi2 hx0 hx1 hx2 rfl (by decide) (.slice A5 n5 c5) _ _ (by simp [go_sem];done) hV1.own (some ⟨W0.heap.size+1,0,none⟩) 1 1 [.int .i64 id,.slice none 0 0,.bool false,.int .i64 0] (by simp [go_sem];done) rfl (fun _=>⟨_,_,rfl,dM hM⟩) (by intro u hu;simp at hu;rcases hu with rfl | rfl | rfl | rfl<;>rfl) (by unfold maxLen;simp;try omega) (by simp;try omega) (by have:=hX.size;omega) ?_
         intro v6 w6 hown6 hg6 hat6;have hV2:=en (x:=(id,[],false,0)) (y:=.slice none 0 0) hV1 (by have:=hX.size;omega) hown6 hg6 hat6 (kI _ _ _ _) (fun b hb=>by cases hb);have hf2:∀b,FmS v6 ([]++[.slice none 0 0]) b→FmS (.slice none 0 0) [] b∨wc.heap.size≤b:=fun b hb=>by
          rcases hb with hb | ⟨z,hz,hzb⟩
          ·rcases hat6 with h | h
           ·exact hf1 b (.inl (hb.symm.trans h).symm)
           ·have e:some b=some (w5.heap.size):=hb.symm.trans h
            have:=JL e;have:=hX.size;exact .inr (by omega)
          ·rcases JR.1 hz with hz | hz
           ·exact hf1 b (.inr ⟨z,hz,hzb⟩)
           ·obtain rfl:=JU.1 hz
            cases hzb
         have hge6:∀b,aM v6 b→wc.heap.size≤b:=fun b hb=>by
          rcases hat6 with h | h
          ·exact hge5 b (h.symm.trans hb)
          ·have e:some b=some (w5.heap.size):=hb.symm.trans h
           have:=JL e;have:=hX.size;omega
         have hX:=hX.grown hg6 hX.size (fun k hk=>hge5 k hk);obtain⟨A6,n6,c6,rfl⟩:=aN hV2.own;clear hat6;refine hK.out _ _ ?_ (fun hHeld=>?_)
         ·exact hcells.out _ hX
         clear hK K
         (try simp only [JM,JI,JJ,JK])
         refine wpAnyH_ready (rs:=[14]) (by kernel_rfl) (by simp) ?_
         refine JN (o:=_) rfl (fun K hK=>?_) ?_
         ·refine aB _ rfl _ _ 24 rfl B 42 i2 (.agg #[.int .i64 0,.slice none 0 0,.bool false,.int .i64 0]) 4 48 Tryd.underlying24 hi2 hx0 hx1 hx2 rfl (by decide) (.slice A6 n6 c6) _ _ (by simp [go_sem];done) hV2.own none 0 0 [] (by simp [go_sem,sliced];done) rfl (fun h=>absurd rfl h) (fun u hu=>by cases hu) (by unfold maxLen;simp;try omega) (by simp;try omega) (by have:=hX.size;omega) ?_
          intro v7 w7 hown7 hg7 hat7;have hV3:=dB hV2 (m:=[]) (zs:=[]) (by have:=hX.size;omega) (by simpa [bK] using hown7) hg7 hat7 rfl (fun i x y hx=>by simp at hx) (fun i y b hj=>by simp at hj) (fun i j y z _ hi=>by simp at hi);have hf3:∀b,FmS v7 (([]++[.slice none 0 0])++[]) b→wc.heap.size≤b:=fun b hb=>by
           rcases hb with hb | ⟨z,hz,hzb⟩
           ·rcases hat7 with h | h
            ·exact hge6 b (h.symm.trans hb)
            ·have e:some b=some (w6.heap.size):=hb.symm.trans h
             have:=JL e;have:=hX.size;omega
           ·simp at hz
            subst hz;cases hzb
          have hX:=hX.grown hg7 hX.size (fun k hk=>hge6 k hk);obtain⟨A7,n7,c7,rfl⟩:=aN hV3.own;clear hat7;refine hK.out _ _ ?_ (fun hHeld=>?_)
          ·exact hcells.out _ hX
          clear hK K
          (try simp only [JM,JI,JJ,JK])
          refine wpAnyH_take (i:=15) (oi:=_) (v:=?vn12) rfl (by kernel_rfl) (by kernel_rfl) (by kernel_rfl) (fun _ _ _ h=>h) (JP ⟨by rfl,?yn12⟩) hHeld ?rn12
          case yn12=>(intro w0 hSw;obtain⟨hSw0,hSw1⟩:=hSw;go_simp;try with_reducible rfl)
          (try simp only [JM,JI,JJ,JK])
          refine bH (by kernel_rfl) ?_
          have hp7:=(hX.block p hpl4).trans hp4;have g1:=(ab hp7).2.1;have h1:=(aZ hp7).2.1;have hp8:(w7.setCell ⟨p,1,none⟩ (.slice A7 n7 c7)).heap[p]?=some (.cells #[.slice A bn c,.slice A7 n7 c7,.int .i64 s.2.2.1,.int .i64 s.2.2.2] 26 (0,0)):=heap_setCell_same _ _ 1 _ _ (.slice A7 n7 c7) hp7;have hV4:=hV3.keep (w':=w7.setCell ⟨p,1,none⟩ (.slice A7 n7 c7)) fun b hb=>heap_setCell_other _ _ _ _ (by
           simp;rintro rfl;have:=hf3 _ hb;omega)
          have eI:ie s.2.1 id=([]++[(id,[],false,0)])++[]:=by
           unfold ie;rw [if_neg (by simp [hhf]),hs0];simp
          go_simp
          go_wp2
          all_goals (
           go_meet
           case rel=>exact⟨rfl,A7,n7,c7,_,hp8,by rw [eI];exact hV4,fun b hb=>.inr (hf3 b hb),fun b hb hne=>(heap_setCell_other _ _ _ _ (by simpa using hne)).trans (hX.block b hb),by simp [JY];exact hX.size,hX.os,hX.tape,hX.output⟩)
         exact JO
        exact JO
       exact JO
      exact JO
     refine JN (o:=_) rfl (fun K hK=>?_) ?_
     ·go_simp
      have hX:=hX.alloc hX.size (.cells #[.int .i64 id,.slice none 0 0,.bool false,.int .i64 0] 42);have hM:(W0.alloc (.cells #[.int .i64 id,.slice none 0 0,.bool false,.int .i64 0] 42)).heap[W0.heap.size]?=some (.cells #[.int .i64 id,.slice none 0 0,.bool false,.int .i64 0] 42 (0,0)):=al _ (by simp);refine hK.out _ _ ?_ (fun hHeld=>?_)
      ·exact hcells.out _ hX
      clear hK K
      (try simp only [JM,JI,JJ,JK])
      refine wpAnyH_ready (rs:=[0]) (by kernel_rfl) (by simp) ?_
      refine JN (o:=_) rfl (fun K hK=>?_) ?_
      ·go_simp
       have hX:=hX.alloc hX.size (.cells #[] 42);have hE:((W0.alloc (.cells #[.int .i64 id,.slice none 0 0,.bool false,.int .i64 0] 42)).alloc (.cells #[] 42)).heap[W0.heap.size+1]?=some (.cells #[] 42 (0,0)):=al _ (by simp);have hM:=aj (.cells #[] 42) hM;refine hK.out _ _ ?_ (fun hHeld=>?_)
       ·exact hcells.out _ hX
       clear hK K
       (try simp only [JM,JI,JJ,JK])
       refine wpAnyH_ready (rs:=[5]) (by kernel_rfl) (by simp) ?_
       refine JN (o:=_) rfl (fun K hK=>?_) ?_
       ·refine aB _ rfl _ _ 24 rfl B 42 i2 (.agg #[.int .i64 0,.slice none 0 0,.bool false,.int .i64 0]) 4 48 Tryd.underlying24 hi2 hx0 hx1 hx2 rfl (by decide) (.slice (some ⟨W0.heap.size+1,0,none⟩) 0 0) 0 [] (by simp [go_sem];done) (dj hE (by have:=hX0.size;omega)) none 0 0 [] (by simp [go_sem,sliced];done) rfl (fun h=>absurd rfl h) (fun u hu=>by cases hu) (by unfold maxLen;omega) (by omega) (by have:=hX.size;omega) ?_
        intro v5 w5 hown5 hg5 hat5;have hV1:FmsAt w5 B v5 [] []:=⟨rfl,by simpa [bK] using hown5,fun i x y hx=>by simp at hx,fun i y b hy=>by simp at hy,fun i j y z _ hi=>by simp at hi⟩
        have hf1:∀b,FmS v5 [] b→FmS (.slice none 0 0) [] b∨wc.heap.size≤b:=fun b hb=>by
         rcases hb with hb | ⟨z,hz,hzb⟩
         ·rcases hat5 with h | h
          ·have e:some b=some (W0.heap.size+1):=hb.symm.trans h
           have:=JL e;have:=hX0.size;exact .inr (by omega)
          ·have e:some b=some (((W0.alloc (.cells #[.int .i64 id,.slice none 0 0,.bool false,.int .i64 0] 42)).alloc (.cells #[] 42)).heap.size):=hb.symm.trans h
           have:=JL e;have:=hX.size;exact .inr (by omega)
         ·cases hz
        have hge5:∀b,aM v5 b→wc.heap.size≤b:=fun b hb=>by
         rcases hat5 with h | h
         ·have e:some b=some (W0.heap.size+1):=hb.symm.trans h
          have:=JL e;have:=hX0.size;omega
         ·have e:some b=some (((W0.alloc (.cells #[.int .i64 id,.slice none 0 0,.bool false,.int .i64 0] 42)).alloc (.cells #[] 42)).heap.size):=hb.symm.trans h
          have:=JL e;have:=hX.size;omega
        have hM:=(hg5.block (W0.heap.size) (bz hM) (fun h=>by have e:W0.heap.size=W0.heap.size+1:=JL h;omega)).trans hM;have hX:=hX.grown hg5 hX.size (fun k hk=>by have e:W0.heap.size+1=k:=JL hk;have:=hX0.size;omega);obtain⟨A5,n5,c5,rfl⟩:=aN hV1.own;clear hat5;refine hK.out _ _ ?_ (fun hHeld=>?_)
        ·exact hcells.out _ hX
        clear hK K
        (try simp only [JM,JI,JJ,JK])
        refine wpAnyH_ready (rs:=[9]) (by kernel_rfl) (by simp) ?_
        refine JN (o:=_) rfl (fun K hK=>?_) ?_
        ·refine aB _ rfl _ _ 24 rfl B 42 i2 (.agg #[.int .i64 0,.slice none 0 0,.bool false,.int .i64 0]) 4 48 Tryd.underlying24 hi2 hx0 hx1 hx2 rfl (by decide) (.slice A5 n5 c5) _ _ (by simp [go_sem];done) hV1.own (some ⟨W0.heap.size,0,none⟩) 1 1 [.int .i64 id,.slice none 0 0,.bool false,.int .i64 0] (by simp [go_sem];done) rfl (fun _=>⟨_,_,rfl,dM hM⟩) (by intro u hu;simp at hu;rcases hu with rfl | rfl | rfl | rfl<;>rfl) (by unfold maxLen;simp;try omega) (by simp;try omega) (by have:=hX.size;omega) ?_
         intro v6 w6 hown6 hg6 hat6;have hV2:=en (x:=(id,[],false,0)) (y:=.slice none 0 0) hV1 (by have:=hX.size;omega) hown6 hg6 hat6 (kI _ _ _ _) (fun b hb=>by cases hb);have hf2:∀b,FmS v6 ([]++[.slice none 0 0]) b→FmS (.slice none 0 0) [] b∨wc.heap.size≤b:=fun b hb=>by
          rcases hb with hb | ⟨z,hz,hzb⟩
          ·rcases hat6 with h | h
           ·exact hf1 b (.inl (hb.symm.trans h).symm)
           ·have e:some b=some (w5.heap.size):=hb.symm.trans h
            have:=JL e;have:=hX.size;exact .inr (by omega)
          ·rcases JR.1 hz with hz | hz
           ·exact hf1 b (.inr ⟨z,hz,hzb⟩)
           ·obtain rfl:=JU.1 hz
            cases hzb
         have hge6:∀b,aM v6 b→wc.heap.size≤b:=fun b hb=>by
          rcases hat6 with h | h
          ·exact hge5 b (h.symm.trans hb)
          ·have e:some b=some (w5.heap.size):=hb.symm.trans h
           have:=JL e;have:=hX.size;omega
         have hX:=hX.grown hg6 hX.size (fun k hk=>hge5 k hk);obtain⟨A6,n6,c6,rfl⟩:=aN hV2.own;clear hat6;refine hK.out _ _ ?_ (fun hHeld=>?_)
         ·exact hcells.out _ hX
         clear hK K
         (try simp only [JM,JI,JJ,JK])
         refine wpAnyH_ready (rs:=[14]) (by kernel_rfl) (by simp) ?_
         refine JN (o:=_) rfl (fun K hK=>?_) ?_
         ·refine aB _ rfl _ _ 24 rfl B 42 i2 (.agg #[.int .i64 0,.slice none 0 0,.bool false,.int .i64 0]) 4 48 Tryd.underlying24 hi2 hx0 hx1 hx2 rfl (by decide) (.slice A6 n6 c6) _ _ (by simp [go_sem];done) hV2.own none 0 0 [] (by simp [go_sem,sliced];done) rfl (fun h=>absurd rfl h) (fun u hu=>by cases hu) (by unfold maxLen;simp;try omega) (by simp;try omega) (by have:=hX.size;omega) ?_
          intro v7 w7 hown7 hg7 hat7;have hV3:=dB hV2 (m:=[]) (zs:=[]) (by have:=hX.size;omega) (by simpa [bK] using hown7) hg7 hat7 rfl (fun i x y hx=>by simp at hx) (fun i y b hj=>by simp at hj) (fun i j y z _ hi=>by simp at hi);have hf3:∀b,FmS v7 (([]++[.slice none 0 0])++[]) b→wc.heap.size≤b:=fun b hb=>by
           rcases hb with hb | ⟨z,hz,hzb⟩
           ·rcases hat7 with h | h
            ·exact hge6 b (h.symm.trans hb)
            ·have e:some b=some (w6.heap.size):=hb.symm.trans h
             have:=JL e;have:=hX.size;omega
           ·simp at hz
            subst hz;cases hzb
          have hX:=hX.grown hg7 hX.size (fun k hk=>hge6 k hk);obtain⟨A7,n7,c7,rfl⟩:=aN hV3.own;clear hat7;refine hK.out _ _ ?_ (fun hHeld=>?_)
          ·exact hcells.out _ hX
          clear hK K
          (try simp only [JM,JI,JJ,JK])
          refine wpAnyH_take (i:=15) (oi:=_) (v:=?vn13) rfl (by kernel_rfl) (by kernel_rfl) (by kernel_rfl) (fun _ _ _ h=>h) (JP ⟨by rfl,?yn13⟩) hHeld ?rn13
          case yn13=>(intro w0 hSw;obtain⟨hSw0,hSw1⟩:=hSw;go_simp;try with_reducible rfl)
          (try simp only [JM,JI,JJ,JK])
          refine bH (by kernel_rfl) ?_
          have hp7:=(hX.block p hpl4).trans hp4;have g1:=(ab hp7).2.1;have h1:=(aZ hp7).2.1;have hp8:(w7.setCell ⟨p,1,none⟩ (.slice A7 n7 c7)).heap[p]?=some (.cells #[.slice A bn c,.slice A7 n7 c7,.int .i64 s.2.2.1,.int .i64 s.2.2.2] 26 (0,0)):=heap_setCell_same _ _ 1 _ _ (.slice A7 n7 c7) hp7;have hV4:=hV3.keep (w':=w7.setCell ⟨p,1,none⟩ (.slice A7 n7 c7)) fun b hb=>heap_setCell_other _ _ _ _ (by
           simp;rintro rfl;have:=hf3 _ hb;omega)
          have eI:ie s.2.1 id=([]++[(id,[],false,0)])++[]:=by
           unfold ie;rw [if_neg (by simp [hhf]),hs0];simp
          go_simp
          go_wp2
          all_goals (
           go_meet
           case rel=>exact⟨rfl,A7,n7,c7,_,hp8,by rw [eI];exact hV4,fun b hb=>.inr (hf3 b hb),fun b hb hne=>(heap_setCell_other _ _ _ _ (by simpa using hne)).trans (hX.block b hb),by simp [JY];exact hX.size,hX.os,hX.tape,hX.output⟩)
         exact JO
        exact JO
       exact JO
      exact JO
     exact JO
    ·simp only [Kh,true_and] at eA
     obtain⟨rfl,rfl⟩:=eA;have hbc:at_≤c':=Nat.le_trans hat (qz hF4).1;have hcl:s.2.1.length≤c':=(qz hF4).1;refine cO (l:=[_,_,_,_,_,_,_,_,_,_,_,_,_,_,_,_]) (o:=_) (S:=fun w'=>w'.cell? ⟨p,1,none⟩=some (.slice (some ⟨g,0,none⟩) s.2.1.length c')∧w'.cell? ⟨p,0,none⟩=some (.slice A bn c)) (by kernel_rfl) (by kernel_rfl) hSd (fun hHeld=>?_)
     change wpAnyH _ _ _ _ _ 16 (Ke 16 false) _ _
     generalize wc.drew=W0 at *;have hX:=hX0;refine wpAnyH_take (i:=1) (oi:=_) (v:=?va1) rfl (by kernel_rfl) (by kernel_rfl) (by kernel_rfl) (fun _ _ _ h=>h) (JP ⟨by rfl,?ya1⟩) hHeld ?ra1
     case ya1=>(intro w0 hSw;obtain⟨hSw0,hSw1⟩:=hSw;go_simp;try with_reducible rfl)
     (try simp only [JM,JI,JJ,JK])
     refine wpAnyH_take (i:=2) (oi:=_) (v:=?va2) rfl (by kernel_rfl) (by kernel_rfl) (by kernel_rfl) (fun _ _ _ h=>h) (JP ⟨by rfl,?ya2⟩) hHeld ?ra2
     case ya2=>(intro w0 hSw;obtain⟨hSw0,hSw1⟩:=hSw;go_simp;try with_reducible rfl)
     (try simp only [JM,JI,JJ,JK])
     refine wpAnyH_take (i:=3) (oi:=_) (v:=?va3) rfl (by kernel_rfl) (by kernel_rfl) (by kernel_rfl) (fun _ _ _ h=>h) (JP ⟨by rfl,?ya3⟩) hHeld ?ra3
     case ya3=>(intro w0 hSw;obtain⟨hSw0,hSw1⟩:=hSw;go_simp;try with_reducible rfl)
     (try simp only [JM,JI,JJ,JK])
     refine wpAnyH_take (i:=4) (oi:=_) (v:=?va4) rfl (by kernel_rfl) (by kernel_rfl) (by kernel_rfl) (fun _ _ _ h=>h) (JP ⟨by rfl,?ya4⟩) hHeld ?ra4
     case ya4=>(intro w0 hSw;obtain⟨hSw0,hSw1⟩:=hSw;go_simp;try with_reducible rfl)
     (try simp only [JM,JI,JJ,JK])
     refine wpAnyH_take (i:=6) (oi:=_) (v:=?va5) rfl (by kernel_rfl) (by kernel_rfl) (by kernel_rfl) (fun _ _ _ h=>h) (JP ⟨by rfl,?ya5⟩) hHeld ?ra5
     case ya5=>(intro w0 hSw;obtain⟨hSw0,hSw1⟩:=hSw;go_simp;try with_reducible rfl)
     (try simp only [JM,JI,JJ,JK])
     refine wpAnyH_take (i:=7) (oi:=_) (v:=?va6) rfl (by kernel_rfl) (by kernel_rfl) (by kernel_rfl) (fun _ _ _ h=>h) (JP ⟨by rfl,?ya6⟩) hHeld ?ra6
     case ya6=>(intro w0 hSw;obtain⟨hSw0,hSw1⟩:=hSw;go_simp;try with_reducible rfl)
     (try simp only [JM,JI,JJ,JK])
     refine wpAnyH_take (i:=10) (oi:=_) (v:=?va7) rfl (by kernel_rfl) (by kernel_rfl) (by kernel_rfl) (fun _ _ _ h=>h) (JP ⟨by rfl,?ya7⟩) hHeld ?ra7
     case ya7=>(intro w0 hSw;obtain⟨hSw0,hSw1⟩:=hSw;go_simp;try with_reducible rfl)
     (try simp only [JM,JI,JJ,JK])
     refine wpAnyH_take (i:=11) (oi:=_) (v:=?va8) rfl (by kernel_rfl) (by kernel_rfl) (by kernel_rfl) (fun _ _ _ h=>h) (JP ⟨by rfl,?ya8⟩) hHeld ?ra8
     case ya8=>(intro w0 hSw;obtain⟨hSw0,hSw1⟩:=hSw;go_simp;try with_reducible rfl)
     (try simp only [JM,JI,JJ,JK])
     refine wpAnyH_take (i:=12) (oi:=_) (v:=?va9) rfl (by kernel_rfl) (by kernel_rfl) (by kernel_rfl) (fun _ _ _ h=>h) (JP ⟨by rfl,?ya9⟩) hHeld ?ra9
     case ya9=>(intro w0 hSw;obtain⟨hSw0,hSw1⟩:=hSw;go_simp;try with_reducible rfl)
     (try simp only [JM,JI,JJ,JK])
     refine wpAnyH_take (i:=13) (oi:=_) (v:=?va10) rfl (by kernel_rfl) (by kernel_rfl) (by kernel_rfl) (fun _ _ _ h=>h) (JP ⟨by rfl,?ya10⟩) hHeld ?ra10
     case ya10=>(intro w0 hSw;obtain⟨hSw0,hSw1⟩:=hSw;go_simp;try with_reducible rfl)
     (try simp only [JM,JI,JJ,JK])
     refine wpAnyH_ready (rs:=[0,8]) (by kernel_rfl) (by simp) ?_
     refine JN (o:=_) rfl (fun K hK=>?_) ?_
     ·go_simp
      have hX:=hX.alloc hX.size (.cells #[] 42);have hE:(W0.alloc (.cells #[] 42)).heap[W0.heap.size]?=some (.cells #[] 42 (0,0)):=al _ (by simp);refine hK.out _ _ ?_ (fun hHeld=>?_)
      ·exact hcells.out _ hX
      clear hK K
      (try simp only [JM,JI,JJ,JK])
      refine wpAnyH_ready (rs:=[5,8]) (by kernel_rfl) (by simp) ?_
      refine JN (o:=_) rfl (fun K hK=>?_) ?_
      ·refine aB _ rfl _ _ 24 rfl B 42 i2 (.agg #[.int .i64 0,.slice none 0 0,.bool false,.int .i64 0]) 4 48 Tryd.underlying24 hi2 hx0 hx1 hx2 rfl (by decide) (.slice (some ⟨W0.heap.size,0,none⟩) 0 0) 0 [] (by simp [go_sem];done) (dj hE (by have:=hX0.size;omega)) (some ⟨g,0,none⟩) at_ c' (bK (s.2.1.take at_) (ys.take at_)) (by simp [go_sem,sliced];done) (by rw [eP _ _ (by simp [hF4.len]),JW,JZ hat]) (fun _=>⟨g,0,rfl,oF (hfmsX.out _ hX) hat⟩) (fw _ _ fun y hy=>iX hF4 y (JS hy)) (by unfold maxLen;omega) (by omega) (by have:=hX.size;omega) ?_
       intro v5 w5 hown5 hg5 hat5;have htk:=qx (hfmsX.out _ hX) at_;have hV1:=dB (gr hE (B:=B) (by have:=hX0.size;omega)) (m:=s.2.1.take at_) (zs:=ys.take at_) (by have:=hX.size;omega) (by rw [JW,JZ hat];exact hown5) hg5 hat5 (by simp [hF4.len]) htk.1 (fun j y b hj hb=>by
        obtain⟨h1,_⟩:=htk.2.1 j y b hj hb;have h2:=(hlt4 b (.inr ⟨y,JS (JQ hj),hb⟩)).2;refine⟨h1,Kc h2 hX.size,fun h=>?_⟩
        rcases h with h | ⟨_,h,_⟩
        ·have e:W0.heap.size=b:=JL h
         have:=hX0.size;omega
        ·cases h) htk.2.2
       rw [Ka,Ka] at hV1;have hf1:∀b,FmS v5 (ys.take at_) b→FmS (.slice (some ⟨g,0,none⟩) s.2.1.length c') ys b∨wc.heap.size≤b:=fun b hb=>by
        rcases hb with hb | ⟨z,hz,hzb⟩
        ·rcases hat5 with h | h
         ·have e:some b=some (W0.heap.size):=hb.symm.trans h
          have:=JL e;have:=hX0.size;exact .inr (by omega)
         ·have e:some b=some ((W0.alloc (.cells #[] 42)).heap.size):=hb.symm.trans h
          have:=JL e;have:=hX.size;exact .inr (by omega)
        ·exact .inl (.inr ⟨z,JS hz,hzb⟩)
       have hge5:∀b,aM v5 b→wc.heap.size≤b:=fun b hb=>by
        rcases hat5 with h | h
        ·have e:some b=some (W0.heap.size):=hb.symm.trans h
         have:=JL e;have:=hX0.size;omega
        ·have e:some b=some ((W0.alloc (.cells #[] 42)).heap.size):=hb.symm.trans h
         have:=JL e;have:=hX.size;omega
       have hX:=hX.grown hg5 hX.size (fun k hk=>by have e:W0.heap.size=k:=JL hk;have:=hX0.size;omega);obtain⟨A5,n5,c5,rfl⟩:=aN hV1.own;clear hat5;refine hK.out _ _ ?_ (fun hHeld=>?_)
       ·exact hcells.out _ hX
       clear hK K
       (try simp only [JM,JI,JJ,JK])
       refine wpAnyH_ready (rs:=[8]) (by kernel_rfl) (by simp) ?_
       refine JN (o:=_) rfl (fun K hK=>?_) ?_
       ·go_simp
        have hX:=hX.alloc hX.size (.cells #[.int .i64 id,.slice none 0 0,.bool false,.int .i64 0] 42);have hM:(w5.alloc (.cells #[.int .i64 id,.slice none 0 0,.bool false,.int .i64 0] 42)).heap[w5.heap.size]?=some (.cells #[.int .i64 id,.slice none 0 0,.bool false,.int .i64 0] 42 (0,0)):=al _ (by simp);have hV1:=hV1.keep (w':=(w5.alloc (.cells #[.int .i64 id,.slice none 0 0,.bool false,.int .i64 0] 42))) fun b hb=>fk _ (hV1.lt b hb).2
        refine hK.out _ _ ?_ (fun hHeld=>?_)
        ·exact hcells.out _ hX
        clear hK K
        (try simp only [JM,JI,JJ,JK])
        refine wpAnyH_ready (rs:=[9]) (by kernel_rfl) (by simp) ?_
        refine JN (o:=_) rfl (fun K hK=>?_) ?_
        ·refine aB _ rfl _ _ 24 rfl B 42 i2 (.agg #[.int .i64 0,.slice none 0 0,.bool false,.int .i64 0]) 4 48 Tryd.underlying24 hi2 hx0 hx1 hx2 rfl (by decide) (.slice A5 n5 c5) _ _ (by simp [go_sem];done) hV1.own (some ⟨w5.heap.size,0,none⟩) 1 1 [.int .i64 id,.slice none 0 0,.bool false,.int .i64 0] (by simp [go_sem];done) rfl (fun _=>⟨_,_,rfl,dM hM⟩) (by intro u hu;simp at hu;rcases hu with rfl | rfl | rfl | rfl<;>rfl) (by unfold maxLen;simp;try omega) (by simp;try omega) (by have:=hX.size;omega) ?_
         intro v6 w6 hown6 hg6 hat6;have hV2:=en (x:=(id,[],false,0)) (y:=.slice none 0 0) hV1 (by have:=hX.size;omega) hown6 hg6 hat6 (kI _ _ _ _) (fun b hb=>by cases hb);have hf2:∀b,FmS v6 (ys.take at_++[.slice none 0 0]) b→FmS (.slice (some ⟨g,0,none⟩) s.2.1.length c') ys b∨wc.heap.size≤b:=fun b hb=>by
          rcases hb with hb | ⟨z,hz,hzb⟩
          ·rcases hat6 with h | h
           ·exact hf1 b (.inl (hb.symm.trans h).symm)
           ·have e:some b=some ((w5.alloc (.cells #[.int .i64 id,.slice none 0 0,.bool false,.int .i64 0] 42)).heap.size):=hb.symm.trans h
            have:=JL e;have:=hX.size;exact .inr (by omega)
          ·rcases JR.1 hz with hz | hz
           ·exact hf1 b (.inr ⟨z,hz,hzb⟩)
           ·obtain rfl:=JU.1 hz
            cases hzb
         have hge6:∀b,aM v6 b→wc.heap.size≤b:=fun b hb=>by
          rcases hat6 with h | h
          ·exact hge5 b (h.symm.trans hb)
          ·have e:some b=some ((w5.alloc (.cells #[.int .i64 id,.slice none 0 0,.bool false,.int .i64 0] 42)).heap.size):=hb.symm.trans h
           have:=JL e;have:=hX.size;omega
         have hX:=hX.grown hg6 hX.size (fun k hk=>hge5 k hk);obtain⟨A6,n6,c6,rfl⟩:=aN hV2.own;clear hat6;refine hK.out _ _ ?_ (fun hHeld=>?_)
         ·exact hcells.out _ hX
         clear hK K
         (try simp only [JM,JI,JJ,JK])
         refine wpAnyH_ready (rs:=[14]) (by kernel_rfl) (by simp) ?_
         refine JN (o:=_) rfl (fun K hK=>?_) ?_
         ·refine aB _ rfl _ _ 24 rfl B 42 i2 (.agg #[.int .i64 0,.slice none 0 0,.bool false,.int .i64 0]) 4 48 Tryd.underlying24 hi2 hx0 hx1 hx2 rfl (by decide) (.slice A6 n6 c6) _ _ (by simp [go_sem];done) hV2.own (if c'=at_ then some ⟨g,0,none⟩ else some ⟨g,at_*4,none⟩) (s.2.1.length - at_) (c' - at_) (bK (s.2.1.drop at_) (ys.drop at_)) (by simp [go_sem,sliced];done) (by rw [eP _ _ (by simp [hF4.len]),JX]) (fun h0=>⟨g,at_*4,by rw [if_neg (by omega)],oB (hfmsX.out _ hX) at_ hat⟩) (fw _ _ fun y hy=>iX hF4 y (JT hy)) (by unfold maxLen;simp;try omega) (by simp;try omega) (by have:=hX.size;omega) ?_
          intro v7 w7 hown7 hg7 hat7;have hdr:=qC (hfmsX.out _ hX) at_;have hV3:=dB hV2 (m:=s.2.1.drop at_) (zs:=ys.drop at_) (by have:=hX.size;omega) (by rw [JX];exact hown7) hg7 hat7 (by simp [hF4.len]) hdr.1 (fun j y b hj hb=>by
           obtain⟨h1,h2,h3,h4⟩:=hdr.2.1 j y b hj hb;have h5:=(hlt4 b (.inr ⟨y,JT (JQ hj),hb⟩)).2;refine⟨h1,h2,fun h=>?_⟩
           rcases h with h | ⟨z,hz,hzb⟩
           ·have:=hge6 b h
            omega
           ·rcases JR.1 hz with hz | hz
            ·exact h4 at_ (Kb _) z hz hzb
            ·obtain rfl:=JU.1 hz
             cases hzb) hdr.2.2
          have hf3:∀b,FmS v7 ((ys.take at_++[.slice none 0 0])++ys.drop at_) b→FmS (.slice (some ⟨g,0,none⟩) s.2.1.length c') ys b∨wc.heap.size≤b:=fun b hb=>by
           rcases hb with hb | ⟨z,hz,hzb⟩
           ·rcases hat7 with h | h
            ·exact hf2 b (.inl (hb.symm.trans h).symm)
            ·have e:some b=some (w6.heap.size):=hb.symm.trans h
             have:=JL e;have:=hX.size;exact .inr (by omega)
           ·rcases JR.1 hz with hz | hz
            ·exact hf2 b (.inr ⟨z,hz,hzb⟩)
            ·exact .inl (.inr ⟨z,JT hz,hzb⟩)
          have hX:=hX.grown hg7 hX.size (fun k hk=>hge6 k hk);obtain⟨A7,n7,c7,rfl⟩:=aN hV3.own;clear hat7;refine hK.out _ _ ?_ (fun hHeld=>?_)
          ·exact hcells.out _ hX
          clear hK K
          (try simp only [JM,JI,JJ,JK])
          refine wpAnyH_take (i:=15) (oi:=_) (v:=?va11) rfl (by kernel_rfl) (by kernel_rfl) (by kernel_rfl) (fun _ _ _ h=>h) (JP ⟨by rfl,?ya11⟩) hHeld ?ra11
          case ya11=>(intro w0 hSw;obtain⟨hSw0,hSw1⟩:=hSw;go_simp;try with_reducible rfl)
          (try simp only [JM,JI,JJ,JK])
          refine bH (by kernel_rfl) ?_
          have hp7:=(hX.block p hpl4).trans hp4;have g1:=(ab hp7).2.1;have h1:=(aZ hp7).2.1;have hp8:(w7.setCell ⟨p,1,none⟩ (.slice A7 n7 c7)).heap[p]?=some (.cells #[.slice A bn c,.slice A7 n7 c7,.int .i64 s.2.2.1,.int .i64 s.2.2.2] 26 (0,0)):=heap_setCell_same _ _ 1 _ _ (.slice A7 n7 c7) hp7;have hV4:=hV3.keep (w':=w7.setCell ⟨p,1,none⟩ (.slice A7 n7 c7)) fun b hb=>heap_setCell_other _ _ _ _ (by
           simp;rintro rfl;exact(hf3 _ hb).elim (fun h=>hnp (.inr h)) fun h=>by omega)
          have eI:ie s.2.1 id=(s.2.1.take at_++[(id,[],false,0)])++s.2.1.drop at_:=by
           unfold ie;rw [if_neg (by simp [hhf]),←hatH.out];simp
          go_simp
          go_wp2
          all_goals (
           go_meet
           case rel=>exact⟨rfl,A7,n7,c7,_,hp8,by rw [eI];exact hV4,hf3,fun b hb hne=>(heap_setCell_other _ _ _ _ (by simpa using hne)).trans (hX.block b hb),by simp [JY];exact hX.size,hX.os,hX.tape,hX.output⟩)
         exact JO
        exact JO
       exact JO
      refine JN (o:=_) rfl (fun K hK=>?_) ?_
      ·go_simp
       have hX:=hX.alloc hX.size (.cells #[.int .i64 id,.slice none 0 0,.bool false,.int .i64 0] 42);have hM:((W0.alloc (.cells #[] 42)).alloc (.cells #[.int .i64 id,.slice none 0 0,.bool false,.int .i64 0] 42)).heap[W0.heap.size+1]?=some (.cells #[.int .i64 id,.slice none 0 0,.bool false,.int .i64 0] 42 (0,0)):=al _ (by simp);have hE:=aj (.cells #[.int .i64 id,.slice none 0 0,.bool false,.int .i64 0] 42) hE;refine hK.out _ _ ?_ (fun hHeld=>?_)
       ·exact hcells.out _ hX
       clear hK K
       (try simp only [JM,JI,JJ,JK])
       refine wpAnyH_ready (rs:=[5]) (by kernel_rfl) (by simp) ?_
       refine JN (o:=_) rfl (fun K hK=>?_) ?_
       ·refine aB _ rfl _ _ 24 rfl B 42 i2 (.agg #[.int .i64 0,.slice none 0 0,.bool false,.int .i64 0]) 4 48 Tryd.underlying24 hi2 hx0 hx1 hx2 rfl (by decide) (.slice (some ⟨W0.heap.size,0,none⟩) 0 0) 0 [] (by simp [go_sem];done) (dj hE (by have:=hX0.size;omega)) (some ⟨g,0,none⟩) at_ c' (bK (s.2.1.take at_) (ys.take at_)) (by simp [go_sem,sliced];done) (by rw [eP _ _ (by simp [hF4.len]),JW,JZ hat]) (fun _=>⟨g,0,rfl,oF (hfmsX.out _ hX) hat⟩) (fw _ _ fun y hy=>iX hF4 y (JS hy)) (by unfold maxLen;omega) (by omega) (by have:=hX.size;omega) ?_
        intro v5 w5 hown5 hg5 hat5;have htk:=qx (hfmsX.out _ hX) at_;have hV1:=dB (gr hE (B:=B) (by have:=hX0.size;omega)) (m:=s.2.1.take at_) (zs:=ys.take at_) (by have:=hX.size;omega) (by rw [JW,JZ hat];exact hown5) hg5 hat5 (by simp [hF4.len]) htk.1 (fun j y b hj hb=>by
         obtain⟨h1,_⟩:=htk.2.1 j y b hj hb;have h2:=(hlt4 b (.inr ⟨y,JS (JQ hj),hb⟩)).2;refine⟨h1,Kc h2 hX.size,fun h=>?_⟩
         rcases h with h | ⟨_,h,_⟩
         ·have e:W0.heap.size=b:=JL h
          have:=hX0.size;omega
         ·cases h) htk.2.2
        rw [Ka,Ka] at hV1;have hf1:∀b,FmS v5 (ys.take at_) b→FmS (.slice (some ⟨g,0,none⟩) s.2.1.length c') ys b∨wc.heap.size≤b:=fun b hb=>by
         rcases hb with hb | ⟨z,hz,hzb⟩
         ·rcases hat5 with h | h
          ·have e:some b=some (W0.heap.size):=hb.symm.trans h
           have:=JL e;have:=hX0.size;exact .inr (by omega)
          ·have e:some b=some (((W0.alloc (.cells #[] 42)).alloc (.cells #[.int .i64 id,.slice none 0 0,.bool false,.int .i64 0] 42)).heap.size):=hb.symm.trans h
           have:=JL e;have:=hX.size;exact .inr (by omega)
         ·exact .inl (.inr ⟨z,JS hz,hzb⟩)
        have hge5:∀b,aM v5 b→wc.heap.size≤b:=fun b hb=>by
         rcases hat5 with h | h
         ·have e:some b=some (W0.heap.size):=hb.symm.trans h
          have:=JL e;have:=hX0.size;omega
         ·have e:some b=some (((W0.alloc (.cells #[] 42)).alloc (.cells #[.int .i64 id,.slice none 0 0,.bool false,.int .i64 0] 42)).heap.size):=hb.symm.trans h
          have:=JL e;have:=hX.size;omega
        have hM:=(hg5.block (W0.heap.size+1) (bz hM) (fun h=>by have e:W0.heap.size+1=W0.heap.size:=JL h;omega)).trans hM;have hX:=hX.grown hg5 hX.size (fun k hk=>by have e:W0.heap.size=k:=JL hk;have:=hX0.size;omega);obtain⟨A5,n5,c5,rfl⟩:=aN hV1.own;clear hat5;refine hK.out _ _ ?_ (fun hHeld=>?_)
        ·exact hcells.out _ hX
        clear hK K
        (try simp only [JM,JI,JJ,JK])
        refine wpAnyH_ready (rs:=[9]) (by kernel_rfl) (by simp) ?_
        refine JN (o:=_) rfl (fun K hK=>?_) ?_
        ·refine aB _ rfl _ _ 24 rfl B 42 i2 (.agg #[.int .i64 0,.slice none 0 0,.bool false,.int .i64 0]) 4 48 Tryd.underlying24 hi2 hx0 hx1 hx2 rfl (by decide) (.slice A5 n5 c5) _ _ (by simp [go_sem];done) hV1.own (some ⟨W0.heap.size+1,0,none⟩) 1 1 [.int .i64 id,.slice none 0 0,.bool false,.int .i64 0] (by simp [go_sem];done) rfl (fun _=>⟨_,_,rfl,dM hM⟩) (by intro u hu;simp at hu;rcases hu with rfl | rfl | rfl | rfl<;>rfl) (by unfold maxLen;simp;try omega) (by simp;try omega) (by have:=hX.size;omega) ?_
         intro v6 w6 hown6 hg6 hat6;have hV2:=en (x:=(id,[],false,0)) (y:=.slice none 0 0) hV1 (by have:=hX.size;omega) hown6 hg6 hat6 (kI _ _ _ _) (fun b hb=>by cases hb);have hf2:∀b,FmS v6 (ys.take at_++[.slice none 0 0]) b→FmS (.slice (some ⟨g,0,none⟩) s.2.1.length c') ys b∨wc.heap.size≤b:=fun b hb=>by
          rcases hb with hb | ⟨z,hz,hzb⟩
          ·rcases hat6 with h | h
           ·exact hf1 b (.inl (hb.symm.trans h).symm)
           ·have e:some b=some (w5.heap.size):=hb.symm.trans h
            have:=JL e;have:=hX.size;exact .inr (by omega)
          ·rcases JR.1 hz with hz | hz
           ·exact hf1 b (.inr ⟨z,hz,hzb⟩)
           ·obtain rfl:=JU.1 hz
            cases hzb
         have hge6:∀b,aM v6 b→wc.heap.size≤b:=fun b hb=>by
          rcases hat6 with h | h
          ·exact hge5 b (h.symm.trans hb)
          ·have e:some b=some (w5.heap.size):=hb.symm.trans h
           have:=JL e;have:=hX.size;omega
         have hX:=hX.grown hg6 hX.size (fun k hk=>hge5 k hk);obtain⟨A6,n6,c6,rfl⟩:=aN hV2.own;clear hat6;refine hK.out _ _ ?_ (fun hHeld=>?_)
         ·exact hcells.out _ hX
         clear hK K
         (try simp only [JM,JI,JJ,JK])
         refine wpAnyH_ready (rs:=[14]) (by kernel_rfl) (by simp) ?_
         refine JN (o:=_) rfl (fun K hK=>?_) ?_
         ·refine aB _ rfl _ _ 24 rfl B 42 i2 (.agg #[.int .i64 0,.slice none 0 0,.bool false,.int .i64 0]) 4 48 Tryd.underlying24 hi2 hx0 hx1 hx2 rfl (by decide) (.slice A6 n6 c6) _ _ (by simp [go_sem];done) hV2.own (if c'=at_ then some ⟨g,0,none⟩ else some ⟨g,at_*4,none⟩) (s.2.1.length - at_) (c' - at_) (bK (s.2.1.drop at_) (ys.drop at_)) (by simp [go_sem,sliced];done) (by rw [eP _ _ (by simp [hF4.len]),JX]) (fun h0=>⟨g,at_*4,by rw [if_neg (by omega)],oB (hfmsX.out _ hX) at_ hat⟩) (fw _ _ fun y hy=>iX hF4 y (JT hy)) (by unfold maxLen;simp;try omega) (by simp;try omega) (by have:=hX.size;omega) ?_
          intro v7 w7 hown7 hg7 hat7;have hdr:=qC (hfmsX.out _ hX) at_;have hV3:=dB hV2 (m:=s.2.1.drop at_) (zs:=ys.drop at_) (by have:=hX.size;omega) (by rw [JX];exact hown7) hg7 hat7 (by simp [hF4.len]) hdr.1 (fun j y b hj hb=>by
           obtain⟨h1,h2,h3,h4⟩:=hdr.2.1 j y b hj hb;have h5:=(hlt4 b (.inr ⟨y,JT (JQ hj),hb⟩)).2;refine⟨h1,h2,fun h=>?_⟩
           rcases h with h | ⟨z,hz,hzb⟩
           ·have:=hge6 b h
            omega
           ·rcases JR.1 hz with hz | hz
            ·exact h4 at_ (Kb _) z hz hzb
            ·obtain rfl:=JU.1 hz
             cases hzb) hdr.2.2
          have hf3:∀b,FmS v7 ((ys.take at_++[.slice none 0 0])++ys.drop at_) b→FmS (.slice (some ⟨g,0,none⟩) s.2.1.length c') ys b∨wc.heap.size≤b:=fun b hb=>by
           rcases hb with hb | ⟨z,hz,hzb⟩
           ·rcases hat7 with h | h
            ·exact hf2 b (.inl (hb.symm.trans h).symm)
            ·have e:some b=some (w6.heap.size):=hb.symm.trans h
             have:=JL e;have:=hX.size;exact .inr (by omega)
           ·rcases JR.1 hz with hz | hz
            ·exact hf2 b (.inr ⟨z,hz,hzb⟩)
            ·exact .inl (.inr ⟨z,JT hz,hzb⟩)
          have hX:=hX.grown hg7 hX.size (fun k hk=>hge6 k hk);obtain⟨A7,n7,c7,rfl⟩:=aN hV3.own;clear hat7;refine hK.out _ _ ?_ (fun hHeld=>?_)
          ·exact hcells.out _ hX
          clear hK K
          (try simp only [JM,JI,JJ,JK])
          refine wpAnyH_take (i:=15) (oi:=_) (v:=?va12) rfl (by kernel_rfl) (by kernel_rfl) (by kernel_rfl) (fun _ _ _ h=>h) (JP ⟨by rfl,?ya12⟩) hHeld ?ra12
          case ya12=>(intro w0 hSw;obtain⟨hSw0,hSw1⟩:=hSw;go_simp;try with_reducible rfl)
          (try simp only [JM,JI,JJ,JK])
          refine bH (by kernel_rfl) ?_
          have hp7:=(hX.block p hpl4).trans hp4;have g1:=(ab hp7).2.1;have h1:=(aZ hp7).2.1;have hp8:(w7.setCell ⟨p,1,none⟩ (.slice A7 n7 c7)).heap[p]?=some (.cells #[.slice A bn c,.slice A7 n7 c7,.int .i64 s.2.2.1,.int .i64 s.2.2.2] 26 (0,0)):=heap_setCell_same _ _ 1 _ _ (.slice A7 n7 c7) hp7;have hV4:=hV3.keep (w':=w7.setCell ⟨p,1,none⟩ (.slice A7 n7 c7)) fun b hb=>heap_setCell_other _ _ _ _ (by
           simp;rintro rfl;exact(hf3 _ hb).elim (fun h=>hnp (.inr h)) fun h=>by omega)
          have eI:ie s.2.1 id=(s.2.1.take at_++[(id,[],false,0)])++s.2.1.drop at_:=by
           unfold ie;rw [if_neg (by simp [hhf]),←hatH.out];simp
          go_simp
          go_wp2
          all_goals (
           go_meet
           case rel=>exact⟨rfl,A7,n7,c7,_,hp8,by rw [eI];exact hV4,hf3,fun b hb hne=>(heap_setCell_other _ _ _ _ (by simpa using hne)).trans (hX.block b hb),by simp [JY];exact hX.size,hX.os,hX.tape,hX.output⟩)
         exact JO
        exact JO
       exact JO
      exact JO
     refine JN (o:=_) rfl (fun K hK=>?_) ?_
     ·go_simp
      have hX:=hX.alloc hX.size (.cells #[.int .i64 id,.slice none 0 0,.bool false,.int .i64 0] 42);have hM:(W0.alloc (.cells #[.int .i64 id,.slice none 0 0,.bool false,.int .i64 0] 42)).heap[W0.heap.size]?=some (.cells #[.int .i64 id,.slice none 0 0,.bool false,.int .i64 0] 42 (0,0)):=al _ (by simp);refine hK.out _ _ ?_ (fun hHeld=>?_)
      ·exact hcells.out _ hX
      clear hK K
      (try simp only [JM,JI,JJ,JK])
      refine wpAnyH_ready (rs:=[0]) (by kernel_rfl) (by simp) ?_
      refine JN (o:=_) rfl (fun K hK=>?_) ?_
      ·go_simp
       have hX:=hX.alloc hX.size (.cells #[] 42);have hE:((W0.alloc (.cells #[.int .i64 id,.slice none 0 0,.bool false,.int .i64 0] 42)).alloc (.cells #[] 42)).heap[W0.heap.size+1]?=some (.cells #[] 42 (0,0)):=al _ (by simp);have hM:=aj (.cells #[] 42) hM;refine hK.out _ _ ?_ (fun hHeld=>?_)
       ·exact hcells.out _ hX
       clear hK K
       (try simp only [JM,JI,JJ,JK])
       refine wpAnyH_ready (rs:=[5]) (by kernel_rfl) (by simp) ?_
       refine JN (o:=_) rfl (fun K hK=>?_) ?_
       ·refine aB _ rfl _ _ 24 rfl B 42 i2 (.agg #[.int .i64 0,.slice none 0 0,.bool false,.int .i64 0]) 4 48 Tryd.underlying24 hi2 hx0 hx1 hx2 rfl (by decide) (.slice (some ⟨W0.heap.size+1,0,none⟩) 0 0) 0 [] (by simp [go_sem];done) (dj hE (by have:=hX0.size;omega)) (some ⟨g,0,none⟩) at_ c' (bK (s.2.1.take at_) (ys.take at_)) (by simp [go_sem,sliced];done) (by rw [eP _ _ (by simp [hF4.len]),JW,JZ hat]) (fun _=>⟨g,0,rfl,oF (hfmsX.out _ hX) hat⟩) (fw _ _ fun y hy=>iX hF4 y (JS hy)) (by unfold maxLen;omega) (by omega) (by have:=hX.size;omega) ?_
        intro v5 w5 hown5 hg5 hat5;have htk:=qx (hfmsX.out _ hX) at_;have hV1:=dB (gr hE (B:=B) (by have:=hX0.size;omega)) (m:=s.2.1.take at_) (zs:=ys.take at_) (by have:=hX.size;omega) (by rw [JW,JZ hat];exact hown5) hg5 hat5 (by simp [hF4.len]) htk.1 (fun j y b hj hb=>by
         obtain⟨h1,_⟩:=htk.2.1 j y b hj hb;have h2:=(hlt4 b (.inr ⟨y,JS (JQ hj),hb⟩)).2;refine⟨h1,Kc h2 hX.size,fun h=>?_⟩
         rcases h with h | ⟨_,h,_⟩
         ·have e:W0.heap.size+1=b:=JL h
          have:=hX0.size;omega
         ·cases h) htk.2.2
        rw [Ka,Ka] at hV1;have hf1:∀b,FmS v5 (ys.take at_) b→FmS (.slice (some ⟨g,0,none⟩) s.2.1.length c') ys b∨wc.heap.size≤b:=fun b hb=>by
         rcases hb with hb | ⟨z,hz,hzb⟩
         ·rcases hat5 with h | h
          ·have e:some b=some (W0.heap.size+1):=hb.symm.trans h
           have:=JL e;have:=hX0.size;exact .inr (by omega)
          ·have e:some b=some (((W0.alloc (.cells #[.int .i64 id,.slice none 0 0,.bool false,.int .i64 0] 42)).alloc (.cells #[] 42)).heap.size):=hb.symm.trans h
           have:=JL e;have:=hX.size;exact .inr (by omega)
         ·exact .inl (.inr ⟨z,JS hz,hzb⟩)
        have hge5:∀b,aM v5 b→wc.heap.size≤b:=fun b hb=>by
         rcases hat5 with h | h
         ·have e:some b=some (W0.heap.size+1):=hb.symm.trans h
          have:=JL e;have:=hX0.size;omega
         ·have e:some b=some (((W0.alloc (.cells #[.int .i64 id,.slice none 0 0,.bool false,.int .i64 0] 42)).alloc (.cells #[] 42)).heap.size):=hb.symm.trans h
          have:=JL e;have:=hX.size;omega
        have hM:=(hg5.block (W0.heap.size) (bz hM) (fun h=>by have e:W0.heap.size=W0.heap.size+1:=JL h;omega)).trans hM;have hX:=hX.grown hg5 hX.size (fun k hk=>by have e:W0.heap.size+1=k:=JL hk;have:=hX0.size;omega);obtain⟨A5,n5,c5,rfl⟩:=aN hV1.own;clear hat5;refine hK.out _ _ ?_ (fun hHeld=>?_)
        ·exact hcells.out _ hX
        clear hK K
        (try simp only [JM,JI,JJ,JK])
        refine wpAnyH_ready (rs:=[9]) (by kernel_rfl) (by simp) ?_
        refine JN (o:=_) rfl (fun K hK=>?_) ?_
        ·refine aB _ rfl _ _ 24 rfl B 42 i2 (.agg #[.int .i64 0,.slice none 0 0,.bool false,.int .i64 0]) 4 48 Tryd.underlying24 hi2 hx0 hx1 hx2 rfl (by decide) (.slice A5 n5 c5) _ _ (by simp [go_sem];done) hV1.own (some ⟨W0.heap.size,0,none⟩) 1 1 [.int .i64 id,.slice none 0 0,.bool false,.int .i64 0] (by simp [go_sem];done) rfl (fun _=>⟨_,_,rfl,dM hM⟩) (by intro u hu;simp at hu;rcases hu with rfl | rfl | rfl | rfl<;>rfl) (by unfold maxLen;simp;try omega) (by simp;try omega) (by have:=hX.size;omega) ?_
         intro v6 w6 hown6 hg6 hat6;have hV2:=en (x:=(id,[],false,0)) (y:=.slice none 0 0) hV1 (by have:=hX.size;omega) hown6 hg6 hat6 (kI _ _ _ _) (fun b hb=>by cases hb);have hf2:∀b,FmS v6 (ys.take at_++[.slice none 0 0]) b→FmS (.slice (some ⟨g,0,none⟩) s.2.1.length c') ys b∨wc.heap.size≤b:=fun b hb=>by
          rcases hb with hb | ⟨z,hz,hzb⟩
          ·rcases hat6 with h | h
           ·exact hf1 b (.inl (hb.symm.trans h).symm)
           ·have e:some b=some (w5.heap.size):=hb.symm.trans h
            have:=JL e;have:=hX.size;exact .inr (by omega)
          ·rcases JR.1 hz with hz | hz
           ·exact hf1 b (.inr ⟨z,hz,hzb⟩)
           ·obtain rfl:=JU.1 hz
            cases hzb
         have hge6:∀b,aM v6 b→wc.heap.size≤b:=fun b hb=>by
          rcases hat6 with h | h
          ·exact hge5 b (h.symm.trans hb)
          ·have e:some b=some (w5.heap.size):=hb.symm.trans h
           have:=JL e;have:=hX.size;omega
         have hX:=hX.grown hg6 hX.size (fun k hk=>hge5 k hk);obtain⟨A6,n6,c6,rfl⟩:=aN hV2.own;clear hat6;refine hK.out _ _ ?_ (fun hHeld=>?_)
         ·exact hcells.out _ hX
         clear hK K
         (try simp only [JM,JI,JJ,JK])
         refine wpAnyH_ready (rs:=[14]) (by kernel_rfl) (by simp) ?_
         refine JN (o:=_) rfl (fun K hK=>?_) ?_
         ·refine aB _ rfl _ _ 24 rfl B 42 i2 (.agg #[.int .i64 0,.slice none 0 0,.bool false,.int .i64 0]) 4 48 Tryd.underlying24 hi2 hx0 hx1 hx2 rfl (by decide) (.slice A6 n6 c6) _ _ (by simp [go_sem];done) hV2.own (if c'=at_ then some ⟨g,0,none⟩ else some ⟨g,at_*4,none⟩) (s.2.1.length - at_) (c' - at_) (bK (s.2.1.drop at_) (ys.drop at_)) (by simp [go_sem,sliced];done) (by rw [eP _ _ (by simp [hF4.len]),JX]) (fun h0=>⟨g,at_*4,by rw [if_neg (by omega)],oB (hfmsX.out _ hX) at_ hat⟩) (fw _ _ fun y hy=>iX hF4 y (JT hy)) (by unfold maxLen;simp;try omega) (by simp;try omega) (by have:=hX.size;omega) ?_
          intro v7 w7 hown7 hg7 hat7;have hdr:=qC (hfmsX.out _ hX) at_;have hV3:=dB hV2 (m:=s.2.1.drop at_) (zs:=ys.drop at_) (by have:=hX.size;omega) (by rw [JX];exact hown7) hg7 hat7 (by simp [hF4.len]) hdr.1 (fun j y b hj hb=>by
           obtain⟨h1,h2,h3,h4⟩:=hdr.2.1 j y b hj hb;have h5:=(hlt4 b (.inr ⟨y,JT (JQ hj),hb⟩)).2;refine⟨h1,h2,fun h=>?_⟩
           rcases h with h | ⟨z,hz,hzb⟩
           ·have:=hge6 b h
            omega
           ·rcases JR.1 hz with hz | hz
            ·exact h4 at_ (Kb _) z hz hzb
            ·obtain rfl:=JU.1 hz
             cases hzb) hdr.2.2
          have hf3:∀b,FmS v7 ((ys.take at_++[.slice none 0 0])++ys.drop at_) b→FmS (.slice (some ⟨g,0,none⟩) s.2.1.length c') ys b∨wc.heap.size≤b:=fun b hb=>by
           rcases hb with hb | ⟨z,hz,hzb⟩
           ·rcases hat7 with h | h
            ·exact hf2 b (.inl (hb.symm.trans h).symm)
            ·have e:some b=some (w6.heap.size):=hb.symm.trans h
             have:=JL e;have:=hX.size;exact .inr (by omega)
           ·rcases JR.1 hz with hz | hz
            ·exact hf2 b (.inr ⟨z,hz,hzb⟩)
            ·exact .inl (.inr ⟨z,JT hz,hzb⟩)
          have hX:=hX.grown hg7 hX.size (fun k hk=>hge6 k hk);obtain⟨A7,n7,c7,rfl⟩:=aN hV3.own;clear hat7;refine hK.out _ _ ?_ (fun hHeld=>?_)
          ·exact hcells.out _ hX
          clear hK K
          (try simp only [JM,JI,JJ,JK])
          refine wpAnyH_take (i:=15) (oi:=_) (v:=?va13) rfl (by kernel_rfl) (by kernel_rfl) (by kernel_rfl) (fun _ _ _ h=>h) (JP ⟨by rfl,?ya13⟩) hHeld ?ra13
          case ya13=>(intro w0 hSw;obtain⟨hSw0,hSw1⟩:=hSw;go_simp;try with_reducible rfl)
          (try simp only [JM,JI,JJ,JK])
          refine bH (by kernel_rfl) ?_
          have hp7:=(hX.block p hpl4).trans hp4;have g1:=(ab hp7).2.1;have h1:=(aZ hp7).2.1;have hp8:(w7.setCell ⟨p,1,none⟩ (.slice A7 n7 c7)).heap[p]?=some (.cells #[.slice A bn c,.slice A7 n7 c7,.int .i64 s.2.2.1,.int .i64 s.2.2.2] 26 (0,0)):=heap_setCell_same _ _ 1 _ _ (.slice A7 n7 c7) hp7;have hV4:=hV3.keep (w':=w7.setCell ⟨p,1,none⟩ (.slice A7 n7 c7)) fun b hb=>heap_setCell_other _ _ _ _ (by
           simp;rintro rfl;exact(hf3 _ hb).elim (fun h=>hnp (.inr h)) fun h=>by omega)
          have eI:ie s.2.1 id=(s.2.1.take at_++[(id,[],false,0)])++s.2.1.drop at_:=by
           unfold ie;rw [if_neg (by simp [hhf]),←hatH.out];simp
          go_simp
          go_wp2
          all_goals (
           go_meet
           case rel=>exact⟨rfl,A7,n7,c7,_,hp8,by rw [eI];exact hV4,hf3,fun b hb hne=>(heap_setCell_other _ _ _ _ (by simpa using hne)).trans (hX.block b hb),by simp [JY];exact hX.size,hX.os,hX.tape,hX.output⟩)
         exact JO
        exact JO
       exact JO
      exact JO
     exact JO
  ·go_wp2
   go_meet
   case rel =>
    refine⟨rfl,A',s.2.1.length,c',ys,hp4,?_,fun b hb=>.inl hb,fun b _ _=>rfl,Kb _,rfl,rfl,rfl⟩
    rw [ie,if_pos hhf];exact hF4
 case rest =>
  obtain⟨rfl,Ac,nc,cc,yc,hpc,hFc,hfc,hkc,hszc,hosc,htapec,houtc⟩:=hcut;obtain⟨Ac',cc',efc⟩:=cB hFc.own;cases efc;have hatL:at_<(ie s.2.1 id).length:=by rw [hatH.out];exact HD _ _
  obtain⟨g,rfl⟩:=gT hFc.own (by omega);have hv3':∀b,aM (.slice A bn c) b→w2.heap.size≤b∧b<w4.heap.size:=fun b hb=>⟨(h3b b hb).1,dy own34 b hb⟩
  have hv24:∀b,aM (.slice A2 n2 c2) b→W.heap.size≤b∧b<w4.heap.size:=fun b hb=>⟨(h2b b hb).1,dy own24 b hb⟩
  have own2c:=aY (w':=wc) own24 fun b hb=>hkc b (hv24 b hb).2 (by have:=(hv24 b hb).1;omega)
  have own3c:=aY (w':=wc) own34 fun b hb=>hkc b (hv3' b hb).2 (by have:=(hv3' b hb).1;omega)
  have hpg:∀b,FmS (.slice (some ⟨g,0,none⟩) (ie s.2.1 id).length cc) yc b→b≠p:=fun b hb e=>by
   subst e;rcases hfc b hb with h | h
   ·exact hnp (.inr h)
   ·omega
  have hfn2:∀b,FmS (.slice (some ⟨g,0,none⟩) (ie s.2.1 id).length cc) yc b→b<p∨w4.heap.size≤b:=fun b hb=>by
   rcases hfc b hb with h | h
   ·exact .inl (hFb b h)
   ·exact .inr h
  have hrc:wc.heap[p+1]?=some (.cells #[.slice none 0 0,.slice none 0 0,.int .i64 0,.int .i64 0] 26 (0,0)):=(hkc (p+1) hrl4 (by omega)).trans hr4;have hw4:w.heap.size≤w4.heap.size:=B4.size;have Bc:KeptX (ShS (.slice oA on_ oc) (.slice A' s.2.1.length c') ys) w wc:=⟨hosc.trans B4.os,htapec.trans B4.tape,houtc.trans B4.output,Nat.le_trans B4.size hszc,fun b hb hn=>(hkc b (by omega) (by have:=hpeH.out;omega)).trans (B4.block b hb hn)⟩
  have hfcS:∀b,FmS (.slice (some ⟨g,0,none⟩) (ie s.2.1 id).length cc) yc b→(ShS (.slice oA on_ oc) (.slice A' s.2.1.length c') ys) b∨w.heap.size≤b:=fun b hb=>(hfc b hb).imp .inr fun h=>by omega
  have hr1:w.heap.size≤p+1:=by have:=hpeH.out;omega
  clear hkc hosc htapec houtc hr4 B4 B2 B3;generalize hfl:ie s.2.1 id=L at *;obtain⟨y,hy⟩:∃y,yc[at_]?=some y:=⟨yc[at_]'(by rw [hFc.len];exact hatL),JV _⟩
  have hgx:L[at_]?=some L[at_]:=JV hatL;obtain⟨f,hf⟩:∃f,f=L[at_]:=⟨_,rfl⟩
  rw [←hf] at hgx;obtain⟨Ay,cy,rfl⟩:=gA (hFc.row at_ _ y hgx hy);rw [List.length_map] at hy;have hpi:(at_:Int)<(L.length:Int):=by omega
  have hflen:f.2.1.length≤40:=by
   have:=ue hfm id f (by rw [hfl];exact JQ hgx);exact this
  clear hf;have k2:=aW hFc.own (j:=at_*4+2) (u:=.bool f.2.2.1) (by rw [be _ _ at_ f _ hgx hy 2 (by omega)];rfl);obtain⟨e0,e1,e2,e3⟩:=ab hpc;have eS:Db s id u=(bE (aU s.1) (-1) s.1 (gz s.1 u),L.set at_ (f.1,f.2.1++gz s.1 u,f.2.2.1,f.2.2.2),s.2.2.1,s.2.2.2):=by
   unfold Db FP;rw [hfl,←hatH.out,hgx]
  have eO:nR s id u = !f.2.2.1:=by
   unfold nR AH;rw [hfl,←hatH.out,hgx,hwb,hgo];rfl
  have eSH:Hid _:=eS;have eOH:Hid _:=eO;clear eS eO hfl hatH hwb hgo;cases hb:f.2.2.1
  rotate_left
  ·rw [hb] at k2
   have hbH:Hid _:=hb;clear hb;obtain⟨g0,g1,g2,g3⟩:=ab hrc;obtain⟨j0,j1,j2,j3⟩:=aZ hrc
   go_wp2
   obtain⟨d0,d1,d2,d3⟩:=ab (aK (.slice none 0 0) (.slice none 0 0) (.int .i64 0) (.int .i64 0) hrc);refine bodyPost_ret (by simp [results,Tryd.results80,go_sem,d0,d1,d2,d3];try rfl) rfl ?_
   rw [eOH.out,hbH.out];exact er Bc hr1
  rw [hb] at k2;have hbH:Hid _:=hb;clear hb
  go_upto_region 16 with fail
  have hF0:FmsAt wc.drew B (.slice (some ⟨g,0,none⟩) L.length cc) yc L:=hFc.keep fun _ _=>rfl
  have hp0:=Below.some (ac wc) hpc;have hr0:=Below.some (ac wc) hrc;have own20:=bh.below own2c (ac wc);have own30:=bh.below own3c (ac wc);have Bd0:KeptX (ShS (.slice oA on_ oc) (.slice A' s.2.1.length c') ys) w wc.drew:=Bc.step (ac wc);have hsz0:w4.heap.size≤wc.drew.heap.size:=hszc;clear k2 e0 e1 e2 e3 hpc hrc own2c own3c Bc;have hrow:=hF0.row at_ _ _ hgx hy;have k1:=aW hF0.own (j:=at_*4+1) (u:=.slice Ay f.2.1.length cy) (by rw [be _ _ at_ f _ hgx hy 1 (by omega)];rfl);have hyb:∀b,aM (.slice Ay f.2.1.length cy) b→b≠g∧b≠p∧(b<p∨w4.heap.size≤b)∧B≤b:=fun b hb=>⟨fun e=>(hF0.blk at_ _ b hy hb).2 (by rw [e];rfl),hpg b (.inr ⟨_,JQ hy,hb⟩),hfn2 b (.inr ⟨_,JQ hy,hb⟩),(hF0.blk at_ _ b hy hb).1⟩
  have hgp:g≠p:=hpg g (.inl rfl);have hgW:=hfn2 g (.inl rfl);have hgB:=(hF0.lt g (.inl rfl)).1;have hglt:=(hF0.lt g (.inl rfl)).2;have hSd:wc.drew.cell? ⟨p,1,none⟩=some (.slice (some ⟨g,0,none⟩) L.length cc)∧wc.drew.cell? ⟨g,at_*4+1,none⟩=some (.slice Ay f.2.1.length cy):=⟨(ab hp0).2.1,k1⟩
  refine cO (l:=[_,_,_,_,_,_,_,_,_,_,_,_,_]) (o:=_) (S:=fun w'=>w'.cell? ⟨p,1,none⟩=some (.slice (some ⟨g,0,none⟩) L.length cc)∧w'.cell? ⟨g,at_*4+1,none⟩=some (.slice Ay f.2.1.length cy)) (by kernel_rfl) (by kernel_rfl) hSd (fun hHeld=>?_)
  change wpAnyH _ _ _ _ _ 13 (Ke 13 false) _ _
  generalize wc.drew=W0 at *;refine wpAnyH_take (i:=0) (oi:=_) (v:=?vb1) rfl (by kernel_rfl) (by kernel_rfl) (by kernel_rfl) (fun _ _ _ h=>h) (JP ⟨by rfl,?yb1⟩) hHeld ?rb1
  case yb1=>(intro w0 hSw;obtain⟨hSw0,hSw1⟩:=hSw;go_simp;try with_reducible rfl)
  (try simp only [JM,JI,JJ,JK])
  refine wpAnyH_take (i:=1) (oi:=_) (v:=?vb2) rfl (by kernel_rfl) (by kernel_rfl) (by kernel_rfl) (fun _ _ _ h=>h) (JP ⟨by rfl,?yb2⟩) hHeld ?rb2
  case yb2=>(intro w0 hSw;obtain⟨hSw0,hSw1⟩:=hSw;go_simp;try with_reducible rfl)
  (try simp only [JM,JI,JJ,JK])
  refine wpAnyH_take (i:=2) (oi:=_) (v:=?vb3) rfl (by kernel_rfl) (by kernel_rfl) (by kernel_rfl) (fun _ _ _ h=>h) (JP ⟨by rfl,?yb3⟩) hHeld ?rb3
  case yb3=>(intro w0 hSw;obtain⟨hSw0,hSw1⟩:=hSw;go_simp;try with_reducible rfl)
  (try simp only [JM,JI,JJ,JK])
  refine wpAnyH_take (i:=3) (oi:=_) (v:=?vb4) rfl (by kernel_rfl) (by kernel_rfl) (by kernel_rfl) (fun _ _ _ h=>h) (JP ⟨by rfl,?yb4⟩) hHeld ?rb4
  case yb4=>(intro w0 hSw;obtain⟨hSw0,hSw1⟩:=hSw;go_simp;try with_reducible rfl)
  (try simp only [JM,JI,JJ,JK])
  refine wpAnyH_take (i:=4) (oi:=_) (v:=?vb5) rfl (by kernel_rfl) (by kernel_rfl) (by kernel_rfl) (fun _ _ _ h=>h) (JP ⟨by rfl,?yb5⟩) hHeld ?rb5
  case yb5=>(intro w0 hSw;obtain⟨hSw0,hSw1⟩:=hSw;go_simp;try with_reducible rfl)
  (try simp only [JM,JI,JJ,JK])
  refine wpAnyH_take (i:=5) (oi:=_) (v:=?vb6) rfl (by kernel_rfl) (by kernel_rfl) (by kernel_rfl) (fun _ _ _ h=>h) (JP ⟨by rfl,?yb6⟩) hHeld ?rb6
  case yb6=>(intro w0 hSw;obtain⟨hSw0,hSw1⟩:=hSw;go_simp;try with_reducible rfl)
  (try simp only [JM,JI,JJ,JK])
  refine wpAnyH_take (i:=6) (oi:=_) (v:=?vb7) rfl (by kernel_rfl) (by kernel_rfl) (by kernel_rfl) (fun _ _ _ h=>h) (JP ⟨by rfl,?yb7⟩) hHeld ?rb7
  case yb7=>(intro w0 hSw;obtain⟨hSw0,hSw1⟩:=hSw;go_simp;try with_reducible rfl)
  (try simp only [JM,JI,JJ,JK])
  refine wpAnyH_take (i:=7) (oi:=_) (v:=?vb8) rfl (by kernel_rfl) (by kernel_rfl) (by kernel_rfl) (fun _ _ _ h=>h) (JP ⟨by rfl,?yb8⟩) hHeld ?rb8
  case yb8=>(intro w0 hSw;obtain⟨hSw0,hSw1⟩:=hSw;go_simp;try with_reducible rfl)
  (try simp only [JM,JI,JJ,JK])
  refine wpAnyH_take (i:=8) (oi:=_) (v:=?vb9) rfl (by kernel_rfl) (by kernel_rfl) (by kernel_rfl) (fun _ _ _ h=>h) (JP ⟨by rfl,?yb9⟩) hHeld ?rb9
  case yb9=>(intro w0 hSw;obtain⟨hSw0,hSw1⟩:=hSw;go_simp;try with_reducible rfl)
  (try simp only [JM,JI,JJ,JK])
  refine wpAnyH_take (i:=9) (oi:=_) (v:=?vb10) rfl (by kernel_rfl) (by kernel_rfl) (by kernel_rfl) (fun _ _ _ h=>h) (JP ⟨by rfl,?yb10⟩) hHeld ?rb10
  case yb10=>(intro w0 hSw;obtain⟨hSw0,hSw1⟩:=hSw;go_simp;try with_reducible rfl)
  (try simp only [JM,JI,JJ,JK])
  refine wpAnyH_ready (rs:=[10]) (by kernel_rfl) (by simp) ?_
  refine JN (o:=_) rfl (fun K hK=>?_) ?_
  ·refine tT _ rfl _ _ rfl f.2.1 (gz s.1 u) (.slice Ay f.2.1.length cy) (.slice A2 n2 c2) (by simp [go_sem];done) (by simp [go_sem];done) hrow (gK own20) (by omega) ?_
   intro A5 n5 c5 w5 own5 hv5 hk5;have hp5:=KeptX.some hk5 hp0 (fun h=>(hyb p h).2.1 rfl);refine hK.out _ _ ?_ (fun hHeld=>?_)
   ·exact⟨(ab hp5).2.1,(World.cell?_of_block (hk5.block g hglt (fun h=>(hyb g h).1 rfl))).trans k1⟩
   clear hK K
   (try simp only [JM,JI,JJ,JK])
   refine wpAnyH_take (i:=11) (oi:=_) (v:=?vb11) rfl (by kernel_rfl) (by kernel_rfl) (by kernel_rfl) (fun _ _ _ h=>h) (JP ⟨by rfl,?yb11⟩) hHeld ?rb11
   case yb11=>(intro w0 hSw;obtain⟨hSw0,hSw1⟩:=hSw;go_simp;try with_reducible rfl)
   (try simp only [JM,JI,JJ,JK])
   refine wpAnyH_take (i:=12) (oi:=_) (v:=?vb12) rfl (by kernel_rfl) (by kernel_rfl) (by kernel_rfl) (fun _ _ _ h=>h) (JP ⟨by rfl,?yb12⟩) hHeld ?rb12
   case yb12=>(intro w0 hSw;obtain⟨hSw0,hSw1⟩:=hSw;go_simp;try with_reducible rfl)
   (try simp only [JM,JI,JJ,JK])
   refine bH (by kernel_rfl) ?_
   have hown5:=Az hF0.own (w':=w5) fun b hb=>hk5.block b (hF0.lt b (.inl hb)).2 (fun h=>(hyb b h).1 (JL hb).symm)
   have k15:=aW hown5 (j:=at_*4+1) (u:=.slice Ay f.2.1.length cy) (by rw [be _ _ at_ f _ hgx hy 1 (by omega)];rfl);have z15:=cG hown5 (at_*4+1);have hv5':∀b,aM (.slice A5 n5 c5) b→b≠g∧b≠p∧(b<p∨w4.heap.size≤b)∧B≤b∧(aM (.slice Ay f.2.1.length cy) b∨W0.heap.size≤b):=fun b hb=>by
    rcases hv5 b hb with h | h
    ·exact⟨(hyb b h).1,(hyb b h).2.1,(hyb b h).2.2.1,(hyb b h).2.2.2,.inl h⟩
    ·exact⟨by omega,by omega,.inr (by omega),by omega,.inr h⟩
   have hw6:∀b,b≠g→(w5.setCell ⟨g,at_*4+1,none⟩ (.slice A5 n5 c5)).heap[b]?=w5.heap[b]?:=fun b hb=>heap_setCell_other _ _ _ _ (by simpa using hb)
   have hF6:=rT (w':=w5.setCell ⟨g,at_*4+1,none⟩ (.slice A5 n5 c5)) (x:=(f.1,f.2.1++gz s.1 u,f.2.2.1,f.2.2.2)) (y:=.slice A5 n5 c5) hF0 hatL (aY own5 fun b hb=>hw6 b (hv5' b hb).1) (fun b hb=>⟨(hv5' b hb).2.2.2.1,(hv5' b hb).1⟩)
    (fun j z hj hz=>by
     cases hb:(Value.slice A5 n5 c5).ownBlock with
     | none=>exact .inl rfl
     | some b =>
      refine .inr fun e=>?_
      rcases(hv5' b hb).2.2.2.2 with h | h
      ·rcases hF0.dis at_ j _ z (fun e=>hj e.symm) hy hz with h2 | h2
       ·rw [aM,h2] at h
        cases h
       ·exact h2 (h.trans e)
      ·have:=(hF0.lt b (.inr ⟨z,JQ hz,e.symm⟩)).2
       omega)
    (fun j z b hj hz hb=>(hw6 b fun e=>(hF0.blk j z b hz hb).2 (by rw [e];rfl)).trans (hk5.block b (hF0.lt b (.inr ⟨z,JQ hz,hb⟩)).2 fun h=>by
     rcases hF0.dis at_ j _ z (fun e=>hj e.symm) hy hz with h2 | h2
     ·rw [aM,h2] at h
      cases h
     ·exact h2 (h.trans hb.symm)))
    (by rw [mr L yc at_ f (f.1,f.2.1++gz s.1 u,f.2.2.1,f.2.2.2) _ _ (.slice A5 n5 c5) 1 (by omega) hgx hy rfl];exact mZ hown5 rfl _ _)
   have hp6:=(hw6 p (fun e=>hgp e.symm)).trans hp5;have own36:bh (w5.setCell ⟨g,at_*4+1,none⟩ (.slice A5 n5 c5)) (fun _=>False) (aM (.slice A bn c)) 4 _ (.slice A bn c):=aY own30 fun b hb=>by
    have h1:=hv3' b hb;rw [hw6 b (by omega)];exact hk5.block b (by omega) fun h=>by have:=(hyb b h).2.2.1;omega
   have B6:KeptX (ShS (.slice oA on_ oc) (.slice A' s.2.1.length c') ys) w (w5.setCell ⟨g,at_*4+1,none⟩ (.slice A5 n5 c5)):=(Bd0.stepX hk5 fun b hb=>hfcS b (.inr ⟨_,JQ hy,hb⟩)).setO _ _ (hfcS g (.inl rfl));have hfs6:∀b,FmS (.slice (some ⟨g,0,none⟩) L.length cc) (yc.set at_ (.slice A5 n5 c5)) b→b≠p∧(b<p∨w4.heap.size≤b):=fun b hb=>by
    rcases hb with hb | ⟨z,hz,hzb⟩
    ·exact⟨hpg b (.inl hb),hfn2 b (.inl hb)⟩
    ·rcases Kg hz with h | rfl
     ·exact⟨hpg b (.inr ⟨z,h,hzb⟩),hfn2 b (.inr ⟨z,h,hzb⟩)⟩
     ·exact⟨(hv5' b hzb).2.1,(hv5' b hzb).2.2.1⟩
   have hr6:=(hw6 (p+1) (by omega)).trans (KeptX.some hk5 hr0 (fun h=>by have:=(hyb _ h).2.2.1;omega));have hSz:ShopAt (w5.setCell ⟨g,at_*4+1,none⟩ (.slice A5 n5 c5)) B (.agg #[.slice A bn c,.slice (some ⟨g,0,none⟩) L.length cc,.int .i64 s.2.2.1,.int .i64 s.2.2.2]) (.slice A bn c) (.slice (some ⟨g,0,none⟩) L.length cc) (yc.set at_ (.slice A5 n5 c5)) (bE (aU s.1) (-1) s.1 (gz s.1 u),L.set at_ (f.1,f.2.1++gz s.1 u,f.2.2.1,f.2.2.2),s.2.2.1,s.2.2.2) :=
    ⟨rfl,own36,fun b hb=>by have:=(hv3' b hb).1;omega,hF6,fun b hb h=>by have:=hv3' b hb;have:=(hfs6 b h).2;omega⟩
   have hrb:∀b,ShS (.slice A bn c) (.slice (some ⟨g,0,none⟩) L.length cc) (yc.set at_ (.slice A5 n5 c5)) b→p+1≠b:=fun b hb=>by
    rcases hb with hb | hb
    ·have:=(hv3' b hb).1
     omega
    ·have:=(hfs6 b hb).2
     omega
   have hsub:∀b,ShS (.slice A bn c) (.slice (some ⟨g,0,none⟩) L.length cc) (yc.set at_ (.slice A5 n5 c5)) b→(ShS (.slice oA on_ oc) (.slice A' s.2.1.length c') ys) b∨w.heap.size≤b:=fun b hb=>by
    rcases hb with hb | hb
    ·exact .inr (by have:=(hv3' b hb).1;have:=hpeH.out;omega)
    ·rcases hb with hb | ⟨z,hz,hzb⟩
     ·exact hfcS b (.inl hb)
     ·rcases Kg hz with h | rfl
      ·exact hfcS b (.inr ⟨z,h,hzb⟩)
      ·rcases hv5 b hzb with h | h
       ·exact hfcS b (.inr ⟨_,JQ hy,h⟩)
       ·exact .inr (by omega)
   go_simp
   generalize w5.setCell ⟨g,at_*4+1,none⟩ (.slice A5 n5 c5)=w6 at *;obtain⟨x0,x1,x2,x3⟩:=ab hp6;obtain⟨g0,g1,g2,g3⟩:=ab hr6;obtain⟨j0,j1,j2,j3⟩:=aZ hr6;clear own5 hown5
   go_wp2
   obtain⟨d0,d1,d2,d3⟩:=ab (aK (.slice A bn c) (.slice (some ⟨g,0,none⟩) L.length cc) (.int .i64 s.2.2.1) (.int .i64 s.2.2.2) hr6);refine bodyPost_ret (by simp [results,Tryd.results80,go_sem,d0,d1,d2,d3];try rfl) rfl ?_
   rw [eOH.out,hbH.out,eSH.out];exact kZ hSz B6 hr1 hrb hsub
  exact JO
set_option maxRecDepth 100000
set_option maxHeartbeats 8000000 in
set_option maxRecDepth 1000000 in
theorem Fl (s:Sp) (hs:cm s) (hok:aE s=true) (id:Int) (u:ByteArray) (n:Int) (hx:gw (1,id,u,n)=true) (w:World) (B:Nat) (v Vb Vf:Value) (ys:List Value) (hS0:ShopAt w B v Vb Vf ys s) (hB:B≤w.heap.size) :
  Calls Tryd.prog 68 #[v,stV (1,id,u,n)] w (pN w B (ShS Vb Vf ys) (nR s id u) (Db s id u)):=by
 obtain rfl:=hS0.val;obtain⟨bA,bn,bc,rfl⟩:=bQ hS0.box;obtain⟨fA,fc,rfl⟩:=cB hS0.fms.own;have hlt0:=hS0.lt
 go_enter Tryd.func68,Tryd.ntmps68
 go_upto_region 1 with fail
 have hW:Below w.heap.size w (((w.alloc (.cells #[.slice bA bn bc,.slice fA s.2.1.length fc,.int .i64 s.2.2.1,.int .i64 s.2.2.2] 26)).alloc (.cells #[.int .i64 1,.int .i64 id,.string u,.int .i64 n] 91)).alloc (.cells #[.slice none 0 0,.slice none 0 0,.int .i64 0,.int .i64 0] 26)):=((Ki _ w).alloc (Kb _) _).alloc (by simp) _ |>.alloc (by simp;omega) _;have hWs:w.heap.size+3≤(((w.alloc (.cells #[.slice bA bn bc,.slice fA s.2.1.length fc,.int .i64 s.2.2.1,.int .i64 s.2.2.2] 26)).alloc (.cells #[.int .i64 1,.int .i64 id,.string u,.int .i64 n] 91)).alloc (.cells #[.slice none 0 0,.slice none 0 0,.int .i64 0,.int .i64 0] 26)).heap.size:=by simp
 have hp:(((w.alloc (.cells #[.slice bA bn bc,.slice fA s.2.1.length fc,.int .i64 s.2.2.1,.int .i64 s.2.2.2] 26)).alloc (.cells #[.int .i64 1,.int .i64 id,.string u,.int .i64 n] 91)).alloc (.cells #[.slice none 0 0,.slice none 0 0,.int .i64 0,.int .i64 0] 26)).heap[w.heap.size]?=some (.cells #[.slice bA bn bc,.slice fA s.2.1.length fc,.int .i64 s.2.2.1,.int .i64 s.2.2.2] 26 (0,0)):=aj _ (aj _ (al _ rfl));have hq:(((w.alloc (.cells #[.slice bA bn bc,.slice fA s.2.1.length fc,.int .i64 s.2.2.1,.int .i64 s.2.2.2] 26)).alloc (.cells #[.int .i64 1,.int .i64 id,.string u,.int .i64 n] 91)).alloc (.cells #[.slice none 0 0,.slice none 0 0,.int .i64 0,.int .i64 0] 26)).heap[w.heap.size+1]?=some (.cells #[.int .i64 1,.int .i64 id,.string u,.int .i64 n] 91 (0,0)):=aj _ (al _ (by simp));have hr:(((w.alloc (.cells #[.slice bA bn bc,.slice fA s.2.1.length fc,.int .i64 s.2.2.1,.int .i64 s.2.2.2] 26)).alloc (.cells #[.int .i64 1,.int .i64 id,.string u,.int .i64 n] 91)).alloc (.cells #[.slice none 0 0,.slice none 0 0,.int .i64 0,.int .i64 0] 26)).heap[w.heap.size+1+1]?=some (.cells #[.slice none 0 0,.slice none 0 0,.int .i64 0,.int .i64 0] 26 (0,0)):=al _ (by simp);have hS:=hS0.below hW;generalize (((w.alloc (.cells #[.slice bA bn bc,.slice fA s.2.1.length fc,.int .i64 s.2.2.1,.int .i64 s.2.2.2] 26)).alloc (.cells #[.int .i64 1,.int .i64 id,.string u,.int .i64 n] 91)).alloc (.cells #[.slice none 0 0,.slice none 0 0,.int .i64 0,.int .i64 0] 26))=W at *;obtain⟨e0,e1,e2,e3⟩:=ab hp;obtain⟨f0,f1,f2,f3⟩:=ab hq;have hc:=BO s hs hok id u n hx W B _ _ _ _ hS (by omega)
 go_wp2_with (go_at_call 80;refine hc.mono ?_)
 rintro e w2 ⟨v2,Vb2,Vf2,ys2,rfl,sa,hsub,hk⟩;generalize hT:(if nR s id u=true then Db s id u else([],[],0,0))=T at sa;have hTH:Hid _:=hT;clear hT;obtain rfl:=sa.val;obtain⟨mA,mn,mc,rfl⟩:=bQ sa.box;obtain⟨mfA,mfn,mfc,rfl⟩:=aN sa.fms.own;have hr2:=KeptX.some hk hr (fun h=>by have:=hlt0 _ h;omega);have hrb:∀b,ShS (.slice mA mn mc) (.slice mfA mfn mfc) ys2 b→w.heap.size+1+1≠b:=fun b hb=>by
  rcases hsub b hb with h | h
  ·have:=hlt0 b h
   omega
  ·omega
 clear e0 e1 e2 e3 f0 f1 f2 f3 hc;obtain⟨g0,g1,g2,g3⟩:=ab hr2;obtain⟨j0,j1,j2,j3⟩:=aZ hr2
 go_wp2
 obtain⟨d0,d1,d2,d3⟩:=ab (aK (.slice mA mn mc) (.slice mfA mfn mfc) (.int .i64 T.2.2.1) (.int .i64 T.2.2.2) hr2);refine bodyPost_ret (by simp [results,Tryd.results68,go_sem,d0,d1,d2,d3];try rfl) rfl ?_
 refine⟨_,_,_,_,rfl,by rw [hTH.out];exact sa.set4 _ _ _ _ hrb,fun b hb=>(hsub b hb).imp (fun h=>h) fun h=>by omega,KeptX.set4 ((KeptX.ofBelow hW).stepX hk fun b hb=>.inl hb) (by omega) _ _ _ _⟩
theorem mY (s:Sp) (hs:cm s) (hok:aE s=true) (x:Stp) (hx:gw x=true) (w:World) (B:Nat) (v Vb Vf:Value) (ys:List Value) (hS0:ShopAt w B v Vb Vf ys s) (hB:B≤w.heap.size) :
  Calls Tryd.prog 68 #[v,stV x] w (pN w B (ShS Vb Vf ys) (nV s x) (mU s x)):=by
 obtain⟨k,id,u,n⟩:=x;have h:=BA hx;simp only at h;unfold nV mU;rcases h with rfl | rfl | rfl | rfl | rfl | rfl
 ·exact Fl s hs hok id u n hx w B v Vb Vf ys hS0 hB
 ·exact EW s hs hok id u n hx w B v Vb Vf ys hS0 hB
 ·exact DP s hs hok id u n hx w B v Vb Vf ys hS0 hB
 ·exact Ek s hs hok id u n hx w B v Vb Vf ys hS0 hB
 ·exact DQ s hs hok id u n hx w B v Vb Vf ys hS0 hB
 ·exact FF s hs hok id u n hx w B v Vb Vf ys hS0 hB
def DoR (s:Sp) (x:Stp) (w wc:World) (t6 t7:Value):Prop:=∃q,t6 = .pointer (some ⟨q,0,none⟩)∧t7 = .bool (nV s x)∧Gc wc q (w.heap.size+3) (if nV s x=true then mU s x else([],[],0,0)) ∧
 wc.heap[w.heap.size+2]?=some (.cells #[.slice none 0 0,.slice none 0 0,.int .i64 0,.int .i64 0] 26 (0,0))∧Below w.heap.size w wc∧w.heap.size+3≤q∧q<wc.heap.size
set_option maxHeartbeats 8000000 in
set_option maxRecDepth 1000000 in
theorem rU (s:Sp) (hs:cm s) (hok:aE s=true) (x:Stp) (hxs:x.2.2.1.size≤9223372036854775807) (v0:Value) (w:World) (F:Nat→Prop) (hr:aT w F (sp s) v0) (hF:∀b,F b→b<w.heap.size) :
  Calls Tryd.prog 57 #[v0,stV x] w fun e w'=>∃v,e = .returned (.tuple #[v,.bool (mO s x)])∧tz w' w.heap.size v (stS s x)∧Below w.heap.size w w':=by
 obtain⟨A,n,c,A',n',c',rfl,hb,hf⟩:=jZ hr;clear hb hf
 go_enter Tryd.func57,Tryd.ntmps57
 have hb3:∀a b c,Below w.heap.size w (((w.alloc a).alloc b).alloc c):=fun a b c=>(((Ki _ w).alloc (Kb _) _).alloc (by simp) _).alloc (by simp;omega) _
 have rep:∀{W:World},Below w.heap.size w W→aT W F (sp s) (.agg #[.slice A n c,.slice A' n' c',.int .i64 s.2.2.1,.int .i64 s.2.2.2]):=fun {W} h=>aQ (fun _ h=>h) (fun b hb=>h.block b (hF b hb)) hr
 have hFW:∀{W:World},Below w.heap.size w W→∀b,F b→b<W.heap.size:=fun {W} h b hb=>Kc (hF b hb) h.size
 have hc2:=fun(W:World)=>Aw x hxs (w:=W)
 cases hst:gw x
 ·have hno:mO s x=false:=by simp [mO,hst]
  rw [hst] at hc2
  go_wp2_with (go_at_call 67;refine(hc2 _).mono ?_;rintro e w2 ⟨rfl,b2⟩;have B2:Below w.heap.size w w2:=fL (hb3 _ _ _) b2 (by simp;omega);have H2:w2.heap[w.heap.size+2]?=some (.cells #[.slice none 0 0,.slice none 0 0,.int .i64 0,.int .i64 0] 26 (0,0)):=Below.some b2 (al _ (by simp));have i0:=(ab H2).1;have i1:=(ab H2).2.1;have i2:=(ab H2).2.2.1;have i3:=(ab H2).2.2.2;have j0:=(aZ H2).1;have j1:=(aZ H2).2.1;have j2:=(aZ H2).2.2.1;have j3:=(aZ H2).2.2.2)
  obtain⟨d0,d1,d2,d3⟩:=ab (aK (.slice none 0 0) (.slice none 0 0) (.int .i64 0) (.int .i64 0) H2);refine bodyPost_ret (by simp [results,Tryd.results57,go_sem,d0,d1,d2,d3];try rfl) rfl ?_
  (try rw [hno])
  (try rw [Fs hno])
  exact⟨_,rfl,iy _ _,ct _ _ _ _ B2 (by omega)⟩
 ·rw [hst] at hc2
  go_upto_region 3 with (go_at_call 67;refine(hc2 _).mono ?_;rintro e w2 ⟨rfl,b2⟩;have B2:Below w.heap.size w w2:=fL (hb3 _ _ _) b2 (by simp;omega);have hr2:w2.heap[w.heap.size+2]?=some (.cells #[.slice none 0 0,.slice none 0 0,.int .i64 0,.int .i64 0] 26 (0,0)):=Below.some b2 (al _ (by simp));have hq2:w2.heap[w.heap.size+1]?=some (.cells #[.int .i64 x.1,.int .i64 x.2.1,.string x.2.2.1,.int .i64 x.2.2.2] 91 (0,0)):=Below.some b2 (aj _ (al _ (by simp)));have hp2:w2.heap[w.heap.size]?=some (.cells #[.slice A n c,.slice A' n' c',.int .i64 s.2.2.1,.int .i64 s.2.2.2] 26 (0,0)):=Below.some b2 (aj _ (aj _ (al _ rfl)));clear b2)
  have hrl:=bz hr2;have hql2:=bz hq2;have hpl2:=bz hp2;have hcells:Hid (∀X:World,Below w2.heap.size w2 X→(X.cell? ⟨w.heap.size,0,none⟩=some (.slice A n c)∧X.cell? ⟨w.heap.size,1,none⟩=some (.slice A' n' c')∧X.cell? ⟨w.heap.size,2,none⟩=some (.int .i64 s.2.2.1)∧X.cell? ⟨w.heap.size,3,none⟩=some (.int .i64 s.2.2.2))∧(X.cell? ⟨w.heap.size+1,0,none⟩=some (.int .i64 x.1)∧X.cell? ⟨w.heap.size+1,1,none⟩=some (.int .i64 x.2.1)∧X.cell? ⟨w.heap.size+1,2,none⟩=some (.string x.2.2.1)∧X.cell? ⟨w.heap.size+1,3,none⟩=some (.int .i64 x.2.2.2))):=fun X hX=>⟨ab ((hX.block _ hpl2).trans hp2),ab ((hX.block _ hql2).trans hq2)⟩
  have repX:Hid (∀X:World,Below w2.heap.size w2 X→aT X F (sp s) (.agg #[.slice A n c,.slice A' n' c',.int .i64 s.2.2.1,.int .i64 s.2.2.2])):=fun X hX=>rep (B2.trans (hX.mono (by omega)))
  have hFX:Hid (∀X:World,Below w2.heap.size w2 X→∀b,F b→b<X.heap.size):=fun X hX=>hFW (B2.trans (hX.mono (by omega)))
  clear hc2 hb3 rep hFW hp2 hq2 hpl2 hql2
  go_cut [6,7] from 8 (fun t6 t7 wc=>DoR s x w wc t6 t7)
  case first =>
   have hX0:Below w2.heap.size w2 w2.drew:=ac w2;have hSd:=hcells.out _ hX0;have hw2:w.heap.size+3≤w2.heap.size:=by omega
   refine cO (l:=[_,_,_,_,_,_,_,_,_]) (o:=_) (S:=fun w'=>(w'.cell? ⟨w.heap.size,0,none⟩=some (.slice A n c)∧w'.cell? ⟨w.heap.size,1,none⟩=some (.slice A' n' c')∧w'.cell? ⟨w.heap.size,2,none⟩=some (.int .i64 s.2.2.1)∧w'.cell? ⟨w.heap.size,3,none⟩=some (.int .i64 s.2.2.2))∧(w'.cell? ⟨w.heap.size+1,0,none⟩=some (.int .i64 x.1)∧w'.cell? ⟨w.heap.size+1,1,none⟩=some (.int .i64 x.2.1)∧w'.cell? ⟨w.heap.size+1,2,none⟩=some (.string x.2.2.1)∧w'.cell? ⟨w.heap.size+1,3,none⟩=some (.int .i64 x.2.2.2))) (by kernel_rfl) (by kernel_rfl) hSd (fun hHeld=>?_)
   change wpAnyH _ _ _ _ _ 9 (Ke 9 false) _ _
   generalize w2.drew=W0 at *;have hX:=hX0;refine wpAnyH_take (i:=0) (oi:=_) (v:=?vd1) rfl (by kernel_rfl) (by kernel_rfl) (by kernel_rfl) (fun _ _ _ h=>h) (JP ⟨by rfl,?yd1⟩) hHeld ?rd1
   case yd1=>(intro w0 hSw;obtain⟨hSw0,hSw1⟩:=hSw;go_simp;try with_reducible rfl)
   (try simp only [JM,JI,JJ,JK])
   refine wpAnyH_take (i:=2) (oi:=_) (v:=?vd2) rfl (by kernel_rfl) (by kernel_rfl) (by kernel_rfl) (fun _ _ _ h=>h) (JP ⟨by rfl,?yd2⟩) hHeld ?rd2
   case yd2=>(intro w0 hSw;obtain⟨hSw0,hSw1⟩:=hSw;go_simp;try with_reducible rfl)
   (try simp only [JM,JI,JJ,JK])
   refine wpAnyH_ready (rs:=[1,7]) (by kernel_rfl) (by simp) ?_
   refine JN (o:=_) rfl (fun K hK=>?_) ?_
   ·go_simp
    go_at_call 24
    refine(qt s hs _ _ F (repX.out _ hX) (hFX.out _ hX)).mono ?_
    rintro e w4 ⟨v4,rfl,⟨Vb,Vf,ys,sa⟩,b4⟩;have hX4:w2.heap.size≤W0.heap.size:=hX.size;have salt:=sa.lt;have hX:=hX.trans (b4.mono hX.size);have hXp:=hX
    go_wp2_with fail
    refine hK.out _ _ ?_ (fun hHeld=>?_)
    ·exact hcells.out _ hX
    clear hK K
    (try simp only [JM,JI,JJ,JK])
    refine wpAnyH_ready (rs:=[3,7]) (by kernel_rfl) (by simp) ?_
    refine JN (o:=_) rfl (fun K hK=>?_) ?_
    ·go_simp
     go_at_call 68
     refine(mY s hs hok x hst _ W0.heap.size _ _ _ _ sa (by have:=b4.size;omega)).mono ?_
     rintro e w5 ⟨v5,Vb5,Vf5,ys5,rfl,sm,hsub,hk⟩;generalize hT:(if nV s x=true then mU s x else([],[],0,0))=T at sm;have hTH:Hid _:=hT;clear hT;obtain rfl:=sm.val;obtain⟨mA,mn,mc,rfl⟩:=bQ sm.box;obtain⟨mfA,mfn,mfc,rfl⟩:=aN sm.fms.own;have hmlt:=sm.lt;have hX:=hX.trans (hk.below (fun b hb=>by have:=salt b hb;omega) hX.size);have hXp:=hX
     go_wp2_with fail
     refine hK.out _ _ ?_ (fun hHeld=>?_)
     ·exact hcells.out _ hX
     clear hK K
     (try simp only [JM,JI,JJ,JK])
     refine wpAnyH_take (i:=4) (oi:=_) (v:=?vd3) rfl (by kernel_rfl) (by kernel_rfl) (by kernel_rfl) (fun _ _ _ h=>h) (JP ⟨by rfl,?yd3⟩) hHeld ?rd3
     case yd3=>(intro w0 hSw;obtain⟨hSw0,hSw1⟩:=hSw;go_simp;try with_reducible rfl)
     (try simp only [JM,JI,JJ,JK])
     refine wpAnyH_take (i:=5) (oi:=_) (v:=?vd4) rfl (by kernel_rfl) (by kernel_rfl) (by kernel_rfl) (fun _ _ _ h=>h) (JP ⟨by rfl,?yd4⟩) hHeld ?rd4
     case yd4=>(intro w0 hSw;obtain⟨hSw0,hSw1⟩:=hSw;go_simp;try with_reducible rfl)
     (try simp only [JM,JI,JJ,JK])
     refine wpAnyH_take (i:=6) (oi:=_) (v:=?vd5) rfl (by kernel_rfl) (by kernel_rfl) (by kernel_rfl) (fun _ _ _ h=>h) (JP ⟨by rfl,?yd5⟩) hHeld ?rd5
     case yd5=>(intro w0 hSw;obtain⟨hSw0,hSw1⟩:=hSw;go_simp;try with_reducible rfl)
     (try simp only [JM,JI,JJ,JK])
     refine wpAnyH_ready (rs:=[7]) (by kernel_rfl) (by simp) ?_
     refine JN (o:=_) rfl (fun K hK=>?_) ?_
     ·go_simp
      have hX:=hX.alloc hX.size (.cells #[.slice none 0 0,.slice none 0 0,.int .i64 0,.int .i64 0] 26);have hq:(w5.alloc (.cells #[.slice none 0 0,.slice none 0 0,.int .i64 0,.int .i64 0] 26)).heap[w5.heap.size]?=some (.cells #[.slice none 0 0,.slice none 0 0,.int .i64 0,.int .i64 0] 26 (0,0)):=al _ rfl;have hqge:w2.heap.size≤w5.heap.size:=by have:=hX0.size;have:=hXp.size;omega
      have hqb:∀b,ShS (.slice mA mn mc) (.slice mfA mfn mfc) ys5 b→w5.heap.size≠b:=fun b hb=>by have:=hmlt b hb;omega
      refine hK.out _ _ ?_ (fun hHeld=>?_)
      ·exact hcells.out _ hX
      clear hK K
      (try simp only [JM,JI,JJ,JK])
      refine wpAnyH_ready (rs:=[8]) (by kernel_rfl) (by simp) ?_
      refine JN (o:=_) rfl (fun K hK=>?_) ?_
      ·obtain⟨g0,g1,g2,g3⟩:=ab hq
       obtain⟨j0,j1,j2,j3⟩:=aZ hq
       go_simp
       have hX:=hXp.alloc hXp.size (.cells #[.slice mA mn mc,.slice mfA mfn mfc,.int .i64 T.2.2.1,.int .i64 T.2.2.2] 26);replace hq:(w5.alloc (.cells #[.slice mA mn mc,.slice mfA mfn mfc,.int .i64 T.2.2.1,.int .i64 T.2.2.2] 26)).heap[w5.heap.size]?=some (.cells #[.slice mA mn mc,.slice mfA mfn mfc,.int .i64 T.2.2.1,.int .i64 T.2.2.2] 26 (0,0)):=al _ rfl;replace sm:=sm.below (aD w5 (.cells #[.slice mA mn mc,.slice mfA mfn mfc,.int .i64 T.2.2.1,.int .i64 T.2.2.2] 26));clear g0 g1 g2 g3 j0 j1 j2 j3;refine hK.out _ _ ?_ (fun hHeld=>?_)
       ·exact hcells.out _ hX
       clear hK K
       (try simp only [JM,JI,JJ,JK])
       refine bH (by kernel_rfl) ?_
       go_simp
       have hr9:=(hX.block _ hrl).trans hr2;have hql:=bz hq;have B9:Below w.heap.size w _:=B2.trans (hX.mono (by omega))
       go_wp2
       go_meet
       case rel =>
        refine⟨_,rfl,rfl,⟨_,_,_,_,_,_,_,(by rw [hTH.out];exact hq),(by rw [hTH.out];exact⟨rfl,sm.box,fun b hb=>by have:=sm.bge b hb;have:=hX0.size;omega,sm.fms.base (by have:=hX0.size;omega),sm.dis⟩),fun h=>hqb _ h rfl⟩,hr9,B9,by omega,hql⟩
      exact JO
     exact JO
    refine JN (o:=_) rfl (fun K hK=>?_) ?_
    ·go_simp
     have hX:=hX.alloc hX.size (.cells #[.slice none 0 0,.slice none 0 0,.int .i64 0,.int .i64 0] 26);have hq:(w4.alloc (.cells #[.slice none 0 0,.slice none 0 0,.int .i64 0,.int .i64 0] 26)).heap[w4.heap.size]?=some (.cells #[.slice none 0 0,.slice none 0 0,.int .i64 0,.int .i64 0] 26 (0,0)):=al _ rfl;have hqge:w2.heap.size≤w4.heap.size:=by have:=hX0.size;have:=hXp.size;omega
     replace sa:=sa.below (aD w4 (.cells #[.slice none 0 0,.slice none 0 0,.int .i64 0,.int .i64 0] 26));refine hK.out _ _ ?_ (fun hHeld=>?_)
     ·exact hcells.out _ hX
     clear hK K
     (try simp only [JM,JI,JJ,JK])
     refine wpAnyH_ready (rs:=[3]) (by kernel_rfl) (by simp) ?_
     refine JN (o:=_) rfl (fun K hK=>?_) ?_
     ·go_simp
      go_at_call 68
      refine(mY s hs hok x hst _ W0.heap.size _ _ _ _ sa (by have:=b4.size;simp;omega)).mono ?_
      rintro e w5 ⟨v5,Vb5,Vf5,ys5,rfl,sm,hsub,hk⟩;generalize hT:(if nV s x=true then mU s x else([],[],0,0))=T at sm;have hTH:Hid _:=hT;clear hT;obtain rfl:=sm.val;obtain⟨mA,mn,mc,rfl⟩:=bQ sm.box;obtain⟨mfA,mfn,mfc,rfl⟩:=aN sm.fms.own;have hmlt:=sm.lt;have hX:=hX.trans (hk.below (fun b hb=>by have:=salt b hb;omega) hX.size);have hXp:=hX;replace hq:=KeptX.some hk hq (fun h=>by have:=salt _ h;omega);have hqb:∀b,ShS (.slice mA mn mc) (.slice mfA mfn mfc) ys5 b→w4.heap.size≠b:=fun b hb=>by
       rcases hsub b hb with h | h
       ·have:=salt b h
        omega
       ·simp at h;omega
      go_wp2_with fail
      refine hK.out _ _ ?_ (fun hHeld=>?_)
      ·exact hcells.out _ hX
      clear hK K
      (try simp only [JM,JI,JJ,JK])
      refine wpAnyH_take (i:=4) (oi:=_) (v:=?vd6) rfl (by kernel_rfl) (by kernel_rfl) (by kernel_rfl) (fun _ _ _ h=>h) (JP ⟨by rfl,?yd6⟩) hHeld ?rd6
      case yd6=>(intro w0 hSw;obtain⟨hSw0,hSw1⟩:=hSw;go_simp;try with_reducible rfl)
      (try simp only [JM,JI,JJ,JK])
      refine wpAnyH_take (i:=5) (oi:=_) (v:=?vd7) rfl (by kernel_rfl) (by kernel_rfl) (by kernel_rfl) (fun _ _ _ h=>h) (JP ⟨by rfl,?yd7⟩) hHeld ?rd7
      case yd7=>(intro w0 hSw;obtain⟨hSw0,hSw1⟩:=hSw;go_simp;try with_reducible rfl)
      (try simp only [JM,JI,JJ,JK])
      refine wpAnyH_take (i:=6) (oi:=_) (v:=?vd8) rfl (by kernel_rfl) (by kernel_rfl) (by kernel_rfl) (fun _ _ _ h=>h) (JP ⟨by rfl,?yd8⟩) hHeld ?rd8
      case yd8=>(intro w0 hSw;obtain⟨hSw0,hSw1⟩:=hSw;go_simp;try with_reducible rfl)
      (try simp only [JM,JI,JJ,JK])
      refine wpAnyH_ready (rs:=[8]) (by kernel_rfl) (by simp) ?_
      refine JN (o:=_) rfl (fun K hK=>?_) ?_
      ·obtain⟨g0,g1,g2,g3⟩:=ab hq
       obtain⟨j0,j1,j2,j3⟩:=aZ hq
       go_simp
       have hX:=ct (.slice mA mn mc) (.slice mfA mfn mfc) (.int .i64 T.2.2.1) (.int .i64 T.2.2.2) hX hqge;have hq:=aK (.slice mA mn mc) (.slice mfA mfn mfc) (.int .i64 T.2.2.1) (.int .i64 T.2.2.2) hq;replace sm:=sm.set4 (.slice mA mn mc) (.slice mfA mfn mfc) (.int .i64 T.2.2.1) (.int .i64 T.2.2.2) hqb;clear g0 g1 g2 g3 j0 j1 j2 j3;refine hK.out _ _ ?_ (fun hHeld=>?_)
       ·exact hcells.out _ hX
       clear hK K
       (try simp only [JM,JI,JJ,JK])
       refine bH (by kernel_rfl) ?_
       go_simp
       have hr9:=(hX.block _ hrl).trans hr2;have hql:=bz hq;have B9:Below w.heap.size w _:=B2.trans (hX.mono (by omega))
       go_wp2
       go_meet
       case rel =>
        refine⟨_,rfl,rfl,⟨_,_,_,_,_,_,_,(by rw [hTH.out];exact hq),(by rw [hTH.out];exact⟨rfl,sm.box,fun b hb=>by have:=sm.bge b hb;have:=hX0.size;omega,sm.fms.base (by have:=hX0.size;omega),sm.dis⟩),fun h=>hqb _ h rfl⟩,hr9,B9,by omega,hql⟩
      exact JO
     exact JO
    exact JO
   refine JN (o:=_) rfl (fun K hK=>?_) ?_
   ·go_simp
    have hX:=hX.alloc hX.size (.cells #[.slice none 0 0,.slice none 0 0,.int .i64 0,.int .i64 0] 26);have hq:(W0.alloc (.cells #[.slice none 0 0,.slice none 0 0,.int .i64 0,.int .i64 0] 26)).heap[W0.heap.size]?=some (.cells #[.slice none 0 0,.slice none 0 0,.int .i64 0,.int .i64 0] 26 (0,0)):=al _ rfl;have hqge:w2.heap.size≤W0.heap.size:=by have:=hX0.size;omega
    refine hK.out _ _ ?_ (fun hHeld=>?_)
    ·exact hcells.out _ hX
    clear hK K
    (try simp only [JM,JI,JJ,JK])
    refine wpAnyH_ready (rs:=[1]) (by kernel_rfl) (by simp) ?_
    refine JN (o:=_) rfl (fun K hK=>?_) ?_
    ·go_simp
     go_at_call 24
     refine(qt s hs _ _ F (repX.out _ hX) (hFX.out _ hX)).mono ?_
     rintro e w4 ⟨v4,rfl,⟨Vb,Vf,ys,sa⟩,b4⟩;have hX4:w2.heap.size≤(W0.alloc (.cells #[.slice none 0 0,.slice none 0 0,.int .i64 0,.int .i64 0] 26)).heap.size:=hX.size;have salt:=sa.lt;have hX:=hX.trans (b4.mono hX.size);have hXp:=hX;replace hq:=Below.some b4 hq;have hq4:W0.heap.size<(W0.alloc (.cells #[.slice none 0 0,.slice none 0 0,.int .i64 0,.int .i64 0] 26)).heap.size:=by simp
     go_wp2_with fail
     refine hK.out _ _ ?_ (fun hHeld=>?_)
     ·exact hcells.out _ hX
     clear hK K
     (try simp only [JM,JI,JJ,JK])
     refine wpAnyH_ready (rs:=[3]) (by kernel_rfl) (by simp) ?_
     refine JN (o:=_) rfl (fun K hK=>?_) ?_
     ·go_simp
      go_at_call 68
      refine(mY s hs hok x hst _ (W0.alloc (.cells #[.slice none 0 0,.slice none 0 0,.int .i64 0,.int .i64 0] 26)).heap.size _ _ _ _ sa (by have:=b4.size;omega)).mono ?_
      rintro e w5 ⟨v5,Vb5,Vf5,ys5,rfl,sm,hsub,hk⟩;generalize hT:(if nV s x=true then mU s x else([],[],0,0))=T at sm;have hTH:Hid _:=hT;clear hT;obtain rfl:=sm.val;obtain⟨mA,mn,mc,rfl⟩:=bQ sm.box;obtain⟨mfA,mfn,mfc,rfl⟩:=aN sm.fms.own;have hmlt:=sm.lt;have hX:=hX.trans (hk.below (fun b hb=>by have:=salt b hb;omega) hX.size);have hXp:=hX;replace hq:=KeptX.some hk hq (fun h=>by have:=salt _ h;omega);have hqb:∀b,ShS (.slice mA mn mc) (.slice mfA mfn mfc) ys5 b→W0.heap.size≠b:=fun b hb=>by
       rcases hsub b hb with h | h
       ·have:=salt b h
        omega
       ·have:=b4.size;omega
      go_wp2_with fail
      refine hK.out _ _ ?_ (fun hHeld=>?_)
      ·exact hcells.out _ hX
      clear hK K
      (try simp only [JM,JI,JJ,JK])
      refine wpAnyH_take (i:=4) (oi:=_) (v:=?vd9) rfl (by kernel_rfl) (by kernel_rfl) (by kernel_rfl) (fun _ _ _ h=>h) (JP ⟨by rfl,?yd9⟩) hHeld ?rd9
      case yd9=>(intro w0 hSw;obtain⟨hSw0,hSw1⟩:=hSw;go_simp;try with_reducible rfl)
      (try simp only [JM,JI,JJ,JK])
      refine wpAnyH_take (i:=5) (oi:=_) (v:=?vd10) rfl (by kernel_rfl) (by kernel_rfl) (by kernel_rfl) (fun _ _ _ h=>h) (JP ⟨by rfl,?yd10⟩) hHeld ?rd10
      case yd10=>(intro w0 hSw;obtain⟨hSw0,hSw1⟩:=hSw;go_simp;try with_reducible rfl)
      (try simp only [JM,JI,JJ,JK])
      refine wpAnyH_take (i:=6) (oi:=_) (v:=?vd11) rfl (by kernel_rfl) (by kernel_rfl) (by kernel_rfl) (fun _ _ _ h=>h) (JP ⟨by rfl,?yd11⟩) hHeld ?rd11
      case yd11=>(intro w0 hSw;obtain⟨hSw0,hSw1⟩:=hSw;go_simp;try with_reducible rfl)
      (try simp only [JM,JI,JJ,JK])
      refine wpAnyH_ready (rs:=[8]) (by kernel_rfl) (by simp) ?_
      refine JN (o:=_) rfl (fun K hK=>?_) ?_
      ·obtain⟨g0,g1,g2,g3⟩:=ab hq
       obtain⟨j0,j1,j2,j3⟩:=aZ hq
       go_simp
       have hX:=ct (.slice mA mn mc) (.slice mfA mfn mfc) (.int .i64 T.2.2.1) (.int .i64 T.2.2.2) hX hqge;have hq:=aK (.slice mA mn mc) (.slice mfA mfn mfc) (.int .i64 T.2.2.1) (.int .i64 T.2.2.2) hq;replace sm:=sm.set4 (.slice mA mn mc) (.slice mfA mfn mfc) (.int .i64 T.2.2.1) (.int .i64 T.2.2.2) hqb;clear g0 g1 g2 g3 j0 j1 j2 j3;refine hK.out _ _ ?_ (fun hHeld=>?_)
       ·exact hcells.out _ hX
       clear hK K
       (try simp only [JM,JI,JJ,JK])
       refine bH (by kernel_rfl) ?_
       go_simp
       have hr9:=(hX.block _ hrl).trans hr2;have hql:=bz hq;have B9:Below w.heap.size w _:=B2.trans (hX.mono (by omega))
       go_wp2
       go_meet
       case rel =>
        refine⟨_,rfl,rfl,⟨_,_,_,_,_,_,_,(by rw [hTH.out];exact hq),(by rw [hTH.out];exact⟨rfl,sm.box,fun b hb=>by have:=sm.bge b hb;have:=hX0.size;simp at *;omega,sm.fms.base (by have:=hX0.size;simp at *;omega),sm.dis⟩),fun h=>hqb _ h rfl⟩,hr9,B9,by omega,hql⟩
      exact JO
     exact JO
    exact JO
   exact JO
  case rest =>
   obtain⟨q,rfl,rfl,hbox,hr9,B9,hqge,hql⟩:=hcut;obtain⟨i0,i1,i2,i3⟩:=ab hr9;obtain⟨j0,j1,j2,j3⟩:=aZ hr9;cases hro:nV s x
   ·have hno:mO s x=false:=by simp [mO,hro]
    have hroH:Hid _:=hno;clear hno
    go_wp2
    obtain⟨d0,d1,d2,d3⟩:=ab (aK (.slice none 0 0) (.slice none 0 0) (.int .i64 0) (.int .i64 0) hr9);refine bodyPost_ret (by simp [results,Tryd.results57,go_sem,d0,d1,d2,d3];try rfl) rfl ?_
    rw [hroH.out,Fs hroH.out];exact⟨_,rfl,iy _ _,ct _ _ _ _ B9 (by omega)⟩
   ·rw [hro] at hbox
    simp only [if_true] at hbox;obtain⟨A1,m1,c1,A2,m2,c2,zs,hpc,hSc,hnp⟩:=hbox;have hrk:=DN s x hs hok hst hro;have hc:=ta (mU s x) hrk hSc.rep (fun b hb=>(hSc.lt b hb).2);obtain⟨s0,s1,s2,s3⟩:=ab hpc;cases hsk:aE (mU s x)
    ·have hno:mO s x=false:=by simp [mO,hsk]
     rw [hsk] at hc
     go_wp2_with (go_at_call 23;refine hc.mono ?_;rintro e w7 ⟨rfl,b7⟩;have H47:=Below.some b7 hr9;have B7:=fL B9 b7 B9.size;have i0:=(ab H47).1;have i1:=(ab H47).2.1;have i2:=(ab H47).2.2.1;have i3:=(ab H47).2.2.2;have j0:=(aZ H47).1;have j1:=(aZ H47).2.1;have j2:=(aZ H47).2.2.1;have j3:=(aZ H47).2.2.2)
     obtain⟨d0,d1,d2,d3⟩:=ab (aK (.slice none 0 0) (.slice none 0 0) (.int .i64 0) (.int .i64 0) H47);refine bodyPost_ret (by simp [results,Tryd.results57,go_sem,d0,d1,d2,d3];try rfl) rfl ?_
     (try rw [hno])
     (try rw [Fs hno])
     exact⟨_,rfl,iy _ _,ct _ _ _ _ B7 (by omega)⟩
    ·have hy:mO s x=true:=by simp [mO,hst,hro,hsk]
     rw [hsk] at hc
     go_wp2_with (go_at_call 23;refine hc.mono ?_;rintro e w7 ⟨rfl,b7⟩;have H47:=Below.some b7 hr9;have hp7:=Below.some b7 hpc;have hS7:=hSc.below b7;have B7:=fL B9 b7 B9.size;have i0:=(ab H47).1;have i1:=(ab H47).2.1;have i2:=(ab H47).2.2.1;have i3:=(ab H47).2.2.2;have j0:=(aZ H47).1;have j1:=(aZ H47).2.1;have j2:=(aZ H47).2.2.1;have j3:=(aZ H47).2.2.2;have k0:=(ab hp7).1;have k1:=(ab hp7).2.1;have k2:=(ab hp7).2.2.1;have k3:=(ab hp7).2.2.2)
     obtain⟨d0,d1,d2,d3⟩:=ab (aK (.slice A1 m1 c1) (.slice A2 m2 c2) (.int .i64 (mU s x).2.2.1) (.int .i64 (mU s x).2.2.2) H47);refine bodyPost_ret (by simp [results,Tryd.results57,go_sem,d0,d1,d2,d3];try rfl) rfl ?_
     (try rw [hy])
     (try rw [EQ hy])
     have hS8:=hS7.set4 (g:=w.heap.size+2) (.slice A1 m1 c1) (.slice A2 m2 c2) (.int .i64 (mU s x).2.2.1) (.int .i64 (mU s x).2.2.2) fun b hb=>by have:=(hS7.lt b hb).1;omega
     exact⟨_,rfl,⟨_,_,_,hS8.val,hS8.box,fun b hb=>by have:=hS8.bge b hb;omega,hS8.fms.base (by omega),hS8.dis⟩,ct _ _ _ _ B7 (by omega)⟩
end Go.Proofs.YtkcojipciiakdaaDoor

end
