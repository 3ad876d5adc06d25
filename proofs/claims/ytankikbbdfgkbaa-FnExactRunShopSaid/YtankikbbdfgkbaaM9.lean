/-
  A part of the proof: contracts and plain forms of functions beneath the statement, made small by a program (names shortened, what is not needed left out).
-/
import Derived.Test.YtankikbbdfgkbaaRows
import Derived.Test.YtankikbbdfgkbaaM8
import Derived.Deep.CutBlock
import Derived.Deep.RegionHeld3
import Derived.Deep.DrawnRows
open List renaming setIfInBounds_toArray → IM, set_cons_zero → IP, set_cons_succ → IQ, mem_of_getElem? → IZ, mem_append → Ja, mem_of_mem_take → Jb, mem_of_mem_drop → Jc, getElem?_eq_getElem → Je, mem_singleton → Jf, length_take → Jg, length_drop → Jk, nil_append → Jm, eq_nil_of_length_eq_zero → Jn, mem_or_eq_of_mem_set → Jr, getElem_mem → Js, length_map → Jt, take_of_length_le → Ju
open Option.some renaming inj → IU
open Go.Act renaming put → IV
open Go.AllReadyH renaming cons → IW, nil → IX
open Or renaming inl → IY
open Go.IntKind renaming i64 → Jd
open Go.World renaming setCell → Jh, cell?_of_block → Jp
open Nat renaming le_refl → Ji, lt_of_lt_of_le → Jj, min_eq_left → Jl, le_trans → Jw, zero_le → Jy
open Array renaming replicate → Jo
open Go.RowKit.Below renaming refl → Jq
open Go.Proofs renaming enters_of → Jv
open Go.Value.slice renaming injEq → Jx
open List.cons renaming injEq → Jz
set_option maxRecDepth 100000
set_option linter.unusedSimpArgs false
set_option linter.unusedVariables false
noncomputable section
namespace Go.Proofs.Ytankikbbdfgkbaa
open Go Go.Proofs Go.V Go.RowKit
theorem GV (s:Sp) (n:Int) (h:cr s) (hok:aT s=true):(dI (idP n) 0 s.2.1).elim (-1) (fun j=>(j:Int))=if eU s.2.1 n=true then(atF s.2.1 n:Int) else -1:=by
 have h1:=(ka s n h).symm.trans (mx s n h hok);simp only [Option.some.injEq,Out.ret.injEq,Jz,D.v.injEq,Value.int.injEq,true_and,and_true] at h1;exact h1
theorem yO (s:Sp) (n:Int) (h:cr s) (hok:aT s=true) (l:List Bx) (x y:Int) (h2:cr (l,s.2.1,x,y)) {w:World} {F:Nat→Prop} {v:Value} (hr:aM w F (sp (l,s.2.1,x,y)) v) (hF:∀b,F b→b<w.heap.size) :
  Calls Try.prog 84 #[v,.int .i64 n] w fun e w'=>e = .returned (.int .i64 (if eU s.2.1 n=true then(atF s.2.1 n:Int) else -1))∧Below w.heap.size w w' :=
 jd (Jv Try.func84 (by kernel_rfl) rfl) nJ (by rw [←GV s n h hok];exact ka (l,s.2.1,x,y) n h2) hr hF
set_option maxHeartbeats 16000000 in
set_option maxRecDepth 1000000 in
theorem BU (s:Sp) (hs:cr s) (hok:aT s=true) (id:Int) (u:ByteArray) (n:Int) (hx:cM (1,id,u,n)=true) (w:World) (B:Nat) (v Vb Vf:Value) (ys:List Value) (hS0:ShopAt w B v Vb Vf ys s) (hB:B≤w.heap.size) :
  Calls Try.prog 83 #[v,.int .i64 id,.string u] w (nL w B (ShS Vb Vf ys) (iB s id u) (yF s id u)):=by
 obtain⟨hfm,hgc,hl5,hlost⟩:=bw hok;have hu:u.size≤16:=yI hx rfl;obtain rfl:=hS0.val;obtain⟨oA,on_,oc,rfl⟩:=aY hS0.box;obtain⟨A',c',rfl⟩:=aX hS0.fms.own;have hltw:=fun b hb=>(hS0.lt b hb).2
 have hbl:s.1.length≤1048576:=hs.1.1
 go_enter Try.func83,Try.ntmps83
 go_upto_region 1 with fail
 have hW:Below w.heap.size w ((w.alloc (.cells #[.slice oA on_ oc,.slice A' s.2.1.length c',.int .i64 s.2.2.1,.int .i64 s.2.2.2] 33)).alloc (.cells #[.slice none 0 0,.slice none 0 0,.int .i64 0,.int .i64 0] 33)):=((Jq _ w).alloc (Ji _) _).alloc (by simp) _;have hWs:w.heap.size+2≤((w.alloc (.cells #[.slice oA on_ oc,.slice A' s.2.1.length c',.int .i64 s.2.2.1,.int .i64 s.2.2.2] 33)).alloc (.cells #[.slice none 0 0,.slice none 0 0,.int .i64 0,.int .i64 0] 33)).heap.size:=by simp
 have hp:((w.alloc (.cells #[.slice oA on_ oc,.slice A' s.2.1.length c',.int .i64 s.2.2.1,.int .i64 s.2.2.2] 33)).alloc (.cells #[.slice none 0 0,.slice none 0 0,.int .i64 0,.int .i64 0] 33)).heap[w.heap.size]?=some (.cells #[.slice oA on_ oc,.slice A' s.2.1.length c',.int .i64 s.2.2.1,.int .i64 s.2.2.2] 33 (0,0)):=af _ (ae _ rfl);have hr:((w.alloc (.cells #[.slice oA on_ oc,.slice A' s.2.1.length c',.int .i64 s.2.2.1,.int .i64 s.2.2.2] 33)).alloc (.cells #[.slice none 0 0,.slice none 0 0,.int .i64 0,.int .i64 0] 33)).heap[w.heap.size+1]?=some (.cells #[.slice none 0 0,.slice none 0 0,.int .i64 0,.int .i64 0] 33 (0,0)):=ae _ (by simp);have hS:=hS0.below hW;generalize ((w.alloc (.cells #[.slice oA on_ oc,.slice A' s.2.1.length c',.int .i64 s.2.2.1,.int .i64 s.2.2.2] 33)).alloc (.cells #[.slice none 0 0,.slice none 0 0,.int .i64 0,.int .i64 0] 33))=W at *;obtain⟨e0,e1,e2,e3⟩:=aa hp;have hc:=yX s.1 u hgc hbl (by omega) (cz hS.box) (bI hS.box)
 go_wp2_with (go_at_call 91;refine hc.mono ?_)
 intro e w2 hout;obtain⟨A2,n2,c2,rfl,own2,hv2,b2⟩:=hout;have hp2:=Below.some b2 hp;have hr2:=Below.some b2 hr;have hS2:=hS.below b2;have B2:KeptX (ShS (.slice oA on_ oc) (.slice A' s.2.1.length c') ys) w w2:=(KeptX.ofBelow hW).step b2;have hs2:W.heap.size≤w2.heap.size:=b2.size;clear hc b2 hp hr hS e0 e1 e2 e3;cases hwb:uS s.1 u
 ·obtain⟨g0,g1,g2,g3⟩:=aa hr2
  obtain⟨j0,j1,j2,j3⟩:=aH hr2
  go_wp2
  obtain⟨d0,d1,d2,d3⟩:=aa (aE (.slice none 0 0) (.slice none 0 0) (.int .i64 0) (.int .i64 0) hr2);refine bodyPost_ret (by simp [results,Try.results83,go_sem,d0,d1,d2,d3];try rfl) rfl ?_
  rw [show iB s id u=false by simp [iB,hwb]];exact dO B2 (by omega)
 obtain⟨hwl,hwc⟩:=pd hgc hwb;have hc3:=rY s.1 (cH s.1 u) (-1) hs.1 (by omega) hwc (cz hS2.box) (bI hS2.box) (cz own2) (bI own2);obtain⟨e0,e1,e2,e3⟩:=aa hp2
 go_wp2_with (go_at_call 40;refine hc3.mono ?_)
 intro e w3 hout;obtain⟨A,bn,c,rfl,own3,hv3,b3⟩:=hout;have hp3:=Below.some b3 hp2;have hr3:=Below.some b3 hr2;have hS3:=hS2.below b3;have own23:=aW.below own2 b3;have B3:KeptX (ShS (.slice oA on_ oc) (.slice A' s.2.1.length c') ys) w w3:=B2.step b3;have hs3:=b3.size;clear hc3 b3 hp2 hr2 own2 hS2 e0 e1 e2 e3;cases hgo:bH (br (aK s.1) (-1) s.1 (cH s.1 u))
 ·obtain⟨g0,g1,g2,g3⟩:=aa hr3
  obtain⟨j0,j1,j2,j3⟩:=aH hr3
  go_wp2
  obtain⟨d0,d1,d2,d3⟩:=aa (aE (.slice none 0 0) (.slice none 0 0) (.int .i64 0) (.int .i64 0) hr3);refine bodyPost_ret (by simp [results,Try.results83,go_sem,d0,d1,d2,d3];try rfl) rfl ?_
  rw [show iB s id u=false by simp [iB,hgo]];exact dO B3 (by omega)
 have em:mvd s.1 (cH s.1 u) (-1)=br (aK s.1) (-1) s.1 (cH s.1 u):=by
  unfold mvd;rw [if_pos hgo]
 rw [em] at own3;have hlb:=bh hp3;have hFb:∀b,FmS (.slice A' s.2.1.length c') ys b→b<w.heap.size:=fun b hb=>hltw b (.inr hb)
 have h3b:∀b,aw (.slice A bn c) b→w2.heap.size≤b∧b<w3.heap.size:=hv3;have h2b:∀b,aw (.slice A2 n2 c2) b→W.heap.size≤b∧b<w2.heap.size:=hv2;have hk:∀b,b≠w.heap.size→(w3.setCell ⟨w.heap.size,0,none⟩ (.slice A bn c)).heap[b]?=w3.heap[b]?:=fun b hb=>heap_setCell_other _ _ _ _ (by simpa using hb)
 have hp4:(w3.setCell ⟨w.heap.size,0,none⟩ (.slice A bn c)).heap[w.heap.size]?=some (.cells #[.slice A bn c,.slice A' s.2.1.length c',.int .i64 s.2.2.1,.int .i64 s.2.2.2] 33 (0,0)):=heap_setCell_same _ _ 0 _ _ (.slice A bn c) hp3;have hr4:=(hk (w.heap.size+1) (by omega)).trans hr3;have hF4:=hS3.fms.keep (w':=w3.setCell ⟨w.heap.size,0,none⟩ (.slice A bn c)) fun b hb=>hk b (by have:=hFb b hb;omega)
 have own24:=aI (w':=w3.setCell ⟨w.heap.size,0,none⟩ (.slice A bn c)) own23 fun b hb=>hk b (by have:=h2b b hb;omega)
 have own34:=aI (w':=w3.setCell ⟨w.heap.size,0,none⟩ (.slice A bn c)) own3 fun b hb=>hk b (by have:=h3b b hb;omega)
 have B4:KeptX (ShS (.slice oA on_ oc) (.slice A' s.2.1.length c') ys) w (w3.setCell ⟨w.heap.size,0,none⟩ (.slice A bn c)):=B3.setO _ _ (.inr (Ji _));have hs4:w3.heap.size≤(w3.setCell ⟨w.heap.size,0,none⟩ (.slice A bn c)).heap.size:=by simp [Jh]
 obtain⟨e0,e1,e2,e3⟩:=aa hp3;obtain⟨f0,f1,f2,f3⟩:=aH hp3
 go_upto_region 8 with fail
 clear e0 e1 e2 e3 f0 f1 f2 f3;generalize w3.setCell ⟨w.heap.size,0,none⟩ (.slice A bn c)=w3' at *;clear hp3 hr3 hS3 own23 own3 hv2 hv3 hk;have hS4':ShopAt w3' B (.agg #[.slice A bn c,.slice A' s.2.1.length c',.int .i64 s.2.2.1,.int .i64 s.2.2.2]) (.slice A bn c) (.slice A' s.2.1.length c') ys (br (aK s.1) (-1) s.1 (cH s.1 u),s.2.1,s.2.2.1,s.2.2.2) :=
  ⟨rfl,own34,fun b hb=>by have:=h3b b hb;omega,hF4,fun b hb h=>by have:=h3b b hb;have:=hFb b h;omega⟩
 have hc:=yO s id hs hok _ _ _ ⟨kz hs.1 (eK _ _ _ _),hs.2⟩ hS4'.rep (fun b hb=>(hS4'.lt b hb).2);obtain⟨e0,e1,e2,e3⟩:=aa hp4
 go_upto_region 9 with (go_at_call 84;refine hc.mono ?_;rintro e w4 ⟨rfl,b5⟩)
 have hp4':=Below.some b5 hp4;have hr4':=Below.some b5 hr4;have hS4:=hS4'.below b5;have own24':=aW.below own24 b5;have own34':=aW.below own34 b5;have hF4':=hS4.fms;have B4':=B4.step b5;have hs4':=b5.size;clear hc b5 hS4' e0 e1 e2 e3 hp4 hr4 own24 own34 hF4 B4;generalize hpe:w.heap.size=p at *;have hpeH:Hid (w.heap.size=p):=hpe;clear hltw hpe;have hp4:=hp4';have hr4:=hr4';have own24:=own24';have own34:=own34';have hF4:=hF4';have B4:=B4';clear hp4' hr4' own24' own34' hF4' B4';have hpl4:=bh hp4;have hrl4:=bh hr4;have hlt4:=hF4.lt;have hat:=yE s.2.1 id;have hais:=uA s.2.1 id;obtain⟨at_,hat_⟩:∃k,k=atF s.2.1 id:=⟨_,rfl⟩
 rw [←hat_] at hat hais ⊢;have hatH:Hid (at_=atF s.2.1 id):=hat_;clear hat_;have hBN:B≤w4.heap.size:=by omega
 have hnp:¬ShS (.slice A bn c) (.slice A' s.2.1.length c') ys p:=fun h=>h.elim (fun h=>by have:=h3b p h;omega) (fun h=>by have:=hFb p h;omega)
 go_upto_if 39 with fail
 go_cut [0,12] from 13 (fun _ t12 wc=>t12 = .int .i64 (at_:Int)∧Ii w4 wc p B (.slice A bn c) (.slice A' s.2.1.length c') ys s.2.2.1 s.2.2.2 (cI s.2.1 id))
 case first =>
  clear hs hok hx hfm hgc hlost hu hbl hwl hwc own24 own34 hgo em hwb B2 B3;cases hhf:eU s.2.1 id
  ·obtain⟨i2,hi2,hx0,hx1,hx2⟩:=info_parts fK
   obtain⟨e0,e1,e2,e3⟩:=aa hp4;have hln:s.2.1.length≤5:=hl5;obtain⟨-,hlo,hhi⟩:=hais;have hX0:Below w4.heap.size w4 w4.drew:=ab w4;have hSd:w4.drew.cell? ⟨p,1,none⟩=some (.slice A' s.2.1.length c')∧w4.drew.cell? ⟨p,0,none⟩=some (.slice A bn c):=⟨e1,e0⟩
   have hcells:Hid (∀X:World,Below w4.heap.size w4 X→X.cell? ⟨p,1,none⟩=some (.slice A' s.2.1.length c')∧X.cell? ⟨p,0,none⟩=some (.slice A bn c)):=fun X hX=>⟨(aa ((hX.block p hpl4).trans hp4)).2.1,(aa ((hX.block p hpl4).trans hp4)).1⟩
   have hfmsX:Hid (∀X:World,Below w4.heap.size w4 X→FmsAt X B (.slice A' s.2.1.length c') ys s.2.1):=fun X hX=>hF4.keep fun b hb=>hX.block b (hlt4 b hb).2
   go_upto_block 0 with fail
   go_cut [12] from 13 (fun t12 wc=>t12 = .int .i64 (at_:Int)∧wc=w4)
   case first =>
    go_wp2
    go_loopw [12] (fun v12 wr=>∃j:Nat,v12 = .int .i64 (j:Int)∧j≤at_∧wr=w4) (fun v12 _=>at_ - (intOf v12).toNat)
    case atStart=>exact⟨0,rfl,Jy _,rfl⟩
    case round =>
     obtain⟨j,rfl,hj,rfl⟩:=hrel;by_cases hjl:j<at_
     ·have hjs:j<s.2.1.length:=by omega
      have hjs':(j:Int)<(s.2.1.length:Int):=by omega
      obtain⟨y,hy⟩:∃y,ys[j]?=some y:=⟨ys[j]'(by rw [hF4.len];exact hjs),Je _⟩
      have hlt:=hlo j hjs hjl;obtain⟨g,rfl⟩:=dh hF4.own (by omega);have k0:=ax hF4.own (j:=j*4) (u:=.int .i64 s.2.1[j].1) (by rw [show j*4=j*4+0 by omega,aD _ _ j s.2.1[j] _ (Je hjs) hy 0 (by omega)];rfl);have hw:Jd.wrap ((j:Int)+1)=((j+1:Nat):Int):=by rw [ak (by omega) (by omega)];omega
      go_wp2
      refine⟨⟨j+1,rfl,by omega,by trivial⟩,?_⟩
      show at_ - (((j+1:Nat):Int)).toNat<at_ - ((j:Int)).toNat
      omega
     ·obtain rfl:j=at_:=by omega
      by_cases hjs:j<s.2.1.length
      ·have hjs':(j:Int)<(s.2.1.length:Int):=by omega
       obtain⟨y,hy⟩:∃y,ys[j]?=some y:=⟨ys[j]'(by rw [hF4.len];exact hjs),Je _⟩
       have hlt:=hhi hjs;obtain⟨g,rfl⟩:=dh hF4.own (by omega);have k0:=ax hF4.own (j:=j*4) (u:=.int .i64 s.2.1[j].1) (by rw [show j*4=j*4+0 by omega,aD _ _ j s.2.1[j] _ (Je hjs) hy 0 (by omega)];rfl)
       go_wp2
       go_meet
       case rel=>exact⟨rfl,rfl⟩
      ·have hjs':¬(j:Int)<(s.2.1.length:Int):=by omega
       go_wp2
       go_meet
       case rel=>exact⟨rfl,rfl⟩
   case rest =>
    obtain⟨rfl,rfl⟩:=hcut
    go_upto_region 13 with fail
    rcases hF4.own.2 with ⟨eA,hl0⟩ | ⟨g,cap,cur,eA,_⟩
    ·simp only [Jx] at eA
     obtain⟨rfl,hl0',rfl⟩:=eA;have hs0:s.2.1=[]:=Jn hl0;have hy0:ys=[]:=Jn (by rw [hF4.len,hs0];rfl);obtain rfl:at_=0:=by omega
     subst hy0;replace hcells:Hid (∀X:World,Below wc.heap.size wc X→X.cell? ⟨p,1,none⟩=some (.slice none 0 0)∧X.cell? ⟨p,0,none⟩=some (.slice A bn c)):=fun X hX=>by
      have h:=hcells.out X hX;rw [hs0] at h;exact h
     replace hSd:=hcells.out _ hX0;refine cD (l:=[_,_,_,_,_,_,_,_,_,_,_,_,_,_,_,_]) (o:=_) (S:=fun w'=>w'.cell? ⟨p,1,none⟩=some (.slice none 0 0)∧w'.cell? ⟨p,0,none⟩=some (.slice A bn c)) (by kernel_rfl) (by kernel_rfl) hSd (fun hHeld=>?_)
     change wpAnyH _ _ _ _ _ 16 (Jo 16 false) _ _
     generalize wc.drew=W0 at *;have hX:=hX0;refine wpAnyH_take (i:=1) (oi:=_) (v:=?vn1) rfl (by kernel_rfl) (by kernel_rfl) (by kernel_rfl) (fun _ _ _ h=>h) (IY ⟨by rfl,?yn1⟩) hHeld ?rn1
     case yn1=>(intro w0 hSw;obtain⟨hSw0,hSw1⟩:=hSw;go_simp;try with_reducible rfl)
     (try simp only [IV,IM,IP,IQ])
     refine wpAnyH_take (i:=2) (oi:=_) (v:=?vn2) rfl (by kernel_rfl) (by kernel_rfl) (by kernel_rfl) (fun _ _ _ h=>h) (IY ⟨by rfl,?yn2⟩) hHeld ?rn2
     case yn2=>(intro w0 hSw;obtain⟨hSw0,hSw1⟩:=hSw;go_simp;try with_reducible rfl)
     (try simp only [IV,IM,IP,IQ])
     refine wpAnyH_take (i:=3) (oi:=_) (v:=?vn3) rfl (by kernel_rfl) (by kernel_rfl) (by kernel_rfl) (fun _ _ _ h=>h) (IY ⟨by rfl,?yn3⟩) hHeld ?rn3
     case yn3=>(intro w0 hSw;obtain⟨hSw0,hSw1⟩:=hSw;go_simp;try with_reducible rfl)
     (try simp only [IV,IM,IP,IQ])
     refine wpAnyH_take (i:=4) (oi:=_) (v:=?vn4) rfl (by kernel_rfl) (by kernel_rfl) (by kernel_rfl) (fun _ _ _ h=>h) (IY ⟨by rfl,?yn4⟩) hHeld ?rn4
     case yn4=>(intro w0 hSw;obtain⟨hSw0,hSw1⟩:=hSw;go_simp;try with_reducible rfl)
     (try simp only [IV,IM,IP,IQ])
     refine wpAnyH_take (i:=6) (oi:=_) (v:=?vn5) rfl (by kernel_rfl) (by kernel_rfl) (by kernel_rfl) (fun _ _ _ h=>h) (IY ⟨by rfl,?yn5⟩) hHeld ?rn5
     case yn5=>(intro w0 hSw;obtain⟨hSw0,hSw1⟩:=hSw;go_simp;try with_reducible rfl)
     (try simp only [IV,IM,IP,IQ])
     refine wpAnyH_take (i:=7) (oi:=_) (v:=?vn6) rfl (by kernel_rfl) (by kernel_rfl) (by kernel_rfl) (fun _ _ _ h=>h) (IY ⟨by rfl,?yn6⟩) hHeld ?rn6
     case yn6=>(intro w0 hSw;obtain⟨hSw0,hSw1⟩:=hSw;go_simp;try with_reducible rfl)
     (try simp only [IV,IM,IP,IQ])
     refine wpAnyH_take (i:=10) (oi:=_) (v:=?vn7) rfl (by kernel_rfl) (by kernel_rfl) (by kernel_rfl) (fun _ _ _ h=>h) (IY ⟨by rfl,?yn7⟩) hHeld ?rn7
     case yn7=>(intro w0 hSw;obtain⟨hSw0,hSw1⟩:=hSw;go_simp;try with_reducible rfl)
     (try simp only [IV,IM,IP,IQ])
     refine wpAnyH_take (i:=11) (oi:=_) (v:=?vn8) rfl (by kernel_rfl) (by kernel_rfl) (by kernel_rfl) (fun _ _ _ h=>h) (IY ⟨by rfl,?yn8⟩) hHeld ?rn8
     case yn8=>(intro w0 hSw;obtain⟨hSw0,hSw1⟩:=hSw;go_simp;try with_reducible rfl)
     (try simp only [IV,IM,IP,IQ])
     refine wpAnyH_take (i:=12) (oi:=_) (v:=?vn9) rfl (by kernel_rfl) (by kernel_rfl) (by kernel_rfl) (fun _ _ _ h=>h) (IY ⟨by rfl,?yn9⟩) hHeld ?rn9
     case yn9=>(intro w0 hSw;obtain⟨hSw0,hSw1⟩:=hSw;go_simp;try with_reducible rfl)
     (try simp only [IV,IM,IP,IQ])
     refine wpAnyH_take (i:=13) (oi:=_) (v:=?vn10) rfl (by kernel_rfl) (by kernel_rfl) (by kernel_rfl) (fun _ _ _ h=>h) (IY ⟨by rfl,?yn10⟩) hHeld ?rn10
     case yn10=>(intro w0 hSw;obtain⟨hSw0,hSw1⟩:=hSw;go_simp;try with_reducible rfl)
     (try simp only [IV,IM,IP,IQ])
     refine wpAnyH_ready (rs:=[0,8]) (by kernel_rfl) (by simp) ?_
     refine IW (o:=_) rfl (fun K hK=>?_) ?_
     ·go_simp
      have hX:=hX.alloc hX.size (.cells #[] 63);have hE:(W0.alloc (.cells #[] 63)).heap[W0.heap.size]?=some (.cells #[] 63 (0,0)):=ae _ (by simp);refine hK.out _ _ ?_ (fun hHeld=>?_)
      ·exact hcells.out _ hX
      clear hK K
      (try simp only [IV,IM,IP,IQ])
      refine wpAnyH_ready (rs:=[5,8]) (by kernel_rfl) (by simp) ?_
      refine IW (o:=_) rfl (fun K hK=>?_) ?_
      ·refine ah _ rfl _ _ 31 rfl B 63 i2 (.agg #[.int .i64 0,.slice none 0 0,.bool false,.int .i64 0]) 4 48 Try.underlying31 hi2 hx0 hx1 hx2 rfl (by decide) (.slice (some ⟨W0.heap.size,0,none⟩) 0 0) 0 [] (by simp [go_sem];done) (bQ hE (by have:=hX0.size;omega)) none 0 0 [] (by simp [go_sem,sliced];done) rfl (fun h=>absurd rfl h) (fun u hu=>by cases hu) (by unfold maxLen;omega) (by omega) (by have:=hX.size;omega) ?_
       intro v5 w5 hown5 hg5 hat5;have hV1:FmsAt w5 B v5 [] []:=⟨rfl,by simpa [aV] using hown5,fun i x y hx=>by simp at hx,fun i y b hy=>by simp at hy,fun i j y z _ hi=>by simp at hi⟩
       have hf1:∀b,FmS v5 [] b→FmS (.slice none 0 0) [] b∨wc.heap.size≤b:=fun b hb=>by
        rcases hb with hb | ⟨z,hz,hzb⟩
        ·rcases hat5 with h | h
         ·have e:some b=some (W0.heap.size):=hb.symm.trans h
          have:=IU e;have:=hX0.size;exact .inr (by omega)
         ·have e:some b=some ((W0.alloc (.cells #[] 63)).heap.size):=hb.symm.trans h
          have:=IU e;have:=hX.size;exact .inr (by omega)
        ·cases hz
       have hge5:∀b,aw v5 b→wc.heap.size≤b:=fun b hb=>by
        rcases hat5 with h | h
        ·have e:some b=some (W0.heap.size):=hb.symm.trans h
         have:=IU e;have:=hX0.size;omega
        ·have e:some b=some ((W0.alloc (.cells #[] 63)).heap.size):=hb.symm.trans h
         have:=IU e;have:=hX.size;omega
       have hX:=hX.grown hg5 hX.size (fun k hk=>by have e:W0.heap.size=k:=IU hk;have:=hX0.size;omega);obtain⟨A5,n5,c5,rfl⟩:=au hV1.own;clear hat5;refine hK.out _ _ ?_ (fun hHeld=>?_)
       ·exact hcells.out _ hX
       clear hK K
       (try simp only [IV,IM,IP,IQ])
       refine wpAnyH_ready (rs:=[8]) (by kernel_rfl) (by simp) ?_
       refine IW (o:=_) rfl (fun K hK=>?_) ?_
       ·go_simp
        have hX:=hX.alloc hX.size (.cells #[.int .i64 id,.slice none 0 0,.bool false,.int .i64 0] 63);have hM:(w5.alloc (.cells #[.int .i64 id,.slice none 0 0,.bool false,.int .i64 0] 63)).heap[w5.heap.size]?=some (.cells #[.int .i64 id,.slice none 0 0,.bool false,.int .i64 0] 63 (0,0)):=ae _ (by simp);have hV1:=hV1.keep (w':=(w5.alloc (.cells #[.int .i64 id,.slice none 0 0,.bool false,.int .i64 0] 63))) fun b hb=>fp _ (hV1.lt b hb).2
        refine hK.out _ _ ?_ (fun hHeld=>?_)
        ·exact hcells.out _ hX
        clear hK K
        (try simp only [IV,IM,IP,IQ])
        refine wpAnyH_ready (rs:=[9]) (by kernel_rfl) (by simp) ?_
        refine IW (o:=_) rfl (fun K hK=>?_) ?_
        ·refine ah _ rfl _ _ 31 rfl B 63 i2 (.agg #[.int .i64 0,.slice none 0 0,.bool false,.int .i64 0]) 4 48 Try.underlying31 hi2 hx0 hx1 hx2 rfl (by decide) (.slice A5 n5 c5) _ _ (by simp [go_sem];done) hV1.own (some ⟨w5.heap.size,0,none⟩) 1 1 [.int .i64 id,.slice none 0 0,.bool false,.int .i64 0] (by simp [go_sem];done) rfl (fun _=>⟨_,_,rfl,ch hM⟩) (by intro u hu;simp at hu;rcases hu with rfl | rfl | rfl | rfl<;>rfl) (by unfold maxLen;simp;try omega) (by simp;try omega) (by have:=hX.size;omega) ?_
         intro v6 w6 hown6 hg6 hat6;have hV2:=cf (x:=(id,[],false,0)) (y:=.slice none 0 0) hV1 (by have:=hX.size;omega) hown6 hg6 hat6 (dN _ _ _ _) (fun b hb=>by cases hb);have hf2:∀b,FmS v6 ([]++[.slice none 0 0]) b→FmS (.slice none 0 0) [] b∨wc.heap.size≤b:=fun b hb=>by
          rcases hb with hb | ⟨z,hz,hzb⟩
          ·rcases hat6 with h | h
           ·exact hf1 b (.inl (hb.symm.trans h).symm)
           ·have e:some b=some ((w5.alloc (.cells #[.int .i64 id,.slice none 0 0,.bool false,.int .i64 0] 63)).heap.size):=hb.symm.trans h
            have:=IU e;have:=hX.size;exact .inr (by omega)
          ·rcases Ja.1 hz with hz | hz
           ·exact hf1 b (.inr ⟨z,hz,hzb⟩)
           ·obtain rfl:=Jf.1 hz
            cases hzb
         have hge6:∀b,aw v6 b→wc.heap.size≤b:=fun b hb=>by
          rcases hat6 with h | h
          ·exact hge5 b (h.symm.trans hb)
          ·have e:some b=some ((w5.alloc (.cells #[.int .i64 id,.slice none 0 0,.bool false,.int .i64 0] 63)).heap.size):=hb.symm.trans h
           have:=IU e;have:=hX.size;omega
         have hX:=hX.grown hg6 hX.size (fun k hk=>hge5 k hk);obtain⟨A6,n6,c6,rfl⟩:=au hV2.own;clear hat6;refine hK.out _ _ ?_ (fun hHeld=>?_)
         ·exact hcells.out _ hX
         clear hK K
         (try simp only [IV,IM,IP,IQ])
         refine wpAnyH_ready (rs:=[14]) (by kernel_rfl) (by simp) ?_
         refine IW (o:=_) rfl (fun K hK=>?_) ?_
         ·refine ah _ rfl _ _ 31 rfl B 63 i2 (.agg #[.int .i64 0,.slice none 0 0,.bool false,.int .i64 0]) 4 48 Try.underlying31 hi2 hx0 hx1 hx2 rfl (by decide) (.slice A6 n6 c6) _ _ (by simp [go_sem];done) hV2.own none 0 0 [] (by simp [go_sem,sliced];done) rfl (fun h=>absurd rfl h) (fun u hu=>by cases hu) (by unfold maxLen;simp;try omega) (by simp;try omega) (by have:=hX.size;omega) ?_
          intro v7 w7 hown7 hg7 hat7;have hV3:=bC hV2 (m:=[]) (zs:=[]) (by have:=hX.size;omega) (by simpa [aV] using hown7) hg7 hat7 rfl (fun i x y hx=>by simp at hx) (fun i y b hj=>by simp at hj) (fun i j y z _ hi=>by simp at hi);have hf3:∀b,FmS v7 (([]++[.slice none 0 0])++[]) b→wc.heap.size≤b:=fun b hb=>by
           rcases hb with hb | ⟨z,hz,hzb⟩
           ·rcases hat7 with h | h
            ·exact hge6 b (h.symm.trans hb)
            ·have e:some b=some (w6.heap.size):=hb.symm.trans h
             have:=IU e;have:=hX.size;omega
           ·simp at hz
            subst hz;cases hzb
          have hX:=hX.grown hg7 hX.size (fun k hk=>hge6 k hk);obtain⟨A7,n7,c7,rfl⟩:=au hV3.own;clear hat7;refine hK.out _ _ ?_ (fun hHeld=>?_)
          ·exact hcells.out _ hX
          clear hK K
          (try simp only [IV,IM,IP,IQ])
          refine wpAnyH_take (i:=15) (oi:=_) (v:=?vn11) rfl (by kernel_rfl) (by kernel_rfl) (by kernel_rfl) (fun _ _ _ h=>h) (IY ⟨by rfl,?yn11⟩) hHeld ?rn11
          case yn11=>(intro w0 hSw;obtain⟨hSw0,hSw1⟩:=hSw;go_simp;try with_reducible rfl)
          (try simp only [IV,IM,IP,IQ])
          refine bv (by kernel_rfl) ?_
          have hp7:=(hX.block p hpl4).trans hp4;have g1:=(aa hp7).2.1;have h1:=(aH hp7).2.1;have hp8:(w7.setCell ⟨p,1,none⟩ (.slice A7 n7 c7)).heap[p]?=some (.cells #[.slice A bn c,.slice A7 n7 c7,.int .i64 s.2.2.1,.int .i64 s.2.2.2] 33 (0,0)):=heap_setCell_same _ _ 1 _ _ (.slice A7 n7 c7) hp7;have hV4:=hV3.keep (w':=w7.setCell ⟨p,1,none⟩ (.slice A7 n7 c7)) fun b hb=>heap_setCell_other _ _ _ _ (by
           simp;rintro rfl;have:=hf3 _ hb;omega)
          have eI:cI s.2.1 id=([]++[(id,[],false,0)])++[]:=by
           unfold cI;rw [if_neg (by simp [hhf]),hs0];simp
          go_simp
          go_wp2
          all_goals (
           go_meet
           case rel=>exact⟨rfl,A7,n7,c7,_,hp8,by rw [eI];exact hV4,fun b hb=>.inr (hf3 b hb),fun b hb hne=>(heap_setCell_other _ _ _ _ (by simpa using hne)).trans (hX.block b hb),by simp [Jh];exact hX.size,hX.os,hX.tape,hX.output⟩)
         exact IX
        exact IX
       exact IX
      refine IW (o:=_) rfl (fun K hK=>?_) ?_
      ·go_simp
       have hX:=hX.alloc hX.size (.cells #[.int .i64 id,.slice none 0 0,.bool false,.int .i64 0] 63);have hM:((W0.alloc (.cells #[] 63)).alloc (.cells #[.int .i64 id,.slice none 0 0,.bool false,.int .i64 0] 63)).heap[W0.heap.size+1]?=some (.cells #[.int .i64 id,.slice none 0 0,.bool false,.int .i64 0] 63 (0,0)):=ae _ (by simp);have hE:=af (.cells #[.int .i64 id,.slice none 0 0,.bool false,.int .i64 0] 63) hE;refine hK.out _ _ ?_ (fun hHeld=>?_)
       ·exact hcells.out _ hX
       clear hK K
       (try simp only [IV,IM,IP,IQ])
       refine wpAnyH_ready (rs:=[5]) (by kernel_rfl) (by simp) ?_
       refine IW (o:=_) rfl (fun K hK=>?_) ?_
       ·refine ah _ rfl _ _ 31 rfl B 63 i2 (.agg #[.int .i64 0,.slice none 0 0,.bool false,.int .i64 0]) 4 48 Try.underlying31 hi2 hx0 hx1 hx2 rfl (by decide) (.slice (some ⟨W0.heap.size,0,none⟩) 0 0) 0 [] (by simp [go_sem];done) (bQ hE (by have:=hX0.size;omega)) none 0 0 [] (by simp [go_sem,sliced];done) rfl (fun h=>absurd rfl h) (fun u hu=>by cases hu) (by unfold maxLen;omega) (by omega) (by have:=hX.size;omega) ?_
        intro v5 w5 hown5 hg5 hat5;have hV1:FmsAt w5 B v5 [] []:=⟨rfl,by simpa [aV] using hown5,fun i x y hx=>by simp at hx,fun i y b hy=>by simp at hy,fun i j y z _ hi=>by simp at hi⟩
        have hf1:∀b,FmS v5 [] b→FmS (.slice none 0 0) [] b∨wc.heap.size≤b:=fun b hb=>by
         rcases hb with hb | ⟨z,hz,hzb⟩
         ·rcases hat5 with h | h
          ·have e:some b=some (W0.heap.size):=hb.symm.trans h
           have:=IU e;have:=hX0.size;exact .inr (by omega)
          ·have e:some b=some (((W0.alloc (.cells #[] 63)).alloc (.cells #[.int .i64 id,.slice none 0 0,.bool false,.int .i64 0] 63)).heap.size):=hb.symm.trans h
           have:=IU e;have:=hX.size;exact .inr (by omega)
         ·cases hz
        have hge5:∀b,aw v5 b→wc.heap.size≤b:=fun b hb=>by
         rcases hat5 with h | h
         ·have e:some b=some (W0.heap.size):=hb.symm.trans h
          have:=IU e;have:=hX0.size;omega
         ·have e:some b=some (((W0.alloc (.cells #[] 63)).alloc (.cells #[.int .i64 id,.slice none 0 0,.bool false,.int .i64 0] 63)).heap.size):=hb.symm.trans h
          have:=IU e;have:=hX.size;omega
        have hM:=(hg5.block (W0.heap.size+1) (bh hM) (fun h=>by have e:W0.heap.size+1=W0.heap.size:=IU h;omega)).trans hM;have hX:=hX.grown hg5 hX.size (fun k hk=>by have e:W0.heap.size=k:=IU hk;have:=hX0.size;omega);obtain⟨A5,n5,c5,rfl⟩:=au hV1.own;clear hat5;refine hK.out _ _ ?_ (fun hHeld=>?_)
        ·exact hcells.out _ hX
        clear hK K
        (try simp only [IV,IM,IP,IQ])
        refine wpAnyH_ready (rs:=[9]) (by kernel_rfl) (by simp) ?_
        refine IW (o:=_) rfl (fun K hK=>?_) ?_
        ·refine ah _ rfl _ _ 31 rfl B 63 i2 (.agg #[.int .i64 0,.slice none 0 0,.bool false,.int .i64 0]) 4 48 Try.underlying31 hi2 hx0 hx1 hx2 rfl (by decide) (.slice A5 n5 c5) _ _ (by simp [go_sem];done) hV1.own (some ⟨W0.heap.size+1,0,none⟩) 1 1 [.int .i64 id,.slice none 0 0,.bool false,.int .i64 0] (by simp [go_sem];done) rfl (fun _=>⟨_,_,rfl,ch hM⟩) (by intro u hu;simp at hu;rcases hu with rfl | rfl | rfl | rfl<;>rfl) (by unfold maxLen;simp;try omega) (by simp;try omega) (by have:=hX.size;omega) ?_
         intro v6 w6 hown6 hg6 hat6;have hV2:=cf (x:=(id,[],false,0)) (y:=.slice none 0 0) hV1 (by have:=hX.size;omega) hown6 hg6 hat6 (dN _ _ _ _) (fun b hb=>by cases hb);have hf2:∀b,FmS v6 ([]++[.slice none 0 0]) b→FmS (.slice none 0 0) [] b∨wc.heap.size≤b:=fun b hb=>by
          rcases hb with hb | ⟨z,hz,hzb⟩
          ·rcases hat6 with h | h
           ·exact hf1 b (.inl (hb.symm.trans h).symm)
           ·have e:some b=some (w5.heap.size):=hb.symm.trans h
            have:=IU e;have:=hX.size;exact .inr (by omega)
          ·rcases Ja.1 hz with hz | hz
           ·exact hf1 b (.inr ⟨z,hz,hzb⟩)
           ·obtain rfl:=Jf.1 hz
            cases hzb
         have hge6:∀b,aw v6 b→wc.heap.size≤b:=fun b hb=>by
          rcases hat6 with h | h
          ·exact hge5 b (h.symm.trans hb)
          ·have e:some b=some (w5.heap.size):=hb.symm.trans h
           have:=IU e;have:=hX.size;omega
         have hX:=hX.grown hg6 hX.size (fun k hk=>hge5 k hk);obtain⟨A6,n6,c6,rfl⟩:=au hV2.own;clear hat6;refine hK.out _ _ ?_ (fun hHeld=>?_)
         ·exact hcells.out _ hX
         clear hK K
         (try simp only [IV,IM,IP,IQ])
         refine wpAnyH_ready (rs:=[14]) (by kernel_rfl) (by simp) ?_
         refine IW (o:=_) rfl (fun K hK=>?_) ?_
         ·refine ah _ rfl _ _ 31 rfl B 63 i2 (.agg #[.int .i64 0,.slice none 0 0,.bool false,.int .i64 0]) 4 48 Try.underlying31 hi2 hx0 hx1 hx2 rfl (by decide) (.slice A6 n6 c6) _ _ (by simp [go_sem];done) hV2.own none 0 0 [] (by simp [go_sem,sliced];done) rfl (fun h=>absurd rfl h) (fun u hu=>by cases hu) (by unfold maxLen;simp;try omega) (by simp;try omega) (by have:=hX.size;omega) ?_
          intro v7 w7 hown7 hg7 hat7;have hV3:=bC hV2 (m:=[]) (zs:=[]) (by have:=hX.size;omega) (by simpa [aV] using hown7) hg7 hat7 rfl (fun i x y hx=>by simp at hx) (fun i y b hj=>by simp at hj) (fun i j y z _ hi=>by simp at hi);have hf3:∀b,FmS v7 (([]++[.slice none 0 0])++[]) b→wc.heap.size≤b:=fun b hb=>by
           rcases hb with hb | ⟨z,hz,hzb⟩
           ·rcases hat7 with h | h
            ·exact hge6 b (h.symm.trans hb)
            ·have e:some b=some (w6.heap.size):=hb.symm.trans h
             have:=IU e;have:=hX.size;omega
           ·simp at hz
            subst hz;cases hzb
          have hX:=hX.grown hg7 hX.size (fun k hk=>hge6 k hk);obtain⟨A7,n7,c7,rfl⟩:=au hV3.own;clear hat7;refine hK.out _ _ ?_ (fun hHeld=>?_)
          ·exact hcells.out _ hX
          clear hK K
          (try simp only [IV,IM,IP,IQ])
          refine wpAnyH_take (i:=15) (oi:=_) (v:=?vn12) rfl (by kernel_rfl) (by kernel_rfl) (by kernel_rfl) (fun _ _ _ h=>h) (IY ⟨by rfl,?yn12⟩) hHeld ?rn12
          case yn12=>(intro w0 hSw;obtain⟨hSw0,hSw1⟩:=hSw;go_simp;try with_reducible rfl)
          (try simp only [IV,IM,IP,IQ])
          refine bv (by kernel_rfl) ?_
          have hp7:=(hX.block p hpl4).trans hp4;have g1:=(aa hp7).2.1;have h1:=(aH hp7).2.1;have hp8:(w7.setCell ⟨p,1,none⟩ (.slice A7 n7 c7)).heap[p]?=some (.cells #[.slice A bn c,.slice A7 n7 c7,.int .i64 s.2.2.1,.int .i64 s.2.2.2] 33 (0,0)):=heap_setCell_same _ _ 1 _ _ (.slice A7 n7 c7) hp7;have hV4:=hV3.keep (w':=w7.setCell ⟨p,1,none⟩ (.slice A7 n7 c7)) fun b hb=>heap_setCell_other _ _ _ _ (by
           simp;rintro rfl;have:=hf3 _ hb;omega)
          have eI:cI s.2.1 id=([]++[(id,[],false,0)])++[]:=by
           unfold cI;rw [if_neg (by simp [hhf]),hs0];simp
          go_simp
          go_wp2
          all_goals (
           go_meet
           case rel=>exact⟨rfl,A7,n7,c7,_,hp8,by rw [eI];exact hV4,fun b hb=>.inr (hf3 b hb),fun b hb hne=>(heap_setCell_other _ _ _ _ (by simpa using hne)).trans (hX.block b hb),by simp [Jh];exact hX.size,hX.os,hX.tape,hX.output⟩)
         exact IX
        exact IX
       exact IX
      exact IX
     refine IW (o:=_) rfl (fun K hK=>?_) ?_
     ·go_simp
      have hX:=hX.alloc hX.size (.cells #[.int .i64 id,.slice none 0 0,.bool false,.int .i64 0] 63);have hM:(W0.alloc (.cells #[.int .i64 id,.slice none 0 0,.bool false,.int .i64 0] 63)).heap[W0.heap.size]?=some (.cells #[.int .i64 id,.slice none 0 0,.bool false,.int .i64 0] 63 (0,0)):=ae _ (by simp);refine hK.out _ _ ?_ (fun hHeld=>?_)
      ·exact hcells.out _ hX
      clear hK K
      (try simp only [IV,IM,IP,IQ])
      refine wpAnyH_ready (rs:=[0]) (by kernel_rfl) (by simp) ?_
      refine IW (o:=_) rfl (fun K hK=>?_) ?_
      ·go_simp
       have hX:=hX.alloc hX.size (.cells #[] 63);have hE:((W0.alloc (.cells #[.int .i64 id,.slice none 0 0,.bool false,.int .i64 0] 63)).alloc (.cells #[] 63)).heap[W0.heap.size+1]?=some (.cells #[] 63 (0,0)):=ae _ (by simp);have hM:=af (.cells #[] 63) hM;refine hK.out _ _ ?_ (fun hHeld=>?_)
       ·exact hcells.out _ hX
       clear hK K
       (try simp only [IV,IM,IP,IQ])
       refine wpAnyH_ready (rs:=[5]) (by kernel_rfl) (by simp) ?_
       refine IW (o:=_) rfl (fun K hK=>?_) ?_
       ·refine ah _ rfl _ _ 31 rfl B 63 i2 (.agg #[.int .i64 0,.slice none 0 0,.bool false,.int .i64 0]) 4 48 Try.underlying31 hi2 hx0 hx1 hx2 rfl (by decide) (.slice (some ⟨W0.heap.size+1,0,none⟩) 0 0) 0 [] (by simp [go_sem];done) (bQ hE (by have:=hX0.size;omega)) none 0 0 [] (by simp [go_sem,sliced];done) rfl (fun h=>absurd rfl h) (fun u hu=>by cases hu) (by unfold maxLen;omega) (by omega) (by have:=hX.size;omega) ?_
        intro v5 w5 hown5 hg5 hat5;have hV1:FmsAt w5 B v5 [] []:=⟨rfl,by simpa [aV] using hown5,fun i x y hx=>by simp at hx,fun i y b hy=>by simp at hy,fun i j y z _ hi=>by simp at hi⟩
        have hf1:∀b,FmS v5 [] b→FmS (.slice none 0 0) [] b∨wc.heap.size≤b:=fun b hb=>by
         rcases hb with hb | ⟨z,hz,hzb⟩
         ·rcases hat5 with h | h
          ·have e:some b=some (W0.heap.size+1):=hb.symm.trans h
           have:=IU e;have:=hX0.size;exact .inr (by omega)
          ·have e:some b=some (((W0.alloc (.cells #[.int .i64 id,.slice none 0 0,.bool false,.int .i64 0] 63)).alloc (.cells #[] 63)).heap.size):=hb.symm.trans h
           have:=IU e;have:=hX.size;exact .inr (by omega)
         ·cases hz
        have hge5:∀b,aw v5 b→wc.heap.size≤b:=fun b hb=>by
         rcases hat5 with h | h
         ·have e:some b=some (W0.heap.size+1):=hb.symm.trans h
          have:=IU e;have:=hX0.size;omega
         ·have e:some b=some (((W0.alloc (.cells #[.int .i64 id,.slice none 0 0,.bool false,.int .i64 0] 63)).alloc (.cells #[] 63)).heap.size):=hb.symm.trans h
          have:=IU e;have:=hX.size;omega
        have hM:=(hg5.block (W0.heap.size) (bh hM) (fun h=>by have e:W0.heap.size=W0.heap.size+1:=IU h;omega)).trans hM;have hX:=hX.grown hg5 hX.size (fun k hk=>by have e:W0.heap.size+1=k:=IU hk;have:=hX0.size;omega);obtain⟨A5,n5,c5,rfl⟩:=au hV1.own;clear hat5;refine hK.out _ _ ?_ (fun hHeld=>?_)
        ·exact hcells.out _ hX
        clear hK K
        (try simp only [IV,IM,IP,IQ])
        refine wpAnyH_ready (rs:=[9]) (by kernel_rfl) (by simp) ?_
        refine IW (o:=_) rfl (fun K hK=>?_) ?_
        ·refine ah _ rfl _ _ 31 rfl B 63 i2 (.agg #[.int .i64 0,.slice none 0 0,.bool false,.int .i64 0]) 4 48 Try.underlying31 hi2 hx0 hx1 hx2 rfl (by decide) (.slice A5 n5 c5) _ _ (by simp [go_sem];done) hV1.own (some ⟨W0.heap.size,0,none⟩) 1 1 [.int .i64 id,.slice none 0 0,.bool false,.int .i64 0] (by simp [go_sem];done) rfl (fun _=>⟨_,_,rfl,ch hM⟩) (by intro u hu;simp at hu;rcases hu with rfl | rfl | rfl | rfl<;>rfl) (by unfold maxLen;simp;try omega) (by simp;try omega) (by have:=hX.size;omega) ?_
         intro v6 w6 hown6 hg6 hat6;have hV2:=cf (x:=(id,[],false,0)) (y:=.slice none 0 0) hV1 (by have:=hX.size;omega) hown6 hg6 hat6 (dN _ _ _ _) (fun b hb=>by cases hb);have hf2:∀b,FmS v6 ([]++[.slice none 0 0]) b→FmS (.slice none 0 0) [] b∨wc.heap.size≤b:=fun b hb=>by
          rcases hb with hb | ⟨z,hz,hzb⟩
          ·rcases hat6 with h | h
           ·exact hf1 b (.inl (hb.symm.trans h).symm)
           ·have e:some b=some (w5.heap.size):=hb.symm.trans h
            have:=IU e;have:=hX.size;exact .inr (by omega)
          ·rcases Ja.1 hz with hz | hz
           ·exact hf1 b (.inr ⟨z,hz,hzb⟩)
           ·obtain rfl:=Jf.1 hz
            cases hzb
         have hge6:∀b,aw v6 b→wc.heap.size≤b:=fun b hb=>by
          rcases hat6 with h | h
          ·exact hge5 b (h.symm.trans hb)
          ·have e:some b=some (w5.heap.size):=hb.symm.trans h
           have:=IU e;have:=hX.size;omega
         have hX:=hX.grown hg6 hX.size (fun k hk=>hge5 k hk);obtain⟨A6,n6,c6,rfl⟩:=au hV2.own;clear hat6;refine hK.out _ _ ?_ (fun hHeld=>?_)
         ·exact hcells.out _ hX
         clear hK K
         (try simp only [IV,IM,IP,IQ])
         refine wpAnyH_ready (rs:=[14]) (by kernel_rfl) (by simp) ?_
         refine IW (o:=_) rfl (fun K hK=>?_) ?_
         ·refine ah _ rfl _ _ 31 rfl B 63 i2 (.agg #[.int .i64 0,.slice none 0 0,.bool false,.int .i64 0]) 4 48 Try.underlying31 hi2 hx0 hx1 hx2 rfl (by decide) (.slice A6 n6 c6) _ _ (by simp [go_sem];done) hV2.own none 0 0 [] (by simp [go_sem,sliced];done) rfl (fun h=>absurd rfl h) (fun u hu=>by cases hu) (by unfold maxLen;simp;try omega) (by simp;try omega) (by have:=hX.size;omega) ?_
          intro v7 w7 hown7 hg7 hat7;have hV3:=bC hV2 (m:=[]) (zs:=[]) (by have:=hX.size;omega) (by simpa [aV] using hown7) hg7 hat7 rfl (fun i x y hx=>by simp at hx) (fun i y b hj=>by simp at hj) (fun i j y z _ hi=>by simp at hi);have hf3:∀b,FmS v7 (([]++[.slice none 0 0])++[]) b→wc.heap.size≤b:=fun b hb=>by
           rcases hb with hb | ⟨z,hz,hzb⟩
           ·rcases hat7 with h | h
            ·exact hge6 b (h.symm.trans hb)
            ·have e:some b=some (w6.heap.size):=hb.symm.trans h
             have:=IU e;have:=hX.size;omega
           ·simp at hz
            subst hz;cases hzb
          have hX:=hX.grown hg7 hX.size (fun k hk=>hge6 k hk);obtain⟨A7,n7,c7,rfl⟩:=au hV3.own;clear hat7;refine hK.out _ _ ?_ (fun hHeld=>?_)
          ·exact hcells.out _ hX
          clear hK K
          (try simp only [IV,IM,IP,IQ])
          refine wpAnyH_take (i:=15) (oi:=_) (v:=?vn13) rfl (by kernel_rfl) (by kernel_rfl) (by kernel_rfl) (fun _ _ _ h=>h) (IY ⟨by rfl,?yn13⟩) hHeld ?rn13
          case yn13=>(intro w0 hSw;obtain⟨hSw0,hSw1⟩:=hSw;go_simp;try with_reducible rfl)
          (try simp only [IV,IM,IP,IQ])
          refine bv (by kernel_rfl) ?_
          have hp7:=(hX.block p hpl4).trans hp4;have g1:=(aa hp7).2.1;have h1:=(aH hp7).2.1;have hp8:(w7.setCell ⟨p,1,none⟩ (.slice A7 n7 c7)).heap[p]?=some (.cells #[.slice A bn c,.slice A7 n7 c7,.int .i64 s.2.2.1,.int .i64 s.2.2.2] 33 (0,0)):=heap_setCell_same _ _ 1 _ _ (.slice A7 n7 c7) hp7;have hV4:=hV3.keep (w':=w7.setCell ⟨p,1,none⟩ (.slice A7 n7 c7)) fun b hb=>heap_setCell_other _ _ _ _ (by
           simp;rintro rfl;have:=hf3 _ hb;omega)
          have eI:cI s.2.1 id=([]++[(id,[],false,0)])++[]:=by
           unfold cI;rw [if_neg (by simp [hhf]),hs0];simp
          go_simp
          go_wp2
          all_goals (
           go_meet
           case rel=>exact⟨rfl,A7,n7,c7,_,hp8,by rw [eI];exact hV4,fun b hb=>.inr (hf3 b hb),fun b hb hne=>(heap_setCell_other _ _ _ _ (by simpa using hne)).trans (hX.block b hb),by simp [Jh];exact hX.size,hX.os,hX.tape,hX.output⟩)
         exact IX
        exact IX
       exact IX
      exact IX
     exact IX
    ·simp only [Jx,true_and] at eA
     obtain⟨rfl,rfl⟩:=eA;have hbc:at_≤c':=Jw hat (jJ hF4).1;have hcl:s.2.1.length≤c':=(jJ hF4).1;refine cD (l:=[_,_,_,_,_,_,_,_,_,_,_,_,_,_,_,_]) (o:=_) (S:=fun w'=>w'.cell? ⟨p,1,none⟩=some (.slice (some ⟨g,0,none⟩) s.2.1.length c')∧w'.cell? ⟨p,0,none⟩=some (.slice A bn c)) (by kernel_rfl) (by kernel_rfl) hSd (fun hHeld=>?_)
     change wpAnyH _ _ _ _ _ 16 (Jo 16 false) _ _
     generalize wc.drew=W0 at *;have hX:=hX0;refine wpAnyH_take (i:=1) (oi:=_) (v:=?va1) rfl (by kernel_rfl) (by kernel_rfl) (by kernel_rfl) (fun _ _ _ h=>h) (IY ⟨by rfl,?ya1⟩) hHeld ?ra1
     case ya1=>(intro w0 hSw;obtain⟨hSw0,hSw1⟩:=hSw;go_simp;try with_reducible rfl)
     (try simp only [IV,IM,IP,IQ])
     refine wpAnyH_take (i:=2) (oi:=_) (v:=?va2) rfl (by kernel_rfl) (by kernel_rfl) (by kernel_rfl) (fun _ _ _ h=>h) (IY ⟨by rfl,?ya2⟩) hHeld ?ra2
     case ya2=>(intro w0 hSw;obtain⟨hSw0,hSw1⟩:=hSw;go_simp;try with_reducible rfl)
     (try simp only [IV,IM,IP,IQ])
     refine wpAnyH_take (i:=3) (oi:=_) (v:=?va3) rfl (by kernel_rfl) (by kernel_rfl) (by kernel_rfl) (fun _ _ _ h=>h) (IY ⟨by rfl,?ya3⟩) hHeld ?ra3
     case ya3=>(intro w0 hSw;obtain⟨hSw0,hSw1⟩:=hSw;go_simp;try with_reducible rfl)
     (try simp only [IV,IM,IP,IQ])
     refine wpAnyH_take (i:=4) (oi:=_) (v:=?va4) rfl (by kernel_rfl) (by kernel_rfl) (by kernel_rfl) (fun _ _ _ h=>h) (IY ⟨by rfl,?ya4⟩) hHeld ?ra4
     case ya4=>(intro w0 hSw;obtain⟨hSw0,hSw1⟩:=hSw;go_simp;try with_reducible rfl)
     (try simp only [IV,IM,IP,IQ])
     refine wpAnyH_take (i:=6) (oi:=_) (v:=?va5) rfl (by kernel_rfl) (by kernel_rfl) (by kernel_rfl) (fun _ _ _ h=>h) (IY ⟨by rfl,?ya5⟩) hHeld ?ra5
     case ya5=>(intro w0 hSw;obtain⟨hSw0,hSw1⟩:=hSw;go_simp;try with_reducible rfl)
     (try simp only [IV,IM,IP,IQ])
     refine wpAnyH_take (i:=7) (oi:=_) (v:=?va6) rfl (by kernel_rfl) (by kernel_rfl) (by kernel_rfl) (fun _ _ _ h=>h) (IY ⟨by rfl,?ya6⟩) hHeld ?ra6
     case ya6=>(intro w0 hSw;obtain⟨hSw0,hSw1⟩:=hSw;go_simp;try with_reducible rfl)
     (try simp only [IV,IM,IP,IQ])
     refine wpAnyH_take (i:=10) (oi:=_) (v:=?va7) rfl (by kernel_rfl) (by kernel_rfl) (by kernel_rfl) (fun _ _ _ h=>h) (IY ⟨by rfl,?ya7⟩) hHeld ?ra7
     case ya7=>(intro w0 hSw;obtain⟨hSw0,hSw1⟩:=hSw;go_simp;try with_reducible rfl)
     (try simp only [IV,IM,IP,IQ])
     refine wpAnyH_take (i:=11) (oi:=_) (v:=?va8) rfl (by kernel_rfl) (by kernel_rfl) (by kernel_rfl) (fun _ _ _ h=>h) (IY ⟨by rfl,?ya8⟩) hHeld ?ra8
     case ya8=>(intro w0 hSw;obtain⟨hSw0,hSw1⟩:=hSw;go_simp;try with_reducible rfl)
     (try simp only [IV,IM,IP,IQ])
     refine wpAnyH_take (i:=12) (oi:=_) (v:=?va9) rfl (by kernel_rfl) (by kernel_rfl) (by kernel_rfl) (fun _ _ _ h=>h) (IY ⟨by rfl,?ya9⟩) hHeld ?ra9
     case ya9=>(intro w0 hSw;obtain⟨hSw0,hSw1⟩:=hSw;go_simp;try with_reducible rfl)
     (try simp only [IV,IM,IP,IQ])
     refine wpAnyH_take (i:=13) (oi:=_) (v:=?va10) rfl (by kernel_rfl) (by kernel_rfl) (by kernel_rfl) (fun _ _ _ h=>h) (IY ⟨by rfl,?ya10⟩) hHeld ?ra10
     case ya10=>(intro w0 hSw;obtain⟨hSw0,hSw1⟩:=hSw;go_simp;try with_reducible rfl)
     (try simp only [IV,IM,IP,IQ])
     refine wpAnyH_ready (rs:=[0,8]) (by kernel_rfl) (by simp) ?_
     refine IW (o:=_) rfl (fun K hK=>?_) ?_
     ·go_simp
      have hX:=hX.alloc hX.size (.cells #[] 63);have hE:(W0.alloc (.cells #[] 63)).heap[W0.heap.size]?=some (.cells #[] 63 (0,0)):=ae _ (by simp);refine hK.out _ _ ?_ (fun hHeld=>?_)
      ·exact hcells.out _ hX
      clear hK K
      (try simp only [IV,IM,IP,IQ])
      refine wpAnyH_ready (rs:=[5,8]) (by kernel_rfl) (by simp) ?_
      refine IW (o:=_) rfl (fun K hK=>?_) ?_
      ·refine ah _ rfl _ _ 31 rfl B 63 i2 (.agg #[.int .i64 0,.slice none 0 0,.bool false,.int .i64 0]) 4 48 Try.underlying31 hi2 hx0 hx1 hx2 rfl (by decide) (.slice (some ⟨W0.heap.size,0,none⟩) 0 0) 0 [] (by simp [go_sem];done) (bQ hE (by have:=hX0.size;omega)) (some ⟨g,0,none⟩) at_ c' (aV (s.2.1.take at_) (ys.take at_)) (by simp [go_sem,sliced];done) (by rw [bB _ _ (by simp [hF4.len]),Jg,Jl hat]) (fun _=>⟨g,0,rfl,gO (hfmsX.out _ hX) hat⟩) (cm _ _ fun y hy=>cR hF4 y (Jb hy)) (by unfold maxLen;omega) (by omega) (by have:=hX.size;omega) ?_
       intro v5 w5 hown5 hg5 hat5;have htk:=jm (hfmsX.out _ hX) at_;have hV1:=bC (dJ hE (B:=B) (by have:=hX0.size;omega)) (m:=s.2.1.take at_) (zs:=ys.take at_) (by have:=hX.size;omega) (by rw [Jg,Jl hat];exact hown5) hg5 hat5 (by simp [hF4.len]) htk.1 (fun j y b hj hb=>by
        obtain⟨h1,_⟩:=htk.2.1 j y b hj hb;have h2:=(hlt4 b (.inr ⟨y,Jb (IZ hj),hb⟩)).2;refine⟨h1,Jj h2 hX.size,fun h=>?_⟩
        rcases h with h | ⟨_,h,_⟩
        ·have e:W0.heap.size=b:=IU h
         have:=hX0.size;omega
        ·cases h) htk.2.2
       rw [Jm,Jm] at hV1;have hf1:∀b,FmS v5 (ys.take at_) b→FmS (.slice (some ⟨g,0,none⟩) s.2.1.length c') ys b∨wc.heap.size≤b:=fun b hb=>by
        rcases hb with hb | ⟨z,hz,hzb⟩
        ·rcases hat5 with h | h
         ·have e:some b=some (W0.heap.size):=hb.symm.trans h
          have:=IU e;have:=hX0.size;exact .inr (by omega)
         ·have e:some b=some ((W0.alloc (.cells #[] 63)).heap.size):=hb.symm.trans h
          have:=IU e;have:=hX.size;exact .inr (by omega)
        ·exact .inl (.inr ⟨z,Jb hz,hzb⟩)
       have hge5:∀b,aw v5 b→wc.heap.size≤b:=fun b hb=>by
        rcases hat5 with h | h
        ·have e:some b=some (W0.heap.size):=hb.symm.trans h
         have:=IU e;have:=hX0.size;omega
        ·have e:some b=some ((W0.alloc (.cells #[] 63)).heap.size):=hb.symm.trans h
         have:=IU e;have:=hX.size;omega
       have hX:=hX.grown hg5 hX.size (fun k hk=>by have e:W0.heap.size=k:=IU hk;have:=hX0.size;omega);obtain⟨A5,n5,c5,rfl⟩:=au hV1.own;clear hat5;refine hK.out _ _ ?_ (fun hHeld=>?_)
       ·exact hcells.out _ hX
       clear hK K
       (try simp only [IV,IM,IP,IQ])
       refine wpAnyH_ready (rs:=[8]) (by kernel_rfl) (by simp) ?_
       refine IW (o:=_) rfl (fun K hK=>?_) ?_
       ·go_simp
        have hX:=hX.alloc hX.size (.cells #[.int .i64 id,.slice none 0 0,.bool false,.int .i64 0] 63);have hM:(w5.alloc (.cells #[.int .i64 id,.slice none 0 0,.bool false,.int .i64 0] 63)).heap[w5.heap.size]?=some (.cells #[.int .i64 id,.slice none 0 0,.bool false,.int .i64 0] 63 (0,0)):=ae _ (by simp);have hV1:=hV1.keep (w':=(w5.alloc (.cells #[.int .i64 id,.slice none 0 0,.bool false,.int .i64 0] 63))) fun b hb=>fp _ (hV1.lt b hb).2
        refine hK.out _ _ ?_ (fun hHeld=>?_)
        ·exact hcells.out _ hX
        clear hK K
        (try simp only [IV,IM,IP,IQ])
        refine wpAnyH_ready (rs:=[9]) (by kernel_rfl) (by simp) ?_
        refine IW (o:=_) rfl (fun K hK=>?_) ?_
        ·refine ah _ rfl _ _ 31 rfl B 63 i2 (.agg #[.int .i64 0,.slice none 0 0,.bool false,.int .i64 0]) 4 48 Try.underlying31 hi2 hx0 hx1 hx2 rfl (by decide) (.slice A5 n5 c5) _ _ (by simp [go_sem];done) hV1.own (some ⟨w5.heap.size,0,none⟩) 1 1 [.int .i64 id,.slice none 0 0,.bool false,.int .i64 0] (by simp [go_sem];done) rfl (fun _=>⟨_,_,rfl,ch hM⟩) (by intro u hu;simp at hu;rcases hu with rfl | rfl | rfl | rfl<;>rfl) (by unfold maxLen;simp;try omega) (by simp;try omega) (by have:=hX.size;omega) ?_
         intro v6 w6 hown6 hg6 hat6;have hV2:=cf (x:=(id,[],false,0)) (y:=.slice none 0 0) hV1 (by have:=hX.size;omega) hown6 hg6 hat6 (dN _ _ _ _) (fun b hb=>by cases hb);have hf2:∀b,FmS v6 (ys.take at_++[.slice none 0 0]) b→FmS (.slice (some ⟨g,0,none⟩) s.2.1.length c') ys b∨wc.heap.size≤b:=fun b hb=>by
          rcases hb with hb | ⟨z,hz,hzb⟩
          ·rcases hat6 with h | h
           ·exact hf1 b (.inl (hb.symm.trans h).symm)
           ·have e:some b=some ((w5.alloc (.cells #[.int .i64 id,.slice none 0 0,.bool false,.int .i64 0] 63)).heap.size):=hb.symm.trans h
            have:=IU e;have:=hX.size;exact .inr (by omega)
          ·rcases Ja.1 hz with hz | hz
           ·exact hf1 b (.inr ⟨z,hz,hzb⟩)
           ·obtain rfl:=Jf.1 hz
            cases hzb
         have hge6:∀b,aw v6 b→wc.heap.size≤b:=fun b hb=>by
          rcases hat6 with h | h
          ·exact hge5 b (h.symm.trans hb)
          ·have e:some b=some ((w5.alloc (.cells #[.int .i64 id,.slice none 0 0,.bool false,.int .i64 0] 63)).heap.size):=hb.symm.trans h
           have:=IU e;have:=hX.size;omega
         have hX:=hX.grown hg6 hX.size (fun k hk=>hge5 k hk);obtain⟨A6,n6,c6,rfl⟩:=au hV2.own;clear hat6;refine hK.out _ _ ?_ (fun hHeld=>?_)
         ·exact hcells.out _ hX
         clear hK K
         (try simp only [IV,IM,IP,IQ])
         refine wpAnyH_ready (rs:=[14]) (by kernel_rfl) (by simp) ?_
         refine IW (o:=_) rfl (fun K hK=>?_) ?_
         ·refine ah _ rfl _ _ 31 rfl B 63 i2 (.agg #[.int .i64 0,.slice none 0 0,.bool false,.int .i64 0]) 4 48 Try.underlying31 hi2 hx0 hx1 hx2 rfl (by decide) (.slice A6 n6 c6) _ _ (by simp [go_sem];done) hV2.own (if c'=at_ then some ⟨g,0,none⟩ else some ⟨g,at_*4,none⟩) (s.2.1.length - at_) (c' - at_) (aV (s.2.1.drop at_) (ys.drop at_)) (by simp [go_sem,sliced];done) (by rw [bB _ _ (by simp [hF4.len]),Jk]) (fun h0=>⟨g,at_*4,by rw [if_neg (by omega)],fN (hfmsX.out _ hX) at_ hat⟩) (cm _ _ fun y hy=>cR hF4 y (Jc hy)) (by unfold maxLen;simp;try omega) (by simp;try omega) (by have:=hX.size;omega) ?_
          intro v7 w7 hown7 hg7 hat7;have hdr:=hZ (hfmsX.out _ hX) at_;have hV3:=bC hV2 (m:=s.2.1.drop at_) (zs:=ys.drop at_) (by have:=hX.size;omega) (by rw [Jk];exact hown7) hg7 hat7 (by simp [hF4.len]) hdr.1 (fun j y b hj hb=>by
           obtain⟨h1,h2,h3,h4⟩:=hdr.2.1 j y b hj hb;have h5:=(hlt4 b (.inr ⟨y,Jc (IZ hj),hb⟩)).2;refine⟨h1,h2,fun h=>?_⟩
           rcases h with h | ⟨z,hz,hzb⟩
           ·have:=hge6 b h
            omega
           ·rcases Ja.1 hz with hz | hz
            ·exact h4 at_ (Ji _) z hz hzb
            ·obtain rfl:=Jf.1 hz
             cases hzb) hdr.2.2
          have hf3:∀b,FmS v7 ((ys.take at_++[.slice none 0 0])++ys.drop at_) b→FmS (.slice (some ⟨g,0,none⟩) s.2.1.length c') ys b∨wc.heap.size≤b:=fun b hb=>by
           rcases hb with hb | ⟨z,hz,hzb⟩
           ·rcases hat7 with h | h
            ·exact hf2 b (.inl (hb.symm.trans h).symm)
            ·have e:some b=some (w6.heap.size):=hb.symm.trans h
             have:=IU e;have:=hX.size;exact .inr (by omega)
           ·rcases Ja.1 hz with hz | hz
            ·exact hf2 b (.inr ⟨z,hz,hzb⟩)
            ·exact .inl (.inr ⟨z,Jc hz,hzb⟩)
          have hX:=hX.grown hg7 hX.size (fun k hk=>hge6 k hk);obtain⟨A7,n7,c7,rfl⟩:=au hV3.own;clear hat7;refine hK.out _ _ ?_ (fun hHeld=>?_)
          ·exact hcells.out _ hX
          clear hK K
          (try simp only [IV,IM,IP,IQ])
          refine wpAnyH_take (i:=15) (oi:=_) (v:=?va11) rfl (by kernel_rfl) (by kernel_rfl) (by kernel_rfl) (fun _ _ _ h=>h) (IY ⟨by rfl,?ya11⟩) hHeld ?ra11
          case ya11=>(intro w0 hSw;obtain⟨hSw0,hSw1⟩:=hSw;go_simp;try with_reducible rfl)
          (try simp only [IV,IM,IP,IQ])
          refine bv (by kernel_rfl) ?_
          have hp7:=(hX.block p hpl4).trans hp4;have g1:=(aa hp7).2.1;have h1:=(aH hp7).2.1;have hp8:(w7.setCell ⟨p,1,none⟩ (.slice A7 n7 c7)).heap[p]?=some (.cells #[.slice A bn c,.slice A7 n7 c7,.int .i64 s.2.2.1,.int .i64 s.2.2.2] 33 (0,0)):=heap_setCell_same _ _ 1 _ _ (.slice A7 n7 c7) hp7;have hV4:=hV3.keep (w':=w7.setCell ⟨p,1,none⟩ (.slice A7 n7 c7)) fun b hb=>heap_setCell_other _ _ _ _ (by
           simp;rintro rfl;exact(hf3 _ hb).elim (fun h=>hnp (.inr h)) fun h=>by omega)
          have eI:cI s.2.1 id=(s.2.1.take at_++[(id,[],false,0)])++s.2.1.drop at_:=by
           unfold cI;rw [if_neg (by simp [hhf]),←hatH.out];simp
          go_simp
          go_wp2
          all_goals (
           go_meet
           case rel=>exact⟨rfl,A7,n7,c7,_,hp8,by rw [eI];exact hV4,hf3,fun b hb hne=>(heap_setCell_other _ _ _ _ (by simpa using hne)).trans (hX.block b hb),by simp [Jh];exact hX.size,hX.os,hX.tape,hX.output⟩)
         exact IX
        exact IX
       exact IX
      refine IW (o:=_) rfl (fun K hK=>?_) ?_
      ·go_simp
       have hX:=hX.alloc hX.size (.cells #[.int .i64 id,.slice none 0 0,.bool false,.int .i64 0] 63);have hM:((W0.alloc (.cells #[] 63)).alloc (.cells #[.int .i64 id,.slice none 0 0,.bool false,.int .i64 0] 63)).heap[W0.heap.size+1]?=some (.cells #[.int .i64 id,.slice none 0 0,.bool false,.int .i64 0] 63 (0,0)):=ae _ (by simp);have hE:=af (.cells #[.int .i64 id,.slice none 0 0,.bool false,.int .i64 0] 63) hE;refine hK.out _ _ ?_ (fun hHeld=>?_)
       ·exact hcells.out _ hX
       clear hK K
       (try simp only [IV,IM,IP,IQ])
       refine wpAnyH_ready (rs:=[5]) (by kernel_rfl) (by simp) ?_
       refine IW (o:=_) rfl (fun K hK=>?_) ?_
       ·refine ah _ rfl _ _ 31 rfl B 63 i2 (.agg #[.int .i64 0,.slice none 0 0,.bool false,.int .i64 0]) 4 48 Try.underlying31 hi2 hx0 hx1 hx2 rfl (by decide) (.slice (some ⟨W0.heap.size,0,none⟩) 0 0) 0 [] (by simp [go_sem];done) (bQ hE (by have:=hX0.size;omega)) (some ⟨g,0,none⟩) at_ c' (aV (s.2.1.take at_) (ys.take at_)) (by simp [go_sem,sliced];done) (by rw [bB _ _ (by simp [hF4.len]),Jg,Jl hat]) (fun _=>⟨g,0,rfl,gO (hfmsX.out _ hX) hat⟩) (cm _ _ fun y hy=>cR hF4 y (Jb hy)) (by unfold maxLen;omega) (by omega) (by have:=hX.size;omega) ?_
        intro v5 w5 hown5 hg5 hat5;have htk:=jm (hfmsX.out _ hX) at_;have hV1:=bC (dJ hE (B:=B) (by have:=hX0.size;omega)) (m:=s.2.1.take at_) (zs:=ys.take at_) (by have:=hX.size;omega) (by rw [Jg,Jl hat];exact hown5) hg5 hat5 (by simp [hF4.len]) htk.1 (fun j y b hj hb=>by
         obtain⟨h1,_⟩:=htk.2.1 j y b hj hb;have h2:=(hlt4 b (.inr ⟨y,Jb (IZ hj),hb⟩)).2;refine⟨h1,Jj h2 hX.size,fun h=>?_⟩
         rcases h with h | ⟨_,h,_⟩
         ·have e:W0.heap.size=b:=IU h
          have:=hX0.size;omega
         ·cases h) htk.2.2
        rw [Jm,Jm] at hV1;have hf1:∀b,FmS v5 (ys.take at_) b→FmS (.slice (some ⟨g,0,none⟩) s.2.1.length c') ys b∨wc.heap.size≤b:=fun b hb=>by
         rcases hb with hb | ⟨z,hz,hzb⟩
         ·rcases hat5 with h | h
          ·have e:some b=some (W0.heap.size):=hb.symm.trans h
           have:=IU e;have:=hX0.size;exact .inr (by omega)
          ·have e:some b=some (((W0.alloc (.cells #[] 63)).alloc (.cells #[.int .i64 id,.slice none 0 0,.bool false,.int .i64 0] 63)).heap.size):=hb.symm.trans h
           have:=IU e;have:=hX.size;exact .inr (by omega)
         ·exact .inl (.inr ⟨z,Jb hz,hzb⟩)
        have hge5:∀b,aw v5 b→wc.heap.size≤b:=fun b hb=>by
         rcases hat5 with h | h
         ·have e:some b=some (W0.heap.size):=hb.symm.trans h
          have:=IU e;have:=hX0.size;omega
         ·have e:some b=some (((W0.alloc (.cells #[] 63)).alloc (.cells #[.int .i64 id,.slice none 0 0,.bool false,.int .i64 0] 63)).heap.size):=hb.symm.trans h
          have:=IU e;have:=hX.size;omega
        have hM:=(hg5.block (W0.heap.size+1) (bh hM) (fun h=>by have e:W0.heap.size+1=W0.heap.size:=IU h;omega)).trans hM;have hX:=hX.grown hg5 hX.size (fun k hk=>by have e:W0.heap.size=k:=IU hk;have:=hX0.size;omega);obtain⟨A5,n5,c5,rfl⟩:=au hV1.own;clear hat5;refine hK.out _ _ ?_ (fun hHeld=>?_)
        ·exact hcells.out _ hX
        clear hK K
        (try simp only [IV,IM,IP,IQ])
        refine wpAnyH_ready (rs:=[9]) (by kernel_rfl) (by simp) ?_
        refine IW (o:=_) rfl (fun K hK=>?_) ?_
        ·refine ah _ rfl _ _ 31 rfl B 63 i2 (.agg #[.int .i64 0,.slice none 0 0,.bool false,.int .i64 0]) 4 48 Try.underlying31 hi2 hx0 hx1 hx2 rfl (by decide) (.slice A5 n5 c5) _ _ (by simp [go_sem];done) hV1.own (some ⟨W0.heap.size+1,0,none⟩) 1 1 [.int .i64 id,.slice none 0 0,.bool false,.int .i64 0] (by simp [go_sem];done) rfl (fun _=>⟨_,_,rfl,ch hM⟩) (by intro u hu;simp at hu;rcases hu with rfl | rfl | rfl | rfl<;>rfl) (by unfold maxLen;simp;try omega) (by simp;try omega) (by have:=hX.size;omega) ?_
         intro v6 w6 hown6 hg6 hat6;have hV2:=cf (x:=(id,[],false,0)) (y:=.slice none 0 0) hV1 (by have:=hX.size;omega) hown6 hg6 hat6 (dN _ _ _ _) (fun b hb=>by cases hb);have hf2:∀b,FmS v6 (ys.take at_++[.slice none 0 0]) b→FmS (.slice (some ⟨g,0,none⟩) s.2.1.length c') ys b∨wc.heap.size≤b:=fun b hb=>by
          rcases hb with hb | ⟨z,hz,hzb⟩
          ·rcases hat6 with h | h
           ·exact hf1 b (.inl (hb.symm.trans h).symm)
           ·have e:some b=some (w5.heap.size):=hb.symm.trans h
            have:=IU e;have:=hX.size;exact .inr (by omega)
          ·rcases Ja.1 hz with hz | hz
           ·exact hf1 b (.inr ⟨z,hz,hzb⟩)
           ·obtain rfl:=Jf.1 hz
            cases hzb
         have hge6:∀b,aw v6 b→wc.heap.size≤b:=fun b hb=>by
          rcases hat6 with h | h
          ·exact hge5 b (h.symm.trans hb)
          ·have e:some b=some (w5.heap.size):=hb.symm.trans h
           have:=IU e;have:=hX.size;omega
         have hX:=hX.grown hg6 hX.size (fun k hk=>hge5 k hk);obtain⟨A6,n6,c6,rfl⟩:=au hV2.own;clear hat6;refine hK.out _ _ ?_ (fun hHeld=>?_)
         ·exact hcells.out _ hX
         clear hK K
         (try simp only [IV,IM,IP,IQ])
         refine wpAnyH_ready (rs:=[14]) (by kernel_rfl) (by simp) ?_
         refine IW (o:=_) rfl (fun K hK=>?_) ?_
         ·refine ah _ rfl _ _ 31 rfl B 63 i2 (.agg #[.int .i64 0,.slice none 0 0,.bool false,.int .i64 0]) 4 48 Try.underlying31 hi2 hx0 hx1 hx2 rfl (by decide) (.slice A6 n6 c6) _ _ (by simp [go_sem];done) hV2.own (if c'=at_ then some ⟨g,0,none⟩ else some ⟨g,at_*4,none⟩) (s.2.1.length - at_) (c' - at_) (aV (s.2.1.drop at_) (ys.drop at_)) (by simp [go_sem,sliced];done) (by rw [bB _ _ (by simp [hF4.len]),Jk]) (fun h0=>⟨g,at_*4,by rw [if_neg (by omega)],fN (hfmsX.out _ hX) at_ hat⟩) (cm _ _ fun y hy=>cR hF4 y (Jc hy)) (by unfold maxLen;simp;try omega) (by simp;try omega) (by have:=hX.size;omega) ?_
          intro v7 w7 hown7 hg7 hat7;have hdr:=hZ (hfmsX.out _ hX) at_;have hV3:=bC hV2 (m:=s.2.1.drop at_) (zs:=ys.drop at_) (by have:=hX.size;omega) (by rw [Jk];exact hown7) hg7 hat7 (by simp [hF4.len]) hdr.1 (fun j y b hj hb=>by
           obtain⟨h1,h2,h3,h4⟩:=hdr.2.1 j y b hj hb;have h5:=(hlt4 b (.inr ⟨y,Jc (IZ hj),hb⟩)).2;refine⟨h1,h2,fun h=>?_⟩
           rcases h with h | ⟨z,hz,hzb⟩
           ·have:=hge6 b h
            omega
           ·rcases Ja.1 hz with hz | hz
            ·exact h4 at_ (Ji _) z hz hzb
            ·obtain rfl:=Jf.1 hz
             cases hzb) hdr.2.2
          have hf3:∀b,FmS v7 ((ys.take at_++[.slice none 0 0])++ys.drop at_) b→FmS (.slice (some ⟨g,0,none⟩) s.2.1.length c') ys b∨wc.heap.size≤b:=fun b hb=>by
           rcases hb with hb | ⟨z,hz,hzb⟩
           ·rcases hat7 with h | h
            ·exact hf2 b (.inl (hb.symm.trans h).symm)
            ·have e:some b=some (w6.heap.size):=hb.symm.trans h
             have:=IU e;have:=hX.size;exact .inr (by omega)
           ·rcases Ja.1 hz with hz | hz
            ·exact hf2 b (.inr ⟨z,hz,hzb⟩)
            ·exact .inl (.inr ⟨z,Jc hz,hzb⟩)
          have hX:=hX.grown hg7 hX.size (fun k hk=>hge6 k hk);obtain⟨A7,n7,c7,rfl⟩:=au hV3.own;clear hat7;refine hK.out _ _ ?_ (fun hHeld=>?_)
          ·exact hcells.out _ hX
          clear hK K
          (try simp only [IV,IM,IP,IQ])
          refine wpAnyH_take (i:=15) (oi:=_) (v:=?va12) rfl (by kernel_rfl) (by kernel_rfl) (by kernel_rfl) (fun _ _ _ h=>h) (IY ⟨by rfl,?ya12⟩) hHeld ?ra12
          case ya12=>(intro w0 hSw;obtain⟨hSw0,hSw1⟩:=hSw;go_simp;try with_reducible rfl)
          (try simp only [IV,IM,IP,IQ])
          refine bv (by kernel_rfl) ?_
          have hp7:=(hX.block p hpl4).trans hp4;have g1:=(aa hp7).2.1;have h1:=(aH hp7).2.1;have hp8:(w7.setCell ⟨p,1,none⟩ (.slice A7 n7 c7)).heap[p]?=some (.cells #[.slice A bn c,.slice A7 n7 c7,.int .i64 s.2.2.1,.int .i64 s.2.2.2] 33 (0,0)):=heap_setCell_same _ _ 1 _ _ (.slice A7 n7 c7) hp7;have hV4:=hV3.keep (w':=w7.setCell ⟨p,1,none⟩ (.slice A7 n7 c7)) fun b hb=>heap_setCell_other _ _ _ _ (by
           simp;rintro rfl;exact(hf3 _ hb).elim (fun h=>hnp (.inr h)) fun h=>by omega)
          have eI:cI s.2.1 id=(s.2.1.take at_++[(id,[],false,0)])++s.2.1.drop at_:=by
           unfold cI;rw [if_neg (by simp [hhf]),←hatH.out];simp
          go_simp
          go_wp2
          all_goals (
           go_meet
           case rel=>exact⟨rfl,A7,n7,c7,_,hp8,by rw [eI];exact hV4,hf3,fun b hb hne=>(heap_setCell_other _ _ _ _ (by simpa using hne)).trans (hX.block b hb),by simp [Jh];exact hX.size,hX.os,hX.tape,hX.output⟩)
         exact IX
        exact IX
       exact IX
      exact IX
     refine IW (o:=_) rfl (fun K hK=>?_) ?_
     ·go_simp
      have hX:=hX.alloc hX.size (.cells #[.int .i64 id,.slice none 0 0,.bool false,.int .i64 0] 63);have hM:(W0.alloc (.cells #[.int .i64 id,.slice none 0 0,.bool false,.int .i64 0] 63)).heap[W0.heap.size]?=some (.cells #[.int .i64 id,.slice none 0 0,.bool false,.int .i64 0] 63 (0,0)):=ae _ (by simp);refine hK.out _ _ ?_ (fun hHeld=>?_)
      ·exact hcells.out _ hX
      clear hK K
      (try simp only [IV,IM,IP,IQ])
      refine wpAnyH_ready (rs:=[0]) (by kernel_rfl) (by simp) ?_
      refine IW (o:=_) rfl (fun K hK=>?_) ?_
      ·go_simp
       have hX:=hX.alloc hX.size (.cells #[] 63);have hE:((W0.alloc (.cells #[.int .i64 id,.slice none 0 0,.bool false,.int .i64 0] 63)).alloc (.cells #[] 63)).heap[W0.heap.size+1]?=some (.cells #[] 63 (0,0)):=ae _ (by simp);have hM:=af (.cells #[] 63) hM;refine hK.out _ _ ?_ (fun hHeld=>?_)
       ·exact hcells.out _ hX
       clear hK K
       (try simp only [IV,IM,IP,IQ])
       refine wpAnyH_ready (rs:=[5]) (by kernel_rfl) (by simp) ?_
       refine IW (o:=_) rfl (fun K hK=>?_) ?_
       ·refine ah _ rfl _ _ 31 rfl B 63 i2 (.agg #[.int .i64 0,.slice none 0 0,.bool false,.int .i64 0]) 4 48 Try.underlying31 hi2 hx0 hx1 hx2 rfl (by decide) (.slice (some ⟨W0.heap.size+1,0,none⟩) 0 0) 0 [] (by simp [go_sem];done) (bQ hE (by have:=hX0.size;omega)) (some ⟨g,0,none⟩) at_ c' (aV (s.2.1.take at_) (ys.take at_)) (by simp [go_sem,sliced];done) (by rw [bB _ _ (by simp [hF4.len]),Jg,Jl hat]) (fun _=>⟨g,0,rfl,gO (hfmsX.out _ hX) hat⟩) (cm _ _ fun y hy=>cR hF4 y (Jb hy)) (by unfold maxLen;omega) (by omega) (by have:=hX.size;omega) ?_
        intro v5 w5 hown5 hg5 hat5;have htk:=jm (hfmsX.out _ hX) at_;have hV1:=bC (dJ hE (B:=B) (by have:=hX0.size;omega)) (m:=s.2.1.take at_) (zs:=ys.take at_) (by have:=hX.size;omega) (by rw [Jg,Jl hat];exact hown5) hg5 hat5 (by simp [hF4.len]) htk.1 (fun j y b hj hb=>by
         obtain⟨h1,_⟩:=htk.2.1 j y b hj hb;have h2:=(hlt4 b (.inr ⟨y,Jb (IZ hj),hb⟩)).2;refine⟨h1,Jj h2 hX.size,fun h=>?_⟩
         rcases h with h | ⟨_,h,_⟩
         ·have e:W0.heap.size+1=b:=IU h
          have:=hX0.size;omega
         ·cases h) htk.2.2
        rw [Jm,Jm] at hV1;have hf1:∀b,FmS v5 (ys.take at_) b→FmS (.slice (some ⟨g,0,none⟩) s.2.1.length c') ys b∨wc.heap.size≤b:=fun b hb=>by
         rcases hb with hb | ⟨z,hz,hzb⟩
         ·rcases hat5 with h | h
          ·have e:some b=some (W0.heap.size+1):=hb.symm.trans h
           have:=IU e;have:=hX0.size;exact .inr (by omega)
          ·have e:some b=some (((W0.alloc (.cells #[.int .i64 id,.slice none 0 0,.bool false,.int .i64 0] 63)).alloc (.cells #[] 63)).heap.size):=hb.symm.trans h
           have:=IU e;have:=hX.size;exact .inr (by omega)
         ·exact .inl (.inr ⟨z,Jb hz,hzb⟩)
        have hge5:∀b,aw v5 b→wc.heap.size≤b:=fun b hb=>by
         rcases hat5 with h | h
         ·have e:some b=some (W0.heap.size+1):=hb.symm.trans h
          have:=IU e;have:=hX0.size;omega
         ·have e:some b=some (((W0.alloc (.cells #[.int .i64 id,.slice none 0 0,.bool false,.int .i64 0] 63)).alloc (.cells #[] 63)).heap.size):=hb.symm.trans h
          have:=IU e;have:=hX.size;omega
        have hM:=(hg5.block (W0.heap.size) (bh hM) (fun h=>by have e:W0.heap.size=W0.heap.size+1:=IU h;omega)).trans hM;have hX:=hX.grown hg5 hX.size (fun k hk=>by have e:W0.heap.size+1=k:=IU hk;have:=hX0.size;omega);obtain⟨A5,n5,c5,rfl⟩:=au hV1.own;clear hat5;refine hK.out _ _ ?_ (fun hHeld=>?_)
        ·exact hcells.out _ hX
        clear hK K
        (try simp only [IV,IM,IP,IQ])
        refine wpAnyH_ready (rs:=[9]) (by kernel_rfl) (by simp) ?_
        refine IW (o:=_) rfl (fun K hK=>?_) ?_
        ·refine ah _ rfl _ _ 31 rfl B 63 i2 (.agg #[.int .i64 0,.slice none 0 0,.bool false,.int .i64 0]) 4 48 Try.underlying31 hi2 hx0 hx1 hx2 rfl (by decide) (.slice A5 n5 c5) _ _ (by simp [go_sem];done) hV1.own (some ⟨W0.heap.size,0,none⟩) 1 1 [.int .i64 id,.slice none 0 0,.bool false,.int .i64 0] (by simp [go_sem];done) rfl (fun _=>⟨_,_,rfl,ch hM⟩) (by intro u hu;simp at hu;rcases hu with rfl | rfl | rfl | rfl<;>rfl) (by unfold maxLen;simp;try omega) (by simp;try omega) (by have:=hX.size;omega) ?_
         intro v6 w6 hown6 hg6 hat6;have hV2:=cf (x:=(id,[],false,0)) (y:=.slice none 0 0) hV1 (by have:=hX.size;omega) hown6 hg6 hat6 (dN _ _ _ _) (fun b hb=>by cases hb);have hf2:∀b,FmS v6 (ys.take at_++[.slice none 0 0]) b→FmS (.slice (some ⟨g,0,none⟩) s.2.1.length c') ys b∨wc.heap.size≤b:=fun b hb=>by
          rcases hb with hb | ⟨z,hz,hzb⟩
          ·rcases hat6 with h | h
           ·exact hf1 b (.inl (hb.symm.trans h).symm)
           ·have e:some b=some (w5.heap.size):=hb.symm.trans h
            have:=IU e;have:=hX.size;exact .inr (by omega)
          ·rcases Ja.1 hz with hz | hz
           ·exact hf1 b (.inr ⟨z,hz,hzb⟩)
           ·obtain rfl:=Jf.1 hz
            cases hzb
         have hge6:∀b,aw v6 b→wc.heap.size≤b:=fun b hb=>by
          rcases hat6 with h | h
          ·exact hge5 b (h.symm.trans hb)
          ·have e:some b=some (w5.heap.size):=hb.symm.trans h
           have:=IU e;have:=hX.size;omega
         have hX:=hX.grown hg6 hX.size (fun k hk=>hge5 k hk);obtain⟨A6,n6,c6,rfl⟩:=au hV2.own;clear hat6;refine hK.out _ _ ?_ (fun hHeld=>?_)
         ·exact hcells.out _ hX
         clear hK K
         (try simp only [IV,IM,IP,IQ])
         refine wpAnyH_ready (rs:=[14]) (by kernel_rfl) (by simp) ?_
         refine IW (o:=_) rfl (fun K hK=>?_) ?_
         ·refine ah _ rfl _ _ 31 rfl B 63 i2 (.agg #[.int .i64 0,.slice none 0 0,.bool false,.int .i64 0]) 4 48 Try.underlying31 hi2 hx0 hx1 hx2 rfl (by decide) (.slice A6 n6 c6) _ _ (by simp [go_sem];done) hV2.own (if c'=at_ then some ⟨g,0,none⟩ else some ⟨g,at_*4,none⟩) (s.2.1.length - at_) (c' - at_) (aV (s.2.1.drop at_) (ys.drop at_)) (by simp [go_sem,sliced];done) (by rw [bB _ _ (by simp [hF4.len]),Jk]) (fun h0=>⟨g,at_*4,by rw [if_neg (by omega)],fN (hfmsX.out _ hX) at_ hat⟩) (cm _ _ fun y hy=>cR hF4 y (Jc hy)) (by unfold maxLen;simp;try omega) (by simp;try omega) (by have:=hX.size;omega) ?_
          intro v7 w7 hown7 hg7 hat7;have hdr:=hZ (hfmsX.out _ hX) at_;have hV3:=bC hV2 (m:=s.2.1.drop at_) (zs:=ys.drop at_) (by have:=hX.size;omega) (by rw [Jk];exact hown7) hg7 hat7 (by simp [hF4.len]) hdr.1 (fun j y b hj hb=>by
           obtain⟨h1,h2,h3,h4⟩:=hdr.2.1 j y b hj hb;have h5:=(hlt4 b (.inr ⟨y,Jc (IZ hj),hb⟩)).2;refine⟨h1,h2,fun h=>?_⟩
           rcases h with h | ⟨z,hz,hzb⟩
           ·have:=hge6 b h
            omega
           ·rcases Ja.1 hz with hz | hz
            ·exact h4 at_ (Ji _) z hz hzb
            ·obtain rfl:=Jf.1 hz
             cases hzb) hdr.2.2
          have hf3:∀b,FmS v7 ((ys.take at_++[.slice none 0 0])++ys.drop at_) b→FmS (.slice (some ⟨g,0,none⟩) s.2.1.length c') ys b∨wc.heap.size≤b:=fun b hb=>by
           rcases hb with hb | ⟨z,hz,hzb⟩
           ·rcases hat7 with h | h
            ·exact hf2 b (.inl (hb.symm.trans h).symm)
            ·have e:some b=some (w6.heap.size):=hb.symm.trans h
             have:=IU e;have:=hX.size;exact .inr (by omega)
           ·rcases Ja.1 hz with hz | hz
            ·exact hf2 b (.inr ⟨z,hz,hzb⟩)
            ·exact .inl (.inr ⟨z,Jc hz,hzb⟩)
          have hX:=hX.grown hg7 hX.size (fun k hk=>hge6 k hk);obtain⟨A7,n7,c7,rfl⟩:=au hV3.own;clear hat7;refine hK.out _ _ ?_ (fun hHeld=>?_)
          ·exact hcells.out _ hX
          clear hK K
          (try simp only [IV,IM,IP,IQ])
          refine wpAnyH_take (i:=15) (oi:=_) (v:=?va13) rfl (by kernel_rfl) (by kernel_rfl) (by kernel_rfl) (fun _ _ _ h=>h) (IY ⟨by rfl,?ya13⟩) hHeld ?ra13
          case ya13=>(intro w0 hSw;obtain⟨hSw0,hSw1⟩:=hSw;go_simp;try with_reducible rfl)
          (try simp only [IV,IM,IP,IQ])
          refine bv (by kernel_rfl) ?_
          have hp7:=(hX.block p hpl4).trans hp4;have g1:=(aa hp7).2.1;have h1:=(aH hp7).2.1;have hp8:(w7.setCell ⟨p,1,none⟩ (.slice A7 n7 c7)).heap[p]?=some (.cells #[.slice A bn c,.slice A7 n7 c7,.int .i64 s.2.2.1,.int .i64 s.2.2.2] 33 (0,0)):=heap_setCell_same _ _ 1 _ _ (.slice A7 n7 c7) hp7;have hV4:=hV3.keep (w':=w7.setCell ⟨p,1,none⟩ (.slice A7 n7 c7)) fun b hb=>heap_setCell_other _ _ _ _ (by
           simp;rintro rfl;exact(hf3 _ hb).elim (fun h=>hnp (.inr h)) fun h=>by omega)
          have eI:cI s.2.1 id=(s.2.1.take at_++[(id,[],false,0)])++s.2.1.drop at_:=by
           unfold cI;rw [if_neg (by simp [hhf]),←hatH.out];simp
          go_simp
          go_wp2
          all_goals (
           go_meet
           case rel=>exact⟨rfl,A7,n7,c7,_,hp8,by rw [eI];exact hV4,hf3,fun b hb hne=>(heap_setCell_other _ _ _ _ (by simpa using hne)).trans (hX.block b hb),by simp [Jh];exact hX.size,hX.os,hX.tape,hX.output⟩)
         exact IX
        exact IX
       exact IX
      exact IX
     exact IX
  ·go_wp2
   go_meet
   case rel =>
    refine⟨rfl,A',s.2.1.length,c',ys,hp4,?_,fun b hb=>.inl hb,fun b _ _=>rfl,Ji _,rfl,rfl,rfl⟩
    rw [cI,if_pos hhf];exact hF4
 case rest =>
  obtain⟨rfl,Ac,nc,cc,yc,hpc,hFc,hfc,hkc,hszc,hosc,htapec,houtc⟩:=hcut;obtain⟨Ac',cc',efc⟩:=aX hFc.own;cases efc;have hatL:at_<(cI s.2.1 id).length:=by rw [hatH.out];exact DV _ _
  obtain⟨g,rfl⟩:=dh hFc.own (by omega);have hv3':∀b,aw (.slice A bn c) b→w2.heap.size≤b∧b<w4.heap.size:=fun b hb=>⟨(h3b b hb).1,bI own34 b hb⟩
  have hv24:∀b,aw (.slice A2 n2 c2) b→W.heap.size≤b∧b<w4.heap.size:=fun b hb=>⟨(h2b b hb).1,bI own24 b hb⟩
  have own2c:=aI (w':=wc) own24 fun b hb=>hkc b (hv24 b hb).2 (by have:=(hv24 b hb).1;omega)
  have own3c:=aI (w':=wc) own34 fun b hb=>hkc b (hv3' b hb).2 (by have:=(hv3' b hb).1;omega)
  have hpg:∀b,FmS (.slice (some ⟨g,0,none⟩) (cI s.2.1 id).length cc) yc b→b≠p:=fun b hb e=>by
   subst e;rcases hfc b hb with h | h
   ·exact hnp (.inr h)
   ·omega
  have hfn2:∀b,FmS (.slice (some ⟨g,0,none⟩) (cI s.2.1 id).length cc) yc b→b<p∨w4.heap.size≤b:=fun b hb=>by
   rcases hfc b hb with h | h
   ·exact .inl (hFb b h)
   ·exact .inr h
  have hrc:wc.heap[p+1]?=some (.cells #[.slice none 0 0,.slice none 0 0,.int .i64 0,.int .i64 0] 33 (0,0)):=(hkc (p+1) hrl4 (by omega)).trans hr4;have hw4:w.heap.size≤w4.heap.size:=B4.size;have Bc:KeptX (ShS (.slice oA on_ oc) (.slice A' s.2.1.length c') ys) w wc:=⟨hosc.trans B4.os,htapec.trans B4.tape,houtc.trans B4.output,Jw B4.size hszc,fun b hb hn=>(hkc b (by omega) (by have:=hpeH.out;omega)).trans (B4.block b hb hn)⟩
  have hfcS:∀b,FmS (.slice (some ⟨g,0,none⟩) (cI s.2.1 id).length cc) yc b→(ShS (.slice oA on_ oc) (.slice A' s.2.1.length c') ys) b∨w.heap.size≤b:=fun b hb=>(hfc b hb).imp .inr fun h=>by omega
  have hr1:w.heap.size≤p+1:=by have:=hpeH.out;omega
  clear hkc hosc htapec houtc hr4 B4 B2 B3;generalize hfl:cI s.2.1 id=L at *;obtain⟨y,hy⟩:∃y,yc[at_]?=some y:=⟨yc[at_]'(by rw [hFc.len];exact hatL),Je _⟩
  have hgx:L[at_]?=some L[at_]:=Je hatL;obtain⟨f,hf⟩:∃f,f=L[at_]:=⟨_,rfl⟩
  rw [←hf] at hgx;obtain⟨Ay,cy,rfl⟩:=cn (hFc.row at_ _ y hgx hy);rw [Jt] at hy;have hpi:(at_:Int)<(L.length:Int):=by omega
  have hflen:f.2.1.length≤40:=by
   have:=qJ hfm id f (by rw [hfl];exact IZ hgx);exact this
  clear hf;have k2:=ax hFc.own (j:=at_*4+2) (u:=.bool f.2.2.1) (by rw [aD _ _ at_ f _ hgx hy 2 (by omega)];rfl);obtain⟨e0,e1,e2,e3⟩:=aa hpc;have eS:yF s id u=(br (aK s.1) (-1) s.1 (cH s.1 u),L.set at_ (f.1,f.2.1++cH s.1 u,f.2.2.1,f.2.2.2),s.2.2.1,s.2.2.2):=by
   unfold yF FL;rw [hfl,←hatH.out,hgx]
  have eO:iB s id u = !f.2.2.1:=by
   unfold iB vD;rw [hfl,←hatH.out,hgx,hwb,hgo];rfl
  have eSH:Hid _:=eS;have eOH:Hid _:=eO;clear eS eO hfl hatH hwb hgo;cases hb:f.2.2.1
  rotate_left
  ·rw [hb] at k2
   have hbH:Hid _:=hb;clear hb;obtain⟨g0,g1,g2,g3⟩:=aa hrc;obtain⟨j0,j1,j2,j3⟩:=aH hrc
   go_wp2
   obtain⟨d0,d1,d2,d3⟩:=aa (aE (.slice none 0 0) (.slice none 0 0) (.int .i64 0) (.int .i64 0) hrc);refine bodyPost_ret (by simp [results,Try.results83,go_sem,d0,d1,d2,d3];try rfl) rfl ?_
   rw [eOH.out,hbH.out];exact dO Bc hr1
  rw [hb] at k2;have hbH:Hid _:=hb;clear hb
  go_upto_region 16 with fail
  have hF0:FmsAt wc.drew B (.slice (some ⟨g,0,none⟩) L.length cc) yc L:=hFc.keep fun _ _=>rfl
  have hp0:=Below.some (ab wc) hpc;have hr0:=Below.some (ab wc) hrc;have own20:=aW.below own2c (ab wc);have own30:=aW.below own3c (ab wc);have Bd0:KeptX (ShS (.slice oA on_ oc) (.slice A' s.2.1.length c') ys) w wc.drew:=Bc.step (ab wc);have hsz0:w4.heap.size≤wc.drew.heap.size:=hszc;clear k2 e0 e1 e2 e3 hpc hrc own2c own3c Bc;have hrow:=hF0.row at_ _ _ hgx hy;have k1:=ax hF0.own (j:=at_*4+1) (u:=.slice Ay f.2.1.length cy) (by rw [aD _ _ at_ f _ hgx hy 1 (by omega)];rfl);have hyb:∀b,aw (.slice Ay f.2.1.length cy) b→b≠g∧b≠p∧(b<p∨w4.heap.size≤b)∧B≤b:=fun b hb=>⟨fun e=>(hF0.blk at_ _ b hy hb).2 (by rw [e];rfl),hpg b (.inr ⟨_,IZ hy,hb⟩),hfn2 b (.inr ⟨_,IZ hy,hb⟩),(hF0.blk at_ _ b hy hb).1⟩
  have hgp:g≠p:=hpg g (.inl rfl);have hgW:=hfn2 g (.inl rfl);have hgB:=(hF0.lt g (.inl rfl)).1;have hglt:=(hF0.lt g (.inl rfl)).2;have hSd:wc.drew.cell? ⟨p,1,none⟩=some (.slice (some ⟨g,0,none⟩) L.length cc)∧wc.drew.cell? ⟨g,at_*4+1,none⟩=some (.slice Ay f.2.1.length cy):=⟨(aa hp0).2.1,k1⟩
  refine cD (l:=[_,_,_,_,_,_,_,_,_,_,_,_,_]) (o:=_) (S:=fun w'=>w'.cell? ⟨p,1,none⟩=some (.slice (some ⟨g,0,none⟩) L.length cc)∧w'.cell? ⟨g,at_*4+1,none⟩=some (.slice Ay f.2.1.length cy)) (by kernel_rfl) (by kernel_rfl) hSd (fun hHeld=>?_)
  change wpAnyH _ _ _ _ _ 13 (Jo 13 false) _ _
  generalize wc.drew=W0 at *;refine wpAnyH_take (i:=0) (oi:=_) (v:=?vb1) rfl (by kernel_rfl) (by kernel_rfl) (by kernel_rfl) (fun _ _ _ h=>h) (IY ⟨by rfl,?yb1⟩) hHeld ?rb1
  case yb1=>(intro w0 hSw;obtain⟨hSw0,hSw1⟩:=hSw;go_simp;try with_reducible rfl)
  (try simp only [IV,IM,IP,IQ])
  refine wpAnyH_take (i:=1) (oi:=_) (v:=?vb2) rfl (by kernel_rfl) (by kernel_rfl) (by kernel_rfl) (fun _ _ _ h=>h) (IY ⟨by rfl,?yb2⟩) hHeld ?rb2
  case yb2=>(intro w0 hSw;obtain⟨hSw0,hSw1⟩:=hSw;go_simp;try with_reducible rfl)
  (try simp only [IV,IM,IP,IQ])
  refine wpAnyH_take (i:=2) (oi:=_) (v:=?vb3) rfl (by kernel_rfl) (by kernel_rfl) (by kernel_rfl) (fun _ _ _ h=>h) (IY ⟨by rfl,?yb3⟩) hHeld ?rb3
  case yb3=>(intro w0 hSw;obtain⟨hSw0,hSw1⟩:=hSw;go_simp;try with_reducible rfl)
  (try simp only [IV,IM,IP,IQ])
  refine wpAnyH_take (i:=3) (oi:=_) (v:=?vb4) rfl (by kernel_rfl) (by kernel_rfl) (by kernel_rfl) (fun _ _ _ h=>h) (IY ⟨by rfl,?yb4⟩) hHeld ?rb4
  case yb4=>(intro w0 hSw;obtain⟨hSw0,hSw1⟩:=hSw;go_simp;try with_reducible rfl)
  (try simp only [IV,IM,IP,IQ])
  refine wpAnyH_take (i:=4) (oi:=_) (v:=?vb5) rfl (by kernel_rfl) (by kernel_rfl) (by kernel_rfl) (fun _ _ _ h=>h) (IY ⟨by rfl,?yb5⟩) hHeld ?rb5
  case yb5=>(intro w0 hSw;obtain⟨hSw0,hSw1⟩:=hSw;go_simp;try with_reducible rfl)
  (try simp only [IV,IM,IP,IQ])
  refine wpAnyH_take (i:=5) (oi:=_) (v:=?vb6) rfl (by kernel_rfl) (by kernel_rfl) (by kernel_rfl) (fun _ _ _ h=>h) (IY ⟨by rfl,?yb6⟩) hHeld ?rb6
  case yb6=>(intro w0 hSw;obtain⟨hSw0,hSw1⟩:=hSw;go_simp;try with_reducible rfl)
  (try simp only [IV,IM,IP,IQ])
  refine wpAnyH_take (i:=6) (oi:=_) (v:=?vb7) rfl (by kernel_rfl) (by kernel_rfl) (by kernel_rfl) (fun _ _ _ h=>h) (IY ⟨by rfl,?yb7⟩) hHeld ?rb7
  case yb7=>(intro w0 hSw;obtain⟨hSw0,hSw1⟩:=hSw;go_simp;try with_reducible rfl)
  (try simp only [IV,IM,IP,IQ])
  refine wpAnyH_take (i:=7) (oi:=_) (v:=?vb8) rfl (by kernel_rfl) (by kernel_rfl) (by kernel_rfl) (fun _ _ _ h=>h) (IY ⟨by rfl,?yb8⟩) hHeld ?rb8
  case yb8=>(intro w0 hSw;obtain⟨hSw0,hSw1⟩:=hSw;go_simp;try with_reducible rfl)
  (try simp only [IV,IM,IP,IQ])
  refine wpAnyH_take (i:=8) (oi:=_) (v:=?vb9) rfl (by kernel_rfl) (by kernel_rfl) (by kernel_rfl) (fun _ _ _ h=>h) (IY ⟨by rfl,?yb9⟩) hHeld ?rb9
  case yb9=>(intro w0 hSw;obtain⟨hSw0,hSw1⟩:=hSw;go_simp;try with_reducible rfl)
  (try simp only [IV,IM,IP,IQ])
  refine wpAnyH_take (i:=9) (oi:=_) (v:=?vb10) rfl (by kernel_rfl) (by kernel_rfl) (by kernel_rfl) (fun _ _ _ h=>h) (IY ⟨by rfl,?yb10⟩) hHeld ?rb10
  case yb10=>(intro w0 hSw;obtain⟨hSw0,hSw1⟩:=hSw;go_simp;try with_reducible rfl)
  (try simp only [IV,IM,IP,IQ])
  refine wpAnyH_ready (rs:=[10]) (by kernel_rfl) (by simp) ?_
  refine IW (o:=_) rfl (fun K hK=>?_) ?_
  ·refine lN _ rfl _ _ rfl f.2.1 (cH s.1 u) (.slice Ay f.2.1.length cy) (.slice A2 n2 c2) (by simp [go_sem];done) (by simp [go_sem];done) hrow (cz own20) (by omega) ?_
   intro A5 n5 c5 w5 own5 hv5 hk5;have hp5:=KeptX.some hk5 hp0 (fun h=>(hyb p h).2.1 rfl);refine hK.out _ _ ?_ (fun hHeld=>?_)
   ·exact⟨(aa hp5).2.1,(Jp (hk5.block g hglt (fun h=>(hyb g h).1 rfl))).trans k1⟩
   clear hK K
   (try simp only [IV,IM,IP,IQ])
   refine wpAnyH_take (i:=11) (oi:=_) (v:=?vb11) rfl (by kernel_rfl) (by kernel_rfl) (by kernel_rfl) (fun _ _ _ h=>h) (IY ⟨by rfl,?yb11⟩) hHeld ?rb11
   case yb11=>(intro w0 hSw;obtain⟨hSw0,hSw1⟩:=hSw;go_simp;try with_reducible rfl)
   (try simp only [IV,IM,IP,IQ])
   refine wpAnyH_take (i:=12) (oi:=_) (v:=?vb12) rfl (by kernel_rfl) (by kernel_rfl) (by kernel_rfl) (fun _ _ _ h=>h) (IY ⟨by rfl,?yb12⟩) hHeld ?rb12
   case yb12=>(intro w0 hSw;obtain⟨hSw0,hSw1⟩:=hSw;go_simp;try with_reducible rfl)
   (try simp only [IV,IM,IP,IQ])
   refine bv (by kernel_rfl) ?_
   have hown5:=Aa hF0.own (w':=w5) fun b hb=>hk5.block b (hF0.lt b (.inl hb)).2 (fun h=>(hyb b h).1 (IU hb).symm)
   have k15:=ax hown5 (j:=at_*4+1) (u:=.slice Ay f.2.1.length cy) (by rw [aD _ _ at_ f _ hgx hy 1 (by omega)];rfl);have z15:=aP hown5 (at_*4+1);have hv5':∀b,aw (.slice A5 n5 c5) b→b≠g∧b≠p∧(b<p∨w4.heap.size≤b)∧B≤b∧(aw (.slice Ay f.2.1.length cy) b∨W0.heap.size≤b):=fun b hb=>by
    rcases hv5 b hb with h | h
    ·exact⟨(hyb b h).1,(hyb b h).2.1,(hyb b h).2.2.1,(hyb b h).2.2.2,.inl h⟩
    ·exact⟨by omega,by omega,.inr (by omega),by omega,.inr h⟩
   have hw6:∀b,b≠g→(w5.setCell ⟨g,at_*4+1,none⟩ (.slice A5 n5 c5)).heap[b]?=w5.heap[b]?:=fun b hb=>heap_setCell_other _ _ _ _ (by simpa using hb)
   have hF6:=kI (w':=w5.setCell ⟨g,at_*4+1,none⟩ (.slice A5 n5 c5)) (x:=(f.1,f.2.1++cH s.1 u,f.2.2.1,f.2.2.2)) (y:=.slice A5 n5 c5) hF0 hatL (aI own5 fun b hb=>hw6 b (hv5' b hb).1) (fun b hb=>⟨(hv5' b hb).2.2.2.1,(hv5' b hb).1⟩)
    (fun j z hj hz=>by
     cases hb:(Value.slice A5 n5 c5).ownBlock with
     | none=>exact .inl rfl
     | some b =>
      refine .inr fun e=>?_
      rcases(hv5' b hb).2.2.2.2 with h | h
      ·rcases hF0.dis at_ j _ z (fun e=>hj e.symm) hy hz with h2 | h2
       ·rw [aw,h2] at h
        cases h
       ·exact h2 (h.trans e)
      ·have:=(hF0.lt b (.inr ⟨z,IZ hz,e.symm⟩)).2
       omega)
    (fun j z b hj hz hb=>(hw6 b fun e=>(hF0.blk j z b hz hb).2 (by rw [e];rfl)).trans (hk5.block b (hF0.lt b (.inr ⟨z,IZ hz,hb⟩)).2 fun h=>by
     rcases hF0.dis at_ j _ z (fun e=>hj e.symm) hy hz with h2 | h2
     ·rw [aw,h2] at h
      cases h
     ·exact h2 (h.trans hb.symm)))
    (by rw [gK L yc at_ f (f.1,f.2.1++cH s.1 u,f.2.2.1,f.2.2.2) _ _ (.slice A5 n5 c5) 1 (by omega) hgx hy rfl];exact bO hown5 rfl _ _)
   have hp6:=(hw6 p (fun e=>hgp e.symm)).trans hp5;have own36:aW (w5.setCell ⟨g,at_*4+1,none⟩ (.slice A5 n5 c5)) (fun _=>False) (aw (.slice A bn c)) 4 _ (.slice A bn c):=aI own30 fun b hb=>by
    have h1:=hv3' b hb;rw [hw6 b (by omega)];exact hk5.block b (by omega) fun h=>by have:=(hyb b h).2.2.1;omega
   have B6:KeptX (ShS (.slice oA on_ oc) (.slice A' s.2.1.length c') ys) w (w5.setCell ⟨g,at_*4+1,none⟩ (.slice A5 n5 c5)):=(Bd0.stepX hk5 fun b hb=>hfcS b (.inr ⟨_,IZ hy,hb⟩)).setO _ _ (hfcS g (.inl rfl));have hfs6:∀b,FmS (.slice (some ⟨g,0,none⟩) L.length cc) (yc.set at_ (.slice A5 n5 c5)) b→b≠p∧(b<p∨w4.heap.size≤b):=fun b hb=>by
    rcases hb with hb | ⟨z,hz,hzb⟩
    ·exact⟨hpg b (.inl hb),hfn2 b (.inl hb)⟩
    ·rcases Jr hz with h | rfl
     ·exact⟨hpg b (.inr ⟨z,h,hzb⟩),hfn2 b (.inr ⟨z,h,hzb⟩)⟩
     ·exact⟨(hv5' b hzb).2.1,(hv5' b hzb).2.2.1⟩
   have hr6:=(hw6 (p+1) (by omega)).trans (KeptX.some hk5 hr0 (fun h=>by have:=(hyb _ h).2.2.1;omega));have hSz:ShopAt (w5.setCell ⟨g,at_*4+1,none⟩ (.slice A5 n5 c5)) B (.agg #[.slice A bn c,.slice (some ⟨g,0,none⟩) L.length cc,.int .i64 s.2.2.1,.int .i64 s.2.2.2]) (.slice A bn c) (.slice (some ⟨g,0,none⟩) L.length cc) (yc.set at_ (.slice A5 n5 c5)) (br (aK s.1) (-1) s.1 (cH s.1 u),L.set at_ (f.1,f.2.1++cH s.1 u,f.2.2.1,f.2.2.2),s.2.2.1,s.2.2.2) :=
    ⟨rfl,own36,fun b hb=>by have:=(hv3' b hb).1;omega,hF6,fun b hb h=>by have:=hv3' b hb;have:=(hfs6 b h).2;omega⟩
   have hrb:∀b,ShS (.slice A bn c) (.slice (some ⟨g,0,none⟩) L.length cc) (yc.set at_ (.slice A5 n5 c5)) b→p+1≠b:=fun b hb=>by
    rcases hb with hb | hb
    ·have:=(hv3' b hb).1
     omega
    ·have:=(hfs6 b hb).2
     omega
   have hsub:∀b,ShS (.slice A bn c) (.slice (some ⟨g,0,none⟩) L.length cc) (yc.set at_ (.slice A5 n5 c5)) b→(ShS (.slice oA on_ oc) (.slice A' s.2.1.length c') ys) b∨w.heap.size≤b:=fun b hb=>by
    rcases hb with hb | hb
    ·exact .inr (by have:=(hv3' b hb).1;have:=hpeH.out;omega)
    ·rcases hb with hb | ⟨z,hz,hzb⟩
     ·exact hfcS b (.inl hb)
     ·rcases Jr hz with h | rfl
      ·exact hfcS b (.inr ⟨z,h,hzb⟩)
      ·rcases hv5 b hzb with h | h
       ·exact hfcS b (.inr ⟨_,IZ hy,h⟩)
       ·exact .inr (by omega)
   go_simp
   generalize w5.setCell ⟨g,at_*4+1,none⟩ (.slice A5 n5 c5)=w6 at *;obtain⟨x0,x1,x2,x3⟩:=aa hp6;obtain⟨g0,g1,g2,g3⟩:=aa hr6;obtain⟨j0,j1,j2,j3⟩:=aH hr6;clear own5 hown5
   go_wp2
   obtain⟨d0,d1,d2,d3⟩:=aa (aE (.slice A bn c) (.slice (some ⟨g,0,none⟩) L.length cc) (.int .i64 s.2.2.1) (.int .i64 s.2.2.2) hr6);refine bodyPost_ret (by simp [results,Try.results83,go_sem,d0,d1,d2,d3];try rfl) rfl ?_
   rw [eOH.out,hbH.out,eSH.out];exact ku hSz B6 hr1 hrb hsub
  exact IX
set_option maxHeartbeats 8000000 in
set_option maxRecDepth 1000000 in
theorem Ez (s:Sp) (hs:cr s) (hok:aT s=true) (id:Int) (u:ByteArray) (n:Int) (hx:cM (1,id,u,n)=true) (w:World) (B:Nat) (v Vb Vf:Value) (ys:List Value) (hS0:ShopAt w B v Vb Vf ys s) (hB:B≤w.heap.size) :
  Calls Try.prog 68 #[v,stV (1,id,u,n)] w (nL w B (ShS Vb Vf ys) (iB s id u) (yF s id u)):=by
 obtain rfl:=hS0.val;obtain⟨bA,bn,bc,rfl⟩:=aY hS0.box;obtain⟨fA,fc,rfl⟩:=aX hS0.fms.own;have hlt0:=hS0.lt
 go_enter Try.func68,Try.ntmps68
 go_upto_region 1 with fail
 have hW:Below w.heap.size w (((w.alloc (.cells #[.slice bA bn bc,.slice fA s.2.1.length fc,.int .i64 s.2.2.1,.int .i64 s.2.2.2] 33)).alloc (.cells #[.int .i64 1,.int .i64 id,.string u,.int .i64 n] 46)).alloc (.cells #[.slice none 0 0,.slice none 0 0,.int .i64 0,.int .i64 0] 33)):=((Jq _ w).alloc (Ji _) _).alloc (by simp) _ |>.alloc (by simp;omega) _;have hWs:w.heap.size+3≤(((w.alloc (.cells #[.slice bA bn bc,.slice fA s.2.1.length fc,.int .i64 s.2.2.1,.int .i64 s.2.2.2] 33)).alloc (.cells #[.int .i64 1,.int .i64 id,.string u,.int .i64 n] 46)).alloc (.cells #[.slice none 0 0,.slice none 0 0,.int .i64 0,.int .i64 0] 33)).heap.size:=by simp
 have hp:(((w.alloc (.cells #[.slice bA bn bc,.slice fA s.2.1.length fc,.int .i64 s.2.2.1,.int .i64 s.2.2.2] 33)).alloc (.cells #[.int .i64 1,.int .i64 id,.string u,.int .i64 n] 46)).alloc (.cells #[.slice none 0 0,.slice none 0 0,.int .i64 0,.int .i64 0] 33)).heap[w.heap.size]?=some (.cells #[.slice bA bn bc,.slice fA s.2.1.length fc,.int .i64 s.2.2.1,.int .i64 s.2.2.2] 33 (0,0)):=af _ (af _ (ae _ rfl));have hq:(((w.alloc (.cells #[.slice bA bn bc,.slice fA s.2.1.length fc,.int .i64 s.2.2.1,.int .i64 s.2.2.2] 33)).alloc (.cells #[.int .i64 1,.int .i64 id,.string u,.int .i64 n] 46)).alloc (.cells #[.slice none 0 0,.slice none 0 0,.int .i64 0,.int .i64 0] 33)).heap[w.heap.size+1]?=some (.cells #[.int .i64 1,.int .i64 id,.string u,.int .i64 n] 46 (0,0)):=af _ (ae _ (by simp));have hr:(((w.alloc (.cells #[.slice bA bn bc,.slice fA s.2.1.length fc,.int .i64 s.2.2.1,.int .i64 s.2.2.2] 33)).alloc (.cells #[.int .i64 1,.int .i64 id,.string u,.int .i64 n] 46)).alloc (.cells #[.slice none 0 0,.slice none 0 0,.int .i64 0,.int .i64 0] 33)).heap[w.heap.size+1+1]?=some (.cells #[.slice none 0 0,.slice none 0 0,.int .i64 0,.int .i64 0] 33 (0,0)):=ae _ (by simp);have hS:=hS0.below hW;generalize (((w.alloc (.cells #[.slice bA bn bc,.slice fA s.2.1.length fc,.int .i64 s.2.2.1,.int .i64 s.2.2.2] 33)).alloc (.cells #[.int .i64 1,.int .i64 id,.string u,.int .i64 n] 46)).alloc (.cells #[.slice none 0 0,.slice none 0 0,.int .i64 0,.int .i64 0] 33))=W at *;obtain⟨e0,e1,e2,e3⟩:=aa hp;obtain⟨f0,f1,f2,f3⟩:=aa hq;have hc:=BU s hs hok id u n hx W B _ _ _ _ hS (by omega)
 go_wp2_with (go_at_call 83;refine hc.mono ?_)
 rintro e w2 ⟨v2,Vb2,Vf2,ys2,rfl,sa,hsub,hk⟩;generalize hT:(if iB s id u=true then yF s id u else([],[],0,0))=T at sa;have hTH:Hid _:=hT;clear hT;obtain rfl:=sa.val;obtain⟨mA,mn,mc,rfl⟩:=aY sa.box;obtain⟨mfA,mfn,mfc,rfl⟩:=au sa.fms.own;have hr2:=KeptX.some hk hr (fun h=>by have:=hlt0 _ h;omega);have hrb:∀b,ShS (.slice mA mn mc) (.slice mfA mfn mfc) ys2 b→w.heap.size+1+1≠b:=fun b hb=>by
  rcases hsub b hb with h | h
  ·have:=hlt0 b h
   omega
  ·omega
 clear e0 e1 e2 e3 f0 f1 f2 f3 hc;obtain⟨g0,g1,g2,g3⟩:=aa hr2;obtain⟨j0,j1,j2,j3⟩:=aH hr2
 go_wp2
 obtain⟨d0,d1,d2,d3⟩:=aa (aE (.slice mA mn mc) (.slice mfA mfn mfc) (.int .i64 T.2.2.1) (.int .i64 T.2.2.2) hr2);refine bodyPost_ret (by simp [results,Try.results68,go_sem,d0,d1,d2,d3];try rfl) rfl ?_
 refine⟨_,_,_,_,rfl,by rw [hTH.out];exact sa.set4 _ _ _ _ hrb,fun b hb=>(hsub b hb).imp (fun h=>h) fun h=>by omega,KeptX.set4 ((KeptX.ofBelow hW).stepX hk fun b hb=>.inl hb) (by omega) _ _ _ _⟩
theorem my (s:Sp) (hs:cr s) (hok:aT s=true) (x:Stp) (hx:cM x=true) (w:World) (B:Nat) (v Vb Vf:Value) (ys:List Value) (hS0:ShopAt w B v Vb Vf ys s) (hB:B≤w.heap.size) :
  Calls Try.prog 68 #[v,stV x] w (nL w B (ShS Vb Vf ys) (iC s x) (gF s x)):=by
 obtain⟨k,id,u,n⟩:=x;have h:=uR hx;simp only at h;unfold iC gF;rcases h with rfl | rfl | rfl | rfl | rfl | rfl
 ·exact Ez s hs hok id u n hx w B v Vb Vf ys hS0 hB
 ·exact ES s hs hok id u n hx w B v Vb Vf ys hS0 hB
 ·exact FA s hs hok id u n hx w B v Vb Vf ys hS0 hB
 ·exact Fa s hs hok id u n hx w B v Vb Vf ys hS0 hB
 ·exact EP s hs hok id u n hx w B v Vb Vf ys hS0 hB
 ·exact Fs s hs hok id u n hx w B v Vb Vf ys hS0 hB
def DoR (s:Sp) (x:Stp) (w wc:World) (t6 t7:Value):Prop:=∃q,t6 = .pointer (some ⟨q,0,none⟩)∧t7 = .bool (iC s x)∧jg wc q (w.heap.size+3) (if iC s x=true then gF s x else([],[],0,0)) ∧
 wc.heap[w.heap.size+2]?=some (.cells #[.slice none 0 0,.slice none 0 0,.int .i64 0,.int .i64 0] 33 (0,0))∧Below w.heap.size w wc∧w.heap.size+3≤q∧q<wc.heap.size
set_option maxHeartbeats 8000000 in
set_option maxRecDepth 1000000 in
theorem DS (s:Sp) (hs:cr s) (hok:aT s=true) (x:Stp) (hxs:x.2.2.1.size≤9223372036854775807) (v0:Value) (w:World) (F:Nat→Prop) (hr:aM w F (sp s) v0) (hF:∀b,F b→b<w.heap.size) :
  Calls Try.prog 45 #[v0,stV x] w fun e w'=>∃v,e = .returned (.tuple #[v,.bool (gx s x)])∧sg w' w.heap.size v (stS s x)∧Below w.heap.size w w':=by
 obtain⟨A,n,c,A',n',c',rfl,hb,hf⟩:=dS hr;clear hb hf
 go_enter Try.func45,Try.ntmps45
 have hb3:∀a b c,Below w.heap.size w (((w.alloc a).alloc b).alloc c):=fun a b c=>(((Jq _ w).alloc (Ji _) _).alloc (by simp) _).alloc (by simp;omega) _
 have rep:∀{W:World},Below w.heap.size w W→aM W F (sp s) (.agg #[.slice A n c,.slice A' n' c',.int .i64 s.2.2.1,.int .i64 s.2.2.2]):=fun {W} h=>aG (fun _ h=>h) (fun b hb=>h.block b (hF b hb)) hr
 have hFW:∀{W:World},Below w.heap.size w W→∀b,F b→b<W.heap.size:=fun {W} h b hb=>Jj (hF b hb) h.size
 have hc2:=fun(W:World)=>zF x hxs (w:=W)
 cases hst:cM x
 ·have hno:gx s x=false:=by simp [gx,hst]
  rw [hst] at hc2
  go_wp2_with (go_at_call 67;refine(hc2 _).mono ?_;rintro e w2 ⟨rfl,b2⟩;have B2:Below w.heap.size w w2:=aR (hb3 _ _ _) b2 (by simp;omega);have H2:w2.heap[w.heap.size+2]?=some (.cells #[.slice none 0 0,.slice none 0 0,.int .i64 0,.int .i64 0] 33 (0,0)):=Below.some b2 (ae _ (by simp));have i0:=(aa H2).1;have i1:=(aa H2).2.1;have i2:=(aa H2).2.2.1;have i3:=(aa H2).2.2.2;have j0:=(aH H2).1;have j1:=(aH H2).2.1;have j2:=(aH H2).2.2.1;have j3:=(aH H2).2.2.2)
  obtain⟨d0,d1,d2,d3⟩:=aa (aE (.slice none 0 0) (.slice none 0 0) (.int .i64 0) (.int .i64 0) H2);refine bodyPost_ret (by simp [results,Try.results45,go_sem,d0,d1,d2,d3];try rfl) rfl ?_
  (try rw [hno])
  (try rw [xr hno])
  exact⟨_,rfl,dB _ _,bj _ _ _ _ B2 (by omega)⟩
 ·rw [hst] at hc2
  go_upto_region 3 with (go_at_call 67;refine(hc2 _).mono ?_;rintro e w2 ⟨rfl,b2⟩;have B2:Below w.heap.size w w2:=aR (hb3 _ _ _) b2 (by simp;omega);have hr2:w2.heap[w.heap.size+2]?=some (.cells #[.slice none 0 0,.slice none 0 0,.int .i64 0,.int .i64 0] 33 (0,0)):=Below.some b2 (ae _ (by simp));have hq2:w2.heap[w.heap.size+1]?=some (.cells #[.int .i64 x.1,.int .i64 x.2.1,.string x.2.2.1,.int .i64 x.2.2.2] 46 (0,0)):=Below.some b2 (af _ (ae _ (by simp)));have hp2:w2.heap[w.heap.size]?=some (.cells #[.slice A n c,.slice A' n' c',.int .i64 s.2.2.1,.int .i64 s.2.2.2] 33 (0,0)):=Below.some b2 (af _ (af _ (ae _ rfl)));clear b2)
  have hrl:=bh hr2;have hql2:=bh hq2;have hpl2:=bh hp2;have hcells:Hid (∀X:World,Below w2.heap.size w2 X→(X.cell? ⟨w.heap.size,0,none⟩=some (.slice A n c)∧X.cell? ⟨w.heap.size,1,none⟩=some (.slice A' n' c')∧X.cell? ⟨w.heap.size,2,none⟩=some (.int .i64 s.2.2.1)∧X.cell? ⟨w.heap.size,3,none⟩=some (.int .i64 s.2.2.2))∧(X.cell? ⟨w.heap.size+1,0,none⟩=some (.int .i64 x.1)∧X.cell? ⟨w.heap.size+1,1,none⟩=some (.int .i64 x.2.1)∧X.cell? ⟨w.heap.size+1,2,none⟩=some (.string x.2.2.1)∧X.cell? ⟨w.heap.size+1,3,none⟩=some (.int .i64 x.2.2.2))):=fun X hX=>⟨aa ((hX.block _ hpl2).trans hp2),aa ((hX.block _ hql2).trans hq2)⟩
  have repX:Hid (∀X:World,Below w2.heap.size w2 X→aM X F (sp s) (.agg #[.slice A n c,.slice A' n' c',.int .i64 s.2.2.1,.int .i64 s.2.2.2])):=fun X hX=>rep (B2.trans (hX.mono (by omega)))
  have hFX:Hid (∀X:World,Below w2.heap.size w2 X→∀b,F b→b<X.heap.size):=fun X hX=>hFW (B2.trans (hX.mono (by omega)))
  clear hc2 hb3 rep hFW hp2 hq2 hpl2 hql2
  go_cut [6,7] from 8 (fun t6 t7 wc=>DoR s x w wc t6 t7)
  case first =>
   have hX0:Below w2.heap.size w2 w2.drew:=ab w2;have hSd:=hcells.out _ hX0;have hw2:w.heap.size+3≤w2.heap.size:=by omega
   refine cD (l:=[_,_,_,_,_,_,_,_,_]) (o:=_) (S:=fun w'=>(w'.cell? ⟨w.heap.size,0,none⟩=some (.slice A n c)∧w'.cell? ⟨w.heap.size,1,none⟩=some (.slice A' n' c')∧w'.cell? ⟨w.heap.size,2,none⟩=some (.int .i64 s.2.2.1)∧w'.cell? ⟨w.heap.size,3,none⟩=some (.int .i64 s.2.2.2))∧(w'.cell? ⟨w.heap.size+1,0,none⟩=some (.int .i64 x.1)∧w'.cell? ⟨w.heap.size+1,1,none⟩=some (.int .i64 x.2.1)∧w'.cell? ⟨w.heap.size+1,2,none⟩=some (.string x.2.2.1)∧w'.cell? ⟨w.heap.size+1,3,none⟩=some (.int .i64 x.2.2.2))) (by kernel_rfl) (by kernel_rfl) hSd (fun hHeld=>?_)
   change wpAnyH _ _ _ _ _ 9 (Jo 9 false) _ _
   generalize w2.drew=W0 at *;have hX:=hX0;refine wpAnyH_take (i:=0) (oi:=_) (v:=?vd1) rfl (by kernel_rfl) (by kernel_rfl) (by kernel_rfl) (fun _ _ _ h=>h) (IY ⟨by rfl,?yd1⟩) hHeld ?rd1
   case yd1=>(intro w0 hSw;obtain⟨hSw0,hSw1⟩:=hSw;go_simp;try with_reducible rfl)
   (try simp only [IV,IM,IP,IQ])
   refine wpAnyH_take (i:=2) (oi:=_) (v:=?vd2) rfl (by kernel_rfl) (by kernel_rfl) (by kernel_rfl) (fun _ _ _ h=>h) (IY ⟨by rfl,?yd2⟩) hHeld ?rd2
   case yd2=>(intro w0 hSw;obtain⟨hSw0,hSw1⟩:=hSw;go_simp;try with_reducible rfl)
   (try simp only [IV,IM,IP,IQ])
   refine wpAnyH_ready (rs:=[1,7]) (by kernel_rfl) (by simp) ?_
   refine IW (o:=_) rfl (fun K hK=>?_) ?_
   ·go_simp
    go_at_call 39
    refine(pz s hs _ _ F (repX.out _ hX) (hFX.out _ hX)).mono ?_
    rintro e w4 ⟨v4,rfl,⟨Vb,Vf,ys,sa⟩,b4⟩;have hX4:w2.heap.size≤W0.heap.size:=hX.size;have salt:=sa.lt;have hX:=hX.trans (b4.mono hX.size);have hXp:=hX
    go_wp2_with fail
    refine hK.out _ _ ?_ (fun hHeld=>?_)
    ·exact hcells.out _ hX
    clear hK K
    (try simp only [IV,IM,IP,IQ])
    refine wpAnyH_ready (rs:=[3,7]) (by kernel_rfl) (by simp) ?_
    refine IW (o:=_) rfl (fun K hK=>?_) ?_
    ·go_simp
     go_at_call 68
     refine(my s hs hok x hst _ W0.heap.size _ _ _ _ sa (by have:=b4.size;omega)).mono ?_
     rintro e w5 ⟨v5,Vb5,Vf5,ys5,rfl,sm,hsub,hk⟩;generalize hT:(if iC s x=true then gF s x else([],[],0,0))=T at sm;have hTH:Hid _:=hT;clear hT;obtain rfl:=sm.val;obtain⟨mA,mn,mc,rfl⟩:=aY sm.box;obtain⟨mfA,mfn,mfc,rfl⟩:=au sm.fms.own;have hmlt:=sm.lt;have hX:=hX.trans (hk.below (fun b hb=>by have:=salt b hb;omega) hX.size);have hXp:=hX
     go_wp2_with fail
     refine hK.out _ _ ?_ (fun hHeld=>?_)
     ·exact hcells.out _ hX
     clear hK K
     (try simp only [IV,IM,IP,IQ])
     refine wpAnyH_take (i:=4) (oi:=_) (v:=?vd3) rfl (by kernel_rfl) (by kernel_rfl) (by kernel_rfl) (fun _ _ _ h=>h) (IY ⟨by rfl,?yd3⟩) hHeld ?rd3
     case yd3=>(intro w0 hSw;obtain⟨hSw0,hSw1⟩:=hSw;go_simp;try with_reducible rfl)
     (try simp only [IV,IM,IP,IQ])
     refine wpAnyH_take (i:=5) (oi:=_) (v:=?vd4) rfl (by kernel_rfl) (by kernel_rfl) (by kernel_rfl) (fun _ _ _ h=>h) (IY ⟨by rfl,?yd4⟩) hHeld ?rd4
     case yd4=>(intro w0 hSw;obtain⟨hSw0,hSw1⟩:=hSw;go_simp;try with_reducible rfl)
     (try simp only [IV,IM,IP,IQ])
     refine wpAnyH_take (i:=6) (oi:=_) (v:=?vd5) rfl (by kernel_rfl) (by kernel_rfl) (by kernel_rfl) (fun _ _ _ h=>h) (IY ⟨by rfl,?yd5⟩) hHeld ?rd5
     case yd5=>(intro w0 hSw;obtain⟨hSw0,hSw1⟩:=hSw;go_simp;try with_reducible rfl)
     (try simp only [IV,IM,IP,IQ])
     refine wpAnyH_ready (rs:=[7]) (by kernel_rfl) (by simp) ?_
     refine IW (o:=_) rfl (fun K hK=>?_) ?_
     ·go_simp
      have hX:=hX.alloc hX.size (.cells #[.slice none 0 0,.slice none 0 0,.int .i64 0,.int .i64 0] 33);have hq:(w5.alloc (.cells #[.slice none 0 0,.slice none 0 0,.int .i64 0,.int .i64 0] 33)).heap[w5.heap.size]?=some (.cells #[.slice none 0 0,.slice none 0 0,.int .i64 0,.int .i64 0] 33 (0,0)):=ae _ rfl;have hqge:w2.heap.size≤w5.heap.size:=by have:=hX0.size;have:=hXp.size;omega
      have hqb:∀b,ShS (.slice mA mn mc) (.slice mfA mfn mfc) ys5 b→w5.heap.size≠b:=fun b hb=>by have:=hmlt b hb;omega
      refine hK.out _ _ ?_ (fun hHeld=>?_)
      ·exact hcells.out _ hX
      clear hK K
      (try simp only [IV,IM,IP,IQ])
      refine wpAnyH_ready (rs:=[8]) (by kernel_rfl) (by simp) ?_
      refine IW (o:=_) rfl (fun K hK=>?_) ?_
      ·obtain⟨g0,g1,g2,g3⟩:=aa hq
       obtain⟨j0,j1,j2,j3⟩:=aH hq
       go_simp
       have hX:=hXp.alloc hXp.size (.cells #[.slice mA mn mc,.slice mfA mfn mfc,.int .i64 T.2.2.1,.int .i64 T.2.2.2] 33);replace hq:(w5.alloc (.cells #[.slice mA mn mc,.slice mfA mfn mfc,.int .i64 T.2.2.1,.int .i64 T.2.2.2] 33)).heap[w5.heap.size]?=some (.cells #[.slice mA mn mc,.slice mfA mfn mfc,.int .i64 T.2.2.1,.int .i64 T.2.2.2] 33 (0,0)):=ae _ rfl;replace sm:=sm.below (aU w5 (.cells #[.slice mA mn mc,.slice mfA mfn mfc,.int .i64 T.2.2.1,.int .i64 T.2.2.2] 33));clear g0 g1 g2 g3 j0 j1 j2 j3;refine hK.out _ _ ?_ (fun hHeld=>?_)
       ·exact hcells.out _ hX
       clear hK K
       (try simp only [IV,IM,IP,IQ])
       refine bv (by kernel_rfl) ?_
       go_simp
       have hr9:=(hX.block _ hrl).trans hr2;have hql:=bh hq;have B9:Below w.heap.size w _:=B2.trans (hX.mono (by omega))
       go_wp2
       go_meet
       case rel =>
        refine⟨_,rfl,rfl,⟨_,_,_,_,_,_,_,(by rw [hTH.out];exact hq),(by rw [hTH.out];exact⟨rfl,sm.box,fun b hb=>by have:=sm.bge b hb;have:=hX0.size;omega,sm.fms.base (by have:=hX0.size;omega),sm.dis⟩),fun h=>hqb _ h rfl⟩,hr9,B9,by omega,hql⟩
      exact IX
     exact IX
    refine IW (o:=_) rfl (fun K hK=>?_) ?_
    ·go_simp
     have hX:=hX.alloc hX.size (.cells #[.slice none 0 0,.slice none 0 0,.int .i64 0,.int .i64 0] 33);have hq:(w4.alloc (.cells #[.slice none 0 0,.slice none 0 0,.int .i64 0,.int .i64 0] 33)).heap[w4.heap.size]?=some (.cells #[.slice none 0 0,.slice none 0 0,.int .i64 0,.int .i64 0] 33 (0,0)):=ae _ rfl;have hqge:w2.heap.size≤w4.heap.size:=by have:=hX0.size;have:=hXp.size;omega
     replace sa:=sa.below (aU w4 (.cells #[.slice none 0 0,.slice none 0 0,.int .i64 0,.int .i64 0] 33));refine hK.out _ _ ?_ (fun hHeld=>?_)
     ·exact hcells.out _ hX
     clear hK K
     (try simp only [IV,IM,IP,IQ])
     refine wpAnyH_ready (rs:=[3]) (by kernel_rfl) (by simp) ?_
     refine IW (o:=_) rfl (fun K hK=>?_) ?_
     ·go_simp
      go_at_call 68
      refine(my s hs hok x hst _ W0.heap.size _ _ _ _ sa (by have:=b4.size;simp;omega)).mono ?_
      rintro e w5 ⟨v5,Vb5,Vf5,ys5,rfl,sm,hsub,hk⟩;generalize hT:(if iC s x=true then gF s x else([],[],0,0))=T at sm;have hTH:Hid _:=hT;clear hT;obtain rfl:=sm.val;obtain⟨mA,mn,mc,rfl⟩:=aY sm.box;obtain⟨mfA,mfn,mfc,rfl⟩:=au sm.fms.own;have hmlt:=sm.lt;have hX:=hX.trans (hk.below (fun b hb=>by have:=salt b hb;omega) hX.size);have hXp:=hX;replace hq:=KeptX.some hk hq (fun h=>by have:=salt _ h;omega);have hqb:∀b,ShS (.slice mA mn mc) (.slice mfA mfn mfc) ys5 b→w4.heap.size≠b:=fun b hb=>by
       rcases hsub b hb with h | h
       ·have:=salt b h
        omega
       ·simp at h;omega
      go_wp2_with fail
      refine hK.out _ _ ?_ (fun hHeld=>?_)
      ·exact hcells.out _ hX
      clear hK K
      (try simp only [IV,IM,IP,IQ])
      refine wpAnyH_take (i:=4) (oi:=_) (v:=?vd6) rfl (by kernel_rfl) (by kernel_rfl) (by kernel_rfl) (fun _ _ _ h=>h) (IY ⟨by rfl,?yd6⟩) hHeld ?rd6
      case yd6=>(intro w0 hSw;obtain⟨hSw0,hSw1⟩:=hSw;go_simp;try with_reducible rfl)
      (try simp only [IV,IM,IP,IQ])
      refine wpAnyH_take (i:=5) (oi:=_) (v:=?vd7) rfl (by kernel_rfl) (by kernel_rfl) (by kernel_rfl) (fun _ _ _ h=>h) (IY ⟨by rfl,?yd7⟩) hHeld ?rd7
      case yd7=>(intro w0 hSw;obtain⟨hSw0,hSw1⟩:=hSw;go_simp;try with_reducible rfl)
      (try simp only [IV,IM,IP,IQ])
      refine wpAnyH_take (i:=6) (oi:=_) (v:=?vd8) rfl (by kernel_rfl) (by kernel_rfl) (by kernel_rfl) (fun _ _ _ h=>h) (IY ⟨by rfl,?yd8⟩) hHeld ?rd8
      case yd8=>(intro w0 hSw;obtain⟨hSw0,hSw1⟩:=hSw;go_simp;try with_reducible rfl)
      (try simp only [IV,IM,IP,IQ])
      refine wpAnyH_ready (rs:=[8]) (by kernel_rfl) (by simp) ?_
      refine IW (o:=_) rfl (fun K hK=>?_) ?_
      ·obtain⟨g0,g1,g2,g3⟩:=aa hq
       obtain⟨j0,j1,j2,j3⟩:=aH hq
       go_simp
       have hX:=bj (.slice mA mn mc) (.slice mfA mfn mfc) (.int .i64 T.2.2.1) (.int .i64 T.2.2.2) hX hqge;have hq:=aE (.slice mA mn mc) (.slice mfA mfn mfc) (.int .i64 T.2.2.1) (.int .i64 T.2.2.2) hq;replace sm:=sm.set4 (.slice mA mn mc) (.slice mfA mfn mfc) (.int .i64 T.2.2.1) (.int .i64 T.2.2.2) hqb;clear g0 g1 g2 g3 j0 j1 j2 j3;refine hK.out _ _ ?_ (fun hHeld=>?_)
       ·exact hcells.out _ hX
       clear hK K
       (try simp only [IV,IM,IP,IQ])
       refine bv (by kernel_rfl) ?_
       go_simp
       have hr9:=(hX.block _ hrl).trans hr2;have hql:=bh hq;have B9:Below w.heap.size w _:=B2.trans (hX.mono (by omega))
       go_wp2
       go_meet
       case rel =>
        refine⟨_,rfl,rfl,⟨_,_,_,_,_,_,_,(by rw [hTH.out];exact hq),(by rw [hTH.out];exact⟨rfl,sm.box,fun b hb=>by have:=sm.bge b hb;have:=hX0.size;omega,sm.fms.base (by have:=hX0.size;omega),sm.dis⟩),fun h=>hqb _ h rfl⟩,hr9,B9,by omega,hql⟩
      exact IX
     exact IX
    exact IX
   refine IW (o:=_) rfl (fun K hK=>?_) ?_
   ·go_simp
    have hX:=hX.alloc hX.size (.cells #[.slice none 0 0,.slice none 0 0,.int .i64 0,.int .i64 0] 33);have hq:(W0.alloc (.cells #[.slice none 0 0,.slice none 0 0,.int .i64 0,.int .i64 0] 33)).heap[W0.heap.size]?=some (.cells #[.slice none 0 0,.slice none 0 0,.int .i64 0,.int .i64 0] 33 (0,0)):=ae _ rfl;have hqge:w2.heap.size≤W0.heap.size:=by have:=hX0.size;omega
    refine hK.out _ _ ?_ (fun hHeld=>?_)
    ·exact hcells.out _ hX
    clear hK K
    (try simp only [IV,IM,IP,IQ])
    refine wpAnyH_ready (rs:=[1]) (by kernel_rfl) (by simp) ?_
    refine IW (o:=_) rfl (fun K hK=>?_) ?_
    ·go_simp
     go_at_call 39
     refine(pz s hs _ _ F (repX.out _ hX) (hFX.out _ hX)).mono ?_
     rintro e w4 ⟨v4,rfl,⟨Vb,Vf,ys,sa⟩,b4⟩;have hX4:w2.heap.size≤(W0.alloc (.cells #[.slice none 0 0,.slice none 0 0,.int .i64 0,.int .i64 0] 33)).heap.size:=hX.size;have salt:=sa.lt;have hX:=hX.trans (b4.mono hX.size);have hXp:=hX;replace hq:=Below.some b4 hq;have hq4:W0.heap.size<(W0.alloc (.cells #[.slice none 0 0,.slice none 0 0,.int .i64 0,.int .i64 0] 33)).heap.size:=by simp
     go_wp2_with fail
     refine hK.out _ _ ?_ (fun hHeld=>?_)
     ·exact hcells.out _ hX
     clear hK K
     (try simp only [IV,IM,IP,IQ])
     refine wpAnyH_ready (rs:=[3]) (by kernel_rfl) (by simp) ?_
     refine IW (o:=_) rfl (fun K hK=>?_) ?_
     ·go_simp
      go_at_call 68
      refine(my s hs hok x hst _ (W0.alloc (.cells #[.slice none 0 0,.slice none 0 0,.int .i64 0,.int .i64 0] 33)).heap.size _ _ _ _ sa (by have:=b4.size;omega)).mono ?_
      rintro e w5 ⟨v5,Vb5,Vf5,ys5,rfl,sm,hsub,hk⟩;generalize hT:(if iC s x=true then gF s x else([],[],0,0))=T at sm;have hTH:Hid _:=hT;clear hT;obtain rfl:=sm.val;obtain⟨mA,mn,mc,rfl⟩:=aY sm.box;obtain⟨mfA,mfn,mfc,rfl⟩:=au sm.fms.own;have hmlt:=sm.lt;have hX:=hX.trans (hk.below (fun b hb=>by have:=salt b hb;omega) hX.size);have hXp:=hX;replace hq:=KeptX.some hk hq (fun h=>by have:=salt _ h;omega);have hqb:∀b,ShS (.slice mA mn mc) (.slice mfA mfn mfc) ys5 b→W0.heap.size≠b:=fun b hb=>by
       rcases hsub b hb with h | h
       ·have:=salt b h
        omega
       ·have:=b4.size;omega
      go_wp2_with fail
      refine hK.out _ _ ?_ (fun hHeld=>?_)
      ·exact hcells.out _ hX
      clear hK K
      (try simp only [IV,IM,IP,IQ])
      refine wpAnyH_take (i:=4) (oi:=_) (v:=?vd9) rfl (by kernel_rfl) (by kernel_rfl) (by kernel_rfl) (fun _ _ _ h=>h) (IY ⟨by rfl,?yd9⟩) hHeld ?rd9
      case yd9=>(intro w0 hSw;obtain⟨hSw0,hSw1⟩:=hSw;go_simp;try with_reducible rfl)
      (try simp only [IV,IM,IP,IQ])
      refine wpAnyH_take (i:=5) (oi:=_) (v:=?vd10) rfl (by kernel_rfl) (by kernel_rfl) (by kernel_rfl) (fun _ _ _ h=>h) (IY ⟨by rfl,?yd10⟩) hHeld ?rd10
      case yd10=>(intro w0 hSw;obtain⟨hSw0,hSw1⟩:=hSw;go_simp;try with_reducible rfl)
      (try simp only [IV,IM,IP,IQ])
      refine wpAnyH_take (i:=6) (oi:=_) (v:=?vd11) rfl (by kernel_rfl) (by kernel_rfl) (by kernel_rfl) (fun _ _ _ h=>h) (IY ⟨by rfl,?yd11⟩) hHeld ?rd11
      case yd11=>(intro w0 hSw;obtain⟨hSw0,hSw1⟩:=hSw;go_simp;try with_reducible rfl)
      (try simp only [IV,IM,IP,IQ])
      refine wpAnyH_ready (rs:=[8]) (by kernel_rfl) (by simp) ?_
      refine IW (o:=_) rfl (fun K hK=>?_) ?_
      ·obtain⟨g0,g1,g2,g3⟩:=aa hq
       obtain⟨j0,j1,j2,j3⟩:=aH hq
       go_simp
       have hX:=bj (.slice mA mn mc) (.slice mfA mfn mfc) (.int .i64 T.2.2.1) (.int .i64 T.2.2.2) hX hqge;have hq:=aE (.slice mA mn mc) (.slice mfA mfn mfc) (.int .i64 T.2.2.1) (.int .i64 T.2.2.2) hq;replace sm:=sm.set4 (.slice mA mn mc) (.slice mfA mfn mfc) (.int .i64 T.2.2.1) (.int .i64 T.2.2.2) hqb;clear g0 g1 g2 g3 j0 j1 j2 j3;refine hK.out _ _ ?_ (fun hHeld=>?_)
       ·exact hcells.out _ hX
       clear hK K
       (try simp only [IV,IM,IP,IQ])
       refine bv (by kernel_rfl) ?_
       go_simp
       have hr9:=(hX.block _ hrl).trans hr2;have hql:=bh hq;have B9:Below w.heap.size w _:=B2.trans (hX.mono (by omega))
       go_wp2
       go_meet
       case rel =>
        refine⟨_,rfl,rfl,⟨_,_,_,_,_,_,_,(by rw [hTH.out];exact hq),(by rw [hTH.out];exact⟨rfl,sm.box,fun b hb=>by have:=sm.bge b hb;have:=hX0.size;simp at *;omega,sm.fms.base (by have:=hX0.size;simp at *;omega),sm.dis⟩),fun h=>hqb _ h rfl⟩,hr9,B9,by omega,hql⟩
      exact IX
     exact IX
    exact IX
   exact IX
  case rest =>
   obtain⟨q,rfl,rfl,hbox,hr9,B9,hqge,hql⟩:=hcut;obtain⟨i0,i1,i2,i3⟩:=aa hr9;obtain⟨j0,j1,j2,j3⟩:=aH hr9;cases hro:iC s x
   ·have hno:gx s x=false:=by simp [gx,hro]
    have hroH:Hid _:=hno;clear hno
    go_wp2
    obtain⟨d0,d1,d2,d3⟩:=aa (aE (.slice none 0 0) (.slice none 0 0) (.int .i64 0) (.int .i64 0) hr9);refine bodyPost_ret (by simp [results,Try.results45,go_sem,d0,d1,d2,d3];try rfl) rfl ?_
    rw [hroH.out,xr hroH.out];exact⟨_,rfl,dB _ _,bj _ _ _ _ B9 (by omega)⟩
   ·rw [hro] at hbox
    simp only [if_true] at hbox;obtain⟨A1,m1,c1,A2,m2,c2,zs,hpc,hSc,hnp⟩:=hbox;have hrk:=BF s x hs hok hst hro;have hc:=sd (gF s x) hrk hSc.rep (fun b hb=>(hSc.lt b hb).2);obtain⟨s0,s1,s2,s3⟩:=aa hpc;cases hsk:aT (gF s x)
    ·have hno:gx s x=false:=by simp [gx,hsk]
     rw [hsk] at hc
     go_wp2_with (go_at_call 31;refine hc.mono ?_;rintro e w7 ⟨rfl,b7⟩;have H47:=Below.some b7 hr9;have B7:=aR B9 b7 B9.size;have i0:=(aa H47).1;have i1:=(aa H47).2.1;have i2:=(aa H47).2.2.1;have i3:=(aa H47).2.2.2;have j0:=(aH H47).1;have j1:=(aH H47).2.1;have j2:=(aH H47).2.2.1;have j3:=(aH H47).2.2.2)
     obtain⟨d0,d1,d2,d3⟩:=aa (aE (.slice none 0 0) (.slice none 0 0) (.int .i64 0) (.int .i64 0) H47);refine bodyPost_ret (by simp [results,Try.results45,go_sem,d0,d1,d2,d3];try rfl) rfl ?_
     (try rw [hno])
     (try rw [xr hno])
     exact⟨_,rfl,dB _ _,bj _ _ _ _ B7 (by omega)⟩
    ·have hy:gx s x=true:=by simp [gx,hst,hro,hsk]
     rw [hsk] at hc
     go_wp2_with (go_at_call 31;refine hc.mono ?_;rintro e w7 ⟨rfl,b7⟩;have H47:=Below.some b7 hr9;have hp7:=Below.some b7 hpc;have hS7:=hSc.below b7;have B7:=aR B9 b7 B9.size;have i0:=(aa H47).1;have i1:=(aa H47).2.1;have i2:=(aa H47).2.2.1;have i3:=(aa H47).2.2.2;have j0:=(aH H47).1;have j1:=(aH H47).2.1;have j2:=(aH H47).2.2.1;have j3:=(aH H47).2.2.2;have k0:=(aa hp7).1;have k1:=(aa hp7).2.1;have k2:=(aa hp7).2.2.1;have k3:=(aa hp7).2.2.2)
     obtain⟨d0,d1,d2,d3⟩:=aa (aE (.slice A1 m1 c1) (.slice A2 m2 c2) (.int .i64 (gF s x).2.2.1) (.int .i64 (gF s x).2.2.2) H47);refine bodyPost_ret (by simp [results,Try.results45,go_sem,d0,d1,d2,d3];try rfl) rfl ?_
     (try rw [hy])
     (try rw [BS hy])
     have hS8:=hS7.set4 (g:=w.heap.size+2) (.slice A1 m1 c1) (.slice A2 m2 c2) (.int .i64 (gF s x).2.2.1) (.int .i64 (gF s x).2.2.2) fun b hb=>by have:=(hS7.lt b hb).1;omega
     exact⟨_,rfl,⟨_,_,_,hS8.val,hS8.box,fun b hb=>by have:=hS8.bge b hb;omega,hS8.fms.base (by omega),hS8.dis⟩,bj _ _ _ _ B7 (by omega)⟩
abbrev gI (l:List Stp):D:=.arr 4 (l.map stp)
def nq (a:Sp × Nat) (x:Stp):Sp × Nat:=if gx a.1 x=true then(stS a.1 x,a.2+1) else a
def run (s:Sp) (l:List Stp):Sp × Nat:=l.foldl nq (s,0)
def lP (s:Sp) (l:List Stp):Bool:=aT s&&decide (l.length≤40)
def lO (s:Sp) (l:List Stp):Sp:=if lP s l=true then(run s l).1 else([],[],0,0)
def pq (s:Sp) (l:List Stp):Int:=if lP s l=true then((run s l).2:Int) else 0
theorem Il {s:Sp} {x:Stp} (hs:cr s) (hok:aT s=true) (h:gx s x=true):cr (stS s x)∧aT (stS s x)=true:=by
 rw [BS h];unfold gx at h;simp only [Bool.and_eq_true] at h;exact⟨BF s x hs hok h.1.1 h.1.2,h.2⟩
theorem Hb {a:Sp × Nat} {x:Stp} (h:cr a.1∧aT a.1=true):cr (nq a x).1∧aT (nq a x).1=true:=by
 unfold nq;split
 ·rename_i hst
  exact Il h.1 h.2 hst
 ·exact h
theorem CC:∀(l:List Stp) (a:Sp × Nat),cr a.1∧aT a.1=true→(cr (l.foldl nq a).1∧aT (l.foldl nq a).1=true)∧(l.foldl nq a).2≤a.2+l.length
 | [],a,h=>⟨h,by simp⟩
 | x::l,a,h=>by
  obtain⟨h1,h2⟩:=CC l (nq a x) (Hb h);refine⟨h1,?_⟩
  have:(nq a x).2≤a.2+1:=by
   unfold nq;split<;>simp
  simp only [List.foldl_cons,List.length_cons];omega
theorem Bw {s:Sp} (hs:cr s) (hok:aT s=true) (l:List Stp):cr (run s l).1∧aT (run s l).1=true∧(run s l).2≤l.length:=by
 obtain⟨h1,h2⟩:=CC l (s,0) ⟨hs,hok⟩;refine⟨h1.1,h1.2,?_⟩
 show(l.foldl nq (s,0)).2≤l.length
 simpa using h2
theorem zY (s:Sp) {l:List Stp} {i:Nat} (h:i<l.length):run s (l.take (i+1))=nq (run s (l.take i)) l[i]:=by
 unfold run;rw [List.take_succ_eq_append_getElem h,List.foldl_append];rfl
theorem Bh {w:World} {F:Nat→Prop} {z:Nat} {l:List D} {y:Value} (h:aM w F (.arr z l) y):∃A c,y = .slice A l.length c:=by
 obtain⟨A,c,us,e,_⟩:=h;simp only [Jz,and_true] at e;exact⟨A,c,e⟩
theorem zU {l:List Stp}:∀d∈l.map stp,d.single=true∨∃m,d = .agg m:=fun d hd=>by
 obtain⟨x,_,rfl⟩:=List.mem_map.1 hd;exact .inr ⟨_,rfl⟩
theorem xy {w:World} {F:Nat→Prop} {l:List Stp} {us:List Value} (h:bs w F (l.map stp) us) {i:Nat} (hi:i<l.length) :
  us[i*4]?=some (.int .i64 l[i].1)∧us[i*4+1]?=some (.int .i64 l[i].2.1)∧us[i*4+2]?=some (.string l[i].2.2.1)∧us[i*4+3]?=some (.int .i64 l[i].2.2.2):=by
 obtain⟨p,m,q,rfl,hp,hm,hc,_⟩:=lU (z:=4) _ _ h (fun d hd=>by obtain⟨x,_,rfl⟩:=List.mem_map.1 hd;rfl) i (stp l[i]) (by simp [hi]);simp only [RepC,aC,aQ] at hc;obtain⟨⟨v1,v2,rfl,⟨rfl,_⟩,v3,v4,rfl,⟨rfl,_⟩,v5,v6,rfl,⟨rfl,_⟩,v7,v8,rfl,⟨rfl,_⟩,rfl⟩,_⟩:=hc;refine⟨?_,?_,?_,?_⟩<;>rw [List.append_assoc,List.getElem?_append_right (by omega),hp]<;>simp [show ∀k,i*4+k - i*4=k from fun k=>by omega]
set_option maxHeartbeats 8000000 in
set_option maxRecDepth 1000000 in
theorem ju (s:Sp) (hs:cr s) (l:List Stp) (hll:l.length≤9223372036854775807) (hlw:∀x∈l,x.2.2.1.size≤9223372036854775807) (v0 vl:Value) (w:World) (F F':Nat→Prop) (hr:aM w F (sp s) v0) (hrl:aM w F' (gI l) vl) (hF:∀b,F b→b<w.heap.size) (hF':∀b,F' b→b<w.heap.size) :
  Calls Try.prog 26 #[v0,vl] w fun e w'=>∃v,e = .returned (.tuple #[v,.int .i64 (pq s l),.bool (lP s l)])∧sg w' w.heap.size v (lO s l)∧Below w.heap.size w w':=by
 obtain⟨A,n,c,A',n',c',rfl,hb,hf⟩:=dS hr;clear hb hf;obtain⟨lA,lc,rfl⟩:=Bh hrl;obtain⟨us,-,-,hus,-,-,huA⟩:=kO hrl zU;rw [Jt] at huA ⊢;clear hrl
 go_enter Try.func26,Try.ntmps26
 have hb2:∀a b,Below w.heap.size w ((w.alloc a).alloc b):=fun a b=>((Jq _ w).alloc (Ji _) _).alloc (by simp) _
 have rep:∀{W:World},Below w.heap.size w W→aM W F (sp s) (.agg #[.slice A n c,.slice A' n' c',.int .i64 s.2.2.1,.int .i64 s.2.2.2]):=fun {W} h=>aG (fun _ h=>h) (fun b hb=>h.block b (hF b hb)) hr
 have hFW:∀{W:World},Below w.heap.size w W→∀b,F b→b<W.heap.size:=fun {W} h b hb=>Jj (hF b hb) h.size
 have hc1:=fun a b=>lV s hs (rep (hb2 a b)) (hFW (hb2 a b))
 cases hok:aT s
 ·have hno:lP s l=false:=by simp [lP,hok]
  have hnoH:Hid _:=hno;clear hno;rw [hok] at hc1
  go_upto_region 2 with (go_at_call 34;refine(hc1 _ _).mono ?_;rintro e w2 ⟨rfl,b2⟩;have B2:Below w.heap.size w w2:=aR (hb2 _ _) b2 (by simp<;>omega);have H2:w2.heap[w.heap.size+1]?=some (.cells #[.slice none 0 0,.slice none 0 0,.int .i64 0,.int .i64 0] 33 (0,0)):=Below.some b2 (ae _ (by simp)))
  obtain⟨i0,i1,i2,i3⟩:=aa H2;obtain⟨j0,j1,j2,j3⟩:=aH H2
  go_wp2
  obtain⟨d0,d1,d2,d3⟩:=aa (aE (.slice none 0 0) (.slice none 0 0) (.int .i64 0) (.int .i64 0) H2);refine bodyPost_ret (by simp [results,Try.results26,go_sem,d0,d1,d2,d3];try rfl) rfl ?_
  rw [show pq s l=0 by simp [pq,hnoH.out],show lO s l=([],[],0,0) by simp [lO,hnoH.out],hnoH.out];exact⟨_,rfl,dB _ _,bj _ _ _ _ B2 (by omega)⟩
 rw [hok] at hc1;by_cases h40:l.length≤40
 rotate_left
 ·have hno:lP s l=false:=by simp [lP,h40]
  have hnoH:Hid _:=hno;clear hno;have hgt:(40:Int)<(l.length:Int):=by omega
  go_upto_region 2 with (go_at_call 34;refine(hc1 _ _).mono ?_;rintro e w2 ⟨rfl,b2⟩;have B2:Below w.heap.size w w2:=aR (hb2 _ _) b2 (by simp<;>omega);have H2:w2.heap[w.heap.size+1]?=some (.cells #[.slice none 0 0,.slice none 0 0,.int .i64 0,.int .i64 0] 33 (0,0)):=Below.some b2 (ae _ (by simp)))
  obtain⟨i0,i1,i2,i3⟩:=aa H2;obtain⟨j0,j1,j2,j3⟩:=aH H2
  go_wp2
  obtain⟨d0,d1,d2,d3⟩:=aa (aE (.slice none 0 0) (.slice none 0 0) (.int .i64 0) (.int .i64 0) H2);refine bodyPost_ret (by simp [results,Try.results26,go_sem,d0,d1,d2,d3];try rfl) rfl ?_
  rw [show pq s l=0 by simp [pq,hnoH.out],show lO s l=([],[],0,0) by simp [lO,hnoH.out],hnoH.out];exact⟨_,rfl,dB _ _,bj _ _ _ _ B2 (by omega)⟩
 have hyB:lP s l=true:=by simp [lP,hok,h40]
 have hyH:Hid _:=hyB;clear hyB;have hngt:¬(40:Int)<(l.length:Int):=by omega
 go_upto_region 3 with (go_at_call 34;refine(hc1 _ _).mono ?_;rintro e w2 ⟨rfl,b2⟩;have B2:Below w.heap.size w w2:=aR (hb2 _ _) b2 (by simp<;>omega);have H2:w2.heap[w.heap.size+1]?=some (.cells #[.slice none 0 0,.slice none 0 0,.int .i64 0,.int .i64 0] 33 (0,0)):=Below.some b2 (ae _ (by simp));have P2:w2.heap[w.heap.size]?=some (.cells #[.slice A n c,.slice A' n' c',.int .i64 s.2.2.1,.int .i64 s.2.2.2] 33 (0,0)):=Below.some b2 (af _ (ae _ rfl));clear b2)
 have hc2:=mM s hs _ w2 F (rep B2) (hFW B2);have hl2:=bh H2;obtain⟨e0,e1,e2,e3⟩:=aa P2;clear hc1 hb2 rep hFW
 go_upto_region 5 with (go_at_call 41;refine hc2.mono ?_;rintro e w3 ⟨v3,rfl,⟨Vb,Vf,ys,sa⟩,b3⟩;obtain rfl:=sa.val;obtain⟨bA,bn,bc,rfl⟩:=aY sa.box;obtain⟨fA,fc,rfl⟩:=aX sa.fms.own)
 have H3:=Below.some b3 H2;have B3:=aR B2 b3 B2.size;have hs3:=b3.size;have hlt3:=sa.lt;have sa':=sa.below (aU w3 (.cells #[.slice bA bn bc,.slice fA s.2.1.length fc,.int .i64 s.2.2.1,.int .i64 s.2.2.2] 33));have hbox:jg (w3.alloc (.cells #[.slice bA bn bc,.slice fA s.2.1.length fc,.int .i64 s.2.2.1,.int .i64 s.2.2.2] 33)) w3.heap.size (w.heap.size+2) s :=
  ⟨_,_,_,_,_,_,_,ae _ rfl,⟨rfl,sa'.box,fun b hb=>by have:=(hlt3 b (.inl hb)).1;omega,sa'.fms.base (by omega),sa'.dis⟩,fun h=>by have:=(hlt3 _ h).2;omega⟩
 have H4:=af (.cells #[.slice bA bn bc,.slice fA s.2.1.length fc,.int .i64 s.2.2.1,.int .i64 s.2.2.2] 33) H3;have B4:Below w.heap.size w (w3.alloc (.cells #[.slice bA bn bc,.slice fA s.2.1.length fc,.int .i64 s.2.2.1,.int .i64 s.2.2.2] 33)):=B3.alloc B3.size _;have hpl:w3.heap.size<(w3.alloc (.cells #[.slice bA bn bc,.slice fA s.2.1.length fc,.int .i64 s.2.2.1,.int .i64 s.2.2.2] 33)).heap.size:=by simp
 have hwp:w.heap.size+2≤w3.heap.size:=by omega
 clear hc2 e0 e1 e2 e3 b3 sa sa' H3 B3 hlt3 hs3 H2 P2 B2 hl2;generalize w3.alloc (.cells #[.slice bA bn bc,.slice fA s.2.1.length fc,.int .i64 s.2.2.1,.int .i64 s.2.2.2] 33)=w4 at *;generalize w3.heap.size=p at *
 go_wp2
 go_loopw [8,26] (fun v8 v26 wr=>∃i:Nat,v26 = .int .i64 (i:Int)∧i≤l.length∧v8 = .int .i64 ((run s (l.take i)).2:Int)∧jg wr p (w.heap.size+2) (run s (l.take i)).1∧wr.heap[w.heap.size+1]?=some (.cells #[.slice none 0 0,.slice none 0 0,.int .i64 0,.int .i64 0] 33 (0,0))∧Below w.heap.size w wr∧p<wr.heap.size) (fun _ v26 _=>l.length - (intOf v26).toNat)
 case atStart=>exact⟨0,rfl,Jy _,rfl,hbox,H4,B4,hpl⟩
 case round =>
  obtain⟨i,rfl,hil,rfl,hboxr,Hr,Br,hpr⟩:=hrel;obtain⟨hto,htk,htn⟩:=Bw hs hok (l.take i);rw [Jg] at htn;obtain⟨t,htE⟩:∃t,t=run s (l.take i):=⟨_,rfl⟩
  rw [←htE] at hboxr hto htk htn ⊢;obtain⟨A1,m1,c1,A2,m2,c2,zs,hpc,hSc,hnp⟩:=hboxr;by_cases hp:i<l.length
  ·have hpi:(i:Int)<(l.length:Int):=by omega
   have hsucc:=zY s hp;rw [←htE] at hsucc;have htEH:Hid _:=htE;have hsuccH:Hid _:=hsucc;clear htE hsucc;obtain⟨b,o,rfl,hFb,hcell⟩:=huA (by omega);obtain⟨u0,u1,u2,u3⟩:=xy hus hp;have hxw:=hlw l[i] (Js hp);generalize l[i]=x at *;have hcb:∀{k:Nat} {u:Value},us[k]?=some u→wr.cell? ⟨b,o+k,none⟩=some u:=fun {k u} hu=>(Jp (w:=w) (Br.block b (hF' b hFb))).trans (hcell k u hu)
   have k0:=hcb u0;have k1:=hcb u1;have k2:=hcb u2;have k3:=hcb u3;simp only [←Nat.add_assoc] at k1 k2 k3;have hSa:=hSc.below (aU wr (.cells #[.int .i64 x.1,.int .i64 x.2.1,.string x.2.2.1,.int .i64 x.2.2.2] 46));have hpa:=af (.cells #[.int .i64 x.1,.int .i64 x.2.1,.string x.2.2.1,.int .i64 x.2.2.2] 46) hpc;have hxa:(wr.alloc (.cells #[.int .i64 x.1,.int .i64 x.2.1,.string x.2.2.1,.int .i64 x.2.2.2] 46)).heap[wr.heap.size]?=some (.cells #[.int .i64 x.1,.int .i64 x.2.1,.string x.2.2.1,.int .i64 x.2.2.2] 46 (0,0)):=ae _ rfl;have Ha:=af (.cells #[.int .i64 x.1,.int .i64 x.2.1,.string x.2.2.1,.int .i64 x.2.2.2] 46) Hr;have Ba:Below w.heap.size w (wr.alloc (.cells #[.int .i64 x.1,.int .i64 x.2.1,.string x.2.2.1,.int .i64 x.2.2.2] 46)):=Br.alloc Br.size _;have hpra:p<(wr.alloc (.cells #[.int .i64 x.1,.int .i64 x.2.1,.string x.2.2.1,.int .i64 x.2.2.2] 46)).heap.size:=by simp;omega
   have hc:=vS t.1 hto x hxw _ (wr.alloc (.cells #[.int .i64 x.1,.int .i64 x.2.1,.string x.2.2.1,.int .i64 x.2.2.2] 46)) _ hSa.rep (fun b hb=>(hSa.lt b hb).2);rw [show mL t.1 x=gx t.1 x by simp [mL,htk],show vt t.1 x=stS t.1 x by simp [vt,htk]] at hc;have hw:Jd.wrap ((i:Int)+1)=((i+1:Nat):Int):=by rw [ak (by omega) (by omega)];omega
   have hw2:Jd.wrap ((t.2:Int)+1)=((t.2+1:Nat):Int):=by rw [ak (by omega) (by omega)];omega
   go_upto_region 8 with fail
   generalize wr.alloc (.cells #[.int .i64 x.1,.int .i64 x.2.1,.string x.2.2.1,.int .i64 x.2.2.2] 46)=wa at *;obtain⟨e0,e1,e2,e3⟩:=aa hpa;obtain⟨f0,f1,f2,f3⟩:=aa hxa;clear k0 k1 k2 k3;cases hst:gx t.1 x
   ·have hns:run s (l.take (i+1))=t:=by rw [hsuccH.out,nq,hst];rfl
    have hnsH:Hid _:=hns;clear hns;rw [hst] at hc
    go_wp2_with (go_at_call 22;refine hc.mono ?_;rintro e w5 ⟨v5,rfl,⟨Vb5,Vf5,ys5,sm⟩,b5⟩;obtain rfl:=sm.val;obtain⟨nA,nn,nc,rfl⟩:=aY sm.box;obtain⟨nfA,nfc,rfl⟩:=aX sm.fms.own)
    refine⟨⟨i+1,rfl,hp,by rw [hnsH.out],?_,af _ (Below.some b5 Ha),(aR Ba b5 Ba.size).alloc (by have:=b5.size;have:=Ba.size;omega) _,by have:=b5.size;simp;omega⟩,?_⟩
    ·rw [hnsH.out]
     exact(jg.below ⟨A1,m1,c1,A2,m2,c2,zs,hpa,hSa,hnp⟩ b5).below (aU _ _)
    ·show l.length - (((i+1:Nat):Int)).toNat<l.length - ((i:Int)).toNat
     omega
   ·have hns:run s (l.take (i+1))=(stS t.1 x,t.2+1):=by rw [hsuccH.out,nq,hst];rfl
    have hnsH:Hid _:=hns;clear hns;rw [hst] at hc
    go_upto_region 10 with (go_at_call 22;refine hc.mono ?_;rintro e w5 ⟨v5,rfl,⟨Vb5,Vf5,ys5,sm⟩,b5⟩;obtain rfl:=sm.val;obtain⟨nA,nn,nc,rfl⟩:=aY sm.box;obtain⟨nfA,nfc,rfl⟩:=aX sm.fms.own)
    have hp6:=af (.cells #[.slice nA nn nc,.slice nfA (stS t.1 x).2.1.length nfc,.int .i64 (stS t.1 x).2.2.1,.int .i64 (stS t.1 x).2.2.2] 33) (Below.some b5 hpa);have hq6:(w5.alloc (.cells #[.slice nA nn nc,.slice nfA (stS t.1 x).2.1.length nfc,.int .i64 (stS t.1 x).2.2.1,.int .i64 (stS t.1 x).2.2.2] 33)).heap[w5.heap.size]?=some (.cells #[.slice nA nn nc,.slice nfA (stS t.1 x).2.1.length nfc,.int .i64 (stS t.1 x).2.2.1,.int .i64 (stS t.1 x).2.2.2] 33 (0,0)):=ae _ rfl;have H6:=af (.cells #[.slice nA nn nc,.slice nfA (stS t.1 x).2.1.length nfc,.int .i64 (stS t.1 x).2.2.1,.int .i64 (stS t.1 x).2.2.2] 33) (Below.some b5 Ha);have B6:Below w.heap.size w (w5.alloc (.cells #[.slice nA nn nc,.slice nfA (stS t.1 x).2.1.length nfc,.int .i64 (stS t.1 x).2.2.1,.int .i64 (stS t.1 x).2.2.2] 33)):=(aR Ba b5 Ba.size).alloc (by have:=b5.size;have:=Ba.size;omega) _;have hmlt:=sm.lt;have sm6:=sm.below (aU w5 (.cells #[.slice nA nn nc,.slice nfA (stS t.1 x).2.1.length nfc,.int .i64 (stS t.1 x).2.2.1,.int .i64 (stS t.1 x).2.2.2] 33));have hs6:p<(w5.alloc (.cells #[.slice nA nn nc,.slice nfA (stS t.1 x).2.1.length nfc,.int .i64 (stS t.1 x).2.2.1,.int .i64 (stS t.1 x).2.2.2] 33)).heap.size:=by have:=b5.size;simp;omega
    have hs5:=b5.size;clear hpa hxa e0 e1 e2 e3 f0 f1 f2 f3 hc hSa sm b5 Ha Ba hpc hSc;generalize w5.alloc (.cells #[.slice nA nn nc,.slice nfA (stS t.1 x).2.1.length nfc,.int .i64 (stS t.1 x).2.2.1,.int .i64 (stS t.1 x).2.2.2] 33)=w6 at *;obtain⟨e0,e1,e2,e3⟩:=aa hq6;obtain⟨f0,f1,f2,f3⟩:=aa hp6;obtain⟨j0,j1,j2,j3⟩:=aH hp6
    go_wp2
    refine⟨⟨i+1,rfl,hp,by rw [hnsH.out];simp,?_,(uV _ _ _ _ (by omega)).trans H6,bj _ _ _ _ B6 (by omega),by simp [Jh];omega⟩,?_⟩
    ·rw [hnsH.out]
     have sm7:=sm6.set4 (g:=p) (.slice nA nn nc) (.slice nfA (stS t.1 x).2.1.length nfc) (.int .i64 (stS t.1 x).2.2.1) (.int .i64 (stS t.1 x).2.2.2) fun b hb=>by have:=(hmlt b hb).1;omega
     exact⟨_,_,_,_,_,_,_,aE (.slice nA nn nc) (.slice nfA (stS t.1 x).2.1.length nfc) (.int .i64 (stS t.1 x).2.2.1) (.int .i64 (stS t.1 x).2.2.2) hp6,⟨rfl,sm7.box,fun b hb=>by have:=(hmlt b (.inl hb)).1;omega,sm7.fms.base (by omega),sm7.dis⟩,fun h=>by have:=(hmlt _ h).1;omega⟩
    ·show l.length - (((i+1:Nat):Int)).toNat<l.length - ((i:Int)).toNat
     omega
  ·have hpi:¬(i:Int)<(l.length:Int):=by omega
   have hie:l.take i=l:=Ju (by omega);rw [hie] at htE;have htEH:Hid _:=htE;clear htE hie;obtain⟨e0,e1,e2,e3⟩:=aa hpc;obtain⟨i0,i1,i2,i3⟩:=aa Hr;obtain⟨j0,j1,j2,j3⟩:=aH Hr
   go_wp2
   obtain⟨d0,d1,d2,d3⟩:=aa (aE (.slice A1 m1 c1) (.slice A2 m2 c2) (.int .i64 t.1.2.2.1) (.int .i64 t.1.2.2.2) Hr);refine bodyPost_ret (by simp [results,Try.results26,go_sem,d0,d1,d2,d3];try rfl) rfl ?_
   have hS8:=hSc.set4 (g:=w.heap.size+1) (.slice A1 m1 c1) (.slice A2 m2 c2) (.int .i64 t.1.2.2.1) (.int .i64 t.1.2.2.2) fun b hb=>by have:=(hSc.lt b hb).1;omega
   have eN:pq s l=(t.2:Int):=by rw [pq,if_pos hyH.out,htEH.out]
   have eS:lO s l=t.1:=by rw [lO,if_pos hyH.out,htEH.out]
   rw [eN,eS,hyH.out];exact⟨_,rfl,⟨_,_,_,hS8.val,hS8.box,fun b hb=>by have:=hS8.bge b hb;omega,hS8.fms.base (by omega),hS8.dis⟩,bj _ _ _ _ Br (by omega)⟩
set_option maxHeartbeats 8000000 in
set_option maxRecDepth 1000000 in
theorem qe (s:Sp) (hs:cr s) (l:List Stp) (hll:l.length≤9223372036854775807) (hlw:∀x∈l,x.2.2.1.size≤9223372036854775807) (v0 vl:Value) (w:World) (F F':Nat→Prop) (hr:aM w F (sp s) v0) (hrl:aM w F' (gI l) vl) (hF:∀b,F b→b<w.heap.size) (hF':∀b,F' b→b<w.heap.size) :
  Calls Try.prog 24 #[v0,vl] w fun e w'=>∃v,e = .returned (.tuple #[v,.int .i64 (pq s l),.bool (lP s l)])∧sg w' w.heap.size v (lO s l)∧Below w.heap.size w w':=by
 obtain⟨A,n,c,A',n',c',rfl,hb,hf⟩:=dS hr;clear hb hf;obtain⟨lA,lc,rfl⟩:=Bh hrl;obtain⟨us,-,-,hus,-,-,huA⟩:=kO hrl zU;rw [Jt] at huA ⊢;clear hrl
 go_enter Try.func24,Try.ntmps24
 have hb2:∀a b,Below w.heap.size w ((w.alloc a).alloc b):=fun a b=>((Jq _ w).alloc (Ji _) _).alloc (by simp) _
 have rep:∀{W:World},Below w.heap.size w W→aM W F (sp s) (.agg #[.slice A n c,.slice A' n' c',.int .i64 s.2.2.1,.int .i64 s.2.2.2]):=fun {W} h=>aG (fun _ h=>h) (fun b hb=>h.block b (hF b hb)) hr
 have hFW:∀{W:World},Below w.heap.size w W→∀b,F b→b<W.heap.size:=fun {W} h b hb=>Jj (hF b hb) h.size
 have hc1:=fun a b=>sd s hs (rep (hb2 a b)) (hFW (hb2 a b))
 cases hok:aT s
 ·have hno:lP s l=false:=by simp [lP,hok]
  have hnoH:Hid _:=hno;clear hno;rw [hok] at hc1
  go_upto_region 2 with (go_at_call 31;refine(hc1 _ _).mono ?_;rintro e w2 ⟨rfl,b2⟩;have B2:Below w.heap.size w w2:=aR (hb2 _ _) b2 (by simp<;>omega);have H2:w2.heap[w.heap.size+1]?=some (.cells #[.slice none 0 0,.slice none 0 0,.int .i64 0,.int .i64 0] 33 (0,0)):=Below.some b2 (ae _ (by simp)))
  obtain⟨i0,i1,i2,i3⟩:=aa H2;obtain⟨j0,j1,j2,j3⟩:=aH H2
  go_wp2
  obtain⟨d0,d1,d2,d3⟩:=aa (aE (.slice none 0 0) (.slice none 0 0) (.int .i64 0) (.int .i64 0) H2);refine bodyPost_ret (by simp [results,Try.results24,go_sem,d0,d1,d2,d3];try rfl) rfl ?_
  rw [show pq s l=0 by simp [pq,hnoH.out],show lO s l=([],[],0,0) by simp [lO,hnoH.out],hnoH.out];exact⟨_,rfl,dB _ _,bj _ _ _ _ B2 (by omega)⟩
 rw [hok] at hc1;by_cases h40:l.length≤40
 rotate_left
 ·have hno:lP s l=false:=by simp [lP,h40]
  have hnoH:Hid _:=hno;clear hno;have hgt:(40:Int)<(l.length:Int):=by omega
  go_upto_region 2 with (go_at_call 31;refine(hc1 _ _).mono ?_;rintro e w2 ⟨rfl,b2⟩;have B2:Below w.heap.size w w2:=aR (hb2 _ _) b2 (by simp<;>omega);have H2:w2.heap[w.heap.size+1]?=some (.cells #[.slice none 0 0,.slice none 0 0,.int .i64 0,.int .i64 0] 33 (0,0)):=Below.some b2 (ae _ (by simp)))
  obtain⟨i0,i1,i2,i3⟩:=aa H2;obtain⟨j0,j1,j2,j3⟩:=aH H2
  go_wp2
  obtain⟨d0,d1,d2,d3⟩:=aa (aE (.slice none 0 0) (.slice none 0 0) (.int .i64 0) (.int .i64 0) H2);refine bodyPost_ret (by simp [results,Try.results24,go_sem,d0,d1,d2,d3];try rfl) rfl ?_
  rw [show pq s l=0 by simp [pq,hnoH.out],show lO s l=([],[],0,0) by simp [lO,hnoH.out],hnoH.out];exact⟨_,rfl,dB _ _,bj _ _ _ _ B2 (by omega)⟩
 have hyB:lP s l=true:=by simp [lP,hok,h40]
 have hyH:Hid _:=hyB;clear hyB;have hngt:¬(40:Int)<(l.length:Int):=by omega
 go_upto_region 3 with (go_at_call 31;refine(hc1 _ _).mono ?_;rintro e w2 ⟨rfl,b2⟩;have B2:Below w.heap.size w w2:=aR (hb2 _ _) b2 (by simp<;>omega);have H2:w2.heap[w.heap.size+1]?=some (.cells #[.slice none 0 0,.slice none 0 0,.int .i64 0,.int .i64 0] 33 (0,0)):=Below.some b2 (ae _ (by simp));have P2:w2.heap[w.heap.size]?=some (.cells #[.slice A n c,.slice A' n' c',.int .i64 s.2.2.1,.int .i64 s.2.2.2] 33 (0,0)):=Below.some b2 (af _ (ae _ rfl));clear b2)
 have hc2:=pz s hs _ w2 F (rep B2) (hFW B2);have hl2:=bh H2;obtain⟨e0,e1,e2,e3⟩:=aa P2;clear hc1 hb2 rep hFW
 go_upto_region 4 with (go_at_call 39;refine hc2.mono ?_;rintro e w3 ⟨v3,rfl,⟨Vb,Vf,ys,sa⟩,b3⟩;obtain rfl:=sa.val;obtain⟨bA,bn,bc,rfl⟩:=aY sa.box;obtain⟨fA,fc,rfl⟩:=aX sa.fms.own)
 have H3:=Below.some b3 H2;have B3:=aR B2 b3 B2.size;have hs3:=b3.size;have hlt3:=sa.lt;have sa':=sa.below (aU w3 (.cells #[.slice bA bn bc,.slice fA s.2.1.length fc,.int .i64 s.2.2.1,.int .i64 s.2.2.2] 33));have hbox:jg (w3.alloc (.cells #[.slice bA bn bc,.slice fA s.2.1.length fc,.int .i64 s.2.2.1,.int .i64 s.2.2.2] 33)) w3.heap.size (w.heap.size+2) s :=
  ⟨_,_,_,_,_,_,_,ae _ rfl,⟨rfl,sa'.box,fun b hb=>by have:=(hlt3 b (.inl hb)).1;omega,sa'.fms.base (by omega),sa'.dis⟩,fun h=>by have:=(hlt3 _ h).2;omega⟩
 have H4:=af (.cells #[.slice bA bn bc,.slice fA s.2.1.length fc,.int .i64 s.2.2.1,.int .i64 s.2.2.2] 33) H3;have B4:Below w.heap.size w (w3.alloc (.cells #[.slice bA bn bc,.slice fA s.2.1.length fc,.int .i64 s.2.2.1,.int .i64 s.2.2.2] 33)):=B3.alloc B3.size _;have hpl:w3.heap.size<(w3.alloc (.cells #[.slice bA bn bc,.slice fA s.2.1.length fc,.int .i64 s.2.2.1,.int .i64 s.2.2.2] 33)).heap.size:=by simp
 have hwp:w.heap.size+2≤w3.heap.size:=by omega
 clear hc2 e0 e1 e2 e3 b3 sa sa' H3 B3 hlt3 hs3 H2 P2 B2 hl2;generalize w3.alloc (.cells #[.slice bA bn bc,.slice fA s.2.1.length fc,.int .i64 s.2.2.1,.int .i64 s.2.2.2] 33)=w4 at *;generalize w3.heap.size=p at *
 go_wp2
 go_loopw [8,26] (fun v8 v26 wr=>∃i:Nat,v26 = .int .i64 (i:Int)∧i≤l.length∧v8 = .int .i64 ((run s (l.take i)).2:Int)∧jg wr p (w.heap.size+2) (run s (l.take i)).1∧wr.heap[w.heap.size+1]?=some (.cells #[.slice none 0 0,.slice none 0 0,.int .i64 0,.int .i64 0] 33 (0,0))∧Below w.heap.size w wr∧p<wr.heap.size) (fun _ v26 _=>l.length - (intOf v26).toNat)
 case atStart=>exact⟨0,rfl,Jy _,rfl,hbox,H4,B4,hpl⟩
 case round =>
  obtain⟨i,rfl,hil,rfl,hboxr,Hr,Br,hpr⟩:=hrel;obtain⟨hto,htk,htn⟩:=Bw hs hok (l.take i);rw [Jg] at htn;obtain⟨t,htE⟩:∃t,t=run s (l.take i):=⟨_,rfl⟩
  rw [←htE] at hboxr hto htk htn ⊢;obtain⟨A1,m1,c1,A2,m2,c2,zs,hpc,hSc,hnp⟩:=hboxr;by_cases hp:i<l.length
  ·have hpi:(i:Int)<(l.length:Int):=by omega
   have hsucc:=zY s hp;rw [←htE] at hsucc;have htEH:Hid _:=htE;have hsuccH:Hid _:=hsucc;clear htE hsucc;obtain⟨b,o,rfl,hFb,hcell⟩:=huA (by omega);obtain⟨u0,u1,u2,u3⟩:=xy hus hp;have hxw:=hlw l[i] (Js hp);generalize l[i]=x at *;have hcb:∀{k:Nat} {u:Value},us[k]?=some u→wr.cell? ⟨b,o+k,none⟩=some u:=fun {k u} hu=>(Jp (w:=w) (Br.block b (hF' b hFb))).trans (hcell k u hu)
   have k0:=hcb u0;have k1:=hcb u1;have k2:=hcb u2;have k3:=hcb u3;simp only [←Nat.add_assoc] at k1 k2 k3;have hSa:=hSc.below (aU wr (.cells #[.int .i64 x.1,.int .i64 x.2.1,.string x.2.2.1,.int .i64 x.2.2.2] 46));have hpa:=af (.cells #[.int .i64 x.1,.int .i64 x.2.1,.string x.2.2.1,.int .i64 x.2.2.2] 46) hpc;have hxa:(wr.alloc (.cells #[.int .i64 x.1,.int .i64 x.2.1,.string x.2.2.1,.int .i64 x.2.2.2] 46)).heap[wr.heap.size]?=some (.cells #[.int .i64 x.1,.int .i64 x.2.1,.string x.2.2.1,.int .i64 x.2.2.2] 46 (0,0)):=ae _ rfl;have Ha:=af (.cells #[.int .i64 x.1,.int .i64 x.2.1,.string x.2.2.1,.int .i64 x.2.2.2] 46) Hr;have Ba:Below w.heap.size w (wr.alloc (.cells #[.int .i64 x.1,.int .i64 x.2.1,.string x.2.2.1,.int .i64 x.2.2.2] 46)):=Br.alloc Br.size _;have hpra:p<(wr.alloc (.cells #[.int .i64 x.1,.int .i64 x.2.1,.string x.2.2.1,.int .i64 x.2.2.2] 46)).heap.size:=by simp;omega
   have hc:=DS t.1 hto htk x hxw _ (wr.alloc (.cells #[.int .i64 x.1,.int .i64 x.2.1,.string x.2.2.1,.int .i64 x.2.2.2] 46)) _ hSa.rep (fun b hb=>(hSa.lt b hb).2);have hw:Jd.wrap ((i:Int)+1)=((i+1:Nat):Int):=by rw [ak (by omega) (by omega)];omega
   have hw2:Jd.wrap ((t.2:Int)+1)=((t.2+1:Nat):Int):=by rw [ak (by omega) (by omega)];omega
   go_upto_region 7 with fail
   generalize wr.alloc (.cells #[.int .i64 x.1,.int .i64 x.2.1,.string x.2.2.1,.int .i64 x.2.2.2] 46)=wa at *;obtain⟨e0,e1,e2,e3⟩:=aa hpa;obtain⟨f0,f1,f2,f3⟩:=aa hxa;clear k0 k1 k2 k3;cases hst:gx t.1 x
   ·have hns:run s (l.take (i+1))=t:=by rw [hsuccH.out,nq,hst];rfl
    have hnsH:Hid _:=hns;clear hns;rw [hst] at hc
    go_wp2_with (go_at_call 45;refine hc.mono ?_;rintro e w5 ⟨v5,rfl,⟨Vb5,Vf5,ys5,sm⟩,b5⟩;obtain rfl:=sm.val;obtain⟨nA,nn,nc,rfl⟩:=aY sm.box;obtain⟨nfA,nfc,rfl⟩:=aX sm.fms.own)
    refine⟨⟨i+1,rfl,hp,by rw [hnsH.out],?_,af _ (Below.some b5 Ha),(aR Ba b5 Ba.size).alloc (by have:=b5.size;have:=Ba.size;omega) _,by have:=b5.size;simp;omega⟩,?_⟩
    ·rw [hnsH.out]
     exact(jg.below ⟨A1,m1,c1,A2,m2,c2,zs,hpa,hSa,hnp⟩ b5).below (aU _ _)
    ·show l.length - (((i+1:Nat):Int)).toNat<l.length - ((i:Int)).toNat
     omega
   ·have hns:run s (l.take (i+1))=(stS t.1 x,t.2+1):=by rw [hsuccH.out,nq,hst];rfl
    have hnsH:Hid _:=hns;clear hns;rw [hst] at hc
    go_upto_region 9 with (go_at_call 45;refine hc.mono ?_;rintro e w5 ⟨v5,rfl,⟨Vb5,Vf5,ys5,sm⟩,b5⟩;obtain rfl:=sm.val;obtain⟨nA,nn,nc,rfl⟩:=aY sm.box;obtain⟨nfA,nfc,rfl⟩:=aX sm.fms.own)
    have hp6:=af (.cells #[.slice nA nn nc,.slice nfA (stS t.1 x).2.1.length nfc,.int .i64 (stS t.1 x).2.2.1,.int .i64 (stS t.1 x).2.2.2] 33) (Below.some b5 hpa);have hq6:(w5.alloc (.cells #[.slice nA nn nc,.slice nfA (stS t.1 x).2.1.length nfc,.int .i64 (stS t.1 x).2.2.1,.int .i64 (stS t.1 x).2.2.2] 33)).heap[w5.heap.size]?=some (.cells #[.slice nA nn nc,.slice nfA (stS t.1 x).2.1.length nfc,.int .i64 (stS t.1 x).2.2.1,.int .i64 (stS t.1 x).2.2.2] 33 (0,0)):=ae _ rfl;have H6:=af (.cells #[.slice nA nn nc,.slice nfA (stS t.1 x).2.1.length nfc,.int .i64 (stS t.1 x).2.2.1,.int .i64 (stS t.1 x).2.2.2] 33) (Below.some b5 Ha);have B6:Below w.heap.size w (w5.alloc (.cells #[.slice nA nn nc,.slice nfA (stS t.1 x).2.1.length nfc,.int .i64 (stS t.1 x).2.2.1,.int .i64 (stS t.1 x).2.2.2] 33)):=(aR Ba b5 Ba.size).alloc (by have:=b5.size;have:=Ba.size;omega) _;have hmlt:=sm.lt;have sm6:=sm.below (aU w5 (.cells #[.slice nA nn nc,.slice nfA (stS t.1 x).2.1.length nfc,.int .i64 (stS t.1 x).2.2.1,.int .i64 (stS t.1 x).2.2.2] 33));have hs6:p<(w5.alloc (.cells #[.slice nA nn nc,.slice nfA (stS t.1 x).2.1.length nfc,.int .i64 (stS t.1 x).2.2.1,.int .i64 (stS t.1 x).2.2.2] 33)).heap.size:=by have:=b5.size;simp;omega
    have hs5:=b5.size;clear hpa hxa e0 e1 e2 e3 f0 f1 f2 f3 hc hSa sm b5 Ha Ba hpc hSc;generalize w5.alloc (.cells #[.slice nA nn nc,.slice nfA (stS t.1 x).2.1.length nfc,.int .i64 (stS t.1 x).2.2.1,.int .i64 (stS t.1 x).2.2.2] 33)=w6 at *;obtain⟨e0,e1,e2,e3⟩:=aa hq6;obtain⟨f0,f1,f2,f3⟩:=aa hp6;obtain⟨j0,j1,j2,j3⟩:=aH hp6
    go_wp2
    refine⟨⟨i+1,rfl,hp,by rw [hnsH.out];simp,?_,(uV _ _ _ _ (by omega)).trans H6,bj _ _ _ _ B6 (by omega),by simp [Jh];omega⟩,?_⟩
    ·rw [hnsH.out]
     have sm7:=sm6.set4 (g:=p) (.slice nA nn nc) (.slice nfA (stS t.1 x).2.1.length nfc) (.int .i64 (stS t.1 x).2.2.1) (.int .i64 (stS t.1 x).2.2.2) fun b hb=>by have:=(hmlt b hb).1;omega
     exact⟨_,_,_,_,_,_,_,aE (.slice nA nn nc) (.slice nfA (stS t.1 x).2.1.length nfc) (.int .i64 (stS t.1 x).2.2.1) (.int .i64 (stS t.1 x).2.2.2) hp6,⟨rfl,sm7.box,fun b hb=>by have:=(hmlt b (.inl hb)).1;omega,sm7.fms.base (by omega),sm7.dis⟩,fun h=>by have:=(hmlt _ h).1;omega⟩
    ·show l.length - (((i+1:Nat):Int)).toNat<l.length - ((i:Int)).toNat
     omega
  ·have hpi:¬(i:Int)<(l.length:Int):=by omega
   have hie:l.take i=l:=Ju (by omega);rw [hie] at htE;have htEH:Hid _:=htE;clear htE hie;obtain⟨e0,e1,e2,e3⟩:=aa hpc;obtain⟨i0,i1,i2,i3⟩:=aa Hr;obtain⟨j0,j1,j2,j3⟩:=aH Hr
   go_wp2
   obtain⟨d0,d1,d2,d3⟩:=aa (aE (.slice A1 m1 c1) (.slice A2 m2 c2) (.int .i64 t.1.2.2.1) (.int .i64 t.1.2.2.2) Hr);refine bodyPost_ret (by simp [results,Try.results24,go_sem,d0,d1,d2,d3];try rfl) rfl ?_
   have hS8:=hSc.set4 (g:=w.heap.size+1) (.slice A1 m1 c1) (.slice A2 m2 c2) (.int .i64 t.1.2.2.1) (.int .i64 t.1.2.2.2) fun b hb=>by have:=(hSc.lt b hb).1;omega
   have eN:pq s l=(t.2:Int):=by rw [pq,if_pos hyH.out,htEH.out]
   have eS:lO s l=t.1:=by rw [lO,if_pos hyH.out,htEH.out]
   rw [eN,eS,hyH.out];exact⟨_,rfl,⟨_,_,_,hS8.val,hS8.box,fun b hb=>by have:=hS8.bge b hb;omega,hS8.fms.base (by omega),hS8.dis⟩,bj _ _ _ _ Br (by omega)⟩
theorem IH (k:Int):bin .rem false [] (I k) (I 3)=some (I (k.tmod 3)):=by simp [bin,eQ]
theorem oX (k:Int) (n:Nat) (h:n≤1048577) (h1:0<k) (h2:k≤10000000000):dT [txs (yP k n),I k]=some (.ret [I (k+n)] []):=by
 rw [pu];refine aO _ (cg n (fun i=>[txs (yP k n),I (k+i),I i]) (.ext 0 [I (k+n)]) (fun i hi=>?_) ?_ rfl ?_) ?_
 ·have hw:Jd.wrap ((i:Int)+1)=(i:Int)+1:=ak (by omega) (by omega)
  have w1:Jd.wrap (k+(i:Int)+1)=k+(i+1):=by rw [ak (by omega) (by omega)];omega
  have hm:=ji (k+i) (by omega) (by omega);simp -implicitDefEqProofs [yP,hi,hw,w1,hm]
 ·simp [yP]
 ·simp
 ·simp
theorem sQ (k:Int) (n:Nat) (h:n≤1048577) (h1:0<k) (h2:k≤1000000000):fE [bxs (yq k n),I k]=some (.ret [I (k+4*n)] []):=by
 rw [sZ];refine aO _ (cg n (fun i=>[bxs (yq k n),I (k+4*i),I i]) (.ext 0 [I (k+4*n)]) (fun i hi=>?_) ?_ rfl ?_) ?_
 ·have hw:Jd.wrap ((i:Int)+1)=(i:Int)+1:=ak (by omega) (by omega)
  have w1:Jd.wrap (k+4*(i:Int)+1)=k+4*i+1:=ak (by omega) (by omega);have w2:Jd.wrap (k+4*(i:Int)+1+1)=k+4*i+2:=by rw [ak (by omega) (by omega)];omega
  have w3:Jd.wrap (k+4*(i:Int)+2+1)=k+4*i+3:=by rw [ak (by omega) (by omega)];omega
  have w4:Jd.wrap (k+4*(i:Int)+3+1)=k+4*(i+1):=by rw [ak (by omega) (by omega)];omega
  have hm:=ji (k+4*i) (by omega) (by omega);simp -implicitDefEqProofs [yq,yT,hi,hw,w1,w2,w3,w4,hm]
 ·simp [yq]
 ·simp
 ·simp
theorem Cz:∀(l:List Fm) (k:Int) (i:Nat) (h:i<l.length),(mkF k l)[i]?=some (DE (k+bZ (l.take i)) l[i])
 | [],_,_,h=>by simp at h
 | x::l,k,0,_=>by simp [mkF,bZ]
 | x::l,k,i+1,h=>by
  have ih:=Cz l (k+3+x.2.1.length) i (by simpa using h);simp only [mkF,List.getElem?_cons_succ,ih,List.take_succ_cons,bZ,List.getElem_cons_succ];rw [show k+3+(x.2.1.length:Int)+bZ (l.take i)=k+(3+x.2.1.length+bZ (l.take i)) by omega]
theorem qp (l:List Fm) (k:Int) (hk:0<k) (hK:k+bZ l≤1000000000) (hln:l.length≤1048576) (hls:∀x∈l,x.2.1.length≤1048576):ew [fms (mkF k l),I k]=some (.ret [I (k+bZ l)] []):=by
 rw [pO];refine aO _ (cg l.length (fun i=>[fms (mkF k l),I (k+bZ (l.take i)),I i]) (.ext 0 [I (k+bZ l)]) (fun i hi=>?_) ?_ rfl ?_) ?_
 ·have hw:Jd.wrap ((i:Int)+1)=(i:Int)+1:=ak (by omega) (by omega)
  have ht0:=iR (l.take i);have ht1:=zL l hi;have ht2:=Fc l (i+1);have ht3:=iR (l.drop (i+1));have hxl:=hls l[i] (Js hi);have hl:(mkF k l).length=l.length:=jD l k;have hi2:i<(mkF k l).length:=by omega
  have hge:=HK hi2;have hgx:(mkF k l)[i]=DE (k+bZ (l.take i)) l[i]:=IU ((Je hi2).symm.trans (Cz l k i hi));rw [hgx] at hge;simp only [DE] at hge;obtain⟨q,hq⟩:∃q,q=k+bZ (l.take i):=⟨_,rfl⟩
  rw [show k+bZ (l.take (i+1))=q+3+l[i].2.1.length by omega];rw [←hq] at hge ⊢;clear hgx;generalize l[i]=x at *;have hs:=oX (q+1) x.2.1.length (by omega) (by omega) (by omega);have e3:(q+1+(x.2.1.length:Int)).tmod 3=(q+1+(x.2.1.length:Int)) % 3:=Int.tmod_eq_emod_of_nonneg (by omega);have w1:Jd.wrap (q+1)=q+1:=ak (by omega) (by omega);have w2:Jd.wrap (q+1+(x.2.1.length:Int)+1)=q+1+x.2.1.length+1:=ak (by omega) (by omega);have w3:Jd.wrap (q+1+(x.2.1.length:Int)+1+1)=q+3+x.2.1.length:=by rw [ak (by omega) (by omega)];omega
  have hneg:¬(q+1+(x.2.1.length:Int)<0):=by omega
  have hi':(i:Int)<(l.length:Int):=by omega
  simp -implicitDefEqProofs [hge,hl,hi',hs,e3,w1,w2,w3,hw,hneg,IH,Int.natCast_add,Int.natCast_one];rfl
 ·simp [jD]
 ·simp [bZ]
 ·simp
theorem sA (s:Sp) (k:Int) (hs:cr s) (hk:0<k) (hK:k+4*s.1.length+bZ s.2.1≤1000000000):iu [sp (mkS k s),I k]=some (.ret [I (k+4*s.1.length+bZ s.2.1)] []):=by
 rw [ta];have ht:=iR s.2.1;have e1:=sQ k s.1.length (by have:=hs.1.1;omega) hk (by omega);have e2:=qp s.2.1 (k+4*s.1.length) (by omega) (by omega) hs.2.1 hs.2.2;have n1:¬(k+4*(s.1.length:Int)<0):=by omega
 have n2:¬(k+4*(s.1.length:Int)+bZ s.2.1<0):=by omega
 simp -implicitDefEqProofs [mkS,e1,e2,n1,n2]
set_option maxHeartbeats 4000000 in
set_option maxRecDepth 1000000 in
theorem Dr (k:Int) (w:World) :
  Calls Try.prog 38 #[.slice none 0 0,.int .i64 k] w fun e w'=>e = .returned (.int .i64 k)∧w'=w:=by
 go_enter Try.func38,Try.ntmps38
 go_wp2
 go_loopw [1,5] (fun vk vi wr=>vi = .int .i64 0∧vk = .int .i64 k∧wr=w) (fun _ vi _=>0)
 case atStart=>exact⟨rfl,rfl,rfl⟩
 case round =>
  obtain⟨rfl,rfl,rfl⟩:=hrel
  go_wp2
  go_ret
  exact⟨rfl,rfl⟩
theorem Dg (l:List Fm) (k:Int) (hk:0<k) (hK:k+bZ l≤1000000000) (hln:l.length≤1048576) (hls:∀x∈l,x.2.1.length≤1048576) (w:World) (B:Nat) (A:Option Addr) (n c:Nat) (ys:List Value) (h:FmsAt w B (.slice A n c) ys l) :
  Calls Try.prog 38 #[.slice A n c,.int .i64 k] w fun e w'=>e = .returned (.int .i64 (k+bZ l))∧FmsAt w' B (.slice A n c) ys (mkF k l)∧KeptX (FmS (.slice A n c) ys) w w':=by
 obtain⟨h1,⟨e,h2⟩ | ⟨g,cap,cur,e,_⟩⟩:=h.own
 ·cases e
  obtain rfl:l=[]:=Jn h2;refine(Dr k w).mono ?_
  rintro e w' ⟨rfl,rfl⟩;exact⟨by simp [bZ],by simpa [mkF] using h,KeptX.refl _ _⟩
 ·cases e
  exact Bg l k hk hK hln hls w B g _ ys h
set_option maxHeartbeats 4000000 in
set_option maxRecDepth 1000000 in
theorem qN (s:Sp) (k:Int) (hs:cr s) (hk:0<k) (hK:k+4*s.1.length+bZ s.2.1≤1000000000) (w:World) (B:Nat) (v Vb Vf:Value) (ys:List Value) (h:ShopAt w B v Vb Vf ys s) :
  Calls Try.prog 13 #[v,.int .i64 k] w fun e w'=>e = .returned (.int .i64 (k+4*s.1.length+bZ s.2.1))∧ShopAt w' B v Vb Vf ys (mkS k s)∧KeptX (ShS Vb Vf ys) w w':=by
 have ht:=iR s.2.1;have hlt:=h.lt;obtain⟨rfl,hb,hge,hf,hd⟩:=h;obtain⟨bA,bn,bc,rfl⟩:=aY hb;obtain⟨fA,fn,fc,rfl⟩:=au hf.own
 go_enter Try.func13,Try.ntmps13
 have hc1:=fun(a:Obj)=>wt s.1 k (by have:=hs.1.1;omega) hk (by omega) (w:=w.alloc a) (y:=.slice bA bn bc) (aI hb fun b h1=>fp _ (bI hb b h1)) (fun b h1=>by have:=bI hb b h1;simp;omega)
 go_wp2_with (go_at_call 37;refine(hc1 _).mono ?_)
 rintro e w2 ⟨rfl,hb2,hx2⟩;have H1:w2.heap[w.heap.size]?=some (.cells #[.slice bA bn bc,.slice fA fn fc,.int .i64 s.2.2.1,.int .i64 s.2.2.2] 33 (0,0)):=(hx2.block _ (by simp) fun h1=>by have:=bI hb _ h1;omega).trans (ae _ rfl);have c1:=(aa H1).2.1;have hX2:KeptX (aw (.slice bA bn bc)) w w2:=by
  refine⟨hx2.os,hx2.tape,hx2.output,Jw (by simp) hx2.size,fun b h1 h2=>(hx2.block b (by simp;omega) h2).trans (fp _ h1)⟩
 have hf2:=hf.keep (w':=w2) fun b hb1=>hX2.block b (hlt b (.inr hb1)).2 fun h1=>hd b h1 hb1
 have hc2:=Dg s.2.1 (k+4*s.1.length) (by omega) (by omega) hs.2.1 hs.2.2 w2 B fA fn fc ys hf2
 go_wp2_with (go_at_call 38;refine hc2.mono ?_)
 rintro e w3 ⟨rfl,hf3,hx3⟩
 go_wp2
 go_ret
 refine⟨rfl,⟨rfl,aI hb2 fun b h1=>hx3.block b (bI hb2 b h1) (hd b h1),hge,hf3,hd⟩,(hX2.mono fun b h1=>.inl h1).trans (hx3.mono fun b h1=>.inr h1)⟩
theorem nV (s:Sp) (k:Int) (hs:cr s) (hk:0<k) (hK:k+4*s.1.length+bZ s.2.1≤1000000000) {w:World} {F:Nat→Prop} {y:Value} (hr:aM w F (sp (mkS k s)) y) (hF:∀b,F b→b<w.heap.size) :
  Calls Try.prog 18 #[y,.int .i64 k] w fun e w'=>e = .returned (.int .i64 (k+4*s.1.length+bZ s.2.1))∧Below w.heap.size w w' :=
 jd (Jv Try.func18 (by kernel_rfl) rfl) sE (sA s k hs hk hK) hr hF
attribute [local go_sem ↓] Go.wp_at_zero Go.wp_at_succ
theorem ShopAt.keptX {S:Nat→Prop} {w w':World} {B:Nat} {v Vb Vf:Value} {ys:List Value} {s:Sp} (h:ShopAt w B v Vb Vf ys s) (hX:KeptX S w w') (hS:∀b,ShS Vb Vf ys b→¬S b):ShopAt w' B v Vb Vf ys s :=
 h.keep fun b hb=>hX.block b (h.lt b hb).2 (hS b hb)
theorem lq (w:World) (o:Obj):(w.alloc o).heap.size=w.heap.size+1:=by simp
end Go.Proofs.Ytankikbbdfgkbaa

end
