/-
  A part of the proof: contracts and plain forms of functions beneath the statement, made small by a program (names shortened, what is not needed left out).
-/
import Derived.Test.YtkcojipciiakdaaRows
import Derived.Test.YtkcojipciiakdaaM7
import Derived.StillTailTactics
open List renaming setIfInBounds_toArray → HA, getElem?_eq_getElem → HB, set_cons_zero → HC, set_cons_succ → HD, length_map → HK, mem_of_getElem? → HL, mem_of_mem_take → HN, mem_of_mem_drop → HO, take_succ_cons → HV, drop_succ_cons → HW, length_take → HX, length_drop → HY, nil_append → Ib, take_zero → Ic, drop_zero → Ie
open Option.some renaming inj → HE
open Go.Act renaming put → HG
open Nat renaming le_refl → HH, le_trans → HS, min_eq_left → Ia
open Bool renaming false_and → HI, false_eq_true → HR
open Go.World renaming setCell → HJ
open Or renaming inl → HM
open Go.IntKind renaming i64 → HQ
open Go.AllReadyH renaming cons → HT, nil → HU
open Go.RowKit.Below renaming refl → HZ
set_option maxRecDepth 100000
set_option linter.unusedSimpArgs false
set_option linter.unusedVariables false
noncomputable section
namespace Go.Proofs.Ytkcojipciiakdaa
open Go Go.Proofs Go.V Go.RowKit
set_option maxRecDepth 100000
set_option maxHeartbeats 8000000 in
set_option maxRecDepth 1000000 in
theorem Dc (s:Sp) (hs:cK s) (hok:aW s=true) (id:Int) (u:ByteArray) (n:Int) (hx:cN (3,id,u,n)=true) (w:World) (B:Nat) (v Vb Vf:Value) (ys:List Value) (hS0:ShopAt w B v Vb Vf ys s) (hB:B≤w.heap.size) :
  Calls Try.prog 91 #[v,stV (3,id,u,n)] w (nG w B (ShS Vb Vf ys) (eR s.2.1 id&&cG s (atF s.2.1 id) (3,id,u,n)) (eU s (atF s.2.1 id) (3,id,u,n))):=by
 obtain⟨hfm,hgc,_,hlost⟩:=bv hok;obtain rfl:=hS0.val;obtain⟨bA,bn,bc,rfl⟩:=aU hS0.box;obtain⟨fA,fc,rfl⟩:=bt hS0.fms.own;have hlt0:=hS0.lt
 go_enter Try.func91,Try.ntmps91
 go_upto_region 1 with fail
 have hW:Below w.heap.size w (((w.alloc (.cells #[.slice bA bn bc,.slice fA s.2.1.length fc,.int .i64 s.2.2.1,.int .i64 s.2.2.2] 33)).alloc (.cells #[.int .i64 3,.int .i64 id,.string u,.int .i64 n] 46)).alloc (.cells #[.slice none 0 0,.slice none 0 0,.int .i64 0,.int .i64 0] 33)):=((HZ _ w).alloc (HH _) _).alloc (by simp) _ |>.alloc (by simp;omega) _;have hWs:w.heap.size+3≤(((w.alloc (.cells #[.slice bA bn bc,.slice fA s.2.1.length fc,.int .i64 s.2.2.1,.int .i64 s.2.2.2] 33)).alloc (.cells #[.int .i64 3,.int .i64 id,.string u,.int .i64 n] 46)).alloc (.cells #[.slice none 0 0,.slice none 0 0,.int .i64 0,.int .i64 0] 33)).heap.size:=by simp
 have hp:(((w.alloc (.cells #[.slice bA bn bc,.slice fA s.2.1.length fc,.int .i64 s.2.2.1,.int .i64 s.2.2.2] 33)).alloc (.cells #[.int .i64 3,.int .i64 id,.string u,.int .i64 n] 46)).alloc (.cells #[.slice none 0 0,.slice none 0 0,.int .i64 0,.int .i64 0] 33)).heap[w.heap.size]?=some (.cells #[.slice bA bn bc,.slice fA s.2.1.length fc,.int .i64 s.2.2.1,.int .i64 s.2.2.2] 33 (0,0)):=ah _ (ah _ (ac _ rfl));have hq:(((w.alloc (.cells #[.slice bA bn bc,.slice fA s.2.1.length fc,.int .i64 s.2.2.1,.int .i64 s.2.2.2] 33)).alloc (.cells #[.int .i64 3,.int .i64 id,.string u,.int .i64 n] 46)).alloc (.cells #[.slice none 0 0,.slice none 0 0,.int .i64 0,.int .i64 0] 33)).heap[w.heap.size+1]?=some (.cells #[.int .i64 3,.int .i64 id,.string u,.int .i64 n] 46 (0,0)):=ah _ (ac _ (by simp));have hr:(((w.alloc (.cells #[.slice bA bn bc,.slice fA s.2.1.length fc,.int .i64 s.2.2.1,.int .i64 s.2.2.2] 33)).alloc (.cells #[.int .i64 3,.int .i64 id,.string u,.int .i64 n] 46)).alloc (.cells #[.slice none 0 0,.slice none 0 0,.int .i64 0,.int .i64 0] 33)).heap[w.heap.size+1+1]?=some (.cells #[.slice none 0 0,.slice none 0 0,.int .i64 0,.int .i64 0] 33 (0,0)):=ac _ (by simp);have hS:=hS0.below hW;generalize (((w.alloc (.cells #[.slice bA bn bc,.slice fA s.2.1.length fc,.int .i64 s.2.2.1,.int .i64 s.2.2.2] 33)).alloc (.cells #[.int .i64 3,.int .i64 id,.string u,.int .i64 n] 46)).alloc (.cells #[.slice none 0 0,.slice none 0 0,.int .i64 0,.int .i64 0] 33))=W at *;have hc:=ic s id hs hok hS.rep (fun b hb=>(hS.lt b hb).2);obtain⟨e0,e1,e2,e3⟩:=aa hp;obtain⟨f0,f1,f2,f3⟩:=aa hq;cases hh:eR s.2.1 id
 ·rw [hh] at hc
  simp only [HR,if_false] at hc;have hhH:Hid (eR s.2.1 id=false):=hh
  go_upto_region 4 with (go_at_call 115;refine hc.mono ?_;rintro e w2 ⟨rfl,b2⟩)
  have B2:KeptX (ShS (.slice bA bn bc) (.slice fA s.2.1.length fc) ys) w w2:=(KeptX.ofBelow hW).step b2;have hr2:=Below.some b2 hr;clear hc hS hS0 hfm hgc hlt0 hs hok hx hlost hh;refine wp_region_still_lit (by kernel_rfl) (by kernel_rfl) (WS.out ?_)
  refine WS.step (fun K hK=>WG.mk ?_)
  go_simp
  refine hK.out _ ?_
  clear hK K;refine WS.step (fun K hK=>WG.mk ?_)
  go_simp
  refine hK.out _ ?_
  clear hK K;refine WS.step (fun K hK=>WG.mk ?_)
  go_simp
  refine hK.out _ ?_
  clear hK K;refine WS.step (fun K hK=>WG.mk ?_)
  go_simp
  refine hK.out _ ?_
  clear hK K;refine WS.step (fun K hK=>WG.mk ?_)
  go_simp
  refine hK.out _ ?_
  clear hK K;refine WS.step (fun K hK=>WG.mk ?_)
  go_simp
  refine hK.out _ ?_
  clear hK K;refine WS.step (fun K hK=>WG.mk ?_)
  go_simp
  refine hK.out _ ?_
  clear hK K;refine WS.step (fun K hK=>WG.mk ?_)
  go_simp
  refine hK.out _ ?_
  clear hK K;refine WS.step (fun K hK=>WG.mk ?_)
  go_simp
  refine hK.out _ ?_
  clear hK K;refine WS.step (fun K hK=>WG.mk ?_)
  go_simp
  refine hK.out _ ?_
  clear hK K;refine WS.step (fun K hK=>WG.mk ?_)
  go_simp
  refine hK.out _ ?_
  clear hK K;refine WS.step (fun K hK=>WG.mk ?_)
  go_simp
  refine hK.out _ ?_
  clear hK K;refine WS.step (fun K hK=>WG.mk ?_)
  go_simp
  refine hK.out _ ?_
  clear hK K;refine WS.step (fun K hK=>WG.mk ?_)
  go_simp
  refine hK.out _ ?_
  clear hK K;refine WS.step (fun K hK=>WG.mk ?_)
  go_simp
  refine hK.out _ ?_
  clear hK K;refine WS.step (fun K hK=>WG.mk ?_)
  go_simp
  refine hK.out _ ?_
  clear hK K;refine WS.step (fun K hK=>WG.mk ?_)
  go_simp
  refine hK.out _ ?_
  clear hK K;refine WS.step (fun K hK=>WG.mk ?_)
  go_simp
  refine hK.out _ ?_
  clear hK K;refine WS.step (fun K hK=>WG.mk ?_)
  go_simp
  refine hK.out _ ?_
  clear hK K;refine WS.nil ?_
  change Exit.then _ _ _ _ w2.drew
  have B3:KeptX (ShS (.slice bA bn bc) (.slice fA s.2.1.length fc) ys) w w2.drew:=B2.step (ab w2);have hr3:=Below.some (ab w2) hr2;generalize w2.drew=w3 at *;obtain⟨g0,g1,g2,g3⟩:=aa hr3;obtain⟨j0,j1,j2,j3⟩:=aG hr3
  go_wp2
  obtain⟨d0,d1,d2,d3⟩:=aa (aD (.slice none 0 0) (.slice none 0 0) (.int .i64 0) (.int .i64 0) hr3);refine bodyPost_ret (by simp [results,Try.results91,go_sem,d0,d1,d2,d3];try rfl) rfl ?_
  rw [hhH.out,HI];exact dN B3 (by omega)
 rw [hh] at hc;simp only [if_true] at hc;have hhH:Hid (eR s.2.1 id=true):=hh;obtain⟨hi,-⟩:=jt hh;obtain⟨i,hati⟩:∃i,i=atF s.2.1 id:=⟨_,rfl⟩
 rw [←hati] at hc hi;have hatH:Hid (i=atF s.2.1 id):=hati;clear hati;have haS:eU s i (3,id,u,n)=(s.1,s.2.1.set i (s.2.1[i].1,s.2.1[i].2.1,s.2.1[i].2.2.1,s.2.1[i].2.2.2+n),s.2.2.1,s.2.2.2+n):=by
  unfold eU;rw [HB hi];simp
 have haO:cG s i (3,id,u,n)=s.2.1[i].2.2.1:=by
  unfold cG;rw [HB hi];simp
 have haSH:Hid _:=haS;have haOH:Hid _:=haO;have hfi:=hfm i hi
 go_upto_region 4 with (go_at_call 115;refine hc.mono ?_;rintro e w2 ⟨rfl,b2⟩)
 have B2:KeptX (ShS (.slice bA bn bc) (.slice fA s.2.1.length fc) ys) w w2:=(KeptX.ofBelow hW).step b2;have hp2:=Below.some b2 hp;have hq2:=Below.some b2 hq;have hr2:=Below.some b2 hr;have hS2:=hS.below b2;have hs2:=b2.size;clear hc hS hS0 haS haO hW b2 hp hq hr e0 e1 e2 e3 f0 f1 f2 f3 hh;obtain⟨g,rfl⟩:=dc hS2.fms.own (by omega);have hgl:=hlt0 g (.inr (.inl rfl));have hgx:s.2.1[i]?=some s.2.1[i]:=HB hi;have hpi:(i:Int)<(s.2.1.length:Int):=by omega
 have hset:=dE hfi;have hprt:=bL hfi;obtain⟨f,hf⟩:∃f,f=s.2.1[i]:=⟨_,rfl⟩
 rw [←hf] at hfi hgx hset hprt haOH haSH;obtain⟨y,hy⟩:∃y,ys[i]?=some y:=⟨ys[i]'(by rw [hS2.fms.len];exact hi),HB _⟩
 have k2:=ax hS2.fms.own (j:=i*4+2) (u:=.bool f.2.2.1) (by rw [aE _ _ i f _ hgx hy 2 (by omega)];rfl);obtain⟨e0,e1,e2,e3⟩:=aa hp2;obtain⟨f0,f1,f2,f3⟩:=aa hq2;have hnn:¬((i:Int)<0):=by omega
 cases hb:f.2.2.1
 ·rw [hb] at k2
  have hbH:Hid _:=hb;clear hb;refine wp_region_still_lit (by kernel_rfl) (by kernel_rfl) (WS.out ?_)
  refine WS.step (fun K hK=>WG.mk ?_)
  go_simp
  refine hK.out _ ?_
  clear hK K;refine WS.step (fun K hK=>WG.mk ?_)
  go_simp
  refine hK.out _ ?_
  clear hK K;refine WS.step (fun K hK=>WG.mk ?_)
  go_simp
  refine hK.out _ ?_
  clear hK K;refine WS.step (fun K hK=>WG.mk ?_)
  go_simp
  refine hK.out _ ?_
  clear hK K;refine WS.step (fun K hK=>WG.mk ?_)
  go_simp
  refine hK.out _ ?_
  clear hK K;refine WS.step (fun K hK=>WG.mk ?_)
  go_simp
  refine hK.out _ ?_
  clear hK K;refine WS.step (fun K hK=>WG.mk ?_)
  go_simp
  refine hK.out _ ?_
  clear hK K;refine WS.step (fun K hK=>WG.mk ?_)
  go_simp
  refine hK.out _ ?_
  clear hK K;refine WS.step (fun K hK=>WG.mk ?_)
  go_simp
  refine hK.out _ ?_
  clear hK K;refine WS.step (fun K hK=>WG.mk ?_)
  go_simp
  refine hK.out _ ?_
  clear hK K;refine WS.step (fun K hK=>WG.mk ?_)
  go_simp
  refine hK.out _ ?_
  clear hK K;refine WS.step (fun K hK=>WG.mk ?_)
  go_simp
  refine hK.out _ ?_
  clear hK K;refine WS.step (fun K hK=>WG.mk ?_)
  go_simp
  refine hK.out _ ?_
  clear hK K;refine WS.step (fun K hK=>WG.mk ?_)
  go_simp
  refine hK.out _ ?_
  clear hK K;refine WS.step (fun K hK=>WG.mk ?_)
  go_simp
  refine hK.out _ ?_
  clear hK K;refine WS.step (fun K hK=>WG.mk ?_)
  go_simp
  refine hK.out _ ?_
  clear hK K;refine WS.step (fun K hK=>WG.mk ?_)
  go_simp
  refine hK.out _ ?_
  clear hK K;refine WS.step (fun K hK=>WG.mk ?_)
  go_simp
  refine hK.out _ ?_
  clear hK K;refine WS.step (fun K hK=>WG.mk ?_)
  go_simp
  refine hK.out _ ?_
  clear hK K;refine WS.nil ?_
  change Exit.then _ _ _ _ w2.drew
  have B3:KeptX (ShS (.slice bA bn bc) (.slice (some ⟨g,0,none⟩) s.2.1.length fc) ys) w w2.drew:=B2.step (ab w2);have hr3:=Below.some (ab w2) hr2;generalize w2.drew=w3 at *;obtain⟨g0,g1,g2,g3⟩:=aa hr3;obtain⟨j0,j1,j2,j3⟩:=aG hr3
  go_wp2
  obtain⟨d0,d1,d2,d3⟩:=aa (aD (.slice none 0 0) (.slice none 0 0) (.int .i64 0) (.int .i64 0) hr3);refine bodyPost_ret (by simp [results,Try.results91,go_sem,d0,d1,d2,d3];try rfl) rfl ?_
  rw [hhH.out,←hatH.out,haOH.out,hbH.out];exact dN B3 (by omega)
 ·rw [hb] at k2
  have hbH:Hid _:=hb;clear hb;refine wp_region_still_lit (by kernel_rfl) (by kernel_rfl) (WS.out ?_)
  refine WS.step (fun K hK=>WG.mk ?_)
  go_simp
  refine hK.out _ ?_
  clear hK K;refine WS.step (fun K hK=>WG.mk ?_)
  go_simp
  refine hK.out _ ?_
  clear hK K;refine WS.step (fun K hK=>WG.mk ?_)
  go_simp
  refine hK.out _ ?_
  clear hK K;refine WS.step (fun K hK=>WG.mk ?_)
  go_simp
  refine hK.out _ ?_
  clear hK K;refine WS.step (fun K hK=>WG.mk ?_)
  go_simp
  refine hK.out _ ?_
  clear hK K;refine WS.step (fun K hK=>WG.mk ?_)
  go_simp
  refine hK.out _ ?_
  clear hK K;refine WS.step (fun K hK=>WG.mk ?_)
  go_simp
  refine hK.out _ ?_
  clear hK K;refine WS.step (fun K hK=>WG.mk ?_)
  go_simp
  refine hK.out _ ?_
  clear hK K;refine WS.step (fun K hK=>WG.mk ?_)
  go_simp
  refine hK.out _ ?_
  clear hK K;refine WS.step (fun K hK=>WG.mk ?_)
  go_simp
  refine hK.out _ ?_
  clear hK K;refine WS.step (fun K hK=>WG.mk ?_)
  go_simp
  refine hK.out _ ?_
  clear hK K;refine WS.step (fun K hK=>WG.mk ?_)
  go_simp
  refine hK.out _ ?_
  clear hK K;refine WS.step (fun K hK=>WG.mk ?_)
  go_simp
  refine hK.out _ ?_
  clear hK K;refine WS.step (fun K hK=>WG.mk ?_)
  go_simp
  refine hK.out _ ?_
  clear hK K;refine WS.step (fun K hK=>WG.mk ?_)
  go_simp
  refine hK.out _ ?_
  clear hK K;refine WS.step (fun K hK=>WG.mk ?_)
  go_simp
  refine hK.out _ ?_
  clear hK K;refine WS.step (fun K hK=>WG.mk ?_)
  go_simp
  refine hK.out _ ?_
  clear hK K;refine WS.step (fun K hK=>WG.mk ?_)
  go_simp
  refine hK.out _ ?_
  clear hK K;refine WS.step (fun K hK=>WG.mk ?_)
  go_simp
  refine hK.out _ ?_
  clear hK K;refine WS.nil ?_
  change Exit.then _ _ _ _ w2.drew
  have B3:KeptX (ShS (.slice bA bn bc) (.slice (some ⟨g,0,none⟩) s.2.1.length fc) ys) w w2.drew:=B2.step (ab w2);have hp3:=Below.some (ab w2) hp2;have hq3:=Below.some (ab w2) hq2;have hr3:=Below.some (ab w2) hr2;have hS3:=hS2.below (ab w2);have hs3:w.heap.size+3≤w2.drew.heap.size:=HS hWs hs2;clear k2 e0 e1 e2 e3 f0 f1 f2 f3 hp2 hq2 hr2 hS2 B2 hWs hs2;generalize w2.drew=w3 at *;clear w2 W;have hF:=hS3.fms;have hrow:=hF.row i _ y hgx hy;obtain⟨Ay,cy,rfl⟩:=co hrow;rw [HK] at hy hrow;have k1:=ax hF.own (j:=i*4+1) (u:=.slice Ay f.2.1.length cy) (by rw [aE _ _ i f _ hgx hy 1 (by omega)];rfl);have k2:=ax hF.own (j:=i*4+2) (u:=.bool f.2.2.1) (by rw [aE _ _ i f _ hgx hy 2 (by omega)];rfl);rw [hbH.out] at k2;have k3:=ax hF.own (j:=i*4+3) (u:=.int .i64 f.2.2.2) (by rw [aE _ _ i f _ hgx hy 3 (by omega)];rfl);have z1:=aN hF.own (i*4+1);have z2:=aN hF.own (i*4+2);have z3:=aN hF.own (i*4+3);have hgp:g≠w.heap.size:=by omega
  have hfe:s.2.1[i]=f:=hf.symm;clear hf;have hcel:=fun(k:Nat) (v:Value) (x':Fm) hk hx hc=>cv hF hi hy (x':=x') (k:=k) (v:=v) hk hx hc
  rw [hfe] at hcel;obtain⟨e0,e1,e2,e3⟩:=aa hp3;obtain⟨f0,f1,f2,f3⟩:=aa hq3;have hwy:∀b,aA (.slice Ay f.2.1.length cy) b→b≠g:=fun b hb e=>(hF.blk i _ b hy hb).2 (by rw [e];rfl)
  have hn:=AW hx rfl;have hsh:=qW hok;have hw1:HQ.wrap (f.2.2.2+n)=f.2.2.2+n:=ao (by simp only at hn;omega) (by simp only at hn;omega);have hw2:HQ.wrap (s.2.2.2+n)=s.2.2.2+n:=ao (by simp only at hn;omega) (by simp only at hn;omega)
  go_upto_region 16 with fail
  refine wp_region_still_tail 7 (by kernel_rfl) (by kernel_rfl) (WS.out ?_)
  simp only [HV,Ic,HW,Ie];refine WS.step (fun K hK=>WG.mk ?_)
  go_simp
  refine hK.out _ ?_
  clear hK K;refine WS.step (fun K hK=>WG.mk ?_)
  go_simp
  refine hK.out _ ?_
  clear hK K;refine WS.step (fun K hK=>WG.mk ?_)
  go_simp
  refine hK.out _ ?_
  clear hK K;refine WS.step (fun K hK=>WG.mk ?_)
  go_simp
  refine hK.out _ ?_
  clear hK K;refine WS.step (fun K hK=>WG.mk ?_)
  go_simp
  refine hK.out _ ?_
  clear hK K;refine WS.step (fun K hK=>WG.mk ?_)
  go_simp
  refine hK.out _ ?_
  clear hK K;refine WS.step (fun K hK=>WG.mk ?_)
  go_simp
  refine hK.out _ ?_
  clear hK K;refine WS.nil ?_
  change wpList _ _ _ _ _ w3.drew
  have B4:KeptX (ShS (.slice bA bn bc) (.slice (some ⟨g,0,none⟩) s.2.1.length fc) ys) w w3.drew:=B3.step (ab w3);have hp4:=Below.some (ab w3) hp3;have hq4:=Below.some (ab w3) hq3;have hr4:=Below.some (ab w3) hr3;have hS4:=hS3.below (ab w3);have hs4:w.heap.size+3≤w3.drew.heap.size:=hs3;clear hcel e0 e1 e2 e3 f0 f1 f2 f3 k1 k2 k3 z1 z2 z3 hp3 hq3 hr3 hF hrow hS3 B3 hs3 hwy;generalize w3.drew=w4 at *;have k3:=ax hS4.fms.own (j:=i*4+3) (u:=.int .i64 f.2.2.2) (by rw [aE _ _ i f _ hgx hy 3 (by omega)];rfl);have z3:=aN hS4.fms.own (i*4+3);have hF5:=cv hS4.fms hi hy (x':=(f.1,f.2.1,f.2.2.1,f.2.2.2+n)) (k:=3) (v:=.int .i64 (f.2.2.2+n)) (by omega) (by rw [hfe]) (by rw [hfe];rfl)
  go_upto_region 17 with fail
  have hp5:(w4.setCell ⟨g,i*4+3,none⟩ (.int .i64 (f.2.2.2+n))).heap[w.heap.size]?=_:=(heap_setCell_other _ _ _ _ (by simp;omega)).trans hp4;have hq5:(w4.setCell ⟨g,i*4+3,none⟩ (.int .i64 (f.2.2.2+n))).heap[w.heap.size+1]?=_:=(heap_setCell_other _ _ _ _ (by simp;omega)).trans hq4;have hr5:(w4.setCell ⟨g,i*4+3,none⟩ (.int .i64 (f.2.2.2+n))).heap[w.heap.size+1+1]?=_:=(heap_setCell_other _ _ _ _ (by simp;omega)).trans hr4;have B5:KeptX (ShS (.slice bA bn bc) (.slice (some ⟨g,0,none⟩) s.2.1.length fc) ys) w (w4.setCell ⟨g,i*4+3,none⟩ (.int .i64 (f.2.2.2+n))):=B4.setO _ _ (.inl (.inr (.inl rfl)));have hv5:∀b,aA (.slice bA bn bc) b→(w4.setCell ⟨g,i*4+3,none⟩ (.int .i64 (f.2.2.2+n))).heap[b]?=w4.heap[b]?:=fun b hb=>heap_setCell_other _ _ _ _ (by
   have:=hS4.dis b hb;simp;exact fun e=>this (.inl (by rw [e];rfl)))
  have hs5:w4.heap.size≤(w4.setCell ⟨g,i*4+3,none⟩ (.int .i64 (f.2.2.2+n))).heap.size:=by simp [HJ]
  clear k3 z3 hp4 hq4 hr4 B4;generalize w4.setCell ⟨g,i*4+3,none⟩ (.int .i64 (f.2.2.2+n))=w5 at *;obtain⟨e0,e1,e2,e3⟩:=aa hp5;obtain⟨f0,f1,f2,f3⟩:=aa hq5;obtain⟨j0,j1,j2,j3⟩:=aG hp5
  go_upto_region 25 with fail
  clear e0 e1 e2 e3 f0 f1 f2 f3 j0 j1 j2 j3;have hlt4:=hS4.lt;have hpz:(w5.setCell ⟨w.heap.size,3,none⟩ (.int .i64 (s.2.2.2+n))).heap[w.heap.size]?=some (.cells #[.slice bA bn bc,.slice (some ⟨g,0,none⟩) s.2.1.length fc,.int .i64 s.2.2.1,.int .i64 (s.2.2.2+n)] 33 (0,0)):=heap_setCell_same _ _ 3 _ _ (.int .i64 (s.2.2.2+n)) hp5;have hrz:(w5.setCell ⟨w.heap.size,3,none⟩ (.int .i64 (s.2.2.2+n))).heap[w.heap.size+1+1]?=_:=(heap_setCell_other _ _ _ _ (by simp;omega)).trans hr5;have hk:∀b,b<w.heap.size→(w5.setCell ⟨w.heap.size,3,none⟩ (.int .i64 (s.2.2.2+n))).heap[b]?=w5.heap[b]?:=fun b hb=>heap_setCell_other _ _ _ _ (by simp;omega)
  obtain⟨hSz,hShz⟩:=pj (w':=w5.setCell ⟨w.heap.size,3,none⟩ (.int .i64 (s.2.2.2+n))) (x:=s.2.2.1) (y:=s.2.2.2+n) hS4 (fun b hb=>(hk b (hlt0 b (.inl hb)).2).trans (hv5 b hb)) (hF5.keep fun b hb=>hk b (hlt0 b (.inr hb)).2) (fun b hb=>.inl hb);have Bz:KeptX (ShS (.slice bA bn bc) (.slice (some ⟨g,0,none⟩) s.2.1.length fc) ys) w (w5.setCell ⟨w.heap.size,3,none⟩ (.int .i64 (s.2.2.2+n))):=B5.setO _ _ (.inr (HH _));have hszz:w4.heap.size≤(w5.setCell ⟨w.heap.size,3,none⟩ (.int .i64 (s.2.2.2+n))).heap.size:=by simp [HJ];exact hs5
  obtain⟨a0,a1,a2,a3⟩:=aa hpz;obtain⟨g0,g1,g2,g3⟩:=aa hrz;obtain⟨j0,j1,j2,j3⟩:=aG hrz
  go_wp2
  obtain⟨d0,d1,d2,d3⟩:=aa (aD (.slice bA bn bc) (.slice (some ⟨g,0,none⟩) s.2.1.length fc) (.int .i64 s.2.2.1) (.int .i64 (s.2.2.2+n)) hrz);refine bodyPost_ret (by simp [results,Try.results91,go_sem,d0,d1,d2,d3];try rfl) rfl ?_
  rw [hhH.out,←hatH.out,haOH.out,hbH.out,haSH.out];exact jT hSz Bz (by omega) (fun b hb=>by
   rcases hShz b hb with h | h
   ·have:=hlt0 b h
    omega
   ·omega) (fun b hb=>(hShz b hb).imp (fun h=>h) fun h=>by omega)
set_option maxRecDepth 100000
set_option maxHeartbeats 8000000 in
set_option maxRecDepth 1000000 in
theorem Dd (s:Sp) (hs:cK s) (hok:aW s=true) (id:Int) (u:ByteArray) (n:Int) (hx:cN (5,id,u,n)=true) (w:World) (B:Nat) (v Vb Vf:Value) (ys:List Value) (hS0:ShopAt w B v Vb Vf ys s) (hB:B≤w.heap.size) :
  Calls Try.prog 91 #[v,stV (5,id,u,n)] w (nG w B (ShS Vb Vf ys) (eR s.2.1 id&&cG s (atF s.2.1 id) (5,id,u,n)) (eU s (atF s.2.1 id) (5,id,u,n))):=by
 obtain⟨hfm,hgc,_,hlost⟩:=bv hok;obtain rfl:=hS0.val;obtain⟨bA,bn,bc,rfl⟩:=aU hS0.box;obtain⟨fA,fc,rfl⟩:=bt hS0.fms.own;have hlt0:=hS0.lt
 go_enter Try.func91,Try.ntmps91
 go_upto_region 1 with fail
 have hW:Below w.heap.size w (((w.alloc (.cells #[.slice bA bn bc,.slice fA s.2.1.length fc,.int .i64 s.2.2.1,.int .i64 s.2.2.2] 33)).alloc (.cells #[.int .i64 5,.int .i64 id,.string u,.int .i64 n] 46)).alloc (.cells #[.slice none 0 0,.slice none 0 0,.int .i64 0,.int .i64 0] 33)):=((HZ _ w).alloc (HH _) _).alloc (by simp) _ |>.alloc (by simp;omega) _;have hWs:w.heap.size+3≤(((w.alloc (.cells #[.slice bA bn bc,.slice fA s.2.1.length fc,.int .i64 s.2.2.1,.int .i64 s.2.2.2] 33)).alloc (.cells #[.int .i64 5,.int .i64 id,.string u,.int .i64 n] 46)).alloc (.cells #[.slice none 0 0,.slice none 0 0,.int .i64 0,.int .i64 0] 33)).heap.size:=by simp
 have hp:(((w.alloc (.cells #[.slice bA bn bc,.slice fA s.2.1.length fc,.int .i64 s.2.2.1,.int .i64 s.2.2.2] 33)).alloc (.cells #[.int .i64 5,.int .i64 id,.string u,.int .i64 n] 46)).alloc (.cells #[.slice none 0 0,.slice none 0 0,.int .i64 0,.int .i64 0] 33)).heap[w.heap.size]?=some (.cells #[.slice bA bn bc,.slice fA s.2.1.length fc,.int .i64 s.2.2.1,.int .i64 s.2.2.2] 33 (0,0)):=ah _ (ah _ (ac _ rfl));have hq:(((w.alloc (.cells #[.slice bA bn bc,.slice fA s.2.1.length fc,.int .i64 s.2.2.1,.int .i64 s.2.2.2] 33)).alloc (.cells #[.int .i64 5,.int .i64 id,.string u,.int .i64 n] 46)).alloc (.cells #[.slice none 0 0,.slice none 0 0,.int .i64 0,.int .i64 0] 33)).heap[w.heap.size+1]?=some (.cells #[.int .i64 5,.int .i64 id,.string u,.int .i64 n] 46 (0,0)):=ah _ (ac _ (by simp));have hr:(((w.alloc (.cells #[.slice bA bn bc,.slice fA s.2.1.length fc,.int .i64 s.2.2.1,.int .i64 s.2.2.2] 33)).alloc (.cells #[.int .i64 5,.int .i64 id,.string u,.int .i64 n] 46)).alloc (.cells #[.slice none 0 0,.slice none 0 0,.int .i64 0,.int .i64 0] 33)).heap[w.heap.size+1+1]?=some (.cells #[.slice none 0 0,.slice none 0 0,.int .i64 0,.int .i64 0] 33 (0,0)):=ac _ (by simp);have hS:=hS0.below hW;generalize (((w.alloc (.cells #[.slice bA bn bc,.slice fA s.2.1.length fc,.int .i64 s.2.2.1,.int .i64 s.2.2.2] 33)).alloc (.cells #[.int .i64 5,.int .i64 id,.string u,.int .i64 n] 46)).alloc (.cells #[.slice none 0 0,.slice none 0 0,.int .i64 0,.int .i64 0] 33))=W at *;have hc:=ic s id hs hok hS.rep (fun b hb=>(hS.lt b hb).2);obtain⟨e0,e1,e2,e3⟩:=aa hp;obtain⟨f0,f1,f2,f3⟩:=aa hq;cases hh:eR s.2.1 id
 ·rw [hh] at hc
  simp only [HR,if_false] at hc;have hhH:Hid (eR s.2.1 id=false):=hh
  go_upto_region 4 with (go_at_call 115;refine hc.mono ?_;rintro e w2 ⟨rfl,b2⟩)
  have B2:KeptX (ShS (.slice bA bn bc) (.slice fA s.2.1.length fc) ys) w w2:=(KeptX.ofBelow hW).step b2;have hr2:=Below.some b2 hr;clear hc hS hS0 hfm hgc hlt0 hs hok hx hlost hh;refine wp_region_still_lit (by kernel_rfl) (by kernel_rfl) (WS.out ?_)
  refine WS.step (fun K hK=>WG.mk ?_)
  go_simp
  refine hK.out _ ?_
  clear hK K;refine WS.step (fun K hK=>WG.mk ?_)
  go_simp
  refine hK.out _ ?_
  clear hK K;refine WS.step (fun K hK=>WG.mk ?_)
  go_simp
  refine hK.out _ ?_
  clear hK K;refine WS.step (fun K hK=>WG.mk ?_)
  go_simp
  refine hK.out _ ?_
  clear hK K;refine WS.step (fun K hK=>WG.mk ?_)
  go_simp
  refine hK.out _ ?_
  clear hK K;refine WS.step (fun K hK=>WG.mk ?_)
  go_simp
  refine hK.out _ ?_
  clear hK K;refine WS.step (fun K hK=>WG.mk ?_)
  go_simp
  refine hK.out _ ?_
  clear hK K;refine WS.step (fun K hK=>WG.mk ?_)
  go_simp
  refine hK.out _ ?_
  clear hK K;refine WS.step (fun K hK=>WG.mk ?_)
  go_simp
  refine hK.out _ ?_
  clear hK K;refine WS.step (fun K hK=>WG.mk ?_)
  go_simp
  refine hK.out _ ?_
  clear hK K;refine WS.step (fun K hK=>WG.mk ?_)
  go_simp
  refine hK.out _ ?_
  clear hK K;refine WS.step (fun K hK=>WG.mk ?_)
  go_simp
  refine hK.out _ ?_
  clear hK K;refine WS.step (fun K hK=>WG.mk ?_)
  go_simp
  refine hK.out _ ?_
  clear hK K;refine WS.step (fun K hK=>WG.mk ?_)
  go_simp
  refine hK.out _ ?_
  clear hK K;refine WS.step (fun K hK=>WG.mk ?_)
  go_simp
  refine hK.out _ ?_
  clear hK K;refine WS.step (fun K hK=>WG.mk ?_)
  go_simp
  refine hK.out _ ?_
  clear hK K;refine WS.step (fun K hK=>WG.mk ?_)
  go_simp
  refine hK.out _ ?_
  clear hK K;refine WS.step (fun K hK=>WG.mk ?_)
  go_simp
  refine hK.out _ ?_
  clear hK K;refine WS.step (fun K hK=>WG.mk ?_)
  go_simp
  refine hK.out _ ?_
  clear hK K;refine WS.nil ?_
  change Exit.then _ _ _ _ w2.drew
  have B3:KeptX (ShS (.slice bA bn bc) (.slice fA s.2.1.length fc) ys) w w2.drew:=B2.step (ab w2);have hr3:=Below.some (ab w2) hr2;generalize w2.drew=w3 at *;obtain⟨g0,g1,g2,g3⟩:=aa hr3;obtain⟨j0,j1,j2,j3⟩:=aG hr3
  go_wp2
  obtain⟨d0,d1,d2,d3⟩:=aa (aD (.slice none 0 0) (.slice none 0 0) (.int .i64 0) (.int .i64 0) hr3);refine bodyPost_ret (by simp [results,Try.results91,go_sem,d0,d1,d2,d3];try rfl) rfl ?_
  rw [hhH.out,HI];exact dN B3 (by omega)
 rw [hh] at hc;simp only [if_true] at hc;have hhH:Hid (eR s.2.1 id=true):=hh;obtain⟨hi,-⟩:=jt hh;obtain⟨i,hati⟩:∃i,i=atF s.2.1 id:=⟨_,rfl⟩
 rw [←hati] at hc hi;have hatH:Hid (i=atF s.2.1 id):=hati;clear hati;have haS:eU s i (5,id,u,n)=(s.1,s.2.1.set i (s.2.1[i].1,s.2.1[i].2.1.take (s.2.1[i].2.1.length - 1),s.2.1[i].2.2.1,s.2.1[i].2.2.2),s.2.2.1+1,s.2.2.2):=by
  unfold eU;rw [HB hi];simp
 have haO:cG s i (5,id,u,n)=(!s.2.1[i].2.2.1 && !decide (s.2.1[i].2.1.length=0)):=by
  unfold cG;rw [HB hi];simp
 have haSH:Hid _:=haS;have haOH:Hid _:=haO;have hfi:=hfm i hi
 go_upto_region 4 with (go_at_call 115;refine hc.mono ?_;rintro e w2 ⟨rfl,b2⟩)
 have B2:KeptX (ShS (.slice bA bn bc) (.slice fA s.2.1.length fc) ys) w w2:=(KeptX.ofBelow hW).step b2;have hp2:=Below.some b2 hp;have hq2:=Below.some b2 hq;have hr2:=Below.some b2 hr;have hS2:=hS.below b2;have hs2:=b2.size;clear hc hS hS0 haS haO hW b2 hp hq hr e0 e1 e2 e3 f0 f1 f2 f3 hh;obtain⟨g,rfl⟩:=dc hS2.fms.own (by omega);have hgl:=hlt0 g (.inr (.inl rfl));have hgx:s.2.1[i]?=some s.2.1[i]:=HB hi;have hpi:(i:Int)<(s.2.1.length:Int):=by omega
 have hset:=dE hfi;have hprt:=bL hfi;obtain⟨f,hf⟩:∃f,f=s.2.1[i]:=⟨_,rfl⟩
 rw [←hf] at hfi hgx hset hprt haOH haSH;obtain⟨y,hy⟩:∃y,ys[i]?=some y:=⟨ys[i]'(by rw [hS2.fms.len];exact hi),HB _⟩
 have k2:=ax hS2.fms.own (j:=i*4+2) (u:=.bool f.2.2.1) (by rw [aE _ _ i f _ hgx hy 2 (by omega)];rfl);obtain⟨e0,e1,e2,e3⟩:=aa hp2;obtain⟨f0,f1,f2,f3⟩:=aa hq2;have hnn:¬((i:Int)<0):=by omega
 cases hb:f.2.2.1
 ·rw [hb] at k2
  have hbH:Hid _:=hb;clear hb;refine wp_region_still_lit (by kernel_rfl) (by kernel_rfl) (WS.out ?_)
  refine WS.step (fun K hK=>WG.mk ?_)
  go_simp
  refine hK.out _ ?_
  clear hK K;refine WS.step (fun K hK=>WG.mk ?_)
  go_simp
  refine hK.out _ ?_
  clear hK K;refine WS.step (fun K hK=>WG.mk ?_)
  go_simp
  refine hK.out _ ?_
  clear hK K;refine WS.step (fun K hK=>WG.mk ?_)
  go_simp
  refine hK.out _ ?_
  clear hK K;refine WS.step (fun K hK=>WG.mk ?_)
  go_simp
  refine hK.out _ ?_
  clear hK K;refine WS.step (fun K hK=>WG.mk ?_)
  go_simp
  refine hK.out _ ?_
  clear hK K;refine WS.step (fun K hK=>WG.mk ?_)
  go_simp
  refine hK.out _ ?_
  clear hK K;refine WS.step (fun K hK=>WG.mk ?_)
  go_simp
  refine hK.out _ ?_
  clear hK K;refine WS.step (fun K hK=>WG.mk ?_)
  go_simp
  refine hK.out _ ?_
  clear hK K;refine WS.step (fun K hK=>WG.mk ?_)
  go_simp
  refine hK.out _ ?_
  clear hK K;refine WS.step (fun K hK=>WG.mk ?_)
  go_simp
  refine hK.out _ ?_
  clear hK K;refine WS.step (fun K hK=>WG.mk ?_)
  go_simp
  refine hK.out _ ?_
  clear hK K;refine WS.step (fun K hK=>WG.mk ?_)
  go_simp
  refine hK.out _ ?_
  clear hK K;refine WS.step (fun K hK=>WG.mk ?_)
  go_simp
  refine hK.out _ ?_
  clear hK K;refine WS.step (fun K hK=>WG.mk ?_)
  go_simp
  refine hK.out _ ?_
  clear hK K;refine WS.step (fun K hK=>WG.mk ?_)
  go_simp
  refine hK.out _ ?_
  clear hK K;refine WS.step (fun K hK=>WG.mk ?_)
  go_simp
  refine hK.out _ ?_
  clear hK K;refine WS.step (fun K hK=>WG.mk ?_)
  go_simp
  refine hK.out _ ?_
  clear hK K;refine WS.step (fun K hK=>WG.mk ?_)
  go_simp
  refine hK.out _ ?_
  clear hK K;refine WS.nil ?_
  change Exit.then _ _ _ _ w2.drew
  have B3:KeptX (ShS (.slice bA bn bc) (.slice (some ⟨g,0,none⟩) s.2.1.length fc) ys) w w2.drew:=B2.step (ab w2);have hp3:=Below.some (ab w2) hp2;have hq3:=Below.some (ab w2) hq2;have hr3:=Below.some (ab w2) hr2;have hS3:=hS2.below (ab w2);have hs3:w.heap.size+3≤w2.drew.heap.size:=HS hWs hs2;clear k2 e0 e1 e2 e3 f0 f1 f2 f3 hp2 hq2 hr2 hS2 B2 hWs hs2;generalize w2.drew=w3 at *;clear w2 W;have hF:=hS3.fms;have hrow:=hF.row i _ y hgx hy;obtain⟨Ay,cy,rfl⟩:=co hrow;rw [HK] at hy hrow;have k1:=ax hF.own (j:=i*4+1) (u:=.slice Ay f.2.1.length cy) (by rw [aE _ _ i f _ hgx hy 1 (by omega)];rfl);have k2:=ax hF.own (j:=i*4+2) (u:=.bool f.2.2.1) (by rw [aE _ _ i f _ hgx hy 2 (by omega)];rfl);rw [hbH.out] at k2;have k3:=ax hF.own (j:=i*4+3) (u:=.int .i64 f.2.2.2) (by rw [aE _ _ i f _ hgx hy 3 (by omega)];rfl);have z1:=aN hF.own (i*4+1);have z2:=aN hF.own (i*4+2);have z3:=aN hF.own (i*4+3);have hgp:g≠w.heap.size:=by omega
  have hfe:s.2.1[i]=f:=hf.symm;clear hf;have hcel:=fun(k:Nat) (v:Value) (x':Fm) hk hx hc=>cv hF hi hy (x':=x') (k:=k) (v:=v) hk hx hc
  rw [hfe] at hcel;obtain⟨e0,e1,e2,e3⟩:=aa hp3;obtain⟨f0,f1,f2,f3⟩:=aa hq3;have hwy:∀b,aA (.slice Ay f.2.1.length cy) b→b≠g:=fun b hb e=>(hF.blk i _ b hy hb).2 (by rw [e];rfl)
  by_cases hm:f.2.1.length=0
  ·have hr3':=hr3
   obtain⟨g0,g1,g2,g3⟩:=aa hr3';obtain⟨j0,j1,j2,j3⟩:=aG hr3'
   go_wp2
   obtain⟨d0,d1,d2,d3⟩:=aa (aD (.slice none 0 0) (.slice none 0 0) (.int .i64 0) (.int .i64 0) hr3');refine bodyPost_ret (by simp [results,Try.results91,go_sem,d0,d1,d2,d3];try rfl) rfl ?_
   have eO:(!f.2.2.1 && !decide (f.2.1.length=0))=false:=by simp [hm]
   rw [hhH.out,←hatH.out,haOH.out,eO];exact dN B3 (by omega)
  have hmI:¬((f.2.1.length:Int)=0):=by omega
  go_upto_region 23 with fail
  obtain⟨gy,oy,rfl,-,hlc⟩:=zi hrow (by simp;omega);rw [HK] at hlc;have hwm:HQ.wrap ((f.2.1.length:Int) - 1)=((f.2.1.length - 1:Nat):Int):=by rw [ao (by omega) (by omega)];omega
  have hwl:HQ.wrap (s.2.2.1+1)=s.2.2.1+1:=ao (by omega) (by omega);have hb1:(0:Int)≤((f.2.1.length - 1:Nat):Int):=by omega
  have hb2:((f.2.1.length - 1:Nat):Int)≤(cy:Int):=by omega
  refine wp_region_still_tail 12 (by kernel_rfl) (by kernel_rfl) (WS.out ?_)
  simp only [HV,Ic,HW,Ie];refine WS.step (fun K hK=>WG.mk ?_)
  go_simp
  refine hK.out _ ?_
  clear hK K;refine WS.step (fun K hK=>WG.mk ?_)
  go_simp
  refine hK.out _ ?_
  clear hK K;refine WS.step (fun K hK=>WG.mk ?_)
  go_simp
  refine hK.out _ ?_
  clear hK K;refine WS.step (fun K hK=>WG.mk ?_)
  go_simp
  refine hK.out _ ?_
  clear hK K;refine WS.step (fun K hK=>WG.mk ?_)
  go_simp
  refine hK.out _ ?_
  clear hK K;refine WS.step (fun K hK=>WG.mk ?_)
  go_simp
  refine hK.out _ ?_
  clear hK K;refine WS.step (fun K hK=>WG.mk ?_)
  go_simp
  refine hK.out _ ?_
  clear hK K;refine WS.step (fun K hK=>WG.mk ?_)
  go_simp
  refine hK.out _ ?_
  clear hK K;refine WS.step (fun K hK=>WG.mk ?_)
  go_simp
  refine hK.out _ ?_
  clear hK K;refine WS.step (fun K hK=>WG.mk ?_)
  go_simp
  refine hK.out _ ?_
  clear hK K;refine WS.step (fun K hK=>WG.mk ?_)
  go_simp
  refine hK.out _ ?_
  clear hK K;refine WS.step (fun K hK=>WG.mk ?_)
  go_simp
  refine hK.out _ ?_
  clear hK K;refine WS.nil ?_
  change wpList _ _ _ _ _ w3.drew
  have B4:KeptX (ShS (.slice bA bn bc) (.slice (some ⟨g,0,none⟩) s.2.1.length fc) ys) w w3.drew:=B3.step (ab w3);have hp4:=Below.some (ab w3) hp3;have hr4:=Below.some (ab w3) hr3;have hS4:=hS3.below (ab w3);have hrow4:=bf.below hrow (ab w3);have hs4:w.heap.size+3≤w3.drew.heap.size:=hs3;clear hcel e0 e1 e2 e3 f0 f1 f2 f3 k1 k2 k3 z1 z2 z3 hp3 hq3 hr3 hF hrow hS3 B3 hs3 hwy;generalize w3.drew=w4 at *;have hF:=hS4.fms;have k1:=ax hF.own (j:=i*4+1) (u:=.slice (some ⟨gy,oy,none⟩) f.2.1.length cy) (by rw [aE _ _ i f _ hgx hy 1 (by omega)];rfl);have z1:=aN hF.own (i*4+1)
  go_upto_region 24 with fail
  clear k1 z1;have hwy:∀b,aA (.slice (some ⟨gy,oy,none⟩) f.2.1.length cy) b→b≠g:=fun b hb e=>(hF.blk i _ b hy hb).2 (by rw [e];rfl)
  have hrow':=yA (i:=f.2.1.length - 1) hrow4 (by simp) (by simp;omega);rw [←List.map_take] at hrow';have hwg:∀b,b≠g→(w4.setCell ⟨g,i*4+1,none⟩ (.slice (some ⟨gy,oy,none⟩) (f.2.1.length - 1) cy)).heap[b]?=w4.heap[b]?:=fun b hb=>heap_setCell_other _ _ _ _ (by simpa using hb)
  have hgyb:∀b,aA (.slice (some ⟨gy,oy,none⟩) (f.2.1.length - 1) cy) b→aA (.slice (some ⟨gy,oy,none⟩) f.2.1.length cy) b:=fun b hb=>hb
  have hF5:=jQ (w':=w4.setCell ⟨g,i*4+1,none⟩ (.slice (some ⟨gy,oy,none⟩) (f.2.1.length - 1) cy)) (x:=(f.1,f.2.1.take (f.2.1.length - 1),f.2.2.1,f.2.2.2)) (y:=.slice (some ⟨gy,oy,none⟩) (f.2.1.length - 1) cy) hF hi (aJ hrow' fun b hb=>hwg b (hwy b (hgyb b hb))) (fun b hb=>⟨(hF.blk i _ b hy (hgyb b hb)).1,hwy b (hgyb b hb)⟩)
   (fun j z hj hz=>by have:=hF.dis i j _ z (fun e=>hj e.symm) hy hz;exact this) (fun j z b hj hz hb=>hwg b fun e=>(hF.blk j z b hz hb).2 (by rw [e];rfl))
   (by rw [gK s.2.1 ys i f (f.1,f.2.1.take (f.2.1.length - 1),f.2.2.1,f.2.2.2) _ _ (.slice (some ⟨gy,oy,none⟩) (f.2.1.length - 1) cy) 1 (by omega) hgx hy rfl];exact bN hF.own rfl _ _)
  have hp5:(w4.setCell ⟨g,i*4+1,none⟩ (.slice (some ⟨gy,oy,none⟩) (f.2.1.length - 1) cy)).heap[w.heap.size]?=_:=(hwg _ (fun e=>hgp e.symm)).trans hp4;have hr5:(w4.setCell ⟨g,i*4+1,none⟩ (.slice (some ⟨gy,oy,none⟩) (f.2.1.length - 1) cy)).heap[w.heap.size+1+1]?=_:=(hwg _ (by omega)).trans hr4;have B5:KeptX (ShS (.slice bA bn bc) (.slice (some ⟨g,0,none⟩) s.2.1.length fc) ys) w (w4.setCell ⟨g,i*4+1,none⟩ (.slice (some ⟨gy,oy,none⟩) (f.2.1.length - 1) cy)):=B4.setO _ _ (.inl (.inr (.inl rfl)));have hv5:∀b,aA (.slice bA bn bc) b→(w4.setCell ⟨g,i*4+1,none⟩ (.slice (some ⟨gy,oy,none⟩) (f.2.1.length - 1) cy)).heap[b]?=w4.heap[b]?:=fun b hb=>hwg b fun e=>hS4.dis b hb (.inl (by rw [e];rfl))
  have hs5:w4.heap.size≤(w4.setCell ⟨g,i*4+1,none⟩ (.slice (some ⟨gy,oy,none⟩) (f.2.1.length - 1) cy)).heap.size:=by simp [HJ]
  have hfo:∀b,FmS (.slice (some ⟨g,0,none⟩) s.2.1.length fc) (ys.set i (.slice (some ⟨gy,oy,none⟩) (f.2.1.length - 1) cy)) b→FmS (.slice (some ⟨g,0,none⟩) s.2.1.length fc) ys b:=fun b hb=>by
   rcases hb with hb | ⟨y,hy',hb⟩
   ·exact .inl hb
   ·rcases List.mem_or_eq_of_mem_set hy' with h | rfl
    ·exact .inr ⟨y,h,hb⟩
    ·exact .inr ⟨_,HL hy,hgyb b hb⟩
  clear hp4 hr4 B4 hwg hrow' hrow4;generalize w4.setCell ⟨g,i*4+1,none⟩ (.slice (some ⟨gy,oy,none⟩) (f.2.1.length - 1) cy)=w5 at *;obtain⟨e0,e1,e2,e3⟩:=aa hp5;obtain⟨j0,j1,j2,j3⟩:=aG hp5
  go_upto_region 25 with fail
  clear e0 e1 e2 e3 j0 j1 j2 j3;have hpz:(w5.setCell ⟨w.heap.size,2,none⟩ (.int .i64 (s.2.2.1+1))).heap[w.heap.size]?=some (.cells #[.slice bA bn bc,.slice (some ⟨g,0,none⟩) s.2.1.length fc,.int .i64 (s.2.2.1+1),.int .i64 s.2.2.2] 33 (0,0)):=heap_setCell_same _ _ 2 _ _ (.int .i64 (s.2.2.1+1)) hp5;have hrz:(w5.setCell ⟨w.heap.size,2,none⟩ (.int .i64 (s.2.2.1+1))).heap[w.heap.size+1+1]?=_:=(heap_setCell_other _ _ _ _ (by simp;omega)).trans hr5;have hk:∀b,b<w.heap.size→(w5.setCell ⟨w.heap.size,2,none⟩ (.int .i64 (s.2.2.1+1))).heap[b]?=w5.heap[b]?:=fun b hb=>heap_setCell_other _ _ _ _ (by simp;omega)
  obtain⟨hSz,hShz⟩:=pj (w':=w5.setCell ⟨w.heap.size,2,none⟩ (.int .i64 (s.2.2.1+1))) (x:=s.2.2.1+1) (y:=s.2.2.2) hS4 (fun b hb=>(hk b (hlt0 b (.inl hb)).2).trans (hv5 b hb)) (hF5.keep fun b hb=>hk b (hlt0 b (.inr (hfo b hb))).2) (fun b hb=>.inl (hfo b hb));have Bz:KeptX (ShS (.slice bA bn bc) (.slice (some ⟨g,0,none⟩) s.2.1.length fc) ys) w (w5.setCell ⟨w.heap.size,2,none⟩ (.int .i64 (s.2.2.1+1))):=B5.setO _ _ (.inr (HH _));have hszz:w4.heap.size≤(w5.setCell ⟨w.heap.size,2,none⟩ (.int .i64 (s.2.2.1+1))).heap.size:=by simp [HJ];exact hs5
  have eM:decide (f.2.1.length=0)=false:=decide_eq_false hm;have eMH:Hid _:=eM;clear eM;obtain⟨a0,a1,a2,a3⟩:=aa hpz;obtain⟨g0,g1,g2,g3⟩:=aa hrz;obtain⟨j0,j1,j2,j3⟩:=aG hrz
  go_wp2
  obtain⟨d0,d1,d2,d3⟩:=aa (aD (.slice bA bn bc) (.slice (some ⟨g,0,none⟩) s.2.1.length fc) (.int .i64 (s.2.2.1+1)) (.int .i64 s.2.2.2) hrz);refine bodyPost_ret (by simp [results,Try.results91,go_sem,d0,d1,d2,d3];try rfl) rfl ?_
  rw [hhH.out,←hatH.out,haOH.out,hbH.out,eMH.out,haSH.out];exact jT hSz Bz (by omega) (fun b hb=>by
   rcases hShz b hb with h | h
   ·have:=hlt0 b h
    omega
   ·omega) (fun b hb=>(hShz b hb).imp (fun h=>h) fun h=>by omega)
 ·rw [hb] at k2
  have hbH:Hid _:=hb;clear hb;refine wp_region_still_lit (by kernel_rfl) (by kernel_rfl) (WS.out ?_)
  refine WS.step (fun K hK=>WG.mk ?_)
  go_simp
  refine hK.out _ ?_
  clear hK K;refine WS.step (fun K hK=>WG.mk ?_)
  go_simp
  refine hK.out _ ?_
  clear hK K;refine WS.step (fun K hK=>WG.mk ?_)
  go_simp
  refine hK.out _ ?_
  clear hK K;refine WS.step (fun K hK=>WG.mk ?_)
  go_simp
  refine hK.out _ ?_
  clear hK K;refine WS.step (fun K hK=>WG.mk ?_)
  go_simp
  refine hK.out _ ?_
  clear hK K;refine WS.step (fun K hK=>WG.mk ?_)
  go_simp
  refine hK.out _ ?_
  clear hK K;refine WS.step (fun K hK=>WG.mk ?_)
  go_simp
  refine hK.out _ ?_
  clear hK K;refine WS.step (fun K hK=>WG.mk ?_)
  go_simp
  refine hK.out _ ?_
  clear hK K;refine WS.step (fun K hK=>WG.mk ?_)
  go_simp
  refine hK.out _ ?_
  clear hK K;refine WS.step (fun K hK=>WG.mk ?_)
  go_simp
  refine hK.out _ ?_
  clear hK K;refine WS.step (fun K hK=>WG.mk ?_)
  go_simp
  refine hK.out _ ?_
  clear hK K;refine WS.step (fun K hK=>WG.mk ?_)
  go_simp
  refine hK.out _ ?_
  clear hK K;refine WS.step (fun K hK=>WG.mk ?_)
  go_simp
  refine hK.out _ ?_
  clear hK K;refine WS.step (fun K hK=>WG.mk ?_)
  go_simp
  refine hK.out _ ?_
  clear hK K;refine WS.step (fun K hK=>WG.mk ?_)
  go_simp
  refine hK.out _ ?_
  clear hK K;refine WS.step (fun K hK=>WG.mk ?_)
  go_simp
  refine hK.out _ ?_
  clear hK K;refine WS.step (fun K hK=>WG.mk ?_)
  go_simp
  refine hK.out _ ?_
  clear hK K;refine WS.step (fun K hK=>WG.mk ?_)
  go_simp
  refine hK.out _ ?_
  clear hK K;refine WS.step (fun K hK=>WG.mk ?_)
  go_simp
  refine hK.out _ ?_
  clear hK K;refine WS.nil ?_
  change Exit.then _ _ _ _ w2.drew
  have B3:KeptX (ShS (.slice bA bn bc) (.slice (some ⟨g,0,none⟩) s.2.1.length fc) ys) w w2.drew:=B2.step (ab w2);have hr3:=Below.some (ab w2) hr2;generalize w2.drew=w3 at *;obtain⟨g0,g1,g2,g3⟩:=aa hr3;obtain⟨j0,j1,j2,j3⟩:=aG hr3
  go_wp2
  obtain⟨d0,d1,d2,d3⟩:=aa (aD (.slice none 0 0) (.slice none 0 0) (.int .i64 0) (.int .i64 0) hr3);refine bodyPost_ret (by simp [results,Try.results91,go_sem,d0,d1,d2,d3];try rfl) rfl ?_
  rw [hhH.out,←hatH.out,haOH.out,hbH.out,Bool.not_true,HI];exact dN B3 (by omega)
set_option maxRecDepth 100000
set_option maxHeartbeats 8000000 in
set_option maxRecDepth 1000000 in
theorem EI (s:Sp) (hs:cK s) (hok:aW s=true) (id:Int) (u:ByteArray) (n:Int) (hx:cN (6,id,u,n)=true) (w:World) (B:Nat) (v Vb Vf:Value) (ys:List Value) (hS0:ShopAt w B v Vb Vf ys s) (hB:B≤w.heap.size) :
  Calls Try.prog 91 #[v,stV (6,id,u,n)] w (nG w B (ShS Vb Vf ys) (eR s.2.1 id&&cG s (atF s.2.1 id) (6,id,u,n)) (eU s (atF s.2.1 id) (6,id,u,n))):=by
 obtain⟨hfm,hgc,_,hlost⟩:=bv hok;obtain rfl:=hS0.val;obtain⟨bA,bn,bc,rfl⟩:=aU hS0.box;obtain⟨fA,fc,rfl⟩:=bt hS0.fms.own;have hlt0:=hS0.lt
 go_enter Try.func91,Try.ntmps91
 go_upto_region 1 with fail
 have hW:Below w.heap.size w (((w.alloc (.cells #[.slice bA bn bc,.slice fA s.2.1.length fc,.int .i64 s.2.2.1,.int .i64 s.2.2.2] 33)).alloc (.cells #[.int .i64 6,.int .i64 id,.string u,.int .i64 n] 46)).alloc (.cells #[.slice none 0 0,.slice none 0 0,.int .i64 0,.int .i64 0] 33)):=((HZ _ w).alloc (HH _) _).alloc (by simp) _ |>.alloc (by simp;omega) _;have hWs:w.heap.size+3≤(((w.alloc (.cells #[.slice bA bn bc,.slice fA s.2.1.length fc,.int .i64 s.2.2.1,.int .i64 s.2.2.2] 33)).alloc (.cells #[.int .i64 6,.int .i64 id,.string u,.int .i64 n] 46)).alloc (.cells #[.slice none 0 0,.slice none 0 0,.int .i64 0,.int .i64 0] 33)).heap.size:=by simp
 have hp:(((w.alloc (.cells #[.slice bA bn bc,.slice fA s.2.1.length fc,.int .i64 s.2.2.1,.int .i64 s.2.2.2] 33)).alloc (.cells #[.int .i64 6,.int .i64 id,.string u,.int .i64 n] 46)).alloc (.cells #[.slice none 0 0,.slice none 0 0,.int .i64 0,.int .i64 0] 33)).heap[w.heap.size]?=some (.cells #[.slice bA bn bc,.slice fA s.2.1.length fc,.int .i64 s.2.2.1,.int .i64 s.2.2.2] 33 (0,0)):=ah _ (ah _ (ac _ rfl));have hq:(((w.alloc (.cells #[.slice bA bn bc,.slice fA s.2.1.length fc,.int .i64 s.2.2.1,.int .i64 s.2.2.2] 33)).alloc (.cells #[.int .i64 6,.int .i64 id,.string u,.int .i64 n] 46)).alloc (.cells #[.slice none 0 0,.slice none 0 0,.int .i64 0,.int .i64 0] 33)).heap[w.heap.size+1]?=some (.cells #[.int .i64 6,.int .i64 id,.string u,.int .i64 n] 46 (0,0)):=ah _ (ac _ (by simp));have hr:(((w.alloc (.cells #[.slice bA bn bc,.slice fA s.2.1.length fc,.int .i64 s.2.2.1,.int .i64 s.2.2.2] 33)).alloc (.cells #[.int .i64 6,.int .i64 id,.string u,.int .i64 n] 46)).alloc (.cells #[.slice none 0 0,.slice none 0 0,.int .i64 0,.int .i64 0] 33)).heap[w.heap.size+1+1]?=some (.cells #[.slice none 0 0,.slice none 0 0,.int .i64 0,.int .i64 0] 33 (0,0)):=ac _ (by simp);have hS:=hS0.below hW;generalize (((w.alloc (.cells #[.slice bA bn bc,.slice fA s.2.1.length fc,.int .i64 s.2.2.1,.int .i64 s.2.2.2] 33)).alloc (.cells #[.int .i64 6,.int .i64 id,.string u,.int .i64 n] 46)).alloc (.cells #[.slice none 0 0,.slice none 0 0,.int .i64 0,.int .i64 0] 33))=W at *;have hc:=ic s id hs hok hS.rep (fun b hb=>(hS.lt b hb).2);obtain⟨e0,e1,e2,e3⟩:=aa hp;obtain⟨f0,f1,f2,f3⟩:=aa hq;cases hh:eR s.2.1 id
 ·rw [hh] at hc
  simp only [HR,if_false] at hc;have hhH:Hid (eR s.2.1 id=false):=hh
  go_upto_region 4 with (go_at_call 115;refine hc.mono ?_;rintro e w2 ⟨rfl,b2⟩)
  have B2:KeptX (ShS (.slice bA bn bc) (.slice fA s.2.1.length fc) ys) w w2:=(KeptX.ofBelow hW).step b2;have hr2:=Below.some b2 hr;clear hc hS hS0 hfm hgc hlt0 hs hok hx hlost hh;refine wp_region_still_lit (by kernel_rfl) (by kernel_rfl) (WS.out ?_)
  refine WS.step (fun K hK=>WG.mk ?_)
  go_simp
  refine hK.out _ ?_
  clear hK K;refine WS.step (fun K hK=>WG.mk ?_)
  go_simp
  refine hK.out _ ?_
  clear hK K;refine WS.step (fun K hK=>WG.mk ?_)
  go_simp
  refine hK.out _ ?_
  clear hK K;refine WS.step (fun K hK=>WG.mk ?_)
  go_simp
  refine hK.out _ ?_
  clear hK K;refine WS.step (fun K hK=>WG.mk ?_)
  go_simp
  refine hK.out _ ?_
  clear hK K;refine WS.step (fun K hK=>WG.mk ?_)
  go_simp
  refine hK.out _ ?_
  clear hK K;refine WS.step (fun K hK=>WG.mk ?_)
  go_simp
  refine hK.out _ ?_
  clear hK K;refine WS.step (fun K hK=>WG.mk ?_)
  go_simp
  refine hK.out _ ?_
  clear hK K;refine WS.step (fun K hK=>WG.mk ?_)
  go_simp
  refine hK.out _ ?_
  clear hK K;refine WS.step (fun K hK=>WG.mk ?_)
  go_simp
  refine hK.out _ ?_
  clear hK K;refine WS.step (fun K hK=>WG.mk ?_)
  go_simp
  refine hK.out _ ?_
  clear hK K;refine WS.step (fun K hK=>WG.mk ?_)
  go_simp
  refine hK.out _ ?_
  clear hK K;refine WS.step (fun K hK=>WG.mk ?_)
  go_simp
  refine hK.out _ ?_
  clear hK K;refine WS.step (fun K hK=>WG.mk ?_)
  go_simp
  refine hK.out _ ?_
  clear hK K;refine WS.step (fun K hK=>WG.mk ?_)
  go_simp
  refine hK.out _ ?_
  clear hK K;refine WS.step (fun K hK=>WG.mk ?_)
  go_simp
  refine hK.out _ ?_
  clear hK K;refine WS.step (fun K hK=>WG.mk ?_)
  go_simp
  refine hK.out _ ?_
  clear hK K;refine WS.step (fun K hK=>WG.mk ?_)
  go_simp
  refine hK.out _ ?_
  clear hK K;refine WS.step (fun K hK=>WG.mk ?_)
  go_simp
  refine hK.out _ ?_
  clear hK K;refine WS.nil ?_
  change Exit.then _ _ _ _ w2.drew
  have B3:KeptX (ShS (.slice bA bn bc) (.slice fA s.2.1.length fc) ys) w w2.drew:=B2.step (ab w2);have hr3:=Below.some (ab w2) hr2;generalize w2.drew=w3 at *;obtain⟨g0,g1,g2,g3⟩:=aa hr3;obtain⟨j0,j1,j2,j3⟩:=aG hr3
  go_wp2
  obtain⟨d0,d1,d2,d3⟩:=aa (aD (.slice none 0 0) (.slice none 0 0) (.int .i64 0) (.int .i64 0) hr3);refine bodyPost_ret (by simp [results,Try.results91,go_sem,d0,d1,d2,d3];try rfl) rfl ?_
  rw [hhH.out,HI];exact dN B3 (by omega)
 rw [hh] at hc;simp only [if_true] at hc;have hhH:Hid (eR s.2.1 id=true):=hh;obtain⟨hi,-⟩:=jt hh;obtain⟨i,hati⟩:∃i,i=atF s.2.1 id:=⟨_,rfl⟩
 rw [←hati] at hc hi;have hatH:Hid (i=atF s.2.1 id):=hati;clear hati;have haS:eU s i (6,id,u,n)=(br (aK s.1) 1 s.1 s.2.1[i].2.1,s.2.1.take i++s.2.1.drop (i+1),s.2.2.1,s.2.2.2):=by
  unfold eU;rw [HB hi];simp
 have haO:cG s i (6,id,u,n)=(!s.2.1[i].2.2.1&&bI (br (aK s.1) 1 s.1 s.2.1[i].2.1)):=by
  unfold cG;rw [HB hi];simp
 have haSH:Hid _:=haS;have haOH:Hid _:=haO;have hfi:=hfm i hi
 go_upto_region 4 with (go_at_call 115;refine hc.mono ?_;rintro e w2 ⟨rfl,b2⟩)
 have B2:KeptX (ShS (.slice bA bn bc) (.slice fA s.2.1.length fc) ys) w w2:=(KeptX.ofBelow hW).step b2;have hp2:=Below.some b2 hp;have hq2:=Below.some b2 hq;have hr2:=Below.some b2 hr;have hS2:=hS.below b2;have hs2:=b2.size;clear hc hS hS0 haS haO hW b2 hp hq hr e0 e1 e2 e3 f0 f1 f2 f3 hh;obtain⟨g,rfl⟩:=dc hS2.fms.own (by omega);have hgl:=hlt0 g (.inr (.inl rfl));have hgx:s.2.1[i]?=some s.2.1[i]:=HB hi;have hpi:(i:Int)<(s.2.1.length:Int):=by omega
 have hset:=dE hfi;have hprt:=bL hfi;obtain⟨f,hf⟩:∃f,f=s.2.1[i]:=⟨_,rfl⟩
 rw [←hf] at hfi hgx hset hprt haOH haSH;obtain⟨y,hy⟩:∃y,ys[i]?=some y:=⟨ys[i]'(by rw [hS2.fms.len];exact hi),HB _⟩
 have k2:=ax hS2.fms.own (j:=i*4+2) (u:=.bool f.2.2.1) (by rw [aE _ _ i f _ hgx hy 2 (by omega)];rfl);obtain⟨e0,e1,e2,e3⟩:=aa hp2;obtain⟨f0,f1,f2,f3⟩:=aa hq2;have hnn:¬((i:Int)<0):=by omega
 cases hb:f.2.2.1
 ·rw [hb] at k2
  have hbH:Hid _:=hb;clear hb;refine wp_region_still_lit (by kernel_rfl) (by kernel_rfl) (WS.out ?_)
  refine WS.step (fun K hK=>WG.mk ?_)
  go_simp
  refine hK.out _ ?_
  clear hK K;refine WS.step (fun K hK=>WG.mk ?_)
  go_simp
  refine hK.out _ ?_
  clear hK K;refine WS.step (fun K hK=>WG.mk ?_)
  go_simp
  refine hK.out _ ?_
  clear hK K;refine WS.step (fun K hK=>WG.mk ?_)
  go_simp
  refine hK.out _ ?_
  clear hK K;refine WS.step (fun K hK=>WG.mk ?_)
  go_simp
  refine hK.out _ ?_
  clear hK K;refine WS.step (fun K hK=>WG.mk ?_)
  go_simp
  refine hK.out _ ?_
  clear hK K;refine WS.step (fun K hK=>WG.mk ?_)
  go_simp
  refine hK.out _ ?_
  clear hK K;refine WS.step (fun K hK=>WG.mk ?_)
  go_simp
  refine hK.out _ ?_
  clear hK K;refine WS.step (fun K hK=>WG.mk ?_)
  go_simp
  refine hK.out _ ?_
  clear hK K;refine WS.step (fun K hK=>WG.mk ?_)
  go_simp
  refine hK.out _ ?_
  clear hK K;refine WS.step (fun K hK=>WG.mk ?_)
  go_simp
  refine hK.out _ ?_
  clear hK K;refine WS.step (fun K hK=>WG.mk ?_)
  go_simp
  refine hK.out _ ?_
  clear hK K;refine WS.step (fun K hK=>WG.mk ?_)
  go_simp
  refine hK.out _ ?_
  clear hK K;refine WS.step (fun K hK=>WG.mk ?_)
  go_simp
  refine hK.out _ ?_
  clear hK K;refine WS.step (fun K hK=>WG.mk ?_)
  go_simp
  refine hK.out _ ?_
  clear hK K;refine WS.step (fun K hK=>WG.mk ?_)
  go_simp
  refine hK.out _ ?_
  clear hK K;refine WS.step (fun K hK=>WG.mk ?_)
  go_simp
  refine hK.out _ ?_
  clear hK K;refine WS.step (fun K hK=>WG.mk ?_)
  go_simp
  refine hK.out _ ?_
  clear hK K;refine WS.step (fun K hK=>WG.mk ?_)
  go_simp
  refine hK.out _ ?_
  clear hK K;refine WS.nil ?_
  change Exit.then _ _ _ _ w2.drew
  have B3:KeptX (ShS (.slice bA bn bc) (.slice (some ⟨g,0,none⟩) s.2.1.length fc) ys) w w2.drew:=B2.step (ab w2);have hp3:=Below.some (ab w2) hp2;have hq3:=Below.some (ab w2) hq2;have hr3:=Below.some (ab w2) hr2;have hS3:=hS2.below (ab w2);have hs3:w.heap.size+3≤w2.drew.heap.size:=HS hWs hs2;clear k2 e0 e1 e2 e3 f0 f1 f2 f3 hp2 hq2 hr2 hS2 B2 hWs hs2;generalize w2.drew=w3 at *;clear w2 W;have hF:=hS3.fms;have hrow:=hF.row i _ y hgx hy;obtain⟨Ay,cy,rfl⟩:=co hrow;rw [HK] at hy hrow;have k1:=ax hF.own (j:=i*4+1) (u:=.slice Ay f.2.1.length cy) (by rw [aE _ _ i f _ hgx hy 1 (by omega)];rfl);have k2:=ax hF.own (j:=i*4+2) (u:=.bool f.2.2.1) (by rw [aE _ _ i f _ hgx hy 2 (by omega)];rfl);rw [hbH.out] at k2;have k3:=ax hF.own (j:=i*4+3) (u:=.int .i64 f.2.2.2) (by rw [aE _ _ i f _ hgx hy 3 (by omega)];rfl);have z1:=aN hF.own (i*4+1);have z2:=aN hF.own (i*4+2);have z3:=aN hF.own (i*4+3);have hgp:g≠w.heap.size:=by omega
  have hfe:s.2.1[i]=f:=hf.symm;clear hf;have hcel:=fun(k:Nat) (v:Value) (x':Fm) hk hx hc=>cv hF hi hy (x':=x') (k:=k) (v:=v) hk hx hc
  rw [hfe] at hcel;obtain⟨e0,e1,e2,e3⟩:=aa hp3;obtain⟨f0,f1,f2,f3⟩:=aa hq3;have hwy:∀b,aA (.slice Ay f.2.1.length cy) b→b≠g:=fun b hb e=>(hF.blk i _ b hy hb).2 (by rw [e];rfl)
  have hin:=BD hfi
  go_upto_region 8 with fail
  have hpd:=Below.some (ab w3) hp3;have hSd:=hS3.below (ab w3);have hrowd:=bf.below hrow (ab w3);have k1d:w3.drew.cell? ⟨g,i*4+1,none⟩=some (.slice Ay f.2.1.length cy):=k1;obtain⟨m0,m1,m2,m3⟩:=aa hpd;have hc:=qL s.1 f.2.1 1 hs.1 (by omega) hin (dW hSd.box) (cd hSd.box) (dW hrowd) (cd hrowd);clear e0 e1 e2 e3 f0 f1 f2 f3 k1 k2 k3 z1 z2 z3 hcel
  go_region_held3 (fun w'=>w'.cell? ⟨w.heap.size,0,none⟩=some (.slice bA bn bc)∧w'.cell? ⟨g,i*4+1,none⟩=some (.slice Ay f.2.1.length cy)) (first | (refine⟨?_,?_⟩<;>assumption) | go_keep)
   (first
    | (go_at_call 49;refine hc.mono ?_;intro e wk hout;obtain⟨A9,n9,c9,rfl,ownk,hvk,bk⟩:=hout;have hpk:=Below.some bk hpd;have hSk:=hSd.below bk;obtain⟨r0,r1,r2,r3⟩:=aa hpk;have k1k:=ax hSk.fms.own (j:=i*4+1) (u:=.slice Ay f.2.1.length cy) (by rw [aE _ _ i f _ hgx hy 1 (by omega)];rfl))
    | fail)
  have hrk:=Below.some bk (Below.some (ab w3) hr3);have Bk:KeptX (ShS (.slice bA bn bc) (.slice (some ⟨g,0,none⟩) s.2.1.length fc) ys) w wk:=(B3.step (ab w3)).step bk;have hsk:w3.heap.size≤wk.heap.size:=bk.size;have hvk':∀b,aA (.slice A9 n9 c9) b→w3.heap.size≤b∧b<wk.heap.size:=hvk;clear hc m0 m1 m2 m3 r0 r1 r2 r3 k1d k1k hpd hSd hrowd bk hp3 hr3 hS3 B3 hF hrow hvk hwy hq3;cases hgo:bI (br (aK s.1) 1 s.1 f.2.1)
  ·have hgoH:Hid _:=hgo
   clear hgo;obtain⟨g0,g1,g2,g3⟩:=aa hrk;obtain⟨j0,j1,j2,j3⟩:=aG hrk
   go_wp2
   obtain⟨d0,d1,d2,d3⟩:=aa (aD (.slice none 0 0) (.slice none 0 0) (.int .i64 0) (.int .i64 0) hrk);refine bodyPost_ret (by simp [results,Try.results91,go_sem,d0,d1,d2,d3];try rfl) rfl ?_
   rw [hhH.out,←hatH.out,haOH.out,hgoH.out,Bool.and_false];exact dN Bk (by omega)
  have em:mvd s.1 f.2.1 1=br (aK s.1) 1 s.1 f.2.1:=by
   unfold mvd;rw [if_pos hgo]
  rw [em] at ownk;have hgoH:Hid _:=hgo;clear hgo em;have hkk:∀b,b≠w.heap.size→(wk.setCell ⟨w.heap.size,0,none⟩ (.slice A9 n9 c9)).heap[b]?=wk.heap[b]?:=fun b hb=>heap_setCell_other _ _ _ _ (by simpa using hb)
  have hp4:(wk.setCell ⟨w.heap.size,0,none⟩ (.slice A9 n9 c9)).heap[w.heap.size]?=some (.cells #[.slice A9 n9 c9,.slice (some ⟨g,0,none⟩) s.2.1.length fc,.int .i64 s.2.2.1,.int .i64 s.2.2.2] 33 (0,0)):=heap_setCell_same _ _ 0 _ _ (.slice A9 n9 c9) hpk;have hr4:=(hkk (w.heap.size+1+1) (by omega)).trans hrk;have hF4:=hSk.fms.keep (w':=wk.setCell ⟨w.heap.size,0,none⟩ (.slice A9 n9 c9)) fun b hb=>hkk b (by have:=hlt0 b (.inr hb);omega)
  have own4:=aJ (w':=wk.setCell ⟨w.heap.size,0,none⟩ (.slice A9 n9 c9)) ownk fun b hb=>hkk b (by have:=hvk' b hb;omega)
  have B4:KeptX (ShS (.slice bA bn bc) (.slice (some ⟨g,0,none⟩) s.2.1.length fc) ys) w (wk.setCell ⟨w.heap.size,0,none⟩ (.slice A9 n9 c9)):=Bk.setO _ _ (.inr (HH _));have hs4:wk.heap.size≤(wk.setCell ⟨w.heap.size,0,none⟩ (.slice A9 n9 c9)).heap.size:=by simp [HJ]
  obtain⟨e0,e1,e2,e3⟩:=aa hpk;obtain⟨f0,f1,f2,f3⟩:=aG hpk
  go_upto_region 12 with fail
  clear e0 e1 e2 e3 f0 f1 f2 f3;generalize wk.setCell ⟨w.heap.size,0,none⟩ (.slice A9 n9 c9)=w4 at *;have h9:∀b,aA (.slice A9 n9 c9) b→w3.heap.size≤b∧b<w4.heap.size:=fun b hb=>by have:=hvk' b hb;omega
  clear hpk hrk hSk ownk hvk' Bk hkk;have hpl4:=aB hp4;have hrl4:=aB hr4;have hlt4:=hF4.lt;have hat:i≤s.2.1.length:=Nat.le_of_lt hi;have hBN:B≤w4.heap.size:=by omega
  have hbc:i≤fc:=HS hat (ji hF4).1;have hcl:s.2.1.length≤fc:=(ji hF4).1;have hln:=(ji hF4).2;have hw1:HQ.wrap ((i:Int)+1)=(i:Int)+1:=ao (by omega) (by omega);have hb1:(0:Int)≤(i:Int):=by omega
  have hb2:(i:Int)≤(fc:Int):=by omega
  have hb3:(0:Int)≤(i:Int)+1:=by omega
  have hb4:(i:Int)+1≤(s.2.1.length:Int):=by omega
  have hb5:((i:Int)+1).toNat=i+1:=by omega
  obtain⟨i2,hi2,hx0,hx1,hx2⟩:=info_parts fy;obtain⟨e0,e1,e2,e3⟩:=aa hp4;have hX0:Below w4.heap.size w4 w4.drew:=ab w4;have hSd:w4.drew.cell? ⟨w.heap.size,1,none⟩=some (.slice (some ⟨g,0,none⟩) s.2.1.length fc)∧w4.drew.cell? ⟨w.heap.size,0,none⟩=some (.slice A9 n9 c9):=⟨e1,e0⟩
  have hcells:Hid (∀X:World,Below w4.heap.size w4 X→X.cell? ⟨w.heap.size,1,none⟩=some (.slice (some ⟨g,0,none⟩) s.2.1.length fc)∧X.cell? ⟨w.heap.size,0,none⟩=some (.slice A9 n9 c9)):=fun X hX=>⟨(aa ((hX.block _ hpl4).trans hp4)).2.1,(aa ((hX.block _ hpl4).trans hp4)).1⟩
  have hfmsX:Hid (∀X:World,Below w4.heap.size w4 X→FmsAt X B (.slice (some ⟨g,0,none⟩) s.2.1.length fc) ys s.2.1):=fun X hX=>hF4.keep fun b hb=>hX.block b (hlt4 b hb).2
  clear hfm hgc hx hset hprt hfi hin;refine bO (l:=[_,_,_,_,_,_,_,_,_,_,_,_,_]) (o:=_) (S:=fun w'=>w'.cell? ⟨w.heap.size,1,none⟩=some (.slice (some ⟨g,0,none⟩) s.2.1.length fc)∧w'.cell? ⟨w.heap.size,0,none⟩=some (.slice A9 n9 c9)) (by kernel_rfl) (by kernel_rfl) hSd (fun hHeld=>?_)
  change wpAnyH _ _ _ _ _ 13 (Array.replicate 13 false) _ _
  generalize w4.drew=W0 at *;have hX:=hX0;refine wpAnyH_take (i:=1) (oi:=_) (v:=?vc1) rfl (by kernel_rfl) (by kernel_rfl) (by kernel_rfl) (fun _ _ _ h=>h) (HM ⟨by rfl,?yc1⟩) hHeld ?rc1
  case yc1=>(intro w0 hSw;obtain⟨hSw0,hSw1⟩:=hSw;go_simp;try with_reducible rfl)
  (try simp only [HG,HA,HC,HD])
  refine wpAnyH_take (i:=2) (oi:=_) (v:=?vc2) rfl (by kernel_rfl) (by kernel_rfl) (by kernel_rfl) (fun _ _ _ h=>h) (HM ⟨by rfl,?yc2⟩) hHeld ?rc2
  case yc2=>(intro w0 hSw;obtain⟨hSw0,hSw1⟩:=hSw;go_simp;try with_reducible rfl)
  (try simp only [HG,HA,HC,HD])
  refine wpAnyH_take (i:=3) (oi:=_) (v:=?vc3) rfl (by kernel_rfl) (by kernel_rfl) (by kernel_rfl) (fun _ _ _ h=>h) (HM ⟨by rfl,?yc3⟩) hHeld ?rc3
  case yc3=>(intro w0 hSw;obtain⟨hSw0,hSw1⟩:=hSw;go_simp;try with_reducible rfl)
  (try simp only [HG,HA,HC,HD])
  refine wpAnyH_take (i:=4) (oi:=_) (v:=?vc4) rfl (by kernel_rfl) (by kernel_rfl) (by kernel_rfl) (fun _ _ _ h=>h) (HM ⟨by rfl,?yc4⟩) hHeld ?rc4
  case yc4=>(intro w0 hSw;obtain⟨hSw0,hSw1⟩:=hSw;go_simp;try with_reducible rfl)
  (try simp only [HG,HA,HC,HD])
  refine wpAnyH_take (i:=6) (oi:=_) (v:=?vc5) rfl (by kernel_rfl) (by kernel_rfl) (by kernel_rfl) (fun _ _ _ h=>h) (HM ⟨by rfl,?yc5⟩) hHeld ?rc5
  case yc5=>(intro w0 hSw;obtain⟨hSw0,hSw1⟩:=hSw;go_simp;try with_reducible rfl)
  (try simp only [HG,HA,HC,HD])
  refine wpAnyH_take (i:=7) (oi:=_) (v:=?vc6) rfl (by kernel_rfl) (by kernel_rfl) (by kernel_rfl) (fun _ _ _ h=>h) (HM ⟨by rfl,?yc6⟩) hHeld ?rc6
  case yc6=>(intro w0 hSw;obtain⟨hSw0,hSw1⟩:=hSw;go_simp;try with_reducible rfl)
  (try simp only [HG,HA,HC,HD])
  refine wpAnyH_take (i:=8) (oi:=_) (v:=?vc7) rfl (by kernel_rfl) (by kernel_rfl) (by kernel_rfl) (fun _ _ _ h=>h) (HM ⟨by rfl,?yc7⟩) hHeld ?rc7
  case yc7=>(intro w0 hSw;obtain⟨hSw0,hSw1⟩:=hSw;go_simp;try with_reducible rfl)
  (try simp only [HG,HA,HC,HD])
  refine wpAnyH_take (i:=9) (oi:=_) (v:=?vc8) rfl (by kernel_rfl) (by kernel_rfl) (by kernel_rfl) (fun _ _ _ h=>h) (HM ⟨by rfl,?yc8⟩) hHeld ?rc8
  case yc8=>(intro w0 hSw;obtain⟨hSw0,hSw1⟩:=hSw;go_simp;try with_reducible rfl)
  (try simp only [HG,HA,HC,HD])
  refine wpAnyH_take (i:=10) (oi:=_) (v:=?vc9) rfl (by kernel_rfl) (by kernel_rfl) (by kernel_rfl) (fun _ _ _ h=>h) (HM ⟨by rfl,?yc9⟩) hHeld ?rc9
  case yc9=>(intro w0 hSw;obtain⟨hSw0,hSw1⟩:=hSw;go_simp;try with_reducible rfl)
  (try simp only [HG,HA,HC,HD])
  refine wpAnyH_ready (rs:=[0]) (by kernel_rfl) (by simp) ?_
  refine HT (o:=_) rfl (fun K hK=>?_) ?_
  ·go_simp
   have hX:=hX.alloc hX.size (.cells #[] 75);have hE:(W0.alloc (.cells #[] 75)).heap[W0.heap.size]?=some (.cells #[] 75 (0,0)):=ac _ (by simp);refine hK.out _ _ ?_ (fun hHeld=>?_)
   ·exact hcells.out _ hX
   clear hK K
   (try simp only [HG,HA,HC,HD])
   refine wpAnyH_ready (rs:=[5]) (by kernel_rfl) (by simp) ?_
   refine HT (o:=_) rfl (fun K hK=>?_) ?_
   ·refine af _ rfl _ _ 31 rfl B 75 i2 (.agg #[.int .i64 0,.slice none 0 0,.bool false,.int .i64 0]) 4 48 Try.underlying31 hi2 hx0 hx1 hx2 rfl (by decide) (.slice (some ⟨W0.heap.size,0,none⟩) 0 0) 0 [] (by simp [go_sem];done) (bR hE (by have:=hX0.size;omega)) (some ⟨g,0,none⟩) i fc (aV (s.2.1.take i) (ys.take i)) (by simp [go_sem,sliced];done) (by rw [bD _ _ (by simp [hF4.len]),HX,Ia hat]) (fun _=>⟨g,0,rfl,gH (hfmsX.out _ hX) hat⟩) (ck _ _ fun y hy=>cR hF4 y (HN hy)) (by unfold maxLen;omega) (by omega) (by have:=hX.size;omega) ?_
    intro v5 w5 hown5 hg5 hat5;have htk:=iR (hfmsX.out _ hX) i;have hV1:=bE (dI hE (B:=B) (by have:=hX0.size;omega)) (m:=s.2.1.take i) (zs:=ys.take i) (by have:=hX.size;omega) (by rw [HX,Ia hat];exact hown5) hg5 hat5 (by simp [hF4.len]) htk.1 (fun j y b hj hb=>by
     obtain⟨h1,_⟩:=htk.2.1 j y b hj hb;have h2:=(hlt4 b (.inr ⟨y,HN (HL hj),hb⟩)).2;refine⟨h1,Nat.lt_of_lt_of_le h2 hX.size,fun h=>?_⟩
     rcases h with h | ⟨_,h,_⟩
     ·have e:W0.heap.size=b:=HE h
      have:=hX0.size;omega
     ·cases h) htk.2.2
    rw [Ib,Ib] at hV1;have hf1:∀b,FmS v5 (ys.take i) b→FmS (.slice (some ⟨g,0,none⟩) s.2.1.length fc) ys b∨w4.heap.size≤b:=fun b hb=>by
     rcases hb with hb | ⟨z,hz,hzb⟩
     ·rcases hat5 with h | h
      ·have e:some b=some (W0.heap.size):=hb.symm.trans h
       have:=HE e;have:=hX0.size;exact .inr (by omega)
      ·have e:some b=some ((W0.alloc (.cells #[] 75)).heap.size):=hb.symm.trans h
       have:=HE e;have:=hX.size;exact .inr (by omega)
     ·exact .inl (.inr ⟨z,HN hz,hzb⟩)
    have hge5:∀b,aA v5 b→w4.heap.size≤b:=fun b hb=>by
     rcases hat5 with h | h
     ·have e:some b=some (W0.heap.size):=hb.symm.trans h
      have:=HE e;have:=hX0.size;omega
     ·have e:some b=some ((W0.alloc (.cells #[] 75)).heap.size):=hb.symm.trans h
      have:=HE e;have:=hX.size;omega
    have hX:=hX.grown hg5 hX.size (fun k hk=>by have e:W0.heap.size=k:=HE hk;have:=hX0.size;omega);obtain⟨A5,n5,c5,rfl⟩:=am hV1.own;clear hat5;refine hK.out _ _ ?_ (fun hHeld=>?_)
    ·exact hcells.out _ hX
    clear hK K
    (try simp only [HG,HA,HC,HD])
    refine wpAnyH_ready (rs:=[11]) (by kernel_rfl) (by simp) ?_
    refine HT (o:=_) rfl (fun K hK=>?_) ?_
    ·refine af _ rfl _ _ 31 rfl B 75 i2 (.agg #[.int .i64 0,.slice none 0 0,.bool false,.int .i64 0]) 4 48 Try.underlying31 hi2 hx0 hx1 hx2 rfl (by decide) (.slice A5 n5 c5) _ _ (by simp [go_sem];done) hV1.own (if fc=i+1 then some ⟨g,0,none⟩ else some ⟨g,(i+1)*4,none⟩) (s.2.1.length - (i+1)) (fc - (i+1)) (aV (s.2.1.drop (i+1)) (ys.drop (i+1))) (by simp [go_sem,sliced];done) (by rw [bD _ _ (by simp [hF4.len]),HY]) (fun h0=>⟨g,(i+1)*4,by rw [if_neg (by omega)],fP (hfmsX.out _ hX) (i+1) (by omega)⟩) (ck _ _ fun y hy=>cR hF4 y (HO hy)) (by unfold maxLen;simp;try omega) (by simp;try omega) (by have:=hX.size;omega) ?_
     intro v6 w6 hown6 hg6 hat6;have hdr:=gZ (hfmsX.out _ hX) (i+1);have hV2:=bE hV1 (m:=s.2.1.drop (i+1)) (zs:=ys.drop (i+1)) (by have:=hX.size;omega) (by rw [HY];exact hown6) hg6 hat6 (by simp [hF4.len]) hdr.1 (fun j y b hj hb=>by
      obtain⟨h1,h2,h3,h4⟩:=hdr.2.1 j y b hj hb;have h5:=(hlt4 b (.inr ⟨y,HO (HL hj),hb⟩)).2;refine⟨h1,h2,fun h=>?_⟩
      rcases h with h | ⟨z,hz,hzb⟩
      ·have:=hge5 b h
       omega
      ·exact h4 i (by omega) z hz hzb) hdr.2.2
     have hf2:∀b,FmS v6 (ys.take i++ys.drop (i+1)) b→FmS (.slice (some ⟨g,0,none⟩) s.2.1.length fc) ys b∨w4.heap.size≤b:=fun b hb=>by
      rcases hb with hb | ⟨z,hz,hzb⟩
      ·rcases hat6 with h | h
       ·exact hf1 b (.inl (hb.symm.trans h).symm)
       ·have e:some b=some (w5.heap.size):=hb.symm.trans h
        have:=HE e;have:=hX.size;exact .inr (by omega)
      ·rcases List.mem_append.1 hz with hz | hz
       ·exact hf1 b (.inr ⟨z,hz,hzb⟩)
       ·exact .inl (.inr ⟨z,HO hz,hzb⟩)
     have hX:=hX.grown hg6 hX.size (fun k hk=>hge5 k hk);obtain⟨A6,n6,c6,rfl⟩:=am hV2.own;clear hat6;refine hK.out _ _ ?_ (fun hHeld=>?_)
     ·exact hcells.out _ hX
     clear hK K
     (try simp only [HG,HA,HC,HD])
     refine wpAnyH_take (i:=12) (oi:=_) (v:=?vc10) rfl (by kernel_rfl) (by kernel_rfl) (by kernel_rfl) (fun _ _ _ h=>h) (HM ⟨by rfl,?yc10⟩) hHeld ?rc10
     case yc10=>(intro w0 hSw;obtain⟨hSw0,hSw1⟩:=hSw;go_simp;try with_reducible rfl)
     (try simp only [HG,HA,HC,HD])
     refine aL (by kernel_rfl) ?_
     have hp5:=(hX.block _ hpl4).trans hp4;have hr5:=(hX.block _ hrl4).trans hr4;have g1:=(aa hp5).2.1;have h1:=(aG hp5).2.1;have hpz:(w6.setCell ⟨w.heap.size,1,none⟩ (.slice A6 n6 c6)).heap[w.heap.size]?=some (.cells #[.slice A9 n9 c9,.slice A6 n6 c6,.int .i64 s.2.2.1,.int .i64 s.2.2.2] 33 (0,0)):=heap_setCell_same _ _ 1 _ _ (.slice A6 n6 c6) hp5;have hkz:∀b,b≠w.heap.size→(w6.setCell ⟨w.heap.size,1,none⟩ (.slice A6 n6 c6)).heap[b]?=w6.heap[b]?:=fun b hb=>heap_setCell_other _ _ _ _ (by simpa using hb)
     have hrz:=(hkz (w.heap.size+1+1) (by omega)).trans hr5;have hb6:∀b,FmS (.slice A6 n6 c6) (ys.take i++ys.drop (i+1)) b→b<w.heap.size∨w4.heap.size≤b:=fun b hb=>(hf2 b hb).imp (fun h=>(hlt0 b (.inr h)).2) fun h=>h
     have hSz:ShopAt (w6.setCell ⟨w.heap.size,1,none⟩ (.slice A6 n6 c6)) B (.agg #[.slice A9 n9 c9,.slice A6 n6 c6,.int .i64 s.2.2.1,.int .i64 s.2.2.2]) (.slice A9 n9 c9) (.slice A6 n6 c6) (ys.take i++ys.drop (i+1)) (br (aK s.1) 1 s.1 f.2.1,s.2.1.take i++s.2.1.drop (i+1),s.2.2.1,s.2.2.2) :=
      ⟨rfl,aJ own4 fun b hb=>(hkz b (by have:=h9 b hb;omega)).trans (hX.block b (h9 b hb).2),fun b hb=>by have:=h9 b hb;omega,hV2.keep fun b hb=>hkz b (by have:=hb6 b hb;omega),fun b hb h=>by have:=h9 b hb;have:=hb6 b h;omega⟩
     have Bz:KeptX (ShS (.slice bA bn bc) (.slice (some ⟨g,0,none⟩) s.2.1.length fc) ys) w (w6.setCell ⟨w.heap.size,1,none⟩ (.slice A6 n6 c6)):=(B4.step hX).setO _ _ (.inr (HH _));have hrb:∀b,ShS (.slice A9 n9 c9) (.slice A6 n6 c6) (ys.take i++ys.drop (i+1)) b→w.heap.size+1+1≠b:=fun b hb=>by
      rcases hb with hb | hb
      ·have:=h9 b hb
       omega
      ·have:=hb6 b hb
       omega
     have hsub:∀b,ShS (.slice A9 n9 c9) (.slice A6 n6 c6) (ys.take i++ys.drop (i+1)) b→ShS (.slice bA bn bc) (.slice (some ⟨g,0,none⟩) s.2.1.length fc) ys b∨w.heap.size≤b:=fun b hb=>by
      rcases hb with hb | hb
      ·exact .inr (by have:=h9 b hb;omega)
      ·exact(hf2 b hb).imp .inr fun h=>by omega
     go_simp
     generalize w6.setCell ⟨w.heap.size,1,none⟩ (.slice A6 n6 c6)=w8 at *;obtain⟨a0,a1,a2,a3⟩:=aa hpz;obtain⟨g0',g1',g2',g3'⟩:=aa hrz;obtain⟨j0',j1',j2',j3'⟩:=aG hrz;clear g1 h1
     go_wp2
     all_goals (
      obtain⟨d0,d1,d2,d3⟩:=aa (aD (.slice A9 n9 c9) (.slice A6 n6 c6) (.int .i64 s.2.2.1) (.int .i64 s.2.2.2) hrz);refine bodyPost_ret (by simp [results,Try.results91,go_sem,d0,d1,d2,d3];try rfl) rfl ?_
      rw [hhH.out,←hatH.out,haOH.out,hbH.out,hgoH.out,haSH.out];exact jT hSz Bz (by omega) hrb hsub)
    exact HU
   exact HU
  exact HU
 ·rw [hb] at k2
  have hbH:Hid _:=hb;clear hb;refine wp_region_still_lit (by kernel_rfl) (by kernel_rfl) (WS.out ?_)
  refine WS.step (fun K hK=>WG.mk ?_)
  go_simp
  refine hK.out _ ?_
  clear hK K;refine WS.step (fun K hK=>WG.mk ?_)
  go_simp
  refine hK.out _ ?_
  clear hK K;refine WS.step (fun K hK=>WG.mk ?_)
  go_simp
  refine hK.out _ ?_
  clear hK K;refine WS.step (fun K hK=>WG.mk ?_)
  go_simp
  refine hK.out _ ?_
  clear hK K;refine WS.step (fun K hK=>WG.mk ?_)
  go_simp
  refine hK.out _ ?_
  clear hK K;refine WS.step (fun K hK=>WG.mk ?_)
  go_simp
  refine hK.out _ ?_
  clear hK K;refine WS.step (fun K hK=>WG.mk ?_)
  go_simp
  refine hK.out _ ?_
  clear hK K;refine WS.step (fun K hK=>WG.mk ?_)
  go_simp
  refine hK.out _ ?_
  clear hK K;refine WS.step (fun K hK=>WG.mk ?_)
  go_simp
  refine hK.out _ ?_
  clear hK K;refine WS.step (fun K hK=>WG.mk ?_)
  go_simp
  refine hK.out _ ?_
  clear hK K;refine WS.step (fun K hK=>WG.mk ?_)
  go_simp
  refine hK.out _ ?_
  clear hK K;refine WS.step (fun K hK=>WG.mk ?_)
  go_simp
  refine hK.out _ ?_
  clear hK K;refine WS.step (fun K hK=>WG.mk ?_)
  go_simp
  refine hK.out _ ?_
  clear hK K;refine WS.step (fun K hK=>WG.mk ?_)
  go_simp
  refine hK.out _ ?_
  clear hK K;refine WS.step (fun K hK=>WG.mk ?_)
  go_simp
  refine hK.out _ ?_
  clear hK K;refine WS.step (fun K hK=>WG.mk ?_)
  go_simp
  refine hK.out _ ?_
  clear hK K;refine WS.step (fun K hK=>WG.mk ?_)
  go_simp
  refine hK.out _ ?_
  clear hK K;refine WS.step (fun K hK=>WG.mk ?_)
  go_simp
  refine hK.out _ ?_
  clear hK K;refine WS.step (fun K hK=>WG.mk ?_)
  go_simp
  refine hK.out _ ?_
  clear hK K;refine WS.nil ?_
  change Exit.then _ _ _ _ w2.drew
  have B3:KeptX (ShS (.slice bA bn bc) (.slice (some ⟨g,0,none⟩) s.2.1.length fc) ys) w w2.drew:=B2.step (ab w2);have hr3:=Below.some (ab w2) hr2;generalize w2.drew=w3 at *;obtain⟨g0,g1,g2,g3⟩:=aa hr3;obtain⟨j0,j1,j2,j3⟩:=aG hr3
  go_wp2
  obtain⟨d0,d1,d2,d3⟩:=aa (aD (.slice none 0 0) (.slice none 0 0) (.int .i64 0) (.int .i64 0) hr3);refine bodyPost_ret (by simp [results,Try.results91,go_sem,d0,d1,d2,d3];try rfl) rfl ?_
  rw [hhH.out,←hatH.out,haOH.out,hbH.out,Bool.not_true,HI];exact dN B3 (by omega)
end Go.Proofs.Ytkcojipciiakdaa

end
