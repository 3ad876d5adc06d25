/-
  A part of the proof: contracts and plain forms of functions beneath the statement, made small by a program (names shortened, what is not needed left out).
-/
import Derived.Test.YtankikbbdfgkbaaRows
import Derived.Test.YtankikbbdfgkbaaM9
import Derived.Deep.RegionHeld3
import Derived.Deep.DrawnRows
open Go.IntKind renaming i64 → IM
open Go.Proofs renaming enters_of → IP
open List renaming length_map → IQ
open Option renaming bind_some → IU
set_option maxRecDepth 100000
set_option linter.unusedSimpArgs false
set_option linter.unusedVariables false
noncomputable section
namespace Go.Proofs.Ytankikbbdfgkbaa
open Go Go.Proofs Go.V Go.RowKit
theorem qT (x:Stp) (n:Int) (h:x.2.2.1.size≤9223372036854775807) (h0:0≤n) (h1:n≤1048576):∃m,es [stp x,I n]=some (.ret [I m] [])∧m≤n∧(0≤m→x.2.2.1.size≤1048576):=by
 rw [pM];have hw:IM.wrap (n - x.2.2.1.size)=n - x.2.2.1.size:=ak (by omega) (by omega);by_cases hn:n - (x.2.2.1.size:Int)<0
 ·exact⟨-1,by simp -implicitDefEqProofs [hw,hn],by omega,by omega⟩
 ·exact⟨n - x.2.2.1.size,by simp -implicitDefEqProofs [hw,hn],by omega,by omega⟩
def EC (l:List Stp):Prop:=l.length≤1048576∧∀x∈l,x.2.2.1.size≤1048576
theorem oO (l:List Stp) (n:Int) (h:l.length≤9223372036854775807∧∀x∈l,x.2.2.1.size≤9223372036854775807) (h0:0≤n) (h1:n≤1048576):∃m,dM [gI l,I n]=some (.ret [I m] [])∧m≤n∧(0≤m→EC l):=by
 have hl:=h.1;rw [pf];have hw:IM.wrap (n - l.length)=n - l.length:=ak (by omega) (by omega);by_cases hn:n - (l.length:Int)<0
 ·exact⟨-1,by simp -implicitDefEqProofs [hw,hn],by omega,by omega⟩
 simp -implicitDefEqProofs [hw,hn];refine qz (R:=fun X=>∃m,X=some (.ret [I m] [])∧m≤n∧(0≤m→EC l)) l (fun i m=>[gI l,I m,I i]) (fun x=>x.2.2.1.size≤1048576) (fun i hi m g0 g1=>?_) (fun m=>?_) (n - l.length) (by omega) (by omega) rfl ?_ (fun m g0 g1 gP=>?_)
 ·have hwi:IM.wrap ((i:Int)+1)=(i:Int)+1:=ak (by omega) (by omega)
  obtain⟨m',e,k1,k2⟩:=qT l[i] m (h.2 _ (List.getElem_mem hi)) g0 g1;by_cases hm:m'<0
  ·exact .inl (by simp -implicitDefEqProofs [hi,e,hm])
  ·exact .inr ⟨m',by simp -implicitDefEqProofs [hi,e,hm,hwi],by omega,k1,k2 (by omega)⟩
 ·simp -implicitDefEqProofs
 ·exact⟨-1,by simp -implicitDefEqProofs,by omega,by omega⟩
 ·exact⟨m,by simp -implicitDefEqProofs,by omega,fun _=>⟨by omega,gP⟩⟩
theorem qG (x:Stp):eB [stp x]=some (.ret [stp x] []):=by
 rw [qv];simp -implicitDefEqProofs
theorem px (l:List Stp) (h:l.length≤1048576):fM [gI l]=some (.ret [gI l] []):=by
 rw [pr];have h1:l.length*40≤140737488355328:=by omega
 have h2:l.length≤140737488355328:=by omega
 simp only [cd,IQ,IU,uB,Nat.le_refl,h1,h2,and_self,if_true];rw [oT (f:=stp) (l:=l)];refine aO (.ext 0 [gI l]) (cg l.length (fun i=>[gI l,.arr 4 (je stp (stp (0,0,⟨#[]⟩,0)) l i),I i]) _ (fun i hi=>?_) ?_ rfl rfl) ?_
 ·have hx:=List.getElem?_eq_getElem hi
  have hg:=rh (f:=stp) (z:=stp (0,0,⟨#[]⟩,0)) hi;have hs:=rl (f:=stp) (z:=stp (0,0,⟨#[]⟩,0)) hx;have hw:IM.wrap ((i:Int)+1)=(i:Int)+1:=ak (by omega) (by omega);simp -implicitDefEqProofs [hi,qG,Nat.le_of_lt hi,CB hg,hs,hw]
 ·simp [oG]
 ·simp
theorem qi (x:Stp):er [stp x,stp x]=some (.ret [B true] []):=by
 rw [qB];simp -implicitDefEqProofs
theorem oU (l:List Stp) (h:l.length≤1048577):fI [gI l,gI l]=some (.ret [B true] []):=by
 rw [pc];simp only [cd,IQ,IU,mZ,decide_true,Bool.not_true,tW,Bool.false_eq_true,if_false];refine aO _ (cg l.length (fun i=>[gI l,gI l,I i]) (.ext 0 []) (fun i hi=>?_) ?_ rfl rfl) ?_
 ·have hw:IM.wrap ((i:Int)+1)=(i:Int)+1:=ak (by omega) (by omega)
  simp -implicitDefEqProofs [hi,qi,hw]
 ·simp
 ·simp
def AN (k:Int) (j:Nat):Stp:=(k+4*j,k+4*j+1,mtx (k+4*j+2),k+4*j+3)
def GH (k:Int) (n:Nat):List Stp:=(List.range n).map (AN k)
theorem lY (l:List Stp) (k:Int) (h:l.length≤1048577) (h1:0<k) (h2:k≤1000000000):eJ [gI l,I k]=some (.ret [I (k+4*l.length)] [gI (GH k l.length)]):=by
 rw [mP];refine aO _ (cg l.length (fun i=>[.arr 4 (gC (fun j=>stp (AN k j)) stp l i),I (k+4*i),I i]) (.ext 0 [gI (GH k l.length),I (k+4*l.length)]) (fun i hi=>?_) ?_ rfl ?_) ?_
 ·have hw:IM.wrap ((i:Int)+1)=(i:Int)+1:=ak (by omega) (by omega)
  have w1:IM.wrap (k+4*(i:Int)+1)=k+4*i+1:=ak (by omega) (by omega);have w2:IM.wrap (k+4*(i:Int)+1+1)=k+4*i+2:=by rw [ak (by omega) (by omega)];omega
  have w3:IM.wrap (k+4*(i:Int)+2+1)=k+4*i+3:=by rw [ak (by omega) (by omega)];omega
  have w4:IM.wrap (k+4*(i:Int)+3+1)=k+4*(i+1):=by rw [ak (by omega) (by omega)];omega
  have hm:=ji (k+4*i+2) (by omega) (by omega);have hg:=rK (g:=fun j=>stp (AN k j)) (f:=stp) hi;have hs:=rF (g:=fun j=>stp (AN k j)) (f:=stp) hi;have hl:=kT (g:=fun j=>stp (AN k j)) (f:=stp) (Nat.le_of_lt hi);generalize gC (fun j=>stp (AN k j)) stp l i=L at *;have s1:=gd (z:=4) (f:=0) (v:=.int .i64 (k+4*i)) hg (by simp);have s2:=gd (z:=4) (L:=L.set i (.agg [I (k+4*i),I l[i].2.1,T l[i].2.2.1,I l[i].2.2.2])) (i:=i) (f:=1) (v:=.int .i64 (k+4*i+1)) (c:=[I (k+4*i),I l[i].2.1,T l[i].2.2.1,I l[i].2.2.2]) (by simp [hl,hi]) (by simp);have s3:=gd (z:=4) (L:=L.set i (.agg [I (k+4*i),I (k+4*i+1),T l[i].2.2.1,I l[i].2.2.2])) (i:=i) (f:=2) (v:=.string (mtx (k+4*i+2))) (c:=[I (k+4*i),I (k+4*i+1),T l[i].2.2.1,I l[i].2.2.2]) (by simp [hl,hi]) (by simp);have s4:=gd (z:=4) (L:=L.set i (.agg [I (k+4*i),I (k+4*i+1),T (mtx (k+4*i+2)),I l[i].2.2.2])) (i:=i) (f:=3) (v:=.int .i64 (k+4*i+3)) (c:=[I (k+4*i),I (k+4*i+1),T (mtx (k+4*i+2)),I l[i].2.2.2]) (by simp [hl,hi]) (by simp);simp only [sn,List.take_zero,List.nil_append,List.length_singleton,Nat.zero_add,List.drop_succ_cons,List.drop_zero,List.singleton_append,List.take_succ_cons,List.cons_append,Nat.reduceAdd,List.set_set,List.drop_nil] at s1 s2 s3 s4;simp [hi,hl,hw,hm,w1,w2,w3,w4,s1,s2,s3,s4];exact hs
 ·simp [pA,GH,AN]
 ·simp [oN (g:=fun j=>stp (AN k j)) (f:=stp)]
 ·simp
theorem ry (l:List Stp) (n m:Int) (hm:dM [gI l,I n]=some (.ret [I m] [])) {w:World} {F:Nat→Prop} {y:Value} (hr:aM w F (gI l) y) (hF:∀b,F b→b<w.heap.size) :
  Calls Try.prog 23 #[y,.int .i64 n] w fun e w'=>e = .returned (.int .i64 m)∧Below w.heap.size w w' :=
 jd (IP Try.func23 (by kernel_rfl) rfl) pk hm hr hF
theorem rE (l:List Stp) (h:l.length≤1048577) {w:World} {F F':Nat→Prop} {y y':Value} (hr:aM w F (gI l) y) (hF:∀b,F b→b<w.heap.size) (hr':aM w F' (gI l) y') (hF':∀b,F' b→b<w.heap.size) :
  Calls Try.prog 27 #[y,y'] w fun e w'=>e = .returned (.bool true)∧Below w.heap.size w w' :=
 ve (IP Try.func27 (by kernel_rfl) rfl) pb (oU l h) hr hF hr' hF'
theorem oP (l:List Stp) (k:Int) (h:l.length≤1048577) (h1:0<k) (h2:k≤1000000000) {w:World} {y:Value} (hy:aW w (fun _=>False) (aw y) 4 (gI l) y) (hb:∀b,aw y b→b<w.heap.size) :
  Calls Try.prog 28 #[y,.int .i64 k] w fun e w'=>e = .returned (.int .i64 (k+4*l.length))∧aW w' (fun _=>False) (aw y) 4 (gI (GH k l.length)) y∧KeptX (aw y) w w' :=
 pl (IP Try.func28 (by kernel_rfl) rfl) mN (lY l k h h1 h2) hy hb
theorem eW (l:List Stp) (h:l.length≤1048576) {w:World} {F:Nat→Prop} {y:Value} (hr:aM w F (gI l) y) (hF:∀b,F b→b<w.heap.size) :
  Calls Try.prog 25 #[y] w fun e w'=>∃A n c,e = .returned (.slice A n c)∧aW w' (fun _=>False) (aw (.slice A n c)) 4 (gI l) (.slice A n c)∧(∀b,aw (.slice A n c) b→w.heap.size≤b∧b<w'.heap.size)∧Below w.heap.size w w' :=
 uq (IP Try.func25 (by kernel_rfl) rfl) pj (px l h) (by simp) hr hF
attribute [local go_sem ↓] Go.wp_at_zero Go.wp_at_succ
theorem DC {s:Sp} (h:aT s=true):bZ s.2.1≤1000:=by
 obtain⟨h1,_,h2,_⟩:=bw h;have key:∀l:List Fm,(∀x∈l,x.2.1.length≤40)→bZ l≤43*l.length:=by
  intro l;induction l with
  | nil=>intro _;simp [bZ]
  | cons x l ih =>
   intro hx;have h3:=ih fun y hy=>hx y (by simp [hy])
   have h4:=hx x (by simp);simp only [bZ,List.length_cons];omega
 have:=key s.2.1 fun x hx=>by
  obtain⟨j,hj,rfl⟩:=List.getElem_of_mem hx;exact dD (h1 j hj)
 omega
theorem GY {s:Sp} (l:List Stp) (h:cr s):cr (lO s l)∧bZ (lO s l).2.1≤1000:=by
 unfold lO;split
 ·rename_i hb
  unfold lP at hb;simp only [Bool.and_eq_true] at hb;obtain⟨h1,h2,_⟩:=Bw h hb.1 l;exact⟨h1,DC h2⟩
 ·exact⟨⟨by simp [mu],by simp [BZ]⟩,by simp [bZ]⟩
set_option maxHeartbeats 16000000 in
set_option maxRecDepth 1000000 in
theorem An (s:Sp) (hs:DI s) (l:List Stp) (hl:l.length≤9223372036854775807∧∀x∈l,x.2.2.1.size≤9223372036854775807) (v0 vl:Value) (w:World) (F:Nat→Prop) (hr:aM w F (sp s) v0) (hrl:aM w F (gI l) vl) (hF:∀b,F b→b<w.heap.size) :
  Calls Try.prog 6 #[v0,vl] w fun e w'=>e = .returned (.bool true)∧Below w.heap.size w w':=by
 obtain⟨A,n,c,A',n',c',rfl,hb0,hf0⟩:=dS hr;obtain⟨lA,lc,rfl⟩:=Bh hrl;rw [IQ] at hrl ⊢;obtain⟨m,em,m0,m1⟩:=Gi s hs
 go_enter Try.func6,Try.ntmps6
 have B0:∀o,Below w.heap.size w (w.alloc o):=fun o=>aU w o
 have rep:∀{W:World},Below w.heap.size w W→aM W F (sp s) (.agg #[.slice A n c,.slice A' n' c',.int .i64 s.2.2.1,.int .i64 s.2.2.2]):=fun {W} h=>aG (fun _ h=>h) (fun b hb=>h.block b (hF b hb)) hr
 have repL:∀{W:World},Below w.heap.size w W→aM W F (gI l) (.slice lA l.length lc):=fun {W} h=>aG (fun _ h=>h) (fun b hb=>h.block b (hF b hb)) hrl
 have hFW:∀{W:World},Below w.heap.size w W→∀b,F b→b<W.heap.size:=fun {W} h b hb=>Nat.lt_of_lt_of_le (hF b hb) h.size
 have hc1:=fun o=>AA s m em (rep (B0 o)) (hFW (B0 o))
 go_wp2_with (go_at_call 7;refine(hc1 _).mono ?_)
 rintro e w1 ⟨rfl,b1⟩;have bx:w1.heap[w.heap.size]?=some (.cells #[.slice A n c,.slice A' n' c',.int .i64 s.2.2.1,.int .i64 s.2.2.2] 25 (0,0)):=Below.some b1 (ae _ rfl);have B1:Below w.heap.size w w1:=aR (B0 _) b1 (by simp);clear b1 hc1;by_cases hm:m<0
 ·go_wp2
  go_ret
  exact⟨rfl,B1⟩
 obtain⟨hok,htot⟩:=m1 (by omega);obtain⟨m2,e2,g1,g2⟩:=oO l m hl (by omega) m0;have hcz:=ry l m m2 e2 (repL B1) (hFW B1)
 go_wp2_with (go_at_call 23;refine hcz.mono ?_)
 rintro e w1' ⟨rfl,b1⟩;replace bx:=Below.some b1 bx;replace B1:=aR B1 b1 B1.size;clear b1 hcz;by_cases hm2:m2<0
 ·go_wp2
  go_ret
  exact⟨rfl,B1⟩
 obtain⟨hl1',hl2'⟩:=g2 (by omega);obtain⟨hRok,hRtot⟩:=GY l hok;have hRl:=hRok.1.1;have hc2:=jC s hok _ w1' F (rep B1) (hFW B1);obtain⟨cb0,cb1,cb2,cb3⟩:=aa bx
 go_wp2_with (go_at_call 9;refine hc2.mono ?_)
 rintro e w2 ⟨va,Va,ga,capa,ya,rfl,sa,b2⟩;clear hc2 cb0 cb1 cb2 cb3;replace bx:=Below.some b2 bx;have B2:=aR B1 b2 B1.size;have hct:=eW l hl1' (repL B2) (hFW B2)
 go_wp2_with (go_at_call 25;refine hct.mono ?_)
 rintro e w2' ⟨tA,tn,tc,rfl,ot,ftt,bt⟩;replace sa:=sa.below bt;replace bx:=Below.some bt bx;replace B2:=aR B2 bt B2.size;clear bt hct;have hc3:=qe s hok l (by omega) hl.2 _ _ w2' _ _ sa.rep (cz ot) (fun b hb=>(sa.lt b hb).2) (bI ot)
 go_wp2_with (go_at_call 24;refine hc3.mono ?_)
 rintro e w3 ⟨vW,rfl,hW,b3⟩;obtain⟨VbW,VfW,yW,sW⟩:=hW;generalize hR:lO s l=R at *;generalize hN:pq s l=N at *;generalize hBo:lP s l=bo at *;have fW:=sW.lt;obtain rfl:=sW.val;obtain⟨wA,wn,wc,rfl⟩:=aY sW.box;obtain⟨wfA,wfn,wfc,rfl⟩:=au sW.fms.own;replace bx:=Below.some b3 bx;have B3:=aR B2 b3 B2.size;have bxlt:=bh bx;have hs3:=b3.size;clear hc3 b2 b3 sa;have ba:=aU w3 (.cells #[.slice wA wn wc,.slice wfA wfn wfc,.int .i64 R.2.2.1,.int .i64 R.2.2.2] 33);have b4x:(w3.alloc (.cells #[.slice wA wn wc,.slice wfA wfn wfc,.int .i64 R.2.2.1,.int .i64 R.2.2.2] 33)).heap[w3.heap.size]?=some (.cells #[.slice wA wn wc,.slice wfA wfn wfc,.int .i64 R.2.2.1,.int .i64 R.2.2.2] 33 (0,0)):=ae _ rfl;replace bx:=Below.some ba bx;replace sW:=sW.below ba;replace B3:=aR B3 ba B3.size;have sz3:(w3.alloc (.cells #[.slice wA wn wc,.slice wfA wfn wfc,.int .i64 R.2.2.1,.int .i64 R.2.2.2] 33)).heap.size=w3.heap.size+1:=lq _ _;clear ba;have hc4:=jC s hok _ _ F (rep B3) (hFW B3);obtain⟨cb0,cb1,cb2,cb3⟩:=aa bx
 go_wp2_with (go_at_call 9;refine hc4.mono ?_)
 rintro e w4 ⟨vx,Vb,g,cap,ys,rfl,sx,b4⟩;have fx:=sx.lt;obtain⟨bA,bn,bc,rfl⟩:=aY sx.box;obtain rfl:=sx.val;clear hc4 cb0 cb1 cb2 cb3;replace bx:=Below.some b4 bx;replace b4x:=Below.some b4 b4x;replace sW:=sW.below b4;have B4:=aR B3 b4 B3.size;have hs4:=b4.size;clear b4;have ba:=aU w4 (.cells #[.slice bA bn bc,.slice (some ⟨g,0,none⟩) s.2.1.length cap,.int .i64 s.2.2.1,.int .i64 s.2.2.2] 33);have b6x:(w4.alloc (.cells #[.slice bA bn bc,.slice (some ⟨g,0,none⟩) s.2.1.length cap,.int .i64 s.2.2.1,.int .i64 s.2.2.2] 33)).heap[w4.heap.size]?=some (.cells #[.slice bA bn bc,.slice (some ⟨g,0,none⟩) s.2.1.length cap,.int .i64 s.2.2.1,.int .i64 s.2.2.2] 33 (0,0)):=ae _ rfl;replace bx:=Below.some ba bx;replace b4x:=Below.some ba b4x;replace sW:=sW.below ba;replace sx:=sx.below ba;replace B4:=aR B4 ba B4.size;have sz4:(w4.alloc (.cells #[.slice bA bn bc,.slice (some ⟨g,0,none⟩) s.2.1.length cap,.int .i64 s.2.2.1,.int .i64 s.2.2.2] 33)).heap.size=w4.heap.size+1:=lq _ _;clear ba;have hct:=eW l hl1' (repL B4) (hFW B4)
 go_wp2_with (go_at_call 25;refine hct.mono ?_)
 rintro e w4' ⟨oA,on_,oc,rfl,ox,fo,bt⟩;replace sx:=sx.below bt;replace sW:=sW.below bt;replace bx:=Below.some bt bx;replace b4x:=Below.some bt b4x;replace b6x:=Below.some bt b6x;replace B4:=aR B4 bt B4.size;have hs4':=bt.size;clear bt hct;obtain⟨cq0,cq1,cq2,cq3⟩:=aa b6x;have hc5:=ju s hok l (by omega) hl.2 _ _ w4' _ _ sx.rep (cz ox) (fun b hb=>(sx.lt b hb).2) (bI ox)
 go_wp2_with (go_at_call 26;refine hc5.mono ?_)
 rintro e w5 ⟨vG,rfl,hG,b5⟩;rw [hN,hBo];rw [hR] at hG;obtain⟨VbG,VfG,yG,sG⟩:=hG;have fG:=sG.lt;obtain rfl:=sG.val;obtain⟨gA,gn,gc,rfl⟩:=aY sG.box;obtain⟨gfA,gfn,gfc,rfl⟩:=au sG.fms.own;clear hc5 cq0 cq1 cq2 cq3;replace bx:=Below.some b5 bx;replace b4x:=Below.some b5 b4x;replace b6x:=Below.some b5 b6x;replace sW:=sW.below b5;replace sx:=sx.below b5;replace ox:=aW.below ox b5;have B5:=aR B4 b5 B4.size;have hs5:=b5.size;clear b5;have ba:=aU w5 (.cells #[.slice gA gn gc,.slice gfA gfn gfc,.int .i64 R.2.2.1,.int .i64 R.2.2.2] 33);have b7x:(w5.alloc (.cells #[.slice gA gn gc,.slice gfA gfn gfc,.int .i64 R.2.2.1,.int .i64 R.2.2.2] 33)).heap[w5.heap.size]?=some (.cells #[.slice gA gn gc,.slice gfA gfn gfc,.int .i64 R.2.2.1,.int .i64 R.2.2.2] 33 (0,0)):=ae _ rfl;replace bx:=Below.some ba bx;replace b4x:=Below.some ba b4x;replace b6x:=Below.some ba b6x;replace sW:=sW.below ba;replace sx:=sx.below ba;replace sG:=sG.below ba;replace ox:=aW.below ox ba;replace B5:=aR B5 ba B5.size;have sz5:(w5.alloc (.cells #[.slice gA gn gc,.slice gfA gfn gfc,.int .i64 R.2.2.1,.int .i64 R.2.2.2] 33)).heap.size=w5.heap.size+1:=lq _ _;clear ba;have hc6:=jE R hRok sG.rep (fun b hb=>(sG.lt b hb).2) sW.rep (fun b hb=>(sW.lt b hb).2);obtain⟨cg0,cg1,cg2,cg3⟩:=aa b7x;obtain⟨cw0,cw1,cw2,cw3⟩:=aa b4x
 go_wp2_with (go_at_call 12;refine hc6.mono ?_)
 rintro e w6 ⟨rfl,b6⟩;clear hc6 cg0 cg1 cg2 cg3 cw0 cw1 cw2 cw3;replace bx:=Below.some b6 bx;replace b4x:=Below.some b6 b4x;replace b6x:=Below.some b6 b6x;replace b7x:=Below.some b6 b7x;replace sW:=sW.below b6;replace sx:=sx.below b6;replace sG:=sG.below b6;replace ox:=aW.below ox b6;have B6:=aR B5 b6 B5.size;have hs6:=b6.size;clear b6
 go_wp2
 have b6d:=ab w6;have bx6:=Below.some b6d bx;have six6:=Below.some b6d b6x;have B6d:=aR B6 b6d B6.size;obtain⟨cb0,cb1,cb2,cb3⟩:=aa bx6;obtain⟨cs0,cs1,cs2,cs3⟩:=aa six6;have hc7:=jC s hok _ w6.drew F (rep B6d) (hFW B6d)
 go_region_held3 (fun w'=>w'.cell? ⟨w.heap.size,0,none⟩=some (.slice A n c)∧w'.cell? ⟨w.heap.size,1,none⟩=some (.slice A' n' c')∧w'.cell? ⟨w.heap.size,2,none⟩=some (.int .i64 s.2.2.1)∧w'.cell? ⟨w.heap.size,3,none⟩=some (.int .i64 s.2.2.2)∧w'.cell? ⟨w4.heap.size,0,none⟩=some (.slice bA bn bc)∧w'.cell? ⟨w4.heap.size,1,none⟩=some (.slice (some ⟨g,0,none⟩) s.2.1.length cap)∧w'.cell? ⟨w4.heap.size,2,none⟩=some (.int .i64 s.2.2.1)∧w'.cell? ⟨w4.heap.size,3,none⟩=some (.int .i64 s.2.2.2)) (first | (refine⟨?_,?_,?_,?_,?_,?_,?_,?_⟩<;>assumption) | go_keep)
  (first
   | (go_at_call 9;refine hc7.mono ?_;rintro e w7 ⟨vz,Vz,gz,capz,yz,rfl,sz,b7⟩;obtain⟨cc0,cc1,cc2,cc3⟩:=aa (Below.some b7 bx6);obtain⟨ct0,ct1,ct2,ct3⟩:=aa (Below.some b7 six6))
   | (go_at_call 12;refine(jE s hok ((sx.below b6d).below b7).rep (fun b hb=>(((sx.below b6d).below b7).lt b hb).2) sz.rep (fun b hb=>(sz.lt b hb).2)).mono ?_;rintro e w8 ⟨rfl,b8⟩;obtain⟨cu0,cu1,cu2,cu3⟩:=aa (Below.some b8 (Below.some b7 bx6));obtain⟨cv0,cv1,cv2,cv3⟩:=aa (Below.some b8 (Below.some b7 six6))))
 have K8:Below w6.heap.size w6 w8:=(b6d.trans b7).trans (b8.mono b7.size);clear hc7 b7 b8 b6d bx6 six6 B6d sz cb0 cb1 cb2 cb3 cs0 cs1 cs2 cs3 cc0 cc1 cc2 cc3 ct0 ct1 ct2 ct3 cu0 cu1 cu2 cu3 cv0 cv1 cv2 cv3;have b8:=K8;replace bx:=Below.some b8 bx;replace b4x:=Below.some b8 b4x;replace b6x:=Below.some b8 b6x;replace b7x:=Below.some b8 b7x;replace sW:=sW.below b8;replace sx:=sx.below b8;replace sG:=sG.below b8;replace ox:=aW.below ox b8;have B8:=aR B6 b8 B6.size;have hs8:=b8.size;clear b8 K8;have hct:=eW l hl1' (repL B8) (hFW B8)
 go_wp2_with (go_at_call 25;refine hct.mono ?_)
 rintro e w8' ⟨tA',tn',tc',rfl,ot,ftt',bt⟩;replace sx:=sx.below bt;replace sW:=sW.below bt;replace sG:=sG.below bt;replace ox:=aW.below ox bt;replace bx:=Below.some bt bx;replace b4x:=Below.some bt b4x;replace b6x:=Below.some bt b6x;replace b7x:=Below.some bt b7x;replace B8:=aR B8 bt B8.size;have hs8':=bt.size;clear bt hct;have hct:=rE l (by omega) (cz ox) (bI ox) (cz ot) (bI ot)
 go_wp2_with (go_at_call 27;refine hct.mono ?_)
 rintro e w8t ⟨rfl,bt⟩;replace sx:=sx.below bt;replace sW:=sW.below bt;replace sG:=sG.below bt;replace ox:=aW.below ox bt;replace bx:=Below.some bt bx;replace b4x:=Below.some bt b4x;replace b6x:=Below.some bt b6x;replace b7x:=Below.some bt b7x;replace B8:=aR B8 bt B8.size;have hs8t:=bt.size;clear bt hct ot;have hl1:=hok.1.1;have htn:=iR s.2.1;have bl7:=bh b7x;obtain⟨cs0,cs1,cs2,cs3⟩:=aa b6x;have hc9:=qN s 1 hok (by omega) (by omega) w8t _ _ _ _ ys sx
 go_wp2_with (go_at_call 13;refine hc9.mono ?_)
 rintro e w9 ⟨rfl,sx9,x9⟩;have fx':∀b,ShS (.slice bA bn bc) (.slice (some ⟨g,0,none⟩) s.2.1.length cap) ys b→w3.heap.size+1≤b∧b<w4.heap.size:=fun b hb=>by have:=fx b hb;omega
 have fG':∀b,ShS (.slice gA gn gc) (.slice gfA gfn gfc) yG b→w4'.heap.size≤b∧b<w5.heap.size:=fun b hb=>by have:=fG b hb;omega
 have fW':∀b,ShS (.slice wA wn wc) (.slice wfA wfn wfc) yW b→w2'.heap.size≤b∧b<w3.heap.size:=fun b hb=>by have:=fW b hb;omega
 replace bx:=KeptX.some x9 bx fun h=>by have:=fx' _ h;omega
 replace b4x:=KeptX.some x9 b4x fun h=>by have:=fx' _ h;omega
 replace b7x:=KeptX.some x9 b7x fun h=>by have:=fx' _ h;omega
 replace sW:=sW.keptX x9 fun b hb h=>by have:=fW' b hb;have:=fx' b h;omega
 replace sG:=sG.keptX x9 fun b hb h=>by have:=fG' b hb;have:=fx' b h;omega
 have B9:Below w.heap.size w w9:=B8.trans (x9.below (fun b hb=>by have:=fx' b hb;omega) B8.size);have hs9:=x9.size;have fo':∀b,aw (.slice oA on_ oc) b→w4.heap.size+1≤b∧b<w4'.heap.size:=fun b hb=>by have:=fo b hb;omega
 replace ox:=aW.keptX ox x9 fun b hb h=>by have:=fo' b hb;have:=fx' b h;omega
 clear hc9 x9 cs0 cs1 cs2 cs3 sx b6x sx9;have hct:=oP l (1+4*(s.1.length:Int)+bZ s.2.1) (by omega) (by omega) (by omega) ox (bI ox)
 go_wp2_with (go_at_call 28;refine hct.mono ?_)
 rintro e w9' ⟨rfl,-,x9⟩;replace bx:=KeptX.some x9 bx fun h=>by have:=fo' _ h;omega
 replace b4x:=KeptX.some x9 b4x fun h=>by have:=fo' _ h;omega
 replace b7x:=KeptX.some x9 b7x fun h=>by have:=fo' _ h;omega
 replace sW:=sW.keptX x9 fun b hb h=>by have:=fW' b hb;have:=fo' b h;omega
 replace sG:=sG.keptX x9 fun b hb h=>by have:=fG' b hb;have:=fo' b h;omega
 replace B9:Below w.heap.size w w9':=B9.trans (x9.below (fun b hb=>by have:=fo' b hb;omega) B9.size);replace hs9:=Nat.le_trans hs9 x9.size;clear hct x9 ox;have hk9:¬(1+4*(s.1.length:Int)+bZ s.2.1+4*(l.length:Int)<0):=by omega
 have hc10:=jE R hRok sG.rep (fun b hb=>(sG.lt b hb).2) sW.rep (fun b hb=>(sW.lt b hb).2);obtain⟨cg0,cg1,cg2,cg3⟩:=aa b7x;obtain⟨cw0,cw1,cw2,cw3⟩:=aa b4x
 go_wp2_with (go_at_call 12;refine hc10.mono ?_)
 rintro e w10 ⟨rfl,b10⟩;clear hc10 cg0 cg1 cg2 cg3 cw0 cw1 cw2 cw3;replace bx:=Below.some b10 bx;replace b4x:=Below.some b10 b4x;replace b7x:=Below.some b10 b7x;replace sW:=sW.below b10;replace sG:=sG.below b10;have B10:=aR B9 b10 B9.size;have hs10:=b10.size;clear b10;have hc11:=qN R 1 hRok (by omega) (by omega) w10 _ _ _ _ yG sG;obtain⟨cg0,cg1,cg2,cg3⟩:=aa b7x
 go_wp2_with (go_at_call 13;refine hc11.mono ?_)
 rintro e w11 ⟨rfl,sG11,x11⟩;replace bx:=KeptX.some x11 bx fun h=>by have:=fG' _ h;omega
 replace b4x:=KeptX.some x11 b4x fun h=>by have:=fG' _ h;omega
 replace b7x:=KeptX.some x11 b7x fun h=>by have:=fG' _ h;omega
 replace sW:=sW.keptX x11 fun b hb h=>by have:=fW' b hb;have:=fG' b h;omega
 have B11:Below w.heap.size w w11:=B10.trans (x11.below (fun b hb=>by have:=fG' b hb;omega) B10.size);have hs11:=x11.size;clear hc11 x11 cg0 cg1 cg2 cg3 sG;have hc12:=nV R 1 hRok (by omega) (by omega) sG11.rep (fun b hb=>(sG11.lt b hb).2);obtain⟨cg0,cg1,cg2,cg3⟩:=aa b7x
 go_wp2_with (go_at_call 18;refine hc12.mono ?_)
 rintro e w12 ⟨rfl,b12⟩;clear hc12 cg0 cg1 cg2 cg3;replace bx:=Below.some b12 bx;replace b4x:=Below.some b12 b4x;replace b7x:=Below.some b12 b7x;replace sW:=sW.below b12;replace sG11:=sG11.below b12;have B12:=aR B11 b12 B11.size;have hs12:=b12.size;clear b12;have hRn:=iR R.2.1;have hq:¬(1+4*(R.1.length:Int)+bZ R.2.1<0):=by omega
 have hc13:=jC s hok _ w12 F (rep B12) (hFW B12);obtain⟨cb0,cb1,cb2,cb3⟩:=aa bx
 go_wp2_with (go_at_call 9;refine hc13.mono ?_)
 rintro e w13 ⟨vh,Vh,gh,caph,yh,rfl,sh,b13⟩;clear hc13 cb0 cb1 cb2 cb3;replace bx:=Below.some b13 bx;replace b4x:=Below.some b13 b4x;replace b7x:=Below.some b13 b7x;replace sW:=sW.below b13;replace sG11:=sG11.below b13;have B13:=aR B12 b13 B12.size;have hs13:=b13.size;clear b13;have hct:=eW l hl1' (repL B13) (hFW B13)
 go_wp2_with (go_at_call 25;refine hct.mono ?_)
 rintro e w13' ⟨tA3,tn3,tc3,rfl,ot,ft3,bt⟩;replace sh:=sh.below bt;replace sW:=sW.below bt;replace sG11:=sG11.below bt;replace bx:=Below.some bt bx;replace b4x:=Below.some bt b4x;replace b7x:=Below.some bt b7x;replace B13:=aR B13 bt B13.size;have hs13':=bt.size;clear bt hct;have hc14:=ju s hok l (by omega) hl.2 _ _ w13' _ _ sh.rep (cz ot) (fun b hb=>(sh.lt b hb).2) (bI ot)
 go_wp2_with (go_at_call 26;refine hc14.mono ?_)
 rintro e w14 ⟨vH,rfl,hH,b14⟩;rw [hN,hBo];rw [hR] at hH;obtain⟨VbH,VfH,yH,sH⟩:=hH;obtain rfl:=sH.val;obtain⟨hA,hn,hc,rfl⟩:=aY sH.box;obtain⟨hfA,hfn,hfc,rfl⟩:=au sH.fms.own;clear hc14 sh;replace bx:=Below.some b14 bx;replace b4x:=Below.some b14 b4x;replace b7x:=Below.some b14 b7x;replace sW:=sW.below b14;replace sG11:=sG11.below b14;have B14:=aR B13 b14 B13.size;have hs14:=b14.size;clear b14;have ba:=aU w14 (.cells #[.slice hA hn hc,.slice hfA hfn hfc,.int .i64 R.2.2.1,.int .i64 R.2.2.2] 33);have b12x:(w14.alloc (.cells #[.slice hA hn hc,.slice hfA hfn hfc,.int .i64 R.2.2.1,.int .i64 R.2.2.2] 33)).heap[w14.heap.size]?=some (.cells #[.slice hA hn hc,.slice hfA hfn hfc,.int .i64 R.2.2.1,.int .i64 R.2.2.2] 33 (0,0)):=ae _ rfl;replace bx:=Below.some ba bx;replace b4x:=Below.some ba b4x;replace b7x:=Below.some ba b7x;replace sW:=sW.below ba;replace sG11:=sG11.below ba;replace sH:=sH.below ba;replace B14:=aR B14 ba B14.size;have sz14:(w14.alloc (.cells #[.slice hA hn hc,.slice hfA hfn hfc,.int .i64 R.2.2.1,.int .i64 R.2.2.2] 33)).heap.size=w14.heap.size+1:=lq _ _;clear ba;have hc15:=jE R hRok sH.rep (fun b hb=>(sH.lt b hb).2) sW.rep (fun b hb=>(sW.lt b hb).2);obtain⟨cg0,cg1,cg2,cg3⟩:=aa b12x;obtain⟨cw0,cw1,cw2,cw3⟩:=aa b4x
 go_wp2_with (go_at_call 12;refine hc15.mono ?_)
 rintro e w15 ⟨rfl,b15⟩;clear hc15 cg0 cg1 cg2 cg3 cw0 cw1 cw2 cw3 sW sH;replace bx:=Below.some b15 bx;replace b7x:=Below.some b15 b7x;replace sG11:=sG11.below b15;have B15:=aR B14 b15 B14.size;have hs15:=b15.size;clear b15;have hc16:=nV R 1 hRok (by omega) (by omega) sG11.rep (fun b hb=>(sG11.lt b hb).2);obtain⟨cg0,cg1,cg2,cg3⟩:=aa b7x
 go_wp2_with (go_at_call 18;refine hc16.mono ?_)
 rintro e w16 ⟨rfl,b16⟩;have B16:=aR B15 b16 B15.size;clear hc16 b16 cg0 cg1 cg2 cg3
 go_wp2
 go_ret
 exact⟨rfl,B16⟩
open Classical in
def zQ (ds:List D):Option Out:=if ∃s l,ds=[sp s,gI l]∧DI s∧l.length≤9223372036854775807∧∀x∈l,x.2.2.1.size≤9223372036854775807 then some (.ret [B true] []) else none
theorem Ec {s:Sp} {l:List Stp} (h:DI s) (hl:l.length≤9223372036854775807∧∀x∈l,x.2.2.1.size≤9223372036854775807):zQ [sp s,gI l]=some (.ret [B true] []):=if_pos ⟨s,l,rfl,h,hl⟩
@[reducible] def lS:FS:={pm:=[.dat 2,.dat 2],rm:=[.dat 0],f:=zQ}
theorem lQ:aF gl0 Try.prog 6 lS:=by
 refine ub (IP Try.func6 (by kernel_rfl) rfl) fun ds rs us hd args w F ow hg ha hF _=>?_
 obtain⟨d,y,d2,y2,rfl,h2,h3,h4⟩:=DW ha;replace hd:zQ [d,d2]=some (.ret rs us):=hd;unfold zQ at hd;split at hd
 case isFalse=>cases hd
 rename_i hs;obtain⟨s,l,e,hs,hl⟩:=hs;cases hd;simp only [List.cons.injEq,and_true] at e;obtain⟨rfl,rfl⟩:=e;rcases h3 with h3 | h3
 ·cases h3
 rcases h4 with h4 | h4
 ·cases h4
 obtain rfl:args=#[y,y2]:=by
  cases args;simp only [List.toArray_inj] at h2 ⊢;exact congrArg List.toArray h2
 refine(An s hs l hl y y2 w F h3 h4 (fun b hb=>(hF b hb).1)).mono ?_
 rintro e w' ⟨rfl,hB⟩;refine⟨_,rfl,F,fun _=>none,[.bool true],rfl,DH hB hF rfl rfl [B true] [.bool true] rfl rfl fun j d hd=>?_⟩
 match j,hd with
 | 0,hd =>
  cases hd;exact⟨_,rfl,ek.2 ⟨rfl,rfl⟩⟩
end Go.Proofs.Ytankikbbdfgkbaa

end
