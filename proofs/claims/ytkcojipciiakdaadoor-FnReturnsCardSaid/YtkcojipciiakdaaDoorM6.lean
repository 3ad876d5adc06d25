/-
  A part of the proof: contracts and plain forms of functions beneath the statement, made small by a program (names shortened, what is not needed left out).
-/
import Derived.Test.YtkcojipciiakdaaDoorRows
import Derived.Test.YtkcojipciiakdaaDoorTie
import Derived.Test.YtkcojipciiakdaaDoorCards
import Derived.Test.YtkcojipciiakdaaDoorM5
import Derived.Deep.RegionHeld3
import Derived.Deep.DrawnRows
import Derived.Deep.AppendLies
import Derived.StillTailTactics
import Derived.Deep.RegionLaw
import Derived.Deep.Cut
open List renaming getElem?_eq_getElem → JI, getElem?_set_ne → JR, getElem?_set_self → JT, mem_range → JV, length_map → JX, getElem_mem → Kf, length_take → Kg, length_append → Kj, size_toArray → Km, take_append_drop → Kn, getElem?_toArray → Ko, length_singleton → Kp, mem_of_getElem? → Kq, setIfInBounds_toArray → Ks, getElem?_eq_some_iff → Ku, length_set → Kv, getElem?_append_left → Kw, mem_append → Kx, mem_or_eq_of_mem_set → Ky, set_cons_zero → Kz, set_cons_succ → KA, take_succ_eq_append_getElem → KC, all_eq_true → KD, mem_of_mem_take → KG, range → KH, mem_filter → KI, eq_nil_of_length_eq_zero → KJ, getElem_of_mem → KK, getElem?_take → KL, getD_eq_getElem?_getD → KP, take_length → KQ, mem_iff_getElem? → KU, mem_of_mem_drop → KW, mem_iff_getElem → KX, mem_cons → KY, map_toArray → Le, any_eq_true → Lf, filter_cons → Lg, length_cons → Lh, nil_append → Lk
open Bool renaming and_eq_true → JJ, not_eq_true' → Kl, false_eq_true → KN, or_eq_true → KS, not_false → KV, false_and → Ll
open Array renaming getD_eq_getD_getElem? → JK, getElem?_setIfInBounds_ne → JW, getD → Ki, mem_toList_iff → Kr, all_eq_true' → KM, getElem?_eq_some_iff → KO, replicate → KT
open Go.Lib renaming frozen_of_heap → JL
open Go.Region renaming ready → JM, wanted → JY, binds → Kh, Mode → Ld
open Option.some renaming inj → JN
open Go.Proofs renaming enters_of → JO
open Go.Region.linearise renaming go → JP
open Go.World renaming drew → JQ, setCell → JZ, cell?_of_block → Ke
open Classical renaming epsilon_spec → JS, epsilon → Kc, byContradiction → Kt
open Nat renaming lt_of_lt_of_le → JU, le_refl → Kb, le_trans → KF, zero_add → KZ, zero_le → Lc, min_eq_left → Li
open Option renaming getD_some → Ka, map_some → Kk
open Go.Value renaming ownBlock → KB, int → KR
open Go.RowKit.Below renaming refl → KE
open Go.Oper renaming wp → La
open Go.Result renaming andThen_ok → Lb
open Go.Ending renaming returned → Lj
set_option maxRecDepth 100000
set_option linter.unusedSimpArgs false
set_option linter.unusedVariables false
noncomputable section
namespace Go.Proofs.YtkcojipciiakdaaDoor
open Go Go.Proofs Go.V Go.RowKit
set_option maxRecDepth 100000
def Gd (s:Sp) (i:Nat):Prop:=∀j,j<i→bp (mvs s.1 (s.2.1.take (j+1)))=true
theorem zF (s:Sp) {i:Nat} (hi:i<s.2.1.length):mvs s.1 (s.2.1.take (i+1))=bE (aU (mvs s.1 (s.2.1.take i))) 1 (mvs s.1 (s.2.1.take i)) s.2.1[i].2.1:=by
 rw [KC hi,yS]
theorem Cu {s:Sp} (hs:cm s) (hok:aE s=true) {i:Nat} (hi:i<s.2.1.length) (hg:Gd s i):oO (mvs s.1 (s.2.1.take i))∧s.2.1[i].2.1.length≤60∧bp (mvs s.1 (s.2.1.take i))=true∧∀c∈s.2.1[i].2.1,∃k:Nat,fC (aU (mvs s.1 (s.2.1.take i))) c=k∧k<(mvs s.1 (s.2.1.take i)).length:=by
 obtain⟨h1,h2,_⟩:=bu hok;have hf:=h1 i hi;refine⟨iF hs.1 (lJ _ _),by have:=ed hf;omega,?_,?_⟩
 ·match i,hg with
  | 0,_=>exact h2
  | i+1,hg=>exact hg i (by omega)
 ·rw [lJ,Cj]
  exact yC hf
theorem Gd.succ {s:Sp} {i:Nat} (h:Gd s i) (h1:bp (mvs s.1 (s.2.1.take (i+1)))=true):Gd s (i+1):=fun j hj=>by
 by_cases e:j=i
 ·subst e
  exact h1
 ·exact h j (by omega)
theorem tw {w:World} {B:Nat} {A A':Option Addr} {n c n' c':Nat} {l:List Bx} {ys:List Value} {fs:List Fm} {x y:Int} (h1:bh w (fun _=>False) (aM (.slice A n c)) 4 (bxs l) (.slice A n c)) (h2:∀b,aM (.slice A n c) b→B≤b∧¬FmS (.slice A' n' c') ys b)
  (h3:FmsAt w B (.slice A' n' c') ys fs):ShopAt w B (.agg #[.slice A n c,.slice A' n' c',.int .i64 x,.int .i64 y]) (.slice A n c) (.slice A' n' c') ys (l,fs,x,y) :=
 ⟨rfl,h1,fun b hb=>(h2 b hb).1,h3,fun b hb=>(h2 b hb).2⟩
set_option maxHeartbeats 8000000 in
set_option maxRecDepth 1000000 in
theorem lY (s:Sp) (hs:cm s) (v0:Value) (w:World) (F:Nat→Prop) (hr:aT w F (sp s) v0) (hF:∀b,F b→b<w.heap.size) :
  Calls Tryd.prog 5 #[v0] w fun e w'=>∃v,e = .returned (.tuple #[v,.bool (nT s)])∧tz w' w.heap.size v (kc s)∧Below w.heap.size w w':=by
 obtain⟨A,n,c,A',n',c',rfl,hb,hf⟩:=jZ hr;obtain⟨us,hn,-,-,-,-,-⟩:=jE hb uj;obtain⟨us2,hn2,hul2,hus2,_,_,huA2⟩:=jE hf uf;rw [JX] at hn hn2;subst hn hn2;clear hb hf us
 go_enter Tryd.func5,Tryd.ntmps5
 have hb2:∀a b,Below w.heap.size w ((w.alloc a).alloc b):=fun a b=>((KE _ w).alloc (Kb _) _).alloc (by simp) _
 have rep:∀{W:World},Below w.heap.size w W→aT W F (sp s) (.agg #[.slice A s.1.length c,.slice A' s.2.1.length c',.int .i64 s.2.2.1,.int .i64 s.2.2.2]):=fun {W} h=>aQ (fun _ h=>h) (fun b hb=>h.block b (hF b hb)) hr
 have hFW:∀{W:World},Below w.heap.size w W→∀b,F b→b<W.heap.size:=fun {W} h b hb=>JU (hF b hb) h.size
 have hc1:=fun a b=>Ai s hs (rep (hb2 a b)) (hFW (hb2 a b))
 go_wp2_with (go_at_call 13;refine(hc1 _ _).mono ?_)
 rintro e w2 ⟨rfl,b2⟩;have H1:w2.heap[w.heap.size]?=some (.cells #[.slice A s.1.length c,.slice A' s.2.1.length c',.int .i64 s.2.2.1,.int .i64 s.2.2.2] 26 (0,0)):=Below.some b2 (aj _ (al _ rfl));have H2:w2.heap[w.heap.size+1]?=some (.cells #[.slice none 0 0,.slice none 0 0,.int .i64 0,.int .i64 0] 26 (0,0)):=Below.some b2 (al _ (by simp));have B2:Below w.heap.size w w2:=fL (hb2 _ _) b2 (by simp;omega);have hl2:=bz H2;clear hc1 b2;cases hok:aE s
 ·have hno:¬tW s:=fun h=>by
   have h1:aE s=true:=h.1;rw [hok] at h1;cases h1
  obtain⟨eB,eS⟩:=um hno;obtain⟨e0,e1,e2,e3⟩:=ab H2;obtain⟨g0,g1,g2,g3⟩:=aZ H2
  go_wp2
  obtain⟨d0,d1,d2,d3⟩:=ab (aK (.slice none 0 0) (.slice none 0 0) (.int .i64 0) (.int .i64 0) H2);refine bodyPost_ret (by simp [results,Tryd.results5,go_sem,d0,d1,d2,d3];try rfl) rfl ?_
  (try rw [eB])
  (try rw [eS])
  exact⟨_,rfl,iy _ _,ct _ _ _ _ B2 (by omega)⟩
 obtain⟨cb0,cb1,cb2,cb3⟩:=ab H1;have hc3:=uN s hs _ w2 F (rep B2) (hFW B2)
 go_wp2_with (go_at_call 21;refine hc3.mono ?_)
 rintro e w3 ⟨v3,rfl,⟨Vb,Vf,ys,sa⟩,b3⟩;obtain rfl:=sa.val;have B3:=fL B2 b3 B2.size;replace H1:=Below.some b3 H1;replace H2:=Below.some b3 H2;have ownb:=sa.box;have hblt:=dy ownb;have hbge:=sa.bge;obtain⟨bA,bn,bc,rfl⟩:=bQ ownb;obtain⟨fA,fn,fc,rfl⟩:=aN sa.fms.own;have hl3:=bz H2;have hs23:=b3.size;clear sa b3 hc3 cb0 cb1 cb2 cb3;have H5:((w3.alloc (.cells #[.slice bA bn bc,.slice (some ⟨w3.heap.size+1,0,none⟩) 0 0,.int .i64 s.2.2.1,.int .i64 s.2.2.2] 26)).alloc (.cells #[] 42)).heap[w3.heap.size]?=some (.cells #[.slice bA bn bc,.slice (some ⟨w3.heap.size+1,0,none⟩) 0 0,.int .i64 s.2.2.1,.int .i64 s.2.2.2] 26 (0,0)):=aj _ (al _ rfl);have H1':((w3.alloc (.cells #[.slice bA bn bc,.slice (some ⟨w3.heap.size+1,0,none⟩) 0 0,.int .i64 s.2.2.1,.int .i64 s.2.2.2] 26)).alloc (.cells #[] 42)).heap[w.heap.size]?=_:=aj _ (aj _ H1);have H2':((w3.alloc (.cells #[.slice bA bn bc,.slice (some ⟨w3.heap.size+1,0,none⟩) 0 0,.int .i64 s.2.2.1,.int .i64 s.2.2.2] 26)).alloc (.cells #[] 42)).heap[w.heap.size+1]?=_:=aj _ (aj _ H2);have HE:((w3.alloc (.cells #[.slice bA bn bc,.slice (some ⟨w3.heap.size+1,0,none⟩) 0 0,.int .i64 s.2.2.1,.int .i64 s.2.2.2] 26)).alloc (.cells #[] 42)).heap[w3.heap.size+1]?=some (.cells #[] 42 (0,0)):=al _ (by simp);have B5:Below w.heap.size w ((w3.alloc (.cells #[.slice bA bn bc,.slice (some ⟨w3.heap.size+1,0,none⟩) 0 0,.int .i64 s.2.2.1,.int .i64 s.2.2.2] 26)).alloc (.cells #[] 42)):=(B3.alloc B3.size _).alloc (by simp;omega) _;have own5:=aY (w':=(w3.alloc (.cells #[.slice bA bn bc,.slice (some ⟨w3.heap.size+1,0,none⟩) 0 0,.int .i64 s.2.2.1,.int .i64 s.2.2.2] 26)).alloc (.cells #[] 42)) ownb fun b hb=>by
  have:=hblt b hb;rw [fk _ (by simp;omega),fk _ (by omega)]
 have S5:((w3.alloc (.cells #[.slice bA bn bc,.slice (some ⟨w3.heap.size+1,0,none⟩) 0 0,.int .i64 s.2.2.1,.int .i64 s.2.2.2] 26)).alloc (.cells #[] 42)).heap.size=w3.heap.size+2:=by simp
 have cq1:=(ab H1').2.1
 go_wp2
 generalize (w3.alloc (.cells #[.slice bA bn bc,.slice (some ⟨w3.heap.size+1,0,none⟩) 0 0,.int .i64 s.2.2.1,.int .i64 s.2.2.2] 26)).alloc (.cells #[] 42)=W5 at *;have S5a:w3.heap.size+2≤W5.heap.size:=by omega
 have S5b:W5.heap.size≤w3.heap.size+2:=by omega
 clear S5 cq1 H1 H2;have hX:∀b,aM (.slice bA bn bc) b→w.heap.size+2≤b∧¬(b=w3.heap.size∨b=w3.heap.size+1):=fun b hb=>by
  have h1:=hblt b hb;have h2:=hbge b hb;omega
 have hln:=hs.2.1
 go_loopw [20] (fun vi wr=>∃i:Nat,vi = .int .i64 i∧i≤s.2.1.length∧Gd s i∧Je wr w3.heap.size (w.heap.size+2) (fun b=>b=w3.heap.size∨b=w3.heap.size+1) (.slice (some ⟨w3.heap.size+1,0,none⟩) 0 0) s.2.2.1 s.2.2.2 (mvs s.1 (s.2.1.take i))∧KeptX (fun b=>b=w3.heap.size) W5 wr) (fun vi _=>s.2.1.length - (intOf vi).toNat)
 case atStart =>
  exact⟨0,rfl,Lc _,(fun j hj=>by omega),⟨_,_,_,H5,own5,hX⟩,KeptX.refl _ _⟩
 case round =>
  obtain⟨i,rfl,hin,hgd,⟨Vg,Vn,Vc,H5r,ownr,hXr⟩,hK⟩:=hrel;have hsz:=hK.size;have hBw:Below w.heap.size w wr:=B5.trans (hK.below (B:=w.heap.size) (fun b hb=>by omega) (by omega));have H2r:=(hK.block (w.heap.size+1) (by omega) (by omega)).trans H2';by_cases hp:i<s.2.1.length
  ·have hpi:(i:Int)<(s.2.1.length:Int):=by omega
   obtain⟨b,o,rfl,hFb,hcell⟩:=huA2 (by omega);obtain⟨Ax,nx,cx,u0,u1,u2,u3,hry⟩:=vy hus2 hp;have hcb:∀{k:Nat} {u:Value},us2[k]?=some u→wr.cell? ⟨b,o+k,none⟩=some u:=fun {k u} hu=>(Ke (w:=w) (hBw.block b (hF b hFb))).trans (hcell k u hu)
   have k0:=hcb u0;have k1:=hcb u1;have k2:=hcb u2;have k3:=hcb u3;simp only [←Nat.add_assoc] at k1 k2 k3;have hpre:=Cu hs hok hp hgd;have hmv:=zF s hp;generalize s.2.1[i]=x at *;have hBa:∀q,Below w.heap.size w (wr.alloc q):=fun q=>hBw.alloc (by omega) _
   have ownq:∀q,bh (wr.alloc q) (fun _=>False) (aM (.slice Vg Vn Vc)) 4 (bxs (mvs s.1 (s.2.1.take i))) (.slice Vg Vn Vc):=fun q=>bh.below ownr (aD wr q)
   have hcall:=fun q=>wo (mvs s.1 (s.2.1.take i)) x.2.1 hpre.1 hpre.2.1 hpre.2.2.1 hpre.2.2.2 (w:=wr.alloc q) (gK (ownq q)) (dy (ownq q)) (aQ (fun _ h=>h) (fun b hb=>(hBa q).block b (hF b hb)) hry) (fun b hb=>JU (hF b hb) (hBa q).size)
   rw [←hmv] at hcall;have hmv':Hid (mvs s.1 (s.2.1.take (i+1))=bE (aU (mvs s.1 (s.2.1.take i))) 1 (mvs s.1 (s.2.1.take i)) x.2.1):=hmv;clear hmv;have m0:=fun q=>(ab (aj q H5r)).1
   go_wp2_with (go_at_call 22;refine(hcall _).mono ?_)
   intro e w6 hout;obtain⟨A6,n6,c6,rfl,own6,hv6,b6⟩:=hout;have b6':Below wr.heap.size wr w6:=fL (aD _ _) b6 (by simp);have H26:=Below.some b6' H2r;have H56:=Below.some b6' H5r;have hsz6:=b6'.size;cases hgo:bp (mvs s.1 (s.2.1.take (i+1)))
   ·have hno:¬tW s:=fun h=>by
     have h1:=h.2 i hp;rw [hgo] at h1;cases h1
    obtain⟨eB,eS⟩:=um hno;obtain⟨e0,e1,e2,e3⟩:=ab H26;obtain⟨g0,g1,g2,g3⟩:=aZ H26
    go_wp2
    obtain⟨d0,d1,d2,d3⟩:=ab (aK (.slice none 0 0) (.slice none 0 0) (.int .i64 0) (.int .i64 0) H26);refine bodyPost_ret (by simp [results,Tryd.results5,go_sem,d0,d1,d2,d3];try rfl) rfl ?_
    (try rw [eB])
    (try rw [eS])
    exact⟨_,rfl,iy _ _,ct _ _ _ _ (hBw.trans (b6'.mono (by omega))) (by omega)⟩
   ·have em:mvd (mvs s.1 (s.2.1.take i)) x.2.1 1=mvs s.1 (s.2.1.take (i+1)):=by
     unfold mvd;rw [←hmv'.out,if_pos hgo]
    rw [em] at own6;have m56:=(ab H56).1;have f56:=(aZ H56).1;have H57:=heap_setCell_same _ _ 0 _ _ (.slice A6 n6 c6) H56;simp only [Ks,Kz,KA] at H57;have hv6':∀b,aM (.slice A6 n6 c6) b→wr.heap.size<b:=fun b hb=>by
     have:=(hv6 b hb).1;simp at this;omega
    have own7:=aY (w':=w6.setCell ⟨w3.heap.size,0,none⟩ (.slice A6 n6 c6)) own6 fun b hb=>heap_setCell_other _ _ _ _ (by have:=hv6' b hb;simp;omega)
    have hK7:KeptX (fun b=>b=w3.heap.size) W5 (w6.setCell ⟨w3.heap.size,0,none⟩ (.slice A6 n6 c6)):=(hK.trans ⟨b6'.os,b6'.tape,b6'.output,b6'.size,fun b hb _=>b6'.block b hb⟩).set _ _ rfl;have hX7:∀b,aM (.slice A6 n6 c6) b→w.heap.size+2≤b∧¬(b=w3.heap.size∨b=w3.heap.size+1):=fun b hb=>by
     have:=hv6' b hb;omega
    go_wp2
    refine⟨⟨i+1,congrArg (KR .i64) (by omega),by omega,hgd.succ hgo,⟨_,_,_,H57,own7,hX7⟩,hK7⟩,?_⟩
    show s.2.1.length - ((i:Int)+1).toNat<s.2.1.length - (i:Int).toNat
    omega
  ·have hpi:¬(i:Int)<(s.2.1.length:Int):=by omega
   have hie:i=s.2.1.length:=by omega
   subst hie;rw [KQ] at ownr;obtain⟨eB,eS⟩:=xQ (s:=s) ⟨hok,hgd⟩;obtain⟨m0,m1,m2,m3⟩:=ab H5r;obtain⟨e0,e1,e2,e3⟩:=ab H2r;obtain⟨g0,g1,g2,g3⟩:=aZ H2r;have HEr:=(hK.block (w3.heap.size+1) (by omega) (by omega)).trans HE;have hS:=tw (x:=s.2.2.1) (y:=s.2.2.2) ownr (fun b hb=>⟨by have:=(hXr b hb).1;omega,fun h=>by
    rcases h with h | ⟨y,h,_⟩
    ·have:w3.heap.size+1=b:=JN h
     exact(hXr b hb).2 (.inr this.symm)
    ·simp at h⟩) (gr HEr (B:=w.heap.size) (by omega))
   have hL:=hS.lt
   go_wp2
   obtain⟨d0,d1,d2,d3⟩:=ab (aK (.slice Vg Vn Vc) (.slice (some ⟨w3.heap.size+1,0,none⟩) 0 0) (.int .i64 s.2.2.1) (.int .i64 s.2.2.2) H2r);refine bodyPost_ret (by simp [results,Tryd.results5,go_sem,d0,d1,d2,d3];try rfl) rfl ?_
   (try rw [eB])
   (try rw [eS])
   refine⟨_,rfl,⟨_,_,_,hS.set4 _ _ _ _ fun b hb=>?_⟩,ct _ _ _ _ hBw (by omega)⟩
   rcases hb with hb | hb
   ·have:=(hXr b hb).1
    omega
   ·rcases hb with hb | ⟨y,hb,_⟩
    ·have:w3.heap.size+1=b:=JN hb
     omega
    ·simp at hb
set_option maxRecDepth 100000
attribute [local go_sem ↓] Go.wp_at_zero Go.wp_at_succ
theorem uF {P:Program} (w:World) {o:Oper} {a:Act} {K:Act→World→Prop} {Q:Exit→Act→World→Prop} (s x:Operand) (t:TypeId)
  (ho:o.op = .call {callee:=.builtin .append,args:=#[s,x],argTypes:=#[t,t]})
  (base:Nat) (e:TypeId) (i:TypeInfo) (z:Value) (size bytes:Nat) (ht:P.underlying t=some (.slice e)) (hi:P.info? e=some i) (hz:i.zero=some z)
  (hsize:i.size=size) (hby:i.bytes=bytes) (hzs:z.cells.size=size) (hsz:0<size)
  (v:Value) (n:Nat) (xs:List Value) (hs:a.eval s=v) (hown:w.ownsRow base e size v n xs)
  (A:Option Addr) (m c:Nat) (news:List Value) (hx:a.eval x = .slice A m c) (hl:news.length=m*size) (hA:m≠0→∃g o,A=some ⟨g,o,none⟩∧∀j u,news[j]?=some u→w.cell? ⟨g,o+j,none⟩=some u) (h1:∀u∈news,u.oneCell'=true)
  (h63:n+m≤maxLen) (hbytes:(n+m)*bytes≤140737488355328) (hbase:base≤w.heap.size)
  (h:∀v' w',w'.ownsRow base e size v' (n+m) (xs++news)→w.grownBy w' v.ownBlock→(v'.ownBlock=v.ownBlock∨v'.ownBlock=some w.heap.size)→K (a.put o.dst v') w'):o.wp P a w K Q:=by
 cases A with
 | some ad =>
  have hn:∀j u,news[j]?=some u→w.cell? (ad.add j)=some u:=fun j u hj=>by
   have hm:m≠0:=by
    rintro rfl;have:news=[]:=KJ (by simpa using hl);subst this;simp at hj
   obtain⟨g,o,e1,h2⟩:=hA hm;cases e1;rw [show(⟨g,o,none⟩:Addr).add j=⟨g,o+j,none⟩ by cases j<;>simp [Addr.add]];exact h2 j u hj
  obtain⟨v',w',hr,h2,h3,_,h5⟩:=run_append_own_at (P:=P) w base t o.type e i z size bytes ht hi hz hsize hby hzs hsz v n xs hown ad m c news hl hn h1 h63 hbytes hbase;unfold La execOp;simp only [ho,resolve,invoke,builtin,Sem.run_bind,Sem.run_pure,Lb,Le,List.map_cons,List.map_nil,hs,hx,hr];exact h v' w' h2 h3 h5
 | none =>
  have hm:m=0:=Kt fun hm=>by
   obtain⟨_,_,e1,_⟩:=hA hm;cases e1
  subst hm;have hnews:news=[]:=KJ (by simpa using hl);subst hnews;have hrun:=kn (P:=P) w base t o.type e i size c ht hi v n xs hown;unfold La;simp [execOp,ho,resolve,invoke,builtin,hs,hx,hrun,Result.andThen];exact h v w (by simpa using hown) (World.grownBy.refl _ _) (.inl rfl)
theorem aB {P:Program} (w:World) {ops:Array Oper} {o:Oper} {a:Act} {K:Act→World→Prop} {Q:Exit→Act→World→Prop} {E:Prop} (hgd:o.guard=none) (s x:Operand) (t:TypeId)
  (ho:o.op = .call {callee:=.builtin .append,args:=#[s,x],argTypes:=#[t,t]})
  (base:Nat) (e:TypeId) (i:TypeInfo) (z:Value) (size bytes:Nat) (ht:P.underlying t=some (.slice e)) (hi:P.info? e=some i) (hz:i.zero=some z)
  (hsize:i.size=size) (hby:i.bytes=bytes) (hzs:z.cells.size=size) (hsz:0<size)
  (v:Value) (n:Nat) (xs:List Value) (hs:a.eval s=v) (hown:w.ownsRow base e size v n xs)
  (A:Option Addr) (m c:Nat) (news:List Value) (hx:a.eval x = .slice A m c) (hl:news.length=m*size) (hA:m≠0→∃g o,A=some ⟨g,o,none⟩∧∀j u,news[j]?=some u→w.cell? ⟨g,o+j,none⟩=some u) (h1:∀u∈news,u.oneCell'=true)
  (h63:n+m≤maxLen) (hbytes:(n+m)*bytes≤140737488355328) (hbase:base≤w.heap.size)
  (h:∀v' w',w'.ownsRow base e size v' (n+m) (xs++news)→w.grownBy w' v.ownBlock→(v'.ownBlock=v.ownBlock∨v'.ownBlock=some w.heap.size)→K (a.put o.dst v') w') :
  if JY o (yielded ops a.tmps)=true then La P o a w K Q else E:=by
 have hw:JY o (yielded ops a.tmps)=true:=by simp [JY,hgd]
 rw [if_pos hw];exact uF w s x t ho base e i z size bytes ht hi hz hsize hby hzs hsz v n xs hs hown A m c news hx hl hA h1 h63 hbytes hbase h
theorem wK (l:List ByteArray) (h:l.length≤1048576):kR [txs l]=some (.ret [txs l] []):=by
 rw [ww];have hk:jU (txs l)=some (txs l):=kb fun _=>rfl
 rw [il,hk];simp only [Option.bind_some];rw [ew,if_pos (by simp only [JX,true_or,true_and,List.length_nil];omega)];rfl
theorem zG (l:List ByteArray) (h:l.length≤1048576) {w:World} {F:Nat→Prop} {y:Value} (hr:aT w F (txs l) y) (hF:∀b,F b→b<w.heap.size) :
  Calls Tryd.prog 43 #[y] w fun e w'=>∃A n c,e = .returned (.slice A n c)∧bh w' (fun _=>False) (aM (.slice A n c)) 1 (txs l) (.slice A n c)∧(∀b,aM (.slice A n c) b→w.heap.size≤b∧b<w'.heap.size)∧Below w.heap.size w w' :=
 Dz (JO Tryd.func43 (by kernel_rfl) rfl) wF (wK l h) (by simp) hr hF
theorem Fz {w':World} {b:Nat} {x0 x1 x2 x3:Value} {t:TypeId} (h:w'.heap[b]?=some (.cells #[x0,x1,x2,x3] t (0,0))):w'.cell? ⟨b,0,none⟩=some x0∧w'.cell? ⟨b,2,none⟩=some x2∧w'.cell? ⟨b,3,none⟩=some x3:=⟨(ab h).1,(ab h).2.2.1,(ab h).2.2.2⟩
theorem uo {w':World} {b g:Nat} {o:Obj} (x0 x1 x2 x3:Value) (hg:g≠b) (h:w'.heap[b]?=some o):((((w'.setCell ⟨g,0,none⟩ x0).setCell ⟨g,1,none⟩ x1).setCell ⟨g,2,none⟩ x2).setCell ⟨g,3,none⟩ x3).heap[b]?=some o:=by
 rw [heap_setCell_other _ _ _ _ (by simp;omega),heap_setCell_other _ _ _ _ (by simp;omega),heap_setCell_other _ _ _ _ (by simp;omega),heap_setCell_other _ _ _ _ (by simp;omega)];exact h
theorem oq {w:World} {b:Nat} {o:Obj} (h:w.heap[b]?=some o):w.drew.heap[b]?=some o:=h
theorem Ah {w':World} {g:Nat} {z:Nat} {d:D} {y:Value} (x0 x1 x2 x3:Value) (h:bh w' (fun _=>False) (aM y) z d y) (hg:∀b,aM y b→g≠b):bh ((((w'.setCell ⟨g,0,none⟩ x0).setCell ⟨g,1,none⟩ x1).setCell ⟨g,2,none⟩ x2).setCell ⟨g,3,none⟩ x3) (fun _=>False) (aM y) z d y :=
 aY h fun b hb=>by
  have:=hg b hb;rw [heap_setCell_other _ _ _ _ (by simp;omega),heap_setCell_other _ _ _ _ (by simp;omega),heap_setCell_other _ _ _ _ (by simp;omega),heap_setCell_other _ _ _ _ (by simp;omega)]
def JE (w:World) (p B:Nat) (Vb:Value) (x y:Int) (l:List Fm):Prop:=∃A n c ys,w.heap[p]?=some (.cells #[Vb,.slice A n c,.int .i64 x,.int .i64 y] 26 (0,0))∧FmsAt w B (.slice A n c) ys l
set_option maxHeartbeats 4000000 in
set_option maxRecDepth 1000000 in
theorem qt (s:Sp) (hs:cm s) (v0:Value) (w:World) (F:Nat→Prop) (hr:aT w F (sp s) v0) (hF:∀b,F b→b<w.heap.size) :
    Calls Tryd.prog 24 #[v0] w fun e w'=>∃v,e = .returned v∧tz w' w.heap.size v s∧Below w.heap.size w w':=by
  obtain⟨A,n,c,A',n',c',rfl,hb,hf⟩:=jZ hr;obtain⟨i0,hi0,hz0,hz1,hz2⟩:=info_parts zI;obtain⟨us,hn,hul,hus,huw,hu1,huA⟩:=jE hb uj;obtain⟨us2,hn2,hul2,hus2,_,_,huA2⟩:=jE hf uf;rw [JX] at hn hn2;subst hn hn2;have hbl:=hs.1.1
  go_enter Tryd.func24,Tryd.ntmps24
  go_wp2
  have hb2:∀a b,Below w.heap.size w ((w.alloc a).alloc b):=fun a b=>((KE _ w).alloc (Kb _) _).alloc (by simp) _
  have B2:=hb2 (.cells #[.slice A s.1.length c,.slice A' s.2.1.length c',.int .i64 s.2.2.1,.int .i64 s.2.2.2] 26) (.cells #[.slice none 0 0,.slice none 0 0,.int .i64 0,.int .i64 0] 26);have H1:((w.alloc (.cells #[.slice A s.1.length c,.slice A' s.2.1.length c',.int .i64 s.2.2.1,.int .i64 s.2.2.2] 26)).alloc (.cells #[.slice none 0 0,.slice none 0 0,.int .i64 0,.int .i64 0] 26)).heap[w.heap.size]?=some (.cells #[.slice A s.1.length c,.slice A' s.2.1.length c',.int .i64 s.2.2.1,.int .i64 s.2.2.2] 26 (0,0)):=aj _ (al _ rfl);have H2:((w.alloc (.cells #[.slice A s.1.length c,.slice A' s.2.1.length c',.int .i64 s.2.2.1,.int .i64 s.2.2.2] 26)).alloc (.cells #[.slice none 0 0,.slice none 0 0,.int .i64 0,.int .i64 0] 26)).heap[w.heap.size+1]?=some (.cells #[.slice none 0 0,.slice none 0 0,.int .i64 0,.int .i64 0] 26 (0,0)):=al _ (by simp);have S2:((w.alloc (.cells #[.slice A s.1.length c,.slice A' s.2.1.length c',.int .i64 s.2.2.1,.int .i64 s.2.2.2] 26)).alloc (.cells #[.slice none 0 0,.slice none 0 0,.int .i64 0,.int .i64 0] 26)).heap.size=w.heap.size+2:=by simp
  generalize (w.alloc (.cells #[.slice A s.1.length c,.slice A' s.2.1.length c',.int .i64 s.2.2.1,.int .i64 s.2.2.2] 26)).alloc (.cells #[.slice none 0 0,.slice none 0 0,.int .i64 0,.int .i64 0] 26)=W at *;clear hb2;have S2a:w.heap.size+2≤W.heap.size:=by omega
  have S2b:W.heap.size≤w.heap.size+2:=by omega
  clear S2;rename_i K hK;have hrest:Hid (∀(u6 u7 u8 u9 u10 u11 u12 u13 u14:Value) (p:Nat) (A1:Option Addr) (n1 c1:Nat) (W':World),w.heap.size+1<p→W'.heap[p]?=some (.cells #[.slice A1 n1 c1,.slice none 0 0,.int .i64 s.2.2.1,.int .i64 s.2.2.2] 26 (0,0)) →
      bh W' (fun _=>False) (aM (.slice A1 n1 c1)) 4 (bxs s.1) (.slice A1 n1 c1)→(∀b,aM (.slice A1 n1 c1) b→w.heap.size+1<b∧b≠p)→Below W.heap.size W W' →
      K {tmps:=#[.agg #[.slice A s.1.length c,.slice A' s.2.1.length c',.int .i64 s.2.2.1,.int .i64 s.2.2.2],.pointer (some ⟨w.heap.size,0,none⟩),.pointer (some ⟨w.heap.size+1,0,none⟩),.pointer (some ⟨p,0,none⟩),undef,undef,u6,u7,u8,u9,u10,u11,u12,u13,u14,
        undef,undef,undef,undef,undef,undef,undef,undef,undef,undef,undef,undef,undef,undef,undef,undef,undef,undef,undef],defers:=[]} W'):=by
    intro u6 u7 u8 u9 u10 u11 u12 u13 u14 p A1 n1 c1 W' hp0 H3 own1 hv1 hW;refine hK _ _ ?_
    have H1':=Below.some hW H1;have H2':=Below.some hW H2;have hpl:=bz H3;have c11:=(ab H1').2.1
    go_wp2
    obtain⟨i2,hi2,hx0,hx1,hx2⟩:=info_parts ij;have hln:=hs.2.1;have hsW:=hW.size;have hp1:p≠w.heap.size:=by omega
    have hp2:p≠w.heap.size+1:=by omega
    go_loopw [18] (fun vi wr=>∃i:Nat,vi = .int .i64 i∧i≤s.2.1.length∧JE wr p W'.heap.size (.slice A1 n1 c1) s.2.2.1 s.2.2.2 (s.2.1.take i)∧KeptX (fun b=>b=p) W' wr) (fun vi _=>s.2.1.length - (intOf vi).toNat)
    case atStart =>
      exact⟨0,rfl,Lc _,⟨_,_,_,[],H3,by simpa using lw _ _⟩,KeptX.refl _ _⟩
    case round =>
      obtain⟨i,rfl,hin,⟨Vg,Vn,Vc,ys,H3r,hFr⟩,hX⟩:=hrel;have hsz:=hX.size;have hBw:Below w.heap.size w wr:=(B2.trans (hW.mono (by omega))).trans (hX.below (B:=w.heap.size) (fun b hb=>by omega) (by omega));have hFlt:=hFr.lt;by_cases hp:i<s.2.1.length
      · have hpi:(i:Int)<(s.2.1.length:Int):=by omega
        obtain⟨b,o,rfl,hFb,hcell⟩:=huA2 (by omega);obtain⟨Ax,nx,cx,u0,u1,u2,u3,hry⟩:=vy hus2 hp;have hcb:∀{k:Nat} {u:Value},us2[k]?=some u→wr.cell? ⟨b,o+k,none⟩=some u:=fun {k u} hu=>(Ke (w:=w) (hBw.block b (hF b hFb))).trans (hcell k u hu)
        have k0:=hcb u0;have k1:=hcb u1;have k2:=hcb u2;have k3:=hcb u3;simp only [←Nat.add_assoc] at k1 k2 k3;have hxl:=hs.2.2 s.2.1[i] (Kf hp);have htk:=KC hp;generalize s.2.1[i]=x at *;have hBa:∀q,Below w.heap.size w (wr.alloc q):=fun q=>hBw.alloc (by omega) _
        have hcall:=fun q=>zG x.2.1 hxl (w:=wr.alloc q) (aQ (fun _ h=>h) (fun b hb=>(hBa q).block b (hF b hb)) hry) (fun b hb=>JU (hF b hb) (hBa q).size)
        go_wp2_with (go_at_call 43;refine(hcall _).mono ?_)
        rintro e w6 ⟨A2,n2,c2,rfl,own2,hv2,b6'⟩;have G1:w6.heap[wr.heap.size]?=some (.cells #[.int .i64 x.1,.slice Ax nx cx,.bool x.2.2.1,.int .i64 x.2.2.2] 42 (0,0)):=Below.some b6' (al _ rfl);have S6:wr.heap.size<w6.heap.size:=bz G1;replace hv2:∀b,aM (.slice A2 n2 c2) b→wr.heap.size<b∧b<w6.heap.size:=fun b hb=>by
          have:=hv2 b hb;simp at this;omega
        have b6:Below wr.heap.size wr w6:=fL (aD _ _) b6' (by simp);have H36:=(b6.block p (by omega)).trans H3r;have fg1:=JL G1 1;have cg1:=(ab G1).2.1;have G2:(w6.setCell ⟨wr.heap.size,1,none⟩ (.slice A2 n2 c2)).heap[wr.heap.size]?=some (.cells #[.int .i64 x.1,.slice A2 n2 c2,.bool x.2.2.1,.int .i64 x.2.2.2] 42 (0,0)):=heap_setCell_same _ _ 1 _ _ (.slice A2 n2 c2) G1;obtain⟨e0,e1,e2,e3⟩:=ab G2;have H37:(w6.setCell ⟨wr.heap.size,1,none⟩ (.slice A2 n2 c2)).heap[p]?=some (.cells #[.slice A1 n1 c1,.slice Vg Vn Vc,.int .i64 s.2.2.1,.int .i64 s.2.2.2] 26 (0,0)):=(heap_setCell_other _ _ _ _ (by simp;omega)).trans H36;have cp1:=(ab H37).2.1;have b8:Below wr.heap.size wr ((w6.setCell ⟨wr.heap.size,1,none⟩ (.slice A2 n2 c2)).alloc (.cells #[.int .i64 x.1,.slice A2 n2 c2,.bool x.2.2.1,.int .i64 x.2.2.2] 42)):=(b6.setCell (Kb _) _).alloc (by simp [JZ];omega) _;have hF8:=hFr.keep (w':=(w6.setCell ⟨wr.heap.size,1,none⟩ (.slice A2 n2 c2)).alloc (.cells #[.int .i64 x.1,.slice A2 n2 c2,.bool x.2.2.1,.int .i64 x.2.2.2] 42)) fun b hb=>b8.block b (hFlt b hb).2
        have own8:=aY (w':=(w6.setCell ⟨wr.heap.size,1,none⟩ (.slice A2 n2 c2)).alloc (.cells #[.int .i64 x.1,.slice A2 n2 c2,.bool x.2.2.1,.int .i64 x.2.2.2] 42)) own2 fun b hb=>by
          have:=hv2 b hb;rw [fk _ (by simp [JZ];omega),heap_setCell_other _ _ _ _ (by simp;omega)]
        have hl8:(s.2.1.take i).length=i:=by rw [Kg];omega
        have S8:W'.heap.size≤((w6.setCell ⟨wr.heap.size,1,none⟩ (.slice A2 n2 c2)).alloc (.cells #[.int .i64 x.1,.slice A2 n2 c2,.bool x.2.2.1,.int .i64 x.2.2.2] 42)).heap.size:=by simp [JZ];omega
        have H38:=aj (.cells #[.int .i64 x.1,.slice A2 n2 c2,.bool x.2.2.1,.int .i64 x.2.2.2] 42) H37
        go_wp2_with (at_builtin;refine cJ _ rfl _ _ 24 rfl W'.heap.size 42 i2 (.agg #[.int .i64 0,.slice none 0 0,.bool false,.int .i64 0]) 4 48 Tryd.underlying24 hi2 hx0 hx1 hx2 rfl (by decide) (.slice Vg Vn Vc) _ _ rfl hF8.own (some ⟨w6.heap.size,0,none⟩) 1 1 [.int .i64 x.1,.slice A2 n2 c2,.bool x.2.2.1,.int .i64 x.2.2.2] (by simp [go_sem]) rfl (fun _=>⟨_,_,rfl,dM (al _ (by simp [JZ]))⟩) (by intro u hu;simp at hu;rcases hu with rfl | rfl | rfl | rfl<;>rfl) (by unfold maxLen;omega) (by omega) S8 ?_)
        intro v3 w9 hown9 hg9 hat9;have hF9:=en (x:=x) (y:=.slice A2 n2 c2) hF8 S8 (by rw [hl8];exact hown9) hg9 (by simpa [JZ] using hat9) own8 (fun b hb=>⟨by have:=(hv2 b hb).1;omega,fun h=>by have:=(hv2 b hb).1;have:=(hFlt b h).2;omega⟩);rw [←htk] at hF9;have hX9:KeptX (fun b=>b=p) W' w9:=by
          have h1:Below W'.heap.size W' W':=KE _ _;have h2:Below wr.heap.size wr w9∨True:=.inr trivial;refine⟨hg9.os.trans (b8.os.trans hX.os),hg9.tape.trans (b8.tape.trans hX.tape),hg9.output.trans (b8.output.trans hX.output),KF S8 hg9.size,fun b hb hne=>?_⟩
          rw [hg9.block b (by omega) (fun e=>by have:=(hFlt b (.inl e.symm)).1;omega),b8.block b (by omega),hX.block b hb hne]
        have H39:=(hg9.block p (by omega) (fun e=>by have:=(hFlt p (.inl e.symm)).1;omega)).trans H38;have cq1:=(ab H39).2.1;have fq1:=JL H39 1;obtain⟨A3,n3,c3,rfl⟩:=aN hF9.own;have H40:(w9.setCell ⟨p,1,none⟩ (.slice A3 n3 c3)).heap[p]?=some (.cells #[.slice A1 n1 c1,.slice A3 n3 c3,.int .i64 s.2.2.1,.int .i64 s.2.2.2] 26 (0,0)):=heap_setCell_same _ _ 1 _ _ (.slice A3 n3 c3) H39;have hF9lt:=hF9.lt;have hF10:=hF9.keep (w':=w9.setCell ⟨p,1,none⟩ (.slice A3 n3 c3)) fun b hb=>heap_setCell_other _ _ _ _ (by have:=(hF9lt b hb).1;simp;omega)
        go_wp2
        refine⟨⟨i+1,congrArg (KR .i64) (by omega),by omega,⟨_,_,_,_,H40,hF10⟩,hX9.set _ _ rfl⟩,?_⟩
        show s.2.1.length - ((i:Int)+1).toNat<s.2.1.length - (i:Int).toNat
        omega
      · have hpi:¬(i:Int)<(s.2.1.length:Int):=by omega
        have hie:i=s.2.1.length:=by omega
        subst hie;rw [KQ] at hFr;have K2:=(hX.block _ (by omega) (fun e=>hp2 e.symm)).trans H2';obtain⟨d0,d1,d2,d3⟩:=ab H3r;obtain⟨e0,e1,e2,e3⟩:=ab K2;have g0:=JL K2 0;have g1:=JL K2 1;have g2:=JL K2 2;have g3:=JL K2 3;have own9:=aY (w':=wr) own1 fun b hb=>hX.block b (dy own1 b hb) (hv1 b hb).2
        have hS1:ShopAt wr w.heap.size (.agg #[.slice A1 n1 c1,.slice Vg Vn Vc,.int .i64 s.2.2.1,.int .i64 s.2.2.2]) (.slice A1 n1 c1) (.slice Vg Vn Vc) ys s :=
          ⟨rfl,own9,fun b hb=>by have:=(hv1 b hb).1;omega,hFr.base (by omega),fun b hb h=>by have:=dy own1 b hb;have:=(hFlt b h).1;omega⟩
        have hL:∀b,ShS (.slice A1 n1 c1) (.slice Vg Vn Vc) ys b→w.heap.size+1<b:=fun b hb=>by
          rcases hb with hb | hb
          · exact(hv1 b hb).1
          · have:=(hFlt b hb).1
            omega
        go_wp2
        have H11:((((wr.setCell ⟨w.heap.size+1,0,none⟩ (.slice A1 n1 c1)).setCell ⟨w.heap.size+1,1,none⟩ (.slice Vg Vn Vc)).setCell ⟨w.heap.size+1,2,none⟩ (.int .i64 s.2.2.1)).setCell ⟨w.heap.size+1,3,none⟩ (.int .i64 s.2.2.2)).heap[w.heap.size+1]?=some (.cells #[.slice A1 n1 c1,.slice Vg Vn Vc,.int .i64 s.2.2.1,.int .i64 s.2.2.2] 26 (0,0)):=by
          rw [heap_setCell_same _ _ _ _ _ _ (heap_setCell_same _ _ _ _ _ _ (heap_setCell_same _ _ _ _ _ _ (heap_setCell_same _ _ _ _ _ _ K2)))];rfl
        obtain⟨d0,d1,d2,d3⟩:=ab H11;refine bodyPost_ret (by simp [results,Tryd.results24,go_sem,d0,d1,d2,d3];try rfl) rfl ?_
        refine⟨_,rfl,⟨_,_,ys,hS1.keep fun b hb=>?_⟩,(((hBw.setCell (by simp) _).setCell (by simp) _).setCell (by simp) _).setCell (by simp) _⟩
        have:=hL b hb;rw [heap_setCell_other _ _ _ _ (by simp;omega),heap_setCell_other _ _ _ _ (by simp;omega),heap_setCell_other _ _ _ _ (by simp;omega),heap_setCell_other _ _ _ _ (by simp;omega)]
  have H1d:=Below.some (ac W) H1;have H2d:=Below.some (ac W) H2;have B2d:Below w.heap.size w W.drew:=fL B2 (ac W) B2.size;have hBx:Hid (∀q,Below w.heap.size w (W.alloc q).drew):=fun q=>fL (B2.alloc B2.size q) (ac _) (by simp;omega)
  have hBy:Hid (∀q r,Below w.heap.size w ((W.alloc q).alloc r).drew):=fun q r=>fL ((B2.alloc B2.size q).alloc (by simp;omega) r) (ac _) (by simp;omega)
  obtain⟨a0,a1,a2,a3⟩:=ab H1d;have hWx:Hid (∀q,Below W.heap.size W (W.alloc q).drew):=fun q=>fL (aD W q) (ac _) (by simp)
  have hWy:Hid (∀q r,Below W.heap.size W ((W.alloc q).alloc r).drew):=fun q r=>fL ((aD W q).alloc (by simp) r) (ac _) (by simp;omega)
  have hmk:Hid (∀(W4:World) (v:Value),W4.ownsRow (w.heap.size+2) 70 4 v s.1.length us→bh W4 (fun _=>False) (aM v) 4 (bxs s.1) v):=fun W4 v h=>mb h (by simp) huw hus Ew
  clear hf hus2 hul2 huA2 hr hb hs hK H2 H2d a1 hus huw B2d B2
  go_region_held3 (fun w'=>w'.cell? ⟨w.heap.size,0,none⟩=some (.slice A s.1.length c)∧w'.cell? ⟨w.heap.size,2,none⟩=some (.int .i64 s.2.2.1)∧w'.cell? ⟨w.heap.size,3,none⟩=some (.int .i64 s.2.2.2)) (first | (refine⟨?_,?_,?_⟩<;>assumption) | (refine Fz (x1:=.slice A' s.2.1.length c') (t:=26) ?_;first | with_reducible exact H14 | with_reducible exact aj _ H14 | with_reducible exact uo _ _ _ _ (by omega) H14 | with_reducible exact uo _ _ _ _ (by omega) (aj _ H14) | with_reducible exact oq (aj _ H1) | with_reducible exact oq (aj _ (aj _ H1)) | with_reducible exact aj _ (oq H1) | with_reducible exact aj _ (aj _ (oq H1))))
    (first
      | (refine aB _ rfl _ _ 23 rfl (w.heap.size+2) 70 i0 (.agg #[.string ⟨#[]⟩,.int .i64 0,.int .i64 0,.int .i64 0]) 4 40 Tryd.underlying23 hi0 hz0 hz1 hz2 rfl (by decide) (.slice (some ⟨W.heap.size,0,none⟩) 0 0) 0 [] (by simp [go_sem];done) (dj (by first | exact al _ rfl | exact aj _ (al _ rfl) | exact al _ (by simp [JQ])) (by omega)) A s.1.length c us (by simp [go_sem]) hul (fun h0=>by
          obtain⟨g,o,e,hFg,h1⟩:=huA h0;exact⟨g,o,e,fun j u hj=>(Ke (w:=w) ((hBx.out _).block g (hF g hFg))).trans (h1 j u hj)⟩) hu1 (by unfold maxLen;omega) (by omega) (by simp [JQ];omega) ?_
         intro v1 w4 hown1 hg1 hat1;obtain⟨A1,n1,c1,rfl⟩:=aN hown1;have H14:w4.heap[w.heap.size]?=some (.cells #[.slice A s.1.length c,.slice A' s.2.1.length c',.int .i64 s.2.2.1,.int .i64 s.2.2.2] 26 (0,0)):=(hg1.block _ (by simp [JQ];omega) (by simp [KB];omega)).trans (aj _ H1);have hB14:Below W.heap.size W w4:=(hWx.out _).grown hg1 (by simp [JQ];try omega) (fun k hk=>by have:W.heap.size=k:=JN hk;omega))
      | (refine aB _ rfl _ _ 23 rfl (w.heap.size+2) 70 i0 (.agg #[.string ⟨#[]⟩,.int .i64 0,.int .i64 0,.int .i64 0]) 4 40 Tryd.underlying23 hi0 hz0 hz1 hz2 rfl (by decide) (.slice (some ⟨W.heap.size+1,0,none⟩) 0 0) 0 [] (by simp [go_sem];done) (dj (by first | exact al _ rfl | exact aj _ (al _ rfl) | exact al _ (by simp [JQ])) (by omega)) A s.1.length c us (by simp [go_sem]) hul (fun h0=>by
          obtain⟨g,o,e,hFg,h1⟩:=huA h0;exact⟨g,o,e,fun j u hj=>(Ke (w:=w) ((hBy.out _ _).block g (hF g hFg))).trans (h1 j u hj)⟩) hu1 (by unfold maxLen;omega) (by omega) (by simp [JQ];omega) ?_
         intro v1 w4 hown1 hg1 hat1;obtain⟨A1,n1,c1,rfl⟩:=aN hown1;have H14:w4.heap[w.heap.size]?=some (.cells #[.slice A s.1.length c,.slice A' s.2.1.length c',.int .i64 s.2.2.1,.int .i64 s.2.2.2] 26 (0,0)):=(hg1.block _ (by simp [JQ];omega) (by simp [KB];omega)).trans (aj _ (aj _ H1));have hB14:Below W.heap.size W w4:=(hWy.out _ _).grown hg1 (by simp [JQ];try omega) (fun k hk=>by have:W.heap.size+1=k:=JN hk;omega);have hz:w4.heap[W.heap.size]?=some (.cells #[.slice none 0 0,.slice none 0 0,.int .i64 0,.int .i64 0] 26 (0,0)):=(hg1.block _ (by simp [JQ];try omega) (by simp [KB])).trans (aj _ (al _ rfl));obtain⟨q0,q1,q2,q3⟩:=ab hz;have r0:=JL hz 0;have r1:=JL hz 1;have r2:=JL hz 2;have r3:=JL hz 3)
      | (refine aB _ rfl _ _ 23 rfl (w.heap.size+2) 70 i0 (.agg #[.string ⟨#[]⟩,.int .i64 0,.int .i64 0,.int .i64 0]) 4 40 Tryd.underlying23 hi0 hz0 hz1 hz2 rfl (by decide) (.slice (some ⟨W.heap.size,0,none⟩) 0 0) 0 [] (by simp [go_sem];done) (dj (by first | exact al _ rfl | exact aj _ (al _ rfl) | exact al _ (by simp [JQ])) (by omega)) A s.1.length c us (by simp [go_sem]) hul (fun h0=>by
          obtain⟨g,o,e,hFg,h1⟩:=huA h0;exact⟨g,o,e,fun j u hj=>(Ke (w:=w) ((hBy.out _ _).block g (hF g hFg))).trans (h1 j u hj)⟩) hu1 (by unfold maxLen;omega) (by omega) (by simp [JQ];omega) ?_
         intro v1 w4 hown1 hg1 hat1;obtain⟨A1,n1,c1,rfl⟩:=aN hown1;have H14:w4.heap[w.heap.size]?=some (.cells #[.slice A s.1.length c,.slice A' s.2.1.length c',.int .i64 s.2.2.1,.int .i64 s.2.2.2] 26 (0,0)):=(hg1.block _ (by simp [JQ];omega) (by simp [KB];omega)).trans (aj _ (aj _ H1));have hB14:Below W.heap.size W w4:=(hWy.out _ _).grown hg1 (by simp [JQ];try omega) (fun k hk=>by have:W.heap.size=k:=JN hk;omega);have hz:w4.heap[W.heap.size+1]?=some (.cells #[.slice none 0 0,.slice none 0 0,.int .i64 0,.int .i64 0] 26 (0,0)):=(hg1.block _ (by simp [JQ];try omega) (by simp [KB])).trans (al _ (by simp [JQ]));obtain⟨q0,q1,q2,q3⟩:=ab hz;have r0:=JL hz 0;have r1:=JL hz 1;have r2:=JL hz 2;have r3:=JL hz 3))
  · show K _ _
    have own1:=hmk.out _ _ (by simpa using hown1);have hlt:=mh hown1;have hsz:=hB14.size;exact hrest.out _ _ _ _ _ _ _ _ _ w4.heap.size A1 n1 c1 _ (by omega) (al _ rfl) (aY own1 fun b hb=>fk _ (dy own1 b hb)) (fun b hb=>by have:=hlt b hb;omega) (hB14.alloc hB14.size _)
  · show K _ _
    have own1:=hmk.out _ _ (by simpa using hown1);have hlt:=mh hown1;have hne:∀b,aM (.slice A1 n1 c1) b→W.heap.size+1≠b:=fun b hb=>by
      rcases hat1 with h | h
      · have h2:some b=some (W.heap.size):=hb.symm.trans h
        have:=JN h2;omega
      · have h2:=hb.symm.trans h
        simp [JQ] at h2;omega
    exact hrest.out _ _ _ _ _ _ _ _ _ (W.heap.size+1) A1 n1 c1 _ (by omega) (aK _ _ _ _ hz) (Ah _ _ _ _ own1 hne) (fun b hb=>⟨by have:=hlt b hb;omega,fun e=>hne b hb e.symm⟩) (ct _ _ _ _ hB14 (by omega))
  · show K _ _
    have own1:=hmk.out _ _ (by simpa using hown1);have hlt:=mh hown1;have hne:∀b,aM (.slice A1 n1 c1) b→W.heap.size≠b:=fun b hb=>by
      rcases hat1 with h | h
      · have h2:some b=some (W.heap.size+1):=hb.symm.trans h
        have:=JN h2;omega
      · have h2:=hb.symm.trans h
        simp [JQ] at h2;omega
    exact hrest.out _ _ _ _ _ _ _ _ _ (W.heap.size) A1 n1 c1 _ (by omega) (aK _ _ _ _ hz) (Ah _ _ _ _ own1 hne) (fun b hb=>⟨by have:=hlt b hb;omega,fun e=>hne b hb e.symm⟩) (ct _ _ _ _ hB14 (by omega))
set_option maxRecDepth 100000
theorem cB {w:World} {base:Nat} {e:TypeId} {z n:Nat} {v:Value} {us:List Value} (h:w.ownsRow base e z v n us):∃A c,v = .slice A n c:=by
 obtain⟨_,⟨rfl,rfl⟩ | ⟨g,cap,cur,rfl,_⟩⟩:=h
 ·exact⟨_,_,rfl⟩
 ·exact⟨_,_,rfl⟩
theorem gT {w:World} {base:Nat} {e:TypeId} {z n c:Nat} {A:Option Addr} {us:List Value} (h:w.ownsRow base e z (.slice A n c) n us) (hn:0<n):∃g,A=some ⟨g,0,none⟩:=by
 obtain⟨_,⟨e,rfl⟩ | ⟨g,cap,cur,e,_⟩⟩:=h
 ·omega
 ·cases e
  exact⟨g,rfl⟩
set_option maxHeartbeats 8000000 in
set_option maxRecDepth 1000000 in
theorem ml (s:Sp) (hs:cm s) (v0:Value) (w:World) (F:Nat→Prop) (hr:aT w F (sp s) v0) (hF:∀b,F b→b<w.heap.size) :
  Calls Tryd.prog 6 #[v0] w fun e w'=>∃v,e = .returned (.tuple #[v,.bool (nT s)])∧tz w' w.heap.size v (kc s)∧Below w.heap.size w w':=by
 obtain⟨A,n,c,A',n',c',rfl,hb,hf⟩:=jZ hr;obtain⟨us,hn,-,-,-,-,-⟩:=jE hb uj;obtain⟨us2,hn2,hul2,hus2,_,_,huA2⟩:=jE hf uf;rw [JX] at hn hn2;subst hn hn2;clear hb hf us
 go_enter Tryd.func6,Tryd.ntmps6
 have hb2:∀a b,Below w.heap.size w ((w.alloc a).alloc b):=fun a b=>((KE _ w).alloc (Kb _) _).alloc (by simp) _
 have rep:∀{W:World},Below w.heap.size w W→aT W F (sp s) (.agg #[.slice A s.1.length c,.slice A' s.2.1.length c',.int .i64 s.2.2.1,.int .i64 s.2.2.2]):=fun {W} h=>aQ (fun _ h=>h) (fun b hb=>h.block b (hF b hb)) hr
 have hFW:∀{W:World},Below w.heap.size w W→∀b,F b→b<W.heap.size:=fun {W} h b hb=>JU (hF b hb) h.size
 have hc1:=fun a b=>ta s hs (rep (hb2 a b)) (hFW (hb2 a b))
 go_wp2_with (go_at_call 23;refine(hc1 _ _).mono ?_)
 rintro e w2 ⟨rfl,b2⟩;have H1:w2.heap[w.heap.size]?=some (.cells #[.slice A s.1.length c,.slice A' s.2.1.length c',.int .i64 s.2.2.1,.int .i64 s.2.2.2] 26 (0,0)):=Below.some b2 (aj _ (al _ rfl));have H2:w2.heap[w.heap.size+1]?=some (.cells #[.slice none 0 0,.slice none 0 0,.int .i64 0,.int .i64 0] 26 (0,0)):=Below.some b2 (al _ (by simp));have B2:Below w.heap.size w w2:=fL (hb2 _ _) b2 (by simp;omega);have hl2:=bz H2;clear hc1 b2;cases hok:aE s
 ·have hno:¬tW s:=fun h=>by
   have h1:aE s=true:=h.1;rw [hok] at h1;cases h1
  obtain⟨eB,eS⟩:=um hno;obtain⟨e0,e1,e2,e3⟩:=ab H2;obtain⟨g0,g1,g2,g3⟩:=aZ H2
  go_wp2
  obtain⟨d0,d1,d2,d3⟩:=ab (aK (.slice none 0 0) (.slice none 0 0) (.int .i64 0) (.int .i64 0) H2);refine bodyPost_ret (by simp [results,Tryd.results6,go_sem,d0,d1,d2,d3];try rfl) rfl ?_
  (try rw [eB])
  (try rw [eS])
  exact⟨_,rfl,iy _ _,ct _ _ _ _ B2 (by omega)⟩
 obtain⟨cb0,cb1,cb2,cb3⟩:=ab H1;have hc3:=qt s hs _ w2 F (rep B2) (hFW B2)
 go_wp2_with (go_at_call 24;refine hc3.mono ?_)
 rintro e w3 ⟨v3,rfl,⟨Vb,Vf,ys,sa⟩,b3⟩;obtain rfl:=sa.val;have B3:=fL B2 b3 B2.size;replace H1:=Below.some b3 H1;replace H2:=Below.some b3 H2;have ownb:=sa.box;have hblt:=dy ownb;have hbge:=sa.bge;obtain⟨bA,bn,bc,rfl⟩:=bQ ownb;have hF3:=sa.fms;obtain⟨fA,fc,rfl⟩:=cB hF3.own;have hF3lt:=hF3.lt;have hl3:=bz H2;have hs23:=b3.size;clear sa b3 hc3 cb0 cb1 cb2 cb3;have H5:(w3.alloc (.cells #[.slice bA bn bc,.slice fA s.2.1.length fc,.int .i64 s.2.2.1,.int .i64 s.2.2.2] 26)).heap[w3.heap.size]?=some (.cells #[.slice bA bn bc,.slice fA s.2.1.length fc,.int .i64 s.2.2.1,.int .i64 s.2.2.2] 26 (0,0)):=al _ rfl;have H2':(w3.alloc (.cells #[.slice bA bn bc,.slice fA s.2.1.length fc,.int .i64 s.2.2.1,.int .i64 s.2.2.2] 26)).heap[w.heap.size+1]?=_:=aj _ H2;have B5:Below w.heap.size w (w3.alloc (.cells #[.slice bA bn bc,.slice fA s.2.1.length fc,.int .i64 s.2.2.1,.int .i64 s.2.2.2] 26)):=B3.alloc B3.size _;have own5:=aY (w':=w3.alloc (.cells #[.slice bA bn bc,.slice fA s.2.1.length fc,.int .i64 s.2.2.1,.int .i64 s.2.2.2] 26)) ownb fun b hb=>by
  have:=hblt b hb;rw [fk _ (by omega)]
 have hF5:=hF3.keep (w':=w3.alloc (.cells #[.slice bA bn bc,.slice fA s.2.1.length fc,.int .i64 s.2.2.1,.int .i64 s.2.2.2] 26)) fun b hb=>fk _ (hF3lt b hb).2
 have S5:(w3.alloc (.cells #[.slice bA bn bc,.slice fA s.2.1.length fc,.int .i64 s.2.2.1,.int .i64 s.2.2.2] 26)).heap.size=w3.heap.size+1:=by simp
 go_wp2
 generalize w3.alloc (.cells #[.slice bA bn bc,.slice fA s.2.1.length fc,.int .i64 s.2.2.1,.int .i64 s.2.2.2] 26)=W5 at *;have S5a:w3.heap.size+1≤W5.heap.size:=by omega
 have S5b:W5.heap.size≤w3.heap.size+1:=by omega
 clear S5 H1 H2;have hX:∀b,aM (.slice bA bn bc) b→w.heap.size+2≤b∧¬(b=w3.heap.size):=fun b hb=>by
  have h1:=hblt b hb;have h2:=hbge b hb;omega
 have hln:=hs.2.1
 go_loopw [18] (fun vi wr=>∃i:Nat,vi = .int .i64 i∧i≤s.2.1.length∧Gd s i∧Je wr w3.heap.size (w.heap.size+2) (fun b=>b=w3.heap.size) (.slice fA s.2.1.length fc) s.2.2.1 s.2.2.2 (mvs s.1 (s.2.1.take i))∧KeptX (fun b=>b=w3.heap.size) W5 wr) (fun vi _=>s.2.1.length - (intOf vi).toNat)
 case atStart =>
  exact⟨0,rfl,Lc _,(fun j hj=>by omega),⟨_,_,_,H5,own5,hX⟩,KeptX.refl _ _⟩
 case round =>
  obtain⟨i,rfl,hin,hgd,⟨Vg,Vn,Vc,H5r,ownr,hXr⟩,hK⟩:=hrel;have hsz:=hK.size;have hBw:Below w.heap.size w wr:=B5.trans (hK.below (B:=w.heap.size) (fun b hb=>by omega) (by omega));have hFr:=hF5.keep (w':=wr) fun b hb=>hK.block b (by have:=(hF3lt b hb).2;omega) (by have:=(hF3lt b hb).2;omega)
  have H2r:=(hK.block (w.heap.size+1) (by omega) (by omega)).trans H2';by_cases hp:i<s.2.1.length
  ·have hpi:(i:Int)<(s.2.1.length:Int):=by omega
   obtain⟨g,rfl⟩:=gT hFr.own (by omega);obtain⟨y,hy⟩:∃y,ys[i]?=some y:=⟨ys[i]'(by rw [hFr.len];exact hp),JI _⟩
   have hgx:s.2.1[i]?=some s.2.1[i]:=JI hp;have hrow:=hFr.row i _ y hgx hy;obtain⟨Ax,nx,cx,rfl⟩:=bQ hrow;have k0:=aW hFr.own (j:=i*4) (u:=.int .i64 s.2.1[i].1) (by have:=be _ _ i s.2.1[i] _ hgx hy 0 (by omega);simpa [dL] using this);have k1:=aW hFr.own (j:=i*4+1) (u:=.slice Ax nx cx) (by rw [be _ _ i s.2.1[i] _ hgx hy 1 (by omega)];rfl);have k2:=aW hFr.own (j:=i*4+2) (u:=.bool s.2.1[i].2.2.1) (by rw [be _ _ i s.2.1[i] _ hgx hy 2 (by omega)];rfl);have k3:=aW hFr.own (j:=i*4+3) (u:=.int .i64 s.2.1[i].2.2.2) (by rw [be _ _ i s.2.1[i] _ hgx hy 3 (by omega)];rfl);have hrowq:∀q,bh (wr.alloc q) (fun _=>False) (aM (.slice Ax nx cx)) 1 (txs s.2.1[i].2.1) (.slice Ax nx cx):=fun q=>bh.below hrow (aD wr q)
   have hpre:=Cu hs hok hp hgd;have hmv:=zF s hp;generalize s.2.1[i]=x at *;have ownq:∀q,bh (wr.alloc q) (fun _=>False) (aM (.slice Vg Vn Vc)) 4 (bxs (mvs s.1 (s.2.1.take i))) (.slice Vg Vn Vc):=fun q=>bh.below ownr (aD wr q)
   have hcall:=fun q=>mS (mvs s.1 (s.2.1.take i)) x.2.1 1 hpre.1 (by have:=hpre.2.1;omega) hpre.2.2.2 (w:=wr.alloc q) (gK (ownq q)) (dy (ownq q)) (gK (hrowq q)) (dy (hrowq q))
   rw [←hmv] at hcall;have hmv':Hid (mvs s.1 (s.2.1.take (i+1))=bE (aU (mvs s.1 (s.2.1.take i))) 1 (mvs s.1 (s.2.1.take i)) x.2.1):=hmv;clear hmv;have m0:=fun q=>(ab (aj q H5r)).1
   go_wp2_with (go_at_call 25;refine(hcall _).mono ?_)
   intro e w6 hout;obtain⟨A6,n6,c6,rfl,own6,hv6,b6⟩:=hout;have b6':Below wr.heap.size wr w6:=fL (aD _ _) b6 (by simp);have H26:=Below.some b6' H2r;have H56:=Below.some b6' H5r;have hsz6:=b6'.size;cases hgo:bp (mvs s.1 (s.2.1.take (i+1)))
   ·have hno:¬tW s:=fun h=>by
     have h1:=h.2 i hp;rw [hgo] at h1;cases h1
    obtain⟨eB,eS⟩:=um hno;obtain⟨e0,e1,e2,e3⟩:=ab H26;obtain⟨g0,g1,g2,g3⟩:=aZ H26
    go_wp2
    obtain⟨d0,d1,d2,d3⟩:=ab (aK (.slice none 0 0) (.slice none 0 0) (.int .i64 0) (.int .i64 0) H26);refine bodyPost_ret (by simp [results,Tryd.results6,go_sem,d0,d1,d2,d3];try rfl) rfl ?_
    (try rw [eB])
    (try rw [eS])
    exact⟨_,rfl,iy _ _,ct _ _ _ _ (hBw.trans (b6'.mono (by omega))) (by omega)⟩
   ·have em:mvd (mvs s.1 (s.2.1.take i)) x.2.1 1=mvs s.1 (s.2.1.take (i+1)):=by
     unfold mvd;rw [←hmv'.out,if_pos hgo]
    rw [em] at own6;have m56:=(ab H56).1;have f56:=(aZ H56).1;have H57:=heap_setCell_same _ _ 0 _ _ (.slice A6 n6 c6) H56;simp only [Ks,Kz,KA] at H57;have hv6':∀b,aM (.slice A6 n6 c6) b→wr.heap.size<b:=fun b hb=>by
     have:=(hv6 b hb).1;simp at this;omega
    have own7:=aY (w':=w6.setCell ⟨w3.heap.size,0,none⟩ (.slice A6 n6 c6)) own6 fun b hb=>heap_setCell_other _ _ _ _ (by have:=hv6' b hb;simp;omega)
    have hK7:KeptX (fun b=>b=w3.heap.size) W5 (w6.setCell ⟨w3.heap.size,0,none⟩ (.slice A6 n6 c6)):=(hK.trans ⟨b6'.os,b6'.tape,b6'.output,b6'.size,fun b hb _=>b6'.block b hb⟩).set _ _ rfl;have hX7:∀b,aM (.slice A6 n6 c6) b→w.heap.size+2≤b∧¬(b=w3.heap.size):=fun b hb=>by
     have:=hv6' b hb;omega
    go_wp2
    refine⟨⟨i+1,congrArg (KR .i64) (by omega),by omega,hgd.succ hgo,⟨_,_,_,H57,own7,hX7⟩,hK7⟩,?_⟩
    show s.2.1.length - ((i:Int)+1).toNat<s.2.1.length - (i:Int).toNat
    omega
  ·have hpi:¬(i:Int)<(s.2.1.length:Int):=by omega
   have hie:i=s.2.1.length:=by omega
   subst hie;rw [KQ] at ownr;obtain⟨eB,eS⟩:=xQ (s:=s) ⟨hok,hgd⟩;obtain⟨e0,e1,e2,e3⟩:=ab ((heap_setCell_other wr ⟨w3.heap.size,1,none⟩ (w.heap.size+1) (.slice none 0 0) (by simp;omega)).trans H2r);obtain⟨g0,g1,g2,g3⟩:=aZ ((heap_setCell_other wr ⟨w3.heap.size,1,none⟩ (w.heap.size+1) (.slice none 0 0) (by simp;omega)).trans H2r);have m1:=(ab H5r).2.1;have f1:=(aZ H5r).2.1;have H6r:=heap_setCell_same _ _ 1 _ _ (.slice none 0 0) H5r;simp only [Ks,Kz,KA] at H6r;obtain⟨n0,n1,n2,n3⟩:=ab H6r;have H2s:=(heap_setCell_other wr ⟨w3.heap.size,1,none⟩ (w.heap.size+1) (.slice none 0 0) (by simp;omega)).trans H2r;have ownr':=aY (w':=wr.setCell ⟨w3.heap.size,1,none⟩ (.slice none 0 0)) ownr fun b hb=>heap_setCell_other _ _ _ _ (by have:=(hXr b hb).2;simp;omega)
   have hBs:Below w.heap.size w (wr.setCell ⟨w3.heap.size,1,none⟩ (.slice none 0 0)):=hBw.setCell (by simp;omega) _;have hS:=tw (x:=s.2.2.1) (y:=s.2.2.2) ownr' (fun b hb=>⟨by have:=(hXr b hb).1;omega,fun h=>by
    rcases h with h | ⟨y,h,_⟩
    ·cases h
    ·simp at h⟩) (lw _ w.heap.size)
   go_wp2
   obtain⟨d0,d1,d2,d3⟩:=ab (aK (.slice Vg Vn Vc) (.slice none 0 0) (.int .i64 s.2.2.1) (.int .i64 s.2.2.2) H2s);refine bodyPost_ret (by simp [results,Tryd.results6,go_sem,d0,d1,d2,d3];try rfl) rfl ?_
   (try rw [eB])
   (try rw [eS])
   refine⟨_,rfl,⟨_,_,_,hS.set4 _ _ _ _ fun b hb=>?_⟩,ct _ _ _ _ hBs (by omega)⟩
   rcases hb with hb | hb
   ·have:=(hXr b hb).1
    omega
   ·rcases hb with hb | ⟨y,hb,_⟩
    ·cases hb
    ·simp at hb
set_option maxRecDepth 100000
abbrev stV (x:Stp):Value:=.agg #[.int .i64 x.1,.int .i64 x.2.1,.string x.2.2.1,.int .i64 x.2.2.2]
theorem Gt (w:World) (F:Nat→Prop) (x:Stp):aT w F (stp x) (stV x):=by
 refine⟨[_,_,_,_],rfl,?_⟩
 simp only [RepC,aw,aJ];exact⟨⟨[_],[_,_,_],rfl,⟨rfl,rfl⟩,[_],[_,_],rfl,⟨rfl,rfl⟩,[_],[_],rfl,⟨rfl,rfl⟩,[_],[],rfl,⟨rfl,rfl⟩,rfl⟩,rfl⟩
theorem ym (l:List Bx) (u:ByteArray) (hg:bp l=true) (hl:l.length≤1048576) (hu:u.size≤1000) {w:World} {F:Nat→Prop} {y:Value} (hr:aT w F (bxs l) y) (hF:∀b,F b→b<w.heap.size) :
  Calls Tryd.prog 87 #[y,.string u] w (GT w 1 (txs (gz l u)) (.bool (yY l u))) :=
 qm (ds:=[bxs l,T u]) (F:=F) (JO Tryd.func87 (by kernel_rfl) rfl) vc (vC l (kJ hg) hl u hu (xf hg u)) (by simp)
  (show eZ w F _ (.dat 2) (bxs l) y∧eZ w _ _ (.dat 0) (T u) (.string u)∧True from⟨.inr hr,.inr (eT.2 ⟨rfl,rfl⟩),trivial⟩) hF
theorem jg (s:Sp) (n:Int) (h:cm s) (hok:aE s=true) {w:World} {F:Nat→Prop} {y:Value} (hr:aT w F (sp s) y) (hF:∀b,F b→b<w.heap.size) :
  Calls Tryd.prog 38 #[y,.int .i64 n] w fun e w'=>e = .returned (.int .i64 (if gC s.2.1 n=true then(atF s.2.1 n:Int) else -1))∧Below w.heap.size w w' :=
 wb (JO Tryd.func38 (by kernel_rfl) rfl) kU (nY s n h hok) hr hF
theorem Aw (x:Stp) (h:x.2.2.1.size≤9223372036854775807) {w:World} :
  Calls Tryd.prog 67 #[stV x] w fun e w'=>e = .returned (.bool (gw x))∧Below w.heap.size w w' :=
 nG (F:=fun _=>False) (ds:=[stp x]) (JO Tryd.func67 (by kernel_rfl) rfl) wQ iP rfl (wx x h) rfl oa (show eZ w _ _ (.dat 0) (stp x) (stV x)∧True from⟨.inr (Gt _ _ x),trivial⟩) (fun b h=>h.elim)
def Gc (w:World) (p B:Nat) (s:Sp):Prop:=∃A n c A' n' c' ys,w.heap[p]?=some (.cells #[.slice A n c,.slice A' n' c',.int .i64 s.2.2.1,.int .i64 s.2.2.2] 26 (0,0)) ∧
 ShopAt w B (.agg #[.slice A n c,.slice A' n' c',.int .i64 s.2.2.1,.int .i64 s.2.2.2]) (.slice A n c) (.slice A' n' c') ys s∧¬ShS (.slice A n c) (.slice A' n' c') ys p
theorem Gc.below {w w':World} {p B:Nat} {s:Sp} (h:Gc w p B s) (hB:Below w.heap.size w w'):Gc w' p B s:=by
 obtain⟨A,n,c,A',n',c',ys,h1,h2,h3⟩:=h;exact⟨A,n,c,A',n',c',ys,Below.some hB h1,h2.below hB,h3⟩
theorem oB {w:World} {B g cap n:Nat} {l:List Fm} {ys:List Value} (h:FmsAt w B (.slice (some ⟨g,0,none⟩) n cap) ys l) (i:Nat) (hi:i≤l.length):∀(j:Nat) (u:Value),(bK (l.drop i) (ys.drop i))[j]?=some u→w.cell? ⟨g,i*4+j,none⟩=some u:=by
 intro j u hj;have hl:=h.len;have e1:=oe (l.take i) (l.drop i) (ys.take i) (ys.drop i) (by simp [hl]);rw [Kn,Kn] at e1;have h2:=(eP (l.take i) (ys.take i) (by simp [hl]))
 rw [Kg,Li hi] at h2;have h3:(bK l ys)[i*4+j]?=some u:=by rw [e1,List.getElem?_append_right (by omega),h2,Nat.add_sub_cancel_left];exact hj
 obtain⟨e,he⟩:∃e,n=l.length∨e=0:=⟨0,.inr rfl⟩
 have ho:=h.own;obtain⟨_,⟨hn,_⟩ | ⟨g',cap',cur,e',_⟩⟩:=h.own
 ·cases hn
 ·cases e'
  exact aW ho h3
theorem iX {w:World} {B:Nat} {V:Value} {l:List Fm} {ys:List Value} (h:FmsAt w B V ys l):∀y∈ys,∃A n c,y = .slice A n c:=fun y hy=>by
 obtain⟨i,hi⟩:=KU.1 hy;have hl:i<l.length:=by rw [←h.len];exact(Ku.1 hi).1
 exact bQ (h.row i l[i] y (by simp) hi)
set_option maxRecDepth 100000
variable {Z:Nat→Prop}
def dY (Z:Nat→Prop) (w:World) (q:Nat) (S:Nat→Prop) (d:D):Prop:=∃F:Nat→Prop,sY w F (fun g=>g=q) 3 d (.pointer (some ⟨q,0,none⟩))∧∀b,F b→b<w.heap.size∧b≠q∧¬S b∧¬Z b
theorem dY.lt {w:World} {q:Nat} {S:Nat→Prop} {d:D} (h:dY Z w q S d):q<w.heap.size:=by
 obtain⟨F,⟨l,us,g,e,_,h2,h3,_,_,_,h7⟩,_⟩:=h;subst h7;exact(KO.1 h3).1
theorem dY.kept {w w':World} {q:Nat} {S:Nat→Prop} {d:D} (h:dY Z w q S d) (hq:¬S q) (hs:w.heap.size≤w'.heap.size) (hk:∀b,b<w.heap.size→¬S b→w'.heap[b]?=w.heap[b]?):dY Z w' q S d:=by
 have hlt:=h.lt;obtain⟨F,⟨l,us,g,e,h1,h2,h3,h4,h5,h6,h7⟩,hF⟩:=h;subst h7;exact⟨F,⟨l,us,g,e,h1,h2,(hk g hlt hq).trans h3,aX (fun _ h=>h) (fun b hb=>hk b (hF b hb).1 (hF b hb).2.2.1) _ _ h4,h5,h6,rfl⟩,fun b hb=>⟨JU (hF b hb).1 hs,(hF b hb).2⟩⟩
theorem dY.more {w:World} {q:Nat} {S T:Nat→Prop} {d:D} (h:dY Z w q S d) (ht:∀b,T b→S b∨w.heap.size≤b):dY Z w q T d:=by
 obtain⟨F,h1,hF⟩:=h;exact⟨F,h1,fun b hb=>⟨(hF b hb).1,(hF b hb).2.1,fun hT=>(ht b hT).elim (hF b hb).2.2.1 fun h=>by have:=(hF b hb).1;omega,(hF b hb).2.2.2⟩⟩
theorem dY.below {w w':World} {q:Nat} {S T:Nat→Prop} {d:D} (h:dY Z w q S d) (hB:Below w.heap.size w w') (ht:∀b,T b→S b∨w.heap.size≤b):dY Z w' q T d:=by
 obtain⟨F,⟨l,us,g,e,h1,h2,h3,h4,h5,h6,h7⟩,hF⟩:=h.more ht;subst h7;exact⟨F,⟨l,us,g,e,h1,h2,(hB.block g (KO.1 h3).1).trans h3,aX (fun _ h=>h) (fun b hb=>hB.block b (hF b hb).1) _ _ h4,h5,h6,rfl⟩,fun b hb=>⟨JU (hF b hb).1 hB.size,(hF b hb).2⟩⟩
theorem dY.set {w:World} {q:Nat} {S:Nat→Prop} {d:D} (h:dY Z w q S d) (hq:¬S q) (a:Addr) (v:Value) (ha:S a.block):dY Z (w.setCell a v) q S d :=
 h.kept hq (by simp [JZ]) fun b _ hb=>heap_setCell_other _ _ _ _ fun e=>hb (e ▸ ha)
structure CurPost (Z:Nat→Prop) (w:World) (q:Nat) (S:Nat→Prop) (d':D) (rm:List Kd) (rs:List D) (vs:List Value) (w':World) (F':Nat→Prop) (R:Nat→Option Nat):Prop where
 cur:dY Z w' q (fun b=>S b∨∃j,R b=some j) d'
 keep:KeptX (fun b=>b=q) w w'
 len:vs.length=rm.length
 res:∀j,vP w' F' w.heap.size (fun g=>R g=some j) (an rm j) (nth rs j) (vs.getD j undef)
 new:∀b j,R b=some j→w.heap.size≤b∧b<w'.heap.size
theorem ou {f:Nat} {pm rm:List Kd} {ff:List D→Option Out} {d d':D} {ds rs:List D} (he:∀args w,(callFunc f args).run Tryd.prog w = .ok (.enter f args) w) (hm:aF gl0 Tryd.prog f {pm:=.box 3 2 true::pm,rm:=rm,f:=ff})
  (hd:ff (d::ds)=some (.ret rs [d'])) (hio:(pm.all fun k=>!kh k)=true) (hdb:d' ≠ .bad) {w:World} {q:Nat} {S Fa:Nat→Prop} {ys:List Value} (hC:dY Z w q S d) (hS:∀b,S b→b<w.heap.size) (hZ:∀b,Z b→b<w.heap.size) (hFa:∀b,Fa b→b<w.heap.size∧b≠q∧¬S b∧¬Z b)
  (ha:cM w Fa (fun b=>if b=q then some 0 else none) 1 pm ds ys) :
  Calls Tryd.prog f (.pointer (some ⟨q,0,none⟩)::ys).toArray w fun e w'=>∃vs F' R,e = .returned (iw vs)∧CurPost Z w q S d' rm rs vs w' F' R:=by
 have hlt:=hC.lt;obtain⟨F,hbox,hF⟩:=hC;have mono:∀(pm:List Kd) (ds:List D) (ys:List Value) (i:Nat),(pm.all fun k=>!kh k)=true→cM w Fa (fun b=>if b=q then some 0 else none) i pm ds ys→cM w (fun b=>F b∨Fa b) (fun b=>if b=q then some 0 else none) i pm ds ys:=by
  intro pm;induction pm with
  | nil =>
   intro ds ys i _ h;cases ds<;>cases ys<;>first | trivial | exact h.elim
  | cons k pm ih =>
   intro ds ys i hk h;simp only [List.all_cons,JJ,Kl] at hk;cases ds with
   | nil=>cases ys<;>exact h.elim
   | cons e ds =>
    cases ys with
    | nil=>exact h.elim
    | cons y ys =>
     refine⟨?_,ih ds ys (i+1) hk.2 h.2⟩
     rcases h.1 with h1 | h1
     ·exact .inl h1
     ·refine .inr ?_
      cases k with
      | dat lv =>
       refine aQ (fun b hb=>?_) (fun _ _=>rfl) h1
       match lv,hb with
       | 1,hb=>exact⟨.inr hb.1,hb.2⟩
       | n+2,hb=>exact .inr hb
      | own z lv io=>cases io<;>simp_all [kh]
      | box z lv io=>cases io<;>simp_all [kh]
      | _=>exact h1
 have e0:∀b i,(if b=q then some 0 else none:Option Nat)=some i→b=q:=fun b i h=>by
  by_cases hb:b=q
  ·exact hb
  ·rw [if_neg hb] at h;cases h
 refine(eE (ow:=fun b=>if b=q then some 0 else none) (F:=fun b=>F b∨Fa b) (ds:=d::ds) (rs:=rs) (us:=[d']) (args:=(.pointer (some ⟨q,0,none⟩)::ys).toArray) he hm hd oa
  ⟨.inr ?_,mono pm ds ys 1 hio ha⟩ (fun b hb=>?_) (fun b i h=>by rw [e0 b i h];exact hlt)).mono ?_
 ·exact gi (F:=F) (own:=fun g=>g=q) (fun b hb=>.inl hb) (fun _ _=>rfl) (fun g _ hg=>⟨by simp [hg],rfl⟩) hbox
 ·rcases hb with hb | hb
  ·exact⟨(hF b hb).1,if_neg (hF b hb).2.1⟩
  ·exact⟨(hFa b hb).1,if_neg (hFa b hb).2.1⟩
 ·rintro e w' ⟨v,rfl,F',R,vs,rfl,hp⟩
  have hu:=hp.us;simp only [kW,kh,if_true] at hu;obtain⟨_,hu1,_⟩:=hu;have hu2:=hu1.resolve_left hdb;refine⟨vs,F',R,rfl,?_,⟨hp.os,hp.tape,hp.output,hp.size,fun b hb hne=>hp.keep b hb (if_neg hne)⟩,hp.len,hp.res,hp.rn⟩
  refine⟨F',?_,fun b hb=>?_⟩
  ·obtain⟨l,us,g,e,h1,h2,h3,h4,h5,h6,h7⟩:=hu2
   have hg:g=q:=by injection h2 with h2;injection h2 with h2;injection h2 with h2;exact h2.symm
   exact⟨l,us,g,e,h1,h2,h3,h4,h5,h6,hg⟩
  ·obtain⟨h1,h2,h3⟩:=hp.fn b hb
   refine⟨h2,fun hbq=>?_,fun hSb=>?_,fun hz=>?_⟩
   ·subst hbq
    rcases h1 with (h1 | h1) | h1
    ·exact(hF b h1).2.1 rfl
    ·exact(hFa b h1).2.1 rfl
    ·omega
   ·rcases hSb with hSb | ⟨j,hj⟩
    ·rcases h1 with (h1 | h1) | h1
     ·exact(hF b h1).2.2.1 hSb
     ·exact(hFa b h1).2.2.1 hSb
     ·have:=hS b hSb
      omega
    ·rw [h3] at hj
     cases hj
   ·rcases h1 with (h1 | h1) | h1
    ·exact(hF b h1).2.2.2 hz
    ·exact(hFa b h1).2.2.2 hz
    ·have:=hZ b hz
     omega
theorem len_one {vs:List Value} (h:vs.length=1):∃a,vs=[a]:=match vs,h with
 | [a],_=>⟨a,rfl⟩
theorem pZ {f:Nat} {pm:List Kd} {ff:List D→Option Out} {d d':D} {ds:List D} {v:Value} (he:∀args w,(callFunc f args).run Tryd.prog w = .ok (.enter f args) w) (hm:aF gl0 Tryd.prog f {pm:=.box 3 2 true::pm,rm:=[.dat 0],f:=ff})
  (hd:ff (d::ds)=some (.ret [.v v] [d'])) (hio:(pm.all fun k=>!kh k)=true) (hdb:d' ≠ .bad) {w:World} {q:Nat} {S Fa:Nat→Prop} {ys:List Value} (hC:dY Z w q S d) (hS:∀b,S b→b<w.heap.size) (hZ:∀b,Z b→b<w.heap.size) (hFa:∀b,Fa b→b<w.heap.size∧b≠q∧¬S b∧¬Z b)
  (ha:cM w Fa (fun b=>if b=q then some 0 else none) 1 pm ds ys) :
  Calls Tryd.prog f (.pointer (some ⟨q,0,none⟩)::ys).toArray w fun e w'=>e = .returned v∧dY Z w' q S d'∧KeptX (fun b=>b=q) w w':=by
 refine(ou he hm hd hio hdb hC hS hZ hFa ha).mono ?_
 rintro e w' ⟨vs,F',R,rfl,hp⟩;obtain⟨a,rfl⟩:=len_one hp.len;have h0:=hp.res 0;rcases h0 with h0 | h0
 ·cases h0
 exact⟨congrArg Lj (eT.1 h0).1,hp.cur.more fun b hb=>.inl (.inl hb),hp.keep⟩
end Go.Proofs.YtkcojipciiakdaaDoor

namespace Go.Proofs.YtkcojipciiakdaaDoor
open Go Go.Proofs Go.V Go.RowKit
set_option maxRecDepth 100000
variable {Z:Nat→Prop}
instance:Inhabited Cur:=⟨⟨[],0,0⟩⟩
theorem Cur.ok.at {c:Cur} {B:Nat} (h:c.ok B):c.ok c.at_:=⟨h.by_,h.len,Kb _,h.lo,h.hi⟩
theorem Cur.ok.up {c d:Cur} {B k:Nat} (h:c.ok B) (hd:d.ok (c.at_+k)):d.ok (B+k):=hd.mono (Nat.add_le_add_right h.at_ k)
def pk (c:Cur) (n:Int):Int × Cur:=Kc fun p:Int × Cur=>aC [aP c,I n]=some (.ret [I p.1] [aP p.2])∧0≤p.1∧(p.1<n∨p.1=0)∧p.2.ok (c.at_+2)
theorem rJ {c:Cur} {n:Int} {B:Nat} (h:c.ok B) (hB:B≤100000000000) (hn:n≤1000000000):aC [aP c,I n]=some (.ret [I (pk c n).1] [aP (pk c n).2])∧0≤(pk c n).1∧((pk c n).1<n∨(pk c n).1=0)∧(pk c n).2.ok (B+2):=by
 obtain⟨v,c',e,h1,h2,h3⟩:=jk c n c.at_ h.at (by have:=h.at_;omega) hn;obtain⟨g1,g2,g3,g4⟩:=JS (p:=fun p:Int × Cur=>aC [aP c,I n]=some (.ret [I p.1] [aP p.2])∧0≤p.1∧(p.1<n∨p.1=0)∧p.2.ok (c.at_+2)) ⟨(v,c'),e,h1,h2,h3⟩;exact⟨g1,g2,g3,h.up g4⟩
def on (c:Cur) (n:Int):Bool × Cur:=Kc fun p:Bool × Cur=>co [aP c,I n]=some (.ret [B p.1] [aP p.2])∧p.2.ok (c.at_+2)
theorem DD {c:Cur} {n:Int} {B:Nat} (h:c.ok B) (hB:B≤100000000000) (hn:n≤1000000000):co [aP c,I n]=some (.ret [.v (.bool (on c n).1)] [aP (on c n).2])∧(on c n).2.ok (B+2):=by
 obtain⟨v,c',e,h3⟩:=Eo c n c.at_ h.at (by have:=h.at_;omega) hn;obtain⟨g1,g4⟩:=JS (p:=fun p:Bool × Cur=>co [aP c,I n]=some (.ret [.v (.bool p.1)] [aP p.2])∧p.2.ok (c.at_+2)) ⟨(v,c'),e,h3⟩;exact⟨g1,h.up g4⟩
def am (c:Cur) (l:List Int):Int × Cur:=Kc fun p:Int × Cur=>au [aP c,ll l]=some (.ret [I p.1] [aP p.2])∧p.1∈l∧p.2.ok (c.at_+2)
theorem vN {c:Cur} {l:List Int} {B:Nat} (h:c.ok B) (hB:B≤100000000000) (hl:l≠[]) (hn:l.length≤1000000000):au [aP c,ll l]=some (.ret [I (am c l).1] [aP (am c l).2])∧(am c l).1∈l∧(am c l).2.ok (B+2):=by
 obtain⟨v,c',e,h1,h3⟩:=jF c l c.at_ h.at (by have:=h.at_;omega) hl hn;obtain⟨g1,g2,g4⟩:=JS (p:=fun p:Int × Cur=>au [aP c,ll l]=some (.ret [I p.1] [aP p.2])∧p.1∈l∧p.2.ok (c.at_+2)) ⟨(v,c'),e,h1,h3⟩;exact⟨g1,g2,h.up g4⟩
def fo (c:Cur):List (ByteArray × Int) × Cur:=Kc fun p:List (ByteArray × Int) × Cur=>cS [aP c]=some (.ret [sos p.1] [aP p.2])∧(1≤p.1.length∧p.1.length≤12)∧(cdF p.1).Sublist L12∧p.2.ok (c.at_+100)
theorem FJ {c:Cur} {B:Nat} (h:c.ok B) (hB:B≤1000000000):cS [aP c]=some (.ret [sos (fo c).1] [aP (fo c).2])∧(1≤(fo c).1.length∧(fo c).1.length≤12)∧(cdF (fo c).1).Sublist L12∧(fo c).2.ok (B+100):=by
 obtain⟨v,c',e,h1,h2,h3⟩:=HV c c.at_ h.at (by have:=h.at_;omega);obtain⟨g1,g2,g3,g4⟩:=JS (p:=fun p:List (ByteArray × Int) × Cur=>cS [aP c]=some (.ret [sos p.1] [aP p.2])∧(1≤p.1.length∧p.1.length≤12)∧(cdF p.1).Sublist L12∧p.2.ok (c.at_+100)) ⟨(v,c'),e,h1,h2,h3⟩;exact⟨g1,g2,g3,h.up g4⟩
def bo (c:Cur) (f:List (ByteArray × Int)):List Bx × Cur:=Kc fun p:List Bx × Cur=>cH [aP c,sos f]=some (.ret [bxs p.1] [aP p.2])∧bp p.1=true∧p.1.length≤12∧(∀x∈p.1,0≤x.2.2.2∧x.2.2.2≤20)∧p.2.ok (c.at_+100)
theorem Ey {c:Cur} {f:List (ByteArray × Int)} {B:Nat} (h:c.ok B) (hB:B≤1000000000) (hf:1≤f.length∧f.length≤12) (hs:(cdF f).Sublist L12):cH [aP c,sos f]=some (.ret [bxs (bo c f).1] [aP (bo c f).2])∧bp (bo c f).1=true∧(bo c f).1.length≤12∧(∀x∈(bo c f).1,0≤x.2.2.2∧x.2.2.2≤20)∧(bo c f).2.ok (B+100):=by
 obtain⟨v,c',e,h1,h2,h3,h4⟩:=Hg c f c.at_ h.at (by have:=h.at_;omega) hf hs;obtain⟨g1,g2,g3,g4,g5⟩:=JS (p:=fun p:List Bx × Cur=>cH [aP c,sos f]=some (.ret [bxs p.1] [aP p.2])∧bp p.1=true∧p.1.length≤12∧(∀x∈p.1,0≤x.2.2.2∧x.2.2.2≤20)∧p.2.ok (c.at_+100)) ⟨(v,c'),e,h1,h2,h3,h4⟩;exact⟨g1,g2,g3,g4,h.up g5⟩
def sst (c:Cur):Stp × Cur:=Kc fun p:Stp × Cur=>cg [aP c]=some (.ret [stp p.1] [aP p.2])∧p.1.2.2.1.size≤20∧p.2.ok (c.at_+100)
theorem BM {c:Cur} {B:Nat} (h:c.ok B) (hB:B≤800000000):cg [aP c]=some (.ret [stp (sst c).1] [aP (sst c).2])∧(sst c).1.2.2.1.size≤20∧(sst c).2.ok (B+100):=by
 obtain⟨v,c',e,h1,h3⟩:=BG c c.at_ h.at (by have:=h.at_;omega);obtain⟨g1,g2,g4⟩:=JS (p:=fun p:Stp × Cur=>cg [aP c]=some (.ret [stp p.1] [aP p.2])∧p.1.2.2.1.size≤20∧p.2.ok (c.at_+100)) ⟨(v,c'),e,h1,h3⟩;exact⟨g1,g2,h.up g4⟩
theorem lT (c:Cur):aP c ≠ .bad:=by simp
theorem ov {w:World} {q:Nat} {S:Nat→Prop} {c:Cur} {B:Nat} (h:c.ok B) (hB:B≤100000000000) {n:Int} (hn:n≤1000000000) (hC:dY Z w q S (aP c)) (hS:∀b,S b→b<w.heap.size) (hZ:∀b,Z b→b<w.heap.size) :
  Calls Tryd.prog 56 #[.pointer (some ⟨q,0,none⟩),.int .i64 n] w fun e w'=>e = .returned (.int .i64 (pk c n).1)∧dY Z w' q S (aP (pk c n).2)∧KeptX (fun b=>b=q) w w' :=
 pZ (Fa:=fun _=>False) (ys:=[.int .i64 n]) (JO Tryd.func56 (by kernel_rfl) rfl) bN (rJ h hB hn).1 rfl (lT _) hC hS hZ (fun b h=>h.elim) ⟨.inr (eT.2 ⟨rfl,rfl⟩),trivial⟩
theorem zy {w:World} {q:Nat} {S:Nat→Prop} {c:Cur} {B:Nat} (h:c.ok B) (hB:B≤100000000000) {n:Int} (hn:n≤1000000000) (hC:dY Z w q S (aP c)) (hS:∀b,S b→b<w.heap.size) (hZ:∀b,Z b→b<w.heap.size) :
  Calls Tryd.prog 55 #[.pointer (some ⟨q,0,none⟩),.int .i64 n] w fun e w'=>e = .returned (.bool (on c n).1)∧dY Z w' q S (aP (on c n).2)∧KeptX (fun b=>b=q) w w' :=
 pZ (Fa:=fun _=>False) (ys:=[.int .i64 n]) (JO Tryd.func55 (by kernel_rfl) rfl) lA (DD h hB hn).1 rfl (lT _) hC hS hZ (fun b h=>h.elim) ⟨.inr (eT.2 ⟨rfl,rfl⟩),trivial⟩
theorem pQ {w:World} {q:Nat} {S Fa:Nat→Prop} {c:Cur} {B:Nat} (h:c.ok B) (hB:B≤100000000000) {l:List Int} (hl:l≠[]) (hn:l.length≤1000000000) {y:Value} (hC:dY Z w q S (aP c)) (hS:∀b,S b→b<w.heap.size) (hZ:∀b,Z b→b<w.heap.size) (hFa:∀b,Fa b→b<w.heap.size∧b≠q∧¬S b∧¬Z b) (hy:aT w Fa (ll l) y) :
  Calls Tryd.prog 37 #[.pointer (some ⟨q,0,none⟩),y] w fun e w'=>e = .returned (.int .i64 (am c l).1)∧dY Z w' q S (aP (am c l).2)∧KeptX (fun b=>b=q) w w' :=
 pZ (Fa:=Fa) (ys:=[y]) (JO Tryd.func37 (by kernel_rfl) rfl) es (vN h hB hl hn).1 rfl (lT _) hC hS hZ hFa ⟨.inr hy,trivial⟩
theorem At (w:World) (l:List Int) (cap:Nat) (hc:l.length≤cap) (t:TypeId) {g:Nat} {cs:Array Value} (h:w.heap[g]?=some (.cells cs t (0,0))) (hcs:∀(i:Nat) (n:Int),l[i]?=some n→cs[i]?=some (.int .i64 n)):aT w (fun b=>b=g) (ll l) (.slice (some ⟨g,0,none⟩) l.length cap):=by
 refine⟨some ⟨g,0,none⟩,cap,l.map (KR .i64),by simp,by simpa using hc,?_,fun d hd=>?_,fun _=>⟨g,0,rfl,rfl,fun i u hu=>?_⟩⟩
 ·clear hc hcs h
  induction l with
  | nil=>exact aJ.2 rfl
  | cons x l ih=>exact aw.2 ⟨[.int .i64 x],l.map (KR .i64),rfl,by simp only [RepC];exact⟨trivial,rfl⟩,ih⟩
 ·obtain⟨x,_,rfl⟩:=List.mem_map.1 hd
  rfl
 ·rw [List.getElem?_map] at hu
  obtain⟨n,hn,rfl⟩:=Option.map_eq_some_iff.1 hu;have:=hcs i n hn;simp [World.cell?,h,this]
theorem Ds {w:World} {q:Nat} {S:Nat→Prop} {c:Cur} {B:Nat} (h:c.ok B) (hB:B≤1000000000) (hC:dY Z w q S (aP c)) (hS:∀b,S b→b<w.heap.size) (hZ:∀b,Z b→b<w.heap.size) :
  Calls Tryd.prog 54 #[.pointer (some ⟨q,0,none⟩)] w fun e w'=>∃y,e = .returned y∧aT w' (fun b=>w.heap.size≤b∧b<w'.heap.size) (sos (fo c).1) y∧dY Z w' q S (aP (fo c).2)∧KeptX (fun b=>b=q) w w':=by
 refine(ou (Fa:=fun _=>False) (ys:=[]) (ds:=[]) (pm:=[]) (JO Tryd.func54 (by kernel_rfl) rfl) qW (FJ h hB).1 rfl (lT _) hC hS hZ (fun b h=>h.elim) trivial).mono ?_
 rintro e w' ⟨vs,F',R,rfl,hp⟩;obtain⟨a,rfl⟩:=len_one hp.len;rcases hp.res 0 with h0 | h0
 ·cases h0
 have h0':bh w' (fun _=>False) (fun g=>R g=some 0∧w.heap.size≤g) 2 (sos (fo c).1) a:=h0;exact⟨a,rfl,rO h0' (fun _ h=>h.elim) fun b hb=>hp.new b 0 hb.1,hp.cur.more fun b hb=>.inl (.inl hb),hp.keep⟩
theorem DH {w:World} {own:Nat→Prop} {z:Nat} {d:D} {y:Value} (h:bh w (fun _=>False) own z d y):bh w (fun _=>False) (aM y) z d y∧∀b,aM y b→own b:=by
 obtain⟨l,rfl,h2,h3⟩:=h;rcases h3 with ⟨h3,h4⟩ | ⟨g,o,c,us,cs,e,h4,h5,h6,h7,h8,h9,h10⟩
 ·subst h3
  exact⟨⟨l,rfl,h2,.inl ⟨rfl,h4⟩⟩,fun b hb=>by cases hb⟩
 ·subst h4
  exact⟨⟨l,rfl,h2,.inr ⟨g,o,c,us,cs,e,rfl,h5,h6,h7,h8,h9,rfl⟩⟩,fun b hb=>by
   have hb':g=b:=JN hb;subst hb';exact h10⟩
theorem Bs {w:World} {q:Nat} {S Fa:Nat→Prop} {c:Cur} {f:List (ByteArray × Int)} {B:Nat} (h:c.ok B) (hB:B≤1000000000) (hf:1≤f.length∧f.length≤12) (hs:(cdF f).Sublist L12) {y:Value} (hC:dY Z w q S (aP c)) (hS:∀b,S b→b<w.heap.size) (hZ:∀b,Z b→b<w.heap.size) (hFa:∀b,Fa b→b<w.heap.size∧b≠q∧¬S b∧¬Z b) (hy:aT w Fa (sos f) y) :
  Calls Tryd.prog 53 #[.pointer (some ⟨q,0,none⟩),y] w fun e w'=>∃A n k,e = .returned (.slice A n k)∧bh w' (fun _=>False) (aM (.slice A n k)) 4 (bxs (bo c f).1) (.slice A n k)∧(∀b,aM (.slice A n k) b→w.heap.size≤b∧b<w'.heap.size)∧dY Z w' q (fun b=>S b∨aM (.slice A n k) b) (aP (bo c f).2)∧KeptX (fun b=>b=q) w w':=by
 refine(ou (Fa:=Fa) (ys:=[y]) (ds:=[sos f]) (pm:=[.dat 2]) (JO Tryd.func53 (by kernel_rfl) rfl) qa (Ey h hB hf hs).1 rfl (lT _) hC hS hZ hFa ⟨.inr hy,trivial⟩).mono ?_
 rintro e w' ⟨vs,F',R,rfl,hp⟩;obtain⟨a,rfl⟩:=len_one hp.len;rcases hp.res 0 with h0 | h0
 ·cases h0
 have h0':bh w' (fun _=>False) (fun g=>R g=some 0∧w.heap.size≤g) 4 (bxs (bo c f).1) a:=h0;obtain⟨h1,h2⟩:=DH h0';obtain⟨A,n,k,rfl⟩:=bQ h1;exact⟨A,n,k,rfl,h1,fun b hb=>hp.new b 0 (h2 b hb).1,hp.cur.more fun b hb=>.inl (hb.imp (fun h=>h) fun h=>⟨0,(h2 b h).1⟩),hp.keep⟩
theorem Gr {w:World} {F:Nat→Prop} {x:Stp} {y:Value} (h:aT w F (stp x) y):y=stV x:=by
 obtain⟨vs,rfl,h⟩:=h;simp only [RepC,aw,aJ] at h;obtain⟨⟨v1,v2,rfl,⟨rfl,_⟩,v3,v4,rfl,⟨rfl,_⟩,v5,v6,rfl,⟨rfl,_⟩,v7,v8,rfl,⟨rfl,_⟩,rfl⟩,_⟩:=h;rfl
theorem po {w:World} {q:Nat} {S:Nat→Prop} {c:Cur} {B:Nat} (h:c.ok B) (hB:B≤800000000) (hC:dY Z w q S (aP c)) (hS:∀b,S b→b<w.heap.size) (hZ:∀b,Z b→b<w.heap.size) :
  Calls Tryd.prog 58 #[.pointer (some ⟨q,0,none⟩)] w fun e w'=>e = .returned (stV (sst c).1)∧dY Z w' q S (aP (sst c).2)∧KeptX (fun b=>b=q) w w':=by
 refine(ou (Fa:=fun _=>False) (ys:=[]) (ds:=[]) (pm:=[]) (JO Tryd.func58 (by kernel_rfl) rfl) mK (BM h hB).1 rfl (lT _) hC hS hZ (fun b h=>h.elim) trivial).mono ?_
 rintro e w' ⟨vs,F',R,rfl,hp⟩;obtain⟨a,rfl⟩:=len_one hp.len;rcases hp.res 0 with h0 | h0
 ·cases h0
 have h0':aT w' (fun _=>False) (stp (sst c).1) a:=h0;exact⟨congrArg Lj (Gr h0'),hp.cur.more fun b hb=>.inl (.inl hb),hp.keep⟩
end Go.Proofs.YtkcojipciiakdaaDoor

namespace Go.Proofs.YtkcojipciiakdaaDoor
open Go Go.Proofs Go.V Go.RowKit
set_option maxRecDepth 100000
theorem mr:∀(l:List Fm) (ys:List Value) (i:Nat) (x x':Fm) (y y' v:Value) (k:Nat),k<4→l[i]?=some x→ys[i]?=some y→dL x' y'=(dL x y).set k v→bK (l.set i x') (ys.set i y')=(bK l ys).set (i*4+k) v
 | a::l,b::ys,0,x,x',y,y',v,k,hk,h1,h2,h3=>by
  cases h1;cases h2;simp only [Kz,bK,h3,Nat.zero_mul,KZ];rw [List.set_append_left _ _ (by simpa [dL] using hk)]
 | a::l,b::ys,i+1,x,x',y,y',v,k,hk,h1,h2,h3=>by
  have ih:=mr l ys i x x' y y' v k hk h1 h2 h3;simp only [KA,bK,ih];rw [List.set_append_right _ _ (by simp [dL];omega)];congr 2
  simp [dL];omega
 | [],_,_,_,_,_,_,_,_,_,h1,_,_=>by simp at h1
 | _::_,[],_,_,_,_,_,_,_,_,_,h2,_=>by simp at h2
theorem rT {w w':World} {B g cap:Nat} {l:List Fm} {ys:List Value} (h:FmsAt w B (.slice (some ⟨g,0,none⟩) l.length cap) ys l) {i:Nat} (hi:i<l.length) {x:Fm} {y:Value} (hy:bh w' (fun _=>False) (aM y) 1 (txs x.2.1) y)
  (hb:∀b,aM y b→B≤b∧b≠g) (hd:∀j z,j≠i→ys[j]?=some z→y.ownBlock=none∨y.ownBlock≠z.ownBlock) (hw:∀j z b,j≠i→ys[j]?=some z→aM z b→w'.heap[b]?=w.heap[b]?)
  (ho:w'.ownsRow B 42 4 (.slice (some ⟨g,0,none⟩) l.length cap) l.length (bK (l.set i x) (ys.set i y))):FmsAt w' B (.slice (some ⟨g,0,none⟩) l.length cap) (ys.set i y) (l.set i x):=by
 refine⟨by simp [h.len],by rw [Kv];exact ho,fun j x' y' hj hyj=>?_,fun j y' b hyj hb'=>?_,fun j k y' z' hjk hj hk=>?_⟩
 ·by_cases e:j=i
  ·subst e
   rw [JT hi] at hj;rw [JT (by rw [h.len];exact hi)] at hyj;obtain rfl:=JN hj;obtain rfl:=JN hyj;exact hy
  ·rw [JR (fun h=>e h.symm)] at hj hyj
   exact aY (h.row j x' y' hj hyj) fun b hb1=>hw j y' b e hyj hb1
 ·by_cases e:j=i
  ·subst e
   rw [JT (by rw [h.len];exact hi)] at hyj;obtain rfl:=JN hyj;exact⟨(hb b hb').1,fun h1=>(hb b hb').2 (JN h1).symm⟩
  ·rw [JR (fun h=>e h.symm)] at hyj
   exact h.blk j y' b hyj hb'
 ·by_cases e:j=i
  ·subst e
   rw [JT (by rw [h.len];exact hi)] at hj;obtain rfl:=JN hj;rw [JR hjk] at hk;exact hd k z' (fun h=>hjk h.symm) hk
  ·rw [JR (fun h=>e h.symm)] at hj
   by_cases e2:k=i
   ·subst e2
    rw [JT (by rw [h.len];exact hi)] at hk;obtain rfl:=JN hk;rcases hd j y' e hj with h1 | h1
    ·rw [h1]
     cases y'.ownBlock<;>simp
    ·exact .inr fun h2=>h1 h2.symm
   ·rw [JR (fun h=>e2 h.symm)] at hk
    exact h.dis j k y' z' hjk hj hk
theorem iC {w:World} {B g cap:Nat} {l:List Fm} {ys:List Value} (h:FmsAt w B (.slice (some ⟨g,0,none⟩) l.length cap) ys l) {i:Nat} (hi:i<l.length) {y:Value} (hy:ys[i]?=some y) {x':Fm} {k:Nat} {v:Value} (hk:k<4) (hx:x'.2.1=l[i].2.1) (hc:dL x' y=(dL l[i] y).set k v) :
  FmsAt (w.setCell ⟨g,i*4+k,none⟩ v) B (.slice (some ⟨g,0,none⟩) l.length cap) ys (l.set i x'):=by
 have hx1:l[i]?=some l[i]:=JI hi;have hys:ys.set i y=ys:=by
  apply List.ext_getElem?;intro j;by_cases e:i=j
  ·subst e
   rw [JT (by rw [h.len];exact hi),hy]
  ·rw [JR e]
 have hw:∀b,b≠g→(w.setCell ⟨g,i*4+k,none⟩ v).heap[b]?=w.heap[b]?:=fun b hb=>heap_setCell_other _ _ _ _ (by simpa using hb)
 have hg:∀(j:Nat) (z:Value) (b:Nat),ys[j]?=some z→aM z b→b≠g:=fun j z b hj hb e=>(h.blk j z b hj hb).2 (by rw [e];rfl)
 have:=rT (w':=w.setCell ⟨g,i*4+k,none⟩ v) (x:=x') (y:=y) h hi (by rw [hx];exact aY (h.row i _ y hx1 hy) fun b hb=>hw b (hg i y b hy hb)) (fun b hb=>⟨(h.blk i y b hy hb).1,hg i y b hy hb⟩)
  (fun j z hj hz=>h.dis i j y z (fun e=>hj e.symm) hy hz) (fun j z b hj hz hb=>hw b (hg j z b hz hb))
  (by rw [mr l ys i l[i] x' y y v k hk hx1 hy hc];exact mZ h.own rfl _ _)
 rwa [hys] at this
theorem gA {w:World} {F own:Nat→Prop} {z:Nat} {l:List D} {y:Value} (h:bh w F own z (.arr z l) y):∃A c,y = .slice A l.length c:=by
 obtain⟨l',e,_,h3⟩:=h;cases e;rcases h3 with ⟨rfl,rfl⟩ | ⟨g,o,c,us,cs,e,h4,_⟩
 ·exact⟨_,_,rfl⟩
 ·exact⟨_,_,h4⟩
theorem AA {s:Sp} (h:aE s=true) : -1000000≤s.2.2.2∧s.2.2.2≤1000000:=by
 have h1:0≤jM s.2.1:=by
  obtain⟨hf,_⟩:=bu h;have key:∀(l:List Fm) (a:Int),(∀x∈l,0≤x.2.2.2)→a≤l.foldl (fun a x=>a+x.2.2.2) a:=by
   intro l;induction l with
   | nil=>intro a _;exact Int.le_refl _
   | cons x l ih =>
    intro a hx;have h2:=ih (a+x.2.2.2) fun y hy=>hx y (by simp [hy])
    have h3:=hx x (by simp);simp only [List.foldl_cons];omega
  refine key s.2.1 0 fun x hx=>?_
  obtain⟨j,hj,rfl⟩:=KK hx;exact(bM (hf j hj)).1
 unfold aE at h;simp only [JJ,decide_eq_true_eq] at h;omega
theorem Eb {w:World} {own:Nat→Prop} {z:Nat} {l:List D} {A:Option Addr} {n c:Nat} (h:bh w (fun _=>False) own z (.arr z l) (.slice A n c)) {i:Nat} (hi:i≤l.length) (h0:0<l.length):bh w (fun _=>False) own z (.arr z (l.take i)) (.slice A i c):=by
 obtain⟨l',e,hw,h3⟩:=h;cases e;refine⟨_,rfl,fun d hd=>hw d (KG hd),?_⟩
 rcases h3 with ⟨_,rfl⟩ | ⟨g,o,c,us,cs,e,h4,h5,h6,h7,h8,h9,h10⟩
 ·simp at h0
 ·cases h4
  refine .inr ⟨g,o,_,us.take (i*z),cs,e,by rw [Kg,Li hi],by rw [Kg];omega,h6,h7,(iz l us h8 hw i).1,fun j u hj=>?_,h10⟩
  rw [KL] at hj;split at hj
  ·exact h9 j u hj
  ·cases hj
theorem EF {w:World} {own:Nat→Prop} {z:Nat} {l:List D} {A:Option Addr} {n c:Nat} (h:bh w (fun _=>False) own z (.arr z l) (.slice A n c)) (h0:0<l.length):∃g o,A=some ⟨g,o,none⟩∧n=l.length∧l.length≤c:=by
 obtain⟨l',e,hw,h3⟩:=h;cases e;rcases h3 with ⟨_,rfl⟩ | ⟨g,o,c,us,cs,e,h4,h5,_⟩
 ·simp at h0
 ·cases h4
  exact⟨g,o,rfl,rfl,h5⟩
set_option maxRecDepth 100000
theorem qC {w:World} {B:Nat} {V:Value} {l:List Fm} {ys:List Value} (h:FmsAt w B V ys l) (k:Nat):(∀(i:Nat) (x:Fm) (y:Value),(l.drop k)[i]?=some x→(ys.drop k)[i]?=some y→bh w (fun _=>False) (aM y) 1 (txs x.2.1) y) ∧
  (∀(i:Nat) (y:Value) (b:Nat),(ys.drop k)[i]?=some y→aM y b→B≤b∧b<w.heap.size∧V.ownBlock≠some b∧∀j,j≤k→∀z∈ys.take j,¬aM z b) ∧
  (∀(i j:Nat) (y z:Value),i≠j→(ys.drop k)[i]?=some y→(ys.drop k)[j]?=some z→y.ownBlock=none∨y.ownBlock≠z.ownBlock):=by
 simp only [List.getElem?_drop];refine⟨fun i x y hx hy=>h.row _ x y hx hy,fun i y b hy hb=>?_,fun i j y z hij hy hz=>h.dis _ _ y z (by omega) hy hz⟩
 obtain⟨h1,h2⟩:=h.blk _ y b hy hb;refine⟨h1,(h.lt b (.inr ⟨y,Kq hy,hb⟩)).2,h2,fun j hj z hz hzb=>?_⟩
 obtain⟨m,hm⟩:=KU.1 hz;have hmj:m<j:=by
  have:=(Ku.1 hm).1;rw [Kg] at this;omega
 rw [KL,if_pos hmj] at hm;rcases h.dis m (k+i) z y (by omega) hm hy with e | e
 ·rw [aM,e] at hzb
  cases hzb
 ·exact e (hzb.trans hb.symm)
theorem qz {w:World} {B g n c:Nat} {l:List Fm} {ys:List Value} (h:FmsAt w B (.slice (some ⟨g,0,none⟩) n c) ys l):l.length≤c∧c≤9223372036854775807:=by
 obtain⟨_,⟨e,_⟩ | ⟨g',cap,cur,e,_,_,h3,h4,_⟩⟩:=h.own
 ·cases e
 ·cases e
  exact⟨h3,h4⟩
set_option maxRecDepth 100000
theorem Jc:TOk Tryd.prog 40 iu:=uw (by kernel_rfl)
theorem Jw:TOk Tryd.prog 9 ty9:=uw (by kernel_rfl)
theorem HC {w:World} {F:Nat→Prop} {l:List ByteArray} {y:Value} (h:aT w F (txs l) y):uR w (fun _=>False) (txs l) y:=by
 intro z m e;cases e;obtain⟨A,c,us,e1,hc,hr,hw,hA⟩:=h;simp only [List.cons.injEq,and_true] at e1;refine⟨A,c,us,e1,ql _ _ BU hr,hw,fun hne=>?_⟩
 obtain⟨b,o,e2,_,hcl⟩:=hA hne;exact⟨b,o,e2,hcl⟩
theorem xc (w:World) {o:Oper} {a:Act} {K:Act→World→Prop} {Q:Exit→Act→World→Prop} (s x:Operand)
  (ho:o.op = .call {callee:=.builtin .append,args:=#[s,x],argTypes:=#[40,40]}) (l m:List ByteArray) (ys yx:Value) (hs:a.eval s=ys) (hx:a.eval x=yx) (hown:bh w (fun _=>False) (aM ys) 1 (txs l) ys) {F:Nat→Prop} (hsrc:aT w F (txs m) yx) (hlen:l.length+m.length≤1048576)
  (h:∀v w',bh w' (fun _=>False) (aM v) 1 (txs (l++m)) v→(∀b,aM v b→aM ys b∨w.heap.size≤b)→KeptX (aM ys) w w'→K (a.put o.dst v) w'):o.wp Tryd.prog a w K Q:=by
 obtain⟨v,w',hr,h1,h2,h3,h4,h5,h6⟩:=pX (P:=Tryd.prog) (t:=40) (ty:=o.type) Jc (by kernel_rfl) Jw (G:=fun _=>False) (own:=aM ys) (fun b hb=>hb.elim) (l:=l.map T) (m:=m.map T) hown (HC hsrc) (by simp only [JX];omega) (by simp only [JX];omega);have hv:∀b,aM v b→aM ys b∨w.heap.size≤b:=fun b hb=>by
  obtain⟨l',_,_,h7 | ⟨g,o,c,us,cs,e,h8,_,_,_,_,_,h9⟩⟩:=h1
  ·rw [h7.1] at hb
   cases hb
  ·rw [h8] at hb
   have:g=b:=JN hb;exact this ▸ h9
 have h1':bh w' (fun _=>False) (aM v) 1 (txs (l++m)) v:=by
  obtain⟨l',e,hw,h7⟩:=h1;refine⟨l',by rw [txs,List.map_append];exact e,hw,?_⟩
  rcases h7 with h7 | ⟨g,o,c,us,cs,e,h8,q1,q2,q3,q4,q5,_⟩
  ·exact .inl h7
  ·exact .inr ⟨g,o,c,us,cs,e,h8,q1,q2,q3,q4,q5,by rw [h8];rfl⟩
 unfold La execOp;simp only [ho,resolve,invoke,builtin,Sem.run_bind,Sem.run_pure,Lb,Le,List.map_cons,List.map_nil,hs,hx,hr];exact h v w' h1' hv ⟨h4,h5,h6,h2,fun b hb hn=>h3 b hb hn⟩
theorem tT (w:World) {ops:Array Oper} {o:Oper} {a:Act} {K:Act→World→Prop} {Q:Exit→Act→World→Prop} {E:Prop} (hgd:o.guard=none) (s x:Operand)
  (ho:o.op = .call {callee:=.builtin .append,args:=#[s,x],argTypes:=#[40,40]}) (l m:List ByteArray) (ys yx:Value) (hs:a.eval s=ys) (hx:a.eval x=yx) (hown:bh w (fun _=>False) (aM ys) 1 (txs l) ys) {F:Nat→Prop} (hsrc:aT w F (txs m) yx) (hlen:l.length+m.length≤1048576)
  (h:∀A n c w',bh w' (fun _=>False) (aM (.slice A n c)) 1 (txs (l++m)) (.slice A n c)→(∀b,aM (.slice A n c) b→aM ys b∨w.heap.size≤b)→KeptX (aM ys) w w'→K (a.put o.dst (.slice A n c)) w') :
  if JY o (yielded ops a.tmps)=true then La Tryd.prog o a w K Q else E:=by
 have hw:JY o (yielded ops a.tmps)=true:=by simp [JY,hgd]
 rw [if_pos hw];refine xc w s x ho l m ys yx hs hx hown hsrc hlen fun v w' h1 h2 h3=>?_
 obtain⟨A,n,c,rfl⟩:=bQ h1;exact h A n c w' h1 h2 h3
def JC (w wc:World) (p B:Nat) (Vb Vf:Value) (ys:List Value) (x y:Int) (l':List Fm):Prop:=∃A2 n2 c2 ys2,wc.heap[p]?=some (.cells #[Vb,.slice A2 n2 c2,.int .i64 x,.int .i64 y] 26 (0,0))∧FmsAt wc B (.slice A2 n2 c2) ys2 l' ∧
 (∀b,FmS (.slice A2 n2 c2) ys2 b→FmS Vf ys b∨w.heap.size≤b)∧(∀b,b<w.heap.size→b≠p→wc.heap[b]?=w.heap[b]?)∧w.heap.size≤wc.heap.size∧wc.os=w.os∧wc.tape=w.tape∧wc.output=w.output
theorem qx {w:World} {B:Nat} {V:Value} {l:List Fm} {ys:List Value} (h:FmsAt w B V ys l) (k:Nat):(∀(i:Nat) (x:Fm) (y:Value),(l.take k)[i]?=some x→(ys.take k)[i]?=some y→bh w (fun _=>False) (aM y) 1 (txs x.2.1) y) ∧
  (∀(i:Nat) (y:Value) (b:Nat),(ys.take k)[i]?=some y→aM y b→B≤b∧b<w.heap.size) ∧
  (∀(i j:Nat) (y z:Value),i≠j→(ys.take k)[i]?=some y→(ys.take k)[j]?=some z→y.ownBlock=none∨y.ownBlock≠z.ownBlock):=by
 have ht:∀{α:Type} {m:List α} {i:Nat} {y:α},(m.take k)[i]?=some y→m[i]?=some y:=fun {α m i y} h=>by
  rw [KL] at h;split at h
  ·exact h
  ·cases h
 exact⟨fun i x y hx hy=>h.row _ x y (ht hx) (ht hy),fun i y b hy hb=>⟨(h.blk i y b (ht hy) hb).1,(h.lt b (.inr ⟨y,Kq (ht hy),hb⟩)).2⟩,fun i j y z hij hy hz=>h.dis i j y z hij (ht hy) (ht hz)⟩
theorem oF {w:World} {B g cap n:Nat} {l:List Fm} {ys:List Value} (h:FmsAt w B (.slice (some ⟨g,0,none⟩) n cap) ys l) {i:Nat} (hi:i≤l.length):∀(j:Nat) (u:Value),(bK (l.take i) (ys.take i))[j]?=some u→w.cell? ⟨g,0+j,none⟩=some u:=by
 intro j u hj;have hl:=h.len;have e1:=oe (l.take i) (l.drop i) (ys.take i) (ys.drop i) (by simp [hl]);rw [Kn,Kn] at e1;have h3:(bK l ys)[j]?=some u:=by
  rw [e1,Kw (Ku.1 hj).1];exact hj
 have ho:=h.own;rw [KZ];obtain⟨_,⟨hn,_⟩ | ⟨g',cap',cur,e',_⟩⟩:=h.own
 ·cases hn
 ·cases e'
  exact aW ho h3
theorem HD (l:List Fm) (n:Int):atF l n<(ie l n).length:=by
 unfold ie;split
 ·rename_i h
  exact(lX h).1
 ·have:=Bm l n
  simp;omega
theorem ue {s:Sp} (hfm:∀(j:Nat) (hj:j<s.2.1.length),eF s.1 s.2.1[j]=true) (n:Int) (f:Fm) (h:f∈ie s.2.1 n):f.2.1.length≤40:=by
 have old:∀f∈s.2.1,f.2.1.length≤40:=fun f hf=>by
  obtain⟨j,hj,rfl⟩:=KK hf;exact ed (hfm j hj)
 unfold ie at h;split at h
 ·exact old f h
 ·rcases Kx.1 h with h | h
  ·exact old f (KG h)
  ·rcases KY.1 h with rfl | h
   ·simp
   ·exact old f (KW h)
set_option maxRecDepth 100000
theorem Ju {α:Type} {a:Array α} {p:α→Bool} (h:a.toList.any p=true):∃e,e∈a∧p e=true:=by
 obtain⟨e,he,hp⟩:=Lf.1 h;exact⟨e,Kr.1 he,hp⟩
theorem Js {α:Type} {a:Array α} {p:α→Bool} (h:a.toList.all p=true) (e:α) (he:e∈a):p e=true:=KD.1 h e (Kr.2 he)
def ru (l:List Oper) (o:Oper):Bool :=
 (KH l.length).all (fun i=>(o.after.toList.any fun e=>Kh .any e&&e.on==i)||(KH l.length).any fun j=>decide (i<j)&&(l[j]?.map fun oj=>oj.after.toList.any fun e=>Kh .any e&&e.on==i).getD false)&&o.after.toList.all (fun e=>decide (e.on<l.length))&&o.guard.isNone &&
 (KH l.length).all (fun i=>(l[i]?.map fun oi=>oi.guard.isNone&&oi.after.toList.all fun e=>!Kh .any e||decide (e.on<i)).getD true)
def zC (P:Program) (o:Oper) (Q:Exit→Act→World→Prop):Exit→Act→World→Prop
 | .normal,a,w=>o.wp P a w (fun a w=>Q .normal a w) Q
 | e,a,w=>Q e a w
theorem CI {P:Program} {o o':Oper} {Q:Exit→Act→World→Prop} {a:Act} {K:Act→World→Prop} {r:Result Next} (h:Oper.upon P o a K (zC P o' Q) r):Oper.upon P o a K Q r:=by
 cases r with
 | ok n w=>cases n<;>exact h
 | halt x w=>cases x<;>exact h
theorem AQ (md:Ld) (ops:Array Oper) (fuel t:Nat) (listed:Array Bool) (acc:List Nat) :
  JP md ops (fuel+1) t listed acc=match (JM md ops listed)[t % (JM md ops listed).length]? with
   | some i=>JP md ops fuel (t / (JM md ops listed).length) (listed.setIfInBounds i true) (i::acc)
   | none=>acc.reverse:=by
 simp only [JP];rfl
theorem xr {listed:Array Bool} {i:Nat} {d:Bool} (hi:i<listed.size):(listed.push false).getD i d=listed.getD i d:=by
 simp [Ki,hi,Nat.lt_succ_of_lt hi,Array.getElem_push]
theorem vY (listed:Array Bool) (i:Nat):(listed.push false).getD i false=listed.getD i false:=by
 by_cases hi:i<listed.size
 ·exact xr hi
 ·by_cases he:i=listed.size
  ·subst he
   simp [Ki]
  ·simp [Ki,hi,show ¬i<listed.size+1 by omega]
theorem CJ {l:List Oper} {o:Oper} {listed:Array Bool} (hs:listed.size=l.length) (i:Nat) (hi:i<l.length) :
  (!(listed.push false).getD i true&&(((l++[o]).toArray[i]?).map (·.after.all fun e=>!Kh .any e||(listed.push false).getD e.on false)).getD false)=(!listed.getD i true&&((l.toArray[i]?).map (·.after.all fun e=>!Kh .any e||listed.getD e.on false)).getD false):=by
 rw [xr (by omega)];congr 2
 simp only [Ko,Kw hi];congr 1
 funext x
 simp only [vY]
def rv (l:List Oper) (listed:Array Bool):Prop:=∀(j:Nat) (oj:Oper),l[j]?=some oj→listed.getD j false=true→∀e∈oj.after,Kh .any e=true→listed.getD e.on false=true
theorem uL {l:List Oper} {o:Oper} {listed:Array Bool} (hB:ru l o=true) (hs:listed.size=l.length) (hc:rv l listed) :
  JM .any (l++[o]).toArray (listed.push false)=JM .any l.toArray listed++(if (∀i,i<l.length→listed.getD i false=true) then [l.length] else []):=by
 simp only [ru,JJ,KD,JV] at hB;obtain⟨⟨⟨h1,h2⟩,_⟩,_⟩:=hB;unfold JM;simp only [Km,Kj,Kp,List.range_succ,List.filter_append];congr 1
 ·refine List.filter_congr fun i hi=>?_
  exact CJ hs i (JV.1 hi)
 ·have e1:(l++[o]).toArray[l.length]?=some o:=by simp
  simp only [Lg,List.filter_nil];have e2:(listed.push false).getD l.length true=false:=by
   rw [JK,←hs,Array.getElem?_push_size];rfl
  have e3:(o.after.all fun e=>!Kh .any e||(listed.push false).getD e.on false)=decide (∀i,i<l.length→listed.getD i false=true):=by
   rw [Bool.eq_iff_iff];simp only [vY,decide_eq_true_eq,KM,KS,Kl];constructor
   ·intro h
    have key:∀n i,i<l.length→l.length≤i+n→listed.getD i false=true:=by
     intro n;induction n with
     | zero=>intro i hi hn;omega
     | succ n ih =>
      intro i hi hn;have h3:=h1 i hi;simp only [KS,Lf,JV,JJ,decide_eq_true_eq] at h3;rcases h3 with h3 | ⟨j,hj,hij,h3⟩
      ·obtain⟨e,he,hb1,hb2⟩:=h3
       have hb:Kh .any e=true∧e.on=i:=⟨hb1,by simpa using hb2⟩
       rcases h e (Kr.1 he) with h | h
       ·rw [h] at hb
        cases hb.1
       ·rw [←hb.2]
        exact h
      ·rw [JI hj] at h3
       simp only [Kk,Ka] at h3;obtain⟨e,he,hb⟩:=Ju h3;simp only [JJ,beq_iff_eq] at hb;rw [←hb.2];exact hc j l[j] (JI hj) (ih j hj (by omega)) e he hb.1
    exact fun i hi=>key l.length i hi (by omega)
   ·intro h e he
    have:=h2 e (Kr.2 he);exact .inr (h e.on (of_decide_eq_true this))
  rw [e2,e1];simp only [Kk,Ka,e3,KV,Bool.true_and,decide_eq_true_eq]
theorem Bv {l:List Oper} {o:Oper} {listed:Array Bool} (hB:ru l o=true) (hs:listed.size=l.length) (hu:¬∀i,i<l.length→listed.getD i false=true):JM .any l.toArray listed≠[]:=by
 simp only [ru,JJ,KD,JV] at hB;obtain⟨_,h4⟩:=hB;have:∃i,i<l.length∧listed.getD i false=false:=by
  refine Kt fun h=>hu fun i hi=>?_
  cases hb:listed.getD i false
  ·exact absurd ⟨i,hi,hb⟩ h
  ·rfl
 have least:∀n,(∃i,i<n∧i<l.length∧listed.getD i false=false)→∃i,i<l.length∧listed.getD i false=false∧∀j,j<i→listed.getD j false=true:=by
  intro n;induction n with
  | zero=>rintro⟨i,hi,_⟩;omega
  | succ n ih =>
   rintro⟨i,hi,hl,hb⟩;by_cases hx:∃i,i<n∧i<l.length∧listed.getD i false=false
   ·exact ih hx
   ·have:i=n:=by
     refine Kt fun h=>hx ⟨i,by omega,hl,hb⟩
    subst this;refine⟨i,hl,hb,fun j hj=>?_⟩
    cases hjb:listed.getD j false
    ·exact absurd ⟨j,hj,by omega,hjb⟩ hx
    ·rfl
 obtain⟨i0,hi0,hb0⟩:=this;obtain⟨i,hi,hb,hj⟩:=least (i0+1) ⟨i0,by omega,hi0,hb0⟩;intro hnil;have hmem:i∈JM .any l.toArray listed:=by
  unfold JM;refine KI.2 ⟨by simpa using hi,?_⟩
  have h5:=h4 i hi;rw [JI hi] at h5;simp only [Kk,Ka,JJ] at h5;have e1:l.toArray[i]?=some l[i]:=by simp [hi]
  have e2:listed.getD i true=false:=by
   simp only [Ki,show i<listed.size by omega,dite_true] at hb ⊢;exact hb
  rw [e1,e2];simp only [Kk,Ka,KV,Bool.true_and];refine KM.2 fun e he=>?_
  have h6:=Js h5.2 e he;simp only [KS,Kl,decide_eq_true_eq] at h6 ⊢;exact h6.imp id (hj e.on)
 rw [hnil] at hmem;cases hmem
theorem BP {l:List Oper} {listed:Array Bool} {i:Nat} (hs:listed.size=l.length) (hc:rv l listed) (hi:i∈JM .any l.toArray listed):rv l (listed.setIfInBounds i true):=by
 unfold JM at hi;obtain⟨h1,h2⟩:=KI.1 hi;simp only [Km,JV] at h1;simp only [JJ,Ko,JI h1,Kk,Ka] at h2;have hg:∀j,listed.getD j false=true→(listed.setIfInBounds i true).getD j false=true:=fun j hj=>by
  by_cases e:i=j
  ·subst e
   simp [Ki,hs,h1]
  ·rw [JK,JW e,←JK]
   exact hj
 intro j oj hj hjl e he hb;by_cases e1:i=j
 ·subst e1
  rw [JI h1] at hj;obtain rfl:=JN hj;have:=KM.1 h2.2 e he;rw [hb] at this;exact hg _ (by simpa using this)
 ·rw [JK,JW e1,←JK] at hjl
  exact hg _ (hc j oj hj hjl e he hb)
theorem vv {md:Ld} {ops:Array Oper} {listed:Array Bool} {i:Nat} (h:i∈JM md ops listed):i<ops.size∧listed.getD i true=false:=by
 unfold JM at h;obtain⟨h1,h2⟩:=KI.1 h;simp only [JJ,Kl] at h2;exact⟨JV.1 h1,h2.1⟩
theorem vw {l:List Oper} {listed:Array Bool} (hs:listed.size=l.length) (hall:∀i,i<l.length→listed.getD i false=true):JM .any l.toArray listed=[]:=by
 refine List.eq_nil_iff_forall_not_mem.2 fun i hi=>?_
 obtain⟨h1,h2⟩:=vv hi;have h3:=hall i (by simpa using h1);have:i<listed.size:=by rw [hs];simpa using h1
 simp only [Ki,this,dite_true] at h2 h3;rw [h2] at h3;cases h3
def unl (n:Nat) (listed:Array Bool):Nat:=((KH n).filter fun i=>!listed.getD i false).length
theorem FX {n:Nat} {listed:Array Bool} {i:Nat} (hs:listed.size=n) (hi:i<n) (hb:listed.getD i true=false):unl n (listed.setIfInBounds i true)<unl n listed:=by
 unfold unl;have hg:∀j,(listed.setIfInBounds i true).getD j false=if j=i then true else listed.getD j false:=fun j=>by
  by_cases e:j=i
  ·subst e
   simp [Ki,hs,hi]
  ·rw [JK,JK,JW (fun h=>e h.symm),if_neg e]
 have hb':listed.getD i false=false:=by
  simp only [Ki,show i<listed.size by omega,dite_true] at hb ⊢;exact hb
 have key:∀l:List Nat,(l.filter fun j=>!(listed.setIfInBounds i true).getD j false).length≤(l.filter fun j=>!listed.getD j false).length∧(i∈l→(l.filter fun j=>!(listed.setIfInBounds i true).getD j false).length<(l.filter fun j=>!listed.getD j false).length):=by
  intro l;induction l with
  | nil=>exact⟨Kb _,fun h=>by cases h⟩
  | cons x l ih =>
   simp only [Lg,hg x];by_cases e:x=i
   ·subst e
    simp only [if_true,Bool.not_true,KN,if_false,hb',KV,Lh];exact⟨by omega,fun _=>by omega⟩
   ·simp only [if_neg e]
    split
    ·simp only [Lh]
     refine⟨by omega,fun h=>?_⟩
     have:=ih.2 ((KY.1 h).resolve_left fun h=>e h.symm);omega
    ·refine⟨ih.1,fun h=>ih.2 ((KY.1 h).resolve_left fun h=>e h.symm)⟩
 exact(key _).2 (JV.2 hi)
theorem Gv {l:List Oper} {o:Oper} (hB:ru l o=true):∀(fuel t:Nat) (listed:Array Bool),listed.size=l.length→rv l listed→unl l.length listed≤fuel →
  JP .any (l++[o]).toArray (fuel+1) t (listed.push false) []=JP .any l.toArray fuel t listed []++[l.length]∧∀i∈JP .any l.toArray fuel t listed [],i<l.length:=by
 have full:∀(fuel t:Nat) (listed:Array Bool),listed.size=l.length→rv l listed→(∀i,i<l.length→listed.getD i false=true) →
   JP .any (l++[o]).toArray (fuel+1) t (listed.push false) []=[l.length]:=by
  intro fuel t listed hs hc hall;rw [AQ,uL hB hs hc,if_pos hall,vw hs hall];simp only [Lk,Kp,Nat.mod_one,List.getElem?_cons_zero];cases fuel with
  | zero=>rfl
  | succ fuel =>
   rw [AQ];have:JM .any (l++[o]).toArray ((listed.push false).setIfInBounds l.length true)=[]:=by
    refine List.eq_nil_iff_forall_not_mem.2 fun i hi=>?_
    obtain⟨h1,h2⟩:=vv hi;simp only [Km,Kj,Kp] at h1;by_cases e:i=l.length
    ·subst e
     simp [Ki,hs] at h2
    ·have h3:=hall i (by omega)
     have hil:i<listed.size:=by omega
     rw [JK,JW (by omega),Array.getElem?_push_lt hil] at h2;rw [JK,Array.getElem?_eq_getElem hil] at h3;simp only [Ka] at h2 h3;rw [h2] at h3;cases h3
   rw [this];rfl
 intro fuel;induction fuel with
 | zero =>
  intro t listed hs hc hu;have hall:∀i,i<l.length→listed.getD i false=true:=fun i hi=>by
   cases hb:listed.getD i false
   ·exfalso
    have:i∈(KH l.length).filter fun i=>!listed.getD i false:=KI.2 ⟨JV.2 hi,by rw [hb];rfl⟩
    unfold unl at hu;have:=List.length_pos_of_mem this;omega
   ·rfl
  exact⟨full 0 t listed hs hc hall,fun i hi=>by simp [JP] at hi⟩
 | succ fuel ih =>
  intro t listed hs hc hu;by_cases hall:∀i,i<l.length→listed.getD i false=true
  ·have e:=AQ .any l.toArray fuel t listed []
   rw [vw hs hall] at e;have e':JP .any l.toArray (fuel+1) t listed []=[]:=e;rw [e'];exact⟨full (fuel+1) t listed hs hc hall,fun i hi=>by cases hi⟩
  ·have hne:=Bv hB hs hall
   rw [AQ,uL hB hs hc,if_neg hall,List.append_nil,AQ .any l.toArray fuel t listed []];have hlt:t % (JM .any l.toArray listed).length<(JM .any l.toArray listed).length:=Nat.mod_lt _ (List.length_pos_iff.2 hne);rw [JI hlt];simp only;have hmem:=Kf hlt;generalize (JM .any l.toArray listed)[t % (JM .any l.toArray listed).length]=i at *;obtain⟨hi,hb⟩:=vv hmem;simp only [Km] at hi;rw [linearise_go_acc,linearise_go_acc .any l.toArray];have hset:(listed.push false).setIfInBounds i true=(listed.setIfInBounds i true).push false:=by
    apply Array.ext_getElem?;intro j;simp only [Array.getElem?_setIfInBounds,Array.getElem?_push,Array.size_push,Array.size_setIfInBounds];by_cases e:i=j
    ·subst e
     simp only [hs,hi,show ¬i=l.length by omega,if_true,if_false,show i<l.length+1 by omega]
    ·simp [e]
   rw [hset];obtain⟨h1,h2⟩:=ih (t / (JM .any l.toArray listed).length) (listed.setIfInBounds i true) (by simp [hs]) (BP hs hc hmem) (by have:=FX hs hi hb;omega);rw [h1];refine⟨by simp,fun j hj=>?_⟩
   rcases Kx.1 hj with hj | hj
   ·simp at hj
    omega
   ·exact h2 j hj
theorem uG {P:Program} {l:List Oper} {o:Oper} {Q:Exit→Act→World→Prop} (hB:ru l o=true):∀(order:List Nat) (a:Act) (w:World),(∀i∈order,i<l.length)→wpOps P l.toArray (zC P o Q) order a w→wpOps P (l++[o]).toArray Q (order++[l.length]) a w
 | [],a,w,_,h=>by
  have hg:o.guard=none:=by
   simp only [ru,JJ] at hB;simpa using hB.1.2
  have h':o.wp P a w (fun a w=>Q .normal a w) Q:=h;simp only [Lk,wpOps,Ko,List.getElem?_concat_length,JY,hg,if_true];exact .inl h'
 | i::order,a,w,hi,h=>by
  have hlt:=hi i (by simp);have hg:(l[i]).guard=none:=by
   simp only [ru,JJ,KD,JV] at hB;have:=hB.2 i hlt;rw [JI hlt] at this;simp only [Kk,Ka,JJ] at this;simpa using this.1
  rw [List.cons_append,wpOps_cons];rw [wpOps_cons] at h;unfold wpOp at h ⊢;simp only [Ko,Kw hlt,JI hlt,JY,hg,if_true] at h ⊢;rcases h with h | ⟨h1,h2⟩
  ·refine .inl ?_
   have h3:l[i].wp P a w (wpOps P (l++[o]).toArray Q (order++[l.length])) (zC P o Q):=Oper.wp_mono (fun a w=>uG hB order a w (fun j hj=>hi j (by simp [hj]))) h;exact CI h3
  ·exact .inr ⟨h1,h2⟩
theorem cO {P:Program} {id:Nat} {l:List Oper} {o:Oper} {Q:Exit→Act→World→Prop} {S:World→Prop} {a:Act} {w:World} (hm:P.follows .mixedOrders=true) (hB:ru l o=true) (hS:S w.drew)
  (h:S w.drew→wpAnyH P .any l.toArray (zC P o Q) S l.length (KT l.length false) a w.drew):(Code.region id (l++[o]).toArray true).wp P Q a w :=
 wp_region_draw fun t=>by
  simp only [Region.schedule,hm,Bool.true_or,if_true];have e:Region.linearise .any (l++[o]).toArray t=JP .any (l++[o]).toArray (l.length+1) t ((KT l.length false).push false) []:=by
   simp only [Region.linearise,Km,Kj,Kp];rw [Array.replicate_succ]
  obtain⟨h1,h2⟩:=Gv hB l.length t (KT l.length false) (by simp) (fun j oj hj hjl=>by
   rw [JK,Array.getElem?_replicate] at hjl;split at hjl<;>cases hjl) (by unfold unl;exact KF (List.length_filter_le _ _) (by simp))
  rw [e,h1];exact uG hB _ _ _ h2 (wpAny_sound _ t _ _ _ (wpAny_of_held _ _ _ _ (h hS)))
theorem bH {P:Program} {md:Ld} {ops:Array Oper} {o:Oper} {Q:Exit→Act→World→Prop} {S:World→Prop} {fuel:Nat} {listed:Array Bool} {a:Act} {w:World} (hr:JM md ops listed=[]) (h:o.wp P a w (fun a w=>Q .normal a w) Q):wpAnyH P md ops (zC P o Q) S fuel listed a w :=
 wpAnyH_done hr h fuel
set_option maxRecDepth 100000
set_option maxRecDepth 100000
theorem yM {l:List Fm} (h:l.length≤5) (hf:∀f∈l,f.2.1.length≤40) (i:Nat) (f:Fm) (h2:f.2.1.length≤100):ET (l.set i f):=by
 refine⟨by rw [Kv];omega,fun x hx=>?_⟩
 rcases Ky hx with h3 | rfl
 ·have:=hf x h3
  omega
 ·omega
theorem DN (s:Sp) (x:Stp) (hs:cm s) (hok:aE s=true) (hx:gw x=true) (hr:nV s x=true):cm (mU s x):=by
 obtain⟨hfm,hgc,hl5,_⟩:=bu hok;have hfs:∀f∈s.2.1,f.2.1.length≤40:=fun f hf=>by
  obtain⟨j,hj,rfl⟩:=KK hf;exact ed (hfm j hj)
 unfold mU;unfold nV at hr;by_cases h1:x.1=1
 ·rw [if_pos h1] at hr ⊢
  unfold nR at hr;simp only [JJ] at hr;have hw:=(vk hgc hr.1.1).1;have hu:=Cn hx h1;refine⟨iF hs.1 (eo _ _ _ _),?_⟩
  have hil:(ie s.2.1 x.2.1).length≤6:=by
   unfold ie;split
   ·omega
   ·have:=Bm s.2.1 x.2.1
    simp;omega
  show ET (FP (ie s.2.1 x.2.1) (atF s.2.1 x.2.1) (gz s.1 x.2.2.1))
  unfold FP;split
  ·rename_i f hf
   have h40:=ue hfm x.2.1 f (Kq hf);refine⟨by rw [Kv];omega,fun y hy=>?_⟩
   rcases Ky hy with h3 | rfl
   ·have:=ue hfm x.2.1 y h3
    omega
   ·simp only [Kj]
    omega
  ·exact⟨by omega,fun y hy=>by have:=ue hfm x.2.1 y hy;omega⟩
 ·rw [if_neg h1]
  unfold nI;split
  ·exact hs
  ·rename_i f hf
   have h40:=hfs f (Kq hf);split
   ·exact⟨hs.1,yM hl5 hfs _ _ (by show f.2.1.length≤100;omega)⟩
   split
   ·exact⟨hs.1,yM hl5 hfs _ _ (by show f.2.1.length≤100;omega)⟩
   split
   ·exact⟨hs.1,yM hl5 hfs _ _ (by show f.2.1.length≤100;omega)⟩
   split
   ·exact⟨hs.1,yM hl5 hfs _ _ (by show(f.2.1.take _).length≤100;rw [Kg];omega)⟩
   ·refine⟨iF hs.1 (eo _ _ _ _),?_,fun y hy=>?_⟩
    ·simp
     omega
    ·rcases Kx.1 hy with h | h
     ·have:=hfs y (KG h)
      omega
     ·have:=hfs y (KW h)
      omega
theorem Fs {s:Sp} {x:Stp} (h:mO s x=false):stS s x=([],[],0,0):=by simp [stS,h]
theorem EQ {s:Sp} {x:Stp} (h:mO s x=true):stS s x=mU s x:=by simp [stS,h]
set_option maxRecDepth 100000
theorem Ir {s:Sp} {x:Stp} (hs:cm s) (hok:aE s=true) (h:mO s x=true):cm (stS s x)∧aE (stS s x)=true:=by
 rw [EQ h];unfold mO at h;simp only [JJ] at h;exact⟨DN s x hs hok h.1.1 h.1.2,h.2⟩
def zBx:Bx:=(⟨#[]⟩,0,0,0)
def pO (x:Bx) (n:Int):Bx:=(x.1,x.2.1,x.2.2.1,n)
def up5 (a:Cur × List Bx) (i:Nat):Cur × List Bx:=((on a.1 2).2,if (on a.1 2).1=true then a.2.set i (pO (a.2.getD i zBx) (IntKind.i64.wrap ((a.2.getD i zBx).2.2.2+5))) else a.2)
def ups (c:Cur) (l:List Bx) (n:Nat):Cur × List Bx:=(KH n).foldl up5 (c,l)
theorem Ak (c:Cur) (l:List Bx) (n:Nat):ups c l (n+1)=up5 (ups c l n) n:=by
 unfold ups;rw [List.range_succ,List.foldl_append];rfl
structure SameB (l m:List Bx):Prop where
 len:m.length=l.length
 row:∀(i:Nat) (h:i<l.length),(m[i]'(by omega)).1=l[i].1∧(m[i]'(by omega)).2.1=l[i].2.1∧(m[i]'(by omega)).2.2.1=l[i].2.2.1∧0≤(m[i]'(by omega)).2.2.2∧(m[i]'(by omega)).2.2.2≤25
theorem SameB.good {l m:List Bx} (h:SameB l m) (hg:bp l=true):bp m=true:=by
 obtain⟨h1,h2,h3,h4,h5⟩:=li.1 hg;have hl:=h.len;refine li.2 ⟨fun i hi=>?_,fun i hi h0=>?_,fun i j hi hj=>?_,by omega,by omega⟩
 ·obtain⟨a,b,c,d,e⟩:=h.row i (by omega)
  have:=h1 i (by omega);simp only [oM,JJ,decide_eq_true_eq] at this ⊢;rw [a,b,c];exact⟨this.1,d,by omega⟩
 ·rw [(h.row i (by omega)).1,(h.row (i - 1) (by omega)).1]
  exact h2 i (by omega) h0
 ·have:=h3 i j (by omega) hj
  obtain⟨_,b,c,_⟩:=h.row i (by omega);obtain⟨_,b',c',_⟩:=h.row j (by omega);unfold fP at this ⊢;rw [b,c,b',c'];exact this
theorem Bh {c:Cur} {l:List Bx} {B:Nat} (h:c.ok B) (hB:B≤1000000000) (hl:∀x∈l,0≤x.2.2.2∧x.2.2.2≤20):∀n,n≤l.length→n≤100→(ups c l n).1.ok (B+2*n)∧SameB l (ups c l n).2∧∀(i:Nat) (hi:i<l.length),n≤i→(ups c l n).2[i]?=some l[i]
 | 0,_,_=>⟨h,⟨rfl,fun i hi=>⟨rfl,rfl,rfl,(hl _ (Kf hi)).1,by
   show l[i].2.2.2≤25
   have:=(hl _ (Kf hi)).2;omega⟩⟩,fun i hi _=>by simp [ups,hi]⟩
 | n+1,hn,hn1=>by
  obtain⟨h1,h2,h3⟩:=Bh h hB hl n (by omega) (by omega);have hlen:=h2.len;have hk:=(DD (n:=2) h1 (by omega) (by omega)).2;rw [Ak];refine⟨hk.mono (by omega),?_,fun i hi hni=>?_⟩
  ·unfold up5
   simp only;split
   ·refine⟨by rw [Kv];exact hlen,fun i hi=>?_⟩
    have hx:=h3 n (by omega) (Kb _);have hx2:=hl _ (Kf (show n<l.length by omega));by_cases hin:n=i
    ·subst hin
     have hg:(ups c l n).2.getD n zBx=l[n]:=by rw [KP,hx];rfl
     simp only [List.getElem_set_self,pO];rw [hg,ax (by omega) (by omega)];exact⟨rfl,rfl,rfl,by omega,by omega⟩
    ·simp only [List.getElem_set_ne hin]
     exact h2.row i hi
   ·exact h2
  ·unfold up5
   simp only;split
   ·rw [JR (by omega)]
    exact h3 i hi (by omega)
   ·exact h3 i hi (by omega)
def doF (a:Cur × Sp):Cur × Sp:=((sst a.1).2,if mO a.2 (sst a.1).1=true then stS a.2 (sst a.1).1 else a.2)
def doN:Nat→Cur × Sp→Cur × Sp
 | 0,a=>a
 | n+1,a=>doN n (doF a)
theorem EU {a:Cur × Sp} {B:Nat} (h:a.1.ok B) (hB:B≤800000000) (hs:cm a.2∧aE a.2=true):(doF a).1.ok (B+100)∧cm (doF a).2∧aE (doF a).2=true:=by
 refine⟨(BM h hB).2.2,?_⟩
 unfold doF;simp only;split
 ·rename_i hst
  exact Ir hs.1 hs.2 hst
 ·exact hs
theorem EK:∀(n:Nat) {a:Cur × Sp} {B:Nat},a.1.ok B→B+100*n≤800000000→cm a.2∧aE a.2=true→(doN n a).1.ok (B+100*n)∧cm (doN n a).2∧aE (doN n a).2=true
 | 0,a,B,h,_,hs=>⟨h,hs⟩
 | n+1,a,B,h,hB,hs=>by
  obtain⟨h1,h2⟩:=EU h (by omega) hs;obtain⟨g1,g2⟩:=EK n h1 (by omega) h2;exact⟨g1.mono (by omega),g2⟩
def pad:Nat→List Fm→List Fm
 | 0,l=>l
 | m+1,l=>pad m (l++[(((10+l.length:Nat):Int),[],false,0)])
theorem Cp:∀(m:Nat) (l:List Fm),(pad m l).length=l.length+m
 | 0,l=>rfl
 | m+1,l=>by
  rw [pad,Cp m];simp;omega
theorem Co:∀(m:Nat) (l:List Fm) (x:Fm),x∈pad m l→x∈l∨x.2.1=[]
 | 0,l,x,h=>.inl h
 | m+1,l,x,h=>by
  rcases Co m _ x h with h | h
  ·rcases Kx.1 h with h | h
   ·exact .inl h
   ·simp at h
    subst h;exact .inr rfl
  ·exact .inr h
def fin (k:Int × Cur) (s:Sp):Cur × Sp :=
 if k.1=0 then((am k.2 [9999,10000,-1]).2,s.1,s.2.1,(am k.2 [9999,10000,-1]).1,s.2.2.2)
 else if k.1=1 then((am k.2 [1000000,1000001,-1]).2,s.1,s.2.1,s.2.2.1,(am k.2 [1000000,1000001,-1]).1)
 else if k.1=2 then((am k.2 [9999,10000,-1]).2,s.1.set 0 (pO (s.1.getD 0 zBx) (am k.2 [9999,10000,-1]).1),s.2.1,s.2.2.1,s.2.2.2)
 else if k.1=3 then((on (am k.2 [99,1]).2 2).2,s.1,s.2.1++[((am k.2 [99,1]).1,[],(on (am k.2 [99,1]).2 2).1,0)],s.2.2.1,s.2.2.2)
 else if k.1=4 then((pk k.2 2).2,s.1,pad ((5+(pk k.2 2).1).toNat - s.2.1.length) s.2.1,s.2.2.1,s.2.2.2)
 else if k.1=5 then((am (pk k.2 2).2 [0,100000,100001]).2,s.1,[(1,List.replicate (40+(pk k.2 2).1).toNat (s.1.getD 0 zBx).1,false,(am (pk k.2 2).2 [0,100000,100001]).1)],s.2.2.1,200000)
 else(k.2,s)
theorem gh {s:Sp} (hok:aE s=true):(1≤s.1.length∧s.1.length≤32∧∀x∈s.1,x.1.size≤3)∧s.2.1.length≤5∧∀x∈s.2.1,x.2.1.length≤40:=by
 simp only [aE,JJ,decide_eq_true_eq] at hok;obtain⟨⟨⟨⟨h1,h2⟩,h3⟩,h4⟩,h5⟩:=hok;obtain⟨g1,g2,g3,g4,g5⟩:=li.1 h2;refine⟨⟨g4,g5,fun x hx=>?_⟩,by omega,fun x hx=>?_⟩
 ·obtain⟨i,hi,rfl⟩:=KX.1 hx
  have:=g1 i hi;simp only [oM,ex,JJ,decide_eq_true_eq] at this;omega
 ·obtain⟨i,hi,rfl⟩:=KX.1 hx
  have:=tZ h1 i hi;rw [KZ] at this;simp only [pS,eF,JJ,Kl,decide_eq_false_iff_not,decide_eq_true_eq] at this;omega
theorem uB {s:Sp} (h:(s.1.length≤32∧∀x∈s.1,x.1.size≤3)∧s.2.1.length≤10∧∀x∈s.2.1,x.2.1.length≤41):cm s :=
 ⟨⟨by omega,fun x hx=>by have:=h.1.2 x hx;omega⟩,by omega,fun x hx=>by have:=h.2.2 x hx;omega⟩
theorem HM {k:Int × Cur} {s:Sp} {B:Nat} (h:k.2.ok B) (hB:B≤1000000) (hok:aE s=true):(fin k s).1.ok (B+4)∧(((fin k s).2.1.length≤32∧∀x∈(fin k s).2.1,x.1.size≤3)∧(fin k s).2.2.1.length≤10∧∀x∈(fin k s).2.2.1,x.2.1.length≤41):=by
 obtain⟨⟨s0,s1,s2⟩,s3,s4⟩:=gh hok;have s4':∀x∈s.2.1,x.2.1.length≤41:=fun x hx=>by have:=s4 x hx;omega
 unfold fin;split
 ·exact⟨((vN (l:=[9999,10000,-1]) h (by omega) (by simp) (by simp)).2.2).mono (by omega),⟨s1,s2⟩,by show s.2.1.length≤10;omega,s4'⟩
 split
 ·exact⟨((vN (l:=[1000000,1000001,-1]) h (by omega) (by simp) (by simp)).2.2).mono (by omega),⟨s1,s2⟩,by show s.2.1.length≤10;omega,s4'⟩
 split
 ·refine⟨((vN (l:=[9999,10000,-1]) h (by omega) (by simp) (by simp)).2.2).mono (by omega),⟨by rw [Kv];exact s1,fun x hx=>?_⟩,by show s.2.1.length≤10;omega,s4'⟩
  rcases Ky hx with hx | rfl
  ·exact s2 x hx
  ·show(s.1.getD 0 zBx).1.size≤3
   rw [KP,JI (by omega)];exact s2 _ (Kf _)
 split
 ·have h1:=(vN (l:=[99,1]) h (by omega) (by simp) (by simp)).2.2
  refine⟨((DD (n:=2) h1 (by omega) (by omega)).2).mono (by omega),⟨s1,s2⟩,by rw [Kj];simp;omega,fun x hx=>?_⟩
  rcases Kx.1 hx with hx | hx
  ·exact s4' x hx
  ·simp at hx
   subst hx;simp
 split
 ·obtain⟨_,g1,g2,g3⟩:=rJ (n:=2) h (by omega) (by omega)
  refine⟨g3.mono (by omega),⟨s1,s2⟩,by rw [Cp];omega,fun x hx=>?_⟩
  rcases Co _ _ _ hx with hx | hx
  ·exact s4' x hx
  ·rw [hx]
   simp
 split
 ·obtain⟨_,g1,g2,g3⟩:=rJ (n:=2) h (by omega) (by omega)
  refine⟨((vN (l:=[0,100000,100001]) g3 (by omega) (by simp) (by simp)).2.2).mono (by omega),⟨s1,s2⟩,by simp,fun x hx=>?_⟩
  simp at hx;subst hx;simp only [List.length_replicate];omega
 ·exact⟨h.mono (by omega),⟨s1,s2⟩,by show s.2.1.length≤10;omega,s4'⟩
theorem Ho {l:List Bx} (h:bp l=true):aE (l,[],0,0)=true:=by
 simp [aE,cW,jM,h]
def sh1 (c:Cur):Cur × List Bx:=ups (bo (fo c).2 (fo c).1).2 (bo (fo c).2 (fo c).1).1 (bo (fo c).2 (fo c).1).1.length
def sh2 (c:Cur):Cur × Sp:=doN (pk (sh1 c).1 12).1.toNat ((pk (sh1 c).1 12).2,(sh1 c).2,[],0,0)
def sh (c:Cur):Cur × Sp:=fin (pk (sh2 c).1 30) (sh2 c).2
theorem FI {c:Cur} {B:Nat} (h:c.ok B) (hB:B≤100000):(bo (fo c).2 (fo c).1).2.ok (B+200)∧(bo (fo c).2 (fo c).1).1.length≤12∧(∀x∈(bo (fo c).2 (fo c).1).1,0≤x.2.2.2∧x.2.2.2≤20)∧(sh1 c).1.ok (B+224)∧bp (sh1 c).2=true:=by
 obtain⟨_,h2,h3,h4⟩:=FJ h (by omega);obtain⟨_,g2,g3,g4,g5⟩:=Ey h4 (by omega) h2 h3;obtain⟨k1,k2,_⟩:=Bh (l:=(bo (fo c).2 (fo c).1).1) g5 (by omega) g4 _ (Kb _) (by omega);exact⟨g5.mono (by omega),g3,g4,k1.mono (by omega),k2.good g2⟩
theorem Ik {c:Cur} {B:Nat} (h:c.ok B) (hB:B≤100000):(sh2 c).1.ok (B+1400)∧cm (sh2 c).2∧aE (sh2 c).2=true:=by
 obtain⟨_,_,_,h4,h5⟩:=FI h hB;obtain⟨_,g1,g2,g3⟩:=rJ (n:=12) h4 (by omega) (by omega);have hok:=Ho h5;obtain⟨⟨t1,t2,t3⟩,_⟩:=gh hok;obtain⟨k1,k2⟩:=EK (pk (sh1 c).1 12).1.toNat (a:=((pk (sh1 c).1 12).2,(sh1 c).2,[],0,0)) g3 (by omega) ⟨uB ⟨⟨t2,t3⟩,by simp,by simp⟩,hok⟩;exact⟨k1.mono (by omega),k2⟩
theorem IV {c:Cur} {B:Nat} (h:c.ok B) (hB:B≤100000):(sh c).1.ok (B+1500)∧cm (sh c).2:=by
 obtain⟨h1,h2,h3⟩:=Ik h hB;obtain⟨_,_,_,g3⟩:=rJ (n:=30) h1 (by omega) (by omega);obtain⟨k1,k2⟩:=HM g3 (by omega) h3;exact⟨k1.mono (by omega),uB k2⟩
set_option maxRecDepth 100000
set_option maxRecDepth 100000
set_option maxRecDepth 100000
theorem re {w w':World} {B:Nat} {A A' A2:Option Addr} {bn c n' c' n2 c2:Nat} {v:Value} {ys ys':List Value} {l':List Fm} {x y:Int} {s:Sp} (hS:ShopAt w B v (.slice A bn c) (.slice A' n' c') ys s)
  (hb:∀b,aM (.slice A bn c) b→w'.heap[b]?=w.heap[b]?) (hF':FmsAt w' B (.slice A2 n2 c2) ys' l') (hfo:∀b,FmS (.slice A2 n2 c2) ys' b→FmS (.slice A' n' c') ys b∨w.heap.size≤b) :
  ShopAt w' B (.agg #[.slice A bn c,.slice A2 n2 c2,.int .i64 x,.int .i64 y]) (.slice A bn c) (.slice A2 n2 c2) ys' (s.1,l',x,y)∧∀b,ShS (.slice A bn c) (.slice A2 n2 c2) ys' b→ShS (.slice A bn c) (.slice A' n' c') ys b∨w.heap.size≤b :=
 ⟨⟨rfl,aY hS.box hb,hS.bge,hF',fun b hb h=>(hfo b h).elim (hS.dis b hb) fun h=>by have:=dy hS.box b hb;omega⟩,fun b hb=>hb.elim (fun h=>.inl (.inl h)) fun h=>(hfo b h).imp .inr id⟩
structure WS (P:Program) (ops:Array Oper) (w:World) (Q:Act→Prop) (l:List Oper) (a:Act):Prop where
 out:wpStill P ops w Q l a
structure WG (P:Program) (ops:Array Oper) (w:World) (o:Oper) (a:Act) (K:Act→Prop):Prop where
 out:if JY o (yielded ops a.tmps) then o.still P a w K else K (a.put o.dst undef)
theorem WS.step {P:Program} {ops:Array Oper} {w:World} {Q:Act→Prop} {a:Act} {o:Oper} {rest:List Oper} (h:∀K:Act→Prop,Hid (∀a,WS P ops w Q rest a→K a)→WG P ops w o a K):WS P ops w Q (o::rest) a :=
 ⟨wpStill_step fun K hK=>(h K fun a ha=>hK a ha.out).out⟩
theorem WS.nil {P:Program} {ops:Array Oper} {w:World} {Q:Act→Prop} {a:Act} (h:Q a):WS P ops w Q [] a:=⟨h⟩
theorem KeptX.ofBelow {S:Nat→Prop} {w w':World} (h:Below w.heap.size w w'):KeptX S w w':=⟨h.os,h.tape,h.output,h.size,fun b hb _=>h.block b hb⟩
theorem KeptX.stepX {S T:Nat→Prop} {w w1 w2:World} (h:KeptX S w w1) (k:KeptX T w1 w2) (hT:∀b,T b→S b∨w.heap.size≤b):KeptX S w w2 :=
 ⟨k.os.trans h.os,k.tape.trans h.tape,k.output.trans h.output,KF h.size k.size,fun b hb hS=>(k.block b (JU hb h.size) fun ht=>(hT b ht).elim hS fun h=>by omega).trans (h.block b hb hS)⟩
theorem KeptX.step {S:Nat→Prop} {w w1 w2:World} (h:KeptX S w w1) (k:Below w1.heap.size w1 w2):KeptX S w w2 :=
 h.stepX (T:=fun _=>False) (KeptX.ofBelow k) fun _ hb=>hb.elim
theorem KeptX.setO {S:Nat→Prop} {w w1:World} (h:KeptX S w w1) (a:Addr) (v:Value) (ha:S a.block∨w.heap.size≤a.block):KeptX S w (w1.setCell a v) :=
 ⟨h.os,h.tape,h.output,by simpa [JZ] using h.size,fun b hb hS=>(heap_setCell_other _ _ _ _ (by rintro rfl;exact ha.elim hS fun h=>by omega)).trans (h.block b hb hS)⟩
theorem KeptX.set4 {S:Nat→Prop} {w w1:World} {r:Nat} (h:KeptX S w w1) (hr:w.heap.size≤r) (x0 x1 x2 x3:Value):KeptX S w ((((w1.setCell ⟨r,0,none⟩ x0).setCell ⟨r,1,none⟩ x1).setCell ⟨r,2,none⟩ x2).setCell ⟨r,3,none⟩ x3) :=
 (((h.setO _ _ (.inr hr)).setO _ _ (.inr hr)).setO _ _ (.inr hr)).setO _ _ (.inr hr)
def pN (w:World) (B:Nat) (S:Nat→Prop) (ok:Bool) (t:Sp) (e:Ending) (w':World):Prop:=∃v Vb Vf ys,e = .returned (.tuple #[v,.bool ok])∧ShopAt w' B v Vb Vf ys (if ok=true then t else([],[],0,0))∧(∀b,ShS Vb Vf ys b→S b∨w.heap.size≤b)∧KeptX S w w'
theorem er {w w':World} {B r:Nat} {S:Nat→Prop} {t:Sp} (hB:KeptX S w w') (hr:w.heap.size≤r):pN w B S false t (.returned (.tuple #[.agg #[.slice none 0 0,.slice none 0 0,.int .i64 0,.int .i64 0],.bool false])) ((((w'.setCell ⟨r,0,none⟩ (.slice none 0 0)).setCell ⟨r,1,none⟩ (.slice none 0 0)).setCell ⟨r,2,none⟩ (.int .i64 0)).setCell ⟨r,3,none⟩ (.int .i64 0)) :=
 ⟨_,_,_,[],rfl,⟨rfl,kI _ _ _ _,(fun b hb=>by cases hb),lw _ _,(fun b hb=>by cases hb)⟩,fun b hb=>hb.elim (fun h=>by cases h) (fun h=>h.elim (fun h=>by cases h) fun⟨_,h,_⟩=>by cases h),hB.set4 hr _ _ _ _⟩
theorem kZ {w w':World} {B r:Nat} {S:Nat→Prop} {t:Sp} {A A':Option Addr} {n c n' c':Nat} {ys:List Value} (hS:ShopAt w' B (.agg #[.slice A n c,.slice A' n' c',.int .i64 t.2.2.1,.int .i64 t.2.2.2]) (.slice A n c) (.slice A' n' c') ys t) (hB:KeptX S w w') (hr:w.heap.size≤r) (hg:∀b,ShS (.slice A n c) (.slice A' n' c') ys b→r≠b)
  (hsub:∀b,ShS (.slice A n c) (.slice A' n' c') ys b→S b∨w.heap.size≤b) :
  pN w B S true t (.returned (.tuple #[.agg #[.slice A n c,.slice A' n' c',.int .i64 t.2.2.1,.int .i64 t.2.2.2],.bool true])) ((((w'.setCell ⟨r,0,none⟩ (.slice A n c)).setCell ⟨r,1,none⟩ (.slice A' n' c')).setCell ⟨r,2,none⟩ (.int .i64 t.2.2.1)).setCell ⟨r,3,none⟩ (.int .i64 t.2.2.2)) :=
 ⟨_,_,_,_,rfl,hS.set4 _ _ _ _ hg,hsub,hB.set4 hr _ _ _ _⟩
set_option maxHeartbeats 8000000 in
set_option maxRecDepth 1000000 in
theorem EW (s:Sp) (hs:cm s) (hok:aE s=true) (id:Int) (u:ByteArray) (n:Int) (hx:gw (2,id,u,n)=true) (w:World) (B:Nat) (v Vb Vf:Value) (ys:List Value) (hS0:ShopAt w B v Vb Vf ys s) (hB:B≤w.heap.size) :
  Calls Tryd.prog 68 #[v,stV (2,id,u,n)] w (pN w B (ShS Vb Vf ys) (gC s.2.1 id&&jn s (atF s.2.1 id) (2,id,u,n)) (nI s (atF s.2.1 id) (2,id,u,n))):=by
 obtain⟨hfm,hgc,_,hlost⟩:=bu hok;obtain rfl:=hS0.val;obtain⟨bA,bn,bc,rfl⟩:=bQ hS0.box;obtain⟨fA,fc,rfl⟩:=cB hS0.fms.own;have hlt0:=hS0.lt
 go_enter Tryd.func68,Tryd.ntmps68
 go_upto_region 1 with fail
 have hW:Below w.heap.size w (((w.alloc (.cells #[.slice bA bn bc,.slice fA s.2.1.length fc,.int .i64 s.2.2.1,.int .i64 s.2.2.2] 26)).alloc (.cells #[.int .i64 2,.int .i64 id,.string u,.int .i64 n] 91)).alloc (.cells #[.slice none 0 0,.slice none 0 0,.int .i64 0,.int .i64 0] 26)):=((KE _ w).alloc (Kb _) _).alloc (by simp) _ |>.alloc (by simp;omega) _;have hWs:w.heap.size+3≤(((w.alloc (.cells #[.slice bA bn bc,.slice fA s.2.1.length fc,.int .i64 s.2.2.1,.int .i64 s.2.2.2] 26)).alloc (.cells #[.int .i64 2,.int .i64 id,.string u,.int .i64 n] 91)).alloc (.cells #[.slice none 0 0,.slice none 0 0,.int .i64 0,.int .i64 0] 26)).heap.size:=by simp
 have hp:(((w.alloc (.cells #[.slice bA bn bc,.slice fA s.2.1.length fc,.int .i64 s.2.2.1,.int .i64 s.2.2.2] 26)).alloc (.cells #[.int .i64 2,.int .i64 id,.string u,.int .i64 n] 91)).alloc (.cells #[.slice none 0 0,.slice none 0 0,.int .i64 0,.int .i64 0] 26)).heap[w.heap.size]?=some (.cells #[.slice bA bn bc,.slice fA s.2.1.length fc,.int .i64 s.2.2.1,.int .i64 s.2.2.2] 26 (0,0)):=aj _ (aj _ (al _ rfl));have hq:(((w.alloc (.cells #[.slice bA bn bc,.slice fA s.2.1.length fc,.int .i64 s.2.2.1,.int .i64 s.2.2.2] 26)).alloc (.cells #[.int .i64 2,.int .i64 id,.string u,.int .i64 n] 91)).alloc (.cells #[.slice none 0 0,.slice none 0 0,.int .i64 0,.int .i64 0] 26)).heap[w.heap.size+1]?=some (.cells #[.int .i64 2,.int .i64 id,.string u,.int .i64 n] 91 (0,0)):=aj _ (al _ (by simp));have hr:(((w.alloc (.cells #[.slice bA bn bc,.slice fA s.2.1.length fc,.int .i64 s.2.2.1,.int .i64 s.2.2.2] 26)).alloc (.cells #[.int .i64 2,.int .i64 id,.string u,.int .i64 n] 91)).alloc (.cells #[.slice none 0 0,.slice none 0 0,.int .i64 0,.int .i64 0] 26)).heap[w.heap.size+1+1]?=some (.cells #[.slice none 0 0,.slice none 0 0,.int .i64 0,.int .i64 0] 26 (0,0)):=al _ (by simp);have hS:=hS0.below hW;generalize (((w.alloc (.cells #[.slice bA bn bc,.slice fA s.2.1.length fc,.int .i64 s.2.2.1,.int .i64 s.2.2.2] 26)).alloc (.cells #[.int .i64 2,.int .i64 id,.string u,.int .i64 n] 91)).alloc (.cells #[.slice none 0 0,.slice none 0 0,.int .i64 0,.int .i64 0] 26))=W at *;have hc:=jg s id hs hok hS.rep (fun b hb=>(hS.lt b hb).2);obtain⟨e0,e1,e2,e3⟩:=ab hp;obtain⟨f0,f1,f2,f3⟩:=ab hq;cases hh:gC s.2.1 id
 ·rw [hh] at hc
  simp only [KN,if_false] at hc;have hhH:Hid (gC s.2.1 id=false):=hh
  go_upto_region 4 with (go_at_call 38;refine hc.mono ?_;rintro e w2 ⟨rfl,b2⟩)
  have B2:KeptX (ShS (.slice bA bn bc) (.slice fA s.2.1.length fc) ys) w w2:=(KeptX.ofBelow hW).step b2;have hr2:=Below.some b2 hr;clear hc hS hS0 hfm hgc hlt0 hs hok hx hlost hh;refine wp_region_still_lit (by kernel_rfl) (by kernel_rfl) (WS.out ?_)
  refine WS.step (fun K hK=>WG.mk ?_)
  go_simp
  refine hK.out _ ?_
  clear hK K;refine WS.step (fun K hK=>WG.mk ?_)
  go_simp
  refine hK.out _ ?_
  clear hK K;refine WS.step (fun K hK=>WG.mk ?_)
  go_simp
  refine hK.out _ ?_
  clear hK K;refine WS.step (fun K hK=>WG.mk ?_)
  go_simp
  refine hK.out _ ?_
  clear hK K;refine WS.step (fun K hK=>WG.mk ?_)
  go_simp
  refine hK.out _ ?_
  clear hK K;refine WS.step (fun K hK=>WG.mk ?_)
  go_simp
  refine hK.out _ ?_
  clear hK K;refine WS.step (fun K hK=>WG.mk ?_)
  go_simp
  refine hK.out _ ?_
  clear hK K;refine WS.step (fun K hK=>WG.mk ?_)
  go_simp
  refine hK.out _ ?_
  clear hK K;refine WS.step (fun K hK=>WG.mk ?_)
  go_simp
  refine hK.out _ ?_
  clear hK K;refine WS.step (fun K hK=>WG.mk ?_)
  go_simp
  refine hK.out _ ?_
  clear hK K;refine WS.step (fun K hK=>WG.mk ?_)
  go_simp
  refine hK.out _ ?_
  clear hK K;refine WS.step (fun K hK=>WG.mk ?_)
  go_simp
  refine hK.out _ ?_
  clear hK K;refine WS.step (fun K hK=>WG.mk ?_)
  go_simp
  refine hK.out _ ?_
  clear hK K;refine WS.step (fun K hK=>WG.mk ?_)
  go_simp
  refine hK.out _ ?_
  clear hK K;refine WS.step (fun K hK=>WG.mk ?_)
  go_simp
  refine hK.out _ ?_
  clear hK K;refine WS.step (fun K hK=>WG.mk ?_)
  go_simp
  refine hK.out _ ?_
  clear hK K;refine WS.step (fun K hK=>WG.mk ?_)
  go_simp
  refine hK.out _ ?_
  clear hK K;refine WS.step (fun K hK=>WG.mk ?_)
  go_simp
  refine hK.out _ ?_
  clear hK K;refine WS.step (fun K hK=>WG.mk ?_)
  go_simp
  refine hK.out _ ?_
  clear hK K;refine WS.nil ?_
  change Exit.then _ _ _ _ w2.drew
  have B3:KeptX (ShS (.slice bA bn bc) (.slice fA s.2.1.length fc) ys) w w2.drew:=B2.step (ac w2);have hr3:=Below.some (ac w2) hr2;generalize w2.drew=w3 at *;obtain⟨g0,g1,g2,g3⟩:=ab hr3;obtain⟨j0,j1,j2,j3⟩:=aZ hr3
  go_wp2
  obtain⟨d0,d1,d2,d3⟩:=ab (aK (.slice none 0 0) (.slice none 0 0) (.int .i64 0) (.int .i64 0) hr3);refine bodyPost_ret (by simp [results,Tryd.results68,go_sem,d0,d1,d2,d3];try rfl) rfl ?_
  rw [hhH.out,Ll];exact er B3 (by omega)
 rw [hh] at hc;simp only [if_true] at hc;have hhH:Hid (gC s.2.1 id=true):=hh;obtain⟨hi,-⟩:=lX hh;obtain⟨i,hati⟩:∃i,i=atF s.2.1 id:=⟨_,rfl⟩
 rw [←hati] at hc hi;have hatH:Hid (i=atF s.2.1 id):=hati;clear hati;have haS:nI s i (2,id,u,n)=(s.1,s.2.1.set i (s.2.1[i].1,s.2.1[i].2.1,true,s.2.1[i].2.2.2),s.2.2.1,s.2.2.2):=by
  unfold nI;rw [JI hi];simp
 have haO:jn s i (2,id,u,n)=(!s.2.1[i].2.2.1):=by
  unfold jn;rw [JI hi];simp
 have haSH:Hid _:=haS;have haOH:Hid _:=haO;have hfi:=hfm i hi
 go_upto_region 4 with (go_at_call 38;refine hc.mono ?_;rintro e w2 ⟨rfl,b2⟩)
 have B2:KeptX (ShS (.slice bA bn bc) (.slice fA s.2.1.length fc) ys) w w2:=(KeptX.ofBelow hW).step b2;have hp2:=Below.some b2 hp;have hq2:=Below.some b2 hq;have hr2:=Below.some b2 hr;have hS2:=hS.below b2;have hs2:=b2.size;clear hc hS hS0 haS haO hW b2 hp hq hr e0 e1 e2 e3 f0 f1 f2 f3 hh;obtain⟨g,rfl⟩:=gT hS2.fms.own (by omega);have hgl:=hlt0 g (.inr (.inl rfl));have hgx:s.2.1[i]?=some s.2.1[i]:=JI hi;have hpi:(i:Int)<(s.2.1.length:Int):=by omega
 have hset:=ed hfi;have hprt:=bM hfi;obtain⟨f,hf⟩:∃f,f=s.2.1[i]:=⟨_,rfl⟩
 rw [←hf] at hfi hgx hset hprt haOH haSH;obtain⟨y,hy⟩:∃y,ys[i]?=some y:=⟨ys[i]'(by rw [hS2.fms.len];exact hi),JI _⟩
 have k2:=aW hS2.fms.own (j:=i*4+2) (u:=.bool f.2.2.1) (by rw [be _ _ i f _ hgx hy 2 (by omega)];rfl);obtain⟨e0,e1,e2,e3⟩:=ab hp2;obtain⟨f0,f1,f2,f3⟩:=ab hq2;have hnn:¬((i:Int)<0):=by omega
 cases hb:f.2.2.1
 ·rw [hb] at k2
  have hbH:Hid _:=hb;clear hb;refine wp_region_still_lit (by kernel_rfl) (by kernel_rfl) (WS.out ?_)
  refine WS.step (fun K hK=>WG.mk ?_)
  go_simp
  refine hK.out _ ?_
  clear hK K;refine WS.step (fun K hK=>WG.mk ?_)
  go_simp
  refine hK.out _ ?_
  clear hK K;refine WS.step (fun K hK=>WG.mk ?_)
  go_simp
  refine hK.out _ ?_
  clear hK K;refine WS.step (fun K hK=>WG.mk ?_)
  go_simp
  refine hK.out _ ?_
  clear hK K;refine WS.step (fun K hK=>WG.mk ?_)
  go_simp
  refine hK.out _ ?_
  clear hK K;refine WS.step (fun K hK=>WG.mk ?_)
  go_simp
  refine hK.out _ ?_
  clear hK K;refine WS.step (fun K hK=>WG.mk ?_)
  go_simp
  refine hK.out _ ?_
  clear hK K;refine WS.step (fun K hK=>WG.mk ?_)
  go_simp
  refine hK.out _ ?_
  clear hK K;refine WS.step (fun K hK=>WG.mk ?_)
  go_simp
  refine hK.out _ ?_
  clear hK K;refine WS.step (fun K hK=>WG.mk ?_)
  go_simp
  refine hK.out _ ?_
  clear hK K;refine WS.step (fun K hK=>WG.mk ?_)
  go_simp
  refine hK.out _ ?_
  clear hK K;refine WS.step (fun K hK=>WG.mk ?_)
  go_simp
  refine hK.out _ ?_
  clear hK K;refine WS.step (fun K hK=>WG.mk ?_)
  go_simp
  refine hK.out _ ?_
  clear hK K;refine WS.step (fun K hK=>WG.mk ?_)
  go_simp
  refine hK.out _ ?_
  clear hK K;refine WS.step (fun K hK=>WG.mk ?_)
  go_simp
  refine hK.out _ ?_
  clear hK K;refine WS.step (fun K hK=>WG.mk ?_)
  go_simp
  refine hK.out _ ?_
  clear hK K;refine WS.step (fun K hK=>WG.mk ?_)
  go_simp
  refine hK.out _ ?_
  clear hK K;refine WS.step (fun K hK=>WG.mk ?_)
  go_simp
  refine hK.out _ ?_
  clear hK K;refine WS.step (fun K hK=>WG.mk ?_)
  go_simp
  refine hK.out _ ?_
  clear hK K;refine WS.nil ?_
  change Exit.then _ _ _ _ w2.drew
  have B3:KeptX (ShS (.slice bA bn bc) (.slice (some ⟨g,0,none⟩) s.2.1.length fc) ys) w w2.drew:=B2.step (ac w2);have hp3:=Below.some (ac w2) hp2;have hq3:=Below.some (ac w2) hq2;have hr3:=Below.some (ac w2) hr2;have hS3:=hS2.below (ac w2);have hs3:w.heap.size+3≤w2.drew.heap.size:=KF hWs hs2;clear k2 e0 e1 e2 e3 f0 f1 f2 f3 hp2 hq2 hr2 hS2 B2 hWs hs2;generalize w2.drew=w3 at *;clear w2 W;have hF:=hS3.fms;have hrow:=hF.row i _ y hgx hy;obtain⟨Ay,cy,rfl⟩:=gA hrow;rw [JX] at hy hrow;have k1:=aW hF.own (j:=i*4+1) (u:=.slice Ay f.2.1.length cy) (by rw [be _ _ i f _ hgx hy 1 (by omega)];rfl);have k2:=aW hF.own (j:=i*4+2) (u:=.bool f.2.2.1) (by rw [be _ _ i f _ hgx hy 2 (by omega)];rfl);rw [hbH.out] at k2;have k3:=aW hF.own (j:=i*4+3) (u:=.int .i64 f.2.2.2) (by rw [be _ _ i f _ hgx hy 3 (by omega)];rfl);have z1:=cG hF.own (i*4+1);have z2:=cG hF.own (i*4+2);have z3:=cG hF.own (i*4+3);have hgp:g≠w.heap.size:=by omega
  have hfe:s.2.1[i]=f:=hf.symm;clear hf;have hcel:=fun(k:Nat) (v:Value) (x':Fm) hk hx hc=>iC hF hi hy (x':=x') (k:=k) (v:=v) hk hx hc
  rw [hfe] at hcel;obtain⟨e0,e1,e2,e3⟩:=ab hp3;obtain⟨f0,f1,f2,f3⟩:=ab hq3;have hwy:∀b,aM (.slice Ay f.2.1.length cy) b→b≠g:=fun b hb e=>(hF.blk i _ b hy hb).2 (by rw [e];rfl)
  have hpz:(w3.setCell ⟨g,i*4+2,none⟩ (.bool true)).heap[w.heap.size]?=_:=(heap_setCell_other _ _ _ _ (by simp;omega)).trans hp3;have hrz:(w3.setCell ⟨g,i*4+2,none⟩ (.bool true)).heap[w.heap.size+1+1]?=_:=(heap_setCell_other _ _ _ _ (by simp;omega)).trans hr3;have hFz:=hcel 2 (.bool true) (f.1,f.2.1,true,f.2.2.2) (by omega) rfl rfl;obtain⟨hSz,hShz⟩:=re (x:=s.2.2.1) (y:=s.2.2.2) hS3 (fun b hb=>heap_setCell_other _ _ _ _ (by
   have:=hS3.dis b hb;simp;exact fun e=>this (.inl (by rw [e];rfl)))) hFz (fun b hb=>.inl hb)
  have Bz:KeptX (ShS (.slice bA bn bc) (.slice (some ⟨g,0,none⟩) s.2.1.length fc) ys) w (w3.setCell ⟨g,i*4+2,none⟩ (.bool true)):=B3.setO _ _ (.inl (.inr (.inl rfl)));have hszz:w3.heap.size≤(w3.setCell ⟨g,i*4+2,none⟩ (.bool true)).heap.size:=by simp [JZ]
  go_upto_region 25 with fail
  clear e0 e1 e2 e3 f0 f1 f2 f3 k1 k2 k3 z1 z2 z3;obtain⟨a0,a1,a2,a3⟩:=ab hpz;obtain⟨g0,g1,g2,g3⟩:=ab hrz;obtain⟨j0,j1,j2,j3⟩:=aZ hrz
  go_wp2
  obtain⟨d0,d1,d2,d3⟩:=ab (aK (.slice bA bn bc) (.slice (some ⟨g,0,none⟩) s.2.1.length fc) (.int .i64 s.2.2.1) (.int .i64 s.2.2.2) hrz);refine bodyPost_ret (by simp [results,Tryd.results68,go_sem,d0,d1,d2,d3];try rfl) rfl ?_
  rw [hhH.out,←hatH.out,haOH.out,hbH.out,haSH.out];exact kZ hSz Bz (by omega) (fun b hb=>by
   rcases hShz b hb with h | h
   ·have:=hlt0 b h
    omega
   ·omega) (fun b hb=>(hShz b hb).imp (fun h=>h) fun h=>by omega)
 ·rw [hb] at k2
  have hbH:Hid _:=hb;clear hb;refine wp_region_still_lit (by kernel_rfl) (by kernel_rfl) (WS.out ?_)
  refine WS.step (fun K hK=>WG.mk ?_)
  go_simp
  refine hK.out _ ?_
  clear hK K;refine WS.step (fun K hK=>WG.mk ?_)
  go_simp
  refine hK.out _ ?_
  clear hK K;refine WS.step (fun K hK=>WG.mk ?_)
  go_simp
  refine hK.out _ ?_
  clear hK K;refine WS.step (fun K hK=>WG.mk ?_)
  go_simp
  refine hK.out _ ?_
  clear hK K;refine WS.step (fun K hK=>WG.mk ?_)
  go_simp
  refine hK.out _ ?_
  clear hK K;refine WS.step (fun K hK=>WG.mk ?_)
  go_simp
  refine hK.out _ ?_
  clear hK K;refine WS.step (fun K hK=>WG.mk ?_)
  go_simp
  refine hK.out _ ?_
  clear hK K;refine WS.step (fun K hK=>WG.mk ?_)
  go_simp
  refine hK.out _ ?_
  clear hK K;refine WS.step (fun K hK=>WG.mk ?_)
  go_simp
  refine hK.out _ ?_
  clear hK K;refine WS.step (fun K hK=>WG.mk ?_)
  go_simp
  refine hK.out _ ?_
  clear hK K;refine WS.step (fun K hK=>WG.mk ?_)
  go_simp
  refine hK.out _ ?_
  clear hK K;refine WS.step (fun K hK=>WG.mk ?_)
  go_simp
  refine hK.out _ ?_
  clear hK K;refine WS.step (fun K hK=>WG.mk ?_)
  go_simp
  refine hK.out _ ?_
  clear hK K;refine WS.step (fun K hK=>WG.mk ?_)
  go_simp
  refine hK.out _ ?_
  clear hK K;refine WS.step (fun K hK=>WG.mk ?_)
  go_simp
  refine hK.out _ ?_
  clear hK K;refine WS.step (fun K hK=>WG.mk ?_)
  go_simp
  refine hK.out _ ?_
  clear hK K;refine WS.step (fun K hK=>WG.mk ?_)
  go_simp
  refine hK.out _ ?_
  clear hK K;refine WS.step (fun K hK=>WG.mk ?_)
  go_simp
  refine hK.out _ ?_
  clear hK K;refine WS.step (fun K hK=>WG.mk ?_)
  go_simp
  refine hK.out _ ?_
  clear hK K;refine WS.nil ?_
  change Exit.then _ _ _ _ w2.drew
  have B3:KeptX (ShS (.slice bA bn bc) (.slice (some ⟨g,0,none⟩) s.2.1.length fc) ys) w w2.drew:=B2.step (ac w2);have hr3:=Below.some (ac w2) hr2;generalize w2.drew=w3 at *;obtain⟨g0,g1,g2,g3⟩:=ab hr3;obtain⟨j0,j1,j2,j3⟩:=aZ hr3
  go_wp2
  obtain⟨d0,d1,d2,d3⟩:=ab (aK (.slice none 0 0) (.slice none 0 0) (.int .i64 0) (.int .i64 0) hr3);refine bodyPost_ret (by simp [results,Tryd.results68,go_sem,d0,d1,d2,d3];try rfl) rfl ?_
  rw [hhH.out,←hatH.out,haOH.out,hbH.out];exact er B3 (by omega)
set_option maxHeartbeats 8000000 in
set_option maxRecDepth 1000000 in
theorem Ek (s:Sp) (hs:cm s) (hok:aE s=true) (id:Int) (u:ByteArray) (n:Int) (hx:gw (4,id,u,n)=true) (w:World) (B:Nat) (v Vb Vf:Value) (ys:List Value) (hS0:ShopAt w B v Vb Vf ys s) (hB:B≤w.heap.size) :
  Calls Tryd.prog 68 #[v,stV (4,id,u,n)] w (pN w B (ShS Vb Vf ys) (gC s.2.1 id&&jn s (atF s.2.1 id) (4,id,u,n)) (nI s (atF s.2.1 id) (4,id,u,n))):=by
 obtain⟨hfm,hgc,_,hlost⟩:=bu hok;obtain rfl:=hS0.val;obtain⟨bA,bn,bc,rfl⟩:=bQ hS0.box;obtain⟨fA,fc,rfl⟩:=cB hS0.fms.own;have hlt0:=hS0.lt
 go_enter Tryd.func68,Tryd.ntmps68
 go_upto_region 1 with fail
 have hW:Below w.heap.size w (((w.alloc (.cells #[.slice bA bn bc,.slice fA s.2.1.length fc,.int .i64 s.2.2.1,.int .i64 s.2.2.2] 26)).alloc (.cells #[.int .i64 4,.int .i64 id,.string u,.int .i64 n] 91)).alloc (.cells #[.slice none 0 0,.slice none 0 0,.int .i64 0,.int .i64 0] 26)):=((KE _ w).alloc (Kb _) _).alloc (by simp) _ |>.alloc (by simp;omega) _;have hWs:w.heap.size+3≤(((w.alloc (.cells #[.slice bA bn bc,.slice fA s.2.1.length fc,.int .i64 s.2.2.1,.int .i64 s.2.2.2] 26)).alloc (.cells #[.int .i64 4,.int .i64 id,.string u,.int .i64 n] 91)).alloc (.cells #[.slice none 0 0,.slice none 0 0,.int .i64 0,.int .i64 0] 26)).heap.size:=by simp
 have hp:(((w.alloc (.cells #[.slice bA bn bc,.slice fA s.2.1.length fc,.int .i64 s.2.2.1,.int .i64 s.2.2.2] 26)).alloc (.cells #[.int .i64 4,.int .i64 id,.string u,.int .i64 n] 91)).alloc (.cells #[.slice none 0 0,.slice none 0 0,.int .i64 0,.int .i64 0] 26)).heap[w.heap.size]?=some (.cells #[.slice bA bn bc,.slice fA s.2.1.length fc,.int .i64 s.2.2.1,.int .i64 s.2.2.2] 26 (0,0)):=aj _ (aj _ (al _ rfl));have hq:(((w.alloc (.cells #[.slice bA bn bc,.slice fA s.2.1.length fc,.int .i64 s.2.2.1,.int .i64 s.2.2.2] 26)).alloc (.cells #[.int .i64 4,.int .i64 id,.string u,.int .i64 n] 91)).alloc (.cells #[.slice none 0 0,.slice none 0 0,.int .i64 0,.int .i64 0] 26)).heap[w.heap.size+1]?=some (.cells #[.int .i64 4,.int .i64 id,.string u,.int .i64 n] 91 (0,0)):=aj _ (al _ (by simp));have hr:(((w.alloc (.cells #[.slice bA bn bc,.slice fA s.2.1.length fc,.int .i64 s.2.2.1,.int .i64 s.2.2.2] 26)).alloc (.cells #[.int .i64 4,.int .i64 id,.string u,.int .i64 n] 91)).alloc (.cells #[.slice none 0 0,.slice none 0 0,.int .i64 0,.int .i64 0] 26)).heap[w.heap.size+1+1]?=some (.cells #[.slice none 0 0,.slice none 0 0,.int .i64 0,.int .i64 0] 26 (0,0)):=al _ (by simp);have hS:=hS0.below hW;generalize (((w.alloc (.cells #[.slice bA bn bc,.slice fA s.2.1.length fc,.int .i64 s.2.2.1,.int .i64 s.2.2.2] 26)).alloc (.cells #[.int .i64 4,.int .i64 id,.string u,.int .i64 n] 91)).alloc (.cells #[.slice none 0 0,.slice none 0 0,.int .i64 0,.int .i64 0] 26))=W at *;have hc:=jg s id hs hok hS.rep (fun b hb=>(hS.lt b hb).2);obtain⟨e0,e1,e2,e3⟩:=ab hp;obtain⟨f0,f1,f2,f3⟩:=ab hq;cases hh:gC s.2.1 id
 ·rw [hh] at hc
  simp only [KN,if_false] at hc;have hhH:Hid (gC s.2.1 id=false):=hh
  go_upto_region 4 with (go_at_call 38;refine hc.mono ?_;rintro e w2 ⟨rfl,b2⟩)
  have B2:KeptX (ShS (.slice bA bn bc) (.slice fA s.2.1.length fc) ys) w w2:=(KeptX.ofBelow hW).step b2;have hr2:=Below.some b2 hr;clear hc hS hS0 hfm hgc hlt0 hs hok hx hlost hh;refine wp_region_still_lit (by kernel_rfl) (by kernel_rfl) (WS.out ?_)
  refine WS.step (fun K hK=>WG.mk ?_)
  go_simp
  refine hK.out _ ?_
  clear hK K;refine WS.step (fun K hK=>WG.mk ?_)
  go_simp
  refine hK.out _ ?_
  clear hK K;refine WS.step (fun K hK=>WG.mk ?_)
  go_simp
  refine hK.out _ ?_
  clear hK K;refine WS.step (fun K hK=>WG.mk ?_)
  go_simp
  refine hK.out _ ?_
  clear hK K;refine WS.step (fun K hK=>WG.mk ?_)
  go_simp
  refine hK.out _ ?_
  clear hK K;refine WS.step (fun K hK=>WG.mk ?_)
  go_simp
  refine hK.out _ ?_
  clear hK K;refine WS.step (fun K hK=>WG.mk ?_)
  go_simp
  refine hK.out _ ?_
  clear hK K;refine WS.step (fun K hK=>WG.mk ?_)
  go_simp
  refine hK.out _ ?_
  clear hK K;refine WS.step (fun K hK=>WG.mk ?_)
  go_simp
  refine hK.out _ ?_
  clear hK K;refine WS.step (fun K hK=>WG.mk ?_)
  go_simp
  refine hK.out _ ?_
  clear hK K;refine WS.step (fun K hK=>WG.mk ?_)
  go_simp
  refine hK.out _ ?_
  clear hK K;refine WS.step (fun K hK=>WG.mk ?_)
  go_simp
  refine hK.out _ ?_
  clear hK K;refine WS.step (fun K hK=>WG.mk ?_)
  go_simp
  refine hK.out _ ?_
  clear hK K;refine WS.step (fun K hK=>WG.mk ?_)
  go_simp
  refine hK.out _ ?_
  clear hK K;refine WS.step (fun K hK=>WG.mk ?_)
  go_simp
  refine hK.out _ ?_
  clear hK K;refine WS.step (fun K hK=>WG.mk ?_)
  go_simp
  refine hK.out _ ?_
  clear hK K;refine WS.step (fun K hK=>WG.mk ?_)
  go_simp
  refine hK.out _ ?_
  clear hK K;refine WS.step (fun K hK=>WG.mk ?_)
  go_simp
  refine hK.out _ ?_
  clear hK K;refine WS.step (fun K hK=>WG.mk ?_)
  go_simp
  refine hK.out _ ?_
  clear hK K;refine WS.nil ?_
  change Exit.then _ _ _ _ w2.drew
  have B3:KeptX (ShS (.slice bA bn bc) (.slice fA s.2.1.length fc) ys) w w2.drew:=B2.step (ac w2);have hr3:=Below.some (ac w2) hr2;generalize w2.drew=w3 at *;obtain⟨g0,g1,g2,g3⟩:=ab hr3;obtain⟨j0,j1,j2,j3⟩:=aZ hr3
  go_wp2
  obtain⟨d0,d1,d2,d3⟩:=ab (aK (.slice none 0 0) (.slice none 0 0) (.int .i64 0) (.int .i64 0) hr3);refine bodyPost_ret (by simp [results,Tryd.results68,go_sem,d0,d1,d2,d3];try rfl) rfl ?_
  rw [hhH.out,Ll];exact er B3 (by omega)
 rw [hh] at hc;simp only [if_true] at hc;have hhH:Hid (gC s.2.1 id=true):=hh;obtain⟨hi,-⟩:=lX hh;obtain⟨i,hati⟩:∃i,i=atF s.2.1 id:=⟨_,rfl⟩
 rw [←hati] at hc hi;have hatH:Hid (i=atF s.2.1 id):=hati;clear hati;have haS:nI s i (4,id,u,n)=(s.1,s.2.1.set i (s.2.1[i].1,s.2.1[i].2.1,false,s.2.1[i].2.2.2),s.2.2.1,s.2.2.2):=by
  unfold nI;rw [JI hi];simp
 have haO:jn s i (4,id,u,n)=s.2.1[i].2.2.1:=by
  unfold jn;rw [JI hi];simp
 have haSH:Hid _:=haS;have haOH:Hid _:=haO;have hfi:=hfm i hi
 go_upto_region 4 with (go_at_call 38;refine hc.mono ?_;rintro e w2 ⟨rfl,b2⟩)
 have B2:KeptX (ShS (.slice bA bn bc) (.slice fA s.2.1.length fc) ys) w w2:=(KeptX.ofBelow hW).step b2;have hp2:=Below.some b2 hp;have hq2:=Below.some b2 hq;have hr2:=Below.some b2 hr;have hS2:=hS.below b2;have hs2:=b2.size;clear hc hS hS0 haS haO hW b2 hp hq hr e0 e1 e2 e3 f0 f1 f2 f3 hh;obtain⟨g,rfl⟩:=gT hS2.fms.own (by omega);have hgl:=hlt0 g (.inr (.inl rfl));have hgx:s.2.1[i]?=some s.2.1[i]:=JI hi;have hpi:(i:Int)<(s.2.1.length:Int):=by omega
 have hset:=ed hfi;have hprt:=bM hfi;obtain⟨f,hf⟩:∃f,f=s.2.1[i]:=⟨_,rfl⟩
 rw [←hf] at hfi hgx hset hprt haOH haSH;obtain⟨y,hy⟩:∃y,ys[i]?=some y:=⟨ys[i]'(by rw [hS2.fms.len];exact hi),JI _⟩
 have k2:=aW hS2.fms.own (j:=i*4+2) (u:=.bool f.2.2.1) (by rw [be _ _ i f _ hgx hy 2 (by omega)];rfl);obtain⟨e0,e1,e2,e3⟩:=ab hp2;obtain⟨f0,f1,f2,f3⟩:=ab hq2;have hnn:¬((i:Int)<0):=by omega
 cases hb:f.2.2.1
 ·rw [hb] at k2
  have hbH:Hid _:=hb;clear hb;refine wp_region_still_lit (by kernel_rfl) (by kernel_rfl) (WS.out ?_)
  refine WS.step (fun K hK=>WG.mk ?_)
  go_simp
  refine hK.out _ ?_
  clear hK K;refine WS.step (fun K hK=>WG.mk ?_)
  go_simp
  refine hK.out _ ?_
  clear hK K;refine WS.step (fun K hK=>WG.mk ?_)
  go_simp
  refine hK.out _ ?_
  clear hK K;refine WS.step (fun K hK=>WG.mk ?_)
  go_simp
  refine hK.out _ ?_
  clear hK K;refine WS.step (fun K hK=>WG.mk ?_)
  go_simp
  refine hK.out _ ?_
  clear hK K;refine WS.step (fun K hK=>WG.mk ?_)
  go_simp
  refine hK.out _ ?_
  clear hK K;refine WS.step (fun K hK=>WG.mk ?_)
  go_simp
  refine hK.out _ ?_
  clear hK K;refine WS.step (fun K hK=>WG.mk ?_)
  go_simp
  refine hK.out _ ?_
  clear hK K;refine WS.step (fun K hK=>WG.mk ?_)
  go_simp
  refine hK.out _ ?_
  clear hK K;refine WS.step (fun K hK=>WG.mk ?_)
  go_simp
  refine hK.out _ ?_
  clear hK K;refine WS.step (fun K hK=>WG.mk ?_)
  go_simp
  refine hK.out _ ?_
  clear hK K;refine WS.step (fun K hK=>WG.mk ?_)
  go_simp
  refine hK.out _ ?_
  clear hK K;refine WS.step (fun K hK=>WG.mk ?_)
  go_simp
  refine hK.out _ ?_
  clear hK K;refine WS.step (fun K hK=>WG.mk ?_)
  go_simp
  refine hK.out _ ?_
  clear hK K;refine WS.step (fun K hK=>WG.mk ?_)
  go_simp
  refine hK.out _ ?_
  clear hK K;refine WS.step (fun K hK=>WG.mk ?_)
  go_simp
  refine hK.out _ ?_
  clear hK K;refine WS.step (fun K hK=>WG.mk ?_)
  go_simp
  refine hK.out _ ?_
  clear hK K;refine WS.step (fun K hK=>WG.mk ?_)
  go_simp
  refine hK.out _ ?_
  clear hK K;refine WS.step (fun K hK=>WG.mk ?_)
  go_simp
  refine hK.out _ ?_
  clear hK K;refine WS.nil ?_
  change Exit.then _ _ _ _ w2.drew
  have B3:KeptX (ShS (.slice bA bn bc) (.slice (some ⟨g,0,none⟩) s.2.1.length fc) ys) w w2.drew:=B2.step (ac w2);have hr3:=Below.some (ac w2) hr2;generalize w2.drew=w3 at *;obtain⟨g0,g1,g2,g3⟩:=ab hr3;obtain⟨j0,j1,j2,j3⟩:=aZ hr3
  go_wp2
  obtain⟨d0,d1,d2,d3⟩:=ab (aK (.slice none 0 0) (.slice none 0 0) (.int .i64 0) (.int .i64 0) hr3);refine bodyPost_ret (by simp [results,Tryd.results68,go_sem,d0,d1,d2,d3];try rfl) rfl ?_
  rw [hhH.out,←hatH.out,haOH.out,hbH.out];exact er B3 (by omega)
 ·rw [hb] at k2
  have hbH:Hid _:=hb;clear hb;refine wp_region_still_lit (by kernel_rfl) (by kernel_rfl) (WS.out ?_)
  refine WS.step (fun K hK=>WG.mk ?_)
  go_simp
  refine hK.out _ ?_
  clear hK K;refine WS.step (fun K hK=>WG.mk ?_)
  go_simp
  refine hK.out _ ?_
  clear hK K;refine WS.step (fun K hK=>WG.mk ?_)
  go_simp
  refine hK.out _ ?_
  clear hK K;refine WS.step (fun K hK=>WG.mk ?_)
  go_simp
  refine hK.out _ ?_
  clear hK K;refine WS.step (fun K hK=>WG.mk ?_)
  go_simp
  refine hK.out _ ?_
  clear hK K;refine WS.step (fun K hK=>WG.mk ?_)
  go_simp
  refine hK.out _ ?_
  clear hK K;refine WS.step (fun K hK=>WG.mk ?_)
  go_simp
  refine hK.out _ ?_
  clear hK K;refine WS.step (fun K hK=>WG.mk ?_)
  go_simp
  refine hK.out _ ?_
  clear hK K;refine WS.step (fun K hK=>WG.mk ?_)
  go_simp
  refine hK.out _ ?_
  clear hK K;refine WS.step (fun K hK=>WG.mk ?_)
  go_simp
  refine hK.out _ ?_
  clear hK K;refine WS.step (fun K hK=>WG.mk ?_)
  go_simp
  refine hK.out _ ?_
  clear hK K;refine WS.step (fun K hK=>WG.mk ?_)
  go_simp
  refine hK.out _ ?_
  clear hK K;refine WS.step (fun K hK=>WG.mk ?_)
  go_simp
  refine hK.out _ ?_
  clear hK K;refine WS.step (fun K hK=>WG.mk ?_)
  go_simp
  refine hK.out _ ?_
  clear hK K;refine WS.step (fun K hK=>WG.mk ?_)
  go_simp
  refine hK.out _ ?_
  clear hK K;refine WS.step (fun K hK=>WG.mk ?_)
  go_simp
  refine hK.out _ ?_
  clear hK K;refine WS.step (fun K hK=>WG.mk ?_)
  go_simp
  refine hK.out _ ?_
  clear hK K;refine WS.step (fun K hK=>WG.mk ?_)
  go_simp
  refine hK.out _ ?_
  clear hK K;refine WS.step (fun K hK=>WG.mk ?_)
  go_simp
  refine hK.out _ ?_
  clear hK K;refine WS.nil ?_
  change Exit.then _ _ _ _ w2.drew
  have B3:KeptX (ShS (.slice bA bn bc) (.slice (some ⟨g,0,none⟩) s.2.1.length fc) ys) w w2.drew:=B2.step (ac w2);have hp3:=Below.some (ac w2) hp2;have hq3:=Below.some (ac w2) hq2;have hr3:=Below.some (ac w2) hr2;have hS3:=hS2.below (ac w2);have hs3:w.heap.size+3≤w2.drew.heap.size:=KF hWs hs2;clear k2 e0 e1 e2 e3 f0 f1 f2 f3 hp2 hq2 hr2 hS2 B2 hWs hs2;generalize w2.drew=w3 at *;clear w2 W;have hF:=hS3.fms;have hrow:=hF.row i _ y hgx hy;obtain⟨Ay,cy,rfl⟩:=gA hrow;rw [JX] at hy hrow;have k1:=aW hF.own (j:=i*4+1) (u:=.slice Ay f.2.1.length cy) (by rw [be _ _ i f _ hgx hy 1 (by omega)];rfl);have k2:=aW hF.own (j:=i*4+2) (u:=.bool f.2.2.1) (by rw [be _ _ i f _ hgx hy 2 (by omega)];rfl);rw [hbH.out] at k2;have k3:=aW hF.own (j:=i*4+3) (u:=.int .i64 f.2.2.2) (by rw [be _ _ i f _ hgx hy 3 (by omega)];rfl);have z1:=cG hF.own (i*4+1);have z2:=cG hF.own (i*4+2);have z3:=cG hF.own (i*4+3);have hgp:g≠w.heap.size:=by omega
  have hfe:s.2.1[i]=f:=hf.symm;clear hf;have hcel:=fun(k:Nat) (v:Value) (x':Fm) hk hx hc=>iC hF hi hy (x':=x') (k:=k) (v:=v) hk hx hc
  rw [hfe] at hcel;obtain⟨e0,e1,e2,e3⟩:=ab hp3;obtain⟨f0,f1,f2,f3⟩:=ab hq3;have hwy:∀b,aM (.slice Ay f.2.1.length cy) b→b≠g:=fun b hb e=>(hF.blk i _ b hy hb).2 (by rw [e];rfl)
  have hpz:(w3.setCell ⟨g,i*4+2,none⟩ (.bool false)).heap[w.heap.size]?=_:=(heap_setCell_other _ _ _ _ (by simp;omega)).trans hp3;have hrz:(w3.setCell ⟨g,i*4+2,none⟩ (.bool false)).heap[w.heap.size+1+1]?=_:=(heap_setCell_other _ _ _ _ (by simp;omega)).trans hr3;have hFz:=hcel 2 (.bool false) (f.1,f.2.1,false,f.2.2.2) (by omega) rfl rfl;obtain⟨hSz,hShz⟩:=re (x:=s.2.2.1) (y:=s.2.2.2) hS3 (fun b hb=>heap_setCell_other _ _ _ _ (by
   have:=hS3.dis b hb;simp;exact fun e=>this (.inl (by rw [e];rfl)))) hFz (fun b hb=>.inl hb)
  have Bz:KeptX (ShS (.slice bA bn bc) (.slice (some ⟨g,0,none⟩) s.2.1.length fc) ys) w (w3.setCell ⟨g,i*4+2,none⟩ (.bool false)):=B3.setO _ _ (.inl (.inr (.inl rfl)));have hszz:w3.heap.size≤(w3.setCell ⟨g,i*4+2,none⟩ (.bool false)).heap.size:=by simp [JZ]
  go_upto_region 25 with fail
  clear e0 e1 e2 e3 f0 f1 f2 f3 k1 k2 k3 z1 z2 z3;obtain⟨a0,a1,a2,a3⟩:=ab hpz;obtain⟨g0,g1,g2,g3⟩:=ab hrz;obtain⟨j0,j1,j2,j3⟩:=aZ hrz
  go_wp2
  obtain⟨d0,d1,d2,d3⟩:=ab (aK (.slice bA bn bc) (.slice (some ⟨g,0,none⟩) s.2.1.length fc) (.int .i64 s.2.2.1) (.int .i64 s.2.2.2) hrz);refine bodyPost_ret (by simp [results,Tryd.results68,go_sem,d0,d1,d2,d3];try rfl) rfl ?_
  rw [hhH.out,←hatH.out,haOH.out,hbH.out,haSH.out];exact kZ hSz Bz (by omega) (fun b hb=>by
   rcases hShz b hb with h | h
   ·have:=hlt0 b h
    omega
   ·omega) (fun b hb=>(hShz b hb).imp (fun h=>h) fun h=>by omega)
end Go.Proofs.YtkcojipciiakdaaDoor

end
