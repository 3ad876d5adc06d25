/-
  A part of the proof: contracts and plain forms of functions beneath the statement, made small by a program (names shortened, what is not needed left out).
-/
import Derived.Test.YtccaheogjpfhjaaGreatRows
import Derived.Test.YtccaheogjpfhjaaGreatM5
import Derived.Deep.RegionHeld3
import Derived.BigQuiet
open List renaming setIfInBounds_toArray → ZE, set_cons_zero → ZF, set_cons_succ → ZG, getElem?_eq_getElem → ZK, getElem_mem → ZT
open Go.Act renaming put → ZH
open Go.AllReadyH renaming cons → ZI, nil → ZJ
open Array renaming replicate → ZL
open Int renaming toNat_of_nonneg → ZM, toNat_natCast → ZS
open Go.Region renaming wanted → ZN, ready → ZV
open Nat renaming lt_trans → ZO, lt_of_lt_of_le → ZP
open Bool renaming and_eq_true → ZQ
open Classical renaming propDecidable → ZR
open Option renaming bind_some → ZU
open Go.IntKind renaming i64 → ZW
set_option maxRecDepth 100000
set_option linter.unusedSimpArgs false
set_option linter.unusedVariables false
noncomputable section
namespace Go.Proofs.YtccaheogjpfhjaaGreat
open Go Go.Proofs Go.V Go.RowKit Go.Lib
set_option maxRecDepth 100000
abbrev Pl:=Int × Int × Int × Bool
abbrev Ps:=List (Int × Int)
def bD (n:Int):Bool:=decide (1≤n∧n≤8)
def ij (l:Ps):Bool:=l.all (fun p=>bD p.1&&bD p.2)&&decide (l.length≤8)
def szI (l:Ps) (p:Pl):Int × Int:=if p.2.2.2=true then((l.getD p.1.toNat (0,0)).2,(l.getD p.1.toNat (0,0)).1) else l.getD p.1.toNat (0,0)
def szN (l:Ps) (p:Pl):Nat × Nat:=((szI l p).1.toNat,(szI l p).2.toNat)
abbrev Gr:=Nat→Nat→Int
def WS (f:Gr) (X Y:Int) (a b:Nat):Prop:=∀y x:Nat,Y≤y→(y:Int)<Y+b→X≤x→(x:Int)<X+a→f y x = -1
def nv (wd ht:Nat) (f:Gr) (l:Ps) (p:Pl):Prop:=0≤p.2.1∧0≤p.2.2.1∧p.2.1+(szN l p).1≤wd∧p.2.2.1+(szN l p).2≤ht∧WS f p.2.1 p.2.2.1 (szN l p).1 (szN l p).2
open Classical in
def jo (wd ht:Nat) (f:Gr) (l:Ps) (p:Pl):Bool:=decide (nv wd ht f l p)
def Jy (l:Ps) (q:Option Int) (p:Pl):Bool:=decide (0≤p.1∧p.1≤(l.length:Int) - 1)&&match q with | none=>true | some q=>decide (q<p.1)
def qf (f:Gr) (l:Ps) (p:Pl):Gr:=mkA f p.2.1.toNat p.2.2.1.toNat (szN l p).1 (szN l p).2 p.1
def chG (l:Ps) (wd ht:Nat):Option Int→Gr→List Pl→Option Gr
 | _,f,[]=>some f
 | q,f,p::ps=>if (Jy l q p&&jo wd ht f l p)=true then chG l wd ht (some p.1) (qf f l p) ps else none
def js (w h:Int) (l:Ps) (ps:List Pl):Option Gr:=if (bD w&&bD h&&ij l)=true then chG l w.toNat h.toNat none (fun _ _=>-1) ps else none
def xO (ps:List Pl):Nat→Option Int
 | 0=>none
 | i+1=>ps[i]?.map (·.1)
theorem NE {l:Ps} (hl:ij l=true) {p:Pl} (h0:0≤p.1) (h1:p.1≤(l.length:Int) - 1):((szN l p).1:Int)=(szI l p).1∧((szN l p).2:Int)=(szI l p).2∧1≤(szN l p).1∧(szN l p).1≤8∧1≤(szN l p).2∧(szN l p).2≤8:=by
 have hi:p.1.toNat<l.length:=by omega
 unfold ij at hl;simp only [ZQ,List.all_eq_true] at hl;have h2:=hl.1 l[p.1.toNat] (ZT hi);simp only [bD,ZQ,decide_eq_true_eq] at h2;have e:l.getD p.1.toNat (0,0)=l[p.1.toNat]:=by rw [List.getD_eq_getElem?_getD,ZK hi];rfl
 unfold szN szI;rw [e];split<;>simp only<;>omega
theorem Grd.base {W:World} {B B' g cap wd ht:Nat} {bs cs:Nat→Nat} {f:Gr} (h:Grd W B g cap bs cs wd ht f) (hB:B'≤B):Grd W B' g cap bs cs wd ht f :=
 ⟨Nat.le_trans hB h.hB,h.out,h.hcap,fun y hy=>⟨Nat.le_trans hB (h.row y hy).1,(h.row y hy).2⟩,h.inj⟩
theorem bM (w:World):Below w.heap.size w w.drew:=⟨rfl,rfl,rfl,Nat.le_refl _,fun k hk=>rfl⟩
abbrev FN (p:Pl):Value:=plV p.1 p.2.1 p.2.2.1 p.2.2.2
def Yp (b:Bool):Value→Bool
 | .bool c=>c==b
 | _=>false
theorem RS {ops:Array Oper} {o:Oper} {tmps:Array Value} {j d:Nat} {want:Bool} {x:Value} (hg:o.guard=some (j,want)) (hd:(ops[j]?).bind (·.dst)=some d) (ht:tmps[d]?=some x)
  (hx:Yp want x=false):ZN o (yielded ops tmps)=false:=by
 simp only [ZN,hg,yielded,hd,ZU,ht];cases x<;>simp_all [Yp]
theorem aB {ops:Array Oper} {o:Oper} {tmps:Array Value} {j d:Nat} {want:Bool} (hg:o.guard=some (j,want)) (hd:(ops[j]?).bind (·.dst)=some d) (ht:tmps[d]?=some (.bool want)):ZN o (yielded ops tmps)=true:=by
 simp [ZN,hg,yielded,hd,ZU,ht]
theorem aO {P:Program} {ops:Array Oper} {Q:Exit→Act→World→Prop} {md:Region.Mode} {S:World→Prop} {i d j e:Nat} {want:Bool} {x:Value} {oi:Oper} {fuel:Nat} {listed:Array Bool} {a:Act} {w:World} (hi:ops[i]?=some oi) (hdst:oi.dst=some d)
  (hs:Region.noSelect ops=true) (hf:Region.free md ops listed i=true) (hr:(ZV md ops listed).contains i=true) (hQ:∀c a w,Q (.panic c) (a.put (some d) undef) w→Q (.panic c) a w)
  (hg:oi.guard=some (j,want)) (hd:(ops[j]?).bind (·.dst)=some e) (ht:a.tmps[e]?=some x) (hx:Yp want x=false) (hS:S w)
  (h:wpAnyH P md ops Q S fuel (listed.setIfInBounds i true) (a.put (some d) undef) w):wpAnyH P md ops Q S (fuel+1) listed a w :=
 wpAnyH_take hi hs hf hr (by rw [hdst];exact hQ) (Or.inr ⟨RS hg hd ht hx,rfl⟩) hS (by rw [hdst];exact h)
theorem ac {P:Program} {ops:Array Oper} {Q:Exit→Act→World→Prop} {md:Region.Mode} {S:World→Prop} {i d:Nat} {v:Value} {oi:Oper} {fuel:Nat} {listed:Array Bool} {a:Act} {w:World} (hi:ops[i]?=some oi) (hdst:oi.dst=some d)
  (hs:Region.noSelect ops=true) (hf:Region.free md ops listed i=true) (hr:(ZV md ops listed).contains i=true) (hQ:∀c a w,Q (.panic c) (a.put (some d) v) w→Q (.panic c) a w)
  (hw:ZN oi (yielded ops a.tmps)=true) (hy:∀w,S w→(execOp a.eval oi).run P w = .ok (.value v) w) (hS:S w)
  (h:wpAnyH P md ops Q S fuel (listed.setIfInBounds i true) (a.put (some d) v) w):wpAnyH P md ops Q S (fuel+1) listed a w :=
 wpAnyH_take hi hs hf hr (by rw [hdst];exact hQ) (Or.inl ⟨hw,hy⟩) hS (by rw [hdst];exact h)
def Yu (w:World) (r:Option Gr) (wd ht:Nat) (e:Ending) (w':World):Prop :=
 Below w.heap.size w w'∧((r=none∧e = .returned (.tuple #[.slice none 0 0,.bool false]))∨∃f g cap bs cs,r=some f∧e = .returned (.tuple #[.slice (some ⟨g,0,none⟩) ht cap,.bool true])∧Grd w' w.heap.size g cap bs cs wd ht f)
set_option maxHeartbeats 8000000 in
set_option maxRecDepth 1000000 in
theorem OY (w:World) (wi hi:Int) (l:Ps) (ps:List Pl) (pA:Option Addr) (pc:Nat) (A:Option Addr) (c:Nat) (hlen:ps.length≤1048576)
  (hA:∀i,i<ps.length→∃b o,A=some ⟨b,o,none⟩∧b<w.heap.size∧∀i (p:Pl),ps[i]?=some p→w.cell? ⟨b,o+i*4,none⟩=some (.int .i64 p.1)∧w.cell? ⟨b,o+i*4+1,none⟩=some (.int .i64 p.2.1)∧w.cell? ⟨b,o+i*4+2,none⟩=some (.int .i64 p.2.2.1)∧w.cell? ⟨b,o+i*4+3,none⟩=some (.bool p.2.2.2))
  (hcs:∀W n,Below w.heap.size w W→Calls Tryz.prog 68 #[.int .i64 n] W fun e W'=>e = .returned (.bool (bD n))∧Below W.heap.size W W')
  (hap:∀W,Below w.heap.size w W→Calls Tryz.prog 69 #[.slice pA l.length pc] W fun e W'=>e = .returned (.bool (ij l))∧Below W.heap.size W W')
  (hwi:∀W (x lo hi:Int),Below w.heap.size w W→Calls Tryz.prog 76 #[.int .i64 x,.int .i64 lo,.int .i64 hi] W fun e W'=>e = .returned (.bool (decide (lo≤x∧x≤hi)))∧Below W.heap.size W W')
  (hsz:ij l=true→∀W p,p∈ps→0≤p.1→p.1≤(l.length:Int) - 1→Below w.heap.size w W→Calls Tryz.prog 116 #[.slice pA l.length pc,FN p] W fun e W'=>e = .returned (.tuple #[.int .i64 ((szN l p).1:Int),.int .i64 ((szN l p).2:Int)])∧Below W.heap.size W W')
  (hro:ij l=true→∀W p wd ht g cap bs cs f,p∈ps→0≤p.1→p.1≤(l.length:Int) - 1→1≤wd→1≤ht→wd≤8→ht≤8→Below w.heap.size w W→Grd W w.heap.size g cap bs cs wd ht f→Calls Tryz.prog 71 #[.slice (some ⟨g,0,none⟩) ht cap,.slice pA l.length pc,FN p] W fun e W'=>e = .returned (.bool (jo wd ht f l p))∧Below W.heap.size W W') :
  Calls Tryz.prog 33 #[.int .i64 wi,.int .i64 hi,.slice pA l.length pc,.slice A ps.length c] w fun e w'=>Yu w (js wi hi l ps) wi.toNat hi.toNat e w':=by
 go_enter Tryz.func33,Tryz.ntmps33
 have B0:Below w.heap.size w w:=Below.refl _ w;have hcw:=hcs w wi B0;cases h1:bD wi
 ·have hno:js wi hi l ps=none:=by unfold js;rw [h1];rfl
  rw [h1] at hcw
  go_wp2_with (go_at_call 68;refine hcw.mono ?_;rintro e w2 ⟨rfl,hB2⟩)
  go_ret2
  exact⟨hB2,.inl ⟨hno,rfl⟩⟩
 rw [h1] at hcw;cases h2:bD hi
 ·have hno:js wi hi l ps=none:=by unfold js;rw [h1,h2];rfl
  have hch:∀W,Below w.heap.size w W→_:=fun W hW=>hcs W hi hW
  rw [h2] at hch
  go_wp2_with (first
   | (go_at_call 68;refine(hch _ hB2).mono ?_;rintro e w3 ⟨rfl,hB3⟩)
   | (go_at_call 68;refine hcw.mono ?_;rintro e w2 ⟨rfl,hB2⟩))
  go_ret2
  exact⟨hB2.trans (hB3.mono hB2.size),.inl ⟨hno,rfl⟩⟩
 have hch:∀W,Below w.heap.size w W→_:=fun W hW=>hcs W hi hW
 rw [h2] at hch;cases h3:ij l
 ·have hno:js wi hi l ps=none:=by unfold js;rw [h1,h2,h3];rfl
  rw [h3] at hap
  go_wp2_with (first
   | (go_at_call 69;refine(hap _ (hB2.trans (hB3.mono hB2.size))).mono ?_;rintro e w4 ⟨rfl,hB4⟩)
   | (go_at_call 68;refine(hch _ hB2).mono ?_;rintro e w3 ⟨rfl,hB3⟩)
   | (go_at_call 68;refine hcw.mono ?_;rintro e w2 ⟨rfl,hB2⟩))
  go_ret2
  have hB5:=hB2.trans (hB3.mono hB2.size);exact⟨hB5.trans (hB4.mono hB5.size),.inl ⟨hno,rfl⟩⟩
 rw [h3] at hap;have hyes:js wi hi l ps=chG l wi.toNat hi.toNat none (fun _ _=>-1) ps:=by unfold js;rw [h1,h2,h3];rfl
 have hsz:=hsz h3;have hro:=hro h3;have hl8:l.length≤8:=by
  unfold ij at h3;simp only [ZQ,decide_eq_true_eq] at h3;exact h3.2
 obtain⟨wd,rfl⟩:∃n:Nat,wi=n:=⟨wi.toNat,by simp only [bD,decide_eq_true_eq] at h1;omega⟩
 obtain⟨ht,rfl⟩:∃n:Nat,hi=n:=⟨hi.toNat,by simp only [bD,decide_eq_true_eq] at h2;omega⟩
 have hw8:1≤wd∧wd≤8:=by simp only [bD,decide_eq_true_eq] at h1;omega
 have hh8:1≤ht∧ht≤8:=by simp only [bD,decide_eq_true_eq] at h2;omega
 rw [ZS,ZS] at hyes ⊢;rw [hyes];have hsk:∀p:Pl,0≤p.1→p.1≤(l.length:Int) - 1→_:=fun p=>NE (p:=p) h3
 clear hyes h1 h2 h3;have hem:=Hw wd ht hw8.2 hh8.2
 go_wp2_with (first
  | (go_at_call 69;refine(hap _ (hB2.trans (hB3.mono hB2.size))).mono ?_;rintro e w4 ⟨rfl,hB4⟩)
  | (go_at_call 68;refine(hch _ hB2).mono ?_;rintro e w3 ⟨rfl,hB3⟩)
  | (go_at_call 68;refine hcw.mono ?_;rintro e w2 ⟨rfl,hB2⟩)
  | (go_at_call 30;refine(hem _).mono ?_;rintro e w5 ⟨g,cap,bs,cs,rfl,hG,hB5⟩))
 have B4:Below w.heap.size w w4:=(hB2.trans (hB3.mono hB2.size)).trans (hB4.mono (hB2.trans (hB3.mono hB2.size)).size);have B5:Below w.heap.size w w5:=B4.trans (hB5.mono B4.size);replace hG:=hG.base B4.size;clear hB2 hB3 hB4 B4 hcw hch hap hem hcs
 go_loopw [31] (fun vi wr=>∃(i:Nat) (f:Gr),vi = .int .i64 i∧i≤ps.length∧chG l wd ht none (fun _ _=>-1) ps=chG l wd ht (xO ps i) f (ps.drop i)∧Grd wr w.heap.size g cap bs cs wd ht f∧Below w.heap.size w wr) (fun vi _=>ps.length - (intOf vi).toNat)
 case atStart=>exact⟨0,_,rfl,Nat.zero_le _,rfl,hG,B5⟩
 case round =>
  clear hG B5 hB5;obtain⟨i,f,rfl,hil,hch,hG,hB⟩:=hrel;by_cases hp:i<ps.length
  ·have hpi:(i:Int)<(ps.length:Int):=by omega
   obtain⟨b,o,rfl,hb,hcells⟩:=hA i hp;obtain⟨k1,k2,k3,k4⟩:=hcells i ps[i] (ZK hp);have hmem:ps[i]∈ps:=ZT hp;rw [List.drop_eq_getElem_cons hp] at hch;obtain⟨q1,q2,q3,q4⟩:wr.cell? ⟨b,o+i*4,none⟩=some (.int .i64 ps[i].1)∧wr.cell? ⟨b,o+i*4+1,none⟩=some (.int .i64 ps[i].2.1)∧wr.cell? ⟨b,o+i*4+2,none⟩=some (.int .i64 ps[i].2.2.1)∧wr.cell? ⟨b,o+i*4+3,none⟩=some (.bool ps[i].2.2.2) :=
    ⟨(hB.cell hb).trans k1,(hB.cell hb).trans k2,(hB.cell hb).trans k3,(hB.cell hb).trans k4⟩
   clear k1 k2 k3 k4;have hsz':=fun W=>hsz W _ hmem
   have hro':=fun W wd ht g cap bs cs f=>hro W _ wd ht g cap bs cs f hmem
   have hskp:=hsk ps[i];have hpv:∀j,i=j+1→wr.cell? ⟨b,o+j*4,none⟩=some (.int .i64 (ps[j]?.getD (0,0,0,false)).1)∧xO ps i=some (ps[j]?.getD (0,0,0,false)).1:=fun j hj=>by
    have hjl:j<ps.length:=by omega
    refine⟨(hB.cell hb).trans ?_,?_⟩
    ·rw [ZK hjl]
     exact(hcells j ps[j] (ZK hjl)).1
    ·rw [hj]
     simp [xO,hjl]
   have hnx:xO ps (i+1)=some ps[i].1:=by simp [xO,hp]
   generalize ps[i]=p at *;obtain⟨n,X,Y,t⟩:=p;simp only at q1 q2 q3 q4 hskp hnx;have hwi1:=fun W=>hwi W n 0 ((l.length:Int) - 1)
   clear hwi
   go_upto_region 7 with fail
   have hwl:ZW.wrap ((l.length:Int) - 1)=(l.length:Int) - 1:=ae (by omega) (by omega);have P1:(wr.alloc (plO n X Y t)).heap[wr.heap.size]?=some (plO n X Y t):=bF _ rfl;have L1:wr.heap.size<(wr.alloc (plO n X Y t)).heap.size:=aG P1;have B1:Below wr.heap.size wr (wr.alloc (plO n X Y t)):=(Below.refl _ wr).alloc (Nat.le_refl _) _;have BB1:Below w.heap.size w (wr.alloc (plO n X Y t)):=hB.trans (B1.mono hB.size);have hG1:Grd (wr.alloc (plO n X Y t)) w.heap.size g cap bs cs wd ht f:=hG.below B1;have hpv1:∀j,i=j+1→(wr.alloc (plO n X Y t)).cell? ⟨b,o+j*4,none⟩=some (.int .i64 (ps[j]?.getD (0,0,0,false)).1)∧xO ps i=some (ps[j]?.getD (0,0,0,false)).1:=fun j hj=>⟨kv (hpv j hj).1,(hpv j hj).2⟩
   have hbr:b<wr.heap.size:=ZP hb hB.size;clear hpv q1 q2 q3 q4 hcells hA;obtain⟨N,hN⟩:∃N,N=wr.heap.size:=⟨_,rfl⟩
   rw [←hN] at P1 L1 hbr ⊢;clear hN;generalize wr.alloc (plO n X Y t)=W1 at *;obtain⟨d0,d1,d2,d3⟩:=aN P1;have BD:Below w.heap.size w W1.drew:=BB1.trans ((bM W1).mono BB1.size);have hGD:Grd W1.drew w.heap.size g cap bs cs wd ht f:=hG1.below (bM W1);have PD:W1.drew.heap[N]?=some (plO n X Y t):=P1;have LD:N<W1.drew.heap.size:=L1;cases hv:decide (0≤n∧n≤(l.length:Int) - 1)
   ·have hno:chG l wd ht none (fun _ _=>-1) ps=none:=by
     rw [hch,chG,if_neg (by unfold Jy;rw [hv];simp)]
    have HNO:Hid _:=hno;rw [hv] at hwi1;clear hch hno;refine wp_region_held_drew (S:=fun X2=>X2.cell? ⟨N,0,none⟩=some (.int .i64 n)∧X2.cell? ⟨N,1,none⟩=some (.int .i64 X)∧X2.cell? ⟨N,2,none⟩=some (.int .i64 Y)∧X2.cell? ⟨N,3,none⟩=some (.bool t)) (by kernel_rfl) (show _ from⟨d0,d1,d2,d3⟩) (fun hHeld=>?_)
    change wpAnyH _ _ _ _ _ 29 (ZL 29 false) _ _
    refine ac (i:=0) (d:=36) (v:=?va1) rfl rfl (by kernel_rfl) (by kernel_rfl) (by kernel_rfl) (fun _ _ _ h=>h) (by rfl) ?ya1 hHeld ?ra1
    case ya1=>(intro w0 hSw;obtain⟨hSw0,hSw1,hSw2,hSw3⟩:=hSw;go_simp;try with_reducible rfl)
    (try simp only [ZH,ZE,ZF,ZG])
    refine ac (i:=1) (d:=37) (v:=?va2) rfl rfl (by kernel_rfl) (by kernel_rfl) (by kernel_rfl) (fun _ _ _ h=>h) (by rfl) ?ya2 hHeld ?ra2
    case ya2=>(intro w0 hSw;obtain⟨hSw0,hSw1,hSw2,hSw3⟩:=hSw;go_simp;try with_reducible rfl)
    (try simp only [ZH,ZE,ZF,ZG])
    refine ac (i:=2) (d:=38) (v:=?va3) rfl rfl (by kernel_rfl) (by kernel_rfl) (by kernel_rfl) (fun _ _ _ h=>h) (by rfl) ?ya3 hHeld ?ra3
    case ya3=>(intro w0 hSw;obtain⟨hSw0,hSw1,hSw2,hSw3⟩:=hSw;go_simp;try with_reducible rfl)
    (try simp only [ZH,ZE,ZF,ZG])
    refine ac (i:=3) (d:=39) (v:=?va4) rfl rfl (by kernel_rfl) (by kernel_rfl) (by kernel_rfl) (fun _ _ _ h=>h) (by rfl) ?ya4 hHeld ?ra4
    case ya4=>(intro w0 hSw;obtain⟨hSw0,hSw1,hSw2,hSw3⟩:=hSw;go_simp;try with_reducible rfl)
    (try simp only [ZH,ZE,ZF,ZG])
    refine ac (i:=4) (d:=40) (v:=?va5) rfl rfl (by kernel_rfl) (by kernel_rfl) (by kernel_rfl) (fun _ _ _ h=>h) (by rfl) ?ya5 hHeld ?ra5
    case ya5=>(intro w0 hSw;obtain⟨hSw0,hSw1,hSw2,hSw3⟩:=hSw;go_simp;try with_reducible rfl)
    (try simp only [ZH,ZE,ZF,ZG])
    refine wpAnyH_ready (rs:=[5]) (by kernel_rfl) (by simp) ?_
    refine ZI (o:=_) rfl (fun K hK=>?_) ZJ
    go_simp
    refine(hwi1 _ BD).mono ?_
    rintro e w2 ⟨rfl,hB2⟩;have P2:=aJ hB2 PD LD;have d0:=(aN P2).1;have d1:=(aN P2).2.1;have d2:=(aN P2).2.2.1;have d3:=(aN P2).2.2.2;refine hK.out _ _ (show _ from⟨d0,d1,d2,d3⟩) (fun hHeld=>?_)
    clear hK K
    (try simp only [ZH,ZE,ZF,ZG])
    refine ac (i:=6) (d:=42) (v:=?va6) rfl rfl (by kernel_rfl) (by kernel_rfl) (by kernel_rfl) (fun _ _ _ h=>h) (by rfl) ?ya6 hHeld ?ra6
    case ya6=>(intro w0 hSw;obtain⟨hSw0,hSw1,hSw2,hSw3⟩:=hSw;go_simp;try with_reducible rfl)
    (try simp only [ZH,ZE,ZF,ZG])
    refine ac (i:=7) (d:=43) (v:=?va7) rfl rfl (by kernel_rfl) (by kernel_rfl) (by kernel_rfl) (fun _ _ _ h=>h) (by rfl) ?ya7 hHeld ?ra7
    case ya7=>(intro w0 hSw;obtain⟨hSw0,hSw1,hSw2,hSw3⟩:=hSw;go_simp;try with_reducible rfl)
    (try simp only [ZH,ZE,ZF,ZG])
    refine aO (i:=8) (d:=44) (j:=7) (e:=43) (want:=false) rfl rfl (by kernel_rfl) (by kernel_rfl) (by kernel_rfl) (fun _ _ _ h=>h) rfl rfl rfl rfl hHeld ?ra8
    (try simp only [ZH,ZE,ZF,ZG])
    refine aO (i:=9) (d:=45) (j:=7) (e:=43) (want:=false) rfl rfl (by kernel_rfl) (by kernel_rfl) (by kernel_rfl) (fun _ _ _ h=>h) rfl rfl rfl rfl hHeld ?ra9
    (try simp only [ZH,ZE,ZF,ZG])
    refine aO (i:=10) (d:=46) (j:=7) (e:=43) (want:=false) rfl rfl (by kernel_rfl) (by kernel_rfl) (by kernel_rfl) (fun _ _ _ h=>h) rfl rfl rfl rfl hHeld ?ra10
    (try simp only [ZH,ZE,ZF,ZG])
    refine aO (i:=11) (d:=47) (j:=10) (e:=46) (want:=true) rfl rfl (by kernel_rfl) (by kernel_rfl) (by kernel_rfl) (fun _ _ _ h=>h) rfl rfl rfl rfl hHeld ?ra11
    (try simp only [ZH,ZE,ZF,ZG])
    refine aO (i:=12) (d:=48) (j:=10) (e:=46) (want:=true) rfl rfl (by kernel_rfl) (by kernel_rfl) (by kernel_rfl) (fun _ _ _ h=>h) rfl rfl rfl rfl hHeld ?ra12
    (try simp only [ZH,ZE,ZF,ZG])
    refine aO (i:=13) (d:=49) (j:=10) (e:=46) (want:=true) rfl rfl (by kernel_rfl) (by kernel_rfl) (by kernel_rfl) (fun _ _ _ h=>h) rfl rfl rfl rfl hHeld ?ra13
    (try simp only [ZH,ZE,ZF,ZG])
    refine aO (i:=14) (d:=50) (j:=10) (e:=46) (want:=true) rfl rfl (by kernel_rfl) (by kernel_rfl) (by kernel_rfl) (fun _ _ _ h=>h) rfl rfl rfl rfl hHeld ?ra14
    (try simp only [ZH,ZE,ZF,ZG])
    refine aO (i:=15) (d:=51) (j:=10) (e:=46) (want:=true) rfl rfl (by kernel_rfl) (by kernel_rfl) (by kernel_rfl) (fun _ _ _ h=>h) rfl rfl rfl rfl hHeld ?ra15
    (try simp only [ZH,ZE,ZF,ZG])
    refine aO (i:=16) (d:=52) (j:=10) (e:=46) (want:=true) rfl rfl (by kernel_rfl) (by kernel_rfl) (by kernel_rfl) (fun _ _ _ h=>h) rfl rfl rfl rfl hHeld ?ra16
    (try simp only [ZH,ZE,ZF,ZG])
    refine aO (i:=17) (d:=53) (j:=10) (e:=46) (want:=true) rfl rfl (by kernel_rfl) (by kernel_rfl) (by kernel_rfl) (fun _ _ _ h=>h) rfl rfl rfl rfl hHeld ?ra17
    (try simp only [ZH,ZE,ZF,ZG])
    refine aO (i:=18) (d:=54) (j:=10) (e:=46) (want:=true) rfl rfl (by kernel_rfl) (by kernel_rfl) (by kernel_rfl) (fun _ _ _ h=>h) rfl rfl rfl rfl hHeld ?ra18
    (try simp only [ZH,ZE,ZF,ZG])
    refine aO (i:=19) (d:=55) (j:=10) (e:=46) (want:=true) rfl rfl (by kernel_rfl) (by kernel_rfl) (by kernel_rfl) (fun _ _ _ h=>h) rfl rfl rfl rfl hHeld ?ra19
    (try simp only [ZH,ZE,ZF,ZG])
    refine aO (i:=20) (d:=56) (j:=7) (e:=43) (want:=false) rfl rfl (by kernel_rfl) (by kernel_rfl) (by kernel_rfl) (fun _ _ _ h=>h) rfl rfl rfl rfl hHeld ?ra20
    (try simp only [ZH,ZE,ZF,ZG])
    refine ac (i:=21) (d:=57) (v:=?va21) rfl rfl (by kernel_rfl) (by kernel_rfl) (by kernel_rfl) (fun _ _ _ h=>h) (by rfl) ?ya21 hHeld ?ra21
    case ya21=>(intro w0 hSw;obtain⟨hSw0,hSw1,hSw2,hSw3⟩:=hSw;go_simp;try with_reducible rfl)
    (try simp only [ZH,ZE,ZF,ZG])
    refine ac (i:=22) (d:=58) (v:=?va22) rfl rfl (by kernel_rfl) (by kernel_rfl) (by kernel_rfl) (fun _ _ _ h=>h) (by rfl) ?ya22 hHeld ?ra22
    case ya22=>(intro w0 hSw;obtain⟨hSw0,hSw1,hSw2,hSw3⟩:=hSw;go_simp;try with_reducible rfl)
    (try simp only [ZH,ZE,ZF,ZG])
    refine aO (i:=23) (d:=59) (j:=22) (e:=58) (want:=false) rfl rfl (by kernel_rfl) (by kernel_rfl) (by kernel_rfl) (fun _ _ _ h=>h) rfl rfl rfl rfl hHeld ?ra23
    (try simp only [ZH,ZE,ZF,ZG])
    refine aO (i:=24) (d:=60) (j:=22) (e:=58) (want:=false) rfl rfl (by kernel_rfl) (by kernel_rfl) (by kernel_rfl) (fun _ _ _ h=>h) rfl rfl rfl rfl hHeld ?ra24
    (try simp only [ZH,ZE,ZF,ZG])
    refine aO (i:=25) (d:=61) (j:=22) (e:=58) (want:=false) rfl rfl (by kernel_rfl) (by kernel_rfl) (by kernel_rfl) (fun _ _ _ h=>h) rfl rfl rfl rfl hHeld ?ra25
    (try simp only [ZH,ZE,ZF,ZG])
    refine aO (i:=26) (d:=62) (j:=22) (e:=58) (want:=false) rfl rfl (by kernel_rfl) (by kernel_rfl) (by kernel_rfl) (fun _ _ _ h=>h) rfl rfl rfl rfl hHeld ?ra26
    (try simp only [ZH,ZE,ZF,ZG])
    refine aO (i:=27) (d:=63) (j:=22) (e:=58) (want:=false) rfl rfl (by kernel_rfl) (by kernel_rfl) (by kernel_rfl) (fun _ _ _ h=>h) rfl rfl rfl rfl hHeld ?ra27
    (try simp only [ZH,ZE,ZF,ZG])
    refine ac (i:=28) (d:=64) (v:=?va28) rfl rfl (by kernel_rfl) (by kernel_rfl) (by kernel_rfl) (fun _ _ _ h=>h) (by rfl) ?ya28 hHeld ?ra28
    case ya28=>(intro w0 hSw;obtain⟨hSw0,hSw1,hSw2,hSw3⟩:=hSw;go_simp;try with_reducible rfl)
    (try simp only [ZH,ZE,ZF,ZG])
    refine wpAnyH_done (by kernel_rfl) ?_ _
    go_wp2
    go_ret2
    exact⟨BD.trans (hB2.mono BD.size),.inl ⟨HNO.out,rfl⟩⟩
   rw [hv] at hwi1;obtain⟨n0,n1⟩:=of_decide_eq_true hv;have hskq:=hskp n0 n1;have hroom:=fun W h1 h2=>hro' W wd ht g cap bs cs f n0 n1 hw8.1 hh8.1 hw8.2 hh8.2 h1 h2
   clear hv;by_cases hi0:i=0
   ·subst hi0
    clear hpv1;have hlt:True:=trivial;cases hr:jo wd ht f l (n,X,Y,t)
    ·have hno:chG l wd ht none (fun _ _=>-1) ps=none:=by
      rw [hch,chG,if_neg (by rw [hr];simp)]
     have HNO:Hid _:=hno;rw [hr] at hroom;clear hch hno;refine wp_region_held_drew (S:=fun X2=>X2.cell? ⟨N,0,none⟩=some (.int .i64 n)∧X2.cell? ⟨N,1,none⟩=some (.int .i64 X)∧X2.cell? ⟨N,2,none⟩=some (.int .i64 Y)∧X2.cell? ⟨N,3,none⟩=some (.bool t)) (by kernel_rfl) (show _ from⟨d0,d1,d2,d3⟩) (fun hHeld=>?_)
     change wpAnyH _ _ _ _ _ 29 (ZL 29 false) _ _
     refine ac (i:=0) (d:=36) (v:=?vb1) rfl rfl (by kernel_rfl) (by kernel_rfl) (by kernel_rfl) (fun _ _ _ h=>h) (by rfl) ?yb1 hHeld ?rb1
     case yb1=>(intro w0 hSw;obtain⟨hSw0,hSw1,hSw2,hSw3⟩:=hSw;go_simp;try with_reducible rfl)
     (try simp only [ZH,ZE,ZF,ZG])
     refine ac (i:=1) (d:=37) (v:=?vb2) rfl rfl (by kernel_rfl) (by kernel_rfl) (by kernel_rfl) (fun _ _ _ h=>h) (by rfl) ?yb2 hHeld ?rb2
     case yb2=>(intro w0 hSw;obtain⟨hSw0,hSw1,hSw2,hSw3⟩:=hSw;go_simp;try with_reducible rfl)
     (try simp only [ZH,ZE,ZF,ZG])
     refine ac (i:=2) (d:=38) (v:=?vb3) rfl rfl (by kernel_rfl) (by kernel_rfl) (by kernel_rfl) (fun _ _ _ h=>h) (by rfl) ?yb3 hHeld ?rb3
     case yb3=>(intro w0 hSw;obtain⟨hSw0,hSw1,hSw2,hSw3⟩:=hSw;go_simp;try with_reducible rfl)
     (try simp only [ZH,ZE,ZF,ZG])
     refine ac (i:=3) (d:=39) (v:=?vb4) rfl rfl (by kernel_rfl) (by kernel_rfl) (by kernel_rfl) (fun _ _ _ h=>h) (by rfl) ?yb4 hHeld ?rb4
     case yb4=>(intro w0 hSw;obtain⟨hSw0,hSw1,hSw2,hSw3⟩:=hSw;go_simp;try with_reducible rfl)
     (try simp only [ZH,ZE,ZF,ZG])
     refine ac (i:=4) (d:=40) (v:=?vb5) rfl rfl (by kernel_rfl) (by kernel_rfl) (by kernel_rfl) (fun _ _ _ h=>h) (by rfl) ?yb5 hHeld ?rb5
     case yb5=>(intro w0 hSw;obtain⟨hSw0,hSw1,hSw2,hSw3⟩:=hSw;go_simp;try with_reducible rfl)
     (try simp only [ZH,ZE,ZF,ZG])
     refine wpAnyH_ready (rs:=[5]) (by kernel_rfl) (by simp) ?_
     refine ZI (o:=_) rfl (fun K hK=>?_) ZJ
     go_simp
     refine(hwi1 _ BD).mono ?_
     rintro e w2 ⟨rfl,hB2⟩;have P2:=aJ hB2 PD LD;have d0:=(aN P2).1;have d1:=(aN P2).2.1;have d2:=(aN P2).2.2.1;have d3:=(aN P2).2.2.2;refine hK.out _ _ (show _ from⟨d0,d1,d2,d3⟩) (fun hHeld=>?_)
     clear hK K
     (try simp only [ZH,ZE,ZF,ZG])
     refine ac (i:=6) (d:=42) (v:=?vb6) rfl rfl (by kernel_rfl) (by kernel_rfl) (by kernel_rfl) (fun _ _ _ h=>h) (by rfl) ?yb6 hHeld ?rb6
     case yb6=>(intro w0 hSw;obtain⟨hSw0,hSw1,hSw2,hSw3⟩:=hSw;go_simp;try with_reducible rfl)
     (try simp only [ZH,ZE,ZF,ZG])
     refine ac (i:=7) (d:=43) (v:=?vb7) rfl rfl (by kernel_rfl) (by kernel_rfl) (by kernel_rfl) (fun _ _ _ h=>h) (by rfl) ?yb7 hHeld ?rb7
     case yb7=>(intro w0 hSw;obtain⟨hSw0,hSw1,hSw2,hSw3⟩:=hSw;go_simp;try with_reducible rfl)
     (try simp only [ZH,ZE,ZF,ZG])
     refine ac (i:=8) (d:=44) (v:=?vb8) rfl rfl (by kernel_rfl) (by kernel_rfl) (by kernel_rfl) (fun _ _ _ h=>h) (aB (j:=7) (d:=43) (want:=false) rfl rfl rfl) ?yb8 hHeld ?rb8
     case yb8=>(intro w0 hSw;obtain⟨hSw0,hSw1,hSw2,hSw3⟩:=hSw;go_simp;try with_reducible rfl)
     (try simp only [ZH,ZE,ZF,ZG])
     refine ac (i:=9) (d:=45) (v:=?vb9) rfl rfl (by kernel_rfl) (by kernel_rfl) (by kernel_rfl) (fun _ _ _ h=>h) (aB (j:=7) (d:=43) (want:=false) rfl rfl rfl) ?yb9 hHeld ?rb9
     case yb9=>(intro w0 hSw;obtain⟨hSw0,hSw1,hSw2,hSw3⟩:=hSw;go_simp;try with_reducible rfl)
     (try simp only [ZH,ZE,ZF,ZG])
     refine ac (i:=10) (d:=46) (v:=?vb10) rfl rfl (by kernel_rfl) (by kernel_rfl) (by kernel_rfl) (fun _ _ _ h=>h) (aB (j:=7) (d:=43) (want:=false) rfl rfl rfl) ?yb10 hHeld ?rb10
     case yb10=>(intro w0 hSw;obtain⟨hSw0,hSw1,hSw2,hSw3⟩:=hSw;go_simp;try with_reducible rfl)
     (try simp only [ZH,ZE,ZF,ZG])
     refine aO (i:=11) (d:=47) (j:=10) (e:=46) (want:=true) rfl rfl (by kernel_rfl) (by kernel_rfl) (by kernel_rfl) (fun _ _ _ h=>h) rfl rfl rfl rfl hHeld ?rb11
     (try simp only [ZH,ZE,ZF,ZG])
     refine aO (i:=12) (d:=48) (j:=10) (e:=46) (want:=true) rfl rfl (by kernel_rfl) (by kernel_rfl) (by kernel_rfl) (fun _ _ _ h=>h) rfl rfl rfl rfl hHeld ?rb12
     (try simp only [ZH,ZE,ZF,ZG])
     refine aO (i:=13) (d:=49) (j:=10) (e:=46) (want:=true) rfl rfl (by kernel_rfl) (by kernel_rfl) (by kernel_rfl) (fun _ _ _ h=>h) rfl rfl rfl rfl hHeld ?rb13
     (try simp only [ZH,ZE,ZF,ZG])
     refine aO (i:=14) (d:=50) (j:=10) (e:=46) (want:=true) rfl rfl (by kernel_rfl) (by kernel_rfl) (by kernel_rfl) (fun _ _ _ h=>h) rfl rfl rfl rfl hHeld ?rb14
     (try simp only [ZH,ZE,ZF,ZG])
     refine aO (i:=15) (d:=51) (j:=10) (e:=46) (want:=true) rfl rfl (by kernel_rfl) (by kernel_rfl) (by kernel_rfl) (fun _ _ _ h=>h) rfl rfl rfl rfl hHeld ?rb15
     (try simp only [ZH,ZE,ZF,ZG])
     refine aO (i:=16) (d:=52) (j:=10) (e:=46) (want:=true) rfl rfl (by kernel_rfl) (by kernel_rfl) (by kernel_rfl) (fun _ _ _ h=>h) rfl rfl rfl rfl hHeld ?rb16
     (try simp only [ZH,ZE,ZF,ZG])
     refine aO (i:=17) (d:=53) (j:=10) (e:=46) (want:=true) rfl rfl (by kernel_rfl) (by kernel_rfl) (by kernel_rfl) (fun _ _ _ h=>h) rfl rfl rfl rfl hHeld ?rb17
     (try simp only [ZH,ZE,ZF,ZG])
     refine aO (i:=18) (d:=54) (j:=10) (e:=46) (want:=true) rfl rfl (by kernel_rfl) (by kernel_rfl) (by kernel_rfl) (fun _ _ _ h=>h) rfl rfl rfl rfl hHeld ?rb18
     (try simp only [ZH,ZE,ZF,ZG])
     refine aO (i:=19) (d:=55) (j:=10) (e:=46) (want:=true) rfl rfl (by kernel_rfl) (by kernel_rfl) (by kernel_rfl) (fun _ _ _ h=>h) rfl rfl rfl rfl hHeld ?rb19
     (try simp only [ZH,ZE,ZF,ZG])
     refine ac (i:=20) (d:=56) (v:=?vb20) rfl rfl (by kernel_rfl) (by kernel_rfl) (by kernel_rfl) (fun _ _ _ h=>h) (aB (j:=7) (d:=43) (want:=false) rfl rfl rfl) ?yb20 hHeld ?rb20
     case yb20=>(intro w0 hSw;obtain⟨hSw0,hSw1,hSw2,hSw3⟩:=hSw;go_simp;try with_reducible rfl)
     (try simp only [ZH,ZE,ZF,ZG])
     refine ac (i:=21) (d:=57) (v:=?vb21) rfl rfl (by kernel_rfl) (by kernel_rfl) (by kernel_rfl) (fun _ _ _ h=>h) (by rfl) ?yb21 hHeld ?rb21
     case yb21=>(intro w0 hSw;obtain⟨hSw0,hSw1,hSw2,hSw3⟩:=hSw;go_simp;try with_reducible rfl)
     (try simp only [ZH,ZE,ZF,ZG])
     refine ac (i:=22) (d:=58) (v:=?vb22) rfl rfl (by kernel_rfl) (by kernel_rfl) (by kernel_rfl) (fun _ _ _ h=>h) (by rfl) ?yb22 hHeld ?rb22
     case yb22=>(intro w0 hSw;obtain⟨hSw0,hSw1,hSw2,hSw3⟩:=hSw;go_simp;try with_reducible rfl)
     (try simp only [ZH,ZE,ZF,ZG])
     refine ac (i:=23) (d:=59) (v:=?vb23) rfl rfl (by kernel_rfl) (by kernel_rfl) (by kernel_rfl) (fun _ _ _ h=>h) (aB (j:=22) (d:=58) (want:=false) rfl rfl rfl) ?yb23 hHeld ?rb23
     case yb23=>(intro w0 hSw;obtain⟨hSw0,hSw1,hSw2,hSw3⟩:=hSw;go_simp;try with_reducible rfl)
     (try simp only [ZH,ZE,ZF,ZG])
     refine ac (i:=24) (d:=60) (v:=?vb24) rfl rfl (by kernel_rfl) (by kernel_rfl) (by kernel_rfl) (fun _ _ _ h=>h) (aB (j:=22) (d:=58) (want:=false) rfl rfl rfl) ?yb24 hHeld ?rb24
     case yb24=>(intro w0 hSw;obtain⟨hSw0,hSw1,hSw2,hSw3⟩:=hSw;go_simp;try with_reducible rfl)
     (try simp only [ZH,ZE,ZF,ZG])
     refine ac (i:=25) (d:=61) (v:=?vb25) rfl rfl (by kernel_rfl) (by kernel_rfl) (by kernel_rfl) (fun _ _ _ h=>h) (aB (j:=22) (d:=58) (want:=false) rfl rfl rfl) ?yb25 hHeld ?rb25
     case yb25=>(intro w0 hSw;obtain⟨hSw0,hSw1,hSw2,hSw3⟩:=hSw;go_simp;try with_reducible rfl)
     (try simp only [ZH,ZE,ZF,ZG])
     refine wpAnyH_ready (rs:=[26]) (by kernel_rfl) (by simp) ?_
     refine ZI (o:=_) rfl (fun K hK=>?_) ZJ
     go_simp
     refine(hroom _ (BD.trans (hB2.mono BD.size)) (hGD.below hB2)).mono ?_
     rintro e w3 ⟨rfl,hB3⟩;have P3:=aJ hB3 P2 (aG P2);have d0:=(aN P3).1;have d1:=(aN P3).2.1;have d2:=(aN P3).2.2.1;have d3:=(aN P3).2.2.2;refine hK.out _ _ (show _ from⟨d0,d1,d2,d3⟩) (fun hHeld=>?_)
     clear hK K
     (try simp only [ZH,ZE,ZF,ZG])
     refine ac (i:=27) (d:=63) (v:=?vb26) rfl rfl (by kernel_rfl) (by kernel_rfl) (by kernel_rfl) (fun _ _ _ h=>h) (aB (j:=22) (d:=58) (want:=false) rfl rfl rfl) ?yb26 hHeld ?rb26
     case yb26=>(intro w0 hSw;obtain⟨hSw0,hSw1,hSw2,hSw3⟩:=hSw;go_simp;try with_reducible rfl)
     (try simp only [ZH,ZE,ZF,ZG])
     refine ac (i:=28) (d:=64) (v:=?vb27) rfl rfl (by kernel_rfl) (by kernel_rfl) (by kernel_rfl) (fun _ _ _ h=>h) (by rfl) ?yb27 hHeld ?rb27
     case yb27=>(intro w0 hSw;obtain⟨hSw0,hSw1,hSw2,hSw3⟩:=hSw;go_simp;try with_reducible rfl)
     (try simp only [ZH,ZE,ZF,ZG])
     refine wpAnyH_done (by kernel_rfl) ?_ _
     go_wp2
     go_ret2
     have BB2:=BD.trans (hB2.mono BD.size);exact⟨BB2.trans (hB3.mono BB2.size),.inl ⟨HNO.out,rfl⟩⟩
    ·have hyes:chG l wd ht none (fun _ _=>-1) ps=chG l wd ht (xO ps (0+1)) (qf f l (n,X,Y,t)) (ps.drop (0+1)):=by
      rw [hch,chG,if_pos (by rw [hr];simp [Jy,xO,n0,n1,hlt]),hnx]
     rw [hr] at hroom;obtain⟨r1,r2,r3,r4,-⟩:nv wd ht f l (n,X,Y,t):=by
      unfold jo at hr;exact(@decide_eq_true_iff _ (ZR _)).1 hr
     simp only at r1 r2 r3 r4;have hX:=ZM r1;have hY:=ZM r2;have hput:qf f l (n,X,Y,t)=mkA f X.toNat Y.toNat (szN l (n,X,Y,t)).1 (szN l (n,X,Y,t)).2 n:=rfl;rw [hput] at hyes;have hszm:=fun W=>hsz' W n0 n1
     obtain⟨a,ha⟩:∃a,a=(szN l (n,X,Y,t)).1:=⟨_,rfl⟩
     obtain⟨b2,hb2⟩:∃a,a=(szN l (n,X,Y,t)).2:=⟨_,rfl⟩
     rw [←ha,←hb2] at hyes;rw [←ha] at r3;rw [←hb2] at r4;simp only [←ha,←hb2] at hszm;have hxa:X.toNat+a≤wd:=by omega
     have hyb:Y.toNat+b2≤ht:=by omega
     have HY:Hid _:=hyes;have HX:Hid _:=hX;have HYY:Hid _:=hY;clear ha hb2 hput hyes hch hskq hskp r1 r2 r3 r4 hX hY;refine wp_region_held_drew (S:=fun X2=>X2.cell? ⟨N,0,none⟩=some (.int .i64 n)∧X2.cell? ⟨N,1,none⟩=some (.int .i64 X)∧X2.cell? ⟨N,2,none⟩=some (.int .i64 Y)∧X2.cell? ⟨N,3,none⟩=some (.bool t)) (by kernel_rfl) (show _ from⟨d0,d1,d2,d3⟩) (fun hHeld=>?_)
     change wpAnyH _ _ _ _ _ 29 (ZL 29 false) _ _
     refine ac (i:=0) (d:=36) (v:=?vc1) rfl rfl (by kernel_rfl) (by kernel_rfl) (by kernel_rfl) (fun _ _ _ h=>h) (by rfl) ?yc1 hHeld ?rc1
     case yc1=>(intro w0 hSw;obtain⟨hSw0,hSw1,hSw2,hSw3⟩:=hSw;go_simp;try with_reducible rfl)
     (try simp only [ZH,ZE,ZF,ZG])
     refine ac (i:=1) (d:=37) (v:=?vc2) rfl rfl (by kernel_rfl) (by kernel_rfl) (by kernel_rfl) (fun _ _ _ h=>h) (by rfl) ?yc2 hHeld ?rc2
     case yc2=>(intro w0 hSw;obtain⟨hSw0,hSw1,hSw2,hSw3⟩:=hSw;go_simp;try with_reducible rfl)
     (try simp only [ZH,ZE,ZF,ZG])
     refine ac (i:=2) (d:=38) (v:=?vc3) rfl rfl (by kernel_rfl) (by kernel_rfl) (by kernel_rfl) (fun _ _ _ h=>h) (by rfl) ?yc3 hHeld ?rc3
     case yc3=>(intro w0 hSw;obtain⟨hSw0,hSw1,hSw2,hSw3⟩:=hSw;go_simp;try with_reducible rfl)
     (try simp only [ZH,ZE,ZF,ZG])
     refine ac (i:=3) (d:=39) (v:=?vc4) rfl rfl (by kernel_rfl) (by kernel_rfl) (by kernel_rfl) (fun _ _ _ h=>h) (by rfl) ?yc4 hHeld ?rc4
     case yc4=>(intro w0 hSw;obtain⟨hSw0,hSw1,hSw2,hSw3⟩:=hSw;go_simp;try with_reducible rfl)
     (try simp only [ZH,ZE,ZF,ZG])
     refine ac (i:=4) (d:=40) (v:=?vc5) rfl rfl (by kernel_rfl) (by kernel_rfl) (by kernel_rfl) (fun _ _ _ h=>h) (by rfl) ?yc5 hHeld ?rc5
     case yc5=>(intro w0 hSw;obtain⟨hSw0,hSw1,hSw2,hSw3⟩:=hSw;go_simp;try with_reducible rfl)
     (try simp only [ZH,ZE,ZF,ZG])
     refine wpAnyH_ready (rs:=[5]) (by kernel_rfl) (by simp) ?_
     refine ZI (o:=_) rfl (fun K hK=>?_) ZJ
     go_simp
     refine(hwi1 _ BD).mono ?_
     rintro e w2 ⟨rfl,hB2⟩;have P2:=aJ hB2 PD LD;have d0:=(aN P2).1;have d1:=(aN P2).2.1;have d2:=(aN P2).2.2.1;have d3:=(aN P2).2.2.2;refine hK.out _ _ (show _ from⟨d0,d1,d2,d3⟩) (fun hHeld=>?_)
     clear hK K
     (try simp only [ZH,ZE,ZF,ZG])
     refine ac (i:=6) (d:=42) (v:=?vc6) rfl rfl (by kernel_rfl) (by kernel_rfl) (by kernel_rfl) (fun _ _ _ h=>h) (by rfl) ?yc6 hHeld ?rc6
     case yc6=>(intro w0 hSw;obtain⟨hSw0,hSw1,hSw2,hSw3⟩:=hSw;go_simp;try with_reducible rfl)
     (try simp only [ZH,ZE,ZF,ZG])
     refine ac (i:=7) (d:=43) (v:=?vc7) rfl rfl (by kernel_rfl) (by kernel_rfl) (by kernel_rfl) (fun _ _ _ h=>h) (by rfl) ?yc7 hHeld ?rc7
     case yc7=>(intro w0 hSw;obtain⟨hSw0,hSw1,hSw2,hSw3⟩:=hSw;go_simp;try with_reducible rfl)
     (try simp only [ZH,ZE,ZF,ZG])
     refine ac (i:=8) (d:=44) (v:=?vc8) rfl rfl (by kernel_rfl) (by kernel_rfl) (by kernel_rfl) (fun _ _ _ h=>h) (aB (j:=7) (d:=43) (want:=false) rfl rfl rfl) ?yc8 hHeld ?rc8
     case yc8=>(intro w0 hSw;obtain⟨hSw0,hSw1,hSw2,hSw3⟩:=hSw;go_simp;try with_reducible rfl)
     (try simp only [ZH,ZE,ZF,ZG])
     refine ac (i:=9) (d:=45) (v:=?vc9) rfl rfl (by kernel_rfl) (by kernel_rfl) (by kernel_rfl) (fun _ _ _ h=>h) (aB (j:=7) (d:=43) (want:=false) rfl rfl rfl) ?yc9 hHeld ?rc9
     case yc9=>(intro w0 hSw;obtain⟨hSw0,hSw1,hSw2,hSw3⟩:=hSw;go_simp;try with_reducible rfl)
     (try simp only [ZH,ZE,ZF,ZG])
     refine ac (i:=10) (d:=46) (v:=?vc10) rfl rfl (by kernel_rfl) (by kernel_rfl) (by kernel_rfl) (fun _ _ _ h=>h) (aB (j:=7) (d:=43) (want:=false) rfl rfl rfl) ?yc10 hHeld ?rc10
     case yc10=>(intro w0 hSw;obtain⟨hSw0,hSw1,hSw2,hSw3⟩:=hSw;go_simp;try with_reducible rfl)
     (try simp only [ZH,ZE,ZF,ZG])
     refine aO (i:=11) (d:=47) (j:=10) (e:=46) (want:=true) rfl rfl (by kernel_rfl) (by kernel_rfl) (by kernel_rfl) (fun _ _ _ h=>h) rfl rfl rfl rfl hHeld ?rc11
     (try simp only [ZH,ZE,ZF,ZG])
     refine aO (i:=12) (d:=48) (j:=10) (e:=46) (want:=true) rfl rfl (by kernel_rfl) (by kernel_rfl) (by kernel_rfl) (fun _ _ _ h=>h) rfl rfl rfl rfl hHeld ?rc12
     (try simp only [ZH,ZE,ZF,ZG])
     refine aO (i:=13) (d:=49) (j:=10) (e:=46) (want:=true) rfl rfl (by kernel_rfl) (by kernel_rfl) (by kernel_rfl) (fun _ _ _ h=>h) rfl rfl rfl rfl hHeld ?rc13
     (try simp only [ZH,ZE,ZF,ZG])
     refine aO (i:=14) (d:=50) (j:=10) (e:=46) (want:=true) rfl rfl (by kernel_rfl) (by kernel_rfl) (by kernel_rfl) (fun _ _ _ h=>h) rfl rfl rfl rfl hHeld ?rc14
     (try simp only [ZH,ZE,ZF,ZG])
     refine aO (i:=15) (d:=51) (j:=10) (e:=46) (want:=true) rfl rfl (by kernel_rfl) (by kernel_rfl) (by kernel_rfl) (fun _ _ _ h=>h) rfl rfl rfl rfl hHeld ?rc15
     (try simp only [ZH,ZE,ZF,ZG])
     refine aO (i:=16) (d:=52) (j:=10) (e:=46) (want:=true) rfl rfl (by kernel_rfl) (by kernel_rfl) (by kernel_rfl) (fun _ _ _ h=>h) rfl rfl rfl rfl hHeld ?rc16
     (try simp only [ZH,ZE,ZF,ZG])
     refine aO (i:=17) (d:=53) (j:=10) (e:=46) (want:=true) rfl rfl (by kernel_rfl) (by kernel_rfl) (by kernel_rfl) (fun _ _ _ h=>h) rfl rfl rfl rfl hHeld ?rc17
     (try simp only [ZH,ZE,ZF,ZG])
     refine aO (i:=18) (d:=54) (j:=10) (e:=46) (want:=true) rfl rfl (by kernel_rfl) (by kernel_rfl) (by kernel_rfl) (fun _ _ _ h=>h) rfl rfl rfl rfl hHeld ?rc18
     (try simp only [ZH,ZE,ZF,ZG])
     refine aO (i:=19) (d:=55) (j:=10) (e:=46) (want:=true) rfl rfl (by kernel_rfl) (by kernel_rfl) (by kernel_rfl) (fun _ _ _ h=>h) rfl rfl rfl rfl hHeld ?rc19
     (try simp only [ZH,ZE,ZF,ZG])
     refine ac (i:=20) (d:=56) (v:=?vc20) rfl rfl (by kernel_rfl) (by kernel_rfl) (by kernel_rfl) (fun _ _ _ h=>h) (aB (j:=7) (d:=43) (want:=false) rfl rfl rfl) ?yc20 hHeld ?rc20
     case yc20=>(intro w0 hSw;obtain⟨hSw0,hSw1,hSw2,hSw3⟩:=hSw;go_simp;try with_reducible rfl)
     (try simp only [ZH,ZE,ZF,ZG])
     refine ac (i:=21) (d:=57) (v:=?vc21) rfl rfl (by kernel_rfl) (by kernel_rfl) (by kernel_rfl) (fun _ _ _ h=>h) (by rfl) ?yc21 hHeld ?rc21
     case yc21=>(intro w0 hSw;obtain⟨hSw0,hSw1,hSw2,hSw3⟩:=hSw;go_simp;try with_reducible rfl)
     (try simp only [ZH,ZE,ZF,ZG])
     refine ac (i:=22) (d:=58) (v:=?vc22) rfl rfl (by kernel_rfl) (by kernel_rfl) (by kernel_rfl) (fun _ _ _ h=>h) (by rfl) ?yc22 hHeld ?rc22
     case yc22=>(intro w0 hSw;obtain⟨hSw0,hSw1,hSw2,hSw3⟩:=hSw;go_simp;try with_reducible rfl)
     (try simp only [ZH,ZE,ZF,ZG])
     refine ac (i:=23) (d:=59) (v:=?vc23) rfl rfl (by kernel_rfl) (by kernel_rfl) (by kernel_rfl) (fun _ _ _ h=>h) (aB (j:=22) (d:=58) (want:=false) rfl rfl rfl) ?yc23 hHeld ?rc23
     case yc23=>(intro w0 hSw;obtain⟨hSw0,hSw1,hSw2,hSw3⟩:=hSw;go_simp;try with_reducible rfl)
     (try simp only [ZH,ZE,ZF,ZG])
     refine ac (i:=24) (d:=60) (v:=?vc24) rfl rfl (by kernel_rfl) (by kernel_rfl) (by kernel_rfl) (fun _ _ _ h=>h) (aB (j:=22) (d:=58) (want:=false) rfl rfl rfl) ?yc24 hHeld ?rc24
     case yc24=>(intro w0 hSw;obtain⟨hSw0,hSw1,hSw2,hSw3⟩:=hSw;go_simp;try with_reducible rfl)
     (try simp only [ZH,ZE,ZF,ZG])
     refine ac (i:=25) (d:=61) (v:=?vc25) rfl rfl (by kernel_rfl) (by kernel_rfl) (by kernel_rfl) (fun _ _ _ h=>h) (aB (j:=22) (d:=58) (want:=false) rfl rfl rfl) ?yc25 hHeld ?rc25
     case yc25=>(intro w0 hSw;obtain⟨hSw0,hSw1,hSw2,hSw3⟩:=hSw;go_simp;try with_reducible rfl)
     (try simp only [ZH,ZE,ZF,ZG])
     refine wpAnyH_ready (rs:=[26]) (by kernel_rfl) (by simp) ?_
     refine ZI (o:=_) rfl (fun K hK=>?_) ZJ
     go_simp
     refine(hroom _ (BD.trans (hB2.mono BD.size)) (hGD.below hB2)).mono ?_
     rintro e w3 ⟨rfl,hB3⟩;have P3:=aJ hB3 P2 (aG P2);have d0:=(aN P3).1;have d1:=(aN P3).2.1;have d2:=(aN P3).2.2.1;have d3:=(aN P3).2.2.2;refine hK.out _ _ (show _ from⟨d0,d1,d2,d3⟩) (fun hHeld=>?_)
     clear hK K
     (try simp only [ZH,ZE,ZF,ZG])
     refine ac (i:=27) (d:=63) (v:=?vc26) rfl rfl (by kernel_rfl) (by kernel_rfl) (by kernel_rfl) (fun _ _ _ h=>h) (aB (j:=22) (d:=58) (want:=false) rfl rfl rfl) ?yc26 hHeld ?rc26
     case yc26=>(intro w0 hSw;obtain⟨hSw0,hSw1,hSw2,hSw3⟩:=hSw;go_simp;try with_reducible rfl)
     (try simp only [ZH,ZE,ZF,ZG])
     refine ac (i:=28) (d:=64) (v:=?vc27) rfl rfl (by kernel_rfl) (by kernel_rfl) (by kernel_rfl) (fun _ _ _ h=>h) (by rfl) ?yc27 hHeld ?rc27
     case yc27=>(intro w0 hSw;obtain⟨hSw0,hSw1,hSw2,hSw3⟩:=hSw;go_simp;try with_reducible rfl)
     (try simp only [ZH,ZE,ZF,ZG])
     refine wpAnyH_done (by kernel_rfl) ?_ _
     have BB2:=BD.trans (hB2.mono BD.size);have BB3:=BB2.trans (hB3.mono BB2.size);have hG3:=(hGD.below hB2).below hB3;have hmk:=Cu w3 w.heap.size g cap wd ht bs cs f hG3 hw8.2 hh8.2 (.slice pA l.length pc) n X.toNat Y.toNat a b2 t n hxa hyb (fun W hW=>by rw [HX.out,HYY.out];exact hszm W (BB3.trans (hW.mono BB3.size)));rw [HX.out,HYY.out] at hmk
     go_wp2_with (go_at_call 72;refine hmk.mono ?_;rintro e w4 ⟨rfl,hG4,hK4⟩)
     refine⟨⟨0+1,_,congrArg (Value.int .i64) (by omega),by omega,HY.out,hG4,BB3.trans (hK4.below BB3.size fun y hy=>(hG.row y hy).1)⟩,?_⟩
     show ps.length - ((0:Int)+1).toNat<ps.length - (0:Int).toNat
     omega
   ·obtain⟨j,rfl⟩:∃j,i=j+1:=⟨i - 1,by omega⟩
    clear hi0;replace hpv1:=hpv1 j rfl;have hi1:(((j+1:Nat):Int)>0)=True:=eq_true (by omega);have hwj3:ZW.wrap (j:Int)=(j:Int):=ae (by omega) (by omega);have hjl:(j:Int)<(ps.length:Int):=by omega
    have hj0:(0:Int)≤(j:Int):=by omega
    generalize (ps[j]?.getD (0,0,0,false)).1=q at *;obtain⟨ep,hpq⟩:=hpv1;have epd:W1.drew.cell? ⟨b,o+j*4,none⟩=some (.int .i64 q):=ep;by_cases hlt:q<n
    ·have hge:¬q≥n:=by omega
     rw [hpq] at hch;cases hr:jo wd ht f l (n,X,Y,t)
     ·have hno:chG l wd ht none (fun _ _=>-1) ps=none:=by
       rw [hch,chG,if_neg (by rw [hr];simp)]
      have HNO:Hid _:=hno;rw [hr] at hroom;clear hch hno;refine wp_region_held_drew (S:=fun X2=>X2.cell? ⟨N,0,none⟩=some (.int .i64 n)∧X2.cell? ⟨N,1,none⟩=some (.int .i64 X)∧X2.cell? ⟨N,2,none⟩=some (.int .i64 Y)∧X2.cell? ⟨N,3,none⟩=some (.bool t)∧X2.cell? ⟨b,o+j*4,none⟩=some (.int .i64 q)) (by kernel_rfl) (show _ from⟨d0,d1,d2,d3,ep⟩) (fun hHeld=>?_)
      change wpAnyH _ _ _ _ _ 29 (ZL 29 false) _ _
      refine ac (i:=0) (d:=36) (v:=?vd1) rfl rfl (by kernel_rfl) (by kernel_rfl) (by kernel_rfl) (fun _ _ _ h=>h) (by rfl) ?yd1 hHeld ?rd1
      case yd1=>(intro w0 hSw;obtain⟨hSw0,hSw1,hSw2,hSw3,hSw4⟩:=hSw;go_simp;try with_reducible rfl)
      (try simp only [ZH,ZE,ZF,ZG])
      refine ac (i:=1) (d:=37) (v:=?vd2) rfl rfl (by kernel_rfl) (by kernel_rfl) (by kernel_rfl) (fun _ _ _ h=>h) (by rfl) ?yd2 hHeld ?rd2
      case yd2=>(intro w0 hSw;obtain⟨hSw0,hSw1,hSw2,hSw3,hSw4⟩:=hSw;go_simp;try with_reducible rfl)
      (try simp only [ZH,ZE,ZF,ZG])
      refine ac (i:=2) (d:=38) (v:=?vd3) rfl rfl (by kernel_rfl) (by kernel_rfl) (by kernel_rfl) (fun _ _ _ h=>h) (by rfl) ?yd3 hHeld ?rd3
      case yd3=>(intro w0 hSw;obtain⟨hSw0,hSw1,hSw2,hSw3,hSw4⟩:=hSw;go_simp;try with_reducible rfl)
      (try simp only [ZH,ZE,ZF,ZG])
      refine ac (i:=3) (d:=39) (v:=?vd4) rfl rfl (by kernel_rfl) (by kernel_rfl) (by kernel_rfl) (fun _ _ _ h=>h) (by rfl) ?yd4 hHeld ?rd4
      case yd4=>(intro w0 hSw;obtain⟨hSw0,hSw1,hSw2,hSw3,hSw4⟩:=hSw;go_simp;try with_reducible rfl)
      (try simp only [ZH,ZE,ZF,ZG])
      refine ac (i:=4) (d:=40) (v:=?vd5) rfl rfl (by kernel_rfl) (by kernel_rfl) (by kernel_rfl) (fun _ _ _ h=>h) (by rfl) ?yd5 hHeld ?rd5
      case yd5=>(intro w0 hSw;obtain⟨hSw0,hSw1,hSw2,hSw3,hSw4⟩:=hSw;go_simp;try with_reducible rfl)
      (try simp only [ZH,ZE,ZF,ZG])
      refine wpAnyH_ready (rs:=[5]) (by kernel_rfl) (by simp) ?_
      refine ZI (o:=_) rfl (fun K hK=>?_) ZJ
      go_simp
      refine(hwi1 _ BD).mono ?_
      rintro e w2 ⟨rfl,hB2⟩;have P2:=aJ hB2 PD LD;have d0:=(aN P2).1;have d1:=(aN P2).2.1;have d2:=(aN P2).2.2.1;have d3:=(aN P2).2.2.2;have ep:=(hB2.cell (ZO hbr LD)).trans epd;refine hK.out _ _ (show _ from⟨d0,d1,d2,d3,ep⟩) (fun hHeld=>?_)
      clear hK K
      (try simp only [ZH,ZE,ZF,ZG])
      refine ac (i:=6) (d:=42) (v:=?vd6) rfl rfl (by kernel_rfl) (by kernel_rfl) (by kernel_rfl) (fun _ _ _ h=>h) (by rfl) ?yd6 hHeld ?rd6
      case yd6=>(intro w0 hSw;obtain⟨hSw0,hSw1,hSw2,hSw3,hSw4⟩:=hSw;go_simp;try with_reducible rfl)
      (try simp only [ZH,ZE,ZF,ZG])
      refine ac (i:=7) (d:=43) (v:=?vd7) rfl rfl (by kernel_rfl) (by kernel_rfl) (by kernel_rfl) (fun _ _ _ h=>h) (by rfl) ?yd7 hHeld ?rd7
      case yd7=>(intro w0 hSw;obtain⟨hSw0,hSw1,hSw2,hSw3,hSw4⟩:=hSw;go_simp;try with_reducible rfl)
      (try simp only [ZH,ZE,ZF,ZG])
      refine ac (i:=8) (d:=44) (v:=?vd8) rfl rfl (by kernel_rfl) (by kernel_rfl) (by kernel_rfl) (fun _ _ _ h=>h) (aB (j:=7) (d:=43) (want:=false) rfl rfl rfl) ?yd8 hHeld ?rd8
      case yd8=>(intro w0 hSw;obtain⟨hSw0,hSw1,hSw2,hSw3,hSw4⟩:=hSw;go_simp;try with_reducible rfl)
      (try simp only [ZH,ZE,ZF,ZG])
      refine ac (i:=9) (d:=45) (v:=?vd9) rfl rfl (by kernel_rfl) (by kernel_rfl) (by kernel_rfl) (fun _ _ _ h=>h) (aB (j:=7) (d:=43) (want:=false) rfl rfl rfl) ?yd9 hHeld ?rd9
      case yd9=>(intro w0 hSw;obtain⟨hSw0,hSw1,hSw2,hSw3,hSw4⟩:=hSw;go_simp;try with_reducible rfl)
      (try simp only [ZH,ZE,ZF,ZG])
      refine ac (i:=10) (d:=46) (v:=?vd10) rfl rfl (by kernel_rfl) (by kernel_rfl) (by kernel_rfl) (fun _ _ _ h=>h) (aB (j:=7) (d:=43) (want:=false) rfl rfl rfl) ?yd10 hHeld ?rd10
      case yd10=>(intro w0 hSw;obtain⟨hSw0,hSw1,hSw2,hSw3,hSw4⟩:=hSw;go_simp;try with_reducible rfl)
      (try simp only [ZH,ZE,ZF,ZG])
      refine ac (i:=11) (d:=47) (v:=?vd11) rfl rfl (by kernel_rfl) (by kernel_rfl) (by kernel_rfl) (fun _ _ _ h=>h) (aB (j:=10) (d:=46) (want:=true) rfl rfl rfl) ?yd11 hHeld ?rd11
      case yd11=>(intro w0 hSw;obtain⟨hSw0,hSw1,hSw2,hSw3,hSw4⟩:=hSw;go_simp;try with_reducible rfl)
      (try simp only [ZH,ZE,ZF,ZG])
      refine ac (i:=12) (d:=48) (v:=?vd12) rfl rfl (by kernel_rfl) (by kernel_rfl) (by kernel_rfl) (fun _ _ _ h=>h) (aB (j:=10) (d:=46) (want:=true) rfl rfl rfl) ?yd12 hHeld ?rd12
      case yd12=>(intro w0 hSw;obtain⟨hSw0,hSw1,hSw2,hSw3,hSw4⟩:=hSw;go_simp;try with_reducible rfl)
      (try simp only [ZH,ZE,ZF,ZG])
      refine ac (i:=13) (d:=49) (v:=?vd13) rfl rfl (by kernel_rfl) (by kernel_rfl) (by kernel_rfl) (fun _ _ _ h=>h) (aB (j:=10) (d:=46) (want:=true) rfl rfl rfl) ?yd13 hHeld ?rd13
      case yd13=>(intro w0 hSw;obtain⟨hSw0,hSw1,hSw2,hSw3,hSw4⟩:=hSw;go_simp;try with_reducible rfl)
      (try simp only [ZH,ZE,ZF,ZG])
      refine ac (i:=14) (d:=50) (v:=?vd14) rfl rfl (by kernel_rfl) (by kernel_rfl) (by kernel_rfl) (fun _ _ _ h=>h) (aB (j:=10) (d:=46) (want:=true) rfl rfl rfl) ?yd14 hHeld ?rd14
      case yd14=>(intro w0 hSw;obtain⟨hSw0,hSw1,hSw2,hSw3,hSw4⟩:=hSw;go_simp;try with_reducible rfl)
      (try simp only [ZH,ZE,ZF,ZG])
      refine ac (i:=15) (d:=51) (v:=?vd15) rfl rfl (by kernel_rfl) (by kernel_rfl) (by kernel_rfl) (fun _ _ _ h=>h) (aB (j:=10) (d:=46) (want:=true) rfl rfl rfl) ?yd15 hHeld ?rd15
      case yd15=>(intro w0 hSw;obtain⟨hSw0,hSw1,hSw2,hSw3,hSw4⟩:=hSw;go_simp;try with_reducible rfl)
      (try simp only [ZH,ZE,ZF,ZG])
      refine ac (i:=16) (d:=52) (v:=?vd16) rfl rfl (by kernel_rfl) (by kernel_rfl) (by kernel_rfl) (fun _ _ _ h=>h) (aB (j:=10) (d:=46) (want:=true) rfl rfl rfl) ?yd16 hHeld ?rd16
      case yd16=>(intro w0 hSw;obtain⟨hSw0,hSw1,hSw2,hSw3,hSw4⟩:=hSw;go_simp;try with_reducible rfl)
      (try simp only [ZH,ZE,ZF,ZG])
      refine ac (i:=17) (d:=53) (v:=?vd17) rfl rfl (by kernel_rfl) (by kernel_rfl) (by kernel_rfl) (fun _ _ _ h=>h) (aB (j:=10) (d:=46) (want:=true) rfl rfl rfl) ?yd17 hHeld ?rd17
      case yd17=>(intro w0 hSw;obtain⟨hSw0,hSw1,hSw2,hSw3,hSw4⟩:=hSw;go_simp;try with_reducible rfl)
      (try simp only [ZH,ZE,ZF,ZG])
      refine ac (i:=18) (d:=54) (v:=?vd18) rfl rfl (by kernel_rfl) (by kernel_rfl) (by kernel_rfl) (fun _ _ _ h=>h) (aB (j:=10) (d:=46) (want:=true) rfl rfl rfl) ?yd18 hHeld ?rd18
      case yd18=>(intro w0 hSw;obtain⟨hSw0,hSw1,hSw2,hSw3,hSw4⟩:=hSw;go_simp;try with_reducible rfl)
      (try simp only [ZH,ZE,ZF,ZG])
      refine ac (i:=19) (d:=55) (v:=?vd19) rfl rfl (by kernel_rfl) (by kernel_rfl) (by kernel_rfl) (fun _ _ _ h=>h) (aB (j:=10) (d:=46) (want:=true) rfl rfl rfl) ?yd19 hHeld ?rd19
      case yd19=>(intro w0 hSw;obtain⟨hSw0,hSw1,hSw2,hSw3,hSw4⟩:=hSw;go_simp;try with_reducible rfl)
      (try simp only [ZH,ZE,ZF,ZG])
      refine ac (i:=20) (d:=56) (v:=?vd20) rfl rfl (by kernel_rfl) (by kernel_rfl) (by kernel_rfl) (fun _ _ _ h=>h) (aB (j:=7) (d:=43) (want:=false) rfl rfl rfl) ?yd20 hHeld ?rd20
      case yd20=>(intro w0 hSw;obtain⟨hSw0,hSw1,hSw2,hSw3,hSw4⟩:=hSw;go_simp;try with_reducible rfl)
      (try simp only [ZH,ZE,ZF,ZG])
      refine ac (i:=21) (d:=57) (v:=?vd21) rfl rfl (by kernel_rfl) (by kernel_rfl) (by kernel_rfl) (fun _ _ _ h=>h) (by rfl) ?yd21 hHeld ?rd21
      case yd21=>(intro w0 hSw;obtain⟨hSw0,hSw1,hSw2,hSw3,hSw4⟩:=hSw;go_simp;try with_reducible rfl)
      (try simp only [ZH,ZE,ZF,ZG])
      refine ac (i:=22) (d:=58) (v:=?vd22) rfl rfl (by kernel_rfl) (by kernel_rfl) (by kernel_rfl) (fun _ _ _ h=>h) (by rfl) ?yd22 hHeld ?rd22
      case yd22=>(intro w0 hSw;obtain⟨hSw0,hSw1,hSw2,hSw3,hSw4⟩:=hSw;go_simp;try with_reducible rfl)
      (try simp only [ZH,ZE,ZF,ZG])
      refine ac (i:=23) (d:=59) (v:=?vd23) rfl rfl (by kernel_rfl) (by kernel_rfl) (by kernel_rfl) (fun _ _ _ h=>h) (aB (j:=22) (d:=58) (want:=false) rfl rfl rfl) ?yd23 hHeld ?rd23
      case yd23=>(intro w0 hSw;obtain⟨hSw0,hSw1,hSw2,hSw3,hSw4⟩:=hSw;go_simp;try with_reducible rfl)
      (try simp only [ZH,ZE,ZF,ZG])
      refine ac (i:=24) (d:=60) (v:=?vd24) rfl rfl (by kernel_rfl) (by kernel_rfl) (by kernel_rfl) (fun _ _ _ h=>h) (aB (j:=22) (d:=58) (want:=false) rfl rfl rfl) ?yd24 hHeld ?rd24
      case yd24=>(intro w0 hSw;obtain⟨hSw0,hSw1,hSw2,hSw3,hSw4⟩:=hSw;go_simp;try with_reducible rfl)
      (try simp only [ZH,ZE,ZF,ZG])
      refine ac (i:=25) (d:=61) (v:=?vd25) rfl rfl (by kernel_rfl) (by kernel_rfl) (by kernel_rfl) (fun _ _ _ h=>h) (aB (j:=22) (d:=58) (want:=false) rfl rfl rfl) ?yd25 hHeld ?rd25
      case yd25=>(intro w0 hSw;obtain⟨hSw0,hSw1,hSw2,hSw3,hSw4⟩:=hSw;go_simp;try with_reducible rfl)
      (try simp only [ZH,ZE,ZF,ZG])
      refine wpAnyH_ready (rs:=[26]) (by kernel_rfl) (by simp) ?_
      refine ZI (o:=_) rfl (fun K hK=>?_) ZJ
      go_simp
      refine(hroom _ (BD.trans (hB2.mono BD.size)) (hGD.below hB2)).mono ?_
      rintro e w3 ⟨rfl,hB3⟩;have P3:=aJ hB3 P2 (aG P2);have d0:=(aN P3).1;have d1:=(aN P3).2.1;have d2:=(aN P3).2.2.1;have d3:=(aN P3).2.2.2;have ep:=(hB3.cell (ZP (ZO hbr LD) hB2.size)).trans ep;refine hK.out _ _ (show _ from⟨d0,d1,d2,d3,ep⟩) (fun hHeld=>?_)
      clear hK K
      (try simp only [ZH,ZE,ZF,ZG])
      refine ac (i:=27) (d:=63) (v:=?vd26) rfl rfl (by kernel_rfl) (by kernel_rfl) (by kernel_rfl) (fun _ _ _ h=>h) (aB (j:=22) (d:=58) (want:=false) rfl rfl rfl) ?yd26 hHeld ?rd26
      case yd26=>(intro w0 hSw;obtain⟨hSw0,hSw1,hSw2,hSw3,hSw4⟩:=hSw;go_simp;try with_reducible rfl)
      (try simp only [ZH,ZE,ZF,ZG])
      refine ac (i:=28) (d:=64) (v:=?vd27) rfl rfl (by kernel_rfl) (by kernel_rfl) (by kernel_rfl) (fun _ _ _ h=>h) (by rfl) ?yd27 hHeld ?rd27
      case yd27=>(intro w0 hSw;obtain⟨hSw0,hSw1,hSw2,hSw3,hSw4⟩:=hSw;go_simp;try with_reducible rfl)
      (try simp only [ZH,ZE,ZF,ZG])
      refine wpAnyH_done (by kernel_rfl) ?_ _
      go_wp2
      go_ret2
      have BB2:=BD.trans (hB2.mono BD.size);exact⟨BB2.trans (hB3.mono BB2.size),.inl ⟨HNO.out,rfl⟩⟩
     ·have hyes:chG l wd ht none (fun _ _=>-1) ps=chG l wd ht (xO ps ((j+1)+1)) (qf f l (n,X,Y,t)) (ps.drop ((j+1)+1)):=by
       rw [hch,chG,if_pos (by rw [hr];simp [Jy,xO,n0,n1,hlt]),hnx]
      rw [hr] at hroom;obtain⟨r1,r2,r3,r4,-⟩:nv wd ht f l (n,X,Y,t):=by
       unfold jo at hr;exact(@decide_eq_true_iff _ (ZR _)).1 hr
      simp only at r1 r2 r3 r4;have hX:=ZM r1;have hY:=ZM r2;have hput:qf f l (n,X,Y,t)=mkA f X.toNat Y.toNat (szN l (n,X,Y,t)).1 (szN l (n,X,Y,t)).2 n:=rfl;rw [hput] at hyes;have hszm:=fun W=>hsz' W n0 n1
      obtain⟨a,ha⟩:∃a,a=(szN l (n,X,Y,t)).1:=⟨_,rfl⟩
      obtain⟨b2,hb2⟩:∃a,a=(szN l (n,X,Y,t)).2:=⟨_,rfl⟩
      rw [←ha,←hb2] at hyes;rw [←ha] at r3;rw [←hb2] at r4;simp only [←ha,←hb2] at hszm;have hxa:X.toNat+a≤wd:=by omega
      have hyb:Y.toNat+b2≤ht:=by omega
      have HY:Hid _:=hyes;have HX:Hid _:=hX;have HYY:Hid _:=hY;clear ha hb2 hput hyes hch hskq hskp r1 r2 r3 r4 hX hY;refine wp_region_held_drew (S:=fun X2=>X2.cell? ⟨N,0,none⟩=some (.int .i64 n)∧X2.cell? ⟨N,1,none⟩=some (.int .i64 X)∧X2.cell? ⟨N,2,none⟩=some (.int .i64 Y)∧X2.cell? ⟨N,3,none⟩=some (.bool t)∧X2.cell? ⟨b,o+j*4,none⟩=some (.int .i64 q)) (by kernel_rfl) (show _ from⟨d0,d1,d2,d3,ep⟩) (fun hHeld=>?_)
      change wpAnyH _ _ _ _ _ 29 (ZL 29 false) _ _
      refine ac (i:=0) (d:=36) (v:=?ve1) rfl rfl (by kernel_rfl) (by kernel_rfl) (by kernel_rfl) (fun _ _ _ h=>h) (by rfl) ?ye1 hHeld ?re1
      case ye1=>(intro w0 hSw;obtain⟨hSw0,hSw1,hSw2,hSw3,hSw4⟩:=hSw;go_simp;try with_reducible rfl)
      (try simp only [ZH,ZE,ZF,ZG])
      refine ac (i:=1) (d:=37) (v:=?ve2) rfl rfl (by kernel_rfl) (by kernel_rfl) (by kernel_rfl) (fun _ _ _ h=>h) (by rfl) ?ye2 hHeld ?re2
      case ye2=>(intro w0 hSw;obtain⟨hSw0,hSw1,hSw2,hSw3,hSw4⟩:=hSw;go_simp;try with_reducible rfl)
      (try simp only [ZH,ZE,ZF,ZG])
      refine ac (i:=2) (d:=38) (v:=?ve3) rfl rfl (by kernel_rfl) (by kernel_rfl) (by kernel_rfl) (fun _ _ _ h=>h) (by rfl) ?ye3 hHeld ?re3
      case ye3=>(intro w0 hSw;obtain⟨hSw0,hSw1,hSw2,hSw3,hSw4⟩:=hSw;go_simp;try with_reducible rfl)
      (try simp only [ZH,ZE,ZF,ZG])
      refine ac (i:=3) (d:=39) (v:=?ve4) rfl rfl (by kernel_rfl) (by kernel_rfl) (by kernel_rfl) (fun _ _ _ h=>h) (by rfl) ?ye4 hHeld ?re4
      case ye4=>(intro w0 hSw;obtain⟨hSw0,hSw1,hSw2,hSw3,hSw4⟩:=hSw;go_simp;try with_reducible rfl)
      (try simp only [ZH,ZE,ZF,ZG])
      refine ac (i:=4) (d:=40) (v:=?ve5) rfl rfl (by kernel_rfl) (by kernel_rfl) (by kernel_rfl) (fun _ _ _ h=>h) (by rfl) ?ye5 hHeld ?re5
      case ye5=>(intro w0 hSw;obtain⟨hSw0,hSw1,hSw2,hSw3,hSw4⟩:=hSw;go_simp;try with_reducible rfl)
      (try simp only [ZH,ZE,ZF,ZG])
      refine wpAnyH_ready (rs:=[5]) (by kernel_rfl) (by simp) ?_
      refine ZI (o:=_) rfl (fun K hK=>?_) ZJ
      go_simp
      refine(hwi1 _ BD).mono ?_
      rintro e w2 ⟨rfl,hB2⟩;have P2:=aJ hB2 PD LD;have d0:=(aN P2).1;have d1:=(aN P2).2.1;have d2:=(aN P2).2.2.1;have d3:=(aN P2).2.2.2;have ep:=(hB2.cell (ZO hbr LD)).trans epd;refine hK.out _ _ (show _ from⟨d0,d1,d2,d3,ep⟩) (fun hHeld=>?_)
      clear hK K
      (try simp only [ZH,ZE,ZF,ZG])
      refine ac (i:=6) (d:=42) (v:=?ve6) rfl rfl (by kernel_rfl) (by kernel_rfl) (by kernel_rfl) (fun _ _ _ h=>h) (by rfl) ?ye6 hHeld ?re6
      case ye6=>(intro w0 hSw;obtain⟨hSw0,hSw1,hSw2,hSw3,hSw4⟩:=hSw;go_simp;try with_reducible rfl)
      (try simp only [ZH,ZE,ZF,ZG])
      refine ac (i:=7) (d:=43) (v:=?ve7) rfl rfl (by kernel_rfl) (by kernel_rfl) (by kernel_rfl) (fun _ _ _ h=>h) (by rfl) ?ye7 hHeld ?re7
      case ye7=>(intro w0 hSw;obtain⟨hSw0,hSw1,hSw2,hSw3,hSw4⟩:=hSw;go_simp;try with_reducible rfl)
      (try simp only [ZH,ZE,ZF,ZG])
      refine ac (i:=8) (d:=44) (v:=?ve8) rfl rfl (by kernel_rfl) (by kernel_rfl) (by kernel_rfl) (fun _ _ _ h=>h) (aB (j:=7) (d:=43) (want:=false) rfl rfl rfl) ?ye8 hHeld ?re8
      case ye8=>(intro w0 hSw;obtain⟨hSw0,hSw1,hSw2,hSw3,hSw4⟩:=hSw;go_simp;try with_reducible rfl)
      (try simp only [ZH,ZE,ZF,ZG])
      refine ac (i:=9) (d:=45) (v:=?ve9) rfl rfl (by kernel_rfl) (by kernel_rfl) (by kernel_rfl) (fun _ _ _ h=>h) (aB (j:=7) (d:=43) (want:=false) rfl rfl rfl) ?ye9 hHeld ?re9
      case ye9=>(intro w0 hSw;obtain⟨hSw0,hSw1,hSw2,hSw3,hSw4⟩:=hSw;go_simp;try with_reducible rfl)
      (try simp only [ZH,ZE,ZF,ZG])
      refine ac (i:=10) (d:=46) (v:=?ve10) rfl rfl (by kernel_rfl) (by kernel_rfl) (by kernel_rfl) (fun _ _ _ h=>h) (aB (j:=7) (d:=43) (want:=false) rfl rfl rfl) ?ye10 hHeld ?re10
      case ye10=>(intro w0 hSw;obtain⟨hSw0,hSw1,hSw2,hSw3,hSw4⟩:=hSw;go_simp;try with_reducible rfl)
      (try simp only [ZH,ZE,ZF,ZG])
      refine ac (i:=11) (d:=47) (v:=?ve11) rfl rfl (by kernel_rfl) (by kernel_rfl) (by kernel_rfl) (fun _ _ _ h=>h) (aB (j:=10) (d:=46) (want:=true) rfl rfl rfl) ?ye11 hHeld ?re11
      case ye11=>(intro w0 hSw;obtain⟨hSw0,hSw1,hSw2,hSw3,hSw4⟩:=hSw;go_simp;try with_reducible rfl)
      (try simp only [ZH,ZE,ZF,ZG])
      refine ac (i:=12) (d:=48) (v:=?ve12) rfl rfl (by kernel_rfl) (by kernel_rfl) (by kernel_rfl) (fun _ _ _ h=>h) (aB (j:=10) (d:=46) (want:=true) rfl rfl rfl) ?ye12 hHeld ?re12
      case ye12=>(intro w0 hSw;obtain⟨hSw0,hSw1,hSw2,hSw3,hSw4⟩:=hSw;go_simp;try with_reducible rfl)
      (try simp only [ZH,ZE,ZF,ZG])
      refine ac (i:=13) (d:=49) (v:=?ve13) rfl rfl (by kernel_rfl) (by kernel_rfl) (by kernel_rfl) (fun _ _ _ h=>h) (aB (j:=10) (d:=46) (want:=true) rfl rfl rfl) ?ye13 hHeld ?re13
      case ye13=>(intro w0 hSw;obtain⟨hSw0,hSw1,hSw2,hSw3,hSw4⟩:=hSw;go_simp;try with_reducible rfl)
      (try simp only [ZH,ZE,ZF,ZG])
      refine ac (i:=14) (d:=50) (v:=?ve14) rfl rfl (by kernel_rfl) (by kernel_rfl) (by kernel_rfl) (fun _ _ _ h=>h) (aB (j:=10) (d:=46) (want:=true) rfl rfl rfl) ?ye14 hHeld ?re14
      case ye14=>(intro w0 hSw;obtain⟨hSw0,hSw1,hSw2,hSw3,hSw4⟩:=hSw;go_simp;try with_reducible rfl)
      (try simp only [ZH,ZE,ZF,ZG])
      refine ac (i:=15) (d:=51) (v:=?ve15) rfl rfl (by kernel_rfl) (by kernel_rfl) (by kernel_rfl) (fun _ _ _ h=>h) (aB (j:=10) (d:=46) (want:=true) rfl rfl rfl) ?ye15 hHeld ?re15
      case ye15=>(intro w0 hSw;obtain⟨hSw0,hSw1,hSw2,hSw3,hSw4⟩:=hSw;go_simp;try with_reducible rfl)
      (try simp only [ZH,ZE,ZF,ZG])
      refine ac (i:=16) (d:=52) (v:=?ve16) rfl rfl (by kernel_rfl) (by kernel_rfl) (by kernel_rfl) (fun _ _ _ h=>h) (aB (j:=10) (d:=46) (want:=true) rfl rfl rfl) ?ye16 hHeld ?re16
      case ye16=>(intro w0 hSw;obtain⟨hSw0,hSw1,hSw2,hSw3,hSw4⟩:=hSw;go_simp;try with_reducible rfl)
      (try simp only [ZH,ZE,ZF,ZG])
      refine ac (i:=17) (d:=53) (v:=?ve17) rfl rfl (by kernel_rfl) (by kernel_rfl) (by kernel_rfl) (fun _ _ _ h=>h) (aB (j:=10) (d:=46) (want:=true) rfl rfl rfl) ?ye17 hHeld ?re17
      case ye17=>(intro w0 hSw;obtain⟨hSw0,hSw1,hSw2,hSw3,hSw4⟩:=hSw;go_simp;try with_reducible rfl)
      (try simp only [ZH,ZE,ZF,ZG])
      refine ac (i:=18) (d:=54) (v:=?ve18) rfl rfl (by kernel_rfl) (by kernel_rfl) (by kernel_rfl) (fun _ _ _ h=>h) (aB (j:=10) (d:=46) (want:=true) rfl rfl rfl) ?ye18 hHeld ?re18
      case ye18=>(intro w0 hSw;obtain⟨hSw0,hSw1,hSw2,hSw3,hSw4⟩:=hSw;go_simp;try with_reducible rfl)
      (try simp only [ZH,ZE,ZF,ZG])
      refine ac (i:=19) (d:=55) (v:=?ve19) rfl rfl (by kernel_rfl) (by kernel_rfl) (by kernel_rfl) (fun _ _ _ h=>h) (aB (j:=10) (d:=46) (want:=true) rfl rfl rfl) ?ye19 hHeld ?re19
      case ye19=>(intro w0 hSw;obtain⟨hSw0,hSw1,hSw2,hSw3,hSw4⟩:=hSw;go_simp;try with_reducible rfl)
      (try simp only [ZH,ZE,ZF,ZG])
      refine ac (i:=20) (d:=56) (v:=?ve20) rfl rfl (by kernel_rfl) (by kernel_rfl) (by kernel_rfl) (fun _ _ _ h=>h) (aB (j:=7) (d:=43) (want:=false) rfl rfl rfl) ?ye20 hHeld ?re20
      case ye20=>(intro w0 hSw;obtain⟨hSw0,hSw1,hSw2,hSw3,hSw4⟩:=hSw;go_simp;try with_reducible rfl)
      (try simp only [ZH,ZE,ZF,ZG])
      refine ac (i:=21) (d:=57) (v:=?ve21) rfl rfl (by kernel_rfl) (by kernel_rfl) (by kernel_rfl) (fun _ _ _ h=>h) (by rfl) ?ye21 hHeld ?re21
      case ye21=>(intro w0 hSw;obtain⟨hSw0,hSw1,hSw2,hSw3,hSw4⟩:=hSw;go_simp;try with_reducible rfl)
      (try simp only [ZH,ZE,ZF,ZG])
      refine ac (i:=22) (d:=58) (v:=?ve22) rfl rfl (by kernel_rfl) (by kernel_rfl) (by kernel_rfl) (fun _ _ _ h=>h) (by rfl) ?ye22 hHeld ?re22
      case ye22=>(intro w0 hSw;obtain⟨hSw0,hSw1,hSw2,hSw3,hSw4⟩:=hSw;go_simp;try with_reducible rfl)
      (try simp only [ZH,ZE,ZF,ZG])
      refine ac (i:=23) (d:=59) (v:=?ve23) rfl rfl (by kernel_rfl) (by kernel_rfl) (by kernel_rfl) (fun _ _ _ h=>h) (aB (j:=22) (d:=58) (want:=false) rfl rfl rfl) ?ye23 hHeld ?re23
      case ye23=>(intro w0 hSw;obtain⟨hSw0,hSw1,hSw2,hSw3,hSw4⟩:=hSw;go_simp;try with_reducible rfl)
      (try simp only [ZH,ZE,ZF,ZG])
      refine ac (i:=24) (d:=60) (v:=?ve24) rfl rfl (by kernel_rfl) (by kernel_rfl) (by kernel_rfl) (fun _ _ _ h=>h) (aB (j:=22) (d:=58) (want:=false) rfl rfl rfl) ?ye24 hHeld ?re24
      case ye24=>(intro w0 hSw;obtain⟨hSw0,hSw1,hSw2,hSw3,hSw4⟩:=hSw;go_simp;try with_reducible rfl)
      (try simp only [ZH,ZE,ZF,ZG])
      refine ac (i:=25) (d:=61) (v:=?ve25) rfl rfl (by kernel_rfl) (by kernel_rfl) (by kernel_rfl) (fun _ _ _ h=>h) (aB (j:=22) (d:=58) (want:=false) rfl rfl rfl) ?ye25 hHeld ?re25
      case ye25=>(intro w0 hSw;obtain⟨hSw0,hSw1,hSw2,hSw3,hSw4⟩:=hSw;go_simp;try with_reducible rfl)
      (try simp only [ZH,ZE,ZF,ZG])
      refine wpAnyH_ready (rs:=[26]) (by kernel_rfl) (by simp) ?_
      refine ZI (o:=_) rfl (fun K hK=>?_) ZJ
      go_simp
      refine(hroom _ (BD.trans (hB2.mono BD.size)) (hGD.below hB2)).mono ?_
      rintro e w3 ⟨rfl,hB3⟩;have P3:=aJ hB3 P2 (aG P2);have d0:=(aN P3).1;have d1:=(aN P3).2.1;have d2:=(aN P3).2.2.1;have d3:=(aN P3).2.2.2;have ep:=(hB3.cell (ZP (ZO hbr LD) hB2.size)).trans ep;refine hK.out _ _ (show _ from⟨d0,d1,d2,d3,ep⟩) (fun hHeld=>?_)
      clear hK K
      (try simp only [ZH,ZE,ZF,ZG])
      refine ac (i:=27) (d:=63) (v:=?ve26) rfl rfl (by kernel_rfl) (by kernel_rfl) (by kernel_rfl) (fun _ _ _ h=>h) (aB (j:=22) (d:=58) (want:=false) rfl rfl rfl) ?ye26 hHeld ?re26
      case ye26=>(intro w0 hSw;obtain⟨hSw0,hSw1,hSw2,hSw3,hSw4⟩:=hSw;go_simp;try with_reducible rfl)
      (try simp only [ZH,ZE,ZF,ZG])
      refine ac (i:=28) (d:=64) (v:=?ve27) rfl rfl (by kernel_rfl) (by kernel_rfl) (by kernel_rfl) (fun _ _ _ h=>h) (by rfl) ?ye27 hHeld ?re27
      case ye27=>(intro w0 hSw;obtain⟨hSw0,hSw1,hSw2,hSw3,hSw4⟩:=hSw;go_simp;try with_reducible rfl)
      (try simp only [ZH,ZE,ZF,ZG])
      refine wpAnyH_done (by kernel_rfl) ?_ _
      have BB2:=BD.trans (hB2.mono BD.size);have BB3:=BB2.trans (hB3.mono BB2.size);have hG3:=(hGD.below hB2).below hB3;have hmk:=Cu w3 w.heap.size g cap wd ht bs cs f hG3 hw8.2 hh8.2 (.slice pA l.length pc) n X.toNat Y.toNat a b2 t n hxa hyb (fun W hW=>by rw [HX.out,HYY.out];exact hszm W (BB3.trans (hW.mono BB3.size)));rw [HX.out,HYY.out] at hmk
      go_wp2_with (go_at_call 72;refine hmk.mono ?_;rintro e w4 ⟨rfl,hG4,hK4⟩)
      refine⟨⟨(j+1)+1,_,congrArg (Value.int .i64) (by omega),by omega,HY.out,hG4,BB3.trans (hK4.below BB3.size fun y hy=>(hG.row y hy).1)⟩,?_⟩
      show ps.length - (((j+1):Int)+1).toNat<ps.length - ((j+1):Int).toNat
      omega
    ·have hge:q≥n:=by omega
     have hno:chG l wd ht none (fun _ _=>-1) ps=none:=by
      rw [hch,hpq,chG,if_neg (by simp [Jy,hlt])]
     have HNO:Hid _:=hno;clear hch hno;refine wp_region_held_drew (S:=fun X2=>X2.cell? ⟨N,0,none⟩=some (.int .i64 n)∧X2.cell? ⟨N,1,none⟩=some (.int .i64 X)∧X2.cell? ⟨N,2,none⟩=some (.int .i64 Y)∧X2.cell? ⟨N,3,none⟩=some (.bool t)∧X2.cell? ⟨b,o+j*4,none⟩=some (.int .i64 q)) (by kernel_rfl) (show _ from⟨d0,d1,d2,d3,ep⟩) (fun hHeld=>?_)
     change wpAnyH _ _ _ _ _ 29 (ZL 29 false) _ _
     refine ac (i:=0) (d:=36) (v:=?vf1) rfl rfl (by kernel_rfl) (by kernel_rfl) (by kernel_rfl) (fun _ _ _ h=>h) (by rfl) ?yf1 hHeld ?rf1
     case yf1=>(intro w0 hSw;obtain⟨hSw0,hSw1,hSw2,hSw3,hSw4⟩:=hSw;go_simp;try with_reducible rfl)
     (try simp only [ZH,ZE,ZF,ZG])
     refine ac (i:=1) (d:=37) (v:=?vf2) rfl rfl (by kernel_rfl) (by kernel_rfl) (by kernel_rfl) (fun _ _ _ h=>h) (by rfl) ?yf2 hHeld ?rf2
     case yf2=>(intro w0 hSw;obtain⟨hSw0,hSw1,hSw2,hSw3,hSw4⟩:=hSw;go_simp;try with_reducible rfl)
     (try simp only [ZH,ZE,ZF,ZG])
     refine ac (i:=2) (d:=38) (v:=?vf3) rfl rfl (by kernel_rfl) (by kernel_rfl) (by kernel_rfl) (fun _ _ _ h=>h) (by rfl) ?yf3 hHeld ?rf3
     case yf3=>(intro w0 hSw;obtain⟨hSw0,hSw1,hSw2,hSw3,hSw4⟩:=hSw;go_simp;try with_reducible rfl)
     (try simp only [ZH,ZE,ZF,ZG])
     refine ac (i:=3) (d:=39) (v:=?vf4) rfl rfl (by kernel_rfl) (by kernel_rfl) (by kernel_rfl) (fun _ _ _ h=>h) (by rfl) ?yf4 hHeld ?rf4
     case yf4=>(intro w0 hSw;obtain⟨hSw0,hSw1,hSw2,hSw3,hSw4⟩:=hSw;go_simp;try with_reducible rfl)
     (try simp only [ZH,ZE,ZF,ZG])
     refine ac (i:=4) (d:=40) (v:=?vf5) rfl rfl (by kernel_rfl) (by kernel_rfl) (by kernel_rfl) (fun _ _ _ h=>h) (by rfl) ?yf5 hHeld ?rf5
     case yf5=>(intro w0 hSw;obtain⟨hSw0,hSw1,hSw2,hSw3,hSw4⟩:=hSw;go_simp;try with_reducible rfl)
     (try simp only [ZH,ZE,ZF,ZG])
     refine wpAnyH_ready (rs:=[5]) (by kernel_rfl) (by simp) ?_
     refine ZI (o:=_) rfl (fun K hK=>?_) ZJ
     go_simp
     refine(hwi1 _ BD).mono ?_
     rintro e w2 ⟨rfl,hB2⟩;have P2:=aJ hB2 PD LD;have d0:=(aN P2).1;have d1:=(aN P2).2.1;have d2:=(aN P2).2.2.1;have d3:=(aN P2).2.2.2;have ep:=(hB2.cell (ZO hbr LD)).trans epd;refine hK.out _ _ (show _ from⟨d0,d1,d2,d3,ep⟩) (fun hHeld=>?_)
     clear hK K
     (try simp only [ZH,ZE,ZF,ZG])
     refine ac (i:=6) (d:=42) (v:=?vf6) rfl rfl (by kernel_rfl) (by kernel_rfl) (by kernel_rfl) (fun _ _ _ h=>h) (by rfl) ?yf6 hHeld ?rf6
     case yf6=>(intro w0 hSw;obtain⟨hSw0,hSw1,hSw2,hSw3,hSw4⟩:=hSw;go_simp;try with_reducible rfl)
     (try simp only [ZH,ZE,ZF,ZG])
     refine ac (i:=7) (d:=43) (v:=?vf7) rfl rfl (by kernel_rfl) (by kernel_rfl) (by kernel_rfl) (fun _ _ _ h=>h) (by rfl) ?yf7 hHeld ?rf7
     case yf7=>(intro w0 hSw;obtain⟨hSw0,hSw1,hSw2,hSw3,hSw4⟩:=hSw;go_simp;try with_reducible rfl)
     (try simp only [ZH,ZE,ZF,ZG])
     refine ac (i:=8) (d:=44) (v:=?vf8) rfl rfl (by kernel_rfl) (by kernel_rfl) (by kernel_rfl) (fun _ _ _ h=>h) (aB (j:=7) (d:=43) (want:=false) rfl rfl rfl) ?yf8 hHeld ?rf8
     case yf8=>(intro w0 hSw;obtain⟨hSw0,hSw1,hSw2,hSw3,hSw4⟩:=hSw;go_simp;try with_reducible rfl)
     (try simp only [ZH,ZE,ZF,ZG])
     refine ac (i:=9) (d:=45) (v:=?vf9) rfl rfl (by kernel_rfl) (by kernel_rfl) (by kernel_rfl) (fun _ _ _ h=>h) (aB (j:=7) (d:=43) (want:=false) rfl rfl rfl) ?yf9 hHeld ?rf9
     case yf9=>(intro w0 hSw;obtain⟨hSw0,hSw1,hSw2,hSw3,hSw4⟩:=hSw;go_simp;try with_reducible rfl)
     (try simp only [ZH,ZE,ZF,ZG])
     refine ac (i:=10) (d:=46) (v:=?vf10) rfl rfl (by kernel_rfl) (by kernel_rfl) (by kernel_rfl) (fun _ _ _ h=>h) (aB (j:=7) (d:=43) (want:=false) rfl rfl rfl) ?yf10 hHeld ?rf10
     case yf10=>(intro w0 hSw;obtain⟨hSw0,hSw1,hSw2,hSw3,hSw4⟩:=hSw;go_simp;try with_reducible rfl)
     (try simp only [ZH,ZE,ZF,ZG])
     refine ac (i:=11) (d:=47) (v:=?vf11) rfl rfl (by kernel_rfl) (by kernel_rfl) (by kernel_rfl) (fun _ _ _ h=>h) (aB (j:=10) (d:=46) (want:=true) rfl rfl rfl) ?yf11 hHeld ?rf11
     case yf11=>(intro w0 hSw;obtain⟨hSw0,hSw1,hSw2,hSw3,hSw4⟩:=hSw;go_simp;try with_reducible rfl)
     (try simp only [ZH,ZE,ZF,ZG])
     refine ac (i:=12) (d:=48) (v:=?vf12) rfl rfl (by kernel_rfl) (by kernel_rfl) (by kernel_rfl) (fun _ _ _ h=>h) (aB (j:=10) (d:=46) (want:=true) rfl rfl rfl) ?yf12 hHeld ?rf12
     case yf12=>(intro w0 hSw;obtain⟨hSw0,hSw1,hSw2,hSw3,hSw4⟩:=hSw;go_simp;try with_reducible rfl)
     (try simp only [ZH,ZE,ZF,ZG])
     refine ac (i:=13) (d:=49) (v:=?vf13) rfl rfl (by kernel_rfl) (by kernel_rfl) (by kernel_rfl) (fun _ _ _ h=>h) (aB (j:=10) (d:=46) (want:=true) rfl rfl rfl) ?yf13 hHeld ?rf13
     case yf13=>(intro w0 hSw;obtain⟨hSw0,hSw1,hSw2,hSw3,hSw4⟩:=hSw;go_simp;try with_reducible rfl)
     (try simp only [ZH,ZE,ZF,ZG])
     refine ac (i:=14) (d:=50) (v:=?vf14) rfl rfl (by kernel_rfl) (by kernel_rfl) (by kernel_rfl) (fun _ _ _ h=>h) (aB (j:=10) (d:=46) (want:=true) rfl rfl rfl) ?yf14 hHeld ?rf14
     case yf14=>(intro w0 hSw;obtain⟨hSw0,hSw1,hSw2,hSw3,hSw4⟩:=hSw;go_simp;try with_reducible rfl)
     (try simp only [ZH,ZE,ZF,ZG])
     refine ac (i:=15) (d:=51) (v:=?vf15) rfl rfl (by kernel_rfl) (by kernel_rfl) (by kernel_rfl) (fun _ _ _ h=>h) (aB (j:=10) (d:=46) (want:=true) rfl rfl rfl) ?yf15 hHeld ?rf15
     case yf15=>(intro w0 hSw;obtain⟨hSw0,hSw1,hSw2,hSw3,hSw4⟩:=hSw;go_simp;try with_reducible rfl)
     (try simp only [ZH,ZE,ZF,ZG])
     refine ac (i:=16) (d:=52) (v:=?vf16) rfl rfl (by kernel_rfl) (by kernel_rfl) (by kernel_rfl) (fun _ _ _ h=>h) (aB (j:=10) (d:=46) (want:=true) rfl rfl rfl) ?yf16 hHeld ?rf16
     case yf16=>(intro w0 hSw;obtain⟨hSw0,hSw1,hSw2,hSw3,hSw4⟩:=hSw;go_simp;try with_reducible rfl)
     (try simp only [ZH,ZE,ZF,ZG])
     refine ac (i:=17) (d:=53) (v:=?vf17) rfl rfl (by kernel_rfl) (by kernel_rfl) (by kernel_rfl) (fun _ _ _ h=>h) (aB (j:=10) (d:=46) (want:=true) rfl rfl rfl) ?yf17 hHeld ?rf17
     case yf17=>(intro w0 hSw;obtain⟨hSw0,hSw1,hSw2,hSw3,hSw4⟩:=hSw;go_simp;try with_reducible rfl)
     (try simp only [ZH,ZE,ZF,ZG])
     refine ac (i:=18) (d:=54) (v:=?vf18) rfl rfl (by kernel_rfl) (by kernel_rfl) (by kernel_rfl) (fun _ _ _ h=>h) (aB (j:=10) (d:=46) (want:=true) rfl rfl rfl) ?yf18 hHeld ?rf18
     case yf18=>(intro w0 hSw;obtain⟨hSw0,hSw1,hSw2,hSw3,hSw4⟩:=hSw;go_simp;try with_reducible rfl)
     (try simp only [ZH,ZE,ZF,ZG])
     refine ac (i:=19) (d:=55) (v:=?vf19) rfl rfl (by kernel_rfl) (by kernel_rfl) (by kernel_rfl) (fun _ _ _ h=>h) (aB (j:=10) (d:=46) (want:=true) rfl rfl rfl) ?yf19 hHeld ?rf19
     case yf19=>(intro w0 hSw;obtain⟨hSw0,hSw1,hSw2,hSw3,hSw4⟩:=hSw;go_simp;try with_reducible rfl)
     (try simp only [ZH,ZE,ZF,ZG])
     refine ac (i:=20) (d:=56) (v:=?vf20) rfl rfl (by kernel_rfl) (by kernel_rfl) (by kernel_rfl) (fun _ _ _ h=>h) (aB (j:=7) (d:=43) (want:=false) rfl rfl rfl) ?yf20 hHeld ?rf20
     case yf20=>(intro w0 hSw;obtain⟨hSw0,hSw1,hSw2,hSw3,hSw4⟩:=hSw;go_simp;try with_reducible rfl)
     (try simp only [ZH,ZE,ZF,ZG])
     refine ac (i:=21) (d:=57) (v:=?vf21) rfl rfl (by kernel_rfl) (by kernel_rfl) (by kernel_rfl) (fun _ _ _ h=>h) (by rfl) ?yf21 hHeld ?rf21
     case yf21=>(intro w0 hSw;obtain⟨hSw0,hSw1,hSw2,hSw3,hSw4⟩:=hSw;go_simp;try with_reducible rfl)
     (try simp only [ZH,ZE,ZF,ZG])
     refine ac (i:=22) (d:=58) (v:=?vf22) rfl rfl (by kernel_rfl) (by kernel_rfl) (by kernel_rfl) (fun _ _ _ h=>h) (by rfl) ?yf22 hHeld ?rf22
     case yf22=>(intro w0 hSw;obtain⟨hSw0,hSw1,hSw2,hSw3,hSw4⟩:=hSw;go_simp;try with_reducible rfl)
     (try simp only [ZH,ZE,ZF,ZG])
     refine aO (i:=23) (d:=59) (j:=22) (e:=58) (want:=false) rfl rfl (by kernel_rfl) (by kernel_rfl) (by kernel_rfl) (fun _ _ _ h=>h) rfl rfl rfl rfl hHeld ?rf23
     (try simp only [ZH,ZE,ZF,ZG])
     refine aO (i:=24) (d:=60) (j:=22) (e:=58) (want:=false) rfl rfl (by kernel_rfl) (by kernel_rfl) (by kernel_rfl) (fun _ _ _ h=>h) rfl rfl rfl rfl hHeld ?rf24
     (try simp only [ZH,ZE,ZF,ZG])
     refine aO (i:=25) (d:=61) (j:=22) (e:=58) (want:=false) rfl rfl (by kernel_rfl) (by kernel_rfl) (by kernel_rfl) (fun _ _ _ h=>h) rfl rfl rfl rfl hHeld ?rf25
     (try simp only [ZH,ZE,ZF,ZG])
     refine aO (i:=26) (d:=62) (j:=22) (e:=58) (want:=false) rfl rfl (by kernel_rfl) (by kernel_rfl) (by kernel_rfl) (fun _ _ _ h=>h) rfl rfl rfl rfl hHeld ?rf26
     (try simp only [ZH,ZE,ZF,ZG])
     refine aO (i:=27) (d:=63) (j:=22) (e:=58) (want:=false) rfl rfl (by kernel_rfl) (by kernel_rfl) (by kernel_rfl) (fun _ _ _ h=>h) rfl rfl rfl rfl hHeld ?rf27
     (try simp only [ZH,ZE,ZF,ZG])
     refine ac (i:=28) (d:=64) (v:=?vf28) rfl rfl (by kernel_rfl) (by kernel_rfl) (by kernel_rfl) (fun _ _ _ h=>h) (by rfl) ?yf28 hHeld ?rf28
     case yf28=>(intro w0 hSw;obtain⟨hSw0,hSw1,hSw2,hSw3,hSw4⟩:=hSw;go_simp;try with_reducible rfl)
     (try simp only [ZH,ZE,ZF,ZG])
     refine wpAnyH_done (by kernel_rfl) ?_ _
     go_wp2
     go_ret2
     exact⟨BD.trans (hB2.mono BD.size),.inl ⟨HNO.out,rfl⟩⟩
  ·have hpi:¬(i:Int)<(ps.length:Int):=by omega
   have hdr:ps.drop i=[]:=List.drop_eq_nil_of_le (by omega);rw [hdr,chG] at hch
   go_wp2
   go_ret2
   exact⟨hB,.inr ⟨f,g,cap,bs,cs,rfl,rfl,hG⟩⟩
end Go.Proofs.YtccaheogjpfhjaaGreat

end
