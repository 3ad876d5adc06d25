/-
  A part of the proof: contracts and plain forms of functions beneath the statement, made small by a program (names shortened, what is not needed left out).
-/
import Derived.Test.YtkcojipciiakdaaDoorRows
import Derived.Test.YtkcojipciiakdaaDoorTie
import Derived.Test.YtkcojipciiakdaaDoorCards
import Derived.Test.YtkcojipciiakdaaDoorM6
import Derived.StillTailTactics
open List renaming setIfInBounds_toArray → JI, getElem?_eq_getElem → JJ, set_cons_zero → JK, set_cons_succ → JL, length_map → JU, mem_of_getElem? → JV, mem_of_mem_take → JX, mem_of_mem_drop → JY, replicate → JZ, append_assoc → Ke, getElem?_eq_some_iff → Kf, take_succ_cons → Ki, drop_succ_cons → Kj, length_take → Kl, length_drop → Km, mem_append → Kn, nil_append → Kq, take_zero → Kr, drop_zero → Ks
open Go.World renaming setCell → JM
open Option.some renaming inj → JN
open Nat renaming le_refl → JO, le_trans → JT, min_eq_left → Kp
open Go.Act renaming put → JP
open Go.Value renaming string → JQ, slice → Ka, int → Kb
open Bool renaming false_and → JR, false_eq_true → Kc
open Go.IntKind renaming i64 → JS
open Or renaming inl → JW
open Go.AllReadyH renaming cons → Kg, nil → Kh
open Go.Value.slice renaming injEq → Kk
open Go.RowKit.Below renaming refl → Ko
set_option maxRecDepth 100000
set_option linter.unusedSimpArgs false
set_option linter.unusedVariables false
noncomputable section
namespace Go.Proofs.YtkcojipciiakdaaDoor
open Go Go.Proofs Go.V Go.RowKit
set_option maxRecDepth 100000
variable {Z:Nat→Prop}
def fi (r p:Nat) (Vb Vf:Value) (ys:List Value):Nat→Prop:=fun b=>b=p∨b=r∨ShS Vb Vf ys b
structure SitP (Z:Nat→Prop) (w W:World) (q p:Nat) (c:Cur) (s:Sp) (A:Option Addr) (n k:Nat) (A':Option Addr) (n' k':Nat) (ys:List Value):Prop where
 box:W.heap[p]?=some (.cells #[.slice A n k,.slice A' n' k',.int .i64 s.2.2.1,.int .i64 s.2.2.2] 26 (0,0))
 shop:ShopAt W (w.heap.size+1) (.agg #[.slice A n k,.slice A' n' k',.int .i64 s.2.2.1,.int .i64 s.2.2.2]) (.slice A n k) (.slice A' n' k') ys s
 np:¬ShS (.slice A n k) (.slice A' n' k') ys p
 ge:w.heap.size+1≤p
 res:W.heap[w.heap.size]?=some (.cells #[.slice none 0 0,.slice none 0 0,.int .i64 0,.int .i64 0] 26 (0,0))
 cur:dY Z W q (fi w.heap.size p (.slice A n k) (.slice A' n' k') ys) (aP c)
 kept:KeptX (fun b=>b=q) w W
 qlt:q<w.heap.size
 zlt:∀b,Z b→b<w.heap.size
section
variable {w W W':World} {q p:Nat} {c c':Cur} {s:Sp} {A A':Option Addr} {n k n' k':Nat} {ys:List Value}
theorem SitP.lt (h:SitP Z w W q p c s A n k A' n' k' ys):∀b,fi w.heap.size p (.slice A n k) (.slice A' n' k') ys b→w.heap.size≤b∧b<W.heap.size:=by
 rintro b (rfl | rfl | hb)
 ·exact⟨by have:=h.ge;omega,bz h.box⟩
 ·exact⟨JO _,bz h.res⟩
 ·have:=h.shop.lt b hb
  exact⟨by omega,this.2⟩
theorem SitP.nq (h:SitP Z w W q p c s A n k A' n' k' ys):¬fi w.heap.size p (.slice A n k) (.slice A' n' k') ys q:=fun hb=>by
 have:=h.lt q hb;have:=h.qlt;omega
theorem SitP.hS (h:SitP Z w W q p c s A n k A' n' k' ys):∀b,fi w.heap.size p (.slice A n k) (.slice A' n' k') ys b→b<W.heap.size:=fun b hb=>(h.lt b hb).2
theorem SitP.hZ (h:SitP Z w W q p c s A n k A' n' k' ys):∀b,Z b→b<W.heap.size:=fun b hb=>by
 have:=h.zlt b hb;have:=h.hS w.heap.size (.inr (.inl rfl));omega
theorem SitP.move (h:SitP Z w W q p c s A n k A' n' k' ys) (hC:dY Z W' q (fi w.heap.size p (.slice A n k) (.slice A' n' k') ys) (aP c')) (hk:KeptX (fun b=>b=q) W W'):SitP Z w W' q p c' s A n k A' n' k' ys:=by
 have hq:=h.qlt;have hg:=h.ge;refine⟨(hk.block p (bz h.box) (by omega)).trans h.box,h.shop.keep fun b hb=>?_,h.np,hg,(hk.block _ (bz h.res) (by omega)).trans h.res,hC,h.kept.trans hk,hq,h.zlt⟩
 have:=h.shop.lt b hb;exact hk.block b this.2 (by omega)
theorem SitP.below (h:SitP Z w W q p c s A n k A' n' k' ys) (hB:Below W.heap.size W W'):SitP Z w W' q p c s A n k A' n' k' ys :=
 ⟨Below.some hB h.box,h.shop.below hB,h.np,h.ge,Below.some hB h.res,h.cur.below hB fun b hb=>.inl hb,h.kept.trans ⟨hB.os,hB.tape,hB.output,hB.size,fun b hb _=>hB.block b hb⟩,h.qlt,h.zlt⟩
theorem SitP.cell (h:SitP Z w W q p c s A n k A' n' k' ys) (j:Nat) (v:Value) (x y:Int)
  (hc:(#[.slice A n k,.slice A' n' k',.int .i64 s.2.2.1,.int .i64 s.2.2.2]:Array Value).setIfInBounds j v=#[.slice A n k,.slice A' n' k',.int .i64 x,.int .i64 y]) :
  SitP Z w (W.setCell ⟨p,j,none⟩ v) q p c (s.1,s.2.1,x,y) A n k A' n' k' ys:=by
 have hg:=h.ge;have hs:∀b,ShS (.slice A n k) (.slice A' n' k') ys b→(W.setCell ⟨p,j,none⟩ v).heap[b]?=W.heap[b]?:=fun b hb=>heap_setCell_other _ _ _ _ fun e=>h.np (by have e':p=b:=e.symm;rw [e'];exact hb)
 have h1:=h.shop.keep hs;have hb:=heap_setCell_same _ _ j _ _ v h.box;rw [hc] at hb;exact⟨hb,⟨rfl,h1.box,h1.bge,h1.fms,h1.dis⟩,h.np,hg,(heap_setCell_other _ _ _ _ (by simp;omega)).trans h.res,h.cur.set h.nq _ _ (.inl rfl),⟨h.kept.os,h.kept.tape,h.kept.output,by have:=h.kept.size;simp [JM];omega,fun b hb hn=>(heap_setCell_other _ _ _ _ (by show b≠p;omega)).trans (h.kept.block b hb hn)⟩,h.qlt,h.zlt⟩
theorem SitP.row (h:SitP Z w W q p c s A n k A' n' k' ys) {a:Addr} {v:Value} {l:List Bx} (ha:aM (.slice A n k) a.block) (ho:bh (W.setCell a v) (fun _=>False) (aM (.slice A n k)) 4 (bxs l) (.slice A n k)) :
  SitP Z w (W.setCell a v) q p c (l,s.2) A n k A' n' k' ys:=by
 have hg:=h.ge;have hap:a.block≠p:=fun e=>h.np (e ▸ .inl ha)
 have har:=(h.shop.lt _ (.inl ha)).1;have hf:FmsAt (W.setCell a v) (w.heap.size+1) (.slice A' n' k') ys s.2.1:=h.shop.fms.keep fun b hb=>heap_setCell_other _ _ _ _ fun e=>h.shop.dis _ ha (e ▸ hb)
 exact⟨(heap_setCell_other _ _ _ _ fun e=>hap e.symm).trans h.box,⟨rfl,ho,h.shop.bge,hf,h.shop.dis⟩,h.np,hg,(heap_setCell_other _ _ _ _ (by omega)).trans h.res,h.cur.set h.nq _ _ (.inr (.inr (.inl ha))),
  ⟨h.kept.os,h.kept.tape,h.kept.output,by have:=h.kept.size;simp [JM];omega,fun b hb hn=>(heap_setCell_other _ _ _ _ (by omega)).trans (h.kept.block b hb hn)⟩,h.qlt,h.zlt⟩
theorem SitP.forms' (h:SitP Z w W q p c s A n k A' n' k' ys) {A2:Option Addr} {n2 k2:Nat} {ys2:List Value} {l:List Fm} (hW:KeptX (FmS (.slice A' n' k') ys) W W') (hf:FmsAt W' (w.heap.size+1) (.slice A2 n2 k2) ys2 l)
  (hp2:¬FmS (.slice A2 n2 k2) ys2 p) (hd:∀b,aM (.slice A n k) b→¬FmS (.slice A2 n2 k2) ys2 b) (hC:dY Z W' q (fun b=>fi w.heap.size p (.slice A n k) (.slice A' n' k') ys b∨fi w.heap.size p (.slice A n k) (.slice A2 n2 k2) ys2 b) (aP c)) :
  SitP Z w (W'.setCell ⟨p,1,none⟩ (.slice A2 n2 k2)) q p c (s.1,l,s.2.2.1,s.2.2.2) A n k A2 n2 k2 ys2:=by
 have hg:=h.ge;have hpl:=bz h.box;have hrl:=bz h.res;have hb1:W'.heap[p]?=_:=(hW.block p hpl fun h1=>h.np (.inr h1)).trans h.box;have hr1:W'.heap[w.heap.size]?=_:=(hW.block _ hrl fun h1=>by have:=(h.shop.lt _ (.inr h1)).1;omega).trans h.res;have hb2:=heap_setCell_same _ _ 1 _ _ (.slice A2 n2 k2) hb1;have ho1:=aY (w':=W') h.shop.box fun b hb=>hW.block b (h.shop.lt b (.inl hb)).2 (h.shop.dis b hb)
 have ho2:=aY (w':=W'.setCell ⟨p,1,none⟩ (.slice A2 n2 k2)) ho1 fun b hb=>heap_setCell_other _ _ _ _ fun e=>h.np (by have e':p=b:=e.symm;rw [e'];exact .inl hb)
 have hf2:=hf.keep (w':=W'.setCell ⟨p,1,none⟩ (.slice A2 n2 k2)) fun b hb=>heap_setCell_other _ _ _ _ fun e=>hp2 (by have e':p=b:=e.symm;rw [e'];exact hb)
 have hq2:¬(fi w.heap.size p (.slice A n k) (.slice A' n' k') ys q∨fi w.heap.size p (.slice A n k) (.slice A2 n2 k2) ys2 q):=fun hb=>by
  have hq:=h.qlt;rcases hb with hb | rfl | hb | hb | hb
  ·exact h.nq hb
  ·omega
  ·omega
  ·have:=(h.shop.lt q (.inl hb)).1
   omega
  ·have:=(hf.lt q hb).1
   omega
 have hC3:=hC.set hq2 ⟨p,1,none⟩ (.slice A2 n2 k2) (.inl (.inl rfl));exact⟨hb2,⟨rfl,ho2,h.shop.bge,hf2,hd⟩,fun hb=>by
   rcases hb with hb | hb
   ·exact h.np (.inl hb)
   ·exact hp2 hb,hg,(heap_setCell_other _ _ _ _ (by show w.heap.size≠p;omega)).trans hr1,hC3.more fun b hb=>.inl (.inr hb),
  ⟨hW.os.trans h.kept.os,hW.tape.trans h.kept.tape,hW.output.trans h.kept.output,by have:=h.kept.size;have:=hW.size;simp [JM];omega,fun b hb hn=>by
   have hlt:b<W.heap.size:=by have:=h.kept.size;omega
   exact(heap_setCell_other _ _ _ _ (by show b≠p;omega)).trans ((hW.block b hlt fun h1=>by have:=(h.shop.lt b (.inr h1)).1;omega).trans (h.kept.block b hb hn))⟩,h.qlt,h.zlt⟩
theorem SitP.forms (h:SitP Z w W q p c s A n k A' n' k' ys) {A2:Option Addr} {n2 k2:Nat} {ys2:List Value} {l:List Fm} (hW:KeptX (FmS (.slice A' n' k') ys) W W') (hf:FmsAt W' (w.heap.size+1) (.slice A2 n2 k2) ys2 l)
  (hsub:∀b,FmS (.slice A2 n2 k2) ys2 b→FmS (.slice A' n' k') ys b∨W.heap.size≤b) :
  SitP Z w (W'.setCell ⟨p,1,none⟩ (.slice A2 n2 k2)) q p c (s.1,l,s.2.2.1,s.2.2.2) A n k A2 n2 k2 ys2:=by
 have hg:=h.ge;have hpl:=bz h.box;have hp2:¬FmS (.slice A2 n2 k2) ys2 p:=fun hb=>by
  rcases hsub p hb with h1 | h1
  ·exact h.np (.inr h1)
  ·omega
 have hC1:=h.cur.more (T:=fun b=>fi w.heap.size p (.slice A n k) (.slice A' n' k') ys b∨fi w.heap.size p (.slice A n k) (.slice A2 n2 k2) ys2 b) (fun b hb=>by
  rcases hb with hb | rfl | rfl | hb | hb
  ·exact .inl hb
  ·exact .inl (.inl rfl)
  ·exact .inl (.inr (.inl rfl))
  ·exact .inl (.inr (.inr (.inl hb)))
  ·exact(hsub b hb).imp (fun h=>.inr (.inr (.inr h))) id)
 have hq2:¬(fi w.heap.size p (.slice A n k) (.slice A' n' k') ys q∨fi w.heap.size p (.slice A n k) (.slice A2 n2 k2) ys2 q):=fun hb=>by
  have hq:=h.qlt;rcases hb with hb | rfl | hb | hb | hb
  ·exact h.nq hb
  ·omega
  ·omega
  ·have:=(h.shop.lt q (.inl hb)).1
   omega
  ·have:=(hf.lt q hb).1
   omega
 have hC2:=hC1.kept (w':=W') hq2 hW.size fun b hb hn=>hW.block b hb fun h1=>hn (.inl (.inr (.inr (.inr h1))))
 refine h.forms' hW hf hp2 (fun b hb hf=>?_) hC2
 rcases hsub b hf with h1 | h1
 ·exact h.shop.dis b hb h1
 ·have:=(h.shop.lt b (.inl hb)).2
  omega
theorem SitP.snoc (h:SitP Z w W q p c s A n k A' n' k' ys) {W2:World} {o:Obj} {A2:Option Addr} {n2 k2:Nat} {x:Fm} (hx:x.2.1=[])
  (hown:W2.ownsRow (w.heap.size+1) 42 4 (.slice A2 n2 k2) (s.2.1.length+1) (bK s.2.1 ys++dL x (.slice none 0 0))) (hg:(W.alloc o).grownBy W2 (Ka A' n' k').ownBlock)
  (ha:(Ka A2 n2 k2).ownBlock=(Ka A' n' k').ownBlock∨(Ka A2 n2 k2).ownBlock=some (W.alloc o).heap.size) :
  SitP Z w (W2.setCell ⟨p,1,none⟩ (.slice A2 n2 k2)) q p c (s.1,s.2.1++[x],s.2.2.1,s.2.2.2) A n k A2 n2 k2 (ys++[.slice none 0 0]):=by
 have hs:W.heap.size≤(W.alloc o).heap.size:=by simp
 have hrl:=h.hS w.heap.size (.inr (.inl rfl));have hf:=en (x:=x) (y:=.slice none 0 0) ((h.below (aD W o)).shop.fms) (by omega) hown hg ha (by rw [hx];exact⟨[],rfl,by simp,.inl ⟨rfl,rfl⟩⟩) (fun b hb=>by cases hb);refine h.forms ((KeptX.ofBelow (aD W o)).trans (pT hg fun b hb=>.inl hb)) hf fun b hb=>?_
 rcases hb with hb | ⟨y,hy,hb⟩
 ·rcases ha with ha | ha
  ·have hb':(Ka A2 n2 k2).ownBlock=some b:=hb
   rw [ha] at hb';exact .inl (.inl hb')
  ·have hb':some b=some (W.alloc o).heap.size:=hb.symm.trans ha
   cases hb';exact .inr hs
 ·rcases Kn.1 hy with hy | hy
  ·exact .inl (.inr ⟨y,hy,hb⟩)
  ·simp at hy
   subst hy;cases hb
theorem SitP.sole (h:SitP Z w W q p c s A n k A' n' k' ys) {x:Fm} {y:Value} (hy:bh W (fun _=>False) (aM y) 1 (txs x.2.1) y) (hyb:∀b,aM y b→w.heap.size+1≤b∧b≠p∧¬aM (.slice A n k) b) (hC:dY Z W q (fun b=>fi w.heap.size p (.slice A n k) (.slice A' n' k') ys b∨aM y b) (aP c)) :
  SitP Z w ((W.alloc (.cells (dL x y).toArray 42)).setCell ⟨p,1,none⟩ (.slice (some ⟨W.heap.size,0,none⟩) 1 1)) q p c (s.1,[x],s.2.2.1,s.2.2.2) A n k (some ⟨W.heap.size,0,none⟩) 1 1 [y]:=by
 have hrl:=h.hS w.heap.size (.inr (.inl rfl));have hpl:=h.hS p (.inl rfl);have hlt:=dy hy;have hy1:=aY (w':=W.alloc (.cells (dL x y).toArray 42)) hy fun b hb=>(aD W _).block b (hlt b hb)
 have hsub:∀b,FmS (.slice (some ⟨W.heap.size,0,none⟩) 1 1) [y] b→b=W.heap.size∨aM y b:=fun b hb=>by
  rcases hb with hb | ⟨z,hz,hb⟩
  ·exact .inl (JN hb).symm
  ·simp at hz
   subst hz;exact .inr hb
 refine h.forms' (KeptX.ofBelow (aD W _)) ⟨rfl,⟨rfl,.inr ⟨W.heap.size,1,_,rfl,by omega,al _ rfl,JO _,by unfold maxLen;omega,rfl,by simp [bK,dL]⟩⟩,fun i x' y' hx hy'=>?_,fun i y' b hy' hb=>?_,fun i j y' z hij hi hj=>?_⟩ (fun hb=>?_) (fun b hb hf=>?_) (hC.below (aD W _) fun b hb=>?_)
 ·match i,hx,hy' with
  | 0,hx,hy' =>
   cases hx;cases hy';exact hy1
 ·match i,hy' with
  | 0,hy' =>
   cases hy';refine⟨(hyb b hb).1,fun e=>?_⟩
   have e':W.heap.size=b:=JN e;have:=hlt b hb;omega
 ·have h1:=(Kf.1 hi).1
  have h2:=(Kf.1 hj).1;simp at h1 h2;omega
 ·rcases hsub p hb with h1 | h1
  ·omega
  ·exact(hyb p h1).2.1 rfl
 ·rcases hsub b hf with h1 | h1
  ·have:=(h.shop.lt b (.inl hb)).2
   omega
  ·exact(hyb b h1).2.2 hb
 ·rcases hb with hb | rfl | rfl | hb | hb
  ·exact .inl (.inl hb)
  ·exact .inl (.inl (.inl rfl))
  ·exact .inl (.inl (.inr (.inl rfl)))
  ·exact .inl (.inl (.inr (.inr (.inl hb))))
  ·rcases hsub b hb with h1 | h1
   ·exact .inr (by omega)
   ·exact .inl (.inr h1)
theorem uS {w:World} {l:List Bx} {A:Option Addr} {n k:Nat} (h:bh w (fun _=>False) (aM (.slice A n k)) 4 (bxs l) (.slice A n k)) {i:Nat} (hi:i<l.length) :
  ∃g o,A=some ⟨g,o,none⟩∧n=l.length∧w.cell? ⟨g,o+i*4,none⟩=some (.string l[i].1)∧w.cell? ⟨g,o+i*4+3,none⟩=some (.int .i64 l[i].2.2.2)∧w.frozen? ⟨g,o+i*4+3,none⟩=false ∧
   ∀v:Int,bh (w.setCell ⟨g,o+i*4+3,none⟩ (.int .i64 v)) (fun _=>False) (aM (.slice A n k)) 4 (bxs (l.set i (pO l[i] v))) (.slice A n k):=by
 have hrep:=rO h (F':=fun _=>True) (fun _ h=>h.elim) fun _ _=>trivial
 obtain⟨l',e,hw,hd⟩:=h;cases e;rcases hd with ⟨_,hd⟩ | ⟨g,o,c,us,cs,e,h4,h5,h6,h7,h8,h9,h10⟩
 ·simp at hd
  subst hd;simp at hi
 simp only [Kk] at h4;obtain⟨rfl,rfl,rfl⟩:=h4;have hcell:∀(j:Nat) (u:Value),us[j]?=some u→w.cell? ⟨g,o+j,none⟩=some u:=fun j u hu=>by
  simp [World.cell?,h6,h9 j u hu]
 obtain⟨P,M,Q,rfl,hp,hm,hc,hP,hQ⟩:=nN (z:=4) _ _ h8 hw i (bx l[i]) (by simp [hi]);simp only [RepC,aw,aJ] at hc;obtain⟨⟨v1,v2,rfl,⟨rfl,_⟩,v3,v4,rfl,⟨rfl,_⟩,v5,v6,rfl,⟨rfl,_⟩,v7,v8,rfl,⟨rfl,_⟩,rfl⟩,_⟩:=hc;have get:∀j,j<4→(P++([JQ l[i].1]++([Kb .i64 l[i].2.1]++([Kb .i64 l[i].2.2.1]++([Kb .i64 l[i].2.2.2]++[]))))++Q)[i*4+j]?=[JQ l[i].1,.int .i64 l[i].2.1,.int .i64 l[i].2.2.1,.int .i64 l[i].2.2.2][j]?:=fun j hj=>by
  rw [Ke,List.getElem?_append_right (by omega),hp,show i*4+j - i*4=j by omega,List.getElem?_append_left (by simp;omega)];rfl
 refine⟨g,o,rfl,by simp,?_,?_,Lib.frozen_of_heap h6 _,fun v=>⟨(l.set i (pO l[i] v)).map bx,rfl,fun d hd=>?_,.inr ⟨g,o,k,P++[JQ l[i].1,.int .i64 l[i].2.1,.int .i64 l[i].2.2.1,.int .i64 v]++Q,_,_,by simp,by simpa using h5,heap_setCell_same _ _ _ _ _ _ h6,by rw [Array.size_setIfInBounds];exact h7,?_,fun j u hu=>?_,rfl⟩⟩⟩
 ·have:=hcell (i*4) _ (by have:=get 0 (by omega);simpa using this)
  simpa using this
 ·have:=hcell (i*4+3) _ (by have:=get 3 (by omega);simpa using this)
  rw [←Nat.add_assoc] at this;exact this
 ·obtain⟨x,_,rfl⟩:=List.mem_map.1 hd
  rfl
 ·have e:(l.set i (pO l[i] v)).map bx=(l.map bx).take i++(bx (pO l[i] v)::(l.map bx).drop (i+1)):=by
   rw [List.set_eq_take_append_cons_drop,if_pos hi];simp
  rw [e,cC];refine⟨P,[JQ l[i].1,.int .i64 l[i].2.1,.int .i64 l[i].2.2.1,.int .i64 v]++Q,by simp,aX (fun _ h=>h) (fun b hb=>hb.elim) _ _ hP,aw.2 ⟨_,Q,rfl,?_,aX (fun _ h=>h) (fun b hb=>hb.elim) _ _ hQ⟩⟩
  simp only [RepC,aw,aJ,pO];exact⟨⟨_,_,rfl,⟨rfl,rfl⟩,_,_,rfl,⟨rfl,rfl⟩,_,_,rfl,⟨rfl,rfl⟩,_,_,rfl,⟨rfl,rfl⟩,rfl⟩,rfl⟩
 ·have hset:P++[JQ l[i].1,.int .i64 l[i].2.1,.int .i64 l[i].2.2.1,.int .i64 v]++Q=(P++([JQ l[i].1]++([Kb .i64 l[i].2.1]++([Kb .i64 l[i].2.2.1]++([Kb .i64 l[i].2.2.2]++[]))))++Q).set (i*4+3) (.int .i64 v):=by
   rw [Ke,Ke,List.set_append_right _ _ (by omega),hp,show i*4+3 - i*4=3 by omega];rfl
  rw [hset,List.getElem?_set] at hu;rw [Array.getElem?_setIfInBounds];by_cases e:i*4+3=j
  ·subst e
   rw [if_pos rfl] at hu;split at hu
   ·cases hu
    rw [if_pos (by omega),if_pos];have:=h9 (i*4+3) _ (by have:=get 3 (by omega);simpa using this);have:=(Array.getElem?_eq_some_iff.1 this).1;omega
   ·cases hu
  ·rw [if_neg e] at hu
   rw [if_neg (by omega)];exact h9 j u hu
end
theorem Cs {w:World} {l:List Bx} {g o:Nat} {n k:Nat} (h:bh w (fun _=>False) (aM (.slice (some ⟨g,o,none⟩) n k)) 4 (bxs l) (.slice (some ⟨g,o,none⟩) n k)) (hi:0<l.length) :
  w.cell? ⟨g,o,none⟩=some (.string l[0].1)∧w.cell? ⟨g,o+3,none⟩=some (.int .i64 l[0].2.2.2)∧w.frozen? ⟨g,o+3,none⟩=false ∧
   ∀v:Int,bh (w.setCell ⟨g,o+3,none⟩ (.int .i64 v)) (fun _=>False) (aM (.slice (some ⟨g,o,none⟩) n k)) 4 (bxs (l.set 0 (pO (l.getD 0 zBx) v))) (.slice (some ⟨g,o,none⟩) n k):=by
 obtain⟨g',o',e,_,c0,c3,fz,hset⟩:=uS h hi;simp only [Option.some.injEq,Addr.mk.injEq,and_true] at e;obtain⟨rfl,rfl⟩:=e;simp only [Nat.zero_mul,Nat.add_zero] at c0 c3 fz hset;have hg0:l.getD 0 zBx=l[0]:=by rw [List.getD_eq_getElem?_getD,JJ hi];rfl
 rw [hg0];exact⟨c0,c3,fz,hset⟩
def Jy:Value→Nat
 | .slice _ n _=>n
 | _=>0
theorem CF {w:World} {B N:Nat} {v:Value} {c:ByteArray} (h:w.ownsRow B 9 1 v N (JZ N (.string c))):bh w (fun _=>False) (aM v) 1 (txs (JZ N c)) v :=
 mb (w0:=w) (F:=fun _=>False) (l:=(JZ N c).map T) h (by simp) (fun d hd=>by
  obtain⟨x,_,rfl⟩:=List.mem_map.1 hd;rfl) (by
  have:=wa (w:=w) (F:=fun _=>False) (JZ N c);rw [List.map_replicate (f:=JQ)] at this;exact this) BU
theorem w64 (n:Int):RowKit.wrap64 n=JS.wrap n:=by
 rw [IntKind.wrap_i64];unfold RowKit.wrap64;omega
theorem cD {w:World} {g:Nat} {x0 x1 x2 x3:Value} {t:TypeId} (h:w.heap[g]?=some (.cells #[x0,x1,x2,x3] t (0,0))):(w.cell? ⟨g,0,none⟩=some x0∧w.cell? ⟨g,1,none⟩=some x1)∧(w.cell? ⟨g,2,none⟩=some x2∧w.cell? ⟨g,3,none⟩=some x3) :=
 ⟨⟨(ab h).1,(ab h).2.1⟩,(ab h).2.2.1,(ab h).2.2.2⟩
theorem ShopAt.base {w:World} {B C:Nat} {v Vb Vf:Value} {ys:List Value} {s:Sp} (h:ShopAt w B v Vb Vf ys s) (hC:C≤B):ShopAt w C v Vb Vf ys s :=
 ⟨h.val,h.box,fun b hb=>JT hC (h.bge b hb),h.fms.base hC,h.dis⟩
structure NextP (Z:Nat→Prop) (w W:World) (q p q6:Nat) (c:Cur) (M:Nat→Prop) (s:Sp) (A:Option Addr) (n k:Nat) (A':Option Addr) (n' k':Nat) (ys:List Value):Prop where
 box:W.heap[q6]?=some (.cells #[.slice A n k,.slice A' n' k',.int .i64 s.2.2.1,.int .i64 s.2.2.2] 26 (0,0))
 shop:ShopAt W (w.heap.size+1) (.agg #[.slice A n k,.slice A' n' k',.int .i64 s.2.2.1,.int .i64 s.2.2.2]) (.slice A n k) (.slice A' n' k') ys s
 np:¬ShS (.slice A n k) (.slice A' n' k') ys p
 nq:¬ShS (.slice A n k) (.slice A' n' k') ys q6
 ge:q6≠p∧q6≠w.heap.size∧q6≠q
 cur:dY Z W q (fun b=>M b∨b=q6∨ShS (.slice A n k) (.slice A' n' k') ys b) (aP c)
theorem SitP.swap {w W:World} {q p q6:Nat} {c:Cur} {s t:Sp} {A A' B B':Option Addr} {n k n' k' m j m' j':Nat} {ys zs:List Value} (h:SitP Z w W q p c s A n k A' n' k' ys) (hn:NextP Z w W q p q6 c (fi w.heap.size p (.slice A n k) (.slice A' n' k') ys) t B m j B' m' j' zs) :
  SitP Z w ((((W.setCell ⟨p,0,none⟩ (.slice B m j)).setCell ⟨p,1,none⟩ (.slice B' m' j')).setCell ⟨p,2,none⟩ (.int .i64 t.2.2.1)).setCell ⟨p,3,none⟩ (.int .i64 t.2.2.2)) q p c t B m j B' m' j' zs:=by
 have hg:=h.ge;have hq:=h.qlt;have hb:=aK (.slice B m j) (.slice B' m' j') (.int .i64 t.2.2.1) (.int .i64 t.2.2.2) h.box;have hs:=hn.shop.set4 (g:=p) (.slice B m j) (.slice B' m' j') (.int .i64 t.2.2.1) (.int .i64 t.2.2.2) fun b hb e=>hn.np (by rw [e];exact hb)
 have hnq:¬(fi w.heap.size p (.slice A n k) (.slice A' n' k') ys q∨q=q6∨ShS (.slice B m j) (.slice B' m' j') zs q):=fun hb=>by
  rcases hb with hb | hb | hb
  ·exact h.nq hb
  ·exact hn.ge.2.2 hb.symm
  ·have:=(hn.shop.lt q hb).1
   omega
 have hc:=(((hn.cur.set hnq ⟨p,0,none⟩ (.slice B m j) (.inl (.inl rfl))).set hnq ⟨p,1,none⟩ (.slice B' m' j') (.inl (.inl rfl))).set hnq ⟨p,2,none⟩ (.int .i64 t.2.2.1) (.inl (.inl rfl))).set hnq ⟨p,3,none⟩ (.int .i64 t.2.2.2) (.inl (.inl rfl));refine⟨hb,hs,hn.np,hg,(kg _ _ _ _ (by omega)).trans h.res,hc.more fun b hb=>?_,⟨h.kept.os,h.kept.tape,h.kept.output,by have:=h.kept.size;simp [JM];omega,fun b hb hn=>(kg _ _ _ _ (by omega)).trans (h.kept.block b hb hn)⟩,hq,h.zlt⟩
 rcases hb with rfl | rfl | hb
 ·exact .inl (.inl (.inl rfl))
 ·exact .inl (.inl (.inr (.inl rfl)))
 ·exact .inl (.inr (.inr hb))
theorem SitP.other4 {w W:World} {q p g:Nat} {c:Cur} {s:Sp} {A A':Option Addr} {n k n' k':Nat} {ys:List Value} (x0 x1 x2 x3:Value) (h:SitP Z w W q p c s A n k A' n' k' ys) (hg:¬fi w.heap.size p (.slice A n k) (.slice A' n' k') ys g) (hgw:w.heap.size≤g)
  (hc:dY Z ((((W.setCell ⟨g,0,none⟩ x0).setCell ⟨g,1,none⟩ x1).setCell ⟨g,2,none⟩ x2).setCell ⟨g,3,none⟩ x3) q (fi w.heap.size p (.slice A n k) (.slice A' n' k') ys) (aP c)) :
  SitP Z w ((((W.setCell ⟨g,0,none⟩ x0).setCell ⟨g,1,none⟩ x1).setCell ⟨g,2,none⟩ x2).setCell ⟨g,3,none⟩ x3) q p c s A n k A' n' k' ys :=
 ⟨(kg _ _ _ _ fun e=>hg (.inl e)).trans h.box,h.shop.set4 _ _ _ _ fun b hb e=>hg (e ▸ .inr (.inr hb)),h.np,h.ge,(kg _ _ _ _ fun e=>hg (.inr (.inl e))).trans h.res,hc,
  ⟨h.kept.os,h.kept.tape,h.kept.output,by have:=h.kept.size;simp [JM];omega,fun b hb hn=>(kg _ _ _ _ (by omega)).trans (h.kept.block b hb hn)⟩,h.qlt,h.zlt⟩
theorem SitP.done {w W:World} {q p:Nat} {c:Cur} {s:Sp} {A A':Option Addr} {n k n' k':Nat} {ys:List Value} (x0 x1 x2 x3:Value) (h:SitP Z w W q p c s A n k A' n' k' ys) :
  ShopAt ((((W.setCell ⟨w.heap.size,0,none⟩ x0).setCell ⟨w.heap.size,1,none⟩ x1).setCell ⟨w.heap.size,2,none⟩ x2).setCell ⟨w.heap.size,3,none⟩ x3) w.heap.size (.agg #[.slice A n k,.slice A' n' k',.int .i64 s.2.2.1,.int .i64 s.2.2.2]) (.slice A n k) (.slice A' n' k') ys s ∧
  dY Z ((((W.setCell ⟨w.heap.size,0,none⟩ x0).setCell ⟨w.heap.size,1,none⟩ x1).setCell ⟨w.heap.size,2,none⟩ x2).setCell ⟨w.heap.size,3,none⟩ x3) q (ShS (.slice A n k) (.slice A' n' k') ys) (aP c) ∧
  KeptX (fun b=>b=q) w ((((W.setCell ⟨w.heap.size,0,none⟩ x0).setCell ⟨w.heap.size,1,none⟩ x1).setCell ⟨w.heap.size,2,none⟩ x2).setCell ⟨w.heap.size,3,none⟩ x3) :=
 ⟨(h.shop.set4 _ _ _ _ fun b hb e=>by have:=(h.shop.lt b hb).1;omega).base (by omega),
  ((((h.cur.set h.nq ⟨w.heap.size,0,none⟩ x0 (.inr (.inl rfl))).set h.nq ⟨w.heap.size,1,none⟩ x1 (.inr (.inl rfl))).set h.nq ⟨w.heap.size,2,none⟩ x2 (.inr (.inl rfl))).set h.nq ⟨w.heap.size,3,none⟩ x3 (.inr (.inl rfl))).more fun b hb=>.inl (.inr (.inr hb)),
  ⟨h.kept.os,h.kept.tape,h.kept.output,by have:=h.kept.size;simp [JM];omega,fun b hb hn=>(kg _ _ _ _ (by omega)).trans (h.kept.block b hb hn)⟩⟩
def lenAt (W:World) (p:Nat):Nat:=match W.cell? ⟨p,1,none⟩ with
 | some (.slice _ n _)=>n
 | _=>0
theorem SitP.lenAt {w W:World} {q p:Nat} {c:Cur} {s:Sp} {A A':Option Addr} {n k n' k':Nat} {ys:List Value} (h:SitP Z w W q p c s A n k A' n' k' ys):lenAt W p=s.2.1.length∧n'=s.2.1.length:=by
 have h1:=(ab h.box).2.1;obtain⟨fA,fc,e⟩:=cB h.shop.fms.own;simp only [Kk] at e;obtain⟨-,rfl,-⟩:=e;unfold Go.Proofs.YtkcojipciiakdaaDoor.lenAt;rw [h1];exact⟨rfl,rfl⟩
def Jh (Z:Nat→Prop) (w W:World) (q p:Nat) (c:Cur) (s:Sp):Prop:=∃A n k A' n' k' ys,SitP Z w W q p c s A n k A' n' k' ys
def DoC (Z:Nat→Prop) (w:World) (q p:Nat) (c:Cur) (s t:Sp) (ok:Bool) (A:Option Addr) (n k:Nat) (A':Option Addr) (n' k':Nat) (ys:List Value) (t6 t7:Value) (W:World):Prop :=
 ∃q6 B m j B' m' j' zs,t6 = .pointer (some ⟨q6,0,none⟩)∧t7 = .bool ok∧SitP Z w W q p c s A n k A' n' k' ys∧NextP Z w W q p q6 c (fi w.heap.size p (.slice A n k) (.slice A' n' k') ys) t B m j B' m' j' zs
end Go.Proofs.YtkcojipciiakdaaDoor

namespace Go.Proofs.YtkcojipciiakdaaDoor
open Go Go.Proofs Go.V Go.RowKit
set_option maxRecDepth 100000
set_option maxHeartbeats 8000000 in
set_option maxRecDepth 1000000 in
theorem DP (s:Sp) (hs:cm s) (hok:aE s=true) (id:Int) (u:ByteArray) (n:Int) (hx:gw (3,id,u,n)=true) (w:World) (B:Nat) (v Vb Vf:Value) (ys:List Value) (hS0:ShopAt w B v Vb Vf ys s) (hB:B≤w.heap.size) :
  Calls Tryd.prog 68 #[v,stV (3,id,u,n)] w (pN w B (ShS Vb Vf ys) (gC s.2.1 id&&jn s (atF s.2.1 id) (3,id,u,n)) (nI s (atF s.2.1 id) (3,id,u,n))):=by
 obtain⟨hfm,hgc,_,hlost⟩:=bu hok;obtain rfl:=hS0.val;obtain⟨bA,bn,bc,rfl⟩:=bQ hS0.box;obtain⟨fA,fc,rfl⟩:=cB hS0.fms.own;have hlt0:=hS0.lt
 go_enter Tryd.func68,Tryd.ntmps68
 go_upto_region 1 with fail
 have hW:Below w.heap.size w (((w.alloc (.cells #[.slice bA bn bc,.slice fA s.2.1.length fc,.int .i64 s.2.2.1,.int .i64 s.2.2.2] 26)).alloc (.cells #[.int .i64 3,.int .i64 id,.string u,.int .i64 n] 91)).alloc (.cells #[.slice none 0 0,.slice none 0 0,.int .i64 0,.int .i64 0] 26)):=((Ko _ w).alloc (JO _) _).alloc (by simp) _ |>.alloc (by simp;omega) _;have hWs:w.heap.size+3≤(((w.alloc (.cells #[.slice bA bn bc,.slice fA s.2.1.length fc,.int .i64 s.2.2.1,.int .i64 s.2.2.2] 26)).alloc (.cells #[.int .i64 3,.int .i64 id,.string u,.int .i64 n] 91)).alloc (.cells #[.slice none 0 0,.slice none 0 0,.int .i64 0,.int .i64 0] 26)).heap.size:=by simp
 have hp:(((w.alloc (.cells #[.slice bA bn bc,.slice fA s.2.1.length fc,.int .i64 s.2.2.1,.int .i64 s.2.2.2] 26)).alloc (.cells #[.int .i64 3,.int .i64 id,.string u,.int .i64 n] 91)).alloc (.cells #[.slice none 0 0,.slice none 0 0,.int .i64 0,.int .i64 0] 26)).heap[w.heap.size]?=some (.cells #[.slice bA bn bc,.slice fA s.2.1.length fc,.int .i64 s.2.2.1,.int .i64 s.2.2.2] 26 (0,0)):=aj _ (aj _ (al _ rfl));have hq:(((w.alloc (.cells #[.slice bA bn bc,.slice fA s.2.1.length fc,.int .i64 s.2.2.1,.int .i64 s.2.2.2] 26)).alloc (.cells #[.int .i64 3,.int .i64 id,.string u,.int .i64 n] 91)).alloc (.cells #[.slice none 0 0,.slice none 0 0,.int .i64 0,.int .i64 0] 26)).heap[w.heap.size+1]?=some (.cells #[.int .i64 3,.int .i64 id,.string u,.int .i64 n] 91 (0,0)):=aj _ (al _ (by simp));have hr:(((w.alloc (.cells #[.slice bA bn bc,.slice fA s.2.1.length fc,.int .i64 s.2.2.1,.int .i64 s.2.2.2] 26)).alloc (.cells #[.int .i64 3,.int .i64 id,.string u,.int .i64 n] 91)).alloc (.cells #[.slice none 0 0,.slice none 0 0,.int .i64 0,.int .i64 0] 26)).heap[w.heap.size+1+1]?=some (.cells #[.slice none 0 0,.slice none 0 0,.int .i64 0,.int .i64 0] 26 (0,0)):=al _ (by simp);have hS:=hS0.below hW;generalize (((w.alloc (.cells #[.slice bA bn bc,.slice fA s.2.1.length fc,.int .i64 s.2.2.1,.int .i64 s.2.2.2] 26)).alloc (.cells #[.int .i64 3,.int .i64 id,.string u,.int .i64 n] 91)).alloc (.cells #[.slice none 0 0,.slice none 0 0,.int .i64 0,.int .i64 0] 26))=W at *;have hc:=jg s id hs hok hS.rep (fun b hb=>(hS.lt b hb).2);obtain⟨e0,e1,e2,e3⟩:=ab hp;obtain⟨f0,f1,f2,f3⟩:=ab hq;cases hh:gC s.2.1 id
 ·rw [hh] at hc
  simp only [Kc,if_false] at hc;have hhH:Hid (gC s.2.1 id=false):=hh
  go_upto_region 4 with (go_at_call 38;refine hc.mono ?_;rintro e w2 ⟨rfl,b2⟩)
  have B2:KeptX (ShS (.slice bA bn bc) (.slice fA s.2.1.length fc) ys) w w2:=(KeptX.ofBelow hW).step b2;have hr2:=Below.some b2 hr;clear hc hS hS0 hfm hgc hlt0 hs hok hx hlost hh;refine wp_region_still_lit (by kernel_rfl) (by kernel_rfl) (WS.out ?_)
  refine WS.step (fun K hK=>WG.mk ?_)
  go_simp
  refine hK.out _ ?_
  clear hK K;refine WS.step (fun K hK=>WG.mk ?_)
  go_simp
  refine hK.out _ ?_
  clear hK K;refine WS.step (fun K hK=>WG.mk ?_)
  go_simp
  refine hK.out _ ?_
  clear hK K;refine WS.step (fun K hK=>WG.mk ?_)
  go_simp
  refine hK.out _ ?_
  clear hK K;refine WS.step (fun K hK=>WG.mk ?_)
  go_simp
  refine hK.out _ ?_
  clear hK K;refine WS.step (fun K hK=>WG.mk ?_)
  go_simp
  refine hK.out _ ?_
  clear hK K;refine WS.step (fun K hK=>WG.mk ?_)
  go_simp
  refine hK.out _ ?_
  clear hK K;refine WS.step (fun K hK=>WG.mk ?_)
  go_simp
  refine hK.out _ ?_
  clear hK K;refine WS.step (fun K hK=>WG.mk ?_)
  go_simp
  refine hK.out _ ?_
  clear hK K;refine WS.step (fun K hK=>WG.mk ?_)
  go_simp
  refine hK.out _ ?_
  clear hK K;refine WS.step (fun K hK=>WG.mk ?_)
  go_simp
  refine hK.out _ ?_
  clear hK K;refine WS.step (fun K hK=>WG.mk ?_)
  go_simp
  refine hK.out _ ?_
  clear hK K;refine WS.step (fun K hK=>WG.mk ?_)
  go_simp
  refine hK.out _ ?_
  clear hK K;refine WS.step (fun K hK=>WG.mk ?_)
  go_simp
  refine hK.out _ ?_
  clear hK K;refine WS.step (fun K hK=>WG.mk ?_)
  go_simp
  refine hK.out _ ?_
  clear hK K;refine WS.step (fun K hK=>WG.mk ?_)
  go_simp
  refine hK.out _ ?_
  clear hK K;refine WS.step (fun K hK=>WG.mk ?_)
  go_simp
  refine hK.out _ ?_
  clear hK K;refine WS.step (fun K hK=>WG.mk ?_)
  go_simp
  refine hK.out _ ?_
  clear hK K;refine WS.step (fun K hK=>WG.mk ?_)
  go_simp
  refine hK.out _ ?_
  clear hK K;refine WS.nil ?_
  change Exit.then _ _ _ _ w2.drew
  have B3:KeptX (ShS (.slice bA bn bc) (.slice fA s.2.1.length fc) ys) w w2.drew:=B2.step (ac w2);have hr3:=Below.some (ac w2) hr2;generalize w2.drew=w3 at *;obtain⟨g0,g1,g2,g3⟩:=ab hr3;obtain⟨j0,j1,j2,j3⟩:=aZ hr3
  go_wp2
  obtain⟨d0,d1,d2,d3⟩:=ab (aK (.slice none 0 0) (.slice none 0 0) (.int .i64 0) (.int .i64 0) hr3);refine bodyPost_ret (by simp [results,Tryd.results68,go_sem,d0,d1,d2,d3];try rfl) rfl ?_
  rw [hhH.out,JR];exact er B3 (by omega)
 rw [hh] at hc;simp only [if_true] at hc;have hhH:Hid (gC s.2.1 id=true):=hh;obtain⟨hi,-⟩:=lX hh;obtain⟨i,hati⟩:∃i,i=atF s.2.1 id:=⟨_,rfl⟩
 rw [←hati] at hc hi;have hatH:Hid (i=atF s.2.1 id):=hati;clear hati;have haS:nI s i (3,id,u,n)=(s.1,s.2.1.set i (s.2.1[i].1,s.2.1[i].2.1,s.2.1[i].2.2.1,s.2.1[i].2.2.2+n),s.2.2.1,s.2.2.2+n):=by
  unfold nI;rw [JJ hi];simp
 have haO:jn s i (3,id,u,n)=s.2.1[i].2.2.1:=by
  unfold jn;rw [JJ hi];simp
 have haSH:Hid _:=haS;have haOH:Hid _:=haO;have hfi:=hfm i hi
 go_upto_region 4 with (go_at_call 38;refine hc.mono ?_;rintro e w2 ⟨rfl,b2⟩)
 have B2:KeptX (ShS (.slice bA bn bc) (.slice fA s.2.1.length fc) ys) w w2:=(KeptX.ofBelow hW).step b2;have hp2:=Below.some b2 hp;have hq2:=Below.some b2 hq;have hr2:=Below.some b2 hr;have hS2:=hS.below b2;have hs2:=b2.size;clear hc hS hS0 haS haO hW b2 hp hq hr e0 e1 e2 e3 f0 f1 f2 f3 hh;obtain⟨g,rfl⟩:=gT hS2.fms.own (by omega);have hgl:=hlt0 g (.inr (.inl rfl));have hgx:s.2.1[i]?=some s.2.1[i]:=JJ hi;have hpi:(i:Int)<(s.2.1.length:Int):=by omega
 have hset:=ed hfi;have hprt:=bM hfi;obtain⟨f,hf⟩:∃f,f=s.2.1[i]:=⟨_,rfl⟩
 rw [←hf] at hfi hgx hset hprt haOH haSH;obtain⟨y,hy⟩:∃y,ys[i]?=some y:=⟨ys[i]'(by rw [hS2.fms.len];exact hi),JJ _⟩
 have k2:=aW hS2.fms.own (j:=i*4+2) (u:=.bool f.2.2.1) (by rw [be _ _ i f _ hgx hy 2 (by omega)];rfl);obtain⟨e0,e1,e2,e3⟩:=ab hp2;obtain⟨f0,f1,f2,f3⟩:=ab hq2;have hnn:¬((i:Int)<0):=by omega
 cases hb:f.2.2.1
 ·rw [hb] at k2
  have hbH:Hid _:=hb;clear hb;refine wp_region_still_lit (by kernel_rfl) (by kernel_rfl) (WS.out ?_)
  refine WS.step (fun K hK=>WG.mk ?_)
  go_simp
  refine hK.out _ ?_
  clear hK K;refine WS.step (fun K hK=>WG.mk ?_)
  go_simp
  refine hK.out _ ?_
  clear hK K;refine WS.step (fun K hK=>WG.mk ?_)
  go_simp
  refine hK.out _ ?_
  clear hK K;refine WS.step (fun K hK=>WG.mk ?_)
  go_simp
  refine hK.out _ ?_
  clear hK K;refine WS.step (fun K hK=>WG.mk ?_)
  go_simp
  refine hK.out _ ?_
  clear hK K;refine WS.step (fun K hK=>WG.mk ?_)
  go_simp
  refine hK.out _ ?_
  clear hK K;refine WS.step (fun K hK=>WG.mk ?_)
  go_simp
  refine hK.out _ ?_
  clear hK K;refine WS.step (fun K hK=>WG.mk ?_)
  go_simp
  refine hK.out _ ?_
  clear hK K;refine WS.step (fun K hK=>WG.mk ?_)
  go_simp
  refine hK.out _ ?_
  clear hK K;refine WS.step (fun K hK=>WG.mk ?_)
  go_simp
  refine hK.out _ ?_
  clear hK K;refine WS.step (fun K hK=>WG.mk ?_)
  go_simp
  refine hK.out _ ?_
  clear hK K;refine WS.step (fun K hK=>WG.mk ?_)
  go_simp
  refine hK.out _ ?_
  clear hK K;refine WS.step (fun K hK=>WG.mk ?_)
  go_simp
  refine hK.out _ ?_
  clear hK K;refine WS.step (fun K hK=>WG.mk ?_)
  go_simp
  refine hK.out _ ?_
  clear hK K;refine WS.step (fun K hK=>WG.mk ?_)
  go_simp
  refine hK.out _ ?_
  clear hK K;refine WS.step (fun K hK=>WG.mk ?_)
  go_simp
  refine hK.out _ ?_
  clear hK K;refine WS.step (fun K hK=>WG.mk ?_)
  go_simp
  refine hK.out _ ?_
  clear hK K;refine WS.step (fun K hK=>WG.mk ?_)
  go_simp
  refine hK.out _ ?_
  clear hK K;refine WS.step (fun K hK=>WG.mk ?_)
  go_simp
  refine hK.out _ ?_
  clear hK K;refine WS.nil ?_
  change Exit.then _ _ _ _ w2.drew
  have B3:KeptX (ShS (.slice bA bn bc) (.slice (some ⟨g,0,none⟩) s.2.1.length fc) ys) w w2.drew:=B2.step (ac w2);have hr3:=Below.some (ac w2) hr2;generalize w2.drew=w3 at *;obtain⟨g0,g1,g2,g3⟩:=ab hr3;obtain⟨j0,j1,j2,j3⟩:=aZ hr3
  go_wp2
  obtain⟨d0,d1,d2,d3⟩:=ab (aK (.slice none 0 0) (.slice none 0 0) (.int .i64 0) (.int .i64 0) hr3);refine bodyPost_ret (by simp [results,Tryd.results68,go_sem,d0,d1,d2,d3];try rfl) rfl ?_
  rw [hhH.out,←hatH.out,haOH.out,hbH.out];exact er B3 (by omega)
 ·rw [hb] at k2
  have hbH:Hid _:=hb;clear hb;refine wp_region_still_lit (by kernel_rfl) (by kernel_rfl) (WS.out ?_)
  refine WS.step (fun K hK=>WG.mk ?_)
  go_simp
  refine hK.out _ ?_
  clear hK K;refine WS.step (fun K hK=>WG.mk ?_)
  go_simp
  refine hK.out _ ?_
  clear hK K;refine WS.step (fun K hK=>WG.mk ?_)
  go_simp
  refine hK.out _ ?_
  clear hK K;refine WS.step (fun K hK=>WG.mk ?_)
  go_simp
  refine hK.out _ ?_
  clear hK K;refine WS.step (fun K hK=>WG.mk ?_)
  go_simp
  refine hK.out _ ?_
  clear hK K;refine WS.step (fun K hK=>WG.mk ?_)
  go_simp
  refine hK.out _ ?_
  clear hK K;refine WS.step (fun K hK=>WG.mk ?_)
  go_simp
  refine hK.out _ ?_
  clear hK K;refine WS.step (fun K hK=>WG.mk ?_)
  go_simp
  refine hK.out _ ?_
  clear hK K;refine WS.step (fun K hK=>WG.mk ?_)
  go_simp
  refine hK.out _ ?_
  clear hK K;refine WS.step (fun K hK=>WG.mk ?_)
  go_simp
  refine hK.out _ ?_
  clear hK K;refine WS.step (fun K hK=>WG.mk ?_)
  go_simp
  refine hK.out _ ?_
  clear hK K;refine WS.step (fun K hK=>WG.mk ?_)
  go_simp
  refine hK.out _ ?_
  clear hK K;refine WS.step (fun K hK=>WG.mk ?_)
  go_simp
  refine hK.out _ ?_
  clear hK K;refine WS.step (fun K hK=>WG.mk ?_)
  go_simp
  refine hK.out _ ?_
  clear hK K;refine WS.step (fun K hK=>WG.mk ?_)
  go_simp
  refine hK.out _ ?_
  clear hK K;refine WS.step (fun K hK=>WG.mk ?_)
  go_simp
  refine hK.out _ ?_
  clear hK K;refine WS.step (fun K hK=>WG.mk ?_)
  go_simp
  refine hK.out _ ?_
  clear hK K;refine WS.step (fun K hK=>WG.mk ?_)
  go_simp
  refine hK.out _ ?_
  clear hK K;refine WS.step (fun K hK=>WG.mk ?_)
  go_simp
  refine hK.out _ ?_
  clear hK K;refine WS.nil ?_
  change Exit.then _ _ _ _ w2.drew
  have B3:KeptX (ShS (.slice bA bn bc) (.slice (some ⟨g,0,none⟩) s.2.1.length fc) ys) w w2.drew:=B2.step (ac w2);have hp3:=Below.some (ac w2) hp2;have hq3:=Below.some (ac w2) hq2;have hr3:=Below.some (ac w2) hr2;have hS3:=hS2.below (ac w2);have hs3:w.heap.size+3≤w2.drew.heap.size:=JT hWs hs2;clear k2 e0 e1 e2 e3 f0 f1 f2 f3 hp2 hq2 hr2 hS2 B2 hWs hs2;generalize w2.drew=w3 at *;clear w2 W;have hF:=hS3.fms;have hrow:=hF.row i _ y hgx hy;obtain⟨Ay,cy,rfl⟩:=gA hrow;rw [JU] at hy hrow;have k1:=aW hF.own (j:=i*4+1) (u:=.slice Ay f.2.1.length cy) (by rw [be _ _ i f _ hgx hy 1 (by omega)];rfl);have k2:=aW hF.own (j:=i*4+2) (u:=.bool f.2.2.1) (by rw [be _ _ i f _ hgx hy 2 (by omega)];rfl);rw [hbH.out] at k2;have k3:=aW hF.own (j:=i*4+3) (u:=.int .i64 f.2.2.2) (by rw [be _ _ i f _ hgx hy 3 (by omega)];rfl);have z1:=cG hF.own (i*4+1);have z2:=cG hF.own (i*4+2);have z3:=cG hF.own (i*4+3);have hgp:g≠w.heap.size:=by omega
  have hfe:s.2.1[i]=f:=hf.symm;clear hf;have hcel:=fun(k:Nat) (v:Value) (x':Fm) hk hx hc=>iC hF hi hy (x':=x') (k:=k) (v:=v) hk hx hc
  rw [hfe] at hcel;obtain⟨e0,e1,e2,e3⟩:=ab hp3;obtain⟨f0,f1,f2,f3⟩:=ab hq3;have hwy:∀b,aM (.slice Ay f.2.1.length cy) b→b≠g:=fun b hb e=>(hF.blk i _ b hy hb).2 (by rw [e];rfl)
  have hn:=FW hx rfl;have hsh:=AA hok;have hw1:JS.wrap (f.2.2.2+n)=f.2.2.2+n:=ax (by simp only at hn;omega) (by simp only at hn;omega);have hw2:JS.wrap (s.2.2.2+n)=s.2.2.2+n:=ax (by simp only at hn;omega) (by simp only at hn;omega)
  go_upto_region 16 with fail
  refine wp_region_still_tail 7 (by kernel_rfl) (by kernel_rfl) (WS.out ?_)
  simp only [Ki,Kr,Kj,Ks];refine WS.step (fun K hK=>WG.mk ?_)
  go_simp
  refine hK.out _ ?_
  clear hK K;refine WS.step (fun K hK=>WG.mk ?_)
  go_simp
  refine hK.out _ ?_
  clear hK K;refine WS.step (fun K hK=>WG.mk ?_)
  go_simp
  refine hK.out _ ?_
  clear hK K;refine WS.step (fun K hK=>WG.mk ?_)
  go_simp
  refine hK.out _ ?_
  clear hK K;refine WS.step (fun K hK=>WG.mk ?_)
  go_simp
  refine hK.out _ ?_
  clear hK K;refine WS.step (fun K hK=>WG.mk ?_)
  go_simp
  refine hK.out _ ?_
  clear hK K;refine WS.step (fun K hK=>WG.mk ?_)
  go_simp
  refine hK.out _ ?_
  clear hK K;refine WS.nil ?_
  change wpList _ _ _ _ _ w3.drew
  have B4:KeptX (ShS (.slice bA bn bc) (.slice (some ⟨g,0,none⟩) s.2.1.length fc) ys) w w3.drew:=B3.step (ac w3);have hp4:=Below.some (ac w3) hp3;have hq4:=Below.some (ac w3) hq3;have hr4:=Below.some (ac w3) hr3;have hS4:=hS3.below (ac w3);have hs4:w.heap.size+3≤w3.drew.heap.size:=hs3;clear hcel e0 e1 e2 e3 f0 f1 f2 f3 k1 k2 k3 z1 z2 z3 hp3 hq3 hr3 hF hrow hS3 B3 hs3 hwy;generalize w3.drew=w4 at *;have k3:=aW hS4.fms.own (j:=i*4+3) (u:=.int .i64 f.2.2.2) (by rw [be _ _ i f _ hgx hy 3 (by omega)];rfl);have z3:=cG hS4.fms.own (i*4+3);have hF5:=iC hS4.fms hi hy (x':=(f.1,f.2.1,f.2.2.1,f.2.2.2+n)) (k:=3) (v:=.int .i64 (f.2.2.2+n)) (by omega) (by rw [hfe]) (by rw [hfe];rfl)
  go_upto_region 17 with fail
  have hp5:(w4.setCell ⟨g,i*4+3,none⟩ (.int .i64 (f.2.2.2+n))).heap[w.heap.size]?=_:=(heap_setCell_other _ _ _ _ (by simp;omega)).trans hp4;have hq5:(w4.setCell ⟨g,i*4+3,none⟩ (.int .i64 (f.2.2.2+n))).heap[w.heap.size+1]?=_:=(heap_setCell_other _ _ _ _ (by simp;omega)).trans hq4;have hr5:(w4.setCell ⟨g,i*4+3,none⟩ (.int .i64 (f.2.2.2+n))).heap[w.heap.size+1+1]?=_:=(heap_setCell_other _ _ _ _ (by simp;omega)).trans hr4;have B5:KeptX (ShS (.slice bA bn bc) (.slice (some ⟨g,0,none⟩) s.2.1.length fc) ys) w (w4.setCell ⟨g,i*4+3,none⟩ (.int .i64 (f.2.2.2+n))):=B4.setO _ _ (.inl (.inr (.inl rfl)));have hv5:∀b,aM (.slice bA bn bc) b→(w4.setCell ⟨g,i*4+3,none⟩ (.int .i64 (f.2.2.2+n))).heap[b]?=w4.heap[b]?:=fun b hb=>heap_setCell_other _ _ _ _ (by
   have:=hS4.dis b hb;simp;exact fun e=>this (.inl (by rw [e];rfl)))
  have hs5:w4.heap.size≤(w4.setCell ⟨g,i*4+3,none⟩ (.int .i64 (f.2.2.2+n))).heap.size:=by simp [JM]
  clear k3 z3 hp4 hq4 hr4 B4;generalize w4.setCell ⟨g,i*4+3,none⟩ (.int .i64 (f.2.2.2+n))=w5 at *;obtain⟨e0,e1,e2,e3⟩:=ab hp5;obtain⟨f0,f1,f2,f3⟩:=ab hq5;obtain⟨j0,j1,j2,j3⟩:=aZ hp5
  go_upto_region 25 with fail
  clear e0 e1 e2 e3 f0 f1 f2 f3 j0 j1 j2 j3;have hlt4:=hS4.lt;have hpz:(w5.setCell ⟨w.heap.size,3,none⟩ (.int .i64 (s.2.2.2+n))).heap[w.heap.size]?=some (.cells #[.slice bA bn bc,.slice (some ⟨g,0,none⟩) s.2.1.length fc,.int .i64 s.2.2.1,.int .i64 (s.2.2.2+n)] 26 (0,0)):=heap_setCell_same _ _ 3 _ _ (.int .i64 (s.2.2.2+n)) hp5;have hrz:(w5.setCell ⟨w.heap.size,3,none⟩ (.int .i64 (s.2.2.2+n))).heap[w.heap.size+1+1]?=_:=(heap_setCell_other _ _ _ _ (by simp;omega)).trans hr5;have hk:∀b,b<w.heap.size→(w5.setCell ⟨w.heap.size,3,none⟩ (.int .i64 (s.2.2.2+n))).heap[b]?=w5.heap[b]?:=fun b hb=>heap_setCell_other _ _ _ _ (by simp;omega)
  obtain⟨hSz,hShz⟩:=re (w':=w5.setCell ⟨w.heap.size,3,none⟩ (.int .i64 (s.2.2.2+n))) (x:=s.2.2.1) (y:=s.2.2.2+n) hS4 (fun b hb=>(hk b (hlt0 b (.inl hb)).2).trans (hv5 b hb)) (hF5.keep fun b hb=>hk b (hlt0 b (.inr hb)).2) (fun b hb=>.inl hb);have Bz:KeptX (ShS (.slice bA bn bc) (.slice (some ⟨g,0,none⟩) s.2.1.length fc) ys) w (w5.setCell ⟨w.heap.size,3,none⟩ (.int .i64 (s.2.2.2+n))):=B5.setO _ _ (.inr (JO _));have hszz:w4.heap.size≤(w5.setCell ⟨w.heap.size,3,none⟩ (.int .i64 (s.2.2.2+n))).heap.size:=by simp [JM];exact hs5
  obtain⟨a0,a1,a2,a3⟩:=ab hpz;obtain⟨g0,g1,g2,g3⟩:=ab hrz;obtain⟨j0,j1,j2,j3⟩:=aZ hrz
  go_wp2
  obtain⟨d0,d1,d2,d3⟩:=ab (aK (.slice bA bn bc) (.slice (some ⟨g,0,none⟩) s.2.1.length fc) (.int .i64 s.2.2.1) (.int .i64 (s.2.2.2+n)) hrz);refine bodyPost_ret (by simp [results,Tryd.results68,go_sem,d0,d1,d2,d3];try rfl) rfl ?_
  rw [hhH.out,←hatH.out,haOH.out,hbH.out,haSH.out];exact kZ hSz Bz (by omega) (fun b hb=>by
   rcases hShz b hb with h | h
   ·have:=hlt0 b h
    omega
   ·omega) (fun b hb=>(hShz b hb).imp (fun h=>h) fun h=>by omega)
set_option maxRecDepth 100000
set_option maxHeartbeats 8000000 in
set_option maxRecDepth 1000000 in
theorem DQ (s:Sp) (hs:cm s) (hok:aE s=true) (id:Int) (u:ByteArray) (n:Int) (hx:gw (5,id,u,n)=true) (w:World) (B:Nat) (v Vb Vf:Value) (ys:List Value) (hS0:ShopAt w B v Vb Vf ys s) (hB:B≤w.heap.size) :
  Calls Tryd.prog 68 #[v,stV (5,id,u,n)] w (pN w B (ShS Vb Vf ys) (gC s.2.1 id&&jn s (atF s.2.1 id) (5,id,u,n)) (nI s (atF s.2.1 id) (5,id,u,n))):=by
 obtain⟨hfm,hgc,_,hlost⟩:=bu hok;obtain rfl:=hS0.val;obtain⟨bA,bn,bc,rfl⟩:=bQ hS0.box;obtain⟨fA,fc,rfl⟩:=cB hS0.fms.own;have hlt0:=hS0.lt
 go_enter Tryd.func68,Tryd.ntmps68
 go_upto_region 1 with fail
 have hW:Below w.heap.size w (((w.alloc (.cells #[.slice bA bn bc,.slice fA s.2.1.length fc,.int .i64 s.2.2.1,.int .i64 s.2.2.2] 26)).alloc (.cells #[.int .i64 5,.int .i64 id,.string u,.int .i64 n] 91)).alloc (.cells #[.slice none 0 0,.slice none 0 0,.int .i64 0,.int .i64 0] 26)):=((Ko _ w).alloc (JO _) _).alloc (by simp) _ |>.alloc (by simp;omega) _;have hWs:w.heap.size+3≤(((w.alloc (.cells #[.slice bA bn bc,.slice fA s.2.1.length fc,.int .i64 s.2.2.1,.int .i64 s.2.2.2] 26)).alloc (.cells #[.int .i64 5,.int .i64 id,.string u,.int .i64 n] 91)).alloc (.cells #[.slice none 0 0,.slice none 0 0,.int .i64 0,.int .i64 0] 26)).heap.size:=by simp
 have hp:(((w.alloc (.cells #[.slice bA bn bc,.slice fA s.2.1.length fc,.int .i64 s.2.2.1,.int .i64 s.2.2.2] 26)).alloc (.cells #[.int .i64 5,.int .i64 id,.string u,.int .i64 n] 91)).alloc (.cells #[.slice none 0 0,.slice none 0 0,.int .i64 0,.int .i64 0] 26)).heap[w.heap.size]?=some (.cells #[.slice bA bn bc,.slice fA s.2.1.length fc,.int .i64 s.2.2.1,.int .i64 s.2.2.2] 26 (0,0)):=aj _ (aj _ (al _ rfl));have hq:(((w.alloc (.cells #[.slice bA bn bc,.slice fA s.2.1.length fc,.int .i64 s.2.2.1,.int .i64 s.2.2.2] 26)).alloc (.cells #[.int .i64 5,.int .i64 id,.string u,.int .i64 n] 91)).alloc (.cells #[.slice none 0 0,.slice none 0 0,.int .i64 0,.int .i64 0] 26)).heap[w.heap.size+1]?=some (.cells #[.int .i64 5,.int .i64 id,.string u,.int .i64 n] 91 (0,0)):=aj _ (al _ (by simp));have hr:(((w.alloc (.cells #[.slice bA bn bc,.slice fA s.2.1.length fc,.int .i64 s.2.2.1,.int .i64 s.2.2.2] 26)).alloc (.cells #[.int .i64 5,.int .i64 id,.string u,.int .i64 n] 91)).alloc (.cells #[.slice none 0 0,.slice none 0 0,.int .i64 0,.int .i64 0] 26)).heap[w.heap.size+1+1]?=some (.cells #[.slice none 0 0,.slice none 0 0,.int .i64 0,.int .i64 0] 26 (0,0)):=al _ (by simp);have hS:=hS0.below hW;generalize (((w.alloc (.cells #[.slice bA bn bc,.slice fA s.2.1.length fc,.int .i64 s.2.2.1,.int .i64 s.2.2.2] 26)).alloc (.cells #[.int .i64 5,.int .i64 id,.string u,.int .i64 n] 91)).alloc (.cells #[.slice none 0 0,.slice none 0 0,.int .i64 0,.int .i64 0] 26))=W at *;have hc:=jg s id hs hok hS.rep (fun b hb=>(hS.lt b hb).2);obtain⟨e0,e1,e2,e3⟩:=ab hp;obtain⟨f0,f1,f2,f3⟩:=ab hq;cases hh:gC s.2.1 id
 ·rw [hh] at hc
  simp only [Kc,if_false] at hc;have hhH:Hid (gC s.2.1 id=false):=hh
  go_upto_region 4 with (go_at_call 38;refine hc.mono ?_;rintro e w2 ⟨rfl,b2⟩)
  have B2:KeptX (ShS (.slice bA bn bc) (.slice fA s.2.1.length fc) ys) w w2:=(KeptX.ofBelow hW).step b2;have hr2:=Below.some b2 hr;clear hc hS hS0 hfm hgc hlt0 hs hok hx hlost hh;refine wp_region_still_lit (by kernel_rfl) (by kernel_rfl) (WS.out ?_)
  refine WS.step (fun K hK=>WG.mk ?_)
  go_simp
  refine hK.out _ ?_
  clear hK K;refine WS.step (fun K hK=>WG.mk ?_)
  go_simp
  refine hK.out _ ?_
  clear hK K;refine WS.step (fun K hK=>WG.mk ?_)
  go_simp
  refine hK.out _ ?_
  clear hK K;refine WS.step (fun K hK=>WG.mk ?_)
  go_simp
  refine hK.out _ ?_
  clear hK K;refine WS.step (fun K hK=>WG.mk ?_)
  go_simp
  refine hK.out _ ?_
  clear hK K;refine WS.step (fun K hK=>WG.mk ?_)
  go_simp
  refine hK.out _ ?_
  clear hK K;refine WS.step (fun K hK=>WG.mk ?_)
  go_simp
  refine hK.out _ ?_
  clear hK K;refine WS.step (fun K hK=>WG.mk ?_)
  go_simp
  refine hK.out _ ?_
  clear hK K;refine WS.step (fun K hK=>WG.mk ?_)
  go_simp
  refine hK.out _ ?_
  clear hK K;refine WS.step (fun K hK=>WG.mk ?_)
  go_simp
  refine hK.out _ ?_
  clear hK K;refine WS.step (fun K hK=>WG.mk ?_)
  go_simp
  refine hK.out _ ?_
  clear hK K;refine WS.step (fun K hK=>WG.mk ?_)
  go_simp
  refine hK.out _ ?_
  clear hK K;refine WS.step (fun K hK=>WG.mk ?_)
  go_simp
  refine hK.out _ ?_
  clear hK K;refine WS.step (fun K hK=>WG.mk ?_)
  go_simp
  refine hK.out _ ?_
  clear hK K;refine WS.step (fun K hK=>WG.mk ?_)
  go_simp
  refine hK.out _ ?_
  clear hK K;refine WS.step (fun K hK=>WG.mk ?_)
  go_simp
  refine hK.out _ ?_
  clear hK K;refine WS.step (fun K hK=>WG.mk ?_)
  go_simp
  refine hK.out _ ?_
  clear hK K;refine WS.step (fun K hK=>WG.mk ?_)
  go_simp
  refine hK.out _ ?_
  clear hK K;refine WS.step (fun K hK=>WG.mk ?_)
  go_simp
  refine hK.out _ ?_
  clear hK K;refine WS.nil ?_
  change Exit.then _ _ _ _ w2.drew
  have B3:KeptX (ShS (.slice bA bn bc) (.slice fA s.2.1.length fc) ys) w w2.drew:=B2.step (ac w2);have hr3:=Below.some (ac w2) hr2;generalize w2.drew=w3 at *;obtain⟨g0,g1,g2,g3⟩:=ab hr3;obtain⟨j0,j1,j2,j3⟩:=aZ hr3
  go_wp2
  obtain⟨d0,d1,d2,d3⟩:=ab (aK (.slice none 0 0) (.slice none 0 0) (.int .i64 0) (.int .i64 0) hr3);refine bodyPost_ret (by simp [results,Tryd.results68,go_sem,d0,d1,d2,d3];try rfl) rfl ?_
  rw [hhH.out,JR];exact er B3 (by omega)
 rw [hh] at hc;simp only [if_true] at hc;have hhH:Hid (gC s.2.1 id=true):=hh;obtain⟨hi,-⟩:=lX hh;obtain⟨i,hati⟩:∃i,i=atF s.2.1 id:=⟨_,rfl⟩
 rw [←hati] at hc hi;have hatH:Hid (i=atF s.2.1 id):=hati;clear hati;have haS:nI s i (5,id,u,n)=(s.1,s.2.1.set i (s.2.1[i].1,s.2.1[i].2.1.take (s.2.1[i].2.1.length - 1),s.2.1[i].2.2.1,s.2.1[i].2.2.2),s.2.2.1+1,s.2.2.2):=by
  unfold nI;rw [JJ hi];simp
 have haO:jn s i (5,id,u,n)=(!s.2.1[i].2.2.1 && !decide (s.2.1[i].2.1.length=0)):=by
  unfold jn;rw [JJ hi];simp
 have haSH:Hid _:=haS;have haOH:Hid _:=haO;have hfi:=hfm i hi
 go_upto_region 4 with (go_at_call 38;refine hc.mono ?_;rintro e w2 ⟨rfl,b2⟩)
 have B2:KeptX (ShS (.slice bA bn bc) (.slice fA s.2.1.length fc) ys) w w2:=(KeptX.ofBelow hW).step b2;have hp2:=Below.some b2 hp;have hq2:=Below.some b2 hq;have hr2:=Below.some b2 hr;have hS2:=hS.below b2;have hs2:=b2.size;clear hc hS hS0 haS haO hW b2 hp hq hr e0 e1 e2 e3 f0 f1 f2 f3 hh;obtain⟨g,rfl⟩:=gT hS2.fms.own (by omega);have hgl:=hlt0 g (.inr (.inl rfl));have hgx:s.2.1[i]?=some s.2.1[i]:=JJ hi;have hpi:(i:Int)<(s.2.1.length:Int):=by omega
 have hset:=ed hfi;have hprt:=bM hfi;obtain⟨f,hf⟩:∃f,f=s.2.1[i]:=⟨_,rfl⟩
 rw [←hf] at hfi hgx hset hprt haOH haSH;obtain⟨y,hy⟩:∃y,ys[i]?=some y:=⟨ys[i]'(by rw [hS2.fms.len];exact hi),JJ _⟩
 have k2:=aW hS2.fms.own (j:=i*4+2) (u:=.bool f.2.2.1) (by rw [be _ _ i f _ hgx hy 2 (by omega)];rfl);obtain⟨e0,e1,e2,e3⟩:=ab hp2;obtain⟨f0,f1,f2,f3⟩:=ab hq2;have hnn:¬((i:Int)<0):=by omega
 cases hb:f.2.2.1
 ·rw [hb] at k2
  have hbH:Hid _:=hb;clear hb;refine wp_region_still_lit (by kernel_rfl) (by kernel_rfl) (WS.out ?_)
  refine WS.step (fun K hK=>WG.mk ?_)
  go_simp
  refine hK.out _ ?_
  clear hK K;refine WS.step (fun K hK=>WG.mk ?_)
  go_simp
  refine hK.out _ ?_
  clear hK K;refine WS.step (fun K hK=>WG.mk ?_)
  go_simp
  refine hK.out _ ?_
  clear hK K;refine WS.step (fun K hK=>WG.mk ?_)
  go_simp
  refine hK.out _ ?_
  clear hK K;refine WS.step (fun K hK=>WG.mk ?_)
  go_simp
  refine hK.out _ ?_
  clear hK K;refine WS.step (fun K hK=>WG.mk ?_)
  go_simp
  refine hK.out _ ?_
  clear hK K;refine WS.step (fun K hK=>WG.mk ?_)
  go_simp
  refine hK.out _ ?_
  clear hK K;refine WS.step (fun K hK=>WG.mk ?_)
  go_simp
  refine hK.out _ ?_
  clear hK K;refine WS.step (fun K hK=>WG.mk ?_)
  go_simp
  refine hK.out _ ?_
  clear hK K;refine WS.step (fun K hK=>WG.mk ?_)
  go_simp
  refine hK.out _ ?_
  clear hK K;refine WS.step (fun K hK=>WG.mk ?_)
  go_simp
  refine hK.out _ ?_
  clear hK K;refine WS.step (fun K hK=>WG.mk ?_)
  go_simp
  refine hK.out _ ?_
  clear hK K;refine WS.step (fun K hK=>WG.mk ?_)
  go_simp
  refine hK.out _ ?_
  clear hK K;refine WS.step (fun K hK=>WG.mk ?_)
  go_simp
  refine hK.out _ ?_
  clear hK K;refine WS.step (fun K hK=>WG.mk ?_)
  go_simp
  refine hK.out _ ?_
  clear hK K;refine WS.step (fun K hK=>WG.mk ?_)
  go_simp
  refine hK.out _ ?_
  clear hK K;refine WS.step (fun K hK=>WG.mk ?_)
  go_simp
  refine hK.out _ ?_
  clear hK K;refine WS.step (fun K hK=>WG.mk ?_)
  go_simp
  refine hK.out _ ?_
  clear hK K;refine WS.step (fun K hK=>WG.mk ?_)
  go_simp
  refine hK.out _ ?_
  clear hK K;refine WS.nil ?_
  change Exit.then _ _ _ _ w2.drew
  have B3:KeptX (ShS (.slice bA bn bc) (.slice (some ⟨g,0,none⟩) s.2.1.length fc) ys) w w2.drew:=B2.step (ac w2);have hp3:=Below.some (ac w2) hp2;have hq3:=Below.some (ac w2) hq2;have hr3:=Below.some (ac w2) hr2;have hS3:=hS2.below (ac w2);have hs3:w.heap.size+3≤w2.drew.heap.size:=JT hWs hs2;clear k2 e0 e1 e2 e3 f0 f1 f2 f3 hp2 hq2 hr2 hS2 B2 hWs hs2;generalize w2.drew=w3 at *;clear w2 W;have hF:=hS3.fms;have hrow:=hF.row i _ y hgx hy;obtain⟨Ay,cy,rfl⟩:=gA hrow;rw [JU] at hy hrow;have k1:=aW hF.own (j:=i*4+1) (u:=.slice Ay f.2.1.length cy) (by rw [be _ _ i f _ hgx hy 1 (by omega)];rfl);have k2:=aW hF.own (j:=i*4+2) (u:=.bool f.2.2.1) (by rw [be _ _ i f _ hgx hy 2 (by omega)];rfl);rw [hbH.out] at k2;have k3:=aW hF.own (j:=i*4+3) (u:=.int .i64 f.2.2.2) (by rw [be _ _ i f _ hgx hy 3 (by omega)];rfl);have z1:=cG hF.own (i*4+1);have z2:=cG hF.own (i*4+2);have z3:=cG hF.own (i*4+3);have hgp:g≠w.heap.size:=by omega
  have hfe:s.2.1[i]=f:=hf.symm;clear hf;have hcel:=fun(k:Nat) (v:Value) (x':Fm) hk hx hc=>iC hF hi hy (x':=x') (k:=k) (v:=v) hk hx hc
  rw [hfe] at hcel;obtain⟨e0,e1,e2,e3⟩:=ab hp3;obtain⟨f0,f1,f2,f3⟩:=ab hq3;have hwy:∀b,aM (.slice Ay f.2.1.length cy) b→b≠g:=fun b hb e=>(hF.blk i _ b hy hb).2 (by rw [e];rfl)
  by_cases hm:f.2.1.length=0
  ·have hr3':=hr3
   obtain⟨g0,g1,g2,g3⟩:=ab hr3';obtain⟨j0,j1,j2,j3⟩:=aZ hr3'
   go_wp2
   obtain⟨d0,d1,d2,d3⟩:=ab (aK (.slice none 0 0) (.slice none 0 0) (.int .i64 0) (.int .i64 0) hr3');refine bodyPost_ret (by simp [results,Tryd.results68,go_sem,d0,d1,d2,d3];try rfl) rfl ?_
   have eO:(!f.2.2.1 && !decide (f.2.1.length=0))=false:=by simp [hm]
   rw [hhH.out,←hatH.out,haOH.out,eO];exact er B3 (by omega)
  have hmI:¬((f.2.1.length:Int)=0):=by omega
  go_upto_region 23 with fail
  obtain⟨gy,oy,rfl,-,hlc⟩:=EF hrow (by simp;omega);rw [JU] at hlc;have hwm:JS.wrap ((f.2.1.length:Int) - 1)=((f.2.1.length - 1:Nat):Int):=by rw [ax (by omega) (by omega)];omega
  have hwl:JS.wrap (s.2.2.1+1)=s.2.2.1+1:=ax (by omega) (by omega);have hb1:(0:Int)≤((f.2.1.length - 1:Nat):Int):=by omega
  have hb2:((f.2.1.length - 1:Nat):Int)≤(cy:Int):=by omega
  refine wp_region_still_tail 12 (by kernel_rfl) (by kernel_rfl) (WS.out ?_)
  simp only [Ki,Kr,Kj,Ks];refine WS.step (fun K hK=>WG.mk ?_)
  go_simp
  refine hK.out _ ?_
  clear hK K;refine WS.step (fun K hK=>WG.mk ?_)
  go_simp
  refine hK.out _ ?_
  clear hK K;refine WS.step (fun K hK=>WG.mk ?_)
  go_simp
  refine hK.out _ ?_
  clear hK K;refine WS.step (fun K hK=>WG.mk ?_)
  go_simp
  refine hK.out _ ?_
  clear hK K;refine WS.step (fun K hK=>WG.mk ?_)
  go_simp
  refine hK.out _ ?_
  clear hK K;refine WS.step (fun K hK=>WG.mk ?_)
  go_simp
  refine hK.out _ ?_
  clear hK K;refine WS.step (fun K hK=>WG.mk ?_)
  go_simp
  refine hK.out _ ?_
  clear hK K;refine WS.step (fun K hK=>WG.mk ?_)
  go_simp
  refine hK.out _ ?_
  clear hK K;refine WS.step (fun K hK=>WG.mk ?_)
  go_simp
  refine hK.out _ ?_
  clear hK K;refine WS.step (fun K hK=>WG.mk ?_)
  go_simp
  refine hK.out _ ?_
  clear hK K;refine WS.step (fun K hK=>WG.mk ?_)
  go_simp
  refine hK.out _ ?_
  clear hK K;refine WS.step (fun K hK=>WG.mk ?_)
  go_simp
  refine hK.out _ ?_
  clear hK K;refine WS.nil ?_
  change wpList _ _ _ _ _ w3.drew
  have B4:KeptX (ShS (.slice bA bn bc) (.slice (some ⟨g,0,none⟩) s.2.1.length fc) ys) w w3.drew:=B3.step (ac w3);have hp4:=Below.some (ac w3) hp3;have hr4:=Below.some (ac w3) hr3;have hS4:=hS3.below (ac w3);have hrow4:=bh.below hrow (ac w3);have hs4:w.heap.size+3≤w3.drew.heap.size:=hs3;clear hcel e0 e1 e2 e3 f0 f1 f2 f3 k1 k2 k3 z1 z2 z3 hp3 hq3 hr3 hF hrow hS3 B3 hs3 hwy;generalize w3.drew=w4 at *;have hF:=hS4.fms;have k1:=aW hF.own (j:=i*4+1) (u:=.slice (some ⟨gy,oy,none⟩) f.2.1.length cy) (by rw [be _ _ i f _ hgx hy 1 (by omega)];rfl);have z1:=cG hF.own (i*4+1)
  go_upto_region 24 with fail
  clear k1 z1;have hwy:∀b,aM (.slice (some ⟨gy,oy,none⟩) f.2.1.length cy) b→b≠g:=fun b hb e=>(hF.blk i _ b hy hb).2 (by rw [e];rfl)
  have hrow':=Eb (i:=f.2.1.length - 1) hrow4 (by simp) (by simp;omega);rw [←List.map_take] at hrow';have hwg:∀b,b≠g→(w4.setCell ⟨g,i*4+1,none⟩ (.slice (some ⟨gy,oy,none⟩) (f.2.1.length - 1) cy)).heap[b]?=w4.heap[b]?:=fun b hb=>heap_setCell_other _ _ _ _ (by simpa using hb)
  have hgyb:∀b,aM (.slice (some ⟨gy,oy,none⟩) (f.2.1.length - 1) cy) b→aM (.slice (some ⟨gy,oy,none⟩) f.2.1.length cy) b:=fun b hb=>hb
  have hF5:=rT (w':=w4.setCell ⟨g,i*4+1,none⟩ (.slice (some ⟨gy,oy,none⟩) (f.2.1.length - 1) cy)) (x:=(f.1,f.2.1.take (f.2.1.length - 1),f.2.2.1,f.2.2.2)) (y:=.slice (some ⟨gy,oy,none⟩) (f.2.1.length - 1) cy) hF hi (aY hrow' fun b hb=>hwg b (hwy b (hgyb b hb))) (fun b hb=>⟨(hF.blk i _ b hy (hgyb b hb)).1,hwy b (hgyb b hb)⟩)
   (fun j z hj hz=>by have:=hF.dis i j _ z (fun e=>hj e.symm) hy hz;exact this) (fun j z b hj hz hb=>hwg b fun e=>(hF.blk j z b hz hb).2 (by rw [e];rfl))
   (by rw [mr s.2.1 ys i f (f.1,f.2.1.take (f.2.1.length - 1),f.2.2.1,f.2.2.2) _ _ (.slice (some ⟨gy,oy,none⟩) (f.2.1.length - 1) cy) 1 (by omega) hgx hy rfl];exact mZ hF.own rfl _ _)
  have hp5:(w4.setCell ⟨g,i*4+1,none⟩ (.slice (some ⟨gy,oy,none⟩) (f.2.1.length - 1) cy)).heap[w.heap.size]?=_:=(hwg _ (fun e=>hgp e.symm)).trans hp4;have hr5:(w4.setCell ⟨g,i*4+1,none⟩ (.slice (some ⟨gy,oy,none⟩) (f.2.1.length - 1) cy)).heap[w.heap.size+1+1]?=_:=(hwg _ (by omega)).trans hr4;have B5:KeptX (ShS (.slice bA bn bc) (.slice (some ⟨g,0,none⟩) s.2.1.length fc) ys) w (w4.setCell ⟨g,i*4+1,none⟩ (.slice (some ⟨gy,oy,none⟩) (f.2.1.length - 1) cy)):=B4.setO _ _ (.inl (.inr (.inl rfl)));have hv5:∀b,aM (.slice bA bn bc) b→(w4.setCell ⟨g,i*4+1,none⟩ (.slice (some ⟨gy,oy,none⟩) (f.2.1.length - 1) cy)).heap[b]?=w4.heap[b]?:=fun b hb=>hwg b fun e=>hS4.dis b hb (.inl (by rw [e];rfl))
  have hs5:w4.heap.size≤(w4.setCell ⟨g,i*4+1,none⟩ (.slice (some ⟨gy,oy,none⟩) (f.2.1.length - 1) cy)).heap.size:=by simp [JM]
  have hfo:∀b,FmS (.slice (some ⟨g,0,none⟩) s.2.1.length fc) (ys.set i (.slice (some ⟨gy,oy,none⟩) (f.2.1.length - 1) cy)) b→FmS (.slice (some ⟨g,0,none⟩) s.2.1.length fc) ys b:=fun b hb=>by
   rcases hb with hb | ⟨y,hy',hb⟩
   ·exact .inl hb
   ·rcases List.mem_or_eq_of_mem_set hy' with h | rfl
    ·exact .inr ⟨y,h,hb⟩
    ·exact .inr ⟨_,JV hy,hgyb b hb⟩
  clear hp4 hr4 B4 hwg hrow' hrow4;generalize w4.setCell ⟨g,i*4+1,none⟩ (.slice (some ⟨gy,oy,none⟩) (f.2.1.length - 1) cy)=w5 at *;obtain⟨e0,e1,e2,e3⟩:=ab hp5;obtain⟨j0,j1,j2,j3⟩:=aZ hp5
  go_upto_region 25 with fail
  clear e0 e1 e2 e3 j0 j1 j2 j3;have hpz:(w5.setCell ⟨w.heap.size,2,none⟩ (.int .i64 (s.2.2.1+1))).heap[w.heap.size]?=some (.cells #[.slice bA bn bc,.slice (some ⟨g,0,none⟩) s.2.1.length fc,.int .i64 (s.2.2.1+1),.int .i64 s.2.2.2] 26 (0,0)):=heap_setCell_same _ _ 2 _ _ (.int .i64 (s.2.2.1+1)) hp5;have hrz:(w5.setCell ⟨w.heap.size,2,none⟩ (.int .i64 (s.2.2.1+1))).heap[w.heap.size+1+1]?=_:=(heap_setCell_other _ _ _ _ (by simp;omega)).trans hr5;have hk:∀b,b<w.heap.size→(w5.setCell ⟨w.heap.size,2,none⟩ (.int .i64 (s.2.2.1+1))).heap[b]?=w5.heap[b]?:=fun b hb=>heap_setCell_other _ _ _ _ (by simp;omega)
  obtain⟨hSz,hShz⟩:=re (w':=w5.setCell ⟨w.heap.size,2,none⟩ (.int .i64 (s.2.2.1+1))) (x:=s.2.2.1+1) (y:=s.2.2.2) hS4 (fun b hb=>(hk b (hlt0 b (.inl hb)).2).trans (hv5 b hb)) (hF5.keep fun b hb=>hk b (hlt0 b (.inr (hfo b hb))).2) (fun b hb=>.inl (hfo b hb));have Bz:KeptX (ShS (.slice bA bn bc) (.slice (some ⟨g,0,none⟩) s.2.1.length fc) ys) w (w5.setCell ⟨w.heap.size,2,none⟩ (.int .i64 (s.2.2.1+1))):=B5.setO _ _ (.inr (JO _));have hszz:w4.heap.size≤(w5.setCell ⟨w.heap.size,2,none⟩ (.int .i64 (s.2.2.1+1))).heap.size:=by simp [JM];exact hs5
  have eM:decide (f.2.1.length=0)=false:=decide_eq_false hm;have eMH:Hid _:=eM;clear eM;obtain⟨a0,a1,a2,a3⟩:=ab hpz;obtain⟨g0,g1,g2,g3⟩:=ab hrz;obtain⟨j0,j1,j2,j3⟩:=aZ hrz
  go_wp2
  obtain⟨d0,d1,d2,d3⟩:=ab (aK (.slice bA bn bc) (.slice (some ⟨g,0,none⟩) s.2.1.length fc) (.int .i64 (s.2.2.1+1)) (.int .i64 s.2.2.2) hrz);refine bodyPost_ret (by simp [results,Tryd.results68,go_sem,d0,d1,d2,d3];try rfl) rfl ?_
  rw [hhH.out,←hatH.out,haOH.out,hbH.out,eMH.out,haSH.out];exact kZ hSz Bz (by omega) (fun b hb=>by
   rcases hShz b hb with h | h
   ·have:=hlt0 b h
    omega
   ·omega) (fun b hb=>(hShz b hb).imp (fun h=>h) fun h=>by omega)
 ·rw [hb] at k2
  have hbH:Hid _:=hb;clear hb;refine wp_region_still_lit (by kernel_rfl) (by kernel_rfl) (WS.out ?_)
  refine WS.step (fun K hK=>WG.mk ?_)
  go_simp
  refine hK.out _ ?_
  clear hK K;refine WS.step (fun K hK=>WG.mk ?_)
  go_simp
  refine hK.out _ ?_
  clear hK K;refine WS.step (fun K hK=>WG.mk ?_)
  go_simp
  refine hK.out _ ?_
  clear hK K;refine WS.step (fun K hK=>WG.mk ?_)
  go_simp
  refine hK.out _ ?_
  clear hK K;refine WS.step (fun K hK=>WG.mk ?_)
  go_simp
  refine hK.out _ ?_
  clear hK K;refine WS.step (fun K hK=>WG.mk ?_)
  go_simp
  refine hK.out _ ?_
  clear hK K;refine WS.step (fun K hK=>WG.mk ?_)
  go_simp
  refine hK.out _ ?_
  clear hK K;refine WS.step (fun K hK=>WG.mk ?_)
  go_simp
  refine hK.out _ ?_
  clear hK K;refine WS.step (fun K hK=>WG.mk ?_)
  go_simp
  refine hK.out _ ?_
  clear hK K;refine WS.step (fun K hK=>WG.mk ?_)
  go_simp
  refine hK.out _ ?_
  clear hK K;refine WS.step (fun K hK=>WG.mk ?_)
  go_simp
  refine hK.out _ ?_
  clear hK K;refine WS.step (fun K hK=>WG.mk ?_)
  go_simp
  refine hK.out _ ?_
  clear hK K;refine WS.step (fun K hK=>WG.mk ?_)
  go_simp
  refine hK.out _ ?_
  clear hK K;refine WS.step (fun K hK=>WG.mk ?_)
  go_simp
  refine hK.out _ ?_
  clear hK K;refine WS.step (fun K hK=>WG.mk ?_)
  go_simp
  refine hK.out _ ?_
  clear hK K;refine WS.step (fun K hK=>WG.mk ?_)
  go_simp
  refine hK.out _ ?_
  clear hK K;refine WS.step (fun K hK=>WG.mk ?_)
  go_simp
  refine hK.out _ ?_
  clear hK K;refine WS.step (fun K hK=>WG.mk ?_)
  go_simp
  refine hK.out _ ?_
  clear hK K;refine WS.step (fun K hK=>WG.mk ?_)
  go_simp
  refine hK.out _ ?_
  clear hK K;refine WS.nil ?_
  change Exit.then _ _ _ _ w2.drew
  have B3:KeptX (ShS (.slice bA bn bc) (.slice (some ⟨g,0,none⟩) s.2.1.length fc) ys) w w2.drew:=B2.step (ac w2);have hr3:=Below.some (ac w2) hr2;generalize w2.drew=w3 at *;obtain⟨g0,g1,g2,g3⟩:=ab hr3;obtain⟨j0,j1,j2,j3⟩:=aZ hr3
  go_wp2
  obtain⟨d0,d1,d2,d3⟩:=ab (aK (.slice none 0 0) (.slice none 0 0) (.int .i64 0) (.int .i64 0) hr3);refine bodyPost_ret (by simp [results,Tryd.results68,go_sem,d0,d1,d2,d3];try rfl) rfl ?_
  rw [hhH.out,←hatH.out,haOH.out,hbH.out,Bool.not_true,JR];exact er B3 (by omega)
set_option maxRecDepth 100000
set_option maxHeartbeats 8000000 in
set_option maxRecDepth 1000000 in
theorem FF (s:Sp) (hs:cm s) (hok:aE s=true) (id:Int) (u:ByteArray) (n:Int) (hx:gw (6,id,u,n)=true) (w:World) (B:Nat) (v Vb Vf:Value) (ys:List Value) (hS0:ShopAt w B v Vb Vf ys s) (hB:B≤w.heap.size) :
  Calls Tryd.prog 68 #[v,stV (6,id,u,n)] w (pN w B (ShS Vb Vf ys) (gC s.2.1 id&&jn s (atF s.2.1 id) (6,id,u,n)) (nI s (atF s.2.1 id) (6,id,u,n))):=by
 obtain⟨hfm,hgc,_,hlost⟩:=bu hok;obtain rfl:=hS0.val;obtain⟨bA,bn,bc,rfl⟩:=bQ hS0.box;obtain⟨fA,fc,rfl⟩:=cB hS0.fms.own;have hlt0:=hS0.lt
 go_enter Tryd.func68,Tryd.ntmps68
 go_upto_region 1 with fail
 have hW:Below w.heap.size w (((w.alloc (.cells #[.slice bA bn bc,.slice fA s.2.1.length fc,.int .i64 s.2.2.1,.int .i64 s.2.2.2] 26)).alloc (.cells #[.int .i64 6,.int .i64 id,.string u,.int .i64 n] 91)).alloc (.cells #[.slice none 0 0,.slice none 0 0,.int .i64 0,.int .i64 0] 26)):=((Ko _ w).alloc (JO _) _).alloc (by simp) _ |>.alloc (by simp;omega) _;have hWs:w.heap.size+3≤(((w.alloc (.cells #[.slice bA bn bc,.slice fA s.2.1.length fc,.int .i64 s.2.2.1,.int .i64 s.2.2.2] 26)).alloc (.cells #[.int .i64 6,.int .i64 id,.string u,.int .i64 n] 91)).alloc (.cells #[.slice none 0 0,.slice none 0 0,.int .i64 0,.int .i64 0] 26)).heap.size:=by simp
 have hp:(((w.alloc (.cells #[.slice bA bn bc,.slice fA s.2.1.length fc,.int .i64 s.2.2.1,.int .i64 s.2.2.2] 26)).alloc (.cells #[.int .i64 6,.int .i64 id,.string u,.int .i64 n] 91)).alloc (.cells #[.slice none 0 0,.slice none 0 0,.int .i64 0,.int .i64 0] 26)).heap[w.heap.size]?=some (.cells #[.slice bA bn bc,.slice fA s.2.1.length fc,.int .i64 s.2.2.1,.int .i64 s.2.2.2] 26 (0,0)):=aj _ (aj _ (al _ rfl));have hq:(((w.alloc (.cells #[.slice bA bn bc,.slice fA s.2.1.length fc,.int .i64 s.2.2.1,.int .i64 s.2.2.2] 26)).alloc (.cells #[.int .i64 6,.int .i64 id,.string u,.int .i64 n] 91)).alloc (.cells #[.slice none 0 0,.slice none 0 0,.int .i64 0,.int .i64 0] 26)).heap[w.heap.size+1]?=some (.cells #[.int .i64 6,.int .i64 id,.string u,.int .i64 n] 91 (0,0)):=aj _ (al _ (by simp));have hr:(((w.alloc (.cells #[.slice bA bn bc,.slice fA s.2.1.length fc,.int .i64 s.2.2.1,.int .i64 s.2.2.2] 26)).alloc (.cells #[.int .i64 6,.int .i64 id,.string u,.int .i64 n] 91)).alloc (.cells #[.slice none 0 0,.slice none 0 0,.int .i64 0,.int .i64 0] 26)).heap[w.heap.size+1+1]?=some (.cells #[.slice none 0 0,.slice none 0 0,.int .i64 0,.int .i64 0] 26 (0,0)):=al _ (by simp);have hS:=hS0.below hW;generalize (((w.alloc (.cells #[.slice bA bn bc,.slice fA s.2.1.length fc,.int .i64 s.2.2.1,.int .i64 s.2.2.2] 26)).alloc (.cells #[.int .i64 6,.int .i64 id,.string u,.int .i64 n] 91)).alloc (.cells #[.slice none 0 0,.slice none 0 0,.int .i64 0,.int .i64 0] 26))=W at *;have hc:=jg s id hs hok hS.rep (fun b hb=>(hS.lt b hb).2);obtain⟨e0,e1,e2,e3⟩:=ab hp;obtain⟨f0,f1,f2,f3⟩:=ab hq;cases hh:gC s.2.1 id
 ·rw [hh] at hc
  simp only [Kc,if_false] at hc;have hhH:Hid (gC s.2.1 id=false):=hh
  go_upto_region 4 with (go_at_call 38;refine hc.mono ?_;rintro e w2 ⟨rfl,b2⟩)
  have B2:KeptX (ShS (.slice bA bn bc) (.slice fA s.2.1.length fc) ys) w w2:=(KeptX.ofBelow hW).step b2;have hr2:=Below.some b2 hr;clear hc hS hS0 hfm hgc hlt0 hs hok hx hlost hh;refine wp_region_still_lit (by kernel_rfl) (by kernel_rfl) (WS.out ?_)
  refine WS.step (fun K hK=>WG.mk ?_)
  go_simp
  refine hK.out _ ?_
  clear hK K;refine WS.step (fun K hK=>WG.mk ?_)
  go_simp
  refine hK.out _ ?_
  clear hK K;refine WS.step (fun K hK=>WG.mk ?_)
  go_simp
  refine hK.out _ ?_
  clear hK K;refine WS.step (fun K hK=>WG.mk ?_)
  go_simp
  refine hK.out _ ?_
  clear hK K;refine WS.step (fun K hK=>WG.mk ?_)
  go_simp
  refine hK.out _ ?_
  clear hK K;refine WS.step (fun K hK=>WG.mk ?_)
  go_simp
  refine hK.out _ ?_
  clear hK K;refine WS.step (fun K hK=>WG.mk ?_)
  go_simp
  refine hK.out _ ?_
  clear hK K;refine WS.step (fun K hK=>WG.mk ?_)
  go_simp
  refine hK.out _ ?_
  clear hK K;refine WS.step (fun K hK=>WG.mk ?_)
  go_simp
  refine hK.out _ ?_
  clear hK K;refine WS.step (fun K hK=>WG.mk ?_)
  go_simp
  refine hK.out _ ?_
  clear hK K;refine WS.step (fun K hK=>WG.mk ?_)
  go_simp
  refine hK.out _ ?_
  clear hK K;refine WS.step (fun K hK=>WG.mk ?_)
  go_simp
  refine hK.out _ ?_
  clear hK K;refine WS.step (fun K hK=>WG.mk ?_)
  go_simp
  refine hK.out _ ?_
  clear hK K;refine WS.step (fun K hK=>WG.mk ?_)
  go_simp
  refine hK.out _ ?_
  clear hK K;refine WS.step (fun K hK=>WG.mk ?_)
  go_simp
  refine hK.out _ ?_
  clear hK K;refine WS.step (fun K hK=>WG.mk ?_)
  go_simp
  refine hK.out _ ?_
  clear hK K;refine WS.step (fun K hK=>WG.mk ?_)
  go_simp
  refine hK.out _ ?_
  clear hK K;refine WS.step (fun K hK=>WG.mk ?_)
  go_simp
  refine hK.out _ ?_
  clear hK K;refine WS.step (fun K hK=>WG.mk ?_)
  go_simp
  refine hK.out _ ?_
  clear hK K;refine WS.nil ?_
  change Exit.then _ _ _ _ w2.drew
  have B3:KeptX (ShS (.slice bA bn bc) (.slice fA s.2.1.length fc) ys) w w2.drew:=B2.step (ac w2);have hr3:=Below.some (ac w2) hr2;generalize w2.drew=w3 at *;obtain⟨g0,g1,g2,g3⟩:=ab hr3;obtain⟨j0,j1,j2,j3⟩:=aZ hr3
  go_wp2
  obtain⟨d0,d1,d2,d3⟩:=ab (aK (.slice none 0 0) (.slice none 0 0) (.int .i64 0) (.int .i64 0) hr3);refine bodyPost_ret (by simp [results,Tryd.results68,go_sem,d0,d1,d2,d3];try rfl) rfl ?_
  rw [hhH.out,JR];exact er B3 (by omega)
 rw [hh] at hc;simp only [if_true] at hc;have hhH:Hid (gC s.2.1 id=true):=hh;obtain⟨hi,-⟩:=lX hh;obtain⟨i,hati⟩:∃i,i=atF s.2.1 id:=⟨_,rfl⟩
 rw [←hati] at hc hi;have hatH:Hid (i=atF s.2.1 id):=hati;clear hati;have haS:nI s i (6,id,u,n)=(bE (aU s.1) 1 s.1 s.2.1[i].2.1,s.2.1.take i++s.2.1.drop (i+1),s.2.2.1,s.2.2.2):=by
  unfold nI;rw [JJ hi];simp
 have haO:jn s i (6,id,u,n)=(!s.2.1[i].2.2.1&&bp (bE (aU s.1) 1 s.1 s.2.1[i].2.1)):=by
  unfold jn;rw [JJ hi];simp
 have haSH:Hid _:=haS;have haOH:Hid _:=haO;have hfi:=hfm i hi
 go_upto_region 4 with (go_at_call 38;refine hc.mono ?_;rintro e w2 ⟨rfl,b2⟩)
 have B2:KeptX (ShS (.slice bA bn bc) (.slice fA s.2.1.length fc) ys) w w2:=(KeptX.ofBelow hW).step b2;have hp2:=Below.some b2 hp;have hq2:=Below.some b2 hq;have hr2:=Below.some b2 hr;have hS2:=hS.below b2;have hs2:=b2.size;clear hc hS hS0 haS haO hW b2 hp hq hr e0 e1 e2 e3 f0 f1 f2 f3 hh;obtain⟨g,rfl⟩:=gT hS2.fms.own (by omega);have hgl:=hlt0 g (.inr (.inl rfl));have hgx:s.2.1[i]?=some s.2.1[i]:=JJ hi;have hpi:(i:Int)<(s.2.1.length:Int):=by omega
 have hset:=ed hfi;have hprt:=bM hfi;obtain⟨f,hf⟩:∃f,f=s.2.1[i]:=⟨_,rfl⟩
 rw [←hf] at hfi hgx hset hprt haOH haSH;obtain⟨y,hy⟩:∃y,ys[i]?=some y:=⟨ys[i]'(by rw [hS2.fms.len];exact hi),JJ _⟩
 have k2:=aW hS2.fms.own (j:=i*4+2) (u:=.bool f.2.2.1) (by rw [be _ _ i f _ hgx hy 2 (by omega)];rfl);obtain⟨e0,e1,e2,e3⟩:=ab hp2;obtain⟨f0,f1,f2,f3⟩:=ab hq2;have hnn:¬((i:Int)<0):=by omega
 cases hb:f.2.2.1
 ·rw [hb] at k2
  have hbH:Hid _:=hb;clear hb;refine wp_region_still_lit (by kernel_rfl) (by kernel_rfl) (WS.out ?_)
  refine WS.step (fun K hK=>WG.mk ?_)
  go_simp
  refine hK.out _ ?_
  clear hK K;refine WS.step (fun K hK=>WG.mk ?_)
  go_simp
  refine hK.out _ ?_
  clear hK K;refine WS.step (fun K hK=>WG.mk ?_)
  go_simp
  refine hK.out _ ?_
  clear hK K;refine WS.step (fun K hK=>WG.mk ?_)
  go_simp
  refine hK.out _ ?_
  clear hK K;refine WS.step (fun K hK=>WG.mk ?_)
  go_simp
  refine hK.out _ ?_
  clear hK K;refine WS.step (fun K hK=>WG.mk ?_)
  go_simp
  refine hK.out _ ?_
  clear hK K;refine WS.step (fun K hK=>WG.mk ?_)
  go_simp
  refine hK.out _ ?_
  clear hK K;refine WS.step (fun K hK=>WG.mk ?_)
  go_simp
  refine hK.out _ ?_
  clear hK K;refine WS.step (fun K hK=>WG.mk ?_)
  go_simp
  refine hK.out _ ?_
  clear hK K;refine WS.step (fun K hK=>WG.mk ?_)
  go_simp
  refine hK.out _ ?_
  clear hK K;refine WS.step (fun K hK=>WG.mk ?_)
  go_simp
  refine hK.out _ ?_
  clear hK K;refine WS.step (fun K hK=>WG.mk ?_)
  go_simp
  refine hK.out _ ?_
  clear hK K;refine WS.step (fun K hK=>WG.mk ?_)
  go_simp
  refine hK.out _ ?_
  clear hK K;refine WS.step (fun K hK=>WG.mk ?_)
  go_simp
  refine hK.out _ ?_
  clear hK K;refine WS.step (fun K hK=>WG.mk ?_)
  go_simp
  refine hK.out _ ?_
  clear hK K;refine WS.step (fun K hK=>WG.mk ?_)
  go_simp
  refine hK.out _ ?_
  clear hK K;refine WS.step (fun K hK=>WG.mk ?_)
  go_simp
  refine hK.out _ ?_
  clear hK K;refine WS.step (fun K hK=>WG.mk ?_)
  go_simp
  refine hK.out _ ?_
  clear hK K;refine WS.step (fun K hK=>WG.mk ?_)
  go_simp
  refine hK.out _ ?_
  clear hK K;refine WS.nil ?_
  change Exit.then _ _ _ _ w2.drew
  have B3:KeptX (ShS (.slice bA bn bc) (.slice (some ⟨g,0,none⟩) s.2.1.length fc) ys) w w2.drew:=B2.step (ac w2);have hp3:=Below.some (ac w2) hp2;have hq3:=Below.some (ac w2) hq2;have hr3:=Below.some (ac w2) hr2;have hS3:=hS2.below (ac w2);have hs3:w.heap.size+3≤w2.drew.heap.size:=JT hWs hs2;clear k2 e0 e1 e2 e3 f0 f1 f2 f3 hp2 hq2 hr2 hS2 B2 hWs hs2;generalize w2.drew=w3 at *;clear w2 W;have hF:=hS3.fms;have hrow:=hF.row i _ y hgx hy;obtain⟨Ay,cy,rfl⟩:=gA hrow;rw [JU] at hy hrow;have k1:=aW hF.own (j:=i*4+1) (u:=.slice Ay f.2.1.length cy) (by rw [be _ _ i f _ hgx hy 1 (by omega)];rfl);have k2:=aW hF.own (j:=i*4+2) (u:=.bool f.2.2.1) (by rw [be _ _ i f _ hgx hy 2 (by omega)];rfl);rw [hbH.out] at k2;have k3:=aW hF.own (j:=i*4+3) (u:=.int .i64 f.2.2.2) (by rw [be _ _ i f _ hgx hy 3 (by omega)];rfl);have z1:=cG hF.own (i*4+1);have z2:=cG hF.own (i*4+2);have z3:=cG hF.own (i*4+3);have hgp:g≠w.heap.size:=by omega
  have hfe:s.2.1[i]=f:=hf.symm;clear hf;have hcel:=fun(k:Nat) (v:Value) (x':Fm) hk hx hc=>iC hF hi hy (x':=x') (k:=k) (v:=v) hk hx hc
  rw [hfe] at hcel;obtain⟨e0,e1,e2,e3⟩:=ab hp3;obtain⟨f0,f1,f2,f3⟩:=ab hq3;have hwy:∀b,aM (.slice Ay f.2.1.length cy) b→b≠g:=fun b hb e=>(hF.blk i _ b hy hb).2 (by rw [e];rfl)
  have hin:=yC hfi
  go_upto_region 8 with fail
  have hpd:=Below.some (ac w3) hp3;have hSd:=hS3.below (ac w3);have hrowd:=bh.below hrow (ac w3);have k1d:w3.drew.cell? ⟨g,i*4+1,none⟩=some (.slice Ay f.2.1.length cy):=k1;obtain⟨m0,m1,m2,m3⟩:=ab hpd;have hc:=mS s.1 f.2.1 1 hs.1 (by omega) hin (gK hSd.box) (dy hSd.box) (gK hrowd) (dy hrowd);clear e0 e1 e2 e3 f0 f1 f2 f3 k1 k2 k3 z1 z2 z3 hcel
  go_region_held3 (fun w'=>w'.cell? ⟨w.heap.size,0,none⟩=some (.slice bA bn bc)∧w'.cell? ⟨g,i*4+1,none⟩=some (.slice Ay f.2.1.length cy)) (first | (refine⟨?_,?_⟩<;>assumption) | go_keep)
   (first
    | (go_at_call 25;refine hc.mono ?_;intro e wk hout;obtain⟨A9,n9,c9,rfl,ownk,hvk,bk⟩:=hout;have hpk:=Below.some bk hpd;have hSk:=hSd.below bk;obtain⟨r0,r1,r2,r3⟩:=ab hpk;have k1k:=aW hSk.fms.own (j:=i*4+1) (u:=.slice Ay f.2.1.length cy) (by rw [be _ _ i f _ hgx hy 1 (by omega)];rfl))
    | fail)
  have hrk:=Below.some bk (Below.some (ac w3) hr3);have Bk:KeptX (ShS (.slice bA bn bc) (.slice (some ⟨g,0,none⟩) s.2.1.length fc) ys) w wk:=(B3.step (ac w3)).step bk;have hsk:w3.heap.size≤wk.heap.size:=bk.size;have hvk':∀b,aM (.slice A9 n9 c9) b→w3.heap.size≤b∧b<wk.heap.size:=hvk;clear hc m0 m1 m2 m3 r0 r1 r2 r3 k1d k1k hpd hSd hrowd bk hp3 hr3 hS3 B3 hF hrow hvk hwy hq3;cases hgo:bp (bE (aU s.1) 1 s.1 f.2.1)
  ·have hgoH:Hid _:=hgo
   clear hgo;obtain⟨g0,g1,g2,g3⟩:=ab hrk;obtain⟨j0,j1,j2,j3⟩:=aZ hrk
   go_wp2
   obtain⟨d0,d1,d2,d3⟩:=ab (aK (.slice none 0 0) (.slice none 0 0) (.int .i64 0) (.int .i64 0) hrk);refine bodyPost_ret (by simp [results,Tryd.results68,go_sem,d0,d1,d2,d3];try rfl) rfl ?_
   rw [hhH.out,←hatH.out,haOH.out,hgoH.out,Bool.and_false];exact er Bk (by omega)
  have em:mvd s.1 f.2.1 1=bE (aU s.1) 1 s.1 f.2.1:=by
   unfold mvd;rw [if_pos hgo]
  rw [em] at ownk;have hgoH:Hid _:=hgo;clear hgo em;have hkk:∀b,b≠w.heap.size→(wk.setCell ⟨w.heap.size,0,none⟩ (.slice A9 n9 c9)).heap[b]?=wk.heap[b]?:=fun b hb=>heap_setCell_other _ _ _ _ (by simpa using hb)
  have hp4:(wk.setCell ⟨w.heap.size,0,none⟩ (.slice A9 n9 c9)).heap[w.heap.size]?=some (.cells #[.slice A9 n9 c9,.slice (some ⟨g,0,none⟩) s.2.1.length fc,.int .i64 s.2.2.1,.int .i64 s.2.2.2] 26 (0,0)):=heap_setCell_same _ _ 0 _ _ (.slice A9 n9 c9) hpk;have hr4:=(hkk (w.heap.size+1+1) (by omega)).trans hrk;have hF4:=hSk.fms.keep (w':=wk.setCell ⟨w.heap.size,0,none⟩ (.slice A9 n9 c9)) fun b hb=>hkk b (by have:=hlt0 b (.inr hb);omega)
  have own4:=aY (w':=wk.setCell ⟨w.heap.size,0,none⟩ (.slice A9 n9 c9)) ownk fun b hb=>hkk b (by have:=hvk' b hb;omega)
  have B4:KeptX (ShS (.slice bA bn bc) (.slice (some ⟨g,0,none⟩) s.2.1.length fc) ys) w (wk.setCell ⟨w.heap.size,0,none⟩ (.slice A9 n9 c9)):=Bk.setO _ _ (.inr (JO _));have hs4:wk.heap.size≤(wk.setCell ⟨w.heap.size,0,none⟩ (.slice A9 n9 c9)).heap.size:=by simp [JM]
  obtain⟨e0,e1,e2,e3⟩:=ab hpk;obtain⟨f0,f1,f2,f3⟩:=aZ hpk
  go_upto_region 12 with fail
  clear e0 e1 e2 e3 f0 f1 f2 f3;generalize wk.setCell ⟨w.heap.size,0,none⟩ (.slice A9 n9 c9)=w4 at *;have h9:∀b,aM (.slice A9 n9 c9) b→w3.heap.size≤b∧b<w4.heap.size:=fun b hb=>by have:=hvk' b hb;omega
  clear hpk hrk hSk ownk hvk' Bk hkk;have hpl4:=bz hp4;have hrl4:=bz hr4;have hlt4:=hF4.lt;have hat:i≤s.2.1.length:=Nat.le_of_lt hi;have hBN:B≤w4.heap.size:=by omega
  have hbc:i≤fc:=JT hat (qz hF4).1;have hcl:s.2.1.length≤fc:=(qz hF4).1;have hln:=(qz hF4).2;have hw1:JS.wrap ((i:Int)+1)=(i:Int)+1:=ax (by omega) (by omega);have hb1:(0:Int)≤(i:Int):=by omega
  have hb2:(i:Int)≤(fc:Int):=by omega
  have hb3:(0:Int)≤(i:Int)+1:=by omega
  have hb4:(i:Int)+1≤(s.2.1.length:Int):=by omega
  have hb5:((i:Int)+1).toNat=i+1:=by omega
  obtain⟨i2,hi2,hx0,hx1,hx2⟩:=info_parts ij;obtain⟨e0,e1,e2,e3⟩:=ab hp4;have hX0:Below w4.heap.size w4 w4.drew:=ac w4;have hSd:w4.drew.cell? ⟨w.heap.size,1,none⟩=some (.slice (some ⟨g,0,none⟩) s.2.1.length fc)∧w4.drew.cell? ⟨w.heap.size,0,none⟩=some (.slice A9 n9 c9):=⟨e1,e0⟩
  have hcells:Hid (∀X:World,Below w4.heap.size w4 X→X.cell? ⟨w.heap.size,1,none⟩=some (.slice (some ⟨g,0,none⟩) s.2.1.length fc)∧X.cell? ⟨w.heap.size,0,none⟩=some (.slice A9 n9 c9)):=fun X hX=>⟨(ab ((hX.block _ hpl4).trans hp4)).2.1,(ab ((hX.block _ hpl4).trans hp4)).1⟩
  have hfmsX:Hid (∀X:World,Below w4.heap.size w4 X→FmsAt X B (.slice (some ⟨g,0,none⟩) s.2.1.length fc) ys s.2.1):=fun X hX=>hF4.keep fun b hb=>hX.block b (hlt4 b hb).2
  clear hfm hgc hx hset hprt hfi hin;refine cO (l:=[_,_,_,_,_,_,_,_,_,_,_,_,_]) (o:=_) (S:=fun w'=>w'.cell? ⟨w.heap.size,1,none⟩=some (.slice (some ⟨g,0,none⟩) s.2.1.length fc)∧w'.cell? ⟨w.heap.size,0,none⟩=some (.slice A9 n9 c9)) (by kernel_rfl) (by kernel_rfl) hSd (fun hHeld=>?_)
  change wpAnyH _ _ _ _ _ 13 (Array.replicate 13 false) _ _
  generalize w4.drew=W0 at *;have hX:=hX0;refine wpAnyH_take (i:=1) (oi:=_) (v:=?vc1) rfl (by kernel_rfl) (by kernel_rfl) (by kernel_rfl) (fun _ _ _ h=>h) (JW ⟨by rfl,?yc1⟩) hHeld ?rc1
  case yc1=>(intro w0 hSw;obtain⟨hSw0,hSw1⟩:=hSw;go_simp;try with_reducible rfl)
  (try simp only [JP,JI,JK,JL])
  refine wpAnyH_take (i:=2) (oi:=_) (v:=?vc2) rfl (by kernel_rfl) (by kernel_rfl) (by kernel_rfl) (fun _ _ _ h=>h) (JW ⟨by rfl,?yc2⟩) hHeld ?rc2
  case yc2=>(intro w0 hSw;obtain⟨hSw0,hSw1⟩:=hSw;go_simp;try with_reducible rfl)
  (try simp only [JP,JI,JK,JL])
  refine wpAnyH_take (i:=3) (oi:=_) (v:=?vc3) rfl (by kernel_rfl) (by kernel_rfl) (by kernel_rfl) (fun _ _ _ h=>h) (JW ⟨by rfl,?yc3⟩) hHeld ?rc3
  case yc3=>(intro w0 hSw;obtain⟨hSw0,hSw1⟩:=hSw;go_simp;try with_reducible rfl)
  (try simp only [JP,JI,JK,JL])
  refine wpAnyH_take (i:=4) (oi:=_) (v:=?vc4) rfl (by kernel_rfl) (by kernel_rfl) (by kernel_rfl) (fun _ _ _ h=>h) (JW ⟨by rfl,?yc4⟩) hHeld ?rc4
  case yc4=>(intro w0 hSw;obtain⟨hSw0,hSw1⟩:=hSw;go_simp;try with_reducible rfl)
  (try simp only [JP,JI,JK,JL])
  refine wpAnyH_take (i:=6) (oi:=_) (v:=?vc5) rfl (by kernel_rfl) (by kernel_rfl) (by kernel_rfl) (fun _ _ _ h=>h) (JW ⟨by rfl,?yc5⟩) hHeld ?rc5
  case yc5=>(intro w0 hSw;obtain⟨hSw0,hSw1⟩:=hSw;go_simp;try with_reducible rfl)
  (try simp only [JP,JI,JK,JL])
  refine wpAnyH_take (i:=7) (oi:=_) (v:=?vc6) rfl (by kernel_rfl) (by kernel_rfl) (by kernel_rfl) (fun _ _ _ h=>h) (JW ⟨by rfl,?yc6⟩) hHeld ?rc6
  case yc6=>(intro w0 hSw;obtain⟨hSw0,hSw1⟩:=hSw;go_simp;try with_reducible rfl)
  (try simp only [JP,JI,JK,JL])
  refine wpAnyH_take (i:=8) (oi:=_) (v:=?vc7) rfl (by kernel_rfl) (by kernel_rfl) (by kernel_rfl) (fun _ _ _ h=>h) (JW ⟨by rfl,?yc7⟩) hHeld ?rc7
  case yc7=>(intro w0 hSw;obtain⟨hSw0,hSw1⟩:=hSw;go_simp;try with_reducible rfl)
  (try simp only [JP,JI,JK,JL])
  refine wpAnyH_take (i:=9) (oi:=_) (v:=?vc8) rfl (by kernel_rfl) (by kernel_rfl) (by kernel_rfl) (fun _ _ _ h=>h) (JW ⟨by rfl,?yc8⟩) hHeld ?rc8
  case yc8=>(intro w0 hSw;obtain⟨hSw0,hSw1⟩:=hSw;go_simp;try with_reducible rfl)
  (try simp only [JP,JI,JK,JL])
  refine wpAnyH_take (i:=10) (oi:=_) (v:=?vc9) rfl (by kernel_rfl) (by kernel_rfl) (by kernel_rfl) (fun _ _ _ h=>h) (JW ⟨by rfl,?yc9⟩) hHeld ?rc9
  case yc9=>(intro w0 hSw;obtain⟨hSw0,hSw1⟩:=hSw;go_simp;try with_reducible rfl)
  (try simp only [JP,JI,JK,JL])
  refine wpAnyH_ready (rs:=[0]) (by kernel_rfl) (by simp) ?_
  refine Kg (o:=_) rfl (fun K hK=>?_) ?_
  ·go_simp
   have hX:=hX.alloc hX.size (.cells #[] 42);have hE:(W0.alloc (.cells #[] 42)).heap[W0.heap.size]?=some (.cells #[] 42 (0,0)):=al _ (by simp);refine hK.out _ _ ?_ (fun hHeld=>?_)
   ·exact hcells.out _ hX
   clear hK K
   (try simp only [JP,JI,JK,JL])
   refine wpAnyH_ready (rs:=[5]) (by kernel_rfl) (by simp) ?_
   refine Kg (o:=_) rfl (fun K hK=>?_) ?_
   ·refine aB _ rfl _ _ 24 rfl B 42 i2 (.agg #[.int .i64 0,.slice none 0 0,.bool false,.int .i64 0]) 4 48 Tryd.underlying24 hi2 hx0 hx1 hx2 rfl (by decide) (.slice (some ⟨W0.heap.size,0,none⟩) 0 0) 0 [] (by simp [go_sem];done) (dj hE (by have:=hX0.size;omega)) (some ⟨g,0,none⟩) i fc (bK (s.2.1.take i) (ys.take i)) (by simp [go_sem,sliced];done) (by rw [eP _ _ (by simp [hF4.len]),Kl,Kp hat]) (fun _=>⟨g,0,rfl,oF (hfmsX.out _ hX) hat⟩) (fw _ _ fun y hy=>iX hF4 y (JX hy)) (by unfold maxLen;omega) (by omega) (by have:=hX.size;omega) ?_
    intro v5 w5 hown5 hg5 hat5;have htk:=qx (hfmsX.out _ hX) i;have hV1:=dB (gr hE (B:=B) (by have:=hX0.size;omega)) (m:=s.2.1.take i) (zs:=ys.take i) (by have:=hX.size;omega) (by rw [Kl,Kp hat];exact hown5) hg5 hat5 (by simp [hF4.len]) htk.1 (fun j y b hj hb=>by
     obtain⟨h1,_⟩:=htk.2.1 j y b hj hb;have h2:=(hlt4 b (.inr ⟨y,JX (JV hj),hb⟩)).2;refine⟨h1,Nat.lt_of_lt_of_le h2 hX.size,fun h=>?_⟩
     rcases h with h | ⟨_,h,_⟩
     ·have e:W0.heap.size=b:=JN h
      have:=hX0.size;omega
     ·cases h) htk.2.2
    rw [Kq,Kq] at hV1;have hf1:∀b,FmS v5 (ys.take i) b→FmS (.slice (some ⟨g,0,none⟩) s.2.1.length fc) ys b∨w4.heap.size≤b:=fun b hb=>by
     rcases hb with hb | ⟨z,hz,hzb⟩
     ·rcases hat5 with h | h
      ·have e:some b=some (W0.heap.size):=hb.symm.trans h
       have:=JN e;have:=hX0.size;exact .inr (by omega)
      ·have e:some b=some ((W0.alloc (.cells #[] 42)).heap.size):=hb.symm.trans h
       have:=JN e;have:=hX.size;exact .inr (by omega)
     ·exact .inl (.inr ⟨z,JX hz,hzb⟩)
    have hge5:∀b,aM v5 b→w4.heap.size≤b:=fun b hb=>by
     rcases hat5 with h | h
     ·have e:some b=some (W0.heap.size):=hb.symm.trans h
      have:=JN e;have:=hX0.size;omega
     ·have e:some b=some ((W0.alloc (.cells #[] 42)).heap.size):=hb.symm.trans h
      have:=JN e;have:=hX.size;omega
    have hX:=hX.grown hg5 hX.size (fun k hk=>by have e:W0.heap.size=k:=JN hk;have:=hX0.size;omega);obtain⟨A5,n5,c5,rfl⟩:=aN hV1.own;clear hat5;refine hK.out _ _ ?_ (fun hHeld=>?_)
    ·exact hcells.out _ hX
    clear hK K
    (try simp only [JP,JI,JK,JL])
    refine wpAnyH_ready (rs:=[11]) (by kernel_rfl) (by simp) ?_
    refine Kg (o:=_) rfl (fun K hK=>?_) ?_
    ·refine aB _ rfl _ _ 24 rfl B 42 i2 (.agg #[.int .i64 0,.slice none 0 0,.bool false,.int .i64 0]) 4 48 Tryd.underlying24 hi2 hx0 hx1 hx2 rfl (by decide) (.slice A5 n5 c5) _ _ (by simp [go_sem];done) hV1.own (if fc=i+1 then some ⟨g,0,none⟩ else some ⟨g,(i+1)*4,none⟩) (s.2.1.length - (i+1)) (fc - (i+1)) (bK (s.2.1.drop (i+1)) (ys.drop (i+1))) (by simp [go_sem,sliced];done) (by rw [eP _ _ (by simp [hF4.len]),Km]) (fun h0=>⟨g,(i+1)*4,by rw [if_neg (by omega)],oB (hfmsX.out _ hX) (i+1) (by omega)⟩) (fw _ _ fun y hy=>iX hF4 y (JY hy)) (by unfold maxLen;simp;try omega) (by simp;try omega) (by have:=hX.size;omega) ?_
     intro v6 w6 hown6 hg6 hat6;have hdr:=qC (hfmsX.out _ hX) (i+1);have hV2:=dB hV1 (m:=s.2.1.drop (i+1)) (zs:=ys.drop (i+1)) (by have:=hX.size;omega) (by rw [Km];exact hown6) hg6 hat6 (by simp [hF4.len]) hdr.1 (fun j y b hj hb=>by
      obtain⟨h1,h2,h3,h4⟩:=hdr.2.1 j y b hj hb;have h5:=(hlt4 b (.inr ⟨y,JY (JV hj),hb⟩)).2;refine⟨h1,h2,fun h=>?_⟩
      rcases h with h | ⟨z,hz,hzb⟩
      ·have:=hge5 b h
       omega
      ·exact h4 i (by omega) z hz hzb) hdr.2.2
     have hf2:∀b,FmS v6 (ys.take i++ys.drop (i+1)) b→FmS (.slice (some ⟨g,0,none⟩) s.2.1.length fc) ys b∨w4.heap.size≤b:=fun b hb=>by
      rcases hb with hb | ⟨z,hz,hzb⟩
      ·rcases hat6 with h | h
       ·exact hf1 b (.inl (hb.symm.trans h).symm)
       ·have e:some b=some (w5.heap.size):=hb.symm.trans h
        have:=JN e;have:=hX.size;exact .inr (by omega)
      ·rcases Kn.1 hz with hz | hz
       ·exact hf1 b (.inr ⟨z,hz,hzb⟩)
       ·exact .inl (.inr ⟨z,JY hz,hzb⟩)
     have hX:=hX.grown hg6 hX.size (fun k hk=>hge5 k hk);obtain⟨A6,n6,c6,rfl⟩:=aN hV2.own;clear hat6;refine hK.out _ _ ?_ (fun hHeld=>?_)
     ·exact hcells.out _ hX
     clear hK K
     (try simp only [JP,JI,JK,JL])
     refine wpAnyH_take (i:=12) (oi:=_) (v:=?vc10) rfl (by kernel_rfl) (by kernel_rfl) (by kernel_rfl) (fun _ _ _ h=>h) (JW ⟨by rfl,?yc10⟩) hHeld ?rc10
     case yc10=>(intro w0 hSw;obtain⟨hSw0,hSw1⟩:=hSw;go_simp;try with_reducible rfl)
     (try simp only [JP,JI,JK,JL])
     refine bH (by kernel_rfl) ?_
     have hp5:=(hX.block _ hpl4).trans hp4;have hr5:=(hX.block _ hrl4).trans hr4;have g1:=(ab hp5).2.1;have h1:=(aZ hp5).2.1;have hpz:(w6.setCell ⟨w.heap.size,1,none⟩ (.slice A6 n6 c6)).heap[w.heap.size]?=some (.cells #[.slice A9 n9 c9,.slice A6 n6 c6,.int .i64 s.2.2.1,.int .i64 s.2.2.2] 26 (0,0)):=heap_setCell_same _ _ 1 _ _ (.slice A6 n6 c6) hp5;have hkz:∀b,b≠w.heap.size→(w6.setCell ⟨w.heap.size,1,none⟩ (.slice A6 n6 c6)).heap[b]?=w6.heap[b]?:=fun b hb=>heap_setCell_other _ _ _ _ (by simpa using hb)
     have hrz:=(hkz (w.heap.size+1+1) (by omega)).trans hr5;have hb6:∀b,FmS (.slice A6 n6 c6) (ys.take i++ys.drop (i+1)) b→b<w.heap.size∨w4.heap.size≤b:=fun b hb=>(hf2 b hb).imp (fun h=>(hlt0 b (.inr h)).2) fun h=>h
     have hSz:ShopAt (w6.setCell ⟨w.heap.size,1,none⟩ (.slice A6 n6 c6)) B (.agg #[.slice A9 n9 c9,.slice A6 n6 c6,.int .i64 s.2.2.1,.int .i64 s.2.2.2]) (.slice A9 n9 c9) (.slice A6 n6 c6) (ys.take i++ys.drop (i+1)) (bE (aU s.1) 1 s.1 f.2.1,s.2.1.take i++s.2.1.drop (i+1),s.2.2.1,s.2.2.2) :=
      ⟨rfl,aY own4 fun b hb=>(hkz b (by have:=h9 b hb;omega)).trans (hX.block b (h9 b hb).2),fun b hb=>by have:=h9 b hb;omega,hV2.keep fun b hb=>hkz b (by have:=hb6 b hb;omega),fun b hb h=>by have:=h9 b hb;have:=hb6 b h;omega⟩
     have Bz:KeptX (ShS (.slice bA bn bc) (.slice (some ⟨g,0,none⟩) s.2.1.length fc) ys) w (w6.setCell ⟨w.heap.size,1,none⟩ (.slice A6 n6 c6)):=(B4.step hX).setO _ _ (.inr (JO _));have hrb:∀b,ShS (.slice A9 n9 c9) (.slice A6 n6 c6) (ys.take i++ys.drop (i+1)) b→w.heap.size+1+1≠b:=fun b hb=>by
      rcases hb with hb | hb
      ·have:=h9 b hb
       omega
      ·have:=hb6 b hb
       omega
     have hsub:∀b,ShS (.slice A9 n9 c9) (.slice A6 n6 c6) (ys.take i++ys.drop (i+1)) b→ShS (.slice bA bn bc) (.slice (some ⟨g,0,none⟩) s.2.1.length fc) ys b∨w.heap.size≤b:=fun b hb=>by
      rcases hb with hb | hb
      ·exact .inr (by have:=h9 b hb;omega)
      ·exact(hf2 b hb).imp .inr fun h=>by omega
     go_simp
     generalize w6.setCell ⟨w.heap.size,1,none⟩ (.slice A6 n6 c6)=w8 at *;obtain⟨a0,a1,a2,a3⟩:=ab hpz;obtain⟨g0',g1',g2',g3'⟩:=ab hrz;obtain⟨j0',j1',j2',j3'⟩:=aZ hrz;clear g1 h1
     go_wp2
     all_goals (
      obtain⟨d0,d1,d2,d3⟩:=ab (aK (.slice A9 n9 c9) (.slice A6 n6 c6) (.int .i64 s.2.2.1) (.int .i64 s.2.2.2) hrz);refine bodyPost_ret (by simp [results,Tryd.results68,go_sem,d0,d1,d2,d3];try rfl) rfl ?_
      rw [hhH.out,←hatH.out,haOH.out,hbH.out,hgoH.out,haSH.out];exact kZ hSz Bz (by omega) hrb hsub)
    exact Kh
   exact Kh
  exact Kh
 ·rw [hb] at k2
  have hbH:Hid _:=hb;clear hb;refine wp_region_still_lit (by kernel_rfl) (by kernel_rfl) (WS.out ?_)
  refine WS.step (fun K hK=>WG.mk ?_)
  go_simp
  refine hK.out _ ?_
  clear hK K;refine WS.step (fun K hK=>WG.mk ?_)
  go_simp
  refine hK.out _ ?_
  clear hK K;refine WS.step (fun K hK=>WG.mk ?_)
  go_simp
  refine hK.out _ ?_
  clear hK K;refine WS.step (fun K hK=>WG.mk ?_)
  go_simp
  refine hK.out _ ?_
  clear hK K;refine WS.step (fun K hK=>WG.mk ?_)
  go_simp
  refine hK.out _ ?_
  clear hK K;refine WS.step (fun K hK=>WG.mk ?_)
  go_simp
  refine hK.out _ ?_
  clear hK K;refine WS.step (fun K hK=>WG.mk ?_)
  go_simp
  refine hK.out _ ?_
  clear hK K;refine WS.step (fun K hK=>WG.mk ?_)
  go_simp
  refine hK.out _ ?_
  clear hK K;refine WS.step (fun K hK=>WG.mk ?_)
  go_simp
  refine hK.out _ ?_
  clear hK K;refine WS.step (fun K hK=>WG.mk ?_)
  go_simp
  refine hK.out _ ?_
  clear hK K;refine WS.step (fun K hK=>WG.mk ?_)
  go_simp
  refine hK.out _ ?_
  clear hK K;refine WS.step (fun K hK=>WG.mk ?_)
  go_simp
  refine hK.out _ ?_
  clear hK K;refine WS.step (fun K hK=>WG.mk ?_)
  go_simp
  refine hK.out _ ?_
  clear hK K;refine WS.step (fun K hK=>WG.mk ?_)
  go_simp
  refine hK.out _ ?_
  clear hK K;refine WS.step (fun K hK=>WG.mk ?_)
  go_simp
  refine hK.out _ ?_
  clear hK K;refine WS.step (fun K hK=>WG.mk ?_)
  go_simp
  refine hK.out _ ?_
  clear hK K;refine WS.step (fun K hK=>WG.mk ?_)
  go_simp
  refine hK.out _ ?_
  clear hK K;refine WS.step (fun K hK=>WG.mk ?_)
  go_simp
  refine hK.out _ ?_
  clear hK K;refine WS.step (fun K hK=>WG.mk ?_)
  go_simp
  refine hK.out _ ?_
  clear hK K;refine WS.nil ?_
  change Exit.then _ _ _ _ w2.drew
  have B3:KeptX (ShS (.slice bA bn bc) (.slice (some ⟨g,0,none⟩) s.2.1.length fc) ys) w w2.drew:=B2.step (ac w2);have hr3:=Below.some (ac w2) hr2;generalize w2.drew=w3 at *;obtain⟨g0,g1,g2,g3⟩:=ab hr3;obtain⟨j0,j1,j2,j3⟩:=aZ hr3
  go_wp2
  obtain⟨d0,d1,d2,d3⟩:=ab (aK (.slice none 0 0) (.slice none 0 0) (.int .i64 0) (.int .i64 0) hr3);refine bodyPost_ret (by simp [results,Tryd.results68,go_sem,d0,d1,d2,d3];try rfl) rfl ?_
  rw [hhH.out,←hatH.out,haOH.out,hbH.out,Bool.not_true,JR];exact er B3 (by omega)
end Go.Proofs.YtkcojipciiakdaaDoor

end
