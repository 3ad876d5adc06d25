/-
  A part of the proof: contracts and plain forms of functions beneath the statement, made small by a program (names shortened, what is not needed left out).
-/
import Derived.Test.YtjafgdefcggjcaaGreatDoorRows
import Derived.Test.YtjafgdefcggjcaaGreatDoorTie
import Derived.Test.YtjafgdefcggjcaaGreatDoorCards
import Derived.Test.YtjafgdefcggjcaaGreatDoorM8
import Derived.Maps.AppendAt
import Derived.Laws.ResultCell
import Derived.Laws.Rows
import Derived.BigCall
import Derived.Shelf.Strings.BuilderK
open Go.Value renaming string → aik, int → aiz, slice → aiS, ownBlock → ajH
open Go.BinOp renaming eql → ail, add → ajx
open Array renaming getElem?_eq_some_iff → aim, getElem?_push_size → aiJ
open Int renaming reduceLT → ain, reduceLE → aio, reduceEq → aip, toNat_natCast → ajy
open Go.IntKind renaming i64 → aiq
open Nat renaming le_refl → air, le_trans → ait, succ_mul → aiU, zero_le → aiW, lt_of_lt_of_le → ai4, mul_le_mul_right → ajb, mul_one → ajm, mul_assoc → ajv, mul_add → ajC, mod_eq_of_lt → ajD
open List renaming getElem_mem → ais, eq_nil_of_length_eq_zero → aiv, length_drop → aiw, getElem?_eq_getElem → aix, take_succ_eq_append_getElem → aiA, range → aiE, getElem?_eq_some_iff → aiI, getElem?_cons_zero → aiK, replicate → aiL, cons_append → aiM, take_length → aiN, getElem_cons_succ → aiO, getElem?_map → aiQ, getElem_drop → aiR, getElem?_take_of_lt → aiT, length_take → aiV, append_assoc → aiY, getD_eq_getElem?_getD → ai0, drop_eq_getElem_cons → ai1, length_map → ai2, drop_eq_nil_of_le → ai7, length_cons → ai9, map_append → aja, pairwise_cons → ajc, map_cons → aje, getElem?_append_left → ajh, getElem?_cons_succ → aji, append_nil → ajk, nil_append → ajl, getElem_cons_zero → ajn, take_append_drop → ajp, length_replicate → ajq, mem_of_mem_take → ajt, mem_cons → aju, length_append → ajw, foldl_append → ajz, length → ajB, all_eq_true → ajE, length_nil → ajF, range_succ → ajG
open Option renaming isSome_none → aiu, isSome_some → aiy, bind_eq_some_iff → aiF, bind_some → aiH, map_eq_some_iff → aiX, isSome_iff_exists → ai5, getD_some → ai8, map_some → ajj, map_map → ajo
open Go.World renaming setCell → aiB, ownsRow_nil → ajg, cell?_of_block → ajs
open Go.Lib renaming cell_of_heap → aiC, cut → aiD, frozen_of_heap → ai3, atoiAll → ajA
open Go.Proofs renaming enters_of → aiG
open Option.some renaming injEq → aiP
open Bool renaming and_eq_true → aiZ, true_eq_false → ai6, false_eq_true → ajd, true_and → ajf, false_and → ajI
open ByteArray renaming size_append → ajr
open Go.Obj renaming cells → ajJ
set_option maxRecDepth 100000
set_option linter.unusedSimpArgs false
set_option linter.unusedVariables false
noncomputable section
namespace Go.Proofs.YtjafgdefcggjcaaGreatDoor
open Go Go.V Go.RowKit Go.Shelf
abbrev bt (l:List UInt8):ByteArray:=⟨l.toArray⟩
abbrev Ln:=ByteArray × ByteArray × List Int
def rdI (t:ByteArray):Ln × Bool :=
 match fx shE (bt (aiD (ac t) [32]).1) with
 | none=>((⟨#[]⟩,⟨#[]⟩,[]),false)
 | some sh =>
  if (aiD (ac t) [32]).2.2=decide (sh=⟨#[]⟩) then((⟨#[]⟩,⟨#[]⟩,[]),false)
  else if sh=⟨#[84]⟩∨sh=⟨#[]⟩ then((bt (aiD (ac t) [32]).1,bt (aiD (ac t) [32]).2.1,[]),true)
  else match cG (aC 32 (bt (aiD (ac t) [32]).2.1)) with
   | none=>((⟨#[]⟩,⟨#[]⟩,[]),false)
   | some r=>((bt (aiD (ac t) [32]).1,⟨#[]⟩,r),decide (((aC 32 (bt (aiD (ac t) [32]).2.1)).length:Int)=(sh.size:Int)))
theorem aaR {k s:ByteArray} (h:fx shE k=some s):s=⟨#[84]⟩∨s=⟨#[]⟩∨s=⟨#[78]⟩∨s=⟨#[78,78]⟩∨s=⟨#[78,78,78]⟩:=by
 have key:∀E:List (ByteArray × ByteArray),fx E k=some s→s∈E.map (·.2):=by
  intro E;induction E with
  | nil=>intro h;cases h
  | cons x E ih =>
   intro h;simp only [fx] at h;split at h
   ·cases h;simp
   ·exact List.mem_cons_of_mem _ (ih h)
 have:=key _ h;simp only [shE,aje,List.map_nil,aju,List.not_mem_nil,or_false] at this;rcases this with h | h | h | h | h | h | h | h | h | h | h | h | h | h | h | h<;>simp [h]
theorem Vx:(Tryz.prog.info? 3).map (fun i=>(i.zero,i.size,i.bytes))=some (some (.int .i64 0),1,8):=by kernel_rfl
theorem EQ (w:World) (b o:Nat) (v:Value):w.grownBy (w.setCell ⟨b,o,none⟩ v) (some b) :=
 ⟨rfl,rfl,rfl,by simp [aiB],fun k _ h=>heap_setCell_other w ⟨b,o,none⟩ k v (fun e=>h (by rw [e]))⟩
theorem bj {W:World} {b t:Nat} {x y z:Value} (q:W.heap[b]?=some (.cells #[x,y,z] t (0,0))):(W.cell? ⟨b,0,none⟩=some x∧W.cell? ⟨b,1,none⟩=some y∧W.cell? ⟨b,2,none⟩=some z)∧W.frozen? ⟨b,0,none⟩=false∧W.frozen? ⟨b,1,none⟩=false∧W.frozen? ⟨b,2,none⟩=false :=
 ⟨⟨by rw [aiC q];rfl,by rw [aiC q];rfl,by rw [aiC q];rfl⟩,ai3 q 0,ai3 q 1,ai3 q 2⟩
theorem vP {W:World} {b t B:Nat} {x y z:Value} (q:W.heap[b]?=some (.cells #[x,y,z] t (0,0))) (hB:B≤b) (x' y' z':Value) :
  (((W.setCell ⟨b,0,none⟩ x').setCell ⟨b,1,none⟩ y').setCell ⟨b,2,none⟩ z').heap[b]?=some (.cells #[x',y',z'] t (0,0))∧Below B W (((W.setCell ⟨b,0,none⟩ x').setCell ⟨b,1,none⟩ y').setCell ⟨b,2,none⟩ z'):=by
 refine⟨?_,(((Below.refl B W).setCell hB _).setCell hB _).setCell hB _⟩
 have h1:=heap_setCell_same _ b 0 _ _ x' q;have h2:=heap_setCell_same _ b 1 _ _ y' h1;have h3:=heap_setCell_same _ b 2 _ _ z' h2;rw [h3];rfl
theorem dY {W:World} {tmps:Array Value} {g t:Nat} {cs:Array Value} {q:Bool} (hp:tmps.getD 2 undef = .pointer (some ⟨g,0,none⟩)) (hq:tmps.getD 3 undef = .bool q) (hg:W.heap[g]?=some (.cells cs t (0,0))) (hn:cs.size=3) :
  (results Tryz.f79 tmps).run Tryz.prog W = .ok (.tuple #[.agg cs,.bool q]) W:=by
 rw [results_cell_tmp (fn:=Tryz.f79) (p:=2) (u:=3) (ty:=107) rfl,hp,hq];have h:=run_loadVar_row W g t 107 cs (0,0) _ hg Tryz.underlying107 rfl (by rw [hn];kernel_rfl);simp [asAddr,h,Result.andThen]
theorem WD (t:ByteArray):(bt (aiD (ac t) [32]).1).size≤t.size∧(bt (aiD (ac t) [32]).2.1).size≤t.size:=by
 show(ac (bt (aiD (ac t) [32]).1)).length≤(ac t).length∧(ac (bt (aiD (ac t) [32]).2.1)).length≤(ac t).length
 rw [cW (aiD (ac t) [32]).1,cW (aiD (ac t) [32]).2.1];generalize ac t=l;by_cases h:(32:UInt8)∈l
 ·obtain⟨a,b,e,hn⟩:∃a b,l=a++32::b∧(32:UInt8)∉a:=by
   rcases oo 32 l with ⟨_,h2⟩ | ⟨a,b,h1,h2,_⟩
   ·exact absurd h h2
   ·exact⟨a,b,h1,h2⟩
  rw [e,SS hn];simp;omega
 ·rw [Oz h]
  simp
theorem sv {a b:ByteArray} (h:a.toList=b.toList):a=b:=by
 have e:∀c:ByteArray,c.toList=c.data.toList:=fun c=>by simp [ByteArray.toList_eq]
 rw [e,e] at h;exact XA h
theorem kE {W W':World} {base e size n:Nat} {v:Value} {xs:List Value} (h:W.ownsRow base e size v n xs) (hB:Below W.heap.size W W'):W'.ownsRow base e size v n xs:=by
 obtain⟨h1,h2 | ⟨g,cap,cur,h2,h3,h4,r⟩⟩:=h
 ·exact⟨h1,.inl h2⟩
 ·exact⟨h1,.inr ⟨g,cap,cur,h2,h3,(hB.block _ (aim.1 h4).1).trans h4,r⟩⟩
theorem MK {W:World} {base e size n:Nat} {v:Value} {xs:List Value} (h:W.ownsRow base e size v n xs):∃A m c,v = .slice A m c:=by
 obtain⟨_,⟨rfl,_⟩ | ⟨g,cap,cur,rfl,_⟩⟩:=h
 ·exact⟨_,_,_,rfl⟩
 ·exact⟨_,_,_,rfl⟩
theorem oO {W:World} {base e size n:Nat} {v:Value} {xs:List Value} (h:W.ownsRow base e size v (n+1) xs):∃g cap,v = .slice (some ⟨g,0,none⟩) (n+1) cap:=by
 obtain⟨_,⟨rfl,h⟩ | ⟨g,cap,cur,rfl,_⟩⟩:=h
 ·cases h
 ·exact⟨g,cap,rfl⟩
theorem ib {W:World} {base e size n:Nat} {v:Value} {xs:List Value} (h:W.ownsRow base e size v n xs) {j:Nat} (hj:v.ownBlock=some j):base≤j:=by
 obtain⟨_,⟨rfl,_⟩ | ⟨g,cap,cur,rfl,hge,_⟩⟩:=h
 ·simp [ajH] at hj
 ·simp only [ajH,aiP] at hj
  omega
theorem qk {W:World} {base e size n b:Nat} {v:Value} {xs:List Value} (h:W.ownsRow base e size v n xs) (hb:b<base):v.ownBlock≠some b:=fun hj=>by
 have:=ib h hj;omega
theorem eT {wr w2:World} {o x:Obj} {b:Nat} {v:Value} (q:wr.heap[b]?=some x) (hg:(wr.alloc o).grownBy w2 v.ownBlock) (hn:v.ownBlock≠some b):w2.heap[b]?=some x:=by
 have hb:b<wr.heap.size:=(aim.1 q).1;have h1:(wr.alloc o).heap[b]?=wr.heap[b]?:=(World.grownBy_alloc wr o none).block b hb (by simp);exact(hg.block b (ai4 hb (World.grownBy_alloc wr o none).size) (fun e=>hn e.symm)).trans (h1.trans q)
def aif (w w':World) (e:Ending) (x:Ln × Bool):Prop:=∃sl,e = .returned (.tuple #[.agg #[.string x.1.1,.string x.1.2.1,sl],.bool x.2])∧Below w.heap.size w w' ∧
 ((sl = .slice none 0 0∧x.1.2.2=[])∨∃g cap cur t,sl = .slice (some ⟨g,0,none⟩) x.1.2.2.length cap∧x.1.2.2.length≤cap∧w.heap.size≤g∧w'.heap[g]?=some (.cells cur t (0,0))∧∀(i:Nat) (n:Int),x.1.2.2[i]?=some n→cur[i]?=some (.int .i64 n))
set_option maxHeartbeats 4000000 in
set_option maxRecDepth 1000000 in
theorem Qm (t:ByteArray) (ht:t.size≤1048576) (w:World) (F:Nat→Prop) (hF:∀b,F b→b<w.heap.size) (hgl:gOk gl2 w F) :
  Calls Tryz.prog 79 #[.string t] w fun e w'=>aif w w' e (rdI t):=by
 have hgW:∀W,Below w.heap.size w W→gOk gl2 W F:=fun W hW=>iv (fun _ h=>h) (fun b hb=>hW.block b (hF b hb)) hgl
 have hFW:∀W,Below w.heap.size w W→∀b,F b→b<W.heap.size:=fun W hW b hb=>ai4 (hF b hb) hW.size
 have h0W:∀W,Below w.heap.size w W→gOk gl0 W F:=fun W hW p hp=>hgW W hW p (qi p hp)
 have h1W:∀W,Below w.heap.size w W→gOk gl1 W F:=fun W hW p hp=>hgW W hW p (CD p hp)
 have hCut:∀W,Below w.heap.size w W→_:=fun W hW=>adg (hFW W hW) (h0W W hW) t ht
 have hcz1:(bt (aiD (ac t) [32]).1).size≤1048576:=ait (WD t).1 ht;have hcz2:(bt (aiD (ac t) [32]).2.1).size≤1048576:=ait (WD t).2 ht;have hdef:rdI t=rdI t:=rfl
 conv at hdef=>rhs;unfold rdI
 generalize rdI t=res at hdef;generalize (aiD (ac t) [32]).2.2=found at hCut hdef
 change ∀W,Below w.heap.size w W→Calls Tryz.prog 85 #[.string t,.string ⟨#[32]⟩] W (fun e w'=>e = .returned (.tuple #[.string (bt (aiD (ac t) [32]).1),.string (bt (aiD (ac t) [32]).2.1),.bool found])∧Below W.heap.size W w') at hCut
 generalize bt (aiD (ac t) [32]).1=word at hCut hdef hcz1;generalize bt (aiD (ac t) [32]).2.1=rest at hCut hdef hcz2;have hSh:∀W,Below w.heap.size w W→_:=fun W hW=>Yd (hFW W hW) (h0W W hW) word hcz1
 have b0:Below w.heap.size w (w.alloc (.cells #[.string ⟨#[]⟩,.string ⟨#[]⟩,.slice none 0 0] 107)):=(Below.refl _ w).alloc (air _) _;have k2:(w.alloc (.cells #[.string ⟨#[]⟩,.string ⟨#[]⟩,.slice none 0 0] 107)).heap[w.heap.size]?=some (.cells #[.string ⟨#[]⟩,.string ⟨#[]⟩,.slice none 0 0] 107):=aiJ;have hc1:=hCut _ b0;have hlt0:w.heap.size<(w.alloc (.cells #[.string ⟨#[]⟩,.string ⟨#[]⟩,.slice none 0 0] 107)).heap.size:=(aim.1 k2).1
 go_enter Tryz.func79,Tryz.ntmps79
 go_wp2_with (go_at_call 85;refine hc1.mono ?_)
 rintro e W1 ⟨rfl,b1⟩;have hB1:=b0.trans (b1.mono b0.size);have k2:=(b1.block _ (aim.1 k2).1).trans k2;have hc2:=hSh _ hB1
 go_wp2_with (go_at_call 115;refine hc2.mono ?_)
 rintro e W2 ⟨rfl,b2⟩;have hB2:=hB1.trans (b2.mono hB1.size);have k2:=(b2.block _ (aim.1 k2).1).trans k2;have hlt2:w.heap.size<W2.heap.size:=(aim.1 k2).1;clear hc1 hc2 hCut hSh b0 b1 b2 hlt0;cases hv:fx shE word with
 | none =>
  rw [hv] at hdef;subst hdef;obtain⟨⟨c0,c1,c2⟩,f0,f1,f2⟩:=bj k2
  go_wp2
  obtain⟨k3,b3'⟩:=vP k2 (air _) (.string ⟨#[]⟩) (.string ⟨#[]⟩) (.slice none 0 0);exact bodyPost_ret_by (dY rfl rfl k3 rfl) rfl ⟨_,rfl,hB2.trans b3',.inl ⟨rfl,rfl⟩⟩
 | some sh =>
  rw [hv] at hdef;simp only [ai8,aiy];rcases aaR hv with rfl | rfl | rfl | rfl | rfl
  ·cases found
   ·have hdef':res=((⟨#[]⟩,⟨#[]⟩,[]),false):=hdef
    subst hdef';obtain⟨⟨c0,c1,c2⟩,f0,f1,f2⟩:=bj k2
    go_wp2
    obtain⟨k3,b3'⟩:=vP k2 (air _) (.string ⟨#[]⟩) (.string ⟨#[]⟩) (.slice none 0 0);exact bodyPost_ret_by (dY rfl rfl k3 rfl) rfl ⟨_,rfl,hB2.trans b3',.inl ⟨rfl,rfl⟩⟩
   ·have hdef':res=((word,rest,[]),true):=hdef
    subst hdef';obtain⟨⟨c0,c1,c2⟩,f0,f1,f2⟩:=bj k2
    go_wp2
    obtain⟨k3,b3'⟩:=vP k2 (air _) (.string word) (.string rest) (.slice none 0 0);exact bodyPost_ret_by (dY rfl rfl k3 rfl) rfl ⟨_,rfl,hB2.trans b3',.inl ⟨rfl,rfl⟩⟩
  ·cases found
   ·have hdef':res=((word,rest,[]),true):=hdef
    subst hdef';obtain⟨⟨c0,c1,c2⟩,f0,f1,f2⟩:=bj k2
    go_wp2
    obtain⟨k3,b3'⟩:=vP k2 (air _) (.string word) (.string rest) (.slice none 0 0);exact bodyPost_ret_by (dY rfl rfl k3 rfl) rfl ⟨_,rfl,hB2.trans b3',.inl ⟨rfl,rfl⟩⟩
   ·have hdef':res=((⟨#[]⟩,⟨#[]⟩,[]),false):=hdef
    subst hdef';obtain⟨⟨c0,c1,c2⟩,f0,f1,f2⟩:=bj k2
    go_wp2
    obtain⟨k3,b3'⟩:=vP k2 (air _) (.string ⟨#[]⟩) (.string ⟨#[]⟩) (.slice none 0 0);exact bodyPost_ret_by (dY rfl rfl k3 rfl) rfl ⟨_,rfl,hB2.trans b3',.inl ⟨rfl,rfl⟩⟩
  ·cases found
   ·have hdef':res=((⟨#[]⟩,⟨#[]⟩,[]),false):=hdef
    subst hdef';obtain⟨⟨c0,c1,c2⟩,f0,f1,f2⟩:=bj k2
    go_wp2
    obtain⟨k3,b3'⟩:=vP k2 (air _) (.string ⟨#[]⟩) (.string ⟨#[]⟩) (.slice none 0 0);exact bodyPost_ret_by (dY rfl rfl k3 rfl) rfl ⟨_,rfl,hB2.trans b3',.inl ⟨rfl,rfl⟩⟩
   have hdef':res=match cG (aC 32 rest) with
    | none=>((⟨#[]⟩,⟨#[]⟩,[]),false)
    | some r=>((word,⟨#[]⟩,r),decide (((aC 32 rest).length:Int)=1)):=hdef
   clear hdef;obtain⟨i0,hi0,hz0,hz1,hz2⟩:=info_parts Vx;have b3:Below w.heap.size w (W2.alloc (.cells #[.string word,.string ⟨#[]⟩,.slice none 0 0] 107)):=hB2.alloc hB2.size _;have k9:(W2.alloc (.cells #[.string word,.string ⟨#[]⟩,.slice none 0 0] 107)).heap[W2.heap.size]?=some (.cells #[.string word,.string ⟨#[]⟩,.slice none 0 0] 107):=aiJ;have k2:=(heap_alloc_old W2 (.cells #[.string word,.string ⟨#[]⟩,.slice none 0 0] 107) hlt2).trans k2;have hc3:=FD (hFW _ b3) (h0W _ b3) rest hcz2;have hwz:∀x∈aC 32 rest,x.size≤1048576:=fun x hx=>ait (fI 32 rest x hx) hcz2
   have hwl:(aC 32 rest).length≤1048577:=by
    rw [ex];have h1:=eZ 32 (ac rest);have h2:=cX rest;omega
   generalize aC 32 rest=ws at hc3 hwz hwl hdef'
   go_wp2_with (go_at_call 70;refine hc3.mono ?_)
   rintro e W3 ⟨b4,g,o,c,cs,tt,rfl,hge,hg,hcs⟩;have hB3:=b3.trans (b4.mono b3.size);have k9:=(b4.block _ (aim.1 k9).1).trans k9;have k2:=(b4.block _ (aim.1 k2).1).trans k2;have hl9:W2.heap.size<W3.heap.size:=(aim.1 k9).1;have hlg:g<W3.heap.size:=(aim.1 hg).1;have hg9:W2.heap.size<g:=by
    have:(W2.alloc (ajJ #[.string word,.string ⟨#[]⟩,.slice none 0 0] 107)).heap.size=W2.heap.size+1:=by simp
    omega
   clear hc3 b3 b4
   go_wp2
   go_loopw [50] (fun v50 wr=>∃(i:Nat) (acc:List Int) (sl:Value),v50 = .int .i64 i∧i≤ws.length∧acc.length=i∧cG ws=(cG (ws.drop i)).map (acc++·) ∧
     wr.heap[W2.heap.size]?=some (.cells #[.string word,.string ⟨#[]⟩,sl] 107 (0,0))∧wr.heap[w.heap.size]?=some (.cells #[.string ⟨#[]⟩,.string ⟨#[]⟩,.slice none 0 0] 107 (0,0))∧wr.heap[g]?=some (.cells cs tt (0,0)) ∧
     wr.ownsRow W3.heap.size 3 1 sl i (acc.map (aiz .i64))∧Below w.heap.size w wr∧W3.heap.size≤wr.heap.size) (fun v50 wr=>ws.length - (match v50 with | .int _ n=>n.toNat | _=>0))
   case atStart =>
    exact⟨0,[],.slice none 0 0,rfl,aiW _,rfl,by simp,k9,k2,hg,ajg _ _ _ _,hB3,air _⟩
   case round =>
    clear k9 k2 hg;obtain⟨i,acc,sl,rfl,hi,hal,hnw,k9,k2,hg,hrow,hbw,hsz⟩:=hrel;obtain⟨sA,sn,sc,rfl⟩:=MK hrow;by_cases hp:i<ws.length
    ·have hpi:(i:Int)<(ws.length:Int):=by omega
     have cw:wr.cell? ⟨g,o+i,none⟩=some (.string ws[i]):=by
      rw [aiC hg];exact hcs i _ (aix hp)
     have hat:=IJ (hFW wr hbw) (hgW wr hbw) ws[i] (hwz _ (ais hp));rw [ai1 hp] at hnw;simp only [cG,Bl] at hnw;have failed:∀W,wr.heap.size≤W.heap.size→Below wr.heap.size wr W→cG ws=none→res=((⟨#[]⟩,⟨#[]⟩,[]),false):=fun _ _ _ h=>by rw [hdef',h]
     go_wp2_with (go_at_call 116;refine hat.mono ?_)
     rintro e W4 ⟨b4,⟨v,hv4,rfl⟩ | ⟨hno,n4,t4,x4,rfl⟩⟩
     case inr =>
      have hnn:cG ws=none:=by
       rw [hnw];cases hq:ajA (ac ws[i]) with
       | ok v=>exact absurd hq (hno v)
       | _=>rfl
      obtain rfl:=failed W4 b4.size b4 hnn;have k2:=(b4.block _ (aim.1 k2).1).trans k2;have hB4:=hbw.trans (b4.mono hbw.size);obtain⟨⟨c0,c1,c2⟩,f0,f1,f2⟩:=bj k2
      go_wp2
      obtain⟨k3,b3'⟩:=vP k2 (air _) (.string ⟨#[]⟩) (.string ⟨#[]⟩) (.slice none 0 0);exact bodyPost_ret_by (dY rfl rfl k3 rfl) rfl ⟨_,rfl,hB4.trans b3',.inl ⟨rfl,rfl⟩⟩
     case inl =>
      rw [hv4] at hnw;simp only at hnw;have k2:=(b4.block _ (aim.1 k2).1).trans k2;have k9:=(b4.block _ (aim.1 k9).1).trans k9;have hg:=(b4.block _ (aim.1 hg).1).trans hg;have hB4:=hbw.trans (b4.mono hbw.size);have hrow:=kE hrow b4;have hsz4:=ait hsz b4.size;have hwi:=Al (hFW W4 hB4) (h0W W4 hB4) v (-999999) 999999
      go_wp2_with (go_at_call 52;refine hwi.mono ?_)
      rintro e W5 ⟨rfl,b5⟩;have k2:=(b5.block _ (aim.1 k2).1).trans k2;have k9:=(b5.block _ (aim.1 k9).1).trans k9;have hg:=(b5.block _ (aim.1 hg).1).trans hg;have hB5:=hB4.trans (b5.mono hB4.size);have hrow:=kE hrow b5;have hsz5:=ait hsz4 b5.size;by_cases hr : -999999≤v∧v≤999999
      case neg =>
       have hnn:cG ws=none:=by
        rw [hnw,if_neg (fun h=>hr h.1)];rfl
       obtain rfl:=failed W4 b4.size b4 hnn;simp only [hr,decide_false];obtain⟨⟨c0,c1,c2⟩,f0,f1,f2⟩:=bj k2
       go_wp2
       obtain⟨k3,b3'⟩:=vP k2 (air _) (.string ⟨#[]⟩) (.string ⟨#[]⟩) (.slice none 0 0);exact bodyPost_ret_by (dY rfl rfl k3 rfl) rfl ⟨_,rfl,hB5.trans b3',.inl ⟨rfl,rfl⟩⟩
      case pos =>
       simp only [hr,and_self,decide_true];have hit:=BJ (hFW W5 hB5) (h1W W5 hB5) (n:=v) (by omega) (by omega)
       go_wp2_with (go_at_call 117;refine hit.mono ?_)
       rintro e W6 ⟨rfl,b6⟩;have k2:=(b6.block _ (aim.1 k2).1).trans k2;have k9:=(b6.block _ (aim.1 k9).1).trans k9;have hg:=(b6.block _ (aim.1 hg).1).trans hg;have hB6:=hB5.trans (b6.mono hB5.size);have hrow:=kE hrow b6;have hsz6:=ait hsz5 b6.size;by_cases he:aI v=ws[i]
       case neg =>
        have hnn:cG ws=none:=by
         rw [hnw,if_neg (fun h=>he h.2)];rfl
        obtain rfl:=failed W4 b4.size b4 hnn;have he2:((aI v).toList==(ws[i]).toList)=false:=by
         rw [beq_eq_false_iff_ne];intro h;exact he (sv h)
        obtain⟨⟨c0,c1,c2⟩,f0,f1,f2⟩:=bj k2
        go_wp2
        obtain⟨k3,b3'⟩:=vP k2 (air _) (.string ⟨#[]⟩) (.string ⟨#[]⟩) (.slice none 0 0);exact bodyPost_ret_by (dY rfl rfl k3 rfl) rfl ⟨_,rfl,hB6.trans b3',.inl ⟨rfl,rfl⟩⟩
       case pos =>
        rw [if_pos ⟨hr,he⟩] at hnw;simp only [aiH,ajo] at hnw;rw [he];obtain⟨⟨c0,c1,c2⟩,f0,f1,f2⟩:=bj k9;have hnb:(aiS sA sn sc).ownBlock≠some W2.heap.size:=qk hrow hl9;have hwz4:=hwl
        go_wp2_with (first
         | (at_builtin;refine wpList_append_own _ rfl _ _ 38 rfl W3.heap.size 3 i0 (.int .i64 0) 1 8 Tryz.underlying38 hi0 hz0 hz1 hz2 rfl (by decide) _ _ _ rfl (hrow.alloc _) ⟨W6.heap.size,0,none⟩ 1 1 [.int .i64 v] rfl rfl (cell_one_new _ _ _) (by intro u hu;simp at hu;subst hu;rfl) (by unfold maxLen;omega) (by omega) (by simp;omega) ?_;intro v' w2 hown' hgrow hnil;obtain⟨g',cap',rfl⟩:=oO hown';have hk:=eT k9 hgrow hnb;obtain⟨⟨d0,d1,d2⟩,g0,g1,g2⟩:=bj hk)
         | go_in)
        have hgk:=eT hg hgrow (qk hrow hlg);have k2k:=eT k2 hgrow (qk hrow (by omega));have hb7:Below w.heap.size w w2:=(hB6.alloc hB6.size (.cells #[.int .i64 v] 3)).grown hgrow (by simp;omega) (fun j hj=>by have:=ib hrow hj;omega);refine⟨⟨i+1,acc++[v],.slice (some ⟨g',0,none⟩) (i+1) cap',congrArg (aiz .i64) (by omega),by omega,by simp [hal],?_,?_,?_,?_,?_,hb7.setCell (by simp;omega) _,?_⟩,?_⟩
        ·rw [hnw]
         congr 1
         funext r
         simp
        ·rw [heap_setCell_same _ _ _ _ _ _ hk]
         rfl
        ·rw [heap_setCell_other _ _ _ _ (by simp;omega)]
         exact k2k
        ·rw [heap_setCell_other _ _ _ _ (by simp;omega)]
         exact hgk
        ·rw [aja]
         exact hown'.kept (EQ _ _ _ _) (.inr (qk hown' hl9))
        ·have e1:=hgrow.size
         simp at e1;simp [aiB];omega
        ·show ws.length - ((i:Int)+1).toNat<ws.length - (i:Int).toNat
         omega
    ·have hpi:¬(i:Int)<(ws.length:Int):=by omega
     have hil:i=ws.length:=by omega
     rw [ai7 (by omega)] at hnw;simp only [cG,ajj,ajk] at hnw;rw [hnw] at hdef';subst hdef';obtain⟨⟨c0,c1,c2⟩,f0,f1,f2⟩:=bj k9;obtain⟨⟨d0,d1,d2⟩,e0,e1,e2⟩:=bj k2
     go_wp2
     obtain⟨k3,b3'⟩:=vP k2 (air _) (.string word) (.string ⟨#[]⟩) (.slice sA sn sc);have h4:(aiS sA sn sc = .slice none 0 0∧acc=[])∨∃g cap cur t,aiS sA sn sc = .slice (some ⟨g,0,none⟩) acc.length cap∧acc.length≤cap∧w.heap.size≤g∧(((wr.setCell ⟨w.heap.size,0,none⟩ (.string word)).setCell ⟨w.heap.size,1,none⟩ (.string ⟨#[]⟩)).setCell ⟨w.heap.size,2,none⟩ (.slice sA sn sc)).heap[g]?=some (.cells cur t (0,0)) ∧
       ∀(i:Nat) (n:Int),acc[i]?=some n→cur[i]?=some (.int .i64 n):=by
      obtain⟨hxs,⟨hsv,hz⟩ | ⟨g2,cap2,cur,hsv,hge2,hg2,hcap,_,hcs2,htake⟩⟩:=hrow
      ·exact .inl ⟨hsv,aiv (by omega)⟩
      ·refine .inr ⟨g2,cap2,cur,3,by rw [hal];exact hsv,by rw [hal];exact hcap,by omega,?_,fun j n hn=>?_⟩
       ·rw [heap_setCell_other _ _ _ _ (by simp;omega),heap_setCell_other _ _ _ _ (by simp;omega),heap_setCell_other _ _ _ _ (by simp;omega)]
        exact hg2
       ·have e:(acc.map (aiz .i64))[j]?=some (.int .i64 n):=by rw [aiQ,hn];rfl
        have hj:j<acc.length:=(aiI.1 hn).1;rw [←htake,aiT (by omega)] at e;simpa using e
     exact bodyPost_ret_by (dY rfl rfl k3 rfl) rfl ⟨_,rfl,hbw.trans b3',h4⟩
  ·cases found
   ·have hdef':res=((⟨#[]⟩,⟨#[]⟩,[]),false):=hdef
    subst hdef';obtain⟨⟨c0,c1,c2⟩,f0,f1,f2⟩:=bj k2
    go_wp2
    obtain⟨k3,b3'⟩:=vP k2 (air _) (.string ⟨#[]⟩) (.string ⟨#[]⟩) (.slice none 0 0);exact bodyPost_ret_by (dY rfl rfl k3 rfl) rfl ⟨_,rfl,hB2.trans b3',.inl ⟨rfl,rfl⟩⟩
   have hdef':res=match cG (aC 32 rest) with
    | none=>((⟨#[]⟩,⟨#[]⟩,[]),false)
    | some r=>((word,⟨#[]⟩,r),decide (((aC 32 rest).length:Int)=2)):=hdef
   clear hdef;obtain⟨i0,hi0,hz0,hz1,hz2⟩:=info_parts Vx;have b3:Below w.heap.size w (W2.alloc (.cells #[.string word,.string ⟨#[]⟩,.slice none 0 0] 107)):=hB2.alloc hB2.size _;have k9:(W2.alloc (.cells #[.string word,.string ⟨#[]⟩,.slice none 0 0] 107)).heap[W2.heap.size]?=some (.cells #[.string word,.string ⟨#[]⟩,.slice none 0 0] 107):=aiJ;have k2:=(heap_alloc_old W2 (.cells #[.string word,.string ⟨#[]⟩,.slice none 0 0] 107) hlt2).trans k2;have hc3:=FD (hFW _ b3) (h0W _ b3) rest hcz2;have hwz:∀x∈aC 32 rest,x.size≤1048576:=fun x hx=>ait (fI 32 rest x hx) hcz2
   have hwl:(aC 32 rest).length≤1048577:=by
    rw [ex];have h1:=eZ 32 (ac rest);have h2:=cX rest;omega
   generalize aC 32 rest=ws at hc3 hwz hwl hdef'
   go_wp2_with (go_at_call 70;refine hc3.mono ?_)
   rintro e W3 ⟨b4,g,o,c,cs,tt,rfl,hge,hg,hcs⟩;have hB3:=b3.trans (b4.mono b3.size);have k9:=(b4.block _ (aim.1 k9).1).trans k9;have k2:=(b4.block _ (aim.1 k2).1).trans k2;have hl9:W2.heap.size<W3.heap.size:=(aim.1 k9).1;have hlg:g<W3.heap.size:=(aim.1 hg).1;have hg9:W2.heap.size<g:=by
    have:(W2.alloc (ajJ #[.string word,.string ⟨#[]⟩,.slice none 0 0] 107)).heap.size=W2.heap.size+1:=by simp
    omega
   clear hc3 b3 b4
   go_wp2
   go_loopw [50] (fun v50 wr=>∃(i:Nat) (acc:List Int) (sl:Value),v50 = .int .i64 i∧i≤ws.length∧acc.length=i∧cG ws=(cG (ws.drop i)).map (acc++·) ∧
     wr.heap[W2.heap.size]?=some (.cells #[.string word,.string ⟨#[]⟩,sl] 107 (0,0))∧wr.heap[w.heap.size]?=some (.cells #[.string ⟨#[]⟩,.string ⟨#[]⟩,.slice none 0 0] 107 (0,0))∧wr.heap[g]?=some (.cells cs tt (0,0)) ∧
     wr.ownsRow W3.heap.size 3 1 sl i (acc.map (aiz .i64))∧Below w.heap.size w wr∧W3.heap.size≤wr.heap.size) (fun v50 wr=>ws.length - (match v50 with | .int _ n=>n.toNat | _=>0))
   case atStart =>
    exact⟨0,[],.slice none 0 0,rfl,aiW _,rfl,by simp,k9,k2,hg,ajg _ _ _ _,hB3,air _⟩
   case round =>
    clear k9 k2 hg;obtain⟨i,acc,sl,rfl,hi,hal,hnw,k9,k2,hg,hrow,hbw,hsz⟩:=hrel;obtain⟨sA,sn,sc,rfl⟩:=MK hrow;by_cases hp:i<ws.length
    ·have hpi:(i:Int)<(ws.length:Int):=by omega
     have cw:wr.cell? ⟨g,o+i,none⟩=some (.string ws[i]):=by
      rw [aiC hg];exact hcs i _ (aix hp)
     have hat:=IJ (hFW wr hbw) (hgW wr hbw) ws[i] (hwz _ (ais hp));rw [ai1 hp] at hnw;simp only [cG,Bl] at hnw;have failed:∀W,wr.heap.size≤W.heap.size→Below wr.heap.size wr W→cG ws=none→res=((⟨#[]⟩,⟨#[]⟩,[]),false):=fun _ _ _ h=>by rw [hdef',h]
     go_wp2_with (go_at_call 116;refine hat.mono ?_)
     rintro e W4 ⟨b4,⟨v,hv4,rfl⟩ | ⟨hno,n4,t4,x4,rfl⟩⟩
     case inr =>
      have hnn:cG ws=none:=by
       rw [hnw];cases hq:ajA (ac ws[i]) with
       | ok v=>exact absurd hq (hno v)
       | _=>rfl
      obtain rfl:=failed W4 b4.size b4 hnn;have k2:=(b4.block _ (aim.1 k2).1).trans k2;have hB4:=hbw.trans (b4.mono hbw.size);obtain⟨⟨c0,c1,c2⟩,f0,f1,f2⟩:=bj k2
      go_wp2
      obtain⟨k3,b3'⟩:=vP k2 (air _) (.string ⟨#[]⟩) (.string ⟨#[]⟩) (.slice none 0 0);exact bodyPost_ret_by (dY rfl rfl k3 rfl) rfl ⟨_,rfl,hB4.trans b3',.inl ⟨rfl,rfl⟩⟩
     case inl =>
      rw [hv4] at hnw;simp only at hnw;have k2:=(b4.block _ (aim.1 k2).1).trans k2;have k9:=(b4.block _ (aim.1 k9).1).trans k9;have hg:=(b4.block _ (aim.1 hg).1).trans hg;have hB4:=hbw.trans (b4.mono hbw.size);have hrow:=kE hrow b4;have hsz4:=ait hsz b4.size;have hwi:=Al (hFW W4 hB4) (h0W W4 hB4) v (-999999) 999999
      go_wp2_with (go_at_call 52;refine hwi.mono ?_)
      rintro e W5 ⟨rfl,b5⟩;have k2:=(b5.block _ (aim.1 k2).1).trans k2;have k9:=(b5.block _ (aim.1 k9).1).trans k9;have hg:=(b5.block _ (aim.1 hg).1).trans hg;have hB5:=hB4.trans (b5.mono hB4.size);have hrow:=kE hrow b5;have hsz5:=ait hsz4 b5.size;by_cases hr : -999999≤v∧v≤999999
      case neg =>
       have hnn:cG ws=none:=by
        rw [hnw,if_neg (fun h=>hr h.1)];rfl
       obtain rfl:=failed W4 b4.size b4 hnn;simp only [hr,decide_false];obtain⟨⟨c0,c1,c2⟩,f0,f1,f2⟩:=bj k2
       go_wp2
       obtain⟨k3,b3'⟩:=vP k2 (air _) (.string ⟨#[]⟩) (.string ⟨#[]⟩) (.slice none 0 0);exact bodyPost_ret_by (dY rfl rfl k3 rfl) rfl ⟨_,rfl,hB5.trans b3',.inl ⟨rfl,rfl⟩⟩
      case pos =>
       simp only [hr,and_self,decide_true];have hit:=BJ (hFW W5 hB5) (h1W W5 hB5) (n:=v) (by omega) (by omega)
       go_wp2_with (go_at_call 117;refine hit.mono ?_)
       rintro e W6 ⟨rfl,b6⟩;have k2:=(b6.block _ (aim.1 k2).1).trans k2;have k9:=(b6.block _ (aim.1 k9).1).trans k9;have hg:=(b6.block _ (aim.1 hg).1).trans hg;have hB6:=hB5.trans (b6.mono hB5.size);have hrow:=kE hrow b6;have hsz6:=ait hsz5 b6.size;by_cases he:aI v=ws[i]
       case neg =>
        have hnn:cG ws=none:=by
         rw [hnw,if_neg (fun h=>he h.2)];rfl
        obtain rfl:=failed W4 b4.size b4 hnn;have he2:((aI v).toList==(ws[i]).toList)=false:=by
         rw [beq_eq_false_iff_ne];intro h;exact he (sv h)
        obtain⟨⟨c0,c1,c2⟩,f0,f1,f2⟩:=bj k2
        go_wp2
        obtain⟨k3,b3'⟩:=vP k2 (air _) (.string ⟨#[]⟩) (.string ⟨#[]⟩) (.slice none 0 0);exact bodyPost_ret_by (dY rfl rfl k3 rfl) rfl ⟨_,rfl,hB6.trans b3',.inl ⟨rfl,rfl⟩⟩
       case pos =>
        rw [if_pos ⟨hr,he⟩] at hnw;simp only [aiH,ajo] at hnw;rw [he];obtain⟨⟨c0,c1,c2⟩,f0,f1,f2⟩:=bj k9;have hnb:(aiS sA sn sc).ownBlock≠some W2.heap.size:=qk hrow hl9;have hwz4:=hwl
        go_wp2_with (first
         | (at_builtin;refine wpList_append_own _ rfl _ _ 38 rfl W3.heap.size 3 i0 (.int .i64 0) 1 8 Tryz.underlying38 hi0 hz0 hz1 hz2 rfl (by decide) _ _ _ rfl (hrow.alloc _) ⟨W6.heap.size,0,none⟩ 1 1 [.int .i64 v] rfl rfl (cell_one_new _ _ _) (by intro u hu;simp at hu;subst hu;rfl) (by unfold maxLen;omega) (by omega) (by simp;omega) ?_;intro v' w2 hown' hgrow hnil;obtain⟨g',cap',rfl⟩:=oO hown';have hk:=eT k9 hgrow hnb;obtain⟨⟨d0,d1,d2⟩,g0,g1,g2⟩:=bj hk)
         | go_in)
        have hgk:=eT hg hgrow (qk hrow hlg);have k2k:=eT k2 hgrow (qk hrow (by omega));have hb7:Below w.heap.size w w2:=(hB6.alloc hB6.size (.cells #[.int .i64 v] 3)).grown hgrow (by simp;omega) (fun j hj=>by have:=ib hrow hj;omega);refine⟨⟨i+1,acc++[v],.slice (some ⟨g',0,none⟩) (i+1) cap',congrArg (aiz .i64) (by omega),by omega,by simp [hal],?_,?_,?_,?_,?_,hb7.setCell (by simp;omega) _,?_⟩,?_⟩
        ·rw [hnw]
         congr 1
         funext r
         simp
        ·rw [heap_setCell_same _ _ _ _ _ _ hk]
         rfl
        ·rw [heap_setCell_other _ _ _ _ (by simp;omega)]
         exact k2k
        ·rw [heap_setCell_other _ _ _ _ (by simp;omega)]
         exact hgk
        ·rw [aja]
         exact hown'.kept (EQ _ _ _ _) (.inr (qk hown' hl9))
        ·have e1:=hgrow.size
         simp at e1;simp [aiB];omega
        ·show ws.length - ((i:Int)+1).toNat<ws.length - (i:Int).toNat
         omega
    ·have hpi:¬(i:Int)<(ws.length:Int):=by omega
     have hil:i=ws.length:=by omega
     rw [ai7 (by omega)] at hnw;simp only [cG,ajj,ajk] at hnw;rw [hnw] at hdef';subst hdef';obtain⟨⟨c0,c1,c2⟩,f0,f1,f2⟩:=bj k9;obtain⟨⟨d0,d1,d2⟩,e0,e1,e2⟩:=bj k2
     go_wp2
     obtain⟨k3,b3'⟩:=vP k2 (air _) (.string word) (.string ⟨#[]⟩) (.slice sA sn sc);have h4:(aiS sA sn sc = .slice none 0 0∧acc=[])∨∃g cap cur t,aiS sA sn sc = .slice (some ⟨g,0,none⟩) acc.length cap∧acc.length≤cap∧w.heap.size≤g∧(((wr.setCell ⟨w.heap.size,0,none⟩ (.string word)).setCell ⟨w.heap.size,1,none⟩ (.string ⟨#[]⟩)).setCell ⟨w.heap.size,2,none⟩ (.slice sA sn sc)).heap[g]?=some (.cells cur t (0,0)) ∧
       ∀(i:Nat) (n:Int),acc[i]?=some n→cur[i]?=some (.int .i64 n):=by
      obtain⟨hxs,⟨hsv,hz⟩ | ⟨g2,cap2,cur,hsv,hge2,hg2,hcap,_,hcs2,htake⟩⟩:=hrow
      ·exact .inl ⟨hsv,aiv (by omega)⟩
      ·refine .inr ⟨g2,cap2,cur,3,by rw [hal];exact hsv,by rw [hal];exact hcap,by omega,?_,fun j n hn=>?_⟩
       ·rw [heap_setCell_other _ _ _ _ (by simp;omega),heap_setCell_other _ _ _ _ (by simp;omega),heap_setCell_other _ _ _ _ (by simp;omega)]
        exact hg2
       ·have e:(acc.map (aiz .i64))[j]?=some (.int .i64 n):=by rw [aiQ,hn];rfl
        have hj:j<acc.length:=(aiI.1 hn).1;rw [←htake,aiT (by omega)] at e;simpa using e
     exact bodyPost_ret_by (dY rfl rfl k3 rfl) rfl ⟨_,rfl,hbw.trans b3',h4⟩
  ·cases found
   ·have hdef':res=((⟨#[]⟩,⟨#[]⟩,[]),false):=hdef
    subst hdef';obtain⟨⟨c0,c1,c2⟩,f0,f1,f2⟩:=bj k2
    go_wp2
    obtain⟨k3,b3'⟩:=vP k2 (air _) (.string ⟨#[]⟩) (.string ⟨#[]⟩) (.slice none 0 0);exact bodyPost_ret_by (dY rfl rfl k3 rfl) rfl ⟨_,rfl,hB2.trans b3',.inl ⟨rfl,rfl⟩⟩
   have hdef':res=match cG (aC 32 rest) with
    | none=>((⟨#[]⟩,⟨#[]⟩,[]),false)
    | some r=>((word,⟨#[]⟩,r),decide (((aC 32 rest).length:Int)=3)):=hdef
   clear hdef;obtain⟨i0,hi0,hz0,hz1,hz2⟩:=info_parts Vx;have b3:Below w.heap.size w (W2.alloc (.cells #[.string word,.string ⟨#[]⟩,.slice none 0 0] 107)):=hB2.alloc hB2.size _;have k9:(W2.alloc (.cells #[.string word,.string ⟨#[]⟩,.slice none 0 0] 107)).heap[W2.heap.size]?=some (.cells #[.string word,.string ⟨#[]⟩,.slice none 0 0] 107):=aiJ;have k2:=(heap_alloc_old W2 (.cells #[.string word,.string ⟨#[]⟩,.slice none 0 0] 107) hlt2).trans k2;have hc3:=FD (hFW _ b3) (h0W _ b3) rest hcz2;have hwz:∀x∈aC 32 rest,x.size≤1048576:=fun x hx=>ait (fI 32 rest x hx) hcz2
   have hwl:(aC 32 rest).length≤1048577:=by
    rw [ex];have h1:=eZ 32 (ac rest);have h2:=cX rest;omega
   generalize aC 32 rest=ws at hc3 hwz hwl hdef'
   go_wp2_with (go_at_call 70;refine hc3.mono ?_)
   rintro e W3 ⟨b4,g,o,c,cs,tt,rfl,hge,hg,hcs⟩;have hB3:=b3.trans (b4.mono b3.size);have k9:=(b4.block _ (aim.1 k9).1).trans k9;have k2:=(b4.block _ (aim.1 k2).1).trans k2;have hl9:W2.heap.size<W3.heap.size:=(aim.1 k9).1;have hlg:g<W3.heap.size:=(aim.1 hg).1;have hg9:W2.heap.size<g:=by
    have:(W2.alloc (ajJ #[.string word,.string ⟨#[]⟩,.slice none 0 0] 107)).heap.size=W2.heap.size+1:=by simp
    omega
   clear hc3 b3 b4
   go_wp2
   go_loopw [50] (fun v50 wr=>∃(i:Nat) (acc:List Int) (sl:Value),v50 = .int .i64 i∧i≤ws.length∧acc.length=i∧cG ws=(cG (ws.drop i)).map (acc++·) ∧
     wr.heap[W2.heap.size]?=some (.cells #[.string word,.string ⟨#[]⟩,sl] 107 (0,0))∧wr.heap[w.heap.size]?=some (.cells #[.string ⟨#[]⟩,.string ⟨#[]⟩,.slice none 0 0] 107 (0,0))∧wr.heap[g]?=some (.cells cs tt (0,0)) ∧
     wr.ownsRow W3.heap.size 3 1 sl i (acc.map (aiz .i64))∧Below w.heap.size w wr∧W3.heap.size≤wr.heap.size) (fun v50 wr=>ws.length - (match v50 with | .int _ n=>n.toNat | _=>0))
   case atStart =>
    exact⟨0,[],.slice none 0 0,rfl,aiW _,rfl,by simp,k9,k2,hg,ajg _ _ _ _,hB3,air _⟩
   case round =>
    clear k9 k2 hg;obtain⟨i,acc,sl,rfl,hi,hal,hnw,k9,k2,hg,hrow,hbw,hsz⟩:=hrel;obtain⟨sA,sn,sc,rfl⟩:=MK hrow;by_cases hp:i<ws.length
    ·have hpi:(i:Int)<(ws.length:Int):=by omega
     have cw:wr.cell? ⟨g,o+i,none⟩=some (.string ws[i]):=by
      rw [aiC hg];exact hcs i _ (aix hp)
     have hat:=IJ (hFW wr hbw) (hgW wr hbw) ws[i] (hwz _ (ais hp));rw [ai1 hp] at hnw;simp only [cG,Bl] at hnw;have failed:∀W,wr.heap.size≤W.heap.size→Below wr.heap.size wr W→cG ws=none→res=((⟨#[]⟩,⟨#[]⟩,[]),false):=fun _ _ _ h=>by rw [hdef',h]
     go_wp2_with (go_at_call 116;refine hat.mono ?_)
     rintro e W4 ⟨b4,⟨v,hv4,rfl⟩ | ⟨hno,n4,t4,x4,rfl⟩⟩
     case inr =>
      have hnn:cG ws=none:=by
       rw [hnw];cases hq:ajA (ac ws[i]) with
       | ok v=>exact absurd hq (hno v)
       | _=>rfl
      obtain rfl:=failed W4 b4.size b4 hnn;have k2:=(b4.block _ (aim.1 k2).1).trans k2;have hB4:=hbw.trans (b4.mono hbw.size);obtain⟨⟨c0,c1,c2⟩,f0,f1,f2⟩:=bj k2
      go_wp2
      obtain⟨k3,b3'⟩:=vP k2 (air _) (.string ⟨#[]⟩) (.string ⟨#[]⟩) (.slice none 0 0);exact bodyPost_ret_by (dY rfl rfl k3 rfl) rfl ⟨_,rfl,hB4.trans b3',.inl ⟨rfl,rfl⟩⟩
     case inl =>
      rw [hv4] at hnw;simp only at hnw;have k2:=(b4.block _ (aim.1 k2).1).trans k2;have k9:=(b4.block _ (aim.1 k9).1).trans k9;have hg:=(b4.block _ (aim.1 hg).1).trans hg;have hB4:=hbw.trans (b4.mono hbw.size);have hrow:=kE hrow b4;have hsz4:=ait hsz b4.size;have hwi:=Al (hFW W4 hB4) (h0W W4 hB4) v (-999999) 999999
      go_wp2_with (go_at_call 52;refine hwi.mono ?_)
      rintro e W5 ⟨rfl,b5⟩;have k2:=(b5.block _ (aim.1 k2).1).trans k2;have k9:=(b5.block _ (aim.1 k9).1).trans k9;have hg:=(b5.block _ (aim.1 hg).1).trans hg;have hB5:=hB4.trans (b5.mono hB4.size);have hrow:=kE hrow b5;have hsz5:=ait hsz4 b5.size;by_cases hr : -999999≤v∧v≤999999
      case neg =>
       have hnn:cG ws=none:=by
        rw [hnw,if_neg (fun h=>hr h.1)];rfl
       obtain rfl:=failed W4 b4.size b4 hnn;simp only [hr,decide_false];obtain⟨⟨c0,c1,c2⟩,f0,f1,f2⟩:=bj k2
       go_wp2
       obtain⟨k3,b3'⟩:=vP k2 (air _) (.string ⟨#[]⟩) (.string ⟨#[]⟩) (.slice none 0 0);exact bodyPost_ret_by (dY rfl rfl k3 rfl) rfl ⟨_,rfl,hB5.trans b3',.inl ⟨rfl,rfl⟩⟩
      case pos =>
       simp only [hr,and_self,decide_true];have hit:=BJ (hFW W5 hB5) (h1W W5 hB5) (n:=v) (by omega) (by omega)
       go_wp2_with (go_at_call 117;refine hit.mono ?_)
       rintro e W6 ⟨rfl,b6⟩;have k2:=(b6.block _ (aim.1 k2).1).trans k2;have k9:=(b6.block _ (aim.1 k9).1).trans k9;have hg:=(b6.block _ (aim.1 hg).1).trans hg;have hB6:=hB5.trans (b6.mono hB5.size);have hrow:=kE hrow b6;have hsz6:=ait hsz5 b6.size;by_cases he:aI v=ws[i]
       case neg =>
        have hnn:cG ws=none:=by
         rw [hnw,if_neg (fun h=>he h.2)];rfl
        obtain rfl:=failed W4 b4.size b4 hnn;have he2:((aI v).toList==(ws[i]).toList)=false:=by
         rw [beq_eq_false_iff_ne];intro h;exact he (sv h)
        obtain⟨⟨c0,c1,c2⟩,f0,f1,f2⟩:=bj k2
        go_wp2
        obtain⟨k3,b3'⟩:=vP k2 (air _) (.string ⟨#[]⟩) (.string ⟨#[]⟩) (.slice none 0 0);exact bodyPost_ret_by (dY rfl rfl k3 rfl) rfl ⟨_,rfl,hB6.trans b3',.inl ⟨rfl,rfl⟩⟩
       case pos =>
        rw [if_pos ⟨hr,he⟩] at hnw;simp only [aiH,ajo] at hnw;rw [he];obtain⟨⟨c0,c1,c2⟩,f0,f1,f2⟩:=bj k9;have hnb:(aiS sA sn sc).ownBlock≠some W2.heap.size:=qk hrow hl9;have hwz4:=hwl
        go_wp2_with (first
         | (at_builtin;refine wpList_append_own _ rfl _ _ 38 rfl W3.heap.size 3 i0 (.int .i64 0) 1 8 Tryz.underlying38 hi0 hz0 hz1 hz2 rfl (by decide) _ _ _ rfl (hrow.alloc _) ⟨W6.heap.size,0,none⟩ 1 1 [.int .i64 v] rfl rfl (cell_one_new _ _ _) (by intro u hu;simp at hu;subst hu;rfl) (by unfold maxLen;omega) (by omega) (by simp;omega) ?_;intro v' w2 hown' hgrow hnil;obtain⟨g',cap',rfl⟩:=oO hown';have hk:=eT k9 hgrow hnb;obtain⟨⟨d0,d1,d2⟩,g0,g1,g2⟩:=bj hk)
         | go_in)
        have hgk:=eT hg hgrow (qk hrow hlg);have k2k:=eT k2 hgrow (qk hrow (by omega));have hb7:Below w.heap.size w w2:=(hB6.alloc hB6.size (.cells #[.int .i64 v] 3)).grown hgrow (by simp;omega) (fun j hj=>by have:=ib hrow hj;omega);refine⟨⟨i+1,acc++[v],.slice (some ⟨g',0,none⟩) (i+1) cap',congrArg (aiz .i64) (by omega),by omega,by simp [hal],?_,?_,?_,?_,?_,hb7.setCell (by simp;omega) _,?_⟩,?_⟩
        ·rw [hnw]
         congr 1
         funext r
         simp
        ·rw [heap_setCell_same _ _ _ _ _ _ hk]
         rfl
        ·rw [heap_setCell_other _ _ _ _ (by simp;omega)]
         exact k2k
        ·rw [heap_setCell_other _ _ _ _ (by simp;omega)]
         exact hgk
        ·rw [aja]
         exact hown'.kept (EQ _ _ _ _) (.inr (qk hown' hl9))
        ·have e1:=hgrow.size
         simp at e1;simp [aiB];omega
        ·show ws.length - ((i:Int)+1).toNat<ws.length - (i:Int).toNat
         omega
    ·have hpi:¬(i:Int)<(ws.length:Int):=by omega
     have hil:i=ws.length:=by omega
     rw [ai7 (by omega)] at hnw;simp only [cG,ajj,ajk] at hnw;rw [hnw] at hdef';subst hdef';obtain⟨⟨c0,c1,c2⟩,f0,f1,f2⟩:=bj k9;obtain⟨⟨d0,d1,d2⟩,e0,e1,e2⟩:=bj k2
     go_wp2
     obtain⟨k3,b3'⟩:=vP k2 (air _) (.string word) (.string ⟨#[]⟩) (.slice sA sn sc);have h4:(aiS sA sn sc = .slice none 0 0∧acc=[])∨∃g cap cur t,aiS sA sn sc = .slice (some ⟨g,0,none⟩) acc.length cap∧acc.length≤cap∧w.heap.size≤g∧(((wr.setCell ⟨w.heap.size,0,none⟩ (.string word)).setCell ⟨w.heap.size,1,none⟩ (.string ⟨#[]⟩)).setCell ⟨w.heap.size,2,none⟩ (.slice sA sn sc)).heap[g]?=some (.cells cur t (0,0)) ∧
       ∀(i:Nat) (n:Int),acc[i]?=some n→cur[i]?=some (.int .i64 n):=by
      obtain⟨hxs,⟨hsv,hz⟩ | ⟨g2,cap2,cur,hsv,hge2,hg2,hcap,_,hcs2,htake⟩⟩:=hrow
      ·exact .inl ⟨hsv,aiv (by omega)⟩
      ·refine .inr ⟨g2,cap2,cur,3,by rw [hal];exact hsv,by rw [hal];exact hcap,by omega,?_,fun j n hn=>?_⟩
       ·rw [heap_setCell_other _ _ _ _ (by simp;omega),heap_setCell_other _ _ _ _ (by simp;omega),heap_setCell_other _ _ _ _ (by simp;omega)]
        exact hg2
       ·have e:(acc.map (aiz .i64))[j]?=some (.int .i64 n):=by rw [aiQ,hn];rfl
        have hj:j<acc.length:=(aiI.1 hn).1;rw [←htake,aiT (by omega)] at e;simpa using e
     exact bodyPost_ret_by (dY rfl rfl k3 rfl) rfl ⟨_,rfl,hbw.trans b3',h4⟩
abbrev lnD (x:Ln):D:=.agg [T x.1,T x.2.1,ai x.2.2]
def US (ds:List D):Option Out:=match ds with
 | [d]=>(tU d).bind fun s=>if s.size≤1048576 then some (.ret [lnD (rdI s).1,B (rdI s).2] []) else none
 | _=>none
theorem afF (s:ByteArray) (hs:s.size≤1048576):US [T s]=some (.ret [lnD (rdI s).1,B (rdI s).2] []):=by
 have e:US [T s]=(tU (T s)).bind fun s=>if s.size≤1048576 then some (.ret [lnD (rdI s).1,B (rdI s).2] []) else none:=rfl
 rw [e,show tU (T s)=some s from rfl,aiH,if_pos hs]
@[reducible] def xI:FS:={pm:=[.dat 0],rm:=[.dat 1,.dat 0],f:=US}
theorem abO {w:World} {G:Nat→Prop} {x:Ln} {sl:Value} (h:(sl = .slice none 0 0∧x.2.2=[])∨∃g cap cur t,sl = .slice (some ⟨g,0,none⟩) x.2.2.length cap∧x.2.2.length≤cap∧G g∧w.heap[g]?=some (.cells cur t (0,0))∧∀(i:Nat) (n:Int),x.2.2[i]?=some n→cur[i]?=some (.int .i64 n)) :
  bP w G (lnD x) (.agg #[.string x.1,.string x.2.1,sl]):=by
 refine⟨[.string x.1,.string x.2.1,sl],rfl,?_⟩
 simp only [RepC];refine⟨au.2 ⟨[.string x.1],[.string x.2.1,sl],rfl,by simp only [RepC];exact⟨trivial,rfl⟩,au.2 ⟨[.string x.2.1],[sl],rfl,by simp only [RepC];exact⟨trivial,rfl⟩,au.2 ⟨[sl],[],rfl,?_,aW.2 rfl⟩⟩⟩,rfl⟩
 simp only [RepC];rcases h with ⟨rfl,h⟩ | ⟨g,cap,cur,t,rfl,h1,h2,h3,h4⟩
 ·rw [h]
  exact⟨none,0,[],rfl,air _,aW.2 rfl,by simp,fun h=>absurd rfl h⟩
 ·refine⟨some ⟨g,0,none⟩,cap,x.2.2.map (aiz .i64),by simp,by simpa using h1,oq _,fun d hd=>?_,fun _=>⟨g,0,rfl,h2,fun j u hu=>?_⟩⟩
  ·obtain⟨n,_,rfl⟩:=List.mem_map.1 hd
   rfl
  ·rw [aiQ] at hu
   obtain⟨n,hn,rfl⟩:=aiX.1 hu;rw [aiC h3,Nat.zero_add];exact h4 j n hn
theorem KT:aw gl2 Tryz.prog 79 xI:=by
 have he:∀args w,(callFunc 79 args).run Tryz.prog w = .ok (.enter 79 args) w:=aiG Tryz.func79 (by kernel_rfl) rfl;refine bQ he fun ds rs us hd args w F ow hg ha hF _=>?_
 obtain⟨d,y,rfl,h2,h3⟩:=lC ha;replace hd:US [d]=some (.ret rs us):=hd;obtain⟨s,hs,hd'⟩:=aiF.1 hd;clear hd;obtain rfl:=xk hs;split at hd'
 case isFalse=>cases hd'
 rename_i hz;cases hd';obtain⟨rfl,_⟩:=Cf h3;rw [DL h2];refine(Qm s hz w F (fun b hb=>(hF b hb).1) hg).mono ?_
 rintro e w' ⟨sl,rfl,hB,hsl⟩
 let F':Nat→Prop:=fun b=>F b∨(w.heap.size≤b∧b<w'.heap.size)
 refine⟨_,rfl,F',fun _=>none,[.agg #[.string (rdI s).1.1,.string (rdI s).1.2.1,sl],.bool (rdI s).2],rfl,
  ⟨hB.os,hB.tape,hB.output,hB.size,fun b hb _=>hB.block b hb,fun b hb=>.inl hb,fun b hb=>?_,fun b j h=>(by cases h),rfl,rfl,fun j=>?_,trivial⟩⟩
 ·rcases hb with hb | hb
  ·exact⟨.inl hb,ai4 (hF b hb).1 hB.size,rfl⟩
  ·exact⟨.inr hb.1,hb.2,rfl⟩
 ·match j with
  | 0 =>
   refine .inr (show bP w' (FB F' w.heap.size 1) _ _ from abO ?_)
   rcases hsl with h | ⟨g,cap,cur,t,q1,q2,q3,q4,q5⟩
   ·exact .inl h
   ·exact .inr ⟨g,cap,cur,t,q1,q2,⟨.inr ⟨q3,(aim.1 q4).1⟩,q3⟩,q4,q5⟩
  | 1=>exact .inr (show bP w' _ (B (rdI s).2) _ from ce.2 ⟨rfl,rfl⟩)
  | j+2=>exact .inl rfl
end Go.Proofs.YtjafgdefcggjcaaGreatDoor

namespace Go.Proofs.YtjafgdefcggjcaaGreatDoor
open Go Go.V
abbrev Fo:=Int × Bool
abbrev Lf:=Int × Bool
def qR (l:List Fo):Bool:=(l.all fun f=>decide (1≤f.1∧f.1≤2))&&decide (l.length≤4)
def szF (l:List Fo):Nat × Nat:=l.foldl (fun s f=>if f.1=1 then(s.1*2,s.2) else(s.1,s.2*2)) (1,1)
def lk (pile other:List Lf) (over:Bool):List Lf :=
 if over=true then other.reverse.map (fun x=>(x.1,!x.2))++pile else pile++other.reverse.map (fun x=>(x.1,!x.2))
abbrev Pls:=List (List (List Lf))
def atF (ps:Pls) (y x:Nat):List Lf:=(ps.getD y []).getD x []
def Wq (ps:Pls) (f:Fo):Pls :=
 if f.1=2 then(aiE (ps.length / 2)).map fun y=>(aiE (ps.getD y []).length).map fun x=>lk (atF ps y x) (atF ps (ps.length - 1 - y) x) f.2
 else(aiE ps.length).map fun y=>(aiE ((ps.getD 0 []).length / 2)).map fun x=>lk (atF ps y x) (atF ps y ((ps.getD 0 []).length - 1 - x)) f.2
def ahp (l:List Fo):Pls:=(aiE (szF l).2).map fun y=>(aiE (szF l).1).map fun x=>[(((y*(szF l).1+x:Nat):Int),true)]
def gp (l:List Fo) (n:Nat):Pls:=(l.take n).foldl Wq (ahp l)
def fj (l:List Fo):List Lf:=atF (gp l l.length) 0 0
def EC (front:Bool) (i:Nat) (x:Lf):Int:=if x.2=front then 2*(i:Int)+1 else 2*(i:Int)+2
def YB (l:List Fo) (front:Bool) (n:Nat):List Int :=
 ((fj l).take n).zipIdx.foldl (fun a p=>a.set p.1.1.toNat (EC front p.2 p.1)) (aiL (fj l).length 0)
def qN (p:List Int):List Int:=p.reverse.map fun x=>-x
def aaw (stay turned:List Int) (over:Bool):List Int:=if over=true then turned++stay else stay++turned
def RD (s:Nat × Nat × List (List Int)) (f:Fo):Nat × Nat × List (List Int) :=
 if f.1=1 then(s.1 / 2,s.2.1,(aiE s.2.1).flatMap fun r=>(aiE (s.1 / 2)).map fun k=>aaw (s.2.2.getD (r*s.1+k) []) (qN (s.2.2.getD (r*s.1+s.1 - 1 - k) [])) f.2)
 else(s.1,s.2.1 / 2,(aiE (s.2.1 / 2)).flatMap fun r=>(aiE s.1).map fun k=>aaw (s.2.2.getD (r*s.1+k) []) (qN (s.2.2.getD ((s.2.1 - 1 - r)*s.1+k) [])) f.2)
def kj (l:List Fo) (n:Nat):Nat × Nat × List (List Int):=(l.take n).foldl RD ((szF l).1,(szF l).2,(aiE ((szF l).1*(szF l).2)).map fun i=>[((i:Nat):Int)+1])
def dm (l:List Fo):List Int:=(kj l l.length).2.2.getD 0 []
def Fm (n:Int):Int:=if -n<n then n else -n
def Az (l:List Fo) (n:Nat):List Int × List Int :=
 ((dm l).take n).zipIdx.foldl (fun a p =>
  (a.1.set (Fm p.1 - 1).toNat (if p.1<0 then 2*(p.2:Int)+2 else 2*(p.2:Int)+1),a.2.set (Fm p.1 - 1).toNat (if p.1<0 then 2*(p.2:Int)+1 else 2*(p.2:Int)+2)))
  (aiL (dm l).length 0,aiL (dm l).length 0)
def Tm:Nat→List (List Fo)
 | 0=>[[]]
 | n+1=>(Tm n).flatMap fun l=>[(1,true)::l,(2,true)::l]
def ur:List (List Fo):=Tm 0++Tm 1++Tm 2++Tm 3++Tm 4
theorem VX:∀(n:Nat) (l:List Fo),l.length=n→(∀f∈l,(f.1=1∨f.1=2)∧f.2=true)→l∈Tm n
 | 0,l,h,_=>by
  rw [aiv h];simp [Tm]
 | n+1,[],h,_=>by simp at h
 | n+1,f::l,h,hf=>by
  have ih:=VX n l (by simpa using h) fun g hg=>hf g (by simp [hg])
  obtain⟨h1,h2⟩:=hf f (by simp);simp only [Tm,List.mem_flatMap];refine⟨l,ih,?_⟩
  obtain⟨a,b⟩:=f;dsimp only at h1 h2;subst h2;rcases h1 with rfl | rfl<;>simp
theorem EP {l:List Fo} (h:l.length≤4) (hf:∀f∈l,(f.1=1∨f.1=2)∧f.2=true):l∈ur:=by
 have:=VX l.length l rfl hf;unfold ur;simp only [List.mem_append];have h5:l.length=0∨l.length=1∨l.length=2∨l.length=3∨l.length=4:=by omega
 rcases h5 with e | e | e | e | e<;>rw [e] at this<;>simp [this]
def afI (ps:Pls) (rows cols m:Nat):Bool:=decide (ps.length=rows)&&ps.all fun r=>decide (r.length=cols)&&r.all fun p=>decide (p.length=m)
def okF (l:List Fo):Bool :=
 decide (YB l true (fj l).length=(Az l (dm l).length).1)&&decide ((fj l).length=(szF l).1*(szF l).2)&&decide ((dm l).length=(szF l).1*(szF l).2)
 && decide (1≤(szF l).1∧(szF l).1≤16∧1≤(szF l).2∧(szF l).2≤16∧(szF l).1*(szF l).2≤16)
 && ((fj l).all fun x=>decide (0≤x.1∧x.1<((fj l).length:Int)))
 && ((dm l).all fun x=>decide (0≤Fm x - 1∧Fm x - 1<((dm l).length:Int)))
 && ((Az l (dm l).length).1.all fun n=>decide (0≤n∧n≤100))
 && ((aiE l.length).all fun n=>(let s:=szF (l.drop n);afI (gp l n) s.2 s.1 (2 ^ n))
  && (let s:=kj l n;decide (s.1=(szF (l.drop n)).1)&&decide (s.2.1=(szF (l.drop n)).2)&&decide (s.2.2.length=s.1*s.2.1)&&s.2.2.all fun p=>decide (p.length=2 ^ n)))
theorem Jp:ur.all okF=true:=by decide +kernel
def yp (cols:Nat):Nat→List Int→ByteArray
 | 0,_=>⟨⟨[]⟩⟩
 | k+1,l=>cf 44 (l.take cols)++⟨⟨[47]⟩⟩++yp cols k (l.drop cols)
def Gj (cols i:Nat):ByteArray:=if i % cols=cols - 1 then⟨⟨[47]⟩⟩ else⟨⟨[44]⟩⟩
def nW (cols:Nat):Nat→List Int→ByteArray
 | _,[]=>⟨⟨[]⟩⟩
 | i,n::l=>aI n++Gj cols i++nW cols (i+1) l
theorem rC (l:List UInt8):ac ⟨⟨l⟩⟩=l:=rfl
theorem WM {cols:Nat} (rest:List Int):∀(r:List Int) (i:Nat),r≠[]→i % cols+r.length=cols→ac (nW cols i (r++rest))=ac (cf 44 r)++47::ac (nW cols (i+r.length) rest)
 | [],_,h,_=>absurd rfl h
 | [a],i,_,h=>by
  have hc:i % cols=cols - 1:=by simp at h;omega
  simp only [aiM,ajl,nW,Gj,hc,if_true,be,rC,cC,aje,List.map_nil,er,ai9,ajF,aiY]
 | a::b::r,i,_,h=>by
  simp only [ai9] at h;have hc:¬i % cols=cols - 1:=by omega
  have hm:(i+1) % cols=i % cols+1:=by
   have hlt:i % cols<cols:=Nat.mod_lt _ (by omega);rw [Nat.add_mod];have h1:1 % cols=1:=ajD (by omega);rw [h1,ajD (by omega)]
  have ih:=WM rest (b::r) (i+1) (by simp) (by rw [hm,ai9];omega);have e:ac (nW cols i (a::b::r++rest))=ac (aI a)++44::ac (nW cols (i+1) (b::r++rest)):=by
   simp only [aiM,nW,Gj,hc,if_false,be,rC,aiY];simp
  have e2:ac (cf 44 (a::b::r))=ac (aI a)++44::ac (cf 44 (b::r)):=by
   simp only [cC,aje,er]
  rw [e,ih,e2,aiY,aiM];have e3:i+1+(b::r).length=i+(a::b::r).length:=by simp;omega
  rw [e3]
theorem Sb {cols:Nat} (hc:0<cols):∀(k:Nat) (l:List Int) (i:Nat),l.length=k*cols→i % cols=0→yp cols k l=nW cols i l
 | 0,l,i,h,_=>by
  have:l=[]:=aiv (by simpa using h);subst this;rfl
 | k+1,l,i,h,hi=>by
  rw [aiU] at h;have hl:(l.take cols).length=cols:=by rw [aiV];omega
  have hr:=WM (cols:=cols) (l.drop cols) (l.take cols) i (fun e=>by rw [e] at hl;simp at hl;omega) (by rw [hi,hl];omega);rw [ajp,hl] at hr;apply bN;rw [hr,←Sb hc k (l.drop cols) (i+cols) (by rw [aiw];omega) (by simp [hi])];simp only [yp,be,rC,aiY];simp
open Go Go.V Go.RowKit Go.Shelf
abbrev lfD (x:Lf):D:=.agg [I x.1,B x.2]
def Uv (x:Lf):List Value:=[.int .i64 x.1,.bool x.2]
theorem Zf {w:World} {F:Nat→Prop}:∀(l:List Lf) (us:List Value),cm w F (l.map lfD) us→us=l.flatMap Uv
 | [],us,h=>aW.1 h
 | x::l,us,h=>by
  obtain⟨v1,v2,rfl,h1,h2⟩:=au.1 h;rw [Zf l v2 h2];simp only [RepC] at h1;obtain⟨u1,r1,rfl,g1,h1⟩:=au.1 h1.1;obtain⟨u2,r2,rfl,g2,h1⟩:=au.1 h1;simp only [RepC] at g1 g2;rw [g1.1,g2.1,aW.1 h1];rfl
theorem RO {w:World} {b:Nat}:∀(l:List Lf) (o:Nat),cL w b o (l.flatMap Uv)→∀(i:Nat) (x:Lf),l[i]?=some x→cL w b (o+i*2) (Uv x)
 | [],_,_,i,x,hx=>by simp at hx
 | y::l,o,h,0,x,hx=>by
  simp only [aiK,aiP] at hx;subst hx;intro j u hu;have:=h j u (by rw [List.flatMap_cons,ajh (aiI.1 hu).1];exact hu);simpa using this
 | y::l,o,h,i+1,x,hx=>by
  have:=RO l (o+2) (by
   have:=h.drop 2;exact this) i x (by simpa using hx)
  rw [show o+(i+1)*2=o+2+i*2 by omega];exact this
theorem Vm {w:World} {F:Nat→Prop} (hF:∀b,F b→b<w.heap.size) (hgl:gOk gl0 w F) {d:D} {x:Value} (hx:bP w F d x) {L:List Lf} (hd:fN [d]=some (.ret [.arr 2 (L.map lfD)] [])) :
  Calls Tryz.prog 236 #[x] w fun e w'=>Below w.heap.size w w'∧∃A c,e = .returned (.slice A L.length c)∧(L≠[]→∃b o,A=some ⟨b,o,none⟩∧b<w'.heap.size∧∀(i:Nat) (x:Lf),L[i]?=some x→cL w' b (o+i*2) (Uv x)):=by
 refine(oD (aiG Tryz.func236 (by kernel_rfl) rfl) Qu fN rfl hd (args:=#[x]) hgl (show eP w F _ (.dat 2) d x∧True from⟨.inr hx,trivial⟩) hF).mono ?_
 rintro e w' ⟨hB,F',R,vs,rfl,hpost⟩;refine⟨hB,?_⟩
 have hl:=hpost.len
 match vs,hl with
 | [y0],hl =>
  have r0:=(hpost.res 0).resolve_left (by intro h;cases h);replace r0:bP w' _ (.arr 2 (L.map lfD)) y0:=r0;obtain⟨A,c,us,h1,h2,h3,h4,h5⟩:=qd r0;rw [Zf L us h3] at h5;rw [ai2] at h1;refine⟨A,c,by rw [h1];rfl,fun hne=>?_⟩
  obtain⟨b,o,h6,h7,h8⟩:=h5 (by simpa using hne);exact⟨b,o,h6,(hpost.fn b h7.1).2.1,RO L o h8⟩
theorem Jx (front:Bool):∀(l:List (Lf × Nat)) (a:List Int),(l.foldl (fun a p=>a.set p.1.1.toNat (EC front p.2 p.1)) a).length=a.length
 | [],a=>rfl
 | p::l,a=>by rw [List.foldl_cons,Jx front l,List.length_set]
set_option maxHeartbeats 4000000 in
set_option maxRecDepth 1000000 in
theorem Yv (d:D) (x:Value) (front:Bool) (L:List Lf) (w:World) (F:Nat→Prop) (hF:∀b,F b→b<w.heap.size) (hgl:gOk gl0 w F) (hx:bP w F d x) (hd:fN [d]=some (.ret [.arr 2 (L.map lfD)] []))
  (hr:∀x∈L,0≤x.1∧x.1<(L.length:Int)) (hne:L≠[]) (hlz:L.length≤1000000) :
  Calls Tryz.prog 214 #[x,.bool front] w fun e w'=>Below w.heap.size w w' ∧
   ∃g cs,e = .returned (.slice (some ⟨g,0,none⟩) L.length L.length)∧w.heap.size≤g∧w'.heap[g]?=some (.cells cs 3 (0,0))∧cs.toList=((L.zipIdx.foldl (fun a p=>a.set p.1.1.toNat (EC front p.2 p.1)) (aiL L.length 0)).map (aiz .i64)):=by
 have hc1:=Vm hF hgl hx hd
 go_enter Tryz.func214,Tryz.ntmps214
 go_wp2_with (go_at_call 236;refine hc1.mono ?_)
 rintro e W1 ⟨b1,A,c,rfl,hA⟩;obtain⟨b,o,rfl,hbz,hcells⟩:=hA hne;obtain⟨i0,hi0,hz0,hz1,hz2⟩:=info_parts Vx;have hmk:=run_makeSlice (P:=Tryz.prog) W1 38 3 i0 (.int .i64 0) Tryz.underlying38 hi0 hz0 .i64 .i64 (L.length:Int) (L.length:Int) (by omega) (Int.le_refl _) (by rw [hz1,ajy];omega) (by rw [hz2];omega) (by omega);rw [hz1,ajy,ajm] at hmk
 go_wp2
 have hb1:Below w.heap.size w (W1.alloc (.cells (madeCells #[.int .i64 0] L.length) 3)):=b1.alloc b1.size _;have hk1:(W1.alloc (.cells (madeCells #[.int .i64 0] L.length) 3)).heap[W1.heap.size]?=some (.cells (madeCells #[.int .i64 0] L.length) 3 (0,0)):=aiJ;have hg0:w.heap.size≤W1.heap.size:=b1.size;clear hmk hc1
 go_loopw [16] (fun v16 wr=>∃(i:Nat) (cs:Array Value),v16 = .int .i64 i∧i≤L.length∧wr.heap[W1.heap.size]?=some (.cells cs 3 (0,0))∧cs.toList=(((L.zipIdx.take i).foldl (fun a p=>a.set p.1.1.toNat (EC front p.2 p.1)) (aiL L.length 0)).map (aiz .i64)) ∧
   Below w.heap.size w wr∧wr.heap[b]?=W1.heap[b]?∧W1.heap.size<wr.heap.size) (fun v16 wr=>L.length - (match v16 with | .int _ n=>n.toNat | _=>0))
 case atStart =>
  refine⟨0,_,rfl,aiW _,hk1,?_,hb1,heap_alloc_old W1 _ hbz,by simp⟩
  rw [List.take_zero,List.foldl_nil,List.map_replicate];refine List.ext_getElem (by simp [size_madeCells]) fun j h1 h2=>?_
  simp [madeCells,Nat.mod_one]
 case round =>
  obtain⟨i,cs,rfl,hi,hk,hcs,hbw,hb,hsz⟩:=hrel;by_cases hp:i<L.length
  ·have hpi:(i:Int)<(L.length:Int):=by omega
   have hx0:=hr L[i] (ais hp);have hcl:=hcells i L[i] (aix hp);have c0:wr.cell? ⟨b,o+i*2,none⟩=some (.int .i64 L[i].1):=(ajs hb).trans (hcl 0 _ rfl);have c1:wr.cell? ⟨b,o+i*2+1,none⟩=some (.bool L[i].2):=(ajs hb).trans (hcl 1 _ rfl);have hcz:cs.size=L.length:=by
    have:=congrArg ajB hcs;rw [ai2,Jx,ajq] at this;simpa using this
   have hx1:L[i].1.toNat<L.length:=by omega
   have c2:wr.cell? ⟨W1.heap.size,L[i].1.toNat,none⟩=some (cs[L[i].1.toNat]'(by omega)):=by
    rw [aiC hk];exact Array.getElem?_eq_getElem _
   have f2:wr.frozen? ⟨W1.heap.size,L[i].1.toNat,none⟩=false:=ai3 hk _;have hstep:(L.zipIdx.take (i+1)).foldl (fun a p=>a.set p.1.1.toNat (EC front p.2 p.1)) (aiL L.length 0)=((L.zipIdx.take i).foldl (fun a p=>a.set p.1.1.toNat (EC front p.2 p.1)) (aiL L.length 0)).set L[i].1.toNat (EC front i L[i]):=by
    rw [aiA (by simpa using hp),ajz];simp
   by_cases hq:L[i].2=front
   ·have hq2:(L[i].2==front)=true:=by simp [hq]
    go_wp2
    refine⟨⟨i+1,(cs.setIfInBounds L[i].1.toNat (.int .i64 (2*i+2))).setIfInBounds L[i].1.toNat (.int .i64 (2*i+1)),congrArg (aiz .i64) (by omega),by omega,?_,?_,?_,?_,?_⟩,?_⟩
    ·rw [heap_alloc_old _ _ (by simp [aiB];omega)]
     exact heap_setCell_same _ _ _ _ _ _ (heap_setCell_same _ _ _ _ _ _ hk)
    ·rw [hstep]
     simp [Array.toList_setIfInBounds,hcs,List.map_set,EC,hq]
    ·exact Below.alloc ((hbw.setCell hg0 _).setCell hg0 _) (by simp [aiB];omega) _
    ·rw [heap_alloc_old _ _ (by simp [aiB];omega)]
     rw [heap_setCell_other _ _ _ _ (by simp;omega),heap_setCell_other _ _ _ _ (by simp;omega)];exact hb
    ·simp [aiB]
     omega
    ·show L.length - ((i:Int)+1).toNat<L.length - (i:Int).toNat
     omega
   ·have hq2:(L[i].2==front)=false:=by simp [hq]
    go_wp2
    refine⟨⟨i+1,cs.setIfInBounds L[i].1.toNat (.int .i64 (2*i+2)),congrArg (aiz .i64) (by omega),by omega,?_,?_,?_,?_,?_⟩,?_⟩
    ·rw [heap_alloc_old _ _ (by simp [aiB];omega)]
     exact heap_setCell_same _ _ _ _ _ _ hk
    ·rw [hstep]
     simp [Array.toList_setIfInBounds,hcs,List.map_set,EC,hq]
    ·exact Below.alloc (hbw.setCell hg0 _) (by simp [aiB];omega) _
    ·rw [heap_alloc_old _ _ (by simp [aiB];omega)]
     rw [heap_setCell_other _ _ _ _ (by simp;omega)];exact hb
    ·simp [aiB]
     omega
    ·show L.length - ((i:Int)+1).toNat<L.length - (i:Int).toNat
     omega
  ·have hpi:¬(i:Int)<(L.length:Int):=by omega
   have hil:i=L.length:=by omega
   go_wp2
   go_ret
   refine⟨hbw,W1.heap.size,rfl,hg0,cs,hk,?_⟩
   rw [hcs,List.take_of_length_le (by simp;omega)]
theorem ac9 {w:World} {G:Nat→Prop} {l:List Int} {g o c:Nat} {cs:Array Value} {t:TypeId} (hk:w.heap[g]?=some (.cells cs t (0,0))) (hG:G g) (hcs:∀(i:Nat) (x:Int),l[i]?=some x→cs[o+i]?=some (.int .i64 x)) (hc:l.length≤c) :
  bP w G (ai l) (.slice (some ⟨g,o,none⟩) l.length c):=by
 simp only [bP,RepC];refine⟨_,c,l.map (aiz .i64),by rw [ai2],by rw [ai2];exact hc,oq _,fun d hd=>?_,fun _=>⟨g,o,rfl,hG,fun j u hu=>?_⟩⟩
 ·obtain⟨n,_,rfl⟩:=List.mem_map.1 hd
  rfl
 ·rw [aiQ] at hu
  obtain⟨n,hn,rfl⟩:=aiX.1 hu;rw [aiC hk];exact hcs j n hn
theorem aaH {w:World} {F:Nat→Prop} (hF:∀b,F b→b<w.heap.size) (hgl:gOk gl1 w F) {l:List Int} {x:Value} (hx:bP w F (ai l) x) (h:∀n∈l,0≤n∧n<1000000000000000000) (hl:l.length≤1000000) :
  Calls Tryz.prog 134 #[x,.string ⟨#[44]⟩] w fun e w'=>e = .returned (.string (cf 44 l))∧Below w.heap.size w w' :=
 mG (aiG Tryz.func134 (by kernel_rfl) rfl) pE dg rfl (Kg l 44 h hl) rfl hgl
  (show eP w F _ (.dat 2) (ai l) x∧eP w F _ (.dat 0) (T ⟨#[44]⟩) (.string ⟨#[44]⟩)∧True from⟨.inr hx,.inr (ce.2 ⟨rfl,rfl⟩),trivial⟩) hF
set_option maxHeartbeats 4000000 in
set_option maxRecDepth 1000000 in
theorem abc (d:D) (x:Value) (w:World) (F:Nat→Prop) (hF:∀b,F b→b<w.heap.size) (hgl:gOk gl1 w F) (hx:bP w F d x) (h1:dN [d]=some (.ret [B false] [])) :
  Calls Tryz.prog 180 #[x] w fun e w'=>e = .returned (.tuple #[.string ⟨#[]⟩,.bool false])∧Below w.heap.size w w':=by
 have h0g:gOk gl0 w F:=fun p hp=>hgl p (JL p hp)
 have hc1:Calls Tryz.prog 173 #[x] w fun e w'=>e = .returned (.bool false)∧Below w.heap.size w w' :=
  mG (aiG Tryz.func173 (by kernel_rfl) rfl) qt dN rfl h1 rfl h0g (show eP w F _ (.dat 2) d x∧True from⟨.inr hx,trivial⟩) hF
 go_enter Tryz.func180,Tryz.ntmps180
 go_wp2_with (go_at_call 173;refine hc1.mono ?_)
 rintro e W1 ⟨rfl,b1⟩
 go_wp2
 go_ret2
 exact⟨rfl,b1⟩
def Tt (front:Bool) (L:List Lf):List Int:=L.zipIdx.foldl (fun a p=>a.set p.1.1.toNat (EC front p.2 p.1)) (aiL L.length 0)
theorem FQ (front:Bool) (L:List Lf):(Tt front L).length=L.length:=by rw [Tt,Jx,ajq]
set_option maxHeartbeats 4000000 in
set_option maxRecDepth 1000000 in
theorem VW (d:D) (x:Value) (cols rows:Int) (cn k:Nat) (L:List Lf) (l:List Int) (w:World) (F:Nat→Prop) (hF:∀b,F b→b<w.heap.size) (hgl:gOk gl1 w F) (hx:bP w F d x) (h1:dN [d]=some (.ret [B true] [])) (h2:eS [d]=some (.ret [I cols,I rows] []))
  (h3:fN [d]=some (.ret [.arr 2 (L.map lfD)] [])) (hL:l=Tt true L) (hr:∀x∈L,0≤x.1∧x.1<(L.length:Int)) (hcn:cols=(cn:Int)) (hc0:0<cn) (hk0:0<k) (hl:l.length=k*cn) (hlz:l.length≤1000000) (hln:∀n∈l,0≤n∧n<1000000000000000000) :
  Calls Tryz.prog 180 #[x] w fun e w'=>e = .returned (.tuple #[.string (yp cn k l),.bool true])∧Below w.heap.size w w':=by
 subst hcn;have hgW:∀W,Below w.heap.size w W→gOk gl1 W F:=fun W hW=>iv (fun _ h=>h) (fun b hb=>hW.block b (hF b hb)) hgl
 have hFW:∀W,Below w.heap.size w W→∀b,F b→b<W.heap.size:=fun W hW b hb=>ai4 (hF b hb) hW.size
 have h0W:∀W,Below w.heap.size w W→gOk gl0 W F:=fun W hW p hp=>hgW W hW p (JL p hp)
 have hxW:∀W,Below w.heap.size w W→bP W F d x:=fun W hW=>cq (fun _ h=>h) (fun b hb=>hW.block b (hF b hb)) hx
 have hne:l≠[]:=fun e=>by
  rw [e,ajF] at hl;have:=Nat.mul_pos hk0 hc0;omega
 have hc1:Calls Tryz.prog 173 #[x] w fun e w'=>e = .returned (.bool true)∧Below w.heap.size w w' :=
  mG (aiG Tryz.func173 (by kernel_rfl) rfl) qt dN rfl h1 rfl (fun p hp=>hgl p (JL p hp)) (show eP w F _ (.dat 2) d x∧True from⟨.inr hx,trivial⟩) hF
 have hc2:∀W,Below w.heap.size w W→Calls Tryz.prog 213 #[x] W fun e w'=>e = .returned (.tuple #[.int .i64 cn,.int .i64 rows])∧Below W.heap.size W w':=fun W hW =>
  pZ (aiG Tryz.func213 (by kernel_rfl) rfl) vY (ds:=[d]) [_,_] eS rfl h2 rfl (h0W W hW) (show eP W F _ (.dat 2) d x∧True from⟨.inr (hxW W hW),trivial⟩) (hFW W hW)
 have hlL:l.length=L.length:=by rw [hL,FQ]
 have hneL:L≠[]:=fun e=>hne (aiv (by rw [hlL,e];rfl))
 have hc3:∀W,Below w.heap.size w W→Calls Tryz.prog 214 #[x,.bool true] W fun e w'=>Below W.heap.size W w' ∧
   ∃g cs,e = .returned (.slice (some ⟨g,0,none⟩) l.length l.length)∧W.heap.size≤g∧w'.heap[g]?=some (.cells cs 3 (0,0))∧cs.toList=l.map (aiz .i64):=fun W hW=>by
  rw [hlL,hL];exact Yv d x true L W F (hFW W hW) (h0W W hW) (hxW W hW) h3 hr hneL (by omega)
 clear hL hlL hneL hr h3
 go_enter Tryz.func180,Tryz.ntmps180
 go_wp2_with (go_at_call 173;refine hc1.mono ?_)
 rintro e W1 ⟨rfl,b1⟩;have hc2':=hc2 W1 b1
 go_wp2_with (go_at_call 213;refine hc2'.mono ?_)
 rintro e W2 ⟨rfl,b2⟩;have hB2:=b1.trans (b2.mono b1.size);have hB3:=hB2.alloc hB2.size (.cells #[.pointer none,.slice none 0 0] 67);have hI3:Lib.IsBuilderF 67 5 W2.heap.size W2.heap.size (Lib.byteCells []) _:=Lib.IsBuilderF.of (Lib.fresh_isBuilder 67 5 W2);have hc3':=hc3 _ hB3
 go_wp2_with (go_at_call 214;refine hc3'.mono ?_)
 rintro e W3 ⟨b3,g,cs,rfl,hge,hg,hcs0⟩;have hcs:∀(i:Nat) (x:Int),l[i]?=some x→cs[i]?=some (.int .i64 x):=fun i x hx=>by
  rw [←Array.getElem?_toList,hcs0,aiQ,hx];rfl
 have hI3:=iT hI3 b3;have hsz:W2.heap.size<g:=by
  simp at hge;omega
 have hB3:=hB3.trans (b3.mono hB3.size);have hgl3:g<W3.heap.size:=(aim.1 hg).1;have hW2:=hB2.size;clear hc1 hc2 hc3 hc3' b3 hge b1 b2 hB2
 go_wp2
 go_loopw [7] (fun v7 wr=>∃(j:Nat) (acc:List UInt8),∃ad,v7 = .slice ad (k*cn - j*cn) (k*cn - j*cn)∧(j<k→ad=some ⟨g,j*cn,none⟩)∧j≤k∧Lib.IsBuilderF 67 5 W2.heap.size W2.heap.size (Lib.byteCells acc) wr∧Below w.heap.size w wr∧wr.heap[g]?=some (.cells cs 3 (0,0))∧W3.heap.size≤wr.heap.size ∧
   acc++ac (yp cn (k - j) (l.drop (j*cn)))=ac (yp cn k l)∧acc.length≤j*(cn*19+1)) (fun v7 wr=>match v7 with | .slice _ n _=>n | _=>0)
 case atStart =>
  exact⟨0,[],some ⟨g,0,none⟩,by simp,by simp,aiW _,hI3,hB3,hg,air _,by simp,by simp⟩
 case round =>
  obtain⟨j,acc,ad,rfl,had,hj,hI,hbw,hg,hsz3,hacc,hal⟩:=hrel;by_cases hp:j<k
  ·obtain rfl:=had hp
   have hmul:j*cn+cn≤k*cn:=by
    rw [←aiU];exact ajb _ hp
   have hpos:0<k*cn - j*cn:=by omega
   have hpos2:(0:Int)<((k*cn - j*cn:Nat):Int):=by omega
   have hpl:((l.drop (j*cn)).take cn).length=cn:=by rw [aiV,aiw];omega
   have hpn:∀n∈(l.drop (j*cn)).take cn,0≤n∧n<1000000000000000000:=fun n hn=>hln n (List.mem_of_mem_drop (ajt hn))
   have hrp:bP wr (fun b=>F b∨b=g) (ai ((l.drop (j*cn)).take cn)) (.slice (some ⟨g,j*cn,none⟩) cn (k*cn - j*cn)):=by
    have:=ac9 (w:=wr) (G:=fun b=>F b∨b=g) (l:=(l.drop (j*cn)).take cn) (o:=j*cn) (c:=k*cn - j*cn) hg (.inr rfl) (fun i x hx=>?_) (by rw [hpl];omega)
    ·rw [hpl] at this
     exact this
    ·have hi:i<cn:=by
      have:=(aiI.1 hx).1;omega
     rw [aiT hi,List.getElem?_drop] at hx;exact hcs _ _ hx
   have hcj:=aaH (w:=wr) (F:=fun b=>F b∨b=g) (fun b hb=>hb.elim (hFW wr hbw b) (fun e=>by rw [e];omega)) (iv (fun _ h=>.inl h) (fun _ _=>rfl) (hgW wr hbw)) hrp hpn (by omega);have hsj:=wZ (c:=44) hpn;rw [hpl] at hsj;have hdr:ac (yp cn (k - j) (l.drop (j*cn)))=ac (cf 44 ((l.drop (j*cn)).take cn)++⟨#[47]⟩)++ac (yp cn (k - (j+1)) (l.drop ((j+1)*cn))):=by
    rw [show k - j=(k - (j+1))+1 by omega];simp only [yp,be,List.drop_drop,aiU]
   generalize hJ:cf 44 ((l.drop (j*cn)).take cn)=J at hcj hsj hdr
   go_wp2_with (go_at_call 134;refine hcj.mono ?_)
   intro e W4 he b4;subst he;have hI4:=iT hI b4;have hB4:=hbw.trans (b4.mono hbw.size);have hcw:=xA W2.heap.size W2.heap.size _ (J++⟨#[47]⟩) _ hI4 (by
    rw [Lib.byteCells_length,ajr,sz1];have h1:j*(cn*19+1)≤k*cn*19+k:=by
     have h2:=ajb (cn*19+1) (Nat.le_of_lt hp);rw [ajC,ajC,ajm,ajm,←ajv,←ajv] at h2;rw [ajC,ajm,←ajv];exact h2
    have h3:k≤k*cn:=Nat.le_mul_of_pos_right _ hc0;omega) (ait (by omega) (ait hsz3 b4.size))
   go_wp2_with (go_at_call 43;refine hcw.mono ?_)
   rintro e W5 ⟨rfl,hI5,b5,k5⟩;have hg5:W5.heap[g]?=some (.cells cs 3 (0,0)):=k5 g _ ((b4.block g (aim.1 hg).1).trans hg) (by simp;omega) (fun c fz h=>by cases h);have hs5:W3.heap.size≤W5.heap.size:=ait hsz3 (ait b4.size b5.size);have hlt:k*cn - (j+1)*cn=k*cn - j*cn - cn:=by rw [aiU];omega
   go_wp2
   refine⟨⟨j+1,acc++ac (J++⟨#[47]⟩),_,by rw [hlt],fun hj1=>?_,by omega,?_,hB4.trans (b5.mono hW2),hg5,hs5,?_,?_⟩,?_⟩
   ·have h6:(j+2)*cn≤k*cn:=ajb _ (by omega)
    have h7:(j+2)*cn=j*cn+cn+cn:=by rw [aiU,aiU]
    rw [if_neg (by omega),aiU]
   ·rw [Lib.byteCells_append]
    exact Or.inr hI5
   ·rw [←hacc,hdr,aiY]
   ·rw [ajw,be,ajw,aiU]
    have:(ac J).length=J.size:=rfl;have h2:(ac (⟨#[47]⟩:ByteArray)).length=1:=rfl;omega
   ·show k*cn - j*cn - cn<k*cn - j*cn
    omega
  ·have hjk:j=k:=by omega
   subst hjk;have hcs4:=tR W2.heap.size W2.heap.size acc _ hI (by omega)
   go_wp2_with (go_at_call 44;refine hcs4.mono ?_)
   rintro e W4 ⟨rfl,h1,b4,k4⟩
   go_wp2
   go_ret2
   rw [Nat.sub_self,yp] at hacc;refine⟨?_,hbw.trans (b4.mono hW2)⟩
   have:acc=ac (yp cn j l):=by rw [←hacc];simp [rC]
   rw [this,ll];rfl
def agD:D→Option Lf
 | .agg [.v (.int .i64 a),.v (.bool b)]=>some (a,b)
 | _=>none
theorem aal {d:D} {x:Lf} (h:agD d=some x):d=lfD x:=by
 unfold agD at h;split at h
 ·cases h;rfl
 ·cases h
def Sw:List D→Option (List Lf)
 | []=>some []
 | d::l=>(agD d).bind fun x=>(Sw l).map (x::·)
theorem Nq:∀(ds:List D) (l:List Lf),Sw ds=some l→ds=l.map lfD
 | [],l,h=>by cases h;rfl
 | d::ds,l,h=>by
  simp only [Sw,aiF,aiX] at h;obtain⟨x,h1,m,h2,rfl⟩:=h;rw [aal h1,Nq ds m h2];rfl
theorem Ss:∀(l:List Lf),Sw (l.map lfD)=some l
 | []=>rfl
 | x::l=>by
  simp only [aje,Sw,Ss l];rfl
def aex:Option Out→Option Bool
 | some (.ret [.v (.bool b)] [])=>some b
 | _=>none
def ZA:Option Out→Option (Int × Int)
 | some (.ret [.v (.int .i64 a),.v (.int .i64 b)] [])=>some (a,b)
 | _=>none
def Zm:Option Out→Option (List Lf)
 | some (.ret [.arr 2 ds] [])=>Sw ds
 | _=>none
theorem aa3 {o:Option Out} {b:Bool} (h:aex o=some b):o=some (.ret [B b] []):=by
 unfold aex at h;split at h
 ·cases h;rfl
 ·cases h
theorem Ye {o:Option Out} {x:Int × Int} (h:ZA o=some x):o=some (.ret [I x.1,I x.2] []):=by
 unfold ZA at h;split at h
 ·cases h;rfl
 ·cases h
theorem YN {o:Option Out} {l:List Lf} (h:Zm o=some l):o=some (.ret [.arr 2 (l.map lfD)] []):=by
 unfold Zm at h;split at h
 ·rw [Nq _ _ h]
 ·cases h
def Wb (c k:Nat) (L:List Lf):Prop:=0<c∧0<k∧L.length=k*c∧L.length≤1000000∧(∀x∈L,0≤x.1∧x.1<(L.length:Int))∧∀n∈Tt true L,0≤n∧n<1000000000000000000
instance (c k:Nat) (L:List Lf):Decidable (Wb c k L):=by unfold Wb;infer_instance
def afg (d:D):Option Out:=(aex (dN [d])).bind fun b=>if b=false then some (.ret [T ⟨#[]⟩,B false] []) else
   (ZA (eS [d])).bind fun x=>(Zm (fN [d])).bind fun L =>
    if 0≤x.1∧Wb x.1.toNat (L.length / x.1.toNat) L then some (.ret [T (yp x.1.toNat (L.length / x.1.toNat) (Tt true L)),B true] []) else none
def Bq:List D→Option Out
 | [.arr z ds]=>afg (.arr z ds)
 | _=>none
@[reducible] def tB:FS:={pm:=[.dat 2],rm:=[.dat 0,.dat 0],f:=Bq}
theorem Ic:aw gl1 Tryz.prog 180 tB:=by
 have he:∀args w,(callFunc 180 args).run Tryz.prog w = .ok (.enter 180 args) w:=aiG Tryz.func180 (by kernel_rfl) rfl;refine bQ he fun ds rs us hd args w F ow hg ha hF _=>?_
 obtain⟨d,y,rfl,h2,h3⟩:=lC ha;replace hd:Bq [d]=some (.ret rs us):=hd;rw [DL h2];unfold Bq at hd;split at hd
 case h_2=>cases hd
 rename_i z ds e;cases e;have hy:=h3.resolve_left (by intro h;cases h);generalize D.arr z ds=d at *;unfold afg at hd;obtain⟨b,h1,hd⟩:=aiF.1 hd;have h1:=aa3 h1;split at hd
 case isTrue hb =>
  subst hb;cases hd;refine(abc d y w F (fun b hb=>(hF b hb).1) hg hy h1).mono ?_
  rintro e w' ⟨rfl,hB⟩;refine⟨_,rfl,F,_,[_,_],rfl,eR hB hF rfl rfl [_,_] [_,_] rfl rfl fun j d hj=>?_⟩
  match j,hj with
  | 0,hj =>
   simp only [aiK,aiP] at hj;subst hj;exact⟨_,rfl,ce.2 ⟨rfl,rfl⟩⟩
  | 1,hj =>
   simp only [aji,aiK,aiP] at hj;subst hj;exact⟨_,rfl,ce.2 ⟨rfl,rfl⟩⟩
 case isFalse hb =>
  obtain rfl:b=true:=by simpa using hb
  obtain⟨⟨cols,rows⟩,h4,hd⟩:=aiF.1 hd;obtain⟨L,h5,hd⟩:=aiF.1 hd;split at hd
  case isFalse=>cases hd
  rename_i hz;cases hd;dsimp only at hz;obtain⟨hz0,hz⟩:=hz;unfold Wb at hz;refine(VW d y cols rows cols.toNat (L.length / cols.toNat) L (Tt true L) w F (fun b hb=>(hF b hb).1) hg hy h1 (Ye h4) (YN h5) rfl hz.2.2.2.2.1 (by omega) hz.1 hz.2.1 (by rw [FQ];exact hz.2.2.1) (by rw [FQ];exact hz.2.2.2.1) hz.2.2.2.2.2).mono ?_
  rintro e w' ⟨rfl,hB⟩;refine⟨_,rfl,F,_,[_,_],rfl,eR hB hF rfl rfl [_,_] [_,_] rfl rfl fun j d hj=>?_⟩
  match j,hj with
  | 0,hj =>
   simp only [aiK,aiP] at hj;subst hj;exact⟨_,rfl,ce.2 ⟨rfl,rfl⟩⟩
  | 1,hj =>
   simp only [aji,aiK,aiP] at hj;subst hj;exact⟨_,rfl,ce.2 ⟨rfl,rfl⟩⟩
end Go.Proofs.YtjafgdefcggjcaaGreatDoor

namespace Go.Proofs.YtjafgdefcggjcaaGreatDoor
open Go Go.V
def BW:List Int→Int→List Int
 | [],n=>[n]
 | x::l,n=>if x<n then x::BW l n else n::x::l
def jJ (n:Int):List Int→Nat
 | []=>0
 | x::l=>if x<n then jJ n l+1 else 0
theorem Vy (n:Int):∀l,jJ n l≤l.length
 | []=>air _
 | x::l=>by
  unfold jJ;split
  ·exact Nat.succ_le_succ (Vy n l)
  ·exact aiW _
theorem UO (n:Int):∀(l:List Int) (i:Nat) (h:i<l.length),i<jJ n l→l[i]<n
 | [],i,h,_=>by cases h
 | x::l,i,h,hi=>by
  unfold jJ at hi;split at hi
  ·rename_i hx
   cases i with
   | zero=>exact hx
   | succ i=>exact UO n l i (by simpa using h) (by omega)
  ·omega
theorem VU (n:Int):∀(l:List Int) (h:jJ n l<l.length),¬l[jJ n l]<n
 | [],h=>by cases h
 | x::l,h=>by
  by_cases hx:x<n
  ·have e:jJ n (x::l)=jJ n l+1:=by simp [jJ,hx]
   simp only [e,aiO];exact VU n l (by rw [e] at h;simpa using h)
  ·have e:jJ n (x::l)=0:=by simp [jJ,hx]
   simp only [e,ajn];exact hx
theorem Wh (n:Int):∀(l:List Int),BW l n=l.take (jJ n l)++[n]++l.drop (jJ n l)
 | []=>by simp [BW,jJ]
 | x::l=>by
  by_cases hx:x<n
  ·have e:jJ n (x::l)=jJ n l+1:=by simp [jJ,hx]
   rw [e];simp only [BW,hx,if_true,List.take_succ_cons,List.drop_succ_cons,aiM];rw [Wh n l]
  ·have e:jJ n (x::l)=0:=by simp [jJ,hx]
   rw [e];simp [BW,hx]
theorem Mx {n:Int}:∀{l:List Int},(BW l n).Perm (n::l)
 | []=>by simp [BW]
 | x::l=>by
  unfold BW;split
  ·exact(Mx.cons x).trans (List.Perm.swap n x l)
  ·exact List.Perm.refl _
theorem Mh {n:Int}:∀{l:List Int},l.Pairwise (·≤·)→(BW l n).Pairwise (·≤·)
 | [],_=>by simp [BW]
 | x::l,h=>by
  have h':=ajc.1 h;unfold BW;split
  ·rename_i hx
   refine ajc.2 ⟨fun y hy=>?_,Mh h'.2⟩
   rcases aju.1 (Mx.mem_iff.1 hy) with rfl | hy
   ·omega
   ·exact h'.1 y hy
  ·refine ajc.2 ⟨fun y hy=>?_,h⟩
   rcases aju.1 hy with rfl | hy
   ·omega
   ·have:=h'.1 y hy
    omega
def wH (l:List Int):List Int:=l.foldl BW []
theorem xm:∀(l acc:List Int),acc.Pairwise (·≤·)→(l.foldl BW acc).Pairwise (·≤·)∧(l.foldl BW acc).Perm (acc++l)
 | [],acc,h=>⟨h,by simp⟩
 | n::l,acc,h=>by
  obtain⟨h1,h2⟩:=xm l (BW acc n) (Mh h);refine⟨h1,h2.trans ?_⟩
  have:=(Mx (n:=n) (l:=acc)).append_right l;refine this.trans ?_
  rw [aiM];exact List.perm_middle.symm
theorem HN (l:List Int):(wH l).length=l.length:=by
 have:=(xm l [] List.Pairwise.nil).2.length_eq;simpa [wH] using this
def eN (s:Int):List Int→Nat
 | a::b::t=>if 0<s*(b - a) then eN s (b::t)+1 else 1
 | _=>1
theorem rq (s:Int):∀l,1≤eN s l
 | []=>air _
 | [_]=>air _
 | a::b::t=>by
  simp only [eN];split<;>omega
theorem Tw (s:Int):∀l:List Int,l≠[]→eN s l≤l.length
 | [],h=>absurd rfl h
 | [_],_=>air _
 | a::b::t,_=>by
  have:=Tw s (b::t) (by simp);simp only [eN];split
  ·simp only [ai9] at this ⊢;omega
  ·simp
theorem Nd (s:Int):∀(l:List Int) (n:Nat) (h:n+1<l.length),n+1<eN s l→0<s*(l[n+1] - l[n])
 | [],_,h,_=>by simp at h
 | [_],_,h,_=>by simp at h
 | a::b::t,n,h,hr=>by
  simp only [eN] at hr;split at hr
  ·rename_i hp
   cases n with
   | zero=>exact hp
   | succ n=>exact Nd s (b::t) n (by simpa using h) (by omega)
  ·omega
theorem UA (s:Int):∀(l:List Int) (h:eN s l<l.length),¬0<s*(l[eN s l] - l[eN s l - 1]'(by have:=rq s l;omega))
 | [],h=>by simp at h
 | [_],h=>by simp [eN] at h
 | a::b::t,h=>by
  by_cases hp:0<s*(b - a)
  ·have e:eN s (a::b::t)=eN s (b::t)+1:=by simp only [eN,hp,if_true]
   have h':eN s (b::t)<(b::t).length:=by rw [e] at h;simpa using h
   have ih:=UA s (b::t) h';have hpos:=rq s (b::t);have e1:(a::b::t)[eN s (a::b::t)]=(b::t)[eN s (b::t)]:=by simp only [e,aiO]
   have e2:(a::b::t)[eN s (a::b::t) - 1]'(by omega)=(b::t)[eN s (b::t) - 1]'(by omega):=by
    obtain⟨m,hm⟩:∃m,eN s (b::t)=m+1:=⟨eN s (b::t) - 1,by omega⟩
    simp only [e,hm,Nat.add_sub_cancel,aiO]
   rw [e1,e2];exact ih
  ·have e:eN s (a::b::t)=1:=by simp only [eN,hp,if_false]
   simp only [e,aiO,ajn,Nat.sub_self];exact hp
def iB (l:List Int) (i:Nat):Nat:=max (eN 1 (l.drop i)) (eN (-1) (l.drop i))
def OQ (l:List Int) (s:Nat × Nat) (i:Nat):Nat × Nat:=if s.2<iB l i then(i,iB l i) else s
def KZ (l:List Int) (n:Nat):Nat × Nat:=(aiE n).foldl (OQ l) (0,0)
def gn (l:List Int) (n:Nat):Nat × Nat:=(aiE n).foldl (OQ l) (0,1)
theorem Jj (l:List Int) (n:Nat):KZ l (n+1)=OQ l (KZ l n) n:=by simp [KZ,ajG]
theorem vq (l:List Int) (n:Nat):gn l (n+1)=OQ l (gn l n) n:=by simp [gn,ajG]
theorem Ae (l:List Int) (i:Nat):1≤iB l i:=by
 have:=rq 1 (l.drop i);unfold iB;omega
theorem aca (l:List Int):∀n,1≤n→gn l n=KZ l n
 | 1,_=>by
  have:=Ae l 0;rw [vq l 0,Jj l 0];have e1:gn l 0=(0,1):=rfl;have e2:KZ l 0=(0,0):=rfl;rw [e1,e2];unfold OQ;dsimp only;rw [if_pos (show 0<iB l 0 by omega)];by_cases h:1<iB l 0
  ·rw [if_pos h]
  ·rw [if_neg h]
   have:iB l 0=1:=by omega
   rw [this]
 | n+2,_=>by rw [vq,Jj,aca l (n+1) (by omega)]
theorem Zn {l:List Int} {i:Nat} (h:i<l.length):iB l i≤l.length - i:=by
 have h0:l.drop i≠[]:=fun e=>by have:=congrArg ajB e;simp at this;omega
 have h1:=Tw 1 (l.drop i) h0;have h2:=Tw (-1) (l.drop i) h0;rw [aiw] at h1 h2;unfold iB;omega
def zL (n:Int):Int:=if 0<n then 1 else if n<0 then -1 else 0
theorem ae3 {l:List Int} {i k:Nat} (h1:i+1≤k) (h2:k<i+iB l i) (h3:k<l.length):zL (l[i+1]'(by omega) - l[i]'(by omega))≠0∧zL (l[k] - l[k - 1]'(by omega))=zL (l[i+1]'(by omega) - l[i]'(by omega)):=by
 obtain⟨n,rfl⟩:∃n,k=i+(n+1):=⟨k - i - 1,by omega⟩
 have hd:∀s,n+1<eN s (l.drop i)→0<s*(l[i+(n+1)] - l[i+n]'(by omega))∧0<s*(l[i+1]'(by omega) - l[i]'(by omega)):=by
  intro s hs;have a:=Nd s (l.drop i) n (by rw [aiw];omega) hs;have b:=Nd s (l.drop i) 0 (by rw [aiw];omega) (by omega);simp only [aiR] at a b;exact⟨a,b⟩
 have hk:l[i+(n+1) - 1]'(by omega)=l[i+n]'(by omega):=by congr 1
 rw [hk];unfold iB at h2;unfold zL;by_cases hm:n+1<eN 1 (l.drop i)
 ·obtain⟨a,b⟩:=hd 1 hm
  rw [if_pos (by omega),if_pos (by omega)];exact⟨by decide,rfl⟩
 ·obtain⟨a,b⟩:=hd (-1) (by omega)
  rw [if_neg (by omega),if_pos (by omega),if_neg (by omega),if_pos (by omega)];exact⟨by decide,rfl⟩
theorem aeV {l:List Int} {i k:Nat} (h1:i+1≤k) (h2:k=i+iB l i) (h3:k<l.length):zL (l[i+1]'(by omega) - l[i]'(by omega))=0∨zL (l[k] - l[k - 1]'(by omega))≠zL (l[i+1]'(by omega) - l[i]'(by omega)):=by
 have key:∀s,eN s (l.drop i)=iB l i→¬0<s*(l[k] - l[k - 1]'(by omega)):=by
  intro s hs;have a:=UA s (l.drop i) (by rw [aiw];omega);simp only [aiR,hs] at a;have e1:l[i+iB l i]'(by omega)=l[k]:=by congr 1;omega
  have e2:l[i+(iB l i - 1)]'(by have:=Ae l i;omega)=l[k - 1]'(by omega):=by
   congr 1
   have:=Ae l i;omega
  rw [e1,e2] at a;exact a
 have one:∀s,¬eN s (l.drop i)=iB l i→0<s*(l[i+1]'(by omega) - l[i]'(by omega))→eN s (l.drop i)=1∨1<eN s (l.drop i):=fun s _ _=>by
  have:=rq s (l.drop i);omega
 have first:∀s,1<eN s (l.drop i)→0<s*(l[i+1]'(by omega) - l[i]'(by omega)):=by
  intro s hs;have b:=Nd s (l.drop i) 0 (by rw [aiw];omega) (by omega);simp only [aiR] at b;exact b
 have not1:∀s,eN s (l.drop i)=1→¬0<s*(l[i+1]'(by omega) - l[i]'(by omega)):=by
  intro s hs;have a:=UA s (l.drop i) (by rw [aiw,hs];omega);simp only [aiR,hs] at a;exact a
 by_cases hz:l[i+1]'(by omega) - l[i]'(by omega)=0
 ·left
  unfold zL;rw [if_neg (by omega),if_neg (by omega)]
 right
 by_cases hp:0<l[i+1]'(by omega) - l[i]'(by omega)
 ·have hr:eN 1 (l.drop i)=iB l i:=by
   have h1:¬1<eN (-1) (l.drop i):=fun h=>by have:=first (-1) h;omega
   have:=rq (-1) (l.drop i);have:=rq 1 (l.drop i);unfold iB;omega
  have hk:=key 1 hr;have hb:zL (l[i+1]'(by omega) - l[i]'(by omega))=1:=by unfold zL;rw [if_pos hp]
  rw [hb];unfold zL;rw [if_neg (by omega)];split<;>decide
 ·have hr:eN (-1) (l.drop i)=iB l i:=by
   have h1:¬1<eN 1 (l.drop i):=fun h=>by have:=first 1 h;omega
   have:=rq (-1) (l.drop i);have:=rq 1 (l.drop i);unfold iB;omega
  have hk:=key (-1) hr;have hb:zL (l[i+1]'(by omega) - l[i]'(by omega)) = -1:=by unfold zL;rw [if_neg hp,if_pos (by omega)]
  rw [hb];unfold zL;by_cases hq:0<l[k] - l[k - 1]'(by omega)
  ·rw [if_pos hq];decide
  ·rw [if_neg hq,if_neg (by omega)];decide
theorem eJ {l m:List Int} (h:l.length+m.length≤1048577):bC 1 8 (ai l) (ai m)=some (ai (l++m)):=by
 rw [hD,if_pos (by simp only [ai2];omega)];simp
theorem nx (l:List Int) (h:l.length≤1000000):gC [ai l]=some (.ret [ai l] []):=by
 rw [To];have:=eJ (l:=[]) (m:=l) (by simp;omega);rw [ajl] at this;have hc:=kw l;simp only [bf,aiH,hc];rw [show D.arr 1 []=ai [] from rfl,this];rfl
def eW (l:List Int):Bool:=decide (1≤l.length∧l.length≤40)&&l.all fun n=>decide (-500≤n∧n≤500)
theorem uH (l:List Int) (h:l.length≤1000000):ju [ai l]=some (.ret [B (eW l)] []):=by
 rw [PS];have h1:=bp (l.length:Int) 1 40;have h2:=Im l (-500) 500 (by omega);by_cases hc:(1:Int)≤l.length∧(l.length:Int)≤40
 ·have hg:eW l=l.all fun n=>decide (-500≤n∧n≤500):=by
   unfold eW;rw [decide_eq_true (show 1≤l.length∧l.length≤40 by omega),ajf]
  rw [hg];simp -implicitDefEqProofs [h1,h2,hc]
 ·have hg:eW l=false:=by
   unfold eW;rw [decide_eq_false (show ¬(1≤l.length∧l.length≤40) by omega),ajI]
  rw [hg];simp -implicitDefEqProofs [h1,hc]
theorem abf {l:List Int} {i:Nat} (h:i<l.length):wH (l.take (i+1))=BW (wH (l.take i)) l[i]:=by
 unfold wH;rw [aiA h,ajz];rfl
theorem LB (l:List Int) (h:l.length≤1000):lQ [ai l]=some (.ret [ai (wH l)] []):=by
 rw [LO];simp -implicitDefEqProofs only [aq,ain,aio,aip];refine aG (.ext 0 [ai (wH l)]) (aY l.length (fun i=>[ai (wH (l.take i)),ai l,I l.length,I (i:Int)]) _ (fun i hi=>?_) ?_ rfl rfl) ?_
 ·have hil:(i:Int)<l.length:=by omega
  have hel:ao 1 (ai l) (I (i:Int))=some [I l[i]]:=by simp [hi]
  have hlen:(wH (l.take i)).length=i:=by rw [HN,aiV];omega
  have hw:aiq.wrap ((i:Int)+1)=((i+1:Nat):Int):=by rw [ah (by omega) (by omega)];omega
  rw [abf hi];generalize wH (l.take i)=s at hlen;have hle:=Vy l[i] s;simp -implicitDefEqProofs only [aq,ain,aio,aip,hil,hel,aP];refine aG (.ext 2 [ai s,I l[i],I (jJ l[i] s:Nat),ai l,I l.length,I (i:Int)]) (aY (jJ l[i] s) (fun k=>[ai s,I l[i],I (k:Int),ai l,I l.length,I (i:Int)]) _ (fun k hk=>?_) ?_ rfl rfl) ?_
  ·have hks:k<s.length:=by omega
   have hlt:=UO l[i] s k hks hk;have hwk:aiq.wrap ((k:Int)+1)=(k:Int)+1:=ah (by omega) (by omega);simp -implicitDefEqProofs [hks,hlt,hwk]
  ·by_cases hl:jJ l[i] s<s.length
   ·have:=VU l[i] s hl
    simp -implicitDefEqProofs [hl,this]
   ·simp -implicitDefEqProofs [hl]
  ·rw [Wh]
   generalize jJ l[i] s=p at hle;have s1:dl false 1 (ai s) (I 0) (I (p:Int))=some (ai (s.take p)):=by
    have:dl false 1 (ai s) (I 0) (I (p:Int))=_:=mn (z:=1) (l:=s.map I) (i:=0) (j:=p) (k:=.i64) (k':=.i64) (aiW _) (by simp;omega);rw [this];simp [List.map_take]
   have s2:cQ false 1 (ai s) (I (p:Int))=some (ai (s.drop p)):=by
    have:=mQ (z:=1) (l:=s.map I) (i:=p) (k:=.i64) (by simp;omega);rw [this];simp [List.map_drop]
   have o1:=nx (s.take p) (by rw [aiV];omega);have a1:bC 1 8 (ai (s.take p)) (.arr 1 [I l[i]])=some (ai (s.take p++[l[i]])):=eJ (m:=[l[i]]) (by simp;omega);have a2:bC 1 8 (ai (s.take p++[l[i]])) (ai (s.drop p))=some (ai (s.take p++[l[i]]++s.drop p)):=eJ (by simp;omega);have hm:aB 1 [I l[i]]=some (.arr 1 [I l[i]]):=rfl;have hck:cT (.arr 1 [I l[i]])=some (.arr 1 [I l[i]]):=kw [l[i]];simp -implicitDefEqProofs only [aq,ain,aio,aip,s1,s2,o1,a1,a2,hm,hck,hw]
 ·rw [aiN]
  have:¬(l.length:Int)<l.length:=by omega
  simp -implicitDefEqProofs only [aq,ain,aio,aip,this]
 ·simp -implicitDefEqProofs only [aq,ain,aio,aip]
def Fy (l:List Int):Int:=(wH l).getD ((l.length - 1) / 2) 0
theorem Iv (l:List Int) (h:l.length≤1000):kL [ai l]=some (.ret [I (if eW l=true then Fy l else 0),B (eW l)] []):=by
 rw [Jz];have hg:=uH l (by omega);by_cases hc:eW l=true
 ·have hs:=LB l h
  have hl0:1≤l.length:=by
   unfold eW at hc;simp only [aiZ,decide_eq_true_eq] at hc;exact hc.1.1
  have e1:aiq.wrap ((l.length:Int) - 1)=((l.length - 1:Nat):Int):=by rw [ah (by omega) (by omega)];omega
  have hix:(l.length - 1) / 2<(wH l).length:=by rw [HN];omega
  have e2:((l.length - 1:Nat):Int).tdiv 2=(((l.length - 1) / 2:Nat):Int):=by rw [Int.tdiv_eq_ediv_of_nonneg (by omega)];omega
  have e3:aiq.wrap ((((l.length - 1) / 2:Nat):Int))=(((l.length - 1) / 2:Nat):Int):=ah (by omega) (by omega);have hel:ao 1 (ai (wH l)) (I (((l.length - 1) / 2:Nat):Int))=some [I (Fy l)]:=by
   unfold Fy;generalize (l.length - 1) / 2=m at hix;simp [hix]
  simp -implicitDefEqProofs only [aq,ain,aio,aip,hg,hc,hs,e1,lO,e2,e3,hel]
 ·have hc':eW l=false:=by simpa using hc
  simp -implicitDefEqProofs only [aq,ain,aio,aip,hg,hc']
theorem pg (n:Int):lp [I n]=some (.ret [I (zL n)] []):=by
 rw [Rk];unfold zL;by_cases h1:0<n
 ·simp -implicitDefEqProofs only [aq,ain,aio,aip,h1]
 ·by_cases h2:n<0
  ·simp -implicitDefEqProofs only [aq,ain,aio,aip,h1,h2]
  ·simp -implicitDefEqProofs only [aq,ain,aio,aip,h1,h2]
theorem pW {l:List Int} {i:Nat} (h:i<l.length):ao 1 (ai l) (I (i:Int))=some [I l[i]]:=by simp [h]
theorem Cj (l:List Int) (h:l.length≤1000000):gQ [ai l]=some (.ret [I (if eW l=true then((gn l l.length).1:Int) else 0),I (if eW l=true then((gn l l.length).2:Int) else 0),B (eW l)] []):=by
 rw [Cd];have hg:=uH l (by omega);by_cases hc:eW l=true
 case neg =>
  have hc':eW l=false:=by simpa using hc
  simp -implicitDefEqProofs only [aq,ain,aio,aip,hg,hc']
 have hgd:=hc;unfold eW at hgd;simp only [aiZ,decide_eq_true_eq,ajE] at hgd;obtain⟨⟨hl0,hl1⟩,hr⟩:=hgd;simp -implicitDefEqProofs only [aq,ain,aio,aip,hg,hc];refine aG (.ext 0 [I ((gn l l.length).1:Int),I ((gn l l.length).2:Int)]) (aY l.length (fun i=>[ai l,I ((gn l i).1:Int),I ((gn l i).2:Int),I l.length,I (i:Int)]) _ (fun i hi=>?_) ?_ rfl rfl) ?_
 ·have hil:(i:Int)<l.length:=by omega
  have hw:aiq.wrap ((i:Int)+1)=((i+1:Nat):Int):=by rw [ah (by omega) (by omega)];omega
  have hmp:=Ae l i;have hml:=Zn hi;rw [vq];have hm1:1≤(gn l i).2:=by
   have key:∀n,1≤(gn l n).2:=by
    intro n;induction n with
    | zero=>exact air _
    | succ n ih =>
     rw [vq];unfold OQ;split
     ·exact Ae l n
     ·exact ih
   exact key i
  generalize gn l i=p at hm1;obtain⟨b,m⟩:=p;dsimp only at hm1 ⊢;simp -implicitDefEqProofs only [aq,ain,aio,aip,hil,hw];refine aG (.ext 2 [ai l,I ((OQ l (b,m) i).1:Int),I ((OQ l (b,m) i).2:Int),I l.length,I (i:Int)]) (aY (iB l i - 1) (fun j=>[ai l,I (((if m<j+1 then(i,j+1) else(b,m)):Nat × Nat).1:Int),I (((if m<j+1 then(i,j+1) else(b,m)):Nat × Nat).2:Int),I (i:Int),I ((i+1+j:Nat):Int),I l.length,I (i:Int)]) _ (fun j hj=>?_) ?_ rfl ?_) ?_
  ·have hk:i+1+j<l.length:=by omega
   obtain⟨g1,g2⟩:=ae3 (l:=l) (i:=i) (k:=i+1+j) (by omega) (by omega) hk;have e1:=pW (l:=l) (i:=i) hi;have e2:=pW (l:=l) (i:=i+1) (by omega);have e3:=pW hk;have e4:=pW (l:=l) (i:=i+1+j - 1) (by omega);have r1:=hr _ (ais hi);have r2:=hr _ (ais (show i+1<l.length by omega));have r3:=hr _ (ais hk);have r4:=hr _ (ais (show i+1+j - 1<l.length by omega));generalize l[i]=v1 at *;generalize l[i+1]=v2 at *;generalize l[i+1+j]=v3 at *;generalize l[i+1+j - 1]=v4 at *;have w1:aiq.wrap (v2 - v1)=v2 - v1:=ah (by omega) (by omega);have w2:aiq.wrap (v3 - v4)=v3 - v4:=ah (by omega) (by omega);have w3:aiq.wrap (((i+1+j:Nat):Int) - 1)=((i+1+j - 1:Nat):Int):=by rw [ah (by omega) (by omega)];omega
   have w4:aiq.wrap (((i+1+j:Nat):Int) - (i:Int))=((j+1:Nat):Int):=by rw [ah (by omega) (by omega)];omega
   have w5:aiq.wrap (((j+1:Nat):Int)+1)=((j+1+1:Nat):Int):=by rw [ah (by omega) (by omega)];omega
   have w6:aiq.wrap (((i+1+j:Nat):Int)+1)=((i+1+(j+1):Nat):Int):=by rw [ah (by omega) (by omega)];omega
   have s1:=pg (v2 - v1);have s2:=pg (v3 - v4);have hk':((i+1+j:Nat):Int)<l.length:=by omega
   rw [g2] at s2;by_cases hm:m<j+1
   ·have hm2:¬(((j+1:Nat):Int)<((j+1:Nat):Int)):=by omega
    have hm3:((j+1:Nat):Int)<((j+1+1:Nat):Int):=by omega
    have hm4:m<j+1+1:=by omega
    simp -implicitDefEqProofs only [aq,ain,aio,aip,hm,hm3,hm4,hk',e1,e2,e3,e4,w1,w2,w3,w4,w5,w6,s1,s2,g1,hw,ne_eq,not_true_eq_false]
   ·by_cases hm5:m<j+1+1
    ·have hm6:(m:Int)<((j+1+1:Nat):Int):=by omega
     simp -implicitDefEqProofs only [aq,ain,aio,aip,hm,hm5,hm6,hk',e1,e2,e3,e4,w1,w2,w3,w4,w5,w6,s1,s2,g1,hw,ne_eq,not_true_eq_false]
    ·have hm6:¬(m:Int)<((j+1+1:Nat):Int):=by omega
     simp -implicitDefEqProofs only [aq,ain,aio,aip,hm,hm5,hm6,hk',e1,e2,e3,e4,w1,w2,w3,w4,w5,w6,s1,s2,g1,hw,ne_eq,not_true_eq_false]
  ·have hu:((if m<iB l i - 1+1 then(i,iB l i - 1+1) else(b,m)):Nat × Nat)=OQ l (b,m) i:=by
    rw [show iB l i - 1+1=iB l i by omega];rfl
   rw [hu];by_cases hk:i+1+(iB l i - 1)<l.length
   ·have hk':((i+1+(iB l i - 1):Nat):Int)<l.length:=by omega
    have ha:=aeV (l:=l) (i:=i) (k:=i+1+(iB l i - 1)) (by omega) (by omega) hk;have e1:=pW (l:=l) (i:=i) hi;have e2:=pW (l:=l) (i:=i+1) (by omega);have e3:=pW hk;have e4:=pW (l:=l) (i:=i+1+(iB l i - 1) - 1) (by omega);have r1:=hr _ (ais hi);have r2:=hr _ (ais (show i+1<l.length by omega));have r3:=hr _ (ais hk);have r4:=hr _ (ais (show i+1+(iB l i - 1) - 1<l.length by omega));have w3:aiq.wrap (((i+1+(iB l i - 1):Nat):Int) - 1)=((i+1+(iB l i - 1) - 1:Nat):Int):=by rw [ah (by omega) (by omega)];omega
    generalize l[i]=v1 at *;generalize l[i+1]=v2 at *;generalize l[i+1+(iB l i - 1)]=v3 at *;generalize l[i+1+(iB l i - 1) - 1]=v4 at *;have w1:aiq.wrap (v2 - v1)=v2 - v1:=ah (by omega) (by omega);have w2:aiq.wrap (v3 - v4)=v3 - v4:=ah (by omega) (by omega);have s1:=pg (v2 - v1);have s2:=pg (v3 - v4);by_cases hz:zL (v2 - v1)=0
    ·simp -implicitDefEqProofs only [aq,ain,aio,aip,hk',hw,e1,e2,w1,s1,hz]
    ·have hz2:=ha.resolve_left hz
     simp -implicitDefEqProofs only [aq,ain,aio,aip,hk',hw,e1,e2,e3,e4,w1,w2,w3,s1,s2,hz,hz2,ne_eq,not_false_eq_true]
   ·have hk':¬((i+1+(iB l i - 1):Nat):Int)<l.length:=by omega
    simp -implicitDefEqProofs only [aq,ain,aio,aip,hk']
  ·have hm0:¬m<0+1:=by omega
   rw [if_neg hm0]
  ·simp -implicitDefEqProofs only [aq,ain,aio,aip,hw]
 ·have:¬(l.length:Int)<l.length:=by omega
  simp -implicitDefEqProofs only [aq,ain,aio,aip,this]
 ·simp -implicitDefEqProofs only [aq,ain,aio,aip]
theorem sK (l:List Int) (h:l.length≤1000000):ia [ai l]=some (.ret [B (eW l)] []):=by
 rw [Pc];simp -implicitDefEqProofs only [aq,ain,aio,aip];have h1:=bB (l.length:Int) 1 40;refine aG _ (pX l (fun i=>[ai l,ai l,I l.length,I i]) (fun _ n=>decide (-500≤n∧n≤500)) (.ret [B false] []) (.ext 0 [ai l]) (fun i hi=>?_) ?_ rfl rfl rfl) ?_
 ·have hil:(i:Int)<l.length:=by omega
  have hw:aiq.wrap ((i:Int)+1)=((i+1:Nat):Int):=by rw [ah (by omega) (by omega)];omega
  have e1:=pW hi;have ho:rj [I l[i]]=some (.ret [B (decide (-500≤l[i]∧l[i]≤500))] []):=by
   rw [SO];have:=bB l[i] (-500) 500;simp -implicitDefEqProofs only [aq,ain,aio,aip,this]
  by_cases hc : -500≤l[i]∧l[i]≤500
  ·simp -implicitDefEqProofs only [aq,ain,aio,aip,hil,e1,ho,hc,hw]
  ·simp -implicitDefEqProofs only [aq,ain,aio,aip,hil,e1,ho,hc,hw]
 ·have:¬(l.length:Int)<l.length:=by omega
  simp -implicitDefEqProofs only [aq,ain,aio,aip,this]
 ·rw [uZ]
  unfold eW;by_cases hc:(1:Int)≤l.length∧(l.length:Int)≤40
  ·rw [decide_eq_true (show 1≤l.length∧l.length≤40 by omega),ajf]
   cases hq:l.all fun n=>decide (-500≤n∧n≤500)<;>simp -implicitDefEqProofs only [aq,ain,aio,aip,h1,hc,sI]
  ·rw [decide_eq_false (show ¬(1≤l.length∧l.length≤40) by omega),ajI]
   cases hq:l.all fun n=>decide (-500≤n∧n≤500)<;>simp -implicitDefEqProofs only [aq,ain,aio,aip,h1,hc,sI]
theorem Hi (l:List Int) (i:Nat) (s:Int) (hs:s=1∨s = -1) (hi:i<l.length) (h:l.length≤40) (hr:∀n∈l,-500≤n∧n≤500):nO [ai l,I (i:Int),I s]=some (.ret [I (eN s (l.drop i):Nat)] []):=by
 rw [SK];have hrp:=rq s (l.drop i);have hrl:=Tw s (l.drop i) (fun e=>by have:=congrArg ajB e;simp at this;omega);rw [aiw] at hrl;refine aG (.ext 0 [I (eN s (l.drop i):Nat)]) (aY (eN s (l.drop i) - 1) (fun j=>[ai l,I (i:Int),I s,I ((j+1:Nat):Int)]) _ (fun j hj=>?_) ?_ rfl rfl) ?_
 ·have hk:i+(j+1)<l.length:=by omega
  have hk':((i+(j+1):Nat):Int)<l.length:=by omega
  have w0:aiq.wrap ((i:Int)+((j+1:Nat):Int))=((i+(j+1):Nat):Int):=by rw [ah (by omega) (by omega)];omega
  have w3:aiq.wrap (((i+(j+1):Nat):Int) - 1)=((i+j:Nat):Int):=by rw [ah (by omega) (by omega)];omega
  have w5:aiq.wrap (((j+1:Nat):Int)+1)=((j+1+1:Nat):Int):=by rw [ah (by omega) (by omega)];omega
  have e3:=pW hk;have e4:=pW (l:=l) (i:=i+j) (by omega);have r3:=hr _ (ais hk);have r4:=hr _ (ais (show i+j<l.length by omega));have hp:=Nd s (l.drop i) j (by rw [aiw];omega) (by omega);simp only [aiR] at hp;generalize l[i+(j+1)]=v3 at *;generalize l[i+j]=v4 at *;have w2:aiq.wrap (v3 - v4)=v3 - v4:=ah (by omega) (by omega);have w6:aiq.wrap (s*(v3 - v4))=s*(v3 - v4):=by rcases hs with rfl | rfl<;>exact ah (by omega) (by omega)
  simp -implicitDefEqProofs only [aq,ain,aio,aip,w0,hk',e3,e4,w3,w2,w6,hp,w5]
 ·rw [show eN s (l.drop i) - 1+1=eN s (l.drop i) by omega]
  have hat:=UA s (l.drop i);by_cases hk:i+eN s (l.drop i)<l.length
  ·have ha:=hat (by rw [aiw];omega)
   have hk':((i+eN s (l.drop i):Nat):Int)<l.length:=by omega
   have w0:aiq.wrap ((i:Int)+(eN s (l.drop i):Nat))=((i+eN s (l.drop i):Nat):Int):=by rw [ah (by omega) (by omega)];omega
   have w3:aiq.wrap (((i+eN s (l.drop i):Nat):Int) - 1)=((i+(eN s (l.drop i) - 1):Nat):Int):=by rw [ah (by omega) (by omega)];omega
   have e3:=pW hk;have e4:=pW (l:=l) (i:=i+(eN s (l.drop i) - 1)) (by omega);have r3:=hr _ (ais hk);have r4:=hr _ (ais (show i+(eN s (l.drop i) - 1)<l.length by omega));simp only [aiR] at ha;generalize l[i+eN s (l.drop i)]=v3 at *;generalize l[i+(eN s (l.drop i) - 1)]=v4 at *;have w2:aiq.wrap (v3 - v4)=v3 - v4:=ah (by omega) (by omega);have w6:aiq.wrap (s*(v3 - v4))=s*(v3 - v4):=by rcases hs with rfl | rfl<;>exact ah (by omega) (by omega)
   simp -implicitDefEqProofs only [aq,ain,aio,aip,w0,hk',e3,e4,w3,w2,w6,ha]
  ·have hk':¬((i+eN s (l.drop i):Nat):Int)<l.length:=by omega
   have w0:aiq.wrap ((i:Int)+(eN s (l.drop i):Nat))=((i+eN s (l.drop i):Nat):Int):=by rw [ah (by omega) (by omega)];omega
   simp -implicitDefEqProofs only [aq,ain,aio,aip,w0,hk']
 ·simp -implicitDefEqProofs only [aq,ain,aio,aip]
theorem Cr (l:List Int) (h:l.length≤1000000):gW [ai l]=some (.ret [I (if eW l=true then((KZ l l.length).1:Int) else 0),I (if eW l=true then((KZ l l.length).2:Int) else 0),B (eW l)] []):=by
 rw [Ct];have hg:=sK l (by omega);by_cases hc:eW l=true
 case neg =>
  have hc':eW l=false:=by simpa using hc
  simp -implicitDefEqProofs only [aq,ain,aio,aip,hg,hc']
 have hgd:=hc;unfold eW at hgd;simp only [aiZ,decide_eq_true_eq,ajE] at hgd;obtain⟨⟨hl0,hl1⟩,hr⟩:=hgd;simp -implicitDefEqProofs only [aq,ain,aio,aip,hg,hc];refine aG (.ext 0 [I ((KZ l l.length).1:Int),I ((KZ l l.length).2:Int)]) (aY l.length (fun i=>[ai l,I ((KZ l i).1:Int),I ((KZ l i).2:Int),I l.length,I (i:Int)]) _ (fun i hi=>?_) ?_ rfl rfl) ?_
 ·have hil:(i:Int)<l.length:=by omega
  have hw:aiq.wrap ((i:Int)+1)=((i+1:Nat):Int):=by rw [ah (by omega) (by omega)];omega
  have d1:=Hi l i 1 (.inl rfl) hi hl1 hr;have d2:=Hi l i (-1) (.inr rfl) hi hl1 hr;have hmx:Tq (I (eN 1 (l.drop i):Nat)) (I (eN (-1) (l.drop i):Nat))=some (I (iB l i:Nat)):=by
   unfold iB;simp [Tq];omega
  rw [Jj];generalize KZ l i=p;obtain⟨b,m⟩:=p;unfold OQ;dsimp only;by_cases hm:m<iB l i
  ·have hm':(m:Int)<(iB l i:Nat):=by omega
   simp -implicitDefEqProofs only [aq,ain,aio,aip,hil,d1,d2,hmx,hm,hm',hw]
  ·have hm':¬(m:Int)<(iB l i:Nat):=by omega
   simp -implicitDefEqProofs only [aq,ain,aio,aip,hil,d1,d2,hmx,hm,hm',hw]
 ·have:¬(l.length:Int)<l.length:=by omega
  simp -implicitDefEqProofs only [aq,ain,aio,aip,this]
 ·simp -implicitDefEqProofs only [aq,ain,aio,aip]
theorem ni {n:Int} (h0 : -1000000000000000000<n) (h1:n<1000000000000000000):fB [I n]=some (.ret [T (aI n)] []):=by
 rw [TC];by_cases hn:n<0
 ·have e1:=bT (n:=-n) (by omega) (by omega)
  have hw:aiq.wrap (-n) = -n:=ah (by omega) (by omega);have hsz:=bY 17 (n:=-n) (by omega) (by omega);have ha:bin ajx false [] (D.v (aik {data:={toList:=[45]}})) (T (aI (-n)))=some (T (aI n)):=by
   rw [show(D.v (aik {data:={toList:=[45]}}))=T ⟨#[45]⟩ from rfl,fY,if_pos (by rw [sz1];omega)];congr 3
   apply bN;have e:=uW (n:=-n) (by omega);rw [Int.neg_neg] at e;rw [e,be];rfl
  have hu:un UnOp.neg (I n)=some (I (-n)):=by
   rw [SN,hw]
  simp -implicitDefEqProofs only [aq,ain,aio,aip,hn,hu,e1,ha]
 ·have e1:=bT (n:=n) (by omega) (by omega)
  simp -implicitDefEqProofs only [aq,ain,aio,aip,hn,e1]
theorem XZ (c:UInt8) (l:List Int) (i:Nat) (h:i<l.length) (h0:0<i):cf c (l.take (i+1))=cf c (l.take i)++⟨#[c]⟩++aI l[i]:=by
 apply bN;rw [be,be,cC,cC,aiA h,aja,List.map_singleton,EM]
 ·simp [ac]
 ·intro e
  rw [List.map_eq_nil_iff,List.take_eq_nil_iff] at e;rcases e with e | e
  ·omega
  ·rw [e] at h
   simp at h
theorem uN (l:List Int) (h:l.length≤1000000) (hr:afc l) (hr2:∀n∈l,-1000000000000000000<n∧n<1000000000000000000):jn [ai l]=some (.ret [T (cf 32 l)] []):=by
 rw [QL];simp -implicitDefEqProofs only [aq,ain,aio,aip];refine aG (.ext 0 [T (cf 32 l)]) (aY l.length (fun i=>[T (cf 32 (l.take i)),ai l,I l.length,I (i:Int)]) _ (fun i hi=>?_) ?_ rfl rfl) ?_
 ·have hil:(i:Int)<l.length:=by omega
  have hw:aiq.wrap ((i:Int)+1)=((i+1:Nat):Int):=by rw [ah (by omega) (by omega)];omega
  have e1:=pW hi;have hx:=hr2 _ (ais hi);have e2:=ni hx.1 hx.2;have z1:(cf 32 (l.take i)).size≤21000000:=by
   have:=oP (c:=32) (ns:=l.take i) fun n hn=>hr n (ajt hn)
   rw [aiV] at this;omega
  have z2:(aI l[i]).size≤21:=by
   have:=oP (c:=32) (ns:=[l[i]]) fun n hn=>by
    rw [List.mem_singleton] at hn;subst hn;exact hr _ (ais hi)
   rw [Jo] at this;simpa using this
  by_cases h0:0<i
  ·have h0':(0:Int)<i:=by omega
   have a1:bin ajx false [] (T (cf 32 (l.take i))) (D.v (aik {data:={toList:=[32]}}))=some (T (cf 32 (l.take i)++⟨#[32]⟩)):=by
    rw [show(D.v (aik {data:={toList:=[32]}}))=T ⟨#[32]⟩ from rfl,fY,if_pos (by rw [sz1];omega)]
   have a2:bin ajx false [] (T (cf 32 (l.take i)++⟨#[32]⟩)) (T (aI l[i]))=some (T (cf 32 (l.take (i+1)))):=by
    rw [fY,if_pos (by rw [ajr,sz1];omega),XZ 32 l i hi h0]
   simp -implicitDefEqProofs only [aq,ain,aio,aip,hil,e1,h0',a1,e2,a2,hw]
  ·obtain rfl:i=0:=by omega
   have a1:bin ajx false [] (T (cf 32 (l.take 0))) (T (aI l[0]))=some (T (cf 32 (l.take (0+1)))):=by
    rw [fY,if_pos (by omega)];congr 3
    apply bN;rw [be,cC,cC,aiA hi];rfl
   have hil':(0:Int)<l.length:=by omega
   have e1':ao 1 (ai l) (I 0)=some [I l[0]]:=e1;have hw':aiq.wrap ((0:Int)+1)=((0+1:Nat):Int):=by decide
   have h00:((0:Nat):Int)=0:=rfl;simp -implicitDefEqProofs only [aq,ain,aio,aip,hil',h00,e1',e2,a1,hw']
 ·rw [aiN]
  have:¬(l.length:Int)<l.length:=by omega
  simp -implicitDefEqProofs only [aq,ain,aio,aip,this]
 ·simp -implicitDefEqProofs only [aq,ain,aio,aip]
theorem aeh (w:ByteArray) : -1≤cb w:=by
 unfold cb DG;split<;>omega
theorem ahP {v b:D} (h:v.isV=true):ax (D.tup [v,b]) 0=some v:=by cases v<;>first | rfl | cases h
theorem ahT {v b:D} (h:b.isV=true):ax (D.tup [v,b]) 1=some b:=by cases b<;>first | rfl | cases h
theorem KU (w:ByteArray) (h:w.size≤4294967296):∃v:Int,lR [T w]=some (.ret [I v,B (Bl w).isSome] [])∧∀x,Bl w=some x→v=x:=by
 rw [KP,←afG];by_cases hz:1<w.size
 ·have hz':(1:Int)<w.size:=by omega
  have hlen:0<(ac w).length:=by
   have:w.size=(ac w).length:=rfl;omega
  have hch0:hZ (T w) (I 0)=some (U ((ac w)[0].toNat:Int)):=by
   have:=kI (s:=w) (k:=.i64) (i:=0);rw [aix hlen] at this;exact this
  have hhd:(ac w).head?=some (ac w)[0]:=by
   rw [List.head?_eq_getElem?,aix hlen]
  by_cases h5:(ac w)[0]=45
  ·have h5':((ac w)[0].toNat:Int)=45:=by rw [h5];rfl
   have hs:KS w=if 0<cb (w.extract 1 w.size) then some (-cb (w.extract 1 w.size)) else none:=by
    unfold KS;rw [if_pos ⟨hz,by rw [hhd,h5]⟩]
   have hr:=fH (w.extract 1 w.size) (by simp;omega);have hx:cQ true 0 (T w) (I 1)=some (T (w.extract 1 w.size)):=GV (z:=0) (i:=1) (by omega);have hlt:=Mv (w.extract 1 w.size);have hge : -1≤cb (w.extract 1 w.size):=aeh _;rw [hs];generalize cb (w.extract 1 w.size)=v at *;have hu:un UnOp.neg (I v)=some (I (-v)):=by rw [SN,ah (by omega) (by omega)]
   refine⟨-v,?_,fun x hx=>?_⟩
   ·by_cases hv:0<v<;>simp -implicitDefEqProofs only [aq,ain,aio,aip,hz',hch0,h5',hx,hr,hu,hv,aiy,aiu]
   ·split at hx
    ·cases hx;rfl
    ·cases hx
  ·have h5':¬((ac w)[0].toNat:Int)=45:=fun e=>h5 (UInt8.toNat_inj.1 (by have e2:(45:UInt8).toNat=45:=rfl;omega))
   have hs:KS w=if 0≤cb w then some (cb w) else none:=by
    unfold KS;rw [if_neg (fun e=>h5 (by rw [hhd] at e;exact Option.some.inj e.2))]
   have hr:=fH w h;rw [hs];generalize cb w=v at *;refine⟨v,?_,fun x hx=>?_⟩
   ·by_cases hv:0≤v<;>simp -implicitDefEqProofs only [aq,ain,aio,aip,hz',hch0,h5',hr,hv,aiy,aiu]
   ·split at hx
    ·cases hx;rfl
    ·cases hx
 ·have hz':¬(1:Int)<w.size:=by omega
  have hs:KS w=if 0≤cb w then some (cb w) else none:=by
   unfold KS;rw [if_neg (fun e=>hz e.1)]
  have hr:=fH w h;rw [hs];generalize cb w=v at *;refine⟨v,?_,fun x hx=>?_⟩
  ·by_cases hv:0≤v<;>simp -implicitDefEqProofs only [aq,ain,aio,aip,hz',hr,hv,aiy,aiu]
  ·split at hx
   ·cases hx;rfl
   ·cases hx
theorem OM:∀(a:List ByteArray) (w:ByteArray) (r:List Int),cG a=some r→cG (a++[w])=(Bl w).map fun v=>r++[v]
 | [],w,r,h=>by
  cases h;simp only [ajl,cG];cases Bl w<;>rfl
 | x::a,w,r,h=>by
  simp only [cG,aiF,aiX] at h;obtain⟨v,h1,m,h2,rfl⟩:=h;simp only [aiM,cG,h1,aiH,OM a w m h2];cases Bl w<;>rfl
theorem XM {ws:List ByteArray} {i:Nat} (hn:cG (ws.take (i+1))=none):cG ws=none:=by
 have key:∀(a b:List ByteArray),cG a=none→cG (a++b)=none:=by
  intro a;induction a with
  | nil=>intro b h;cases h
  | cons x a ih =>
   intro b h;simp only [cG] at h;simp only [aiM,cG];cases hx:Bl x with
   | none=>rfl
   | some v =>
    rw [hx] at h;simp only [aiH,Option.map_eq_none_iff] at h;simp [ih b h]
 rw [←ajp (i+1) ws];exact key _ _ hn
theorem Ri (ws:List ByteArray) (n:Int) (h:ws.length≤1000000) (hz:∀w∈ws,w.size≤4294967296):pu [txs ws,I n]=some (match cG ws with | some r=>.ret [ai r,B (decide ((ws.length:Int)=n))] [] | none=>.ret [ai [],B false] []):=by
 rw [QR];simp -implicitDefEqProofs only [aq,ain,aio,aip];refine bH (fun r=>r=_) (fun(i:Nat)=>[I n,ai ((cG (ws.take i)).getD []),txs ws,I ws.length,I (i:Int)]) (fun i=>i≤ws.length∧(cG (ws.take i)).isSome=true) (fun i=>ws.length - i)
  (fun o=>(o = .ext 0 [I n,ai ((cG ws).getD [])]∧(cG ws).isSome=true)∨(o = .ret [ai [],B false] []∧cG ws=none)) (fun i hi=>?_) 0 ⟨aiW _,rfl⟩ rfl ?_
 ·obtain⟨hi1,hi2⟩:=hi
  by_cases hp:i<ws.length
  ·have hil:(i:Int)<ws.length:=by omega
   have hw:aiq.wrap ((i:Int)+1)=((i+1:Nat):Int):=by rw [ah (by omega) (by omega)];omega
   have hel:ao 1 (txs ws) (I (i:Int))=some [T ws[i]]:=by simp [hp]
   obtain⟨v,hv,hv2⟩:=KU ws[i] (hz _ (ais hp));obtain⟨r,hr⟩:=ai5.1 hi2;have hsn:=OM (ws.take i) ws[i] r hr;rw [←aiA hp] at hsn;have hrl:=(mP _ _ hr).1;rw [aiV] at hrl;cases hq:Bl ws[i] with
   | none =>
    rw [hq] at hv hsn
    right
    refine⟨.ret [ai [],B false] [],?_,rfl,.inr ⟨rfl,XM hsn⟩⟩
    have q0:∀b,ax (D.tup [I v,b]) 0=some (I v):=fun b=>ahP rfl
    have q1:∀a b,ax (D.tup [a,B b]) 1=some (B b):=fun a b=>ahT rfl
    simp -implicitDefEqProofs only [aq,ain,aio,aip,hil,hel,hv,aiu,q0,q1];rfl
   | some x =>
    rw [hq] at hv hsn;have hvx:=hv2 x hq;subst hvx
    left
    have hm:aB 1 [I v]=some (.arr 1 [I v]):=rfl;have hck:cT (.arr 1 [I v])=some (.arr 1 [I v]):=kw [v];have ha:bC 1 8 (ai r) (.arr 1 [I v])=some (ai (r++[v])):=eJ (m:=[v]) (by simp;omega);refine⟨i+1,?_,⟨hp,by rw [hsn];rfl⟩,by omega⟩
    rw [hsn,hr];have q0:∀b,ax (D.tup [I v,b]) 0=some (I v):=fun b=>ahP rfl
    have q1:∀a b,ax (D.tup [a,B b]) 1=some (B b):=fun a b=>ahT rfl
    simp -implicitDefEqProofs only [aq,ain,aio,aip,hil,hel,hv,aiy,q0,q1,hm,hck,ha,hw,ai8]
  ·have hil:¬(i:Int)<ws.length:=by omega
   obtain rfl:i=ws.length:=by omega
   right
   rw [aiN] at hi2 ⊢;refine⟨_,?_,?_,.inl ⟨rfl,hi2⟩⟩
   ·simp -implicitDefEqProofs only [aq,ain,aio,aip,hil]
   ·rfl
 ·rintro o (⟨rfl,ho⟩ | ⟨rfl,ho⟩)
  ·obtain⟨r,hr⟩:=ai5.1 ho
   have hrl:=(mP _ _ hr).1;rw [hr];simp -implicitDefEqProofs only [aq,ain,aio,aip,ai8,hrl]
  ·rw [ho]
   simp -implicitDefEqProofs only [aq,ain,aio,aip,sI]
theorem DJ (s:ByteArray) (b:Bool):cv [T s,B b]=some (.ret [T (if b=true then s else⟨#[110,111]⟩)] []):=by
 rw [PV];cases b<;>simp -implicitDefEqProofs only [aq,ain,aio,aip]
theorem ac7:br [T kV]=some (.ret [I (shN kV)] []):=by
 rw [bI];kernel_rfl
theorem abF:br [T km]=some (.ret [I (shN km)] []):=by
 rw [bI];kernel_rfl
theorem ac8:br [T ef]=some (.ret [I (shN ef)] []):=by
 rw [bI];kernel_rfl
theorem XN:br [T bU]=some (.ret [I (shN bU)] []):=by
 rw [bI];kernel_rfl
theorem aaE:br [T fD]=some (.ret [I (shN fD)] []):=by
 rw [bI];kernel_rfl
theorem ace:br [T dO]=some (.ret [I (shN dO)] []):=by
 rw [bI];kernel_rfl
theorem afC:br [T gO]=some (.ret [I (shN gO)] []):=by
 rw [bI];kernel_rfl
theorem UX:br [T bA]=some (.ret [I (shN bA)] []):=by
 rw [bI];kernel_rfl
theorem aem:br [T ky]=some (.ret [I (shN ky)] []):=by
 rw [bI];kernel_rfl
theorem YH:br [T bV]=some (.ret [I (shN bV)] []):=by
 rw [bI];kernel_rfl
theorem abb:br [T cH]=some (.ret [I (shN cH)] []):=by
 rw [bI];kernel_rfl
theorem acr:br [T eQ]=some (.ret [I (shN eQ)] []):=by
 rw [bI];kernel_rfl
theorem aaQ:br [T cF]=some (.ret [I (shN cF)] []):=by
 rw [bI];kernel_rfl
theorem aa6:br [T cA]=some (.ret [I (shN cA)] []):=by
 rw [bI];kernel_rfl
theorem adF:br [T ep]=some (.ret [I (shN ep)] []):=by
 rw [bI];kernel_rfl
theorem XS:br [T bM]=some (.ret [I (shN bM)] []):=by
 rw [bI];kernel_rfl
set_option maxRecDepth 1000000 in
set_option maxHeartbeats 4000000 in
theorem Mp (w:ByteArray):br [T w]=some (.ret [I (shN w)] []):=by
 by_cases h_wMelt:w=kV
 ·rw [h_wMelt];exact ac7
 by_cases h_wJoin:w=km
 ·rw [h_wJoin];exact abF
 by_cases h_wTake:w=ef
 ·rw [h_wTake];exact ac8
 by_cases h_wShares:w=bU
 ·rw [h_wShares];exact XN
 by_cases h_wStock:w=fD
 ·rw [h_wStock];exact aaE
 by_cases h_wRule:w=dO
 ·rw [h_wRule];exact ace
 by_cases h_wCut:w=gO
 ·rw [h_wCut];exact afC
 by_cases h_wMissing:w=bA
 ·rw [h_wMissing];exact UX
 by_cases h_wOff:w=ky
 ·rw [h_wOff];exact aem
 by_cases h_wMedian:w=bV
 ·rw [h_wMedian];exact YH
 by_cases h_wDrift:w=cH
 ·rw [h_wDrift];exact abb
 by_cases h_wNote:w=eQ
 ·rw [h_wNote];exact acr
 by_cases h_wMetal:w=cF
 ·rw [h_wMetal];exact aaQ
 by_cases h_wLeast:w=cA
 ·rw [h_wLeast];exact aa6
 by_cases h_wFold:w=ep
 ·rw [h_wFold];exact adF
 by_cases h_wScheme:w=bM
 ·rw [h_wScheme];exact XS
 have hs:shN w = -2:=by
  unfold shN;simp only [h_wMelt,h_wJoin,h_wTake,h_wShares,h_wStock,h_wRule,h_wCut,h_wMissing,h_wOff,h_wMedian,h_wDrift,h_wNote,h_wMetal,h_wLeast,h_wFold,h_wScheme,or_self,if_false]
 have b_wMelt:bin ail false [] (T w) (D.v (aik {data:={toList:=[109,101,108,116]}}))=some (B false):=by rw [af,decide_eq_false h_wMelt]
 have b_wJoin:bin ail false [] (T w) (D.v (aik {data:={toList:=[106,111,105,110]}}))=some (B false):=by rw [af,decide_eq_false h_wJoin]
 have b_wTake:bin ail false [] (T w) (D.v (aik {data:={toList:=[116,97,107,101]}}))=some (B false):=by rw [af,decide_eq_false h_wTake]
 have b_wShares:bin ail false [] (T w) (D.v (aik {data:={toList:=[115,104,97,114,101,115]}}))=some (B false):=by rw [af,decide_eq_false h_wShares]
 have b_wStock:bin ail false [] (T w) (D.v (aik {data:={toList:=[115,116,111,99,107]}}))=some (B false):=by rw [af,decide_eq_false h_wStock]
 have b_wRule:bin ail false [] (T w) (D.v (aik {data:={toList:=[114,117,108,101]}}))=some (B false):=by rw [af,decide_eq_false h_wRule]
 have b_wCut:bin ail false [] (T w) (D.v (aik {data:={toList:=[99,117,116]}}))=some (B false):=by rw [af,decide_eq_false h_wCut]
 have b_wMissing:bin ail false [] (T w) (D.v (aik {data:={toList:=[109,105,115,115,105,110,103]}}))=some (B false):=by rw [af,decide_eq_false h_wMissing]
 have b_wOff:bin ail false [] (T w) (D.v (aik {data:={toList:=[111,102,102]}}))=some (B false):=by rw [af,decide_eq_false h_wOff]
 have b_wMedian:bin ail false [] (T w) (D.v (aik {data:={toList:=[109,101,100,105,97,110]}}))=some (B false):=by rw [af,decide_eq_false h_wMedian]
 have b_wDrift:bin ail false [] (T w) (D.v (aik {data:={toList:=[100,114,105,102,116]}}))=some (B false):=by rw [af,decide_eq_false h_wDrift]
 have b_wNote:bin ail false [] (T w) (D.v (aik {data:={toList:=[110,111,116,101]}}))=some (B false):=by rw [af,decide_eq_false h_wNote]
 have b_wMetal:bin ail false [] (T w) (D.v (aik {data:={toList:=[109,101,116,97,108]}}))=some (B false):=by rw [af,decide_eq_false h_wMetal]
 have b_wLeast:bin ail false [] (T w) (D.v (aik {data:={toList:=[108,101,97,115,116]}}))=some (B false):=by rw [af,decide_eq_false h_wLeast]
 have b_wFold:bin ail false [] (T w) (D.v (aik {data:={toList:=[102,111,108,100]}}))=some (B false):=by rw [af,decide_eq_false h_wFold]
 have b_wScheme:bin ail false [] (T w) (D.v (aik {data:={toList:=[115,99,104,101,109,101]}}))=some (B false):=by rw [af,decide_eq_false h_wScheme]
 rw [hs,bI];simp -implicitDefEqProofs only [ga,ak,aF,b_wMelt,b_wJoin,b_wTake,b_wShares,b_wStock,b_wRule,b_wCut,b_wMissing,b_wOff,b_wMedian,b_wDrift,b_wNote,b_wMetal,b_wLeast,b_wFold,b_wScheme,aiH,aH,ajd,if_false]
structure Cn where
 m:Me
 s:List Slp
 t:List Int
 j:ByteArray
 f:List Fo
abbrev fo (x:Fo):D:=.agg [I x.1,B x.2]
abbrev fos (l:List Fo):D:=.arr 2 (l.map fo)
def cnD (c:Cn) (x y:Value) (n:Int):D:=.agg [I c.m.1,I c.m.2.1,I c.m.2.2,sls c.s,ai c.t,T c.j,fos c.f,.raw x,.raw y,I n]
section
variable (c:Cn) (x y:Value) (n:Int)
theorem bR:aa (cnD c x y n) (D.ref 0 0)=some (D.ref 0 0):=rfl
theorem ci:aa (cnD c x y n) (cnD c x y n)=some (cnD c x y n):=rfl
theorem jR:cP (D.ref 0 0) (cnD c x y n)=some (cnD c x y n):=rfl
theorem Zl:((atD (cnD c x y n) (.ref 0 0)).bind (an true 3)).bind aL=some (me c.m):=rfl
theorem aaa:(atD (cnD c x y n) (.ref 0 3)).bind (an false 1)=some (sls c.s):=rfl
theorem acQ:(atD (cnD c x y n) (.ref 0 4)).bind (an false 1)=some (ai c.t):=rfl
theorem abP:((atD (cnD c x y n) (.ref 0 5)).bind (an false 1)).bind aL=some (T c.j):=rfl
theorem afJ:(atD (cnD c x y n) (.ref 0 6)).bind (an false 1)=some (fos c.f):=rfl
theorem Wu (m:Me):stD 3 (cnD c x y n) (.ref 0 0) (me m)=some (cnD {c with m:=m} x y n):=rfl
theorem adV (s:List Slp):stD 1 (cnD c x y n) (.ref 0 3) (sls s)=some (cnD {c with s:=s} x y n):=rfl
theorem aho (t:List Int):stD 1 (cnD c x y n) (.ref 0 4) (ai t)=some (cnD {c with t:=t} x y n):=rfl
theorem ahy (j:ByteArray):stD 1 (cnD c x y n) (.ref 0 5) (T j)=some (cnD {c with j:=j} x y n):=rfl
theorem ahZ (f:List Fo):stD 1 (cnD c x y n) (.ref 0 6) (fos f)=some (cnD {c with f:=f} x y n):=rfl
end
theorem bm (k:Nat):aR k (D.ref 0 0)=some (D.ref 0 k):=by
 show some (D.ref 0 (0+k))=_
 rw [Nat.zero_add]
theorem aT (i f:Nat):aa (D.ref i f) (D.ref i f)=some (D.ref i f):=rfl
end Go.Proofs.YtjafgdefcggjcaaGreatDoor

namespace Go.Proofs.YtjafgdefcggjcaaGreatDoor
open Go Go.V
theorem Ke:bin ail false [] (T kV) (D.v (aik {data:={toList:=[109,101,108,116]}}))=some (B true):=by rw [af];rfl
theorem Vv:bin ail false [] (T kV) (D.v (aik {data:={toList:=[106,111,105,110]}}))=some (B false):=by rw [af];rfl
theorem UG:bin ail false [] (T kV) (D.v (aik {data:={toList:=[115,116,111,99,107]}}))=some (B false):=by rw [af];rfl
theorem tY:bin ail false [] (T km) (D.v (aik {data:={toList:=[109,101,108,116]}}))=some (B false):=by rw [af];rfl
theorem tC:bin ail false [] (T km) (D.v (aik {data:={toList:=[106,111,105,110]}}))=some (B true):=by rw [af];rfl
theorem wP:bin ail false [] (T km) (D.v (aik {data:={toList:=[115,116,111,99,107]}}))=some (B false):=by rw [af];rfl
theorem WS:bin ail false [] (T ef) (D.v (aik {data:={toList:=[109,101,108,116]}}))=some (B false):=by rw [af];rfl
theorem VG:bin ail false [] (T ef) (D.v (aik {data:={toList:=[106,111,105,110]}}))=some (B false):=by rw [af];rfl
theorem AQ:bin ail false [] (T ef) (D.v (aik {data:={toList:=[116,97,107,101]}}))=some (B true):=by rw [af];rfl
theorem QT:bin ail false [] (T ef) (D.v (aik {data:={toList:=[115,104,97,114,101,115]}}))=some (B false):=by rw [af];rfl
theorem WY:bin ail false [] (T ef) (D.v (aik {data:={toList:=[114,117,108,101]}}))=some (B false):=by rw [af];rfl
theorem XG:bin ail false [] (T ef) (D.v (aik {data:={toList:=[99,117,116]}}))=some (B false):=by rw [af];rfl
theorem NK:bin ail false [] (T ef) (D.v (aik {data:={toList:=[109,105,115,115,105,110,103]}}))=some (B false):=by rw [af];rfl
theorem Rb:bin ail false [] (T bU) (D.v (aik {data:={toList:=[109,101,108,116]}}))=some (B false):=by rw [af];rfl
theorem Px:bin ail false [] (T bU) (D.v (aik {data:={toList:=[106,111,105,110]}}))=some (B false):=by rw [af];rfl
theorem uM:bin ail false [] (T bU) (D.v (aik {data:={toList:=[116,97,107,101]}}))=some (B false):=by rw [af];rfl
theorem lV:bin ail false [] (T bU) (D.v (aik {data:={toList:=[115,104,97,114,101,115]}}))=some (B true):=by rw [af];rfl
theorem MQ:bin ail false [] (T bU) (D.v (aik {data:={toList:=[115,116,111,99,107]}}))=some (B false):=by rw [af];rfl
theorem DD:bin ail false [] (T bU) (D.v (aik {data:={toList:=[114,117,108,101]}}))=some (B false):=by rw [af];rfl
theorem HJ:bin ail false [] (T bU) (D.v (aik {data:={toList:=[99,117,116]}}))=some (B false):=by rw [af];rfl
theorem Je:bin ail false [] (T bU) (D.v (aik {data:={toList:=[109,105,115,115,105,110,103]}}))=some (B false):=by rw [af];rfl
theorem SR:bin ail false [] (T bU) (D.v (aik {data:={toList:=[111,102,102]}}))=some (B false):=by rw [af];rfl
theorem PH:bin ail false [] (T bU) (D.v (aik {data:={toList:=[110,111,116,101]}}))=some (B false):=by rw [af];rfl
theorem PJ:bin ail false [] (T bU) (D.v (aik {data:={toList:=[102,111,108,100]}}))=some (B false):=by rw [af];rfl
theorem UE:bin ail false [] (T fD) (D.v (aik {data:={toList:=[109,101,108,116]}}))=some (B false):=by rw [af];rfl
theorem TM:bin ail false [] (T fD) (D.v (aik {data:={toList:=[106,111,105,110]}}))=some (B false):=by rw [af];rfl
theorem Tj:bin ail false [] (T fD) (D.v (aik {data:={toList:=[116,97,107,101]}}))=some (B false):=by rw [af];rfl
theorem DX:bin ail false [] (T fD) (D.v (aik {data:={toList:=[115,116,111,99,107]}}))=some (B true):=by rw [af];rfl
theorem Xe:bin ail false [] (T dO) (D.v (aik {data:={toList:=[109,101,108,116]}}))=some (B false):=by rw [af];rfl
theorem WV:bin ail false [] (T dO) (D.v (aik {data:={toList:=[106,111,105,110]}}))=some (B false):=by rw [af];rfl
theorem uc:bin ail false [] (T dO) (D.v (aik {data:={toList:=[116,97,107,101]}}))=some (B false):=by rw [af];rfl
theorem uS:bin ail false [] (T dO) (D.v (aik {data:={toList:=[115,104,97,114,101,115]}}))=some (B false):=by rw [af];rfl
theorem Ug:bin ail false [] (T dO) (D.v (aik {data:={toList:=[115,116,111,99,107]}}))=some (B false):=by rw [af];rfl
theorem ue:bin ail false [] (T dO) (D.v (aik {data:={toList:=[114,117,108,101]}}))=some (B true):=by rw [af];rfl
theorem XH:bin ail false [] (T dO) (D.v (aik {data:={toList:=[99,117,116]}}))=some (B false):=by rw [af];rfl
theorem OS:bin ail false [] (T dO) (D.v (aik {data:={toList:=[109,105,115,115,105,110,103]}}))=some (B false):=by rw [af];rfl
theorem XL:bin ail false [] (T gO) (D.v (aik {data:={toList:=[109,101,108,116]}}))=some (B false):=by rw [af];rfl
theorem YP:bin ail false [] (T gO) (D.v (aik {data:={toList:=[106,111,105,110]}}))=some (B false):=by rw [af];rfl
theorem Fv:bin ail false [] (T gO) (D.v (aik {data:={toList:=[116,97,107,101]}}))=some (B false):=by rw [af];rfl
theorem Gd:bin ail false [] (T gO) (D.v (aik {data:={toList:=[115,104,97,114,101,115]}}))=some (B false):=by rw [af];rfl
theorem Vh:bin ail false [] (T gO) (D.v (aik {data:={toList:=[115,116,111,99,107]}}))=some (B false):=by rw [af];rfl
theorem FC:bin ail false [] (T gO) (D.v (aik {data:={toList:=[114,117,108,101]}}))=some (B false):=by rw [af];rfl
theorem Jc:bin ail false [] (T gO) (D.v (aik {data:={toList:=[99,117,116]}}))=some (B true):=by rw [af];rfl
theorem QD:bin ail false [] (T gO) (D.v (aik {data:={toList:=[109,105,115,115,105,110,103]}}))=some (B false):=by rw [af];rfl
theorem MS:bin ail false [] (T bA) (D.v (aik {data:={toList:=[109,101,108,116]}}))=some (B false):=by rw [af];rfl
theorem Nk:bin ail false [] (T bA) (D.v (aik {data:={toList:=[106,111,105,110]}}))=some (B false):=by rw [af];rfl
theorem sw:bin ail false [] (T bA) (D.v (aik {data:={toList:=[116,97,107,101]}}))=some (B false):=by rw [af];rfl
theorem ov:bin ail false [] (T bA) (D.v (aik {data:={toList:=[115,104,97,114,101,115]}}))=some (B false):=by rw [af];rfl
theorem KR:bin ail false [] (T bA) (D.v (aik {data:={toList:=[115,116,111,99,107]}}))=some (B false):=by rw [af];rfl
theorem sX:bin ail false [] (T bA) (D.v (aik {data:={toList:=[114,117,108,101]}}))=some (B false):=by rw [af];rfl
theorem uu:bin ail false [] (T bA) (D.v (aik {data:={toList:=[99,117,116]}}))=some (B false):=by rw [af];rfl
theorem ug:bin ail false [] (T bA) (D.v (aik {data:={toList:=[109,105,115,115,105,110,103]}}))=some (B true):=by rw [af];rfl
theorem PC:bin ail false [] (T bA) (D.v (aik {data:={toList:=[111,102,102]}}))=some (B false):=by rw [af];rfl
theorem NR:bin ail false [] (T bA) (D.v (aik {data:={toList:=[110,111,116,101]}}))=some (B false):=by rw [af];rfl
theorem Nf:bin ail false [] (T bA) (D.v (aik {data:={toList:=[102,111,108,100]}}))=some (B false):=by rw [af];rfl
theorem Xs:bin ail false [] (T ky) (D.v (aik {data:={toList:=[109,101,108,116]}}))=some (B false):=by rw [af];rfl
theorem Yu:bin ail false [] (T ky) (D.v (aik {data:={toList:=[106,111,105,110]}}))=some (B false):=by rw [af];rfl
theorem NF:bin ail false [] (T ky) (D.v (aik {data:={toList:=[116,97,107,101]}}))=some (B false):=by rw [af];rfl
theorem TE:bin ail false [] (T ky) (D.v (aik {data:={toList:=[115,104,97,114,101,115]}}))=some (B false):=by rw [af];rfl
theorem Wn:bin ail false [] (T ky) (D.v (aik {data:={toList:=[115,116,111,99,107]}}))=some (B false):=by rw [af];rfl
theorem Nr:bin ail false [] (T ky) (D.v (aik {data:={toList:=[114,117,108,101]}}))=some (B false):=by rw [af];rfl
theorem RR:bin ail false [] (T ky) (D.v (aik {data:={toList:=[99,117,116]}}))=some (B false):=by rw [af];rfl
theorem PD:bin ail false [] (T ky) (D.v (aik {data:={toList:=[109,105,115,115,105,110,103]}}))=some (B false):=by rw [af];rfl
theorem RW:bin ail false [] (T ky) (D.v (aik {data:={toList:=[111,102,102]}}))=some (B true):=by rw [af];rfl
theorem Qx:bin ail false [] (T bV) (D.v (aik {data:={toList:=[109,101,108,116]}}))=some (B false):=by rw [af];rfl
theorem QX:bin ail false [] (T bV) (D.v (aik {data:={toList:=[106,111,105,110]}}))=some (B false):=by rw [af];rfl
theorem CS:bin ail false [] (T bV) (D.v (aik {data:={toList:=[116,97,107,101]}}))=some (B false):=by rw [af];rfl
theorem xK:bin ail false [] (T bV) (D.v (aik {data:={toList:=[115,104,97,114,101,115]}}))=some (B false):=by rw [af];rfl
theorem Mf:bin ail false [] (T bV) (D.v (aik {data:={toList:=[115,116,111,99,107]}}))=some (B false):=by rw [af];rfl
theorem Dm:bin ail false [] (T bV) (D.v (aik {data:={toList:=[114,117,108,101]}}))=some (B false):=by rw [af];rfl
theorem GP:bin ail false [] (T bV) (D.v (aik {data:={toList:=[99,117,116]}}))=some (B false):=by rw [af];rfl
theorem vb:bin ail false [] (T bV) (D.v (aik {data:={toList:=[109,105,115,115,105,110,103]}}))=some (B false):=by rw [af];rfl
theorem Hc:bin ail false [] (T bV) (D.v (aik {data:={toList:=[111,102,102]}}))=some (B false):=by rw [af];rfl
theorem ye:bin ail false [] (T bV) (D.v (aik {data:={toList:=[109,101,100,105,97,110]}}))=some (B true):=by rw [af];rfl
theorem Re:bin ail false [] (T bV) (D.v (aik {data:={toList:=[110,111,116,101]}}))=some (B false):=by rw [af];rfl
theorem Qp:bin ail false [] (T bV) (D.v (aik {data:={toList:=[102,111,108,100]}}))=some (B false):=by rw [af];rfl
theorem TG:bin ail false [] (T cH) (D.v (aik {data:={toList:=[109,101,108,116]}}))=some (B false):=by rw [af];rfl
theorem UH:bin ail false [] (T cH) (D.v (aik {data:={toList:=[106,111,105,110]}}))=some (B false):=by rw [af];rfl
theorem HV:bin ail false [] (T cH) (D.v (aik {data:={toList:=[116,97,107,101]}}))=some (B false):=by rw [af];rfl
theorem AM:bin ail false [] (T cH) (D.v (aik {data:={toList:=[115,104,97,114,101,115]}}))=some (B false):=by rw [af];rfl
theorem QA:bin ail false [] (T cH) (D.v (aik {data:={toList:=[115,116,111,99,107]}}))=some (B false):=by rw [af];rfl
theorem GI:bin ail false [] (T cH) (D.v (aik {data:={toList:=[114,117,108,101]}}))=some (B false):=by rw [af];rfl
theorem JZ:bin ail false [] (T cH) (D.v (aik {data:={toList:=[99,117,116]}}))=some (B false):=by rw [af];rfl
theorem xF:bin ail false [] (T cH) (D.v (aik {data:={toList:=[109,105,115,115,105,110,103]}}))=some (B false):=by rw [af];rfl
theorem Kf:bin ail false [] (T cH) (D.v (aik {data:={toList:=[111,102,102]}}))=some (B false):=by rw [af];rfl
theorem zP:bin ail false [] (T cH) (D.v (aik {data:={toList:=[109,101,100,105,97,110]}}))=some (B false):=by rw [af];rfl
theorem CZ:bin ail false [] (T cH) (D.v (aik {data:={toList:=[100,114,105,102,116]}}))=some (B true):=by rw [af];rfl
theorem Th:bin ail false [] (T cH) (D.v (aik {data:={toList:=[110,111,116,101]}}))=some (B false):=by rw [af];rfl
theorem Tf:bin ail false [] (T cH) (D.v (aik {data:={toList:=[102,111,108,100]}}))=some (B false):=by rw [af];rfl
theorem Xn:bin ail false [] (T eQ) (D.v (aik {data:={toList:=[109,101,108,116]}}))=some (B false):=by rw [af];rfl
theorem Xg:bin ail false [] (T eQ) (D.v (aik {data:={toList:=[106,111,105,110]}}))=some (B false):=by rw [af];rfl
theorem KC:bin ail false [] (T eQ) (D.v (aik {data:={toList:=[116,97,107,101]}}))=some (B false):=by rw [af];rfl
theorem Ra:bin ail false [] (T eQ) (D.v (aik {data:={toList:=[115,104,97,114,101,115]}}))=some (B false):=by rw [af];rfl
theorem Uq:bin ail false [] (T eQ) (D.v (aik {data:={toList:=[115,116,111,99,107]}}))=some (B false):=by rw [af];rfl
theorem KI:bin ail false [] (T eQ) (D.v (aik {data:={toList:=[114,117,108,101]}}))=some (B false):=by rw [af];rfl
theorem Pk:bin ail false [] (T eQ) (D.v (aik {data:={toList:=[99,117,116]}}))=some (B false):=by rw [af];rfl
theorem NP:bin ail false [] (T eQ) (D.v (aik {data:={toList:=[109,105,115,115,105,110,103]}}))=some (B false):=by rw [af];rfl
theorem NT:bin ail false [] (T eQ) (D.v (aik {data:={toList:=[111,102,102]}}))=some (B false):=by rw [af];rfl
theorem QO:bin ail false [] (T eQ) (D.v (aik {data:={toList:=[109,101,100,105,97,110]}}))=some (B false):=by rw [af];rfl
theorem Ue:bin ail false [] (T eQ) (D.v (aik {data:={toList:=[100,114,105,102,116]}}))=some (B false):=by rw [af];rfl
theorem Kl:bin ail false [] (T eQ) (D.v (aik {data:={toList:=[110,111,116,101]}}))=some (B true):=by rw [af];rfl
theorem Uy:bin ail false [] (T cF) (D.v (aik {data:={toList:=[109,101,108,116]}}))=some (B false):=by rw [af];rfl
theorem UI:bin ail false [] (T cF) (D.v (aik {data:={toList:=[106,111,105,110]}}))=some (B false):=by rw [af];rfl
theorem Ik:bin ail false [] (T cF) (D.v (aik {data:={toList:=[116,97,107,101]}}))=some (B false):=by rw [af];rfl
theorem AW:bin ail false [] (T cF) (D.v (aik {data:={toList:=[115,104,97,114,101,115]}}))=some (B false):=by rw [af];rfl
theorem PN:bin ail false [] (T cF) (D.v (aik {data:={toList:=[115,116,111,99,107]}}))=some (B false):=by rw [af];rfl
theorem Gh:bin ail false [] (T cF) (D.v (aik {data:={toList:=[114,117,108,101]}}))=some (B false):=by rw [af];rfl
theorem JY:bin ail false [] (T cF) (D.v (aik {data:={toList:=[99,117,116]}}))=some (B false):=by rw [af];rfl
theorem xX:bin ail false [] (T cF) (D.v (aik {data:={toList:=[109,105,115,115,105,110,103]}}))=some (B false):=by rw [af];rfl
theorem Kx:bin ail false [] (T cF) (D.v (aik {data:={toList:=[111,102,102]}}))=some (B false):=by rw [af];rfl
theorem zI:bin ail false [] (T cF) (D.v (aik {data:={toList:=[109,101,100,105,97,110]}}))=some (B false):=by rw [af];rfl
theorem Ei:bin ail false [] (T cF) (D.v (aik {data:={toList:=[100,114,105,102,116]}}))=some (B false):=by rw [af];rfl
theorem HP:bin ail false [] (T cF) (D.v (aik {data:={toList:=[110,111,116,101]}}))=some (B false):=by rw [af];rfl
theorem Ea:bin ail false [] (T cF) (D.v (aik {data:={toList:=[109,101,116,97,108]}}))=some (B true):=by rw [af];rfl
theorem Us:bin ail false [] (T cF) (D.v (aik {data:={toList:=[102,111,108,100]}}))=some (B false):=by rw [af];rfl
theorem UC:bin ail false [] (T cA) (D.v (aik {data:={toList:=[109,101,108,116]}}))=some (B false):=by rw [af];rfl
theorem Uw:bin ail false [] (T cA) (D.v (aik {data:={toList:=[106,111,105,110]}}))=some (B false):=by rw [af];rfl
theorem Hn:bin ail false [] (T cA) (D.v (aik {data:={toList:=[116,97,107,101]}}))=some (B false):=by rw [af];rfl
theorem zT:bin ail false [] (T cA) (D.v (aik {data:={toList:=[115,104,97,114,101,115]}}))=some (B false):=by rw [af];rfl
theorem PF:bin ail false [] (T cA) (D.v (aik {data:={toList:=[115,116,111,99,107]}}))=some (B false):=by rw [af];rfl
theorem FJ:bin ail false [] (T cA) (D.v (aik {data:={toList:=[114,117,108,101]}}))=some (B false):=by rw [af];rfl
theorem Kn:bin ail false [] (T cA) (D.v (aik {data:={toList:=[99,117,116]}}))=some (B false):=by rw [af];rfl
theorem xB:bin ail false [] (T cA) (D.v (aik {data:={toList:=[109,105,115,115,105,110,103]}}))=some (B false):=by rw [af];rfl
theorem Kc:bin ail false [] (T cA) (D.v (aik {data:={toList:=[111,102,102]}}))=some (B false):=by rw [af];rfl
theorem zZ:bin ail false [] (T cA) (D.v (aik {data:={toList:=[109,101,100,105,97,110]}}))=some (B false):=by rw [af];rfl
theorem Eh:bin ail false [] (T cA) (D.v (aik {data:={toList:=[100,114,105,102,116]}}))=some (B false):=by rw [af];rfl
theorem GD:bin ail false [] (T cA) (D.v (aik {data:={toList:=[110,111,116,101]}}))=some (B false):=by rw [af];rfl
theorem CV:bin ail false [] (T cA) (D.v (aik {data:={toList:=[109,101,116,97,108]}}))=some (B false):=by rw [af];rfl
theorem DV:bin ail false [] (T cA) (D.v (aik {data:={toList:=[108,101,97,115,116]}}))=some (B true):=by rw [af];rfl
theorem TD:bin ail false [] (T cA) (D.v (aik {data:={toList:=[102,111,108,100]}}))=some (B false):=by rw [af];rfl
theorem VI:bin ail false [] (T ep) (D.v (aik {data:={toList:=[109,101,108,116]}}))=some (B false):=by rw [af];rfl
theorem UR:bin ail false [] (T ep) (D.v (aik {data:={toList:=[106,111,105,110]}}))=some (B false):=by rw [af];rfl
theorem KG:bin ail false [] (T ep) (D.v (aik {data:={toList:=[116,97,107,101]}}))=some (B false):=by rw [af];rfl
theorem Qt:bin ail false [] (T ep) (D.v (aik {data:={toList:=[115,104,97,114,101,115]}}))=some (B false):=by rw [af];rfl
theorem TU:bin ail false [] (T ep) (D.v (aik {data:={toList:=[115,116,111,99,107]}}))=some (B false):=by rw [af];rfl
theorem Kq:bin ail false [] (T ep) (D.v (aik {data:={toList:=[114,117,108,101]}}))=some (B false):=by rw [af];rfl
theorem OH:bin ail false [] (T ep) (D.v (aik {data:={toList:=[99,117,116]}}))=some (B false):=by rw [af];rfl
theorem Od:bin ail false [] (T ep) (D.v (aik {data:={toList:=[109,105,115,115,105,110,103]}}))=some (B false):=by rw [af];rfl
theorem OZ:bin ail false [] (T ep) (D.v (aik {data:={toList:=[111,102,102]}}))=some (B false):=by rw [af];rfl
theorem QC:bin ail false [] (T ep) (D.v (aik {data:={toList:=[109,101,100,105,97,110]}}))=some (B false):=by rw [af];rfl
theorem UB:bin ail false [] (T ep) (D.v (aik {data:={toList:=[100,114,105,102,116]}}))=some (B false):=by rw [af];rfl
theorem KN:bin ail false [] (T ep) (D.v (aik {data:={toList:=[110,111,116,101]}}))=some (B false):=by rw [af];rfl
theorem TR:bin ail false [] (T ep) (D.v (aik {data:={toList:=[109,101,116,97,108]}}))=some (B false):=by rw [af];rfl
theorem SL:bin ail false [] (T ep) (D.v (aik {data:={toList:=[108,101,97,115,116]}}))=some (B false):=by rw [af];rfl
theorem Kj:bin ail false [] (T ep) (D.v (aik {data:={toList:=[102,111,108,100]}}))=some (B true):=by rw [af];rfl
theorem Rf:bin ail false [] (T bM) (D.v (aik {data:={toList:=[109,101,108,116]}}))=some (B false):=by rw [af];rfl
theorem PE:bin ail false [] (T bM) (D.v (aik {data:={toList:=[106,111,105,110]}}))=some (B false):=by rw [af];rfl
theorem Em:bin ail false [] (T bM) (D.v (aik {data:={toList:=[116,97,107,101]}}))=some (B false):=by rw [af];rfl
theorem yt:bin ail false [] (T bM) (D.v (aik {data:={toList:=[115,104,97,114,101,115]}}))=some (B false):=by rw [af];rfl
theorem Pp:bin ail false [] (T bM) (D.v (aik {data:={toList:=[115,116,111,99,107]}}))=some (B false):=by rw [af];rfl
theorem Dn:bin ail false [] (T bM) (D.v (aik {data:={toList:=[114,117,108,101]}}))=some (B false):=by rw [af];rfl
theorem Gp:bin ail false [] (T bM) (D.v (aik {data:={toList:=[99,117,116]}}))=some (B false):=by rw [af];rfl
theorem vE:bin ail false [] (T bM) (D.v (aik {data:={toList:=[109,105,115,115,105,110,103]}}))=some (B false):=by rw [af];rfl
theorem FL:bin ail false [] (T bM) (D.v (aik {data:={toList:=[111,102,102]}}))=some (B false):=by rw [af];rfl
theorem yz:bin ail false [] (T bM) (D.v (aik {data:={toList:=[109,101,100,105,97,110]}}))=some (B false):=by rw [af];rfl
theorem zH:bin ail false [] (T bM) (D.v (aik {data:={toList:=[100,114,105,102,116]}}))=some (B false):=by rw [af];rfl
theorem CP:bin ail false [] (T bM) (D.v (aik {data:={toList:=[110,111,116,101]}}))=some (B false):=by rw [af];rfl
theorem zQ:bin ail false [] (T bM) (D.v (aik {data:={toList:=[109,101,116,97,108]}}))=some (B false):=by rw [af];rfl
theorem Aa:bin ail false [] (T bM) (D.v (aik {data:={toList:=[108,101,97,115,116]}}))=some (B false):=by rw [af];rfl
theorem Ds:bin ail false [] (T bM) (D.v (aik {data:={toList:=[102,111,108,100]}}))=some (B false):=by rw [af];rfl
theorem t0A {z:Nat} {l b:List D}:ax (.tup (.arr z l::b)) 0=some (.arr z l):=rfl
theorem t0G {l b:List D}:ax (.tup (.agg l::b)) 0=some (.agg l):=rfl
theorem t0V {x:Value} {b:List D}:ax (.tup (.v x::b)) 0=some (.v x):=rfl
theorem t1A {a:D} {z:Nat} {l b:List D}:ax (.tup (a :: .arr z l::b)) 1=some (.arr z l):=rfl
theorem t1G {a:D} {l b:List D}:ax (.tup (a :: .agg l::b)) 1=some (.agg l):=rfl
theorem t1V {a:D} {x:Value} {b:List D}:ax (.tup (a :: .v x::b)) 1=some (.v x):=rfl
theorem t2V {a c:D} {x:Value} {b:List D}:ax (.tup (a::c :: .v x::b)) 2=some (.v x):=rfl
theorem lG {a:D} {b:List D}:fe (.tup (a::b)) 0 = .tup (.bad::b):=rfl
theorem wV (a b c:D) (m:Me):stD 3 (D.agg [a,b,c]) (D.ref 0 0) (me m)=some (me m):=rfl
theorem wU (m:Me):bh true 3 0 (me m)=some (me m):=rfl
theorem SX (a b:Me):aB 3 [me a,me b]=some (mes [a,b]):=rfl
abbrev okT:ByteArray:=⟨⟨[111,107]⟩⟩
abbrev noT:ByteArray:=⟨⟨[110,111]⟩⟩
abbrev dH:ByteArray:=⟨⟨[119,104,97,116]⟩⟩
def OT (c:Cn) (w rest:ByteArray):ByteArray × Cn :=
 if w=fD then(if (pSt rest).isSome=true then(okT,{c with s:=stO (pSt rest)}) else(noT,c))
 else if (pM rest).isSome=false then(noT,c)
 else if w=km then(if joB [c.m,meO (pM rest)]=true then(mtT (joR [c.m,meO (pM rest)]),{c with m:=joR [c.m,meO (pM rest)]}) else(noT,c))
 else(okT,{c with m:=meO (pM rest)})
theorem yZ {l:List Me} (h:joB l=true):ct (joR l)=true:=by
 have h':=h;unfold joB at h';simp only [aiZ] at h';rw [joR,if_pos h];exact h'.2
theorem nr (s:ByteArray):cv [T s,B true]=some (.ret [T s] []):=DJ s true
theorem nD (s:ByteArray):cv [T s,B false]=some (.ret [T noT] []):=DJ s false
theorem Wc (c:Cn) (x y:Value) (n:Int) (w rest:ByteArray) (hw:w=fD∨w=kV∨w=km) (hr:rest.size≤1048576) :
  gS [cnD c x y n,T w,T rest]=some (.ret [T (OT c w rest).1] [cnD (OT c w rest).2 x y n]):=by
 rw [Cs];rcases hw with rfl | rfl | rfl
 ·have e1:=HX rest hr
  unfold OT;cases hq:(pSt rest).isSome<;>rw [hq] at e1<;>simp -implicitDefEqProofs only [aq,ain,aio,aip,DX,e1,t0A,t1V,bR,ci,bm,aT,adV,nr,nD]
 ·have e1:=we rest hr
  have hne:¬kV=fD:=by decide
  have hne2:¬kV=km:=by decide
  unfold OT;cases hq:(pM rest).isSome<;>rw [hq] at e1<;>simp -implicitDefEqProofs only [aq,ain,aio,aip,UG,Vv,Ke,hne,hne2,e1,t0G,t1V,wV,wU,bR,ci,bm,aT,Wu,nr,nD,ai6]
 ·have e1:=we rest hr
  have hne:¬km=fD:=by decide
  unfold OT;cases hq:(pM rest).isSome<;>rw [hq] at e1
  ·simp -implicitDefEqProofs only [aq,ain,aio,aip,wP,tC,tY,hne,e1,t0G,t1V,wV,wU,bR,ci,bm,aT,Wu,nr,nD,ai6]
  ·have e2:=JE [c.m,meO (pM rest)] (by simp)
   cases hj:joB [c.m,meO (pM rest)]<;>rw [hj] at e2
   ·simp -implicitDefEqProofs only [aq,ain,aio,aip,wP,tC,tY,hne,e1,e2,t0G,t1V,wV,wU,SX,Zl,bR,ci,bm,aT,Wu,nr,nD,ai6]
   ·have e3:=px (yZ hj)
    simp -implicitDefEqProofs only [aq,ain,aio,aip,wP,tC,tY,hne,e1,e2,e3,t0G,t1V,wV,wU,SX,Zl,bR,ci,bm,aT,Wu,nr,nD,ai6]
theorem acH {l:List Slp}:∀{i n v:Nat},i≤l.length→cY (l.take i) n=some v→∀j,j<i→0≤(ctl l i n).getD j 0∧(ctl l i n).getD j 0≤(slC l j:Int)
 | 0,_,_,_,_,j,hj=>absurd hj (Nat.not_lt_zero _)
 | i+1,n,v,hi,h,j,hj=>by
  obtain⟨u,p1,_,p3⟩:=Md hi h;have hlen:=rc l i (n - pk l i n*slW l i);by_cases hji:j<i
  ·have:=acH (Nat.le_of_succ_le hi) p1 j hji
   have e:(ctl l (i+1) n).getD j 0=(ctl l i (n - pk l i n*slW l i)).getD j 0:=by
    simp only [ctl,ai0];rw [ajh (by omega)]
   rw [e];exact this
  ·have hj':j=i:=by omega
   subst hj';have e:(ctl l (j+1) n).getD j 0=(pk l j n:Int):=by
    simp only [ctl,ai0];rw [List.getElem?_append_right (by omega),hlen];simp
   rw [e];unfold mx at p3;omega
theorem SW:∀(l:List Slp) (cs:List Int) (i:Nat) (hi:i<l.length) (hc:i<cs.length),(rsS l cs)[i]'(by rw [nw];exact hi)=(l[i].1,aiq.wrap (l[i].2 - cs[i]))
 | x::l,k::cs,0,_,_=>rfl
 | x::l,k::cs,i+1,hi,hc=>by
  have:=SW l cs i (by simpa using hi) (by simpa using hc);simp only [rsS,aiO,this]
def okL (l:List Slp):Prop:=∀x∈l,(1≤x.1∧x.1≤200)∧0≤x.2∧x.2≤20
theorem agX {l:List Slp} {n:Nat} (h:okL l) (hv:(cY l n).isSome=true):okL (rsS l (ctl l l.length n)):=by
 intro x hx;obtain⟨i,hi,rfl⟩:=List.getElem_of_mem hx;rw [nw] at hi;have hc:i<(ctl l l.length n).length:=by rw [rc];exact hi
 rw [SW l _ i hi hc];obtain⟨v,hv'⟩:=ai5.1 hv;have hb:=acH (l:=l) (i:=l.length) (n:=n) (v:=v) (air _) (by rw [aiN];exact hv') i hi;have ho:=h l[i] (ais hi);have hC:=Uf hi ho.2.1;rw [ai0,aix hc,ai8] at hb;have hw:aiq.wrap (l[i].2 - (ctl l l.length n)[i])=l[i].2 - (ctl l l.length n)[i]:=ah (by omega) (by omega);rw [hw];dsimp only;omega
theorem yq (n:Int):jf [I n]=some (.ret [B (decide (1≤n∧n≤400))] []):=by
 rw [La];have:=bp n 1 400;simp -implicitDefEqProofs only [aq,ain,aio,aip,this]
theorem qE (n:Int):fv [I n]=some (.ret [B (decide (1≤n∧n≤400))] []):=by
 rw [Cp];have:=bB n 1 400;simp -implicitDefEqProofs only [aq,ain,aio,aip,this]
def rlA (l:List Slp) (n:Int):Bool:=cB l&&decide (1≤n∧n≤400)
def rlB (l:List Slp) (n:Int):Bool:=rlA l n&&(cY l n.toNat).isSome
def rlV (l:List Slp) (n:Int):List Int:=if rlB l n=true then ctl l l.length n.toNat else []
theorem rf {l:List Slp} {n:Int}:rlA l n=true↔cB l=true∧1≤n∧n≤400:=by
 unfold rlA;simp only [aiZ,decide_eq_true_eq]
theorem QW (l:List Slp) (n:Int) (h:l.length≤1048576):ph [sls l,I n]=some (.ret [ai (rlV l n),B (rlB l n)] []):=by
 rw [QF];have hg:=dG l h;have hl:=yq n;by_cases hA:rlA l n=true
 ·obtain⟨h1,h2,h3⟩:=rf.1 hA
  have hr:=Rd l n.toNat (dT h1) (by omega) (dW h1);rw [show((n.toNat:Nat):Int)=n by omega] at hr;have hB:rlB l n=(cY l n.toNat).isSome:=by unfold rlB;rw [hA,ajf]
  have hV:rlV l n=ruL l n.toNat:=by unfold rlV ruL;rw [hB]
  rw [hB,hV];simp -implicitDefEqProofs only [aq,ain,aio,aip,hg,h1,hl,h2,h3,hr,t0A,lG,t1V]
 ·have hB:rlB l n=false:=by unfold rlB;simp [hA]
  have hV:rlV l n=[]:=by unfold rlV;rw [hB];rfl
  rw [hB,hV];by_cases h1:cB l=true
  ·have h2:¬(1≤n∧n≤400):=fun e=>hA (rf.2 ⟨h1,e⟩)
   simp -implicitDefEqProofs only [aq,ain,aio,aip,hg,h1,hl,h2];rfl
  ·have h1':cB l=false:=by simpa using h1
   simp -implicitDefEqProofs only [aq,ain,aio,aip,hg,h1',hl];rfl
theorem PU (l:List Slp) (n:Int) (h:l.length≤1048576):pj [sls l,I n]=some (.ret [ai (rlV l n),B (rlB l n)] []):=by
 rw [QI];have hg:=dI l h;have hl:=qE n;by_cases hA:rlA l n=true
 ·obtain⟨h1,h2,h3⟩:=rf.1 hA
  have hr:=Qg l n.toNat (dT h1) (by omega) (dW h1);rw [show((n.toNat:Nat):Int)=n by omega] at hr;have hB:rlB l n=(cY l n.toNat).isSome:=by unfold rlB;rw [hA,ajf]
  unfold rlV;rw [hB];unfold ruO at hr;cases hq:(cY l n.toNat).isSome
  ·rw [hq] at hr
   have hn:aaS ail (.v (.slice none 0 0))=some (B true):=rfl;simp -implicitDefEqProofs only [aq,ain,aio,aip,hg,h1,hl,h2,h3,hr,hn];rfl
  ·rw [hq] at hr
   have hpos:0<(ctl l l.length n.toNat).length:=by
    rw [rc];rcases Nat.eq_zero_or_pos l.length with e | e
    ·rw [aiv e] at hq
     have h0:cY [] n.toNat=none:=if_neg (by omega);rw [h0] at hq;cases hq
    ·exact e
   have hn:aaS ail (ai (ctl l l.length n.toNat))=some (B false):=by
    obtain⟨a,t,e⟩:=List.exists_cons_of_length_pos hpos;rw [e];rfl
   simp -implicitDefEqProofs only [aq,ain,aio,aip,hg,h1,hl,h2,h3,hr,hn]
 ·have hB:rlB l n=false:=by unfold rlB;simp [hA]
  have hV:rlV l n=[]:=by unfold rlV;rw [hB];rfl
  rw [hB,hV];by_cases h1:cB l=true
  ·have h2:¬(1≤n∧n≤400):=fun e=>hA (rf.2 ⟨h1,e⟩)
   simp -implicitDefEqProofs only [aq,ain,aio,aip,hg,h1,hl,h2];rfl
  ·have h1':cB l=false:=by simpa using h1
   simp -implicitDefEqProofs only [aq,ain,aio,aip,hg,h1',hl];rfl
def Jr (P:Nat→Bool):Nat→Nat→Option Nat
 | _,0=>none
 | k,u+1=>if P k=true then some k else Jr P (k+1) u
def sY (l:List Slp) (n:Int):Option Nat:=if rlA l n=true then Jr (fun k=>(cY l k).isSome) n.toNat (401 - n.toNat) else none
def AB (l:List Slp) (n:Int):Int:=match sY l n with
 | some k=>(k:Int) - n
 | none=>0
theorem Zz (P:Nat→Bool):∀(u k m:Nat),Jr P k u=some m→k≤m∧m<k+u
 | 0,_,_,h=>by cases h
 | u+1,k,m,h=>by
  unfold Jr at h;split at h
  ·cases h;omega
  ·have:=Zz P u (k+1) m h
   omega
theorem FV (l:List Slp) (n:Int) (h:l.length≤1048576):jW [sls l,I n]=some (.ret [I (AB l n),B (sY l n).isSome] []):=by
 rw [GR];have hg:=dG l h;have hl:=yq n;by_cases hA:rlA l n=true
 ·obtain⟨h1,h2,h3⟩:=rf.1 hA
  have hr:=yF l 400 (dT h1) (by omega) (dW h1);have hrow:=zW (l:=oh 400 l (l.length+1)) (i:=l.length) (by rw [pH];omega);rw [Bp (by omega),aiN] at hrow;have hr':gr [sls l,D.v (aiz aiq 400)]=some (.ret [fA (oh 400 l (l.length+1))] []):=hr;have hO:sY l n=Jr (fun k=>(cY l k).isSome) n.toNat (401 - n.toNat):=by unfold sY;rw [if_pos hA]
  have hb:=Bg (l:=l) (fun x hx=>(dW h1 x hx).2.2) l.length (air _);rw [aiN] at hb;have hl8:=dT h1;simp -implicitDefEqProofs only [aq,ain,aio,aip,hg,h1,hl,h2,h3,hr',hrow];refine bH (fun r=>r=_) (fun(k:Nat)=>[I n,ai (yN 400 (cY l)),I (k:Int)]) (fun k=>n≤k∧k≤401∧sY l n=Jr (fun k=>(cY l k).isSome) k (401 - k)) (fun k=>401 - k)
   (fun o=>(∃m,sY l n=some m∧o = .ret [I ((m:Int) - n),B true] [])∨(sY l n=none∧o = .ext 0 [])) (fun k hk=>?_) n.toNat ⟨by omega,by omega,hO⟩ (by rw [show((n.toNat:Nat):Int)=n by omega]) ?_
  ·obtain⟨g1,g2,g3⟩:=hk
   by_cases hp:k<401
   ·have hp':(k:Int)≤400:=by omega
    have her:=gT (l:=yN 400 (cY l)) (i:=k) (by rw [uY];omega);rw [vI (by omega)] at her;have hw:aiq.wrap ((k:Int)+1)=((k+1:Nat):Int):=by rw [ah (by omega) (by omega)];omega
    have hw2:aiq.wrap ((k:Int) - n)=(k:Int) - n:=ah (by omega) (by omega);rw [show 401 - k=(401 - (k+1))+1 by omega] at g3;cases hv:cY l k with
    | none =>
     rw [hv] at her;have he:¬gL none<1048576:=by simp [gL]
     left
     refine⟨k+1,?_,⟨by omega,by omega,?_⟩,by omega⟩
     ·simp -implicitDefEqProofs only [aq,ain,aio,aip,hp',her,he,hw]
     ·rw [g3]
      simp only [Jr,hv,aiu,ajd,if_false]
    | some v =>
     rw [hv] at her;have hv2:=hb k v hv;have he:gL (some v)<1048576:=by
      simp only [gL];omega
     right
     refine⟨_,?_,rfl,.inl ⟨k,?_,rfl⟩⟩
     ·simp -implicitDefEqProofs only [aq,ain,aio,aip,hp',her,he,hw2]
     ·rw [g3]
      simp only [Jr,hv,aiy,if_true]
   ·have hp':¬(k:Int)≤400:=by omega
    obtain rfl:k=401:=by omega
    right
    refine⟨_,?_,rfl,.inr ⟨g3,rfl⟩⟩
    simp -implicitDefEqProofs only [aq,ain,aio,aip,hp']
  ·rintro o (⟨m,hm,rfl⟩ | ⟨hm,rfl⟩)
   ·unfold AB
    rw [hm];simp -implicitDefEqProofs only [aq,ain,aio,aip,sI,aiy]
   ·unfold AB
    rw [hm];simp -implicitDefEqProofs only [aq,ain,aio,aip,aiu]
 ·have hO:sY l n=none:=by unfold sY;rw [if_neg hA]
  unfold AB;rw [hO];by_cases h1:cB l=true
  ·have h2:¬(1≤n∧n≤400):=fun e=>hA (rf.2 ⟨h1,e⟩)
   simp -implicitDefEqProofs only [aq,ain,aio,aip,hg,h1,hl,h2,aiu]
  ·have h1':cB l=false:=by simpa using h1
   simp -implicitDefEqProofs only [aq,ain,aio,aip,hg,h1',hl,aiu]
theorem Lg (l:List Slp) (h1:cB l=true):lU [sls l]=some (.ret [ai (yO 400 (cY l))] []):=by
 rw [Lq];have hl8:=dT h1;have e1:=uX l (by omega);have e2:=Dp l 400 hl8 (by omega) (dW h1);have e2':js [ai (l.map (·.1)),ai (l.map (·.2)),D.v (aiz aiq 400)]=_:=e2;have hrow:=zW (l:=qg 400 l (l.length+1)) (i:=l.length) (by rw [qf];omega);rw [zy (by omega),aiN] at hrow;simp -implicitDefEqProofs only [aq,ain,aio,aip,e1,t0A,lG,t1A,e2',hrow]
theorem Gl (l:List Slp) (n:Int) (h:l.length≤1048576):jM [sls l,I n]=some (.ret [I (AB l n),B (sY l n).isSome] []):=by
 rw [GJ];have hg:=dI l h;have hl:=qE n;by_cases hA:rlA l n=true
 ·obtain⟨h1,h2,h3⟩:=rf.1 hA
  have hr:=Lg l h1;have hO:sY l n=Jr (fun k=>(cY l k).isSome) n.toNat (401 - n.toNat):=by unfold sY;rw [if_pos hA]
  simp -implicitDefEqProofs only [aq,ain,aio,aip,hg,h1,hl,h2,h3,hr];refine bH (fun r=>r=_) (fun(k:Nat)=>[I n,ai (yO 400 (cY l)),I (k:Int)]) (fun k=>n≤k∧k≤401∧sY l n=Jr (fun k=>(cY l k).isSome) k (401 - k)) (fun k=>401 - k)
   (fun o=>(∃m,sY l n=some m∧o = .ret [I ((m:Int) - n),B true] [])∨(sY l n=none∧o = .ext 0 [])) (fun k hk=>?_) n.toNat ⟨by omega,by omega,hO⟩ (by rw [show((n.toNat:Nat):Int)=n by omega]) ?_
  ·obtain⟨g1,g2,g3⟩:=hk
   by_cases hp:k<401
   ·have hp':(k:Int)≤400:=by omega
    have her:=gT (l:=yO 400 (cY l)) (i:=k) (by rw [vW];omega);rw [Bn (by omega)] at her;have hw:aiq.wrap ((k:Int)+1)=((k+1:Nat):Int):=by rw [ah (by omega) (by omega)];omega
    have hw2:aiq.wrap ((k:Int) - n)=(k:Int) - n:=ah (by omega) (by omega);rw [show 401 - k=(401 - (k+1))+1 by omega] at g3;cases hv:cY l k with
    | none =>
     rw [hv] at her;have he:¬0≤iV none:=by decide
     left
     refine⟨k+1,?_,⟨by omega,by omega,?_⟩,by omega⟩
     ·simp -implicitDefEqProofs only [aq,ain,aio,aip,hp',her,he,hw]
     ·rw [g3]
      simp only [Jr,hv,aiu,ajd,if_false]
    | some v =>
     rw [hv] at her;have he:0≤iV (some v):=by
      rw [EG];omega
     right
     refine⟨_,?_,rfl,.inl ⟨k,?_,rfl⟩⟩
     ·simp -implicitDefEqProofs only [aq,ain,aio,aip,hp',her,he,hw2]
     ·rw [g3]
      simp only [Jr,hv,aiy,if_true]
   ·have hp':¬(k:Int)≤400:=by omega
    obtain rfl:k=401:=by omega
    right
    refine⟨_,?_,rfl,.inr ⟨g3,rfl⟩⟩
    simp -implicitDefEqProofs only [aq,ain,aio,aip,hp']
  ·rintro o (⟨m,hm,rfl⟩ | ⟨hm,rfl⟩)
   ·unfold AB
    rw [hm];simp -implicitDefEqProofs only [aq,ain,aio,aip,sI,aiy]
   ·unfold AB
    rw [hm];simp -implicitDefEqProofs only [aq,ain,aio,aip,aiu]
 ·have hO:sY l n=none:=by unfold sY;rw [if_neg hA]
  unfold AB;rw [hO];by_cases h1:cB l=true
  ·have h2:¬(1≤n∧n≤400):=fun e=>hA (rf.2 ⟨h1,e⟩)
   simp -implicitDefEqProofs only [aq,ain,aio,aip,hg,h1,hl,h2,aiu]
  ·have h1':cB l=false:=by simpa using h1
   simp -implicitDefEqProofs only [aq,ain,aio,aip,hg,h1',hl,aiu]
end Go.Proofs.YtjafgdefcggjcaaGreatDoor

end
