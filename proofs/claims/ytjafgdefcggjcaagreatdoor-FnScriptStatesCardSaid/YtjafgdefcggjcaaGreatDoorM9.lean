/-
  A part of the proof: contracts and plain forms of functions beneath the statement, made small by a program (names shortened, what is not needed left out).
-/
import Derived.Test.YtjafgdefcggjcaaGreatDoorRows
import Derived.Test.YtjafgdefcggjcaaGreatDoorTie
import Derived.Test.YtjafgdefcggjcaaGreatDoorCards
import Derived.Test.YtjafgdefcggjcaaGreatDoorM8
import Derived.Maps.AppendAt
import Derived.Laws.ResultCell
import Derived.Laws.Rows
import Derived.BigCall
import Derived.Shelf.Strings.BuilderK
open Go.Value renaming string → aiT, int → ai8, slice → ajr, ownBlock → akg
open Go.BinOp renaming eql → aiU, add → aj6
open Array renaming getElem?_eq_some_iff → aiV, getElem?_push_size → aji
open Int renaming reduceLT → aiW, reduceLE → aiX, reduceEq → aiY, toNat_natCast → aj7
open Go.IntKind renaming i64 → aiZ
open Nat renaming le_refl → ai0, le_trans → ai2, succ_mul → ajt, zero_le → ajv, lt_of_lt_of_le → ajD, mul_le_mul_right → ajK, mul_one → ajV, mul_assoc → aj4, mul_add → akb, mod_eq_of_lt → akc
open List renaming getElem_mem → ai1, eq_nil_of_length_eq_zero → ai4, length_drop → ai5, getElem?_eq_getElem → ai6, take_succ_eq_append_getElem → ai9, range → ajd, getElem?_eq_some_iff → ajh, getElem?_cons_zero → ajj, replicate → ajk, cons_append → ajl, take_length → ajm, getElem_cons_succ → ajn, getElem?_map → ajp, getElem_drop → ajq, getElem?_take_of_lt → ajs, length_take → aju, append_assoc → ajx, getD_eq_getElem?_getD → ajz, drop_eq_getElem_cons → ajA, length_map → ajB, drop_eq_nil_of_le → ajG, length_cons → ajI, map_append → ajJ, pairwise_cons → ajL, map_cons → ajN, getElem?_append_left → ajQ, getElem?_cons_succ → ajR, append_nil → ajT, nil_append → ajU, getElem_cons_zero → ajW, take_append_drop → ajY, length_replicate → ajZ, mem_of_mem_take → aj2, mem_cons → aj3, length_append → aj5, foldl_append → aj8, length → aka, all_eq_true → akd, length_nil → ake, range_succ → akf
open Option renaming isSome_none → ai3, isSome_some → ai7, bind_eq_some_iff → aje, bind_some → ajg, map_eq_some_iff → ajw, isSome_iff_exists → ajE, getD_some → ajH, map_some → ajS, map_map → ajX
open Go.World renaming setCell → aja, ownsRow_nil → ajP, cell?_of_block → aj1
open Go.Lib renaming cell_of_heap → ajb, cut → ajc, frozen_of_heap → ajC, atoiAll → aj9
open Go.Proofs renaming enters_of → ajf
open Option.some renaming injEq → ajo
open Bool renaming and_eq_true → ajy, true_eq_false → ajF, false_eq_true → ajM, true_and → ajO, false_and → akh
open ByteArray renaming size_append → aj0
open Go.Obj renaming cells → aki
set_option maxRecDepth 100000
set_option linter.unusedSimpArgs false
set_option linter.unusedVariables false
noncomputable section
namespace Go.Proofs.YtjafgdefcggjcaaGreatDoor
open Go Go.V Go.RowKit Go.Shelf
abbrev bt (l:List UInt8):ByteArray:=⟨l.toArray⟩
abbrev Ln:=ByteArray × ByteArray × List Int
def rdI (t:ByteArray):Ln × Bool :=
 match fy shE (bt (ajc (ae t) [32]).1) with
 | none=>((⟨#[]⟩,⟨#[]⟩,[]),false)
 | some sh =>
  if (ajc (ae t) [32]).2.2=decide (sh=⟨#[]⟩) then((⟨#[]⟩,⟨#[]⟩,[]),false)
  else if sh=⟨#[84]⟩∨sh=⟨#[]⟩ then((bt (ajc (ae t) [32]).1,bt (ajc (ae t) [32]).2.1,[]),true)
  else match cF (aC 32 (bt (ajc (ae t) [32]).2.1)) with
   | none=>((⟨#[]⟩,⟨#[]⟩,[]),false)
   | some r=>((bt (ajc (ae t) [32]).1,⟨#[]⟩,r),decide (((aC 32 (bt (ajc (ae t) [32]).2.1)).length:Int)=(sh.size:Int)))
theorem aaO {k s:ByteArray} (h:fy shE k=some s):s=⟨#[84]⟩∨s=⟨#[]⟩∨s=⟨#[78]⟩∨s=⟨#[78,78]⟩∨s=⟨#[78,78,78]⟩:=by
 have key:∀E:List (ByteArray × ByteArray),fy E k=some s→s∈E.map (·.2):=by
  intro E;induction E with
  | nil=>intro h;cases h
  | cons x E ih =>
   intro h;simp only [fy] at h;split at h
   ·cases h;simp
   ·exact List.mem_cons_of_mem _ (ih h)
 have:=key _ h;simp only [shE,ajN,List.map_nil,aj3,List.not_mem_nil,or_false] at this;rcases this with h | h | h | h | h | h | h | h | h | h | h | h | h | h | h | h<;>simp [h]
theorem Xr:(Tryz.prog.info? 3).map (fun i=>(i.zero,i.size,i.bytes))=some (some (.int .i64 0),1,8):=by kernel_rfl
theorem Fu (w:World) (b o:Nat) (v:Value):w.grownBy (w.setCell ⟨b,o,none⟩ v) (some b) :=
 ⟨rfl,rfl,rfl,by simp [aja],fun k _ h=>heap_setCell_other w ⟨b,o,none⟩ k v (fun e=>h (by rw [e]))⟩
theorem bk {W:World} {b t:Nat} {x y z:Value} (q:W.heap[b]?=some (.cells #[x,y,z] t (0,0))):(W.cell? ⟨b,0,none⟩=some x∧W.cell? ⟨b,1,none⟩=some y∧W.cell? ⟨b,2,none⟩=some z)∧W.frozen? ⟨b,0,none⟩=false∧W.frozen? ⟨b,1,none⟩=false∧W.frozen? ⟨b,2,none⟩=false :=
 ⟨⟨by rw [ajb q];rfl,by rw [ajb q];rfl,by rw [ajb q];rfl⟩,ajC q 0,ajC q 1,ajC q 2⟩
theorem vX {W:World} {b t B:Nat} {x y z:Value} (q:W.heap[b]?=some (.cells #[x,y,z] t (0,0))) (hB:B≤b) (x' y' z':Value) :
  (((W.setCell ⟨b,0,none⟩ x').setCell ⟨b,1,none⟩ y').setCell ⟨b,2,none⟩ z').heap[b]?=some (.cells #[x',y',z'] t (0,0))∧Below B W (((W.setCell ⟨b,0,none⟩ x').setCell ⟨b,1,none⟩ y').setCell ⟨b,2,none⟩ z'):=by
 refine⟨?_,(((Below.refl B W).setCell hB _).setCell hB _).setCell hB _⟩
 have h1:=heap_setCell_same _ b 0 _ _ x' q;have h2:=heap_setCell_same _ b 1 _ _ y' h1;have h3:=heap_setCell_same _ b 2 _ _ z' h2;rw [h3];rfl
theorem dX {W:World} {tmps:Array Value} {g t:Nat} {cs:Array Value} {q:Bool} (hp:tmps.getD 2 undef = .pointer (some ⟨g,0,none⟩)) (hq:tmps.getD 3 undef = .bool q) (hg:W.heap[g]?=some (.cells cs t (0,0))) (hn:cs.size=3) :
  (results Tryz.f79 tmps).run Tryz.prog W = .ok (.tuple #[.agg cs,.bool q]) W:=by
 rw [results_cell_tmp (fn:=Tryz.f79) (p:=2) (u:=3) (ty:=107) rfl,hp,hq];have h:=run_loadVar_row W g t 107 cs (0,0) _ hg Tryz.underlying107 rfl (by rw [hn];kernel_rfl);simp [asAddr,h,Result.andThen]
theorem Xt (t:ByteArray):(bt (ajc (ae t) [32]).1).size≤t.size∧(bt (ajc (ae t) [32]).2.1).size≤t.size:=by
 show(ae (bt (ajc (ae t) [32]).1)).length≤(ae t).length∧(ae (bt (ajc (ae t) [32]).2.1)).length≤(ae t).length
 rw [cS (ajc (ae t) [32]).1,cS (ajc (ae t) [32]).2.1];generalize ae t=l;by_cases h:(32:UInt8)∈l
 ·obtain⟨a,b,e,hn⟩:∃a b,l=a++32::b∧(32:UInt8)∉a:=by
   rcases pg 32 l with ⟨_,h2⟩ | ⟨a,b,h1,h2,_⟩
   ·exact absurd h h2
   ·exact⟨a,b,h1,h2⟩
  rw [e,Uj hn];simp;omega
 ·rw [Oa h]
  simp
theorem sd {a b:ByteArray} (h:a.toList=b.toList):a=b:=by
 have e:∀c:ByteArray,c.toList=c.data.toList:=fun c=>by simp [ByteArray.toList_eq]
 rw [e,e] at h;exact YG h
theorem lf {W W':World} {base e size n:Nat} {v:Value} {xs:List Value} (h:W.ownsRow base e size v n xs) (hB:Below W.heap.size W W'):W'.ownsRow base e size v n xs:=by
 obtain⟨h1,h2 | ⟨g,cap,cur,h2,h3,h4,r⟩⟩:=h
 ·exact⟨h1,.inl h2⟩
 ·exact⟨h1,.inr ⟨g,cap,cur,h2,h3,(hB.block _ (aiV.1 h4).1).trans h4,r⟩⟩
theorem Pp {W:World} {base e size n:Nat} {v:Value} {xs:List Value} (h:W.ownsRow base e size v n xs):∃A m c,v = .slice A m c:=by
 obtain⟨_,⟨rfl,_⟩ | ⟨g,cap,cur,rfl,_⟩⟩:=h
 ·exact⟨_,_,_,rfl⟩
 ·exact⟨_,_,_,rfl⟩
theorem oQ {W:World} {base e size n:Nat} {v:Value} {xs:List Value} (h:W.ownsRow base e size v (n+1) xs):∃g cap,v = .slice (some ⟨g,0,none⟩) (n+1) cap:=by
 obtain⟨_,⟨rfl,h⟩ | ⟨g,cap,cur,rfl,_⟩⟩:=h
 ·cases h
 ·exact⟨g,cap,rfl⟩
theorem im {W:World} {base e size n:Nat} {v:Value} {xs:List Value} (h:W.ownsRow base e size v n xs) {j:Nat} (hj:v.ownBlock=some j):base≤j:=by
 obtain⟨_,⟨rfl,_⟩ | ⟨g,cap,cur,rfl,hge,_⟩⟩:=h
 ·simp [akg] at hj
 ·simp only [akg,ajo] at hj
  omega
theorem qG {W:World} {base e size n b:Nat} {v:Value} {xs:List Value} (h:W.ownsRow base e size v n xs) (hb:b<base):v.ownBlock≠some b:=fun hj=>by
 have:=im h hj;omega
theorem eS {wr w2:World} {o x:Obj} {b:Nat} {v:Value} (q:wr.heap[b]?=some x) (hg:(wr.alloc o).grownBy w2 v.ownBlock) (hn:v.ownBlock≠some b):w2.heap[b]?=some x:=by
 have hb:b<wr.heap.size:=(aiV.1 q).1;have h1:(wr.alloc o).heap[b]?=wr.heap[b]?:=(World.grownBy_alloc wr o none).block b hb (by simp);exact(hg.block b (ajD hb (World.grownBy_alloc wr o none).size) (fun e=>hn e.symm)).trans (h1.trans q)
def aiM (w w':World) (e:Ending) (x:Ln × Bool):Prop:=∃sl,e = .returned (.tuple #[.agg #[.string x.1.1,.string x.1.2.1,sl],.bool x.2])∧Below w.heap.size w w' ∧
 ((sl = .slice none 0 0∧x.1.2.2=[])∨∃g cap cur t,sl = .slice (some ⟨g,0,none⟩) x.1.2.2.length cap∧x.1.2.2.length≤cap∧w.heap.size≤g∧w'.heap[g]?=some (.cells cur t (0,0))∧∀(i:Nat) (n:Int),x.1.2.2[i]?=some n→cur[i]?=some (.int .i64 n))
set_option maxHeartbeats 4000000 in
set_option maxRecDepth 1000000 in
theorem RA (t:ByteArray) (ht:t.size≤1048576) (w:World) (F:Nat→Prop) (hF:∀b,F b→b<w.heap.size) (hgl:gOk gl2 w F) :
  Calls Tryz.prog 79 #[.string t] w fun e w'=>aiM w w' e (rdI t):=by
 have hgW:∀W,Below w.heap.size w W→gOk gl2 W F:=fun W hW=>iu (fun _ h=>h) (fun b hb=>hW.block b (hF b hb)) hgl
 have hFW:∀W,Below w.heap.size w W→∀b,F b→b<W.heap.size:=fun W hW b hb=>ajD (hF b hb) hW.size
 have h0W:∀W,Below w.heap.size w W→gOk gl0 W F:=fun W hW p hp=>hgW W hW p (mN p hp)
 have h1W:∀W,Below w.heap.size w W→gOk gl1 W F:=fun W hW p hp=>hgW W hW p (CL p hp)
 have hCut:∀W,Below w.heap.size w W→_:=fun W hW=>abY (hFW W hW) (h0W W hW) t ht
 have hcz1:(bt (ajc (ae t) [32]).1).size≤1048576:=ai2 (Xt t).1 ht;have hcz2:(bt (ajc (ae t) [32]).2.1).size≤1048576:=ai2 (Xt t).2 ht;have hdef:rdI t=rdI t:=rfl
 conv at hdef=>rhs;unfold rdI
 generalize rdI t=res at hdef;generalize (ajc (ae t) [32]).2.2=found at hCut hdef
 change ∀W,Below w.heap.size w W→Calls Tryz.prog 85 #[.string t,.string ⟨#[32]⟩] W (fun e w'=>e = .returned (.tuple #[.string (bt (ajc (ae t) [32]).1),.string (bt (ajc (ae t) [32]).2.1),.bool found])∧Below W.heap.size W w') at hCut
 generalize bt (ajc (ae t) [32]).1=word at hCut hdef hcz1;generalize bt (ajc (ae t) [32]).2.1=rest at hCut hdef hcz2;have hSh:∀W,Below w.heap.size w W→_:=fun W hW=>Zh (hFW W hW) (h0W W hW) word hcz1
 have b0:Below w.heap.size w (w.alloc (.cells #[.string ⟨#[]⟩,.string ⟨#[]⟩,.slice none 0 0] 107)):=(Below.refl _ w).alloc (ai0 _) _;have k2:(w.alloc (.cells #[.string ⟨#[]⟩,.string ⟨#[]⟩,.slice none 0 0] 107)).heap[w.heap.size]?=some (.cells #[.string ⟨#[]⟩,.string ⟨#[]⟩,.slice none 0 0] 107):=aji;have hc1:=hCut _ b0;have hlt0:w.heap.size<(w.alloc (.cells #[.string ⟨#[]⟩,.string ⟨#[]⟩,.slice none 0 0] 107)).heap.size:=(aiV.1 k2).1
 go_enter Tryz.func79,Tryz.ntmps79
 go_wp2_with (go_at_call 85;refine hc1.mono ?_)
 rintro e W1 ⟨rfl,b1⟩;have hB1:=b0.trans (b1.mono b0.size);have k2:=(b1.block _ (aiV.1 k2).1).trans k2;have hc2:=hSh _ hB1
 go_wp2_with (go_at_call 115;refine hc2.mono ?_)
 rintro e W2 ⟨rfl,b2⟩;have hB2:=hB1.trans (b2.mono hB1.size);have k2:=(b2.block _ (aiV.1 k2).1).trans k2;have hlt2:w.heap.size<W2.heap.size:=(aiV.1 k2).1;clear hc1 hc2 hCut hSh b0 b1 b2 hlt0;cases hv:fy shE word with
 | none =>
  rw [hv] at hdef;subst hdef;obtain⟨⟨c0,c1,c2⟩,f0,f1,f2⟩:=bk k2
  go_wp2
  obtain⟨k3,b3'⟩:=vX k2 (ai0 _) (.string ⟨#[]⟩) (.string ⟨#[]⟩) (.slice none 0 0);exact bodyPost_ret_by (dX rfl rfl k3 rfl) rfl ⟨_,rfl,hB2.trans b3',.inl ⟨rfl,rfl⟩⟩
 | some sh =>
  rw [hv] at hdef;simp only [ajH,ai7];rcases aaO hv with rfl | rfl | rfl | rfl | rfl
  ·cases found
   ·have hdef':res=((⟨#[]⟩,⟨#[]⟩,[]),false):=hdef
    subst hdef';obtain⟨⟨c0,c1,c2⟩,f0,f1,f2⟩:=bk k2
    go_wp2
    obtain⟨k3,b3'⟩:=vX k2 (ai0 _) (.string ⟨#[]⟩) (.string ⟨#[]⟩) (.slice none 0 0);exact bodyPost_ret_by (dX rfl rfl k3 rfl) rfl ⟨_,rfl,hB2.trans b3',.inl ⟨rfl,rfl⟩⟩
   ·have hdef':res=((word,rest,[]),true):=hdef
    subst hdef';obtain⟨⟨c0,c1,c2⟩,f0,f1,f2⟩:=bk k2
    go_wp2
    obtain⟨k3,b3'⟩:=vX k2 (ai0 _) (.string word) (.string rest) (.slice none 0 0);exact bodyPost_ret_by (dX rfl rfl k3 rfl) rfl ⟨_,rfl,hB2.trans b3',.inl ⟨rfl,rfl⟩⟩
  ·cases found
   ·have hdef':res=((word,rest,[]),true):=hdef
    subst hdef';obtain⟨⟨c0,c1,c2⟩,f0,f1,f2⟩:=bk k2
    go_wp2
    obtain⟨k3,b3'⟩:=vX k2 (ai0 _) (.string word) (.string rest) (.slice none 0 0);exact bodyPost_ret_by (dX rfl rfl k3 rfl) rfl ⟨_,rfl,hB2.trans b3',.inl ⟨rfl,rfl⟩⟩
   ·have hdef':res=((⟨#[]⟩,⟨#[]⟩,[]),false):=hdef
    subst hdef';obtain⟨⟨c0,c1,c2⟩,f0,f1,f2⟩:=bk k2
    go_wp2
    obtain⟨k3,b3'⟩:=vX k2 (ai0 _) (.string ⟨#[]⟩) (.string ⟨#[]⟩) (.slice none 0 0);exact bodyPost_ret_by (dX rfl rfl k3 rfl) rfl ⟨_,rfl,hB2.trans b3',.inl ⟨rfl,rfl⟩⟩
  ·cases found
   ·have hdef':res=((⟨#[]⟩,⟨#[]⟩,[]),false):=hdef
    subst hdef';obtain⟨⟨c0,c1,c2⟩,f0,f1,f2⟩:=bk k2
    go_wp2
    obtain⟨k3,b3'⟩:=vX k2 (ai0 _) (.string ⟨#[]⟩) (.string ⟨#[]⟩) (.slice none 0 0);exact bodyPost_ret_by (dX rfl rfl k3 rfl) rfl ⟨_,rfl,hB2.trans b3',.inl ⟨rfl,rfl⟩⟩
   have hdef':res=match cF (aC 32 rest) with
    | none=>((⟨#[]⟩,⟨#[]⟩,[]),false)
    | some r=>((word,⟨#[]⟩,r),decide (((aC 32 rest).length:Int)=1)):=hdef
   clear hdef;obtain⟨i0,hi0,hz0,hz1,hz2⟩:=info_parts Xr;have b3:Below w.heap.size w (W2.alloc (.cells #[.string word,.string ⟨#[]⟩,.slice none 0 0] 107)):=hB2.alloc hB2.size _;have k9:(W2.alloc (.cells #[.string word,.string ⟨#[]⟩,.slice none 0 0] 107)).heap[W2.heap.size]?=some (.cells #[.string word,.string ⟨#[]⟩,.slice none 0 0] 107):=aji;have k2:=(heap_alloc_old W2 (.cells #[.string word,.string ⟨#[]⟩,.slice none 0 0] 107) hlt2).trans k2;have hc3:=Gd (hFW _ b3) (h0W _ b3) rest hcz2;have hwz:∀x∈aC 32 rest,x.size≤1048576:=fun x hx=>ai2 (fL 32 rest x hx) hcz2
   have hwl:(aC 32 rest).length≤1048577:=by
    rw [fb];have h1:=fc 32 (ae rest);have h2:=cZ rest;omega
   generalize aC 32 rest=ws at hc3 hwz hwl hdef'
   go_wp2_with (go_at_call 70;refine hc3.mono ?_)
   rintro e W3 ⟨b4,g,o,c,cs,tt,rfl,hge,hg,hcs⟩;have hB3:=b3.trans (b4.mono b3.size);have k9:=(b4.block _ (aiV.1 k9).1).trans k9;have k2:=(b4.block _ (aiV.1 k2).1).trans k2;have hl9:W2.heap.size<W3.heap.size:=(aiV.1 k9).1;have hlg:g<W3.heap.size:=(aiV.1 hg).1;have hg9:W2.heap.size<g:=by
    have:(W2.alloc (aki #[.string word,.string ⟨#[]⟩,.slice none 0 0] 107)).heap.size=W2.heap.size+1:=by simp
    omega
   clear hc3 b3 b4
   go_wp2
   go_loopw [50] (fun v50 wr=>∃(i:Nat) (acc:List Int) (sl:Value),v50 = .int .i64 i∧i≤ws.length∧acc.length=i∧cF ws=(cF (ws.drop i)).map (acc++·) ∧
     wr.heap[W2.heap.size]?=some (.cells #[.string word,.string ⟨#[]⟩,sl] 107 (0,0))∧wr.heap[w.heap.size]?=some (.cells #[.string ⟨#[]⟩,.string ⟨#[]⟩,.slice none 0 0] 107 (0,0))∧wr.heap[g]?=some (.cells cs tt (0,0)) ∧
     wr.ownsRow W3.heap.size 3 1 sl i (acc.map (ai8 .i64))∧Below w.heap.size w wr∧W3.heap.size≤wr.heap.size) (fun v50 wr=>ws.length - (match v50 with | .int _ n=>n.toNat | _=>0))
   case atStart =>
    exact⟨0,[],.slice none 0 0,rfl,ajv _,rfl,by simp,k9,k2,hg,ajP _ _ _ _,hB3,ai0 _⟩
   case round =>
    clear k9 k2 hg;obtain⟨i,acc,sl,rfl,hi,hal,hnw,k9,k2,hg,hrow,hbw,hsz⟩:=hrel;obtain⟨sA,sn,sc,rfl⟩:=Pp hrow;by_cases hp:i<ws.length
    ·have hpi:(i:Int)<(ws.length:Int):=by omega
     have cw:wr.cell? ⟨g,o+i,none⟩=some (.string ws[i]):=by
      rw [ajb hg];exact hcs i _ (ai6 hp)
     have hat:=KF (hFW wr hbw) (hgW wr hbw) ws[i] (hwz _ (ai1 hp));rw [ajA hp] at hnw;simp only [cF,Ar] at hnw;have failed:∀W,wr.heap.size≤W.heap.size→Below wr.heap.size wr W→cF ws=none→res=((⟨#[]⟩,⟨#[]⟩,[]),false):=fun _ _ _ h=>by rw [hdef',h]
     go_wp2_with (go_at_call 116;refine hat.mono ?_)
     rintro e W4 ⟨b4,⟨v,hv4,rfl⟩ | ⟨hno,n4,t4,x4,rfl⟩⟩
     case inr =>
      have hnn:cF ws=none:=by
       rw [hnw];cases hq:aj9 (ae ws[i]) with
       | ok v=>exact absurd hq (hno v)
       | _=>rfl
      obtain rfl:=failed W4 b4.size b4 hnn;have k2:=(b4.block _ (aiV.1 k2).1).trans k2;have hB4:=hbw.trans (b4.mono hbw.size);obtain⟨⟨c0,c1,c2⟩,f0,f1,f2⟩:=bk k2
      go_wp2
      obtain⟨k3,b3'⟩:=vX k2 (ai0 _) (.string ⟨#[]⟩) (.string ⟨#[]⟩) (.slice none 0 0);exact bodyPost_ret_by (dX rfl rfl k3 rfl) rfl ⟨_,rfl,hB4.trans b3',.inl ⟨rfl,rfl⟩⟩
     case inl =>
      rw [hv4] at hnw;simp only at hnw;have k2:=(b4.block _ (aiV.1 k2).1).trans k2;have k9:=(b4.block _ (aiV.1 k9).1).trans k9;have hg:=(b4.block _ (aiV.1 hg).1).trans hg;have hB4:=hbw.trans (b4.mono hbw.size);have hrow:=lf hrow b4;have hsz4:=ai2 hsz b4.size;have hwi:=AQ (hFW W4 hB4) (h0W W4 hB4) v (-999999) 999999
      go_wp2_with (go_at_call 52;refine hwi.mono ?_)
      rintro e W5 ⟨rfl,b5⟩;have k2:=(b5.block _ (aiV.1 k2).1).trans k2;have k9:=(b5.block _ (aiV.1 k9).1).trans k9;have hg:=(b5.block _ (aiV.1 hg).1).trans hg;have hB5:=hB4.trans (b5.mono hB4.size);have hrow:=lf hrow b5;have hsz5:=ai2 hsz4 b5.size;by_cases hr : -999999≤v∧v≤999999
      case neg =>
       have hnn:cF ws=none:=by
        rw [hnw,if_neg (fun h=>hr h.1)];rfl
       obtain rfl:=failed W4 b4.size b4 hnn;simp only [hr,decide_false];obtain⟨⟨c0,c1,c2⟩,f0,f1,f2⟩:=bk k2
       go_wp2
       obtain⟨k3,b3'⟩:=vX k2 (ai0 _) (.string ⟨#[]⟩) (.string ⟨#[]⟩) (.slice none 0 0);exact bodyPost_ret_by (dX rfl rfl k3 rfl) rfl ⟨_,rfl,hB5.trans b3',.inl ⟨rfl,rfl⟩⟩
      case pos =>
       simp only [hr,and_self,decide_true];have hit:=Cf (hFW W5 hB5) (h1W W5 hB5) (n:=v) (by omega) (by omega)
       go_wp2_with (go_at_call 117;refine hit.mono ?_)
       rintro e W6 ⟨rfl,b6⟩;have k2:=(b6.block _ (aiV.1 k2).1).trans k2;have k9:=(b6.block _ (aiV.1 k9).1).trans k9;have hg:=(b6.block _ (aiV.1 hg).1).trans hg;have hB6:=hB5.trans (b6.mono hB5.size);have hrow:=lf hrow b6;have hsz6:=ai2 hsz5 b6.size;by_cases he:aI v=ws[i]
       case neg =>
        have hnn:cF ws=none:=by
         rw [hnw,if_neg (fun h=>he h.2)];rfl
        obtain rfl:=failed W4 b4.size b4 hnn;have he2:((aI v).toList==(ws[i]).toList)=false:=by
         rw [beq_eq_false_iff_ne];intro h;exact he (sd h)
        obtain⟨⟨c0,c1,c2⟩,f0,f1,f2⟩:=bk k2
        go_wp2
        obtain⟨k3,b3'⟩:=vX k2 (ai0 _) (.string ⟨#[]⟩) (.string ⟨#[]⟩) (.slice none 0 0);exact bodyPost_ret_by (dX rfl rfl k3 rfl) rfl ⟨_,rfl,hB6.trans b3',.inl ⟨rfl,rfl⟩⟩
       case pos =>
        rw [if_pos ⟨hr,he⟩] at hnw;simp only [ajg,ajX] at hnw;rw [he];obtain⟨⟨c0,c1,c2⟩,f0,f1,f2⟩:=bk k9;have hnb:(ajr sA sn sc).ownBlock≠some W2.heap.size:=qG hrow hl9;have hwz4:=hwl
        go_wp2_with (first
         | (at_builtin;refine wpList_append_own _ rfl _ _ 38 rfl W3.heap.size 3 i0 (.int .i64 0) 1 8 Tryz.underlying38 hi0 hz0 hz1 hz2 rfl (by decide) _ _ _ rfl (hrow.alloc _) ⟨W6.heap.size,0,none⟩ 1 1 [.int .i64 v] rfl rfl (cell_one_new _ _ _) (by intro u hu;simp at hu;subst hu;rfl) (by unfold maxLen;omega) (by omega) (by simp;omega) ?_;intro v' w2 hown' hgrow hnil;obtain⟨g',cap',rfl⟩:=oQ hown';have hk:=eS k9 hgrow hnb;obtain⟨⟨d0,d1,d2⟩,g0,g1,g2⟩:=bk hk)
         | go_in)
        have hgk:=eS hg hgrow (qG hrow hlg);have k2k:=eS k2 hgrow (qG hrow (by omega));have hb7:Below w.heap.size w w2:=(hB6.alloc hB6.size (.cells #[.int .i64 v] 3)).grown hgrow (by simp;omega) (fun j hj=>by have:=im hrow hj;omega);refine⟨⟨i+1,acc++[v],.slice (some ⟨g',0,none⟩) (i+1) cap',congrArg (ai8 .i64) (by omega),by omega,by simp [hal],?_,?_,?_,?_,?_,hb7.setCell (by simp;omega) _,?_⟩,?_⟩
        ·rw [hnw]
         congr 1
         funext r
         simp
        ·rw [heap_setCell_same _ _ _ _ _ _ hk]
         rfl
        ·rw [heap_setCell_other _ _ _ _ (by simp;omega)]
         exact k2k
        ·rw [heap_setCell_other _ _ _ _ (by simp;omega)]
         exact hgk
        ·rw [ajJ]
         exact hown'.kept (Fu _ _ _ _) (.inr (qG hown' hl9))
        ·have e1:=hgrow.size
         simp at e1;simp [aja];omega
        ·show ws.length - ((i:Int)+1).toNat<ws.length - (i:Int).toNat
         omega
    ·have hpi:¬(i:Int)<(ws.length:Int):=by omega
     have hil:i=ws.length:=by omega
     rw [ajG (by omega)] at hnw;simp only [cF,ajS,ajT] at hnw;rw [hnw] at hdef';subst hdef';obtain⟨⟨c0,c1,c2⟩,f0,f1,f2⟩:=bk k9;obtain⟨⟨d0,d1,d2⟩,e0,e1,e2⟩:=bk k2
     go_wp2
     obtain⟨k3,b3'⟩:=vX k2 (ai0 _) (.string word) (.string ⟨#[]⟩) (.slice sA sn sc);have h4:(ajr sA sn sc = .slice none 0 0∧acc=[])∨∃g cap cur t,ajr sA sn sc = .slice (some ⟨g,0,none⟩) acc.length cap∧acc.length≤cap∧w.heap.size≤g∧(((wr.setCell ⟨w.heap.size,0,none⟩ (.string word)).setCell ⟨w.heap.size,1,none⟩ (.string ⟨#[]⟩)).setCell ⟨w.heap.size,2,none⟩ (.slice sA sn sc)).heap[g]?=some (.cells cur t (0,0)) ∧
       ∀(i:Nat) (n:Int),acc[i]?=some n→cur[i]?=some (.int .i64 n):=by
      obtain⟨hxs,⟨hsv,hz⟩ | ⟨g2,cap2,cur,hsv,hge2,hg2,hcap,_,hcs2,htake⟩⟩:=hrow
      ·exact .inl ⟨hsv,ai4 (by omega)⟩
      ·refine .inr ⟨g2,cap2,cur,3,by rw [hal];exact hsv,by rw [hal];exact hcap,by omega,?_,fun j n hn=>?_⟩
       ·rw [heap_setCell_other _ _ _ _ (by simp;omega),heap_setCell_other _ _ _ _ (by simp;omega),heap_setCell_other _ _ _ _ (by simp;omega)]
        exact hg2
       ·have e:(acc.map (ai8 .i64))[j]?=some (.int .i64 n):=by rw [ajp,hn];rfl
        have hj:j<acc.length:=(ajh.1 hn).1;rw [←htake,ajs (by omega)] at e;simpa using e
     exact bodyPost_ret_by (dX rfl rfl k3 rfl) rfl ⟨_,rfl,hbw.trans b3',h4⟩
  ·cases found
   ·have hdef':res=((⟨#[]⟩,⟨#[]⟩,[]),false):=hdef
    subst hdef';obtain⟨⟨c0,c1,c2⟩,f0,f1,f2⟩:=bk k2
    go_wp2
    obtain⟨k3,b3'⟩:=vX k2 (ai0 _) (.string ⟨#[]⟩) (.string ⟨#[]⟩) (.slice none 0 0);exact bodyPost_ret_by (dX rfl rfl k3 rfl) rfl ⟨_,rfl,hB2.trans b3',.inl ⟨rfl,rfl⟩⟩
   have hdef':res=match cF (aC 32 rest) with
    | none=>((⟨#[]⟩,⟨#[]⟩,[]),false)
    | some r=>((word,⟨#[]⟩,r),decide (((aC 32 rest).length:Int)=2)):=hdef
   clear hdef;obtain⟨i0,hi0,hz0,hz1,hz2⟩:=info_parts Xr;have b3:Below w.heap.size w (W2.alloc (.cells #[.string word,.string ⟨#[]⟩,.slice none 0 0] 107)):=hB2.alloc hB2.size _;have k9:(W2.alloc (.cells #[.string word,.string ⟨#[]⟩,.slice none 0 0] 107)).heap[W2.heap.size]?=some (.cells #[.string word,.string ⟨#[]⟩,.slice none 0 0] 107):=aji;have k2:=(heap_alloc_old W2 (.cells #[.string word,.string ⟨#[]⟩,.slice none 0 0] 107) hlt2).trans k2;have hc3:=Gd (hFW _ b3) (h0W _ b3) rest hcz2;have hwz:∀x∈aC 32 rest,x.size≤1048576:=fun x hx=>ai2 (fL 32 rest x hx) hcz2
   have hwl:(aC 32 rest).length≤1048577:=by
    rw [fb];have h1:=fc 32 (ae rest);have h2:=cZ rest;omega
   generalize aC 32 rest=ws at hc3 hwz hwl hdef'
   go_wp2_with (go_at_call 70;refine hc3.mono ?_)
   rintro e W3 ⟨b4,g,o,c,cs,tt,rfl,hge,hg,hcs⟩;have hB3:=b3.trans (b4.mono b3.size);have k9:=(b4.block _ (aiV.1 k9).1).trans k9;have k2:=(b4.block _ (aiV.1 k2).1).trans k2;have hl9:W2.heap.size<W3.heap.size:=(aiV.1 k9).1;have hlg:g<W3.heap.size:=(aiV.1 hg).1;have hg9:W2.heap.size<g:=by
    have:(W2.alloc (aki #[.string word,.string ⟨#[]⟩,.slice none 0 0] 107)).heap.size=W2.heap.size+1:=by simp
    omega
   clear hc3 b3 b4
   go_wp2
   go_loopw [50] (fun v50 wr=>∃(i:Nat) (acc:List Int) (sl:Value),v50 = .int .i64 i∧i≤ws.length∧acc.length=i∧cF ws=(cF (ws.drop i)).map (acc++·) ∧
     wr.heap[W2.heap.size]?=some (.cells #[.string word,.string ⟨#[]⟩,sl] 107 (0,0))∧wr.heap[w.heap.size]?=some (.cells #[.string ⟨#[]⟩,.string ⟨#[]⟩,.slice none 0 0] 107 (0,0))∧wr.heap[g]?=some (.cells cs tt (0,0)) ∧
     wr.ownsRow W3.heap.size 3 1 sl i (acc.map (ai8 .i64))∧Below w.heap.size w wr∧W3.heap.size≤wr.heap.size) (fun v50 wr=>ws.length - (match v50 with | .int _ n=>n.toNat | _=>0))
   case atStart =>
    exact⟨0,[],.slice none 0 0,rfl,ajv _,rfl,by simp,k9,k2,hg,ajP _ _ _ _,hB3,ai0 _⟩
   case round =>
    clear k9 k2 hg;obtain⟨i,acc,sl,rfl,hi,hal,hnw,k9,k2,hg,hrow,hbw,hsz⟩:=hrel;obtain⟨sA,sn,sc,rfl⟩:=Pp hrow;by_cases hp:i<ws.length
    ·have hpi:(i:Int)<(ws.length:Int):=by omega
     have cw:wr.cell? ⟨g,o+i,none⟩=some (.string ws[i]):=by
      rw [ajb hg];exact hcs i _ (ai6 hp)
     have hat:=KF (hFW wr hbw) (hgW wr hbw) ws[i] (hwz _ (ai1 hp));rw [ajA hp] at hnw;simp only [cF,Ar] at hnw;have failed:∀W,wr.heap.size≤W.heap.size→Below wr.heap.size wr W→cF ws=none→res=((⟨#[]⟩,⟨#[]⟩,[]),false):=fun _ _ _ h=>by rw [hdef',h]
     go_wp2_with (go_at_call 116;refine hat.mono ?_)
     rintro e W4 ⟨b4,⟨v,hv4,rfl⟩ | ⟨hno,n4,t4,x4,rfl⟩⟩
     case inr =>
      have hnn:cF ws=none:=by
       rw [hnw];cases hq:aj9 (ae ws[i]) with
       | ok v=>exact absurd hq (hno v)
       | _=>rfl
      obtain rfl:=failed W4 b4.size b4 hnn;have k2:=(b4.block _ (aiV.1 k2).1).trans k2;have hB4:=hbw.trans (b4.mono hbw.size);obtain⟨⟨c0,c1,c2⟩,f0,f1,f2⟩:=bk k2
      go_wp2
      obtain⟨k3,b3'⟩:=vX k2 (ai0 _) (.string ⟨#[]⟩) (.string ⟨#[]⟩) (.slice none 0 0);exact bodyPost_ret_by (dX rfl rfl k3 rfl) rfl ⟨_,rfl,hB4.trans b3',.inl ⟨rfl,rfl⟩⟩
     case inl =>
      rw [hv4] at hnw;simp only at hnw;have k2:=(b4.block _ (aiV.1 k2).1).trans k2;have k9:=(b4.block _ (aiV.1 k9).1).trans k9;have hg:=(b4.block _ (aiV.1 hg).1).trans hg;have hB4:=hbw.trans (b4.mono hbw.size);have hrow:=lf hrow b4;have hsz4:=ai2 hsz b4.size;have hwi:=AQ (hFW W4 hB4) (h0W W4 hB4) v (-999999) 999999
      go_wp2_with (go_at_call 52;refine hwi.mono ?_)
      rintro e W5 ⟨rfl,b5⟩;have k2:=(b5.block _ (aiV.1 k2).1).trans k2;have k9:=(b5.block _ (aiV.1 k9).1).trans k9;have hg:=(b5.block _ (aiV.1 hg).1).trans hg;have hB5:=hB4.trans (b5.mono hB4.size);have hrow:=lf hrow b5;have hsz5:=ai2 hsz4 b5.size;by_cases hr : -999999≤v∧v≤999999
      case neg =>
       have hnn:cF ws=none:=by
        rw [hnw,if_neg (fun h=>hr h.1)];rfl
       obtain rfl:=failed W4 b4.size b4 hnn;simp only [hr,decide_false];obtain⟨⟨c0,c1,c2⟩,f0,f1,f2⟩:=bk k2
       go_wp2
       obtain⟨k3,b3'⟩:=vX k2 (ai0 _) (.string ⟨#[]⟩) (.string ⟨#[]⟩) (.slice none 0 0);exact bodyPost_ret_by (dX rfl rfl k3 rfl) rfl ⟨_,rfl,hB5.trans b3',.inl ⟨rfl,rfl⟩⟩
      case pos =>
       simp only [hr,and_self,decide_true];have hit:=Cf (hFW W5 hB5) (h1W W5 hB5) (n:=v) (by omega) (by omega)
       go_wp2_with (go_at_call 117;refine hit.mono ?_)
       rintro e W6 ⟨rfl,b6⟩;have k2:=(b6.block _ (aiV.1 k2).1).trans k2;have k9:=(b6.block _ (aiV.1 k9).1).trans k9;have hg:=(b6.block _ (aiV.1 hg).1).trans hg;have hB6:=hB5.trans (b6.mono hB5.size);have hrow:=lf hrow b6;have hsz6:=ai2 hsz5 b6.size;by_cases he:aI v=ws[i]
       case neg =>
        have hnn:cF ws=none:=by
         rw [hnw,if_neg (fun h=>he h.2)];rfl
        obtain rfl:=failed W4 b4.size b4 hnn;have he2:((aI v).toList==(ws[i]).toList)=false:=by
         rw [beq_eq_false_iff_ne];intro h;exact he (sd h)
        obtain⟨⟨c0,c1,c2⟩,f0,f1,f2⟩:=bk k2
        go_wp2
        obtain⟨k3,b3'⟩:=vX k2 (ai0 _) (.string ⟨#[]⟩) (.string ⟨#[]⟩) (.slice none 0 0);exact bodyPost_ret_by (dX rfl rfl k3 rfl) rfl ⟨_,rfl,hB6.trans b3',.inl ⟨rfl,rfl⟩⟩
       case pos =>
        rw [if_pos ⟨hr,he⟩] at hnw;simp only [ajg,ajX] at hnw;rw [he];obtain⟨⟨c0,c1,c2⟩,f0,f1,f2⟩:=bk k9;have hnb:(ajr sA sn sc).ownBlock≠some W2.heap.size:=qG hrow hl9;have hwz4:=hwl
        go_wp2_with (first
         | (at_builtin;refine wpList_append_own _ rfl _ _ 38 rfl W3.heap.size 3 i0 (.int .i64 0) 1 8 Tryz.underlying38 hi0 hz0 hz1 hz2 rfl (by decide) _ _ _ rfl (hrow.alloc _) ⟨W6.heap.size,0,none⟩ 1 1 [.int .i64 v] rfl rfl (cell_one_new _ _ _) (by intro u hu;simp at hu;subst hu;rfl) (by unfold maxLen;omega) (by omega) (by simp;omega) ?_;intro v' w2 hown' hgrow hnil;obtain⟨g',cap',rfl⟩:=oQ hown';have hk:=eS k9 hgrow hnb;obtain⟨⟨d0,d1,d2⟩,g0,g1,g2⟩:=bk hk)
         | go_in)
        have hgk:=eS hg hgrow (qG hrow hlg);have k2k:=eS k2 hgrow (qG hrow (by omega));have hb7:Below w.heap.size w w2:=(hB6.alloc hB6.size (.cells #[.int .i64 v] 3)).grown hgrow (by simp;omega) (fun j hj=>by have:=im hrow hj;omega);refine⟨⟨i+1,acc++[v],.slice (some ⟨g',0,none⟩) (i+1) cap',congrArg (ai8 .i64) (by omega),by omega,by simp [hal],?_,?_,?_,?_,?_,hb7.setCell (by simp;omega) _,?_⟩,?_⟩
        ·rw [hnw]
         congr 1
         funext r
         simp
        ·rw [heap_setCell_same _ _ _ _ _ _ hk]
         rfl
        ·rw [heap_setCell_other _ _ _ _ (by simp;omega)]
         exact k2k
        ·rw [heap_setCell_other _ _ _ _ (by simp;omega)]
         exact hgk
        ·rw [ajJ]
         exact hown'.kept (Fu _ _ _ _) (.inr (qG hown' hl9))
        ·have e1:=hgrow.size
         simp at e1;simp [aja];omega
        ·show ws.length - ((i:Int)+1).toNat<ws.length - (i:Int).toNat
         omega
    ·have hpi:¬(i:Int)<(ws.length:Int):=by omega
     have hil:i=ws.length:=by omega
     rw [ajG (by omega)] at hnw;simp only [cF,ajS,ajT] at hnw;rw [hnw] at hdef';subst hdef';obtain⟨⟨c0,c1,c2⟩,f0,f1,f2⟩:=bk k9;obtain⟨⟨d0,d1,d2⟩,e0,e1,e2⟩:=bk k2
     go_wp2
     obtain⟨k3,b3'⟩:=vX k2 (ai0 _) (.string word) (.string ⟨#[]⟩) (.slice sA sn sc);have h4:(ajr sA sn sc = .slice none 0 0∧acc=[])∨∃g cap cur t,ajr sA sn sc = .slice (some ⟨g,0,none⟩) acc.length cap∧acc.length≤cap∧w.heap.size≤g∧(((wr.setCell ⟨w.heap.size,0,none⟩ (.string word)).setCell ⟨w.heap.size,1,none⟩ (.string ⟨#[]⟩)).setCell ⟨w.heap.size,2,none⟩ (.slice sA sn sc)).heap[g]?=some (.cells cur t (0,0)) ∧
       ∀(i:Nat) (n:Int),acc[i]?=some n→cur[i]?=some (.int .i64 n):=by
      obtain⟨hxs,⟨hsv,hz⟩ | ⟨g2,cap2,cur,hsv,hge2,hg2,hcap,_,hcs2,htake⟩⟩:=hrow
      ·exact .inl ⟨hsv,ai4 (by omega)⟩
      ·refine .inr ⟨g2,cap2,cur,3,by rw [hal];exact hsv,by rw [hal];exact hcap,by omega,?_,fun j n hn=>?_⟩
       ·rw [heap_setCell_other _ _ _ _ (by simp;omega),heap_setCell_other _ _ _ _ (by simp;omega),heap_setCell_other _ _ _ _ (by simp;omega)]
        exact hg2
       ·have e:(acc.map (ai8 .i64))[j]?=some (.int .i64 n):=by rw [ajp,hn];rfl
        have hj:j<acc.length:=(ajh.1 hn).1;rw [←htake,ajs (by omega)] at e;simpa using e
     exact bodyPost_ret_by (dX rfl rfl k3 rfl) rfl ⟨_,rfl,hbw.trans b3',h4⟩
  ·cases found
   ·have hdef':res=((⟨#[]⟩,⟨#[]⟩,[]),false):=hdef
    subst hdef';obtain⟨⟨c0,c1,c2⟩,f0,f1,f2⟩:=bk k2
    go_wp2
    obtain⟨k3,b3'⟩:=vX k2 (ai0 _) (.string ⟨#[]⟩) (.string ⟨#[]⟩) (.slice none 0 0);exact bodyPost_ret_by (dX rfl rfl k3 rfl) rfl ⟨_,rfl,hB2.trans b3',.inl ⟨rfl,rfl⟩⟩
   have hdef':res=match cF (aC 32 rest) with
    | none=>((⟨#[]⟩,⟨#[]⟩,[]),false)
    | some r=>((word,⟨#[]⟩,r),decide (((aC 32 rest).length:Int)=3)):=hdef
   clear hdef;obtain⟨i0,hi0,hz0,hz1,hz2⟩:=info_parts Xr;have b3:Below w.heap.size w (W2.alloc (.cells #[.string word,.string ⟨#[]⟩,.slice none 0 0] 107)):=hB2.alloc hB2.size _;have k9:(W2.alloc (.cells #[.string word,.string ⟨#[]⟩,.slice none 0 0] 107)).heap[W2.heap.size]?=some (.cells #[.string word,.string ⟨#[]⟩,.slice none 0 0] 107):=aji;have k2:=(heap_alloc_old W2 (.cells #[.string word,.string ⟨#[]⟩,.slice none 0 0] 107) hlt2).trans k2;have hc3:=Gd (hFW _ b3) (h0W _ b3) rest hcz2;have hwz:∀x∈aC 32 rest,x.size≤1048576:=fun x hx=>ai2 (fL 32 rest x hx) hcz2
   have hwl:(aC 32 rest).length≤1048577:=by
    rw [fb];have h1:=fc 32 (ae rest);have h2:=cZ rest;omega
   generalize aC 32 rest=ws at hc3 hwz hwl hdef'
   go_wp2_with (go_at_call 70;refine hc3.mono ?_)
   rintro e W3 ⟨b4,g,o,c,cs,tt,rfl,hge,hg,hcs⟩;have hB3:=b3.trans (b4.mono b3.size);have k9:=(b4.block _ (aiV.1 k9).1).trans k9;have k2:=(b4.block _ (aiV.1 k2).1).trans k2;have hl9:W2.heap.size<W3.heap.size:=(aiV.1 k9).1;have hlg:g<W3.heap.size:=(aiV.1 hg).1;have hg9:W2.heap.size<g:=by
    have:(W2.alloc (aki #[.string word,.string ⟨#[]⟩,.slice none 0 0] 107)).heap.size=W2.heap.size+1:=by simp
    omega
   clear hc3 b3 b4
   go_wp2
   go_loopw [50] (fun v50 wr=>∃(i:Nat) (acc:List Int) (sl:Value),v50 = .int .i64 i∧i≤ws.length∧acc.length=i∧cF ws=(cF (ws.drop i)).map (acc++·) ∧
     wr.heap[W2.heap.size]?=some (.cells #[.string word,.string ⟨#[]⟩,sl] 107 (0,0))∧wr.heap[w.heap.size]?=some (.cells #[.string ⟨#[]⟩,.string ⟨#[]⟩,.slice none 0 0] 107 (0,0))∧wr.heap[g]?=some (.cells cs tt (0,0)) ∧
     wr.ownsRow W3.heap.size 3 1 sl i (acc.map (ai8 .i64))∧Below w.heap.size w wr∧W3.heap.size≤wr.heap.size) (fun v50 wr=>ws.length - (match v50 with | .int _ n=>n.toNat | _=>0))
   case atStart =>
    exact⟨0,[],.slice none 0 0,rfl,ajv _,rfl,by simp,k9,k2,hg,ajP _ _ _ _,hB3,ai0 _⟩
   case round =>
    clear k9 k2 hg;obtain⟨i,acc,sl,rfl,hi,hal,hnw,k9,k2,hg,hrow,hbw,hsz⟩:=hrel;obtain⟨sA,sn,sc,rfl⟩:=Pp hrow;by_cases hp:i<ws.length
    ·have hpi:(i:Int)<(ws.length:Int):=by omega
     have cw:wr.cell? ⟨g,o+i,none⟩=some (.string ws[i]):=by
      rw [ajb hg];exact hcs i _ (ai6 hp)
     have hat:=KF (hFW wr hbw) (hgW wr hbw) ws[i] (hwz _ (ai1 hp));rw [ajA hp] at hnw;simp only [cF,Ar] at hnw;have failed:∀W,wr.heap.size≤W.heap.size→Below wr.heap.size wr W→cF ws=none→res=((⟨#[]⟩,⟨#[]⟩,[]),false):=fun _ _ _ h=>by rw [hdef',h]
     go_wp2_with (go_at_call 116;refine hat.mono ?_)
     rintro e W4 ⟨b4,⟨v,hv4,rfl⟩ | ⟨hno,n4,t4,x4,rfl⟩⟩
     case inr =>
      have hnn:cF ws=none:=by
       rw [hnw];cases hq:aj9 (ae ws[i]) with
       | ok v=>exact absurd hq (hno v)
       | _=>rfl
      obtain rfl:=failed W4 b4.size b4 hnn;have k2:=(b4.block _ (aiV.1 k2).1).trans k2;have hB4:=hbw.trans (b4.mono hbw.size);obtain⟨⟨c0,c1,c2⟩,f0,f1,f2⟩:=bk k2
      go_wp2
      obtain⟨k3,b3'⟩:=vX k2 (ai0 _) (.string ⟨#[]⟩) (.string ⟨#[]⟩) (.slice none 0 0);exact bodyPost_ret_by (dX rfl rfl k3 rfl) rfl ⟨_,rfl,hB4.trans b3',.inl ⟨rfl,rfl⟩⟩
     case inl =>
      rw [hv4] at hnw;simp only at hnw;have k2:=(b4.block _ (aiV.1 k2).1).trans k2;have k9:=(b4.block _ (aiV.1 k9).1).trans k9;have hg:=(b4.block _ (aiV.1 hg).1).trans hg;have hB4:=hbw.trans (b4.mono hbw.size);have hrow:=lf hrow b4;have hsz4:=ai2 hsz b4.size;have hwi:=AQ (hFW W4 hB4) (h0W W4 hB4) v (-999999) 999999
      go_wp2_with (go_at_call 52;refine hwi.mono ?_)
      rintro e W5 ⟨rfl,b5⟩;have k2:=(b5.block _ (aiV.1 k2).1).trans k2;have k9:=(b5.block _ (aiV.1 k9).1).trans k9;have hg:=(b5.block _ (aiV.1 hg).1).trans hg;have hB5:=hB4.trans (b5.mono hB4.size);have hrow:=lf hrow b5;have hsz5:=ai2 hsz4 b5.size;by_cases hr : -999999≤v∧v≤999999
      case neg =>
       have hnn:cF ws=none:=by
        rw [hnw,if_neg (fun h=>hr h.1)];rfl
       obtain rfl:=failed W4 b4.size b4 hnn;simp only [hr,decide_false];obtain⟨⟨c0,c1,c2⟩,f0,f1,f2⟩:=bk k2
       go_wp2
       obtain⟨k3,b3'⟩:=vX k2 (ai0 _) (.string ⟨#[]⟩) (.string ⟨#[]⟩) (.slice none 0 0);exact bodyPost_ret_by (dX rfl rfl k3 rfl) rfl ⟨_,rfl,hB5.trans b3',.inl ⟨rfl,rfl⟩⟩
      case pos =>
       simp only [hr,and_self,decide_true];have hit:=Cf (hFW W5 hB5) (h1W W5 hB5) (n:=v) (by omega) (by omega)
       go_wp2_with (go_at_call 117;refine hit.mono ?_)
       rintro e W6 ⟨rfl,b6⟩;have k2:=(b6.block _ (aiV.1 k2).1).trans k2;have k9:=(b6.block _ (aiV.1 k9).1).trans k9;have hg:=(b6.block _ (aiV.1 hg).1).trans hg;have hB6:=hB5.trans (b6.mono hB5.size);have hrow:=lf hrow b6;have hsz6:=ai2 hsz5 b6.size;by_cases he:aI v=ws[i]
       case neg =>
        have hnn:cF ws=none:=by
         rw [hnw,if_neg (fun h=>he h.2)];rfl
        obtain rfl:=failed W4 b4.size b4 hnn;have he2:((aI v).toList==(ws[i]).toList)=false:=by
         rw [beq_eq_false_iff_ne];intro h;exact he (sd h)
        obtain⟨⟨c0,c1,c2⟩,f0,f1,f2⟩:=bk k2
        go_wp2
        obtain⟨k3,b3'⟩:=vX k2 (ai0 _) (.string ⟨#[]⟩) (.string ⟨#[]⟩) (.slice none 0 0);exact bodyPost_ret_by (dX rfl rfl k3 rfl) rfl ⟨_,rfl,hB6.trans b3',.inl ⟨rfl,rfl⟩⟩
       case pos =>
        rw [if_pos ⟨hr,he⟩] at hnw;simp only [ajg,ajX] at hnw;rw [he];obtain⟨⟨c0,c1,c2⟩,f0,f1,f2⟩:=bk k9;have hnb:(ajr sA sn sc).ownBlock≠some W2.heap.size:=qG hrow hl9;have hwz4:=hwl
        go_wp2_with (first
         | (at_builtin;refine wpList_append_own _ rfl _ _ 38 rfl W3.heap.size 3 i0 (.int .i64 0) 1 8 Tryz.underlying38 hi0 hz0 hz1 hz2 rfl (by decide) _ _ _ rfl (hrow.alloc _) ⟨W6.heap.size,0,none⟩ 1 1 [.int .i64 v] rfl rfl (cell_one_new _ _ _) (by intro u hu;simp at hu;subst hu;rfl) (by unfold maxLen;omega) (by omega) (by simp;omega) ?_;intro v' w2 hown' hgrow hnil;obtain⟨g',cap',rfl⟩:=oQ hown';have hk:=eS k9 hgrow hnb;obtain⟨⟨d0,d1,d2⟩,g0,g1,g2⟩:=bk hk)
         | go_in)
        have hgk:=eS hg hgrow (qG hrow hlg);have k2k:=eS k2 hgrow (qG hrow (by omega));have hb7:Below w.heap.size w w2:=(hB6.alloc hB6.size (.cells #[.int .i64 v] 3)).grown hgrow (by simp;omega) (fun j hj=>by have:=im hrow hj;omega);refine⟨⟨i+1,acc++[v],.slice (some ⟨g',0,none⟩) (i+1) cap',congrArg (ai8 .i64) (by omega),by omega,by simp [hal],?_,?_,?_,?_,?_,hb7.setCell (by simp;omega) _,?_⟩,?_⟩
        ·rw [hnw]
         congr 1
         funext r
         simp
        ·rw [heap_setCell_same _ _ _ _ _ _ hk]
         rfl
        ·rw [heap_setCell_other _ _ _ _ (by simp;omega)]
         exact k2k
        ·rw [heap_setCell_other _ _ _ _ (by simp;omega)]
         exact hgk
        ·rw [ajJ]
         exact hown'.kept (Fu _ _ _ _) (.inr (qG hown' hl9))
        ·have e1:=hgrow.size
         simp at e1;simp [aja];omega
        ·show ws.length - ((i:Int)+1).toNat<ws.length - (i:Int).toNat
         omega
    ·have hpi:¬(i:Int)<(ws.length:Int):=by omega
     have hil:i=ws.length:=by omega
     rw [ajG (by omega)] at hnw;simp only [cF,ajS,ajT] at hnw;rw [hnw] at hdef';subst hdef';obtain⟨⟨c0,c1,c2⟩,f0,f1,f2⟩:=bk k9;obtain⟨⟨d0,d1,d2⟩,e0,e1,e2⟩:=bk k2
     go_wp2
     obtain⟨k3,b3'⟩:=vX k2 (ai0 _) (.string word) (.string ⟨#[]⟩) (.slice sA sn sc);have h4:(ajr sA sn sc = .slice none 0 0∧acc=[])∨∃g cap cur t,ajr sA sn sc = .slice (some ⟨g,0,none⟩) acc.length cap∧acc.length≤cap∧w.heap.size≤g∧(((wr.setCell ⟨w.heap.size,0,none⟩ (.string word)).setCell ⟨w.heap.size,1,none⟩ (.string ⟨#[]⟩)).setCell ⟨w.heap.size,2,none⟩ (.slice sA sn sc)).heap[g]?=some (.cells cur t (0,0)) ∧
       ∀(i:Nat) (n:Int),acc[i]?=some n→cur[i]?=some (.int .i64 n):=by
      obtain⟨hxs,⟨hsv,hz⟩ | ⟨g2,cap2,cur,hsv,hge2,hg2,hcap,_,hcs2,htake⟩⟩:=hrow
      ·exact .inl ⟨hsv,ai4 (by omega)⟩
      ·refine .inr ⟨g2,cap2,cur,3,by rw [hal];exact hsv,by rw [hal];exact hcap,by omega,?_,fun j n hn=>?_⟩
       ·rw [heap_setCell_other _ _ _ _ (by simp;omega),heap_setCell_other _ _ _ _ (by simp;omega),heap_setCell_other _ _ _ _ (by simp;omega)]
        exact hg2
       ·have e:(acc.map (ai8 .i64))[j]?=some (.int .i64 n):=by rw [ajp,hn];rfl
        have hj:j<acc.length:=(ajh.1 hn).1;rw [←htake,ajs (by omega)] at e;simpa using e
     exact bodyPost_ret_by (dX rfl rfl k3 rfl) rfl ⟨_,rfl,hbw.trans b3',h4⟩
abbrev lnD (x:Ln):D:=.agg [T x.1,T x.2.1,ai x.2.2]
def VN (ds:List D):Option Out:=match ds with
 | [d]=>(Ae d).bind fun s=>if s.size≤1048576 then some (.ret [lnD (rdI s).1,B (rdI s).2] []) else none
 | _=>none
theorem aeJ (s:ByteArray) (hs:s.size≤1048576):VN [T s]=some (.ret [lnD (rdI s).1,B (rdI s).2] []):=by
 have e:VN [T s]=(Ae (T s)).bind fun s=>if s.size≤1048576 then some (.ret [lnD (rdI s).1,B (rdI s).2] []) else none:=rfl
 rw [e,show Ae (T s)=some s from rfl,ajg,if_pos hs]
@[reducible] def ya:FS:={pm:=[.dat 0],rm:=[.dat 1,.dat 0],f:=VN}
theorem ad8 {w:World} {G:Nat→Prop} {x:Ln} {sl:Value} (h:(sl = .slice none 0 0∧x.2.2=[])∨∃g cap cur t,sl = .slice (some ⟨g,0,none⟩) x.2.2.length cap∧x.2.2.length≤cap∧G g∧w.heap[g]?=some (.cells cur t (0,0))∧∀(i:Nat) (n:Int),x.2.2[i]?=some n→cur[i]?=some (.int .i64 n)) :
  bU w G (lnD x) (.agg #[.string x.1,.string x.2.1,sl]):=by
 refine⟨[.string x.1,.string x.2.1,sl],rfl,?_⟩
 simp only [RepC];refine⟨ax.2 ⟨[.string x.1],[.string x.2.1,sl],rfl,by simp only [RepC];exact⟨trivial,rfl⟩,ax.2 ⟨[.string x.2.1],[sl],rfl,by simp only [RepC];exact⟨trivial,rfl⟩,ax.2 ⟨[sl],[],rfl,?_,aZ.2 rfl⟩⟩⟩,rfl⟩
 simp only [RepC];rcases h with ⟨rfl,h⟩ | ⟨g,cap,cur,t,rfl,h1,h2,h3,h4⟩
 ·rw [h]
  exact⟨none,0,[],rfl,ai0 _,aZ.2 rfl,by simp,fun h=>absurd rfl h⟩
 ·refine⟨some ⟨g,0,none⟩,cap,x.2.2.map (ai8 .i64),by simp,by simpa using h1,pd _,fun d hd=>?_,fun _=>⟨g,0,rfl,h2,fun j u hu=>?_⟩⟩
  ·obtain⟨n,_,rfl⟩:=List.mem_map.1 hd
   rfl
  ·rw [ajp] at hu
   obtain⟨n,hn,rfl⟩:=ajw.1 hu;rw [ajb h3,Nat.zero_add];exact h4 j n hn
theorem MB:au gl2 Tryz.prog 79 ya:=by
 have he:∀args w,(callFunc 79 args).run Tryz.prog w = .ok (.enter 79 args) w:=ajf Tryz.func79 (by kernel_rfl) rfl;refine cd he fun ds rs us hd args w F ow hg ha hF _=>?_
 obtain⟨d,y,rfl,h2,h3⟩:=ny ha;replace hd:VN [d]=some (.ret rs us):=hd;obtain⟨s,hs,hd'⟩:=aje.1 hd;clear hd;obtain rfl:=Gl hs;split at hd'
 case isFalse=>cases hd'
 rename_i hz;cases hd';obtain⟨rfl,_⟩:=Fk h3;rw [GX h2];refine(RA s hz w F (fun b hb=>(hF b hb).1) hg).mono ?_
 rintro e w' ⟨sl,rfl,hB,hsl⟩
 let F':Nat→Prop:=fun b=>F b∨(w.heap.size≤b∧b<w'.heap.size)
 refine⟨_,rfl,F',fun _=>none,[.agg #[.string (rdI s).1.1,.string (rdI s).1.2.1,sl],.bool (rdI s).2],rfl,
  ⟨hB.os,hB.tape,hB.output,hB.size,fun b hb _=>hB.block b hb,fun b hb=>.inl hb,fun b hb=>?_,fun b j h=>(by cases h),rfl,rfl,fun j=>?_,trivial⟩⟩
 ·rcases hb with hb | hb
  ·exact⟨.inl hb,ajD (hF b hb).1 hB.size,rfl⟩
  ·exact⟨.inr hb.1,hb.2,rfl⟩
 ·match j with
  | 0 =>
   refine .inr (show bU w' (FB F' w.heap.size 1) _ _ from ad8 ?_)
   rcases hsl with h | ⟨g,cap,cur,t,q1,q2,q3,q4,q5⟩
   ·exact .inl h
   ·exact .inr ⟨g,cap,cur,t,q1,q2,⟨.inr ⟨q3,(aiV.1 q4).1⟩,q3⟩,q4,q5⟩
  | 1=>exact .inr (show bU w' _ (B (rdI s).2) _ from ct.2 ⟨rfl,rfl⟩)
  | j+2=>exact .inl rfl
end Go.Proofs.YtjafgdefcggjcaaGreatDoor

namespace Go.Proofs.YtjafgdefcggjcaaGreatDoor
open Go Go.V
abbrev Fo:=Int × Bool
abbrev Lf:=Int × Bool
def ro (l:List Fo):Bool:=(l.all fun f=>decide (1≤f.1∧f.1≤2))&&decide (l.length≤4)
def szF (l:List Fo):Nat × Nat:=l.foldl (fun s f=>if f.1=1 then(s.1*2,s.2) else(s.1,s.2*2)) (1,1)
def lW (pile other:List Lf) (over:Bool):List Lf :=
 if over=true then other.reverse.map (fun x=>(x.1,!x.2))++pile else pile++other.reverse.map (fun x=>(x.1,!x.2))
abbrev Pls:=List (List (List Lf))
def atF (ps:Pls) (y x:Nat):List Lf:=(ps.getD y []).getD x []
def Xz (ps:Pls) (f:Fo):Pls :=
 if f.1=2 then(ajd (ps.length / 2)).map fun y=>(ajd (ps.getD y []).length).map fun x=>lW (atF ps y x) (atF ps (ps.length - 1 - y) x) f.2
 else(ajd ps.length).map fun y=>(ajd ((ps.getD 0 []).length / 2)).map fun x=>lW (atF ps y x) (atF ps y ((ps.getD 0 []).length - 1 - x)) f.2
def aht (l:List Fo):Pls:=(ajd (szF l).2).map fun y=>(ajd (szF l).1).map fun x=>[(((y*(szF l).1+x:Nat):Int),true)]
def gx (l:List Fo) (n:Nat):Pls:=(l.take n).foldl Xz (aht l)
def fk (l:List Fo):List Lf:=atF (gx l l.length) 0 0
def Du (front:Bool) (i:Nat) (x:Lf):Int:=if x.2=front then 2*(i:Int)+1 else 2*(i:Int)+2
def Yf (l:List Fo) (front:Bool) (n:Nat):List Int :=
 ((fk l).take n).zipIdx.foldl (fun a p=>a.set p.1.1.toNat (Du front p.2 p.1)) (ajk (fk l).length 0)
def qL (p:List Int):List Int:=p.reverse.map fun x=>-x
def abp (stay turned:List Int) (over:Bool):List Int:=if over=true then turned++stay else stay++turned
def Tn (s:Nat × Nat × List (List Int)) (f:Fo):Nat × Nat × List (List Int) :=
 if f.1=1 then(s.1 / 2,s.2.1,(ajd s.2.1).flatMap fun r=>(ajd (s.1 / 2)).map fun k=>abp (s.2.2.getD (r*s.1+k) []) (qL (s.2.2.getD (r*s.1+s.1 - 1 - k) [])) f.2)
 else(s.1,s.2.1 / 2,(ajd (s.2.1 / 2)).flatMap fun r=>(ajd s.1).map fun k=>abp (s.2.2.getD (r*s.1+k) []) (qL (s.2.2.getD ((s.2.1 - 1 - r)*s.1+k) [])) f.2)
def kF (l:List Fo) (n:Nat):Nat × Nat × List (List Int):=(l.take n).foldl Tn ((szF l).1,(szF l).2,(ajd ((szF l).1*(szF l).2)).map fun i=>[((i:Nat):Int)+1])
def du (l:List Fo):List Int:=(kF l l.length).2.2.getD 0 []
def Fb (n:Int):Int:=if -n<n then n else -n
def Ad (l:List Fo) (n:Nat):List Int × List Int :=
 ((du l).take n).zipIdx.foldl (fun a p =>
  (a.1.set (Fb p.1 - 1).toNat (if p.1<0 then 2*(p.2:Int)+2 else 2*(p.2:Int)+1),a.2.set (Fb p.1 - 1).toNat (if p.1<0 then 2*(p.2:Int)+1 else 2*(p.2:Int)+2)))
  (ajk (du l).length 0,ajk (du l).length 0)
def UJ:Nat→List (List Fo)
 | 0=>[[]]
 | n+1=>(UJ n).flatMap fun l=>[(1,true)::l,(2,true)::l]
def uS:List (List Fo):=UJ 0++UJ 1++UJ 2++UJ 3++UJ 4
theorem Wy:∀(n:Nat) (l:List Fo),l.length=n→(∀f∈l,(f.1=1∨f.1=2)∧f.2=true)→l∈UJ n
 | 0,l,h,_=>by
  rw [ai4 h];simp [UJ]
 | n+1,[],h,_=>by simp at h
 | n+1,f::l,h,hf=>by
  have ih:=Wy n l (by simpa using h) fun g hg=>hf g (by simp [hg])
  obtain⟨h1,h2⟩:=hf f (by simp);simp only [UJ,List.mem_flatMap];refine⟨l,ih,?_⟩
  obtain⟨a,b⟩:=f;dsimp only at h1 h2;subst h2;rcases h1 with rfl | rfl<;>simp
theorem FP {l:List Fo} (h:l.length≤4) (hf:∀f∈l,(f.1=1∨f.1=2)∧f.2=true):l∈uS:=by
 have:=Wy l.length l rfl hf;unfold uS;simp only [List.mem_append];have h5:l.length=0∨l.length=1∨l.length=2∨l.length=3∨l.length=4:=by omega
 rcases h5 with e | e | e | e | e<;>rw [e] at this<;>simp [this]
def af2 (ps:Pls) (rows cols m:Nat):Bool:=decide (ps.length=rows)&&ps.all fun r=>decide (r.length=cols)&&r.all fun p=>decide (p.length=m)
def okF (l:List Fo):Bool :=
 decide (Yf l true (fk l).length=(Ad l (du l).length).1)&&decide ((fk l).length=(szF l).1*(szF l).2)&&decide ((du l).length=(szF l).1*(szF l).2)
 && decide (1≤(szF l).1∧(szF l).1≤16∧1≤(szF l).2∧(szF l).2≤16∧(szF l).1*(szF l).2≤16)
 && ((fk l).all fun x=>decide (0≤x.1∧x.1<((fk l).length:Int)))
 && ((du l).all fun x=>decide (0≤Fb x - 1∧Fb x - 1<((du l).length:Int)))
 && ((Ad l (du l).length).1.all fun n=>decide (0≤n∧n≤100))
 && ((ajd l.length).all fun n=>(let s:=szF (l.drop n);af2 (gx l n) s.2 s.1 (2 ^ n))
  && (let s:=kF l n;decide (s.1=(szF (l.drop n)).1)&&decide (s.2.1=(szF (l.drop n)).2)&&decide (s.2.2.length=s.1*s.2.1)&&s.2.2.all fun p=>decide (p.length=2 ^ n)))
theorem JG:uS.all okF=true:=by decide +kernel
def yC (cols:Nat):Nat→List Int→ByteArray
 | 0,_=>⟨⟨[]⟩⟩
 | k+1,l=>cj 44 (l.take cols)++⟨⟨[47]⟩⟩++yC cols k (l.drop cols)
def Ll (cols i:Nat):ByteArray:=if i % cols=cols - 1 then⟨⟨[47]⟩⟩ else⟨⟨[44]⟩⟩
def qS (cols:Nat):Nat→List Int→ByteArray
 | _,[]=>⟨⟨[]⟩⟩
 | i,n::l=>aI n++Ll cols i++qS cols (i+1) l
theorem rV (l:List UInt8):ae ⟨⟨l⟩⟩=l:=rfl
theorem WH {cols:Nat} (rest:List Int):∀(r:List Int) (i:Nat),r≠[]→i % cols+r.length=cols→ae (qS cols i (r++rest))=ae (cj 44 r)++47::ae (qS cols (i+r.length) rest)
 | [],_,h,_=>absurd rfl h
 | [a],i,_,h=>by
  have hc:i % cols=cols - 1:=by simp at h;omega
  simp only [ajl,ajU,qS,Ll,hc,if_true,bh,rV,cJ,ajN,List.map_nil,ex,ajI,ake,ajx]
 | a::b::r,i,_,h=>by
  simp only [ajI] at h;have hc:¬i % cols=cols - 1:=by omega
  have hm:(i+1) % cols=i % cols+1:=by
   have hlt:i % cols<cols:=Nat.mod_lt _ (by omega);rw [Nat.add_mod];have h1:1 % cols=1:=akc (by omega);rw [h1,akc (by omega)]
  have ih:=WH rest (b::r) (i+1) (by simp) (by rw [hm,ajI];omega);have e:ae (qS cols i (a::b::r++rest))=ae (aI a)++44::ae (qS cols (i+1) (b::r++rest)):=by
   simp only [ajl,qS,Ll,hc,if_false,bh,rV,ajx];simp
  have e2:ae (cj 44 (a::b::r))=ae (aI a)++44::ae (cj 44 (b::r)):=by
   simp only [cJ,ajN,ex]
  rw [e,ih,e2,ajx,ajl];have e3:i+1+(b::r).length=i+(a::b::r).length:=by simp;omega
  rw [e3]
theorem Sq {cols:Nat} (hc:0<cols):∀(k:Nat) (l:List Int) (i:Nat),l.length=k*cols→i % cols=0→yC cols k l=qS cols i l
 | 0,l,i,h,_=>by
  have:l=[]:=ai4 (by simpa using h);subst this;rfl
 | k+1,l,i,h,hi=>by
  rw [ajt] at h;have hl:(l.take cols).length=cols:=by rw [aju];omega
  have hr:=WH (cols:=cols) (l.drop cols) (l.take cols) i (fun e=>by rw [e] at hl;simp at hl;omega) (by rw [hi,hl];omega);rw [ajY,hl] at hr;apply bP;rw [hr,←Sq hc k (l.drop cols) (i+cols) (by rw [ai5];omega) (by simp [hi])];simp only [yC,bh,rV,ajx];simp
open Go Go.V Go.RowKit Go.Shelf
abbrev lfD (x:Lf):D:=.agg [I x.1,B x.2]
def Vf (x:Lf):List Value:=[.int .i64 x.1,.bool x.2]
theorem ZU {w:World} {F:Nat→Prop}:∀(l:List Lf) (us:List Value),cm w F (l.map lfD) us→us=l.flatMap Vf
 | [],us,h=>aZ.1 h
 | x::l,us,h=>by
  obtain⟨v1,v2,rfl,h1,h2⟩:=ax.1 h;rw [ZU l v2 h2];simp only [RepC] at h1;obtain⟨u1,r1,rfl,g1,h1⟩:=ax.1 h1.1;obtain⟨u2,r2,rfl,g2,h1⟩:=ax.1 h1;simp only [RepC] at g1 g2;rw [g1.1,g2.1,aZ.1 h1];rfl
theorem SG {w:World} {b:Nat}:∀(l:List Lf) (o:Nat),cN w b o (l.flatMap Vf)→∀(i:Nat) (x:Lf),l[i]?=some x→cN w b (o+i*2) (Vf x)
 | [],_,_,i,x,hx=>by simp at hx
 | y::l,o,h,0,x,hx=>by
  simp only [ajj,ajo] at hx;subst hx;intro j u hu;have:=h j u (by rw [List.flatMap_cons,ajQ (ajh.1 hu).1];exact hu);simpa using this
 | y::l,o,h,i+1,x,hx=>by
  have:=SG l (o+2) (by
   have:=h.drop 2;exact this) i x (by simpa using hx)
  rw [show o+(i+1)*2=o+2+i*2 by omega];exact this
theorem XX {w:World} {F:Nat→Prop} (hF:∀b,F b→b<w.heap.size) (hgl:gOk gl0 w F) {d:D} {x:Value} (hx:bU w F d x) {L:List Lf} (hd:fM [d]=some (.ret [.arr 2 (L.map lfD)] [])) :
  Calls Tryz.prog 236 #[x] w fun e w'=>Below w.heap.size w w'∧∃A c,e = .returned (.slice A L.length c)∧(L≠[]→∃b o,A=some ⟨b,o,none⟩∧b<w'.heap.size∧∀(i:Nat) (x:Lf),L[i]?=some x→cN w' b (o+i*2) (Vf x)):=by
 refine(td (ajf Tryz.func236 (by kernel_rfl) rfl) Qz fM rfl hd (args:=#[x]) hgl (show eX w F _ (.dat 2) d x∧True from⟨.inr hx,trivial⟩) hF).mono ?_
 rintro e w' ⟨hB,F',R,vs,rfl,hpost⟩;refine⟨hB,?_⟩
 have hl:=hpost.len
 match vs,hl with
 | [y0],hl =>
  have r0:=(hpost.res 0).resolve_left (by intro h;cases h);replace r0:bU w' _ (.arr 2 (L.map lfD)) y0:=r0;obtain⟨A,c,us,h1,h2,h3,h4,h5⟩:=qy r0;rw [ZU L us h3] at h5;rw [ajB] at h1;refine⟨A,c,by rw [h1];rfl,fun hne=>?_⟩
  obtain⟨b,o,h6,h7,h8⟩:=h5 (by simpa using hne);exact⟨b,o,h6,(hpost.fn b h7.1).2.1,SG L o h8⟩
theorem Kx (front:Bool):∀(l:List (Lf × Nat)) (a:List Int),(l.foldl (fun a p=>a.set p.1.1.toNat (Du front p.2 p.1)) a).length=a.length
 | [],a=>rfl
 | p::l,a=>by rw [List.foldl_cons,Kx front l,List.length_set]
set_option maxHeartbeats 4000000 in
set_option maxRecDepth 1000000 in
theorem ZB (d:D) (x:Value) (front:Bool) (L:List Lf) (w:World) (F:Nat→Prop) (hF:∀b,F b→b<w.heap.size) (hgl:gOk gl0 w F) (hx:bU w F d x) (hd:fM [d]=some (.ret [.arr 2 (L.map lfD)] []))
  (hr:∀x∈L,0≤x.1∧x.1<(L.length:Int)) (hne:L≠[]) (hlz:L.length≤1000000) :
  Calls Tryz.prog 214 #[x,.bool front] w fun e w'=>Below w.heap.size w w' ∧
   ∃g cs,e = .returned (.slice (some ⟨g,0,none⟩) L.length L.length)∧w.heap.size≤g∧w'.heap[g]?=some (.cells cs 3 (0,0))∧cs.toList=((L.zipIdx.foldl (fun a p=>a.set p.1.1.toNat (Du front p.2 p.1)) (ajk L.length 0)).map (ai8 .i64)):=by
 have hc1:=XX hF hgl hx hd
 go_enter Tryz.func214,Tryz.ntmps214
 go_wp2_with (go_at_call 236;refine hc1.mono ?_)
 rintro e W1 ⟨b1,A,c,rfl,hA⟩;obtain⟨b,o,rfl,hbz,hcells⟩:=hA hne;obtain⟨i0,hi0,hz0,hz1,hz2⟩:=info_parts Xr;have hmk:=run_makeSlice (P:=Tryz.prog) W1 38 3 i0 (.int .i64 0) Tryz.underlying38 hi0 hz0 .i64 .i64 (L.length:Int) (L.length:Int) (by omega) (Int.le_refl _) (by rw [hz1,aj7];omega) (by rw [hz2];omega) (by omega);rw [hz1,aj7,ajV] at hmk
 go_wp2
 have hb1:Below w.heap.size w (W1.alloc (.cells (madeCells #[.int .i64 0] L.length) 3)):=b1.alloc b1.size _;have hk1:(W1.alloc (.cells (madeCells #[.int .i64 0] L.length) 3)).heap[W1.heap.size]?=some (.cells (madeCells #[.int .i64 0] L.length) 3 (0,0)):=aji;have hg0:w.heap.size≤W1.heap.size:=b1.size;clear hmk hc1
 go_loopw [16] (fun v16 wr=>∃(i:Nat) (cs:Array Value),v16 = .int .i64 i∧i≤L.length∧wr.heap[W1.heap.size]?=some (.cells cs 3 (0,0))∧cs.toList=(((L.zipIdx.take i).foldl (fun a p=>a.set p.1.1.toNat (Du front p.2 p.1)) (ajk L.length 0)).map (ai8 .i64)) ∧
   Below w.heap.size w wr∧wr.heap[b]?=W1.heap[b]?∧W1.heap.size<wr.heap.size) (fun v16 wr=>L.length - (match v16 with | .int _ n=>n.toNat | _=>0))
 case atStart =>
  refine⟨0,_,rfl,ajv _,hk1,?_,hb1,heap_alloc_old W1 _ hbz,by simp⟩
  rw [List.take_zero,List.foldl_nil,List.map_replicate];refine List.ext_getElem (by simp [size_madeCells]) fun j h1 h2=>?_
  simp [madeCells,Nat.mod_one]
 case round =>
  obtain⟨i,cs,rfl,hi,hk,hcs,hbw,hb,hsz⟩:=hrel;by_cases hp:i<L.length
  ·have hpi:(i:Int)<(L.length:Int):=by omega
   have hx0:=hr L[i] (ai1 hp);have hcl:=hcells i L[i] (ai6 hp);have c0:wr.cell? ⟨b,o+i*2,none⟩=some (.int .i64 L[i].1):=(aj1 hb).trans (hcl 0 _ rfl);have c1:wr.cell? ⟨b,o+i*2+1,none⟩=some (.bool L[i].2):=(aj1 hb).trans (hcl 1 _ rfl);have hcz:cs.size=L.length:=by
    have:=congrArg aka hcs;rw [ajB,Kx,ajZ] at this;simpa using this
   have hx1:L[i].1.toNat<L.length:=by omega
   have c2:wr.cell? ⟨W1.heap.size,L[i].1.toNat,none⟩=some (cs[L[i].1.toNat]'(by omega)):=by
    rw [ajb hk];exact Array.getElem?_eq_getElem _
   have f2:wr.frozen? ⟨W1.heap.size,L[i].1.toNat,none⟩=false:=ajC hk _;have hstep:(L.zipIdx.take (i+1)).foldl (fun a p=>a.set p.1.1.toNat (Du front p.2 p.1)) (ajk L.length 0)=((L.zipIdx.take i).foldl (fun a p=>a.set p.1.1.toNat (Du front p.2 p.1)) (ajk L.length 0)).set L[i].1.toNat (Du front i L[i]):=by
    rw [ai9 (by simpa using hp),aj8];simp
   by_cases hq:L[i].2=front
   ·have hq2:(L[i].2==front)=true:=by simp [hq]
    go_wp2
    refine⟨⟨i+1,(cs.setIfInBounds L[i].1.toNat (.int .i64 (2*i+2))).setIfInBounds L[i].1.toNat (.int .i64 (2*i+1)),congrArg (ai8 .i64) (by omega),by omega,?_,?_,?_,?_,?_⟩,?_⟩
    ·rw [heap_alloc_old _ _ (by simp [aja];omega)]
     exact heap_setCell_same _ _ _ _ _ _ (heap_setCell_same _ _ _ _ _ _ hk)
    ·rw [hstep]
     simp [Array.toList_setIfInBounds,hcs,List.map_set,Du,hq]
    ·exact Below.alloc ((hbw.setCell hg0 _).setCell hg0 _) (by simp [aja];omega) _
    ·rw [heap_alloc_old _ _ (by simp [aja];omega)]
     rw [heap_setCell_other _ _ _ _ (by simp;omega),heap_setCell_other _ _ _ _ (by simp;omega)];exact hb
    ·simp [aja]
     omega
    ·show L.length - ((i:Int)+1).toNat<L.length - (i:Int).toNat
     omega
   ·have hq2:(L[i].2==front)=false:=by simp [hq]
    go_wp2
    refine⟨⟨i+1,cs.setIfInBounds L[i].1.toNat (.int .i64 (2*i+2)),congrArg (ai8 .i64) (by omega),by omega,?_,?_,?_,?_,?_⟩,?_⟩
    ·rw [heap_alloc_old _ _ (by simp [aja];omega)]
     exact heap_setCell_same _ _ _ _ _ _ hk
    ·rw [hstep]
     simp [Array.toList_setIfInBounds,hcs,List.map_set,Du,hq]
    ·exact Below.alloc (hbw.setCell hg0 _) (by simp [aja];omega) _
    ·rw [heap_alloc_old _ _ (by simp [aja];omega)]
     rw [heap_setCell_other _ _ _ _ (by simp;omega)];exact hb
    ·simp [aja]
     omega
    ·show L.length - ((i:Int)+1).toNat<L.length - (i:Int).toNat
     omega
  ·have hpi:¬(i:Int)<(L.length:Int):=by omega
   have hil:i=L.length:=by omega
   go_wp2
   go_ret
   refine⟨hbw,W1.heap.size,rfl,hg0,cs,hk,?_⟩
   rw [hcs,List.take_of_length_le (by simp;omega)]
theorem ac0 {w:World} {G:Nat→Prop} {l:List Int} {g o c:Nat} {cs:Array Value} {t:TypeId} (hk:w.heap[g]?=some (.cells cs t (0,0))) (hG:G g) (hcs:∀(i:Nat) (x:Int),l[i]?=some x→cs[o+i]?=some (.int .i64 x)) (hc:l.length≤c) :
  bU w G (ai l) (.slice (some ⟨g,o,none⟩) l.length c):=by
 simp only [bU,RepC];refine⟨_,c,l.map (ai8 .i64),by rw [ajB],by rw [ajB];exact hc,pd _,fun d hd=>?_,fun _=>⟨g,o,rfl,hG,fun j u hu=>?_⟩⟩
 ·obtain⟨n,_,rfl⟩:=List.mem_map.1 hd
  rfl
 ·rw [ajp] at hu
  obtain⟨n,hn,rfl⟩:=ajw.1 hu;rw [ajb hk];exact hcs j n hn
theorem abe {w:World} {F:Nat→Prop} (hF:∀b,F b→b<w.heap.size) (hgl:gOk gl1 w F) {l:List Int} {x:Value} (hx:bU w F (ai l) x) (h:∀n∈l,0≤n∧n<1000000000000000000) (hl:l.length≤1000000) :
  Calls Tryz.prog 134 #[x,.string ⟨#[44]⟩] w fun e w'=>e = .returned (.string (cj 44 l))∧Below w.heap.size w w' :=
 mO (ajf Tryz.func134 (by kernel_rfl) rfl) qc dm rfl (KO l 44 h hl) rfl hgl
  (show eX w F _ (.dat 2) (ai l) x∧eX w F _ (.dat 0) (T ⟨#[44]⟩) (.string ⟨#[44]⟩)∧True from⟨.inr hx,.inr (ct.2 ⟨rfl,rfl⟩),trivial⟩) hF
set_option maxHeartbeats 4000000 in
set_option maxRecDepth 1000000 in
theorem abh (d:D) (x:Value) (w:World) (F:Nat→Prop) (hF:∀b,F b→b<w.heap.size) (hgl:gOk gl1 w F) (hx:bU w F d x) (h1:dN [d]=some (.ret [B false] [])) :
  Calls Tryz.prog 180 #[x] w fun e w'=>e = .returned (.tuple #[.string ⟨#[]⟩,.bool false])∧Below w.heap.size w w':=by
 have h0g:gOk gl0 w F:=fun p hp=>hgl p (JP p hp)
 have hc1:Calls Tryz.prog 173 #[x] w fun e w'=>e = .returned (.bool false)∧Below w.heap.size w w' :=
  mO (ajf Tryz.func173 (by kernel_rfl) rfl) qB dN rfl h1 rfl h0g (show eX w F _ (.dat 2) d x∧True from⟨.inr hx,trivial⟩) hF
 go_enter Tryz.func180,Tryz.ntmps180
 go_wp2_with (go_at_call 173;refine hc1.mono ?_)
 rintro e W1 ⟨rfl,b1⟩
 go_wp2
 go_ret2
 exact⟨rfl,b1⟩
def Uu (front:Bool) (L:List Lf):List Int:=L.zipIdx.foldl (fun a p=>a.set p.1.1.toNat (Du front p.2 p.1)) (ajk L.length 0)
theorem Gt (front:Bool) (L:List Lf):(Uu front L).length=L.length:=by rw [Uu,Kx,ajZ]
set_option maxHeartbeats 4000000 in
set_option maxRecDepth 1000000 in
theorem Xn (d:D) (x:Value) (cols rows:Int) (cn k:Nat) (L:List Lf) (l:List Int) (w:World) (F:Nat→Prop) (hF:∀b,F b→b<w.heap.size) (hgl:gOk gl1 w F) (hx:bU w F d x) (h1:dN [d]=some (.ret [B true] [])) (h2:eU [d]=some (.ret [I cols,I rows] []))
  (h3:fM [d]=some (.ret [.arr 2 (L.map lfD)] [])) (hL:l=Uu true L) (hr:∀x∈L,0≤x.1∧x.1<(L.length:Int)) (hcn:cols=(cn:Int)) (hc0:0<cn) (hk0:0<k) (hl:l.length=k*cn) (hlz:l.length≤1000000) (hln:∀n∈l,0≤n∧n<1000000000000000000) :
  Calls Tryz.prog 180 #[x] w fun e w'=>e = .returned (.tuple #[.string (yC cn k l),.bool true])∧Below w.heap.size w w':=by
 subst hcn;have hgW:∀W,Below w.heap.size w W→gOk gl1 W F:=fun W hW=>iu (fun _ h=>h) (fun b hb=>hW.block b (hF b hb)) hgl
 have hFW:∀W,Below w.heap.size w W→∀b,F b→b<W.heap.size:=fun W hW b hb=>ajD (hF b hb) hW.size
 have h0W:∀W,Below w.heap.size w W→gOk gl0 W F:=fun W hW p hp=>hgW W hW p (JP p hp)
 have hxW:∀W,Below w.heap.size w W→bU W F d x:=fun W hW=>co (fun _ h=>h) (fun b hb=>hW.block b (hF b hb)) hx
 have hne:l≠[]:=fun e=>by
  rw [e,ake] at hl;have:=Nat.mul_pos hk0 hc0;omega
 have hc1:Calls Tryz.prog 173 #[x] w fun e w'=>e = .returned (.bool true)∧Below w.heap.size w w' :=
  mO (ajf Tryz.func173 (by kernel_rfl) rfl) qB dN rfl h1 rfl (fun p hp=>hgl p (JP p hp)) (show eX w F _ (.dat 2) d x∧True from⟨.inr hx,trivial⟩) hF
 have hc2:∀W,Below w.heap.size w W→Calls Tryz.prog 213 #[x] W fun e w'=>e = .returned (.tuple #[.int .i64 cn,.int .i64 rows])∧Below W.heap.size W w':=fun W hW =>
  qe (ajf Tryz.func213 (by kernel_rfl) rfl) vI (ds:=[d]) [_,_] eU rfl h2 rfl (h0W W hW) (show eX W F _ (.dat 2) d x∧True from⟨.inr (hxW W hW),trivial⟩) (hFW W hW)
 have hlL:l.length=L.length:=by rw [hL,Gt]
 have hneL:L≠[]:=fun e=>hne (ai4 (by rw [hlL,e];rfl))
 have hc3:∀W,Below w.heap.size w W→Calls Tryz.prog 214 #[x,.bool true] W fun e w'=>Below W.heap.size W w' ∧
   ∃g cs,e = .returned (.slice (some ⟨g,0,none⟩) l.length l.length)∧W.heap.size≤g∧w'.heap[g]?=some (.cells cs 3 (0,0))∧cs.toList=l.map (ai8 .i64):=fun W hW=>by
  rw [hlL,hL];exact ZB d x true L W F (hFW W hW) (h0W W hW) (hxW W hW) h3 hr hneL (by omega)
 clear hL hlL hneL hr h3
 go_enter Tryz.func180,Tryz.ntmps180
 go_wp2_with (go_at_call 173;refine hc1.mono ?_)
 rintro e W1 ⟨rfl,b1⟩;have hc2':=hc2 W1 b1
 go_wp2_with (go_at_call 213;refine hc2'.mono ?_)
 rintro e W2 ⟨rfl,b2⟩;have hB2:=b1.trans (b2.mono b1.size);have hB3:=hB2.alloc hB2.size (.cells #[.pointer none,.slice none 0 0] 67);have hI3:Lib.IsBuilderF 67 5 W2.heap.size W2.heap.size (Lib.byteCells []) _:=Lib.IsBuilderF.of (Lib.fresh_isBuilder 67 5 W2);have hc3':=hc3 _ hB3
 go_wp2_with (go_at_call 214;refine hc3'.mono ?_)
 rintro e W3 ⟨b3,g,cs,rfl,hge,hg,hcs0⟩;have hcs:∀(i:Nat) (x:Int),l[i]?=some x→cs[i]?=some (.int .i64 x):=fun i x hx=>by
  rw [←Array.getElem?_toList,hcs0,ajp,hx];rfl
 have hI3:=iZ hI3 b3;have hsz:W2.heap.size<g:=by
  simp at hge;omega
 have hB3:=hB3.trans (b3.mono hB3.size);have hgl3:g<W3.heap.size:=(aiV.1 hg).1;have hW2:=hB2.size;clear hc1 hc2 hc3 hc3' b3 hge b1 b2 hB2
 go_wp2
 go_loopw [7] (fun v7 wr=>∃(j:Nat) (acc:List UInt8),∃ad,v7 = .slice ad (k*cn - j*cn) (k*cn - j*cn)∧(j<k→ad=some ⟨g,j*cn,none⟩)∧j≤k∧Lib.IsBuilderF 67 5 W2.heap.size W2.heap.size (Lib.byteCells acc) wr∧Below w.heap.size w wr∧wr.heap[g]?=some (.cells cs 3 (0,0))∧W3.heap.size≤wr.heap.size ∧
   acc++ae (yC cn (k - j) (l.drop (j*cn)))=ae (yC cn k l)∧acc.length≤j*(cn*19+1)) (fun v7 wr=>match v7 with | .slice _ n _=>n | _=>0)
 case atStart =>
  exact⟨0,[],some ⟨g,0,none⟩,by simp,by simp,ajv _,hI3,hB3,hg,ai0 _,by simp,by simp⟩
 case round =>
  obtain⟨j,acc,ad,rfl,had,hj,hI,hbw,hg,hsz3,hacc,hal⟩:=hrel;by_cases hp:j<k
  ·obtain rfl:=had hp
   have hmul:j*cn+cn≤k*cn:=by
    rw [←ajt];exact ajK _ hp
   have hpos:0<k*cn - j*cn:=by omega
   have hpos2:(0:Int)<((k*cn - j*cn:Nat):Int):=by omega
   have hpl:((l.drop (j*cn)).take cn).length=cn:=by rw [aju,ai5];omega
   have hpn:∀n∈(l.drop (j*cn)).take cn,0≤n∧n<1000000000000000000:=fun n hn=>hln n (List.mem_of_mem_drop (aj2 hn))
   have hrp:bU wr (fun b=>F b∨b=g) (ai ((l.drop (j*cn)).take cn)) (.slice (some ⟨g,j*cn,none⟩) cn (k*cn - j*cn)):=by
    have:=ac0 (w:=wr) (G:=fun b=>F b∨b=g) (l:=(l.drop (j*cn)).take cn) (o:=j*cn) (c:=k*cn - j*cn) hg (.inr rfl) (fun i x hx=>?_) (by rw [hpl];omega)
    ·rw [hpl] at this
     exact this
    ·have hi:i<cn:=by
      have:=(ajh.1 hx).1;omega
     rw [ajs hi,List.getElem?_drop] at hx;exact hcs _ _ hx
   have hcj:=abe (w:=wr) (F:=fun b=>F b∨b=g) (fun b hb=>hb.elim (hFW wr hbw b) (fun e=>by rw [e];omega)) (iu (fun _ h=>.inl h) (fun _ _=>rfl) (hgW wr hbw)) hrp hpn (by omega);have hsj:=xB (c:=44) hpn;rw [hpl] at hsj;have hdr:ae (yC cn (k - j) (l.drop (j*cn)))=ae (cj 44 ((l.drop (j*cn)).take cn)++⟨#[47]⟩)++ae (yC cn (k - (j+1)) (l.drop ((j+1)*cn))):=by
    rw [show k - j=(k - (j+1))+1 by omega];simp only [yC,bh,List.drop_drop,ajt]
   generalize hJ:cj 44 ((l.drop (j*cn)).take cn)=J at hcj hsj hdr
   go_wp2_with (go_at_call 134;refine hcj.mono ?_)
   intro e W4 he b4;subst he;have hI4:=iZ hI b4;have hB4:=hbw.trans (b4.mono hbw.size);have hcw:=Fg W2.heap.size W2.heap.size _ (J++⟨#[47]⟩) _ hI4 (by
    rw [Lib.byteCells_length,aj0,sz1];have h1:j*(cn*19+1)≤k*cn*19+k:=by
     have h2:=ajK (cn*19+1) (Nat.le_of_lt hp);rw [akb,akb,ajV,ajV,←aj4,←aj4] at h2;rw [akb,ajV,←aj4];exact h2
    have h3:k≤k*cn:=Nat.le_mul_of_pos_right _ hc0;omega) (ai2 (by omega) (ai2 hsz3 b4.size))
   go_wp2_with (go_at_call 43;refine hcw.mono ?_)
   rintro e W5 ⟨rfl,hI5,b5,k5⟩;have hg5:W5.heap[g]?=some (.cells cs 3 (0,0)):=k5 g _ ((b4.block g (aiV.1 hg).1).trans hg) (by simp;omega) (fun c fz h=>by cases h);have hs5:W3.heap.size≤W5.heap.size:=ai2 hsz3 (ai2 b4.size b5.size);have hlt:k*cn - (j+1)*cn=k*cn - j*cn - cn:=by rw [ajt];omega
   go_wp2
   refine⟨⟨j+1,acc++ae (J++⟨#[47]⟩),_,by rw [hlt],fun hj1=>?_,by omega,?_,hB4.trans (b5.mono hW2),hg5,hs5,?_,?_⟩,?_⟩
   ·have h6:(j+2)*cn≤k*cn:=ajK _ (by omega)
    have h7:(j+2)*cn=j*cn+cn+cn:=by rw [ajt,ajt]
    rw [if_neg (by omega),ajt]
   ·rw [Lib.byteCells_append]
    exact Or.inr hI5
   ·rw [←hacc,hdr,ajx]
   ·rw [aj5,bh,aj5,ajt]
    have:(ae J).length=J.size:=rfl;have h2:(ae (⟨#[47]⟩:ByteArray)).length=1:=rfl;omega
   ·show k*cn - j*cn - cn<k*cn - j*cn
    omega
  ·have hjk:j=k:=by omega
   subst hjk;have hcs4:=zZ W2.heap.size W2.heap.size acc _ hI (by omega)
   go_wp2_with (go_at_call 44;refine hcs4.mono ?_)
   rintro e W4 ⟨rfl,h1,b4,k4⟩
   go_wp2
   go_ret2
   rw [Nat.sub_self,yC] at hacc;refine⟨?_,hbw.trans (b4.mono hW2)⟩
   have:acc=ae (yC cn j l):=by rw [←hacc];simp [rV]
   rw [this,nQ];rfl
def agp:D→Option Lf
 | .agg [.v (.int .i64 a),.v (.bool b)]=>some (a,b)
 | _=>none
theorem abb {d:D} {x:Lf} (h:agp d=some x):d=lfD x:=by
 unfold agp at h;split at h
 ·cases h;rfl
 ·cases h
def Sf:List D→Option (List Lf)
 | []=>some []
 | d::l=>(agp d).bind fun x=>(Sf l).map (x::·)
theorem Py:∀(ds:List D) (l:List Lf),Sf ds=some l→ds=l.map lfD
 | [],l,h=>by cases h;rfl
 | d::ds,l,h=>by
  simp only [Sf,aje,ajw] at h;obtain⟨x,h1,m,h2,rfl⟩:=h;rw [abb h1,Py ds m h2];rfl
theorem Ss:∀(l:List Lf),Sf (l.map lfD)=some l
 | []=>rfl
 | x::l=>by
  simp only [ajN,Sf,Ss l];rfl
def ae5:Option Out→Option Bool
 | some (.ret [.v (.bool b)] [])=>some b
 | _=>none
def ZW:Option Out→Option (Int × Int)
 | some (.ret [.v (.int .i64 a),.v (.int .i64 b)] [])=>some (a,b)
 | _=>none
def aac:Option Out→Option (List Lf)
 | some (.ret [.arr 2 ds] [])=>Sf ds
 | _=>none
theorem abD {o:Option Out} {b:Bool} (h:ae5 o=some b):o=some (.ret [B b] []):=by
 unfold ae5 at h;split at h
 ·cases h;rfl
 ·cases h
theorem YV {o:Option Out} {x:Int × Int} (h:ZW o=some x):o=some (.ret [I x.1,I x.2] []):=by
 unfold ZW at h;split at h
 ·cases h;rfl
 ·cases h
theorem YK {o:Option Out} {l:List Lf} (h:aac o=some l):o=some (.ret [.arr 2 (l.map lfD)] []):=by
 unfold aac at h;split at h
 ·rw [Py _ _ h]
 ·cases h
def Ww (c k:Nat) (L:List Lf):Prop:=0<c∧0<k∧L.length=k*c∧L.length≤1000000∧(∀x∈L,0≤x.1∧x.1<(L.length:Int))∧∀n∈Uu true L,0≤n∧n<1000000000000000000
instance (c k:Nat) (L:List Lf):Decidable (Ww c k L):=by unfold Ww;infer_instance
def aeD (d:D):Option Out:=(ae5 (dN [d])).bind fun b=>if b=false then some (.ret [T ⟨#[]⟩,B false] []) else
   (ZW (eU [d])).bind fun x=>(aac (fM [d])).bind fun L =>
    if 0≤x.1∧Ww x.1.toNat (L.length / x.1.toNat) L then some (.ret [T (yC x.1.toNat (L.length / x.1.toNat) (Uu true L)),B true] []) else none
def Ch:List D→Option Out
 | [.arr z ds]=>aeD (.arr z ds)
 | _=>none
@[reducible] def tO:FS:={pm:=[.dat 2],rm:=[.dat 0,.dat 0],f:=Ch}
theorem Jf:au gl1 Tryz.prog 180 tO:=by
 have he:∀args w,(callFunc 180 args).run Tryz.prog w = .ok (.enter 180 args) w:=ajf Tryz.func180 (by kernel_rfl) rfl;refine cd he fun ds rs us hd args w F ow hg ha hF _=>?_
 obtain⟨d,y,rfl,h2,h3⟩:=ny ha;replace hd:Ch [d]=some (.ret rs us):=hd;rw [GX h2];unfold Ch at hd;split at hd
 case h_2=>cases hd
 rename_i z ds e;cases e;have hy:=h3.resolve_left (by intro h;cases h);generalize D.arr z ds=d at *;unfold aeD at hd;obtain⟨b,h1,hd⟩:=aje.1 hd;have h1:=abD h1;split at hd
 case isTrue hb =>
  subst hb;cases hd;refine(abh d y w F (fun b hb=>(hF b hb).1) hg hy h1).mono ?_
  rintro e w' ⟨rfl,hB⟩;refine⟨_,rfl,F,_,[_,_],rfl,fm hB hF rfl rfl [_,_] [_,_] rfl rfl fun j d hj=>?_⟩
  match j,hj with
  | 0,hj =>
   simp only [ajj,ajo] at hj;subst hj;exact⟨_,rfl,ct.2 ⟨rfl,rfl⟩⟩
  | 1,hj =>
   simp only [ajR,ajj,ajo] at hj;subst hj;exact⟨_,rfl,ct.2 ⟨rfl,rfl⟩⟩
 case isFalse hb =>
  obtain rfl:b=true:=by simpa using hb
  obtain⟨⟨cols,rows⟩,h4,hd⟩:=aje.1 hd;obtain⟨L,h5,hd⟩:=aje.1 hd;split at hd
  case isFalse=>cases hd
  rename_i hz;cases hd;dsimp only at hz;obtain⟨hz0,hz⟩:=hz;unfold Ww at hz;refine(Xn d y cols rows cols.toNat (L.length / cols.toNat) L (Uu true L) w F (fun b hb=>(hF b hb).1) hg hy h1 (YV h4) (YK h5) rfl hz.2.2.2.2.1 (by omega) hz.1 hz.2.1 (by rw [Gt];exact hz.2.2.1) (by rw [Gt];exact hz.2.2.2.1) hz.2.2.2.2.2).mono ?_
  rintro e w' ⟨rfl,hB⟩;refine⟨_,rfl,F,_,[_,_],rfl,fm hB hF rfl rfl [_,_] [_,_] rfl rfl fun j d hj=>?_⟩
  match j,hj with
  | 0,hj =>
   simp only [ajj,ajo] at hj;subst hj;exact⟨_,rfl,ct.2 ⟨rfl,rfl⟩⟩
  | 1,hj =>
   simp only [ajR,ajj,ajo] at hj;subst hj;exact⟨_,rfl,ct.2 ⟨rfl,rfl⟩⟩
end Go.Proofs.YtjafgdefcggjcaaGreatDoor

namespace Go.Proofs.YtjafgdefcggjcaaGreatDoor
open Go Go.V
def CR:List Int→Int→List Int
 | [],n=>[n]
 | x::l,n=>if x<n then x::CR l n else n::x::l
def jY (n:Int):List Int→Nat
 | []=>0
 | x::l=>if x<n then jY n l+1 else 0
theorem XW (n:Int):∀l,jY n l≤l.length
 | []=>ai0 _
 | x::l=>by
  unfold jY;split
  ·exact Nat.succ_le_succ (XW n l)
  ·exact ajv _
theorem Wt (n:Int):∀(l:List Int) (i:Nat) (h:i<l.length),i<jY n l→l[i]<n
 | [],i,h,_=>by cases h
 | x::l,i,h,hi=>by
  unfold jY at hi;split at hi
  ·rename_i hx
   cases i with
   | zero=>exact hx
   | succ i=>exact Wt n l i (by simpa using h) (by omega)
  ·omega
theorem Xu (n:Int):∀(l:List Int) (h:jY n l<l.length),¬l[jY n l]<n
 | [],h=>by cases h
 | x::l,h=>by
  by_cases hx:x<n
  ·have e:jY n (x::l)=jY n l+1:=by simp [jY,hx]
   simp only [e,ajn];exact Xu n l (by rw [e] at h;simpa using h)
  ·have e:jY n (x::l)=0:=by simp [jY,hx]
   simp only [e,ajW];exact hx
theorem XC (n:Int):∀(l:List Int),CR l n=l.take (jY n l)++[n]++l.drop (jY n l)
 | []=>by simp [CR,jY]
 | x::l=>by
  by_cases hx:x<n
  ·have e:jY n (x::l)=jY n l+1:=by simp [jY,hx]
   rw [e];simp only [CR,hx,if_true,List.take_succ_cons,List.drop_succ_cons,ajl];rw [XC n l]
  ·have e:jY n (x::l)=0:=by simp [jY,hx]
   rw [e];simp [CR,hx]
theorem Ot {n:Int}:∀{l:List Int},(CR l n).Perm (n::l)
 | []=>by simp [CR]
 | x::l=>by
  unfold CR;split
  ·exact(Ot.cons x).trans (List.Perm.swap n x l)
  ·exact List.Perm.refl _
theorem Ps {n:Int}:∀{l:List Int},l.Pairwise (·≤·)→(CR l n).Pairwise (·≤·)
 | [],_=>by simp [CR]
 | x::l,h=>by
  have h':=ajL.1 h;unfold CR;split
  ·rename_i hx
   refine ajL.2 ⟨fun y hy=>?_,Ps h'.2⟩
   rcases aj3.1 (Ot.mem_iff.1 hy) with rfl | hy
   ·omega
   ·exact h'.1 y hy
  ·refine ajL.2 ⟨fun y hy=>?_,h⟩
   rcases aj3.1 hy with rfl | hy
   ·omega
   ·have:=h'.1 y hy
    omega
def xv (l:List Int):List Int:=l.foldl CR []
theorem xu:∀(l acc:List Int),acc.Pairwise (·≤·)→(l.foldl CR acc).Pairwise (·≤·)∧(l.foldl CR acc).Perm (acc++l)
 | [],acc,h=>⟨h,by simp⟩
 | n::l,acc,h=>by
  obtain⟨h1,h2⟩:=xu l (CR acc n) (Ps h);refine⟨h1,h2.trans ?_⟩
  have:=(Ot (n:=n) (l:=acc)).append_right l;refine this.trans ?_
  rw [ajl];exact List.perm_middle.symm
theorem Ji (l:List Int):(xv l).length=l.length:=by
 have:=(xu l [] List.Pairwise.nil).2.length_eq;simpa [xv] using this
def eM (s:Int):List Int→Nat
 | a::b::t=>if 0<s*(b - a) then eM s (b::t)+1 else 1
 | _=>1
theorem rL (s:Int):∀l,1≤eM s l
 | []=>ai0 _
 | [_]=>ai0 _
 | a::b::t=>by
  simp only [eM];split<;>omega
theorem Vq (s:Int):∀l:List Int,l≠[]→eM s l≤l.length
 | [],h=>absurd rfl h
 | [_],_=>ai0 _
 | a::b::t,_=>by
  have:=Vq s (b::t) (by simp);simp only [eM];split
  ·simp only [ajI] at this ⊢;omega
  ·simp
theorem PU (s:Int):∀(l:List Int) (n:Nat) (h:n+1<l.length),n+1<eM s l→0<s*(l[n+1] - l[n])
 | [],_,h,_=>by simp at h
 | [_],_,h,_=>by simp at h
 | a::b::t,n,h,hr=>by
  simp only [eM] at hr;split at hr
  ·rename_i hp
   cases n with
   | zero=>exact hp
   | succ n=>exact PU s (b::t) n (by simpa using h) (by omega)
  ·omega
theorem TA (s:Int):∀(l:List Int) (h:eM s l<l.length),¬0<s*(l[eM s l] - l[eM s l - 1]'(by have:=rL s l;omega))
 | [],h=>by simp at h
 | [_],h=>by simp [eM] at h
 | a::b::t,h=>by
  by_cases hp:0<s*(b - a)
  ·have e:eM s (a::b::t)=eM s (b::t)+1:=by simp only [eM,hp,if_true]
   have h':eM s (b::t)<(b::t).length:=by rw [e] at h;simpa using h
   have ih:=TA s (b::t) h';have hpos:=rL s (b::t);have e1:(a::b::t)[eM s (a::b::t)]=(b::t)[eM s (b::t)]:=by simp only [e,ajn]
   have e2:(a::b::t)[eM s (a::b::t) - 1]'(by omega)=(b::t)[eM s (b::t) - 1]'(by omega):=by
    obtain⟨m,hm⟩:∃m,eM s (b::t)=m+1:=⟨eM s (b::t) - 1,by omega⟩
    simp only [e,hm,Nat.add_sub_cancel,ajn]
   rw [e1,e2];exact ih
  ·have e:eM s (a::b::t)=1:=by simp only [eM,hp,if_false]
   simp only [e,ajn,ajW,Nat.sub_self];exact hp
def iH (l:List Int) (i:Nat):Nat:=max (eM 1 (l.drop i)) (eM (-1) (l.drop i))
def Pq (l:List Int) (s:Nat × Nat) (i:Nat):Nat × Nat:=if s.2<iH l i then(i,iH l i) else s
def MH (l:List Int) (n:Nat):Nat × Nat:=(ajd n).foldl (Pq l) (0,0)
def gy (l:List Int) (n:Nat):Nat × Nat:=(ajd n).foldl (Pq l) (0,1)
theorem KI (l:List Int) (n:Nat):MH l (n+1)=Pq l (MH l n) n:=by simp [MH,akf]
theorem vU (l:List Int) (n:Nat):gy l (n+1)=Pq l (gy l n) n:=by simp [gy,akf]
theorem AN (l:List Int) (i:Nat):1≤iH l i:=by
 have:=rL 1 (l.drop i);unfold iH;omega
theorem aej (l:List Int):∀n,1≤n→gy l n=MH l n
 | 1,_=>by
  have:=AN l 0;rw [vU l 0,KI l 0];have e1:gy l 0=(0,1):=rfl;have e2:MH l 0=(0,0):=rfl;rw [e1,e2];unfold Pq;dsimp only;rw [if_pos (show 0<iH l 0 by omega)];by_cases h:1<iH l 0
  ·rw [if_pos h]
  ·rw [if_neg h]
   have:iH l 0=1:=by omega
   rw [this]
 | n+2,_=>by rw [vU,KI,aej l (n+1) (by omega)]
theorem ZK {l:List Int} {i:Nat} (h:i<l.length):iH l i≤l.length - i:=by
 have h0:l.drop i≠[]:=fun e=>by have:=congrArg aka e;simp at this;omega
 have h1:=Vq 1 (l.drop i) h0;have h2:=Vq (-1) (l.drop i) h0;rw [ai5] at h1 h2;unfold iH;omega
def Aa (n:Int):Int:=if 0<n then 1 else if n<0 then -1 else 0
theorem aeB {l:List Int} {i k:Nat} (h1:i+1≤k) (h2:k<i+iH l i) (h3:k<l.length):Aa (l[i+1]'(by omega) - l[i]'(by omega))≠0∧Aa (l[k] - l[k - 1]'(by omega))=Aa (l[i+1]'(by omega) - l[i]'(by omega)):=by
 obtain⟨n,rfl⟩:∃n,k=i+(n+1):=⟨k - i - 1,by omega⟩
 have hd:∀s,n+1<eM s (l.drop i)→0<s*(l[i+(n+1)] - l[i+n]'(by omega))∧0<s*(l[i+1]'(by omega) - l[i]'(by omega)):=by
  intro s hs;have a:=PU s (l.drop i) n (by rw [ai5];omega) hs;have b:=PU s (l.drop i) 0 (by rw [ai5];omega) (by omega);simp only [ajq] at a b;exact⟨a,b⟩
 have hk:l[i+(n+1) - 1]'(by omega)=l[i+n]'(by omega):=by congr 1
 rw [hk];unfold iH at h2;unfold Aa;by_cases hm:n+1<eM 1 (l.drop i)
 ·obtain⟨a,b⟩:=hd 1 hm
  rw [if_pos (by omega),if_pos (by omega)];exact⟨by decide,rfl⟩
 ·obtain⟨a,b⟩:=hd (-1) (by omega)
  rw [if_neg (by omega),if_pos (by omega),if_neg (by omega),if_pos (by omega)];exact⟨by decide,rfl⟩
theorem afv {l:List Int} {i k:Nat} (h1:i+1≤k) (h2:k=i+iH l i) (h3:k<l.length):Aa (l[i+1]'(by omega) - l[i]'(by omega))=0∨Aa (l[k] - l[k - 1]'(by omega))≠Aa (l[i+1]'(by omega) - l[i]'(by omega)):=by
 have key:∀s,eM s (l.drop i)=iH l i→¬0<s*(l[k] - l[k - 1]'(by omega)):=by
  intro s hs;have a:=TA s (l.drop i) (by rw [ai5];omega);simp only [ajq,hs] at a;have e1:l[i+iH l i]'(by omega)=l[k]:=by congr 1;omega
  have e2:l[i+(iH l i - 1)]'(by have:=AN l i;omega)=l[k - 1]'(by omega):=by
   congr 1
   have:=AN l i;omega
  rw [e1,e2] at a;exact a
 have one:∀s,¬eM s (l.drop i)=iH l i→0<s*(l[i+1]'(by omega) - l[i]'(by omega))→eM s (l.drop i)=1∨1<eM s (l.drop i):=fun s _ _=>by
  have:=rL s (l.drop i);omega
 have first:∀s,1<eM s (l.drop i)→0<s*(l[i+1]'(by omega) - l[i]'(by omega)):=by
  intro s hs;have b:=PU s (l.drop i) 0 (by rw [ai5];omega) (by omega);simp only [ajq] at b;exact b
 have not1:∀s,eM s (l.drop i)=1→¬0<s*(l[i+1]'(by omega) - l[i]'(by omega)):=by
  intro s hs;have a:=TA s (l.drop i) (by rw [ai5,hs];omega);simp only [ajq,hs] at a;exact a
 by_cases hz:l[i+1]'(by omega) - l[i]'(by omega)=0
 ·left
  unfold Aa;rw [if_neg (by omega),if_neg (by omega)]
 right
 by_cases hp:0<l[i+1]'(by omega) - l[i]'(by omega)
 ·have hr:eM 1 (l.drop i)=iH l i:=by
   have h1:¬1<eM (-1) (l.drop i):=fun h=>by have:=first (-1) h;omega
   have:=rL (-1) (l.drop i);have:=rL 1 (l.drop i);unfold iH;omega
  have hk:=key 1 hr;have hb:Aa (l[i+1]'(by omega) - l[i]'(by omega))=1:=by unfold Aa;rw [if_pos hp]
  rw [hb];unfold Aa;rw [if_neg (by omega)];split<;>decide
 ·have hr:eM (-1) (l.drop i)=iH l i:=by
   have h1:¬1<eM 1 (l.drop i):=fun h=>by have:=first 1 h;omega
   have:=rL (-1) (l.drop i);have:=rL 1 (l.drop i);unfold iH;omega
  have hk:=key (-1) hr;have hb:Aa (l[i+1]'(by omega) - l[i]'(by omega)) = -1:=by unfold Aa;rw [if_neg hp,if_pos (by omega)]
  rw [hb];unfold Aa;by_cases hq:0<l[k] - l[k - 1]'(by omega)
  ·rw [if_pos hq];decide
  ·rw [if_neg hq,if_neg (by omega)];decide
theorem eL {l m:List Int} (h:l.length+m.length≤1048577):bB 1 8 (ai l) (ai m)=some (ai (l++m)):=by
 rw [gH,if_pos (by simp only [ajB];omega)];simp
theorem nZ (l:List Int) (h:l.length≤1000000):gB [ai l]=some (.ret [ai l] []):=by
 rw [TC];have:=eL (l:=[]) (m:=l) (by simp;omega);rw [ajU] at this;have hc:=kX l;simp only [be,ajg,hc];rw [show D.arr 1 []=ai [] from rfl,this];rfl
def eW (l:List Int):Bool:=decide (1≤l.length∧l.length≤40)&&l.all fun n=>decide (-500≤n∧n≤500)
theorem uQ (l:List Int) (h:l.length≤1000000):jB [ai l]=some (.ret [B (eW l)] []):=by
 rw [RR];have h1:=br (l.length:Int) 1 40;have h2:=Iv l (-500) 500 (by omega);by_cases hc:(1:Int)≤l.length∧(l.length:Int)≤40
 ·have hg:eW l=l.all fun n=>decide (-500≤n∧n≤500):=by
   unfold eW;rw [decide_eq_true (show 1≤l.length∧l.length≤40 by omega),ajO]
  rw [hg];simp -implicitDefEqProofs [h1,h2,hc]
 ·have hg:eW l=false:=by
   unfold eW;rw [decide_eq_false (show ¬(1≤l.length∧l.length≤40) by omega),akh]
  rw [hg];simp -implicitDefEqProofs [h1,hc]
theorem aa7 {l:List Int} {i:Nat} (h:i<l.length):xv (l.take (i+1))=CR (xv (l.take i)) l[i]:=by
 unfold xv;rw [ai9 h,aj8];rfl
theorem Mc (l:List Int) (h:l.length≤1000):mj [ai l]=some (.ret [ai (xv l)] []):=by
 rw [LQ];simp -implicitDefEqProofs only [aw,aiW,aiX,aiY];refine aG (.ext 0 [ai (xv l)]) (aY l.length (fun i=>[ai (xv (l.take i)),ai l,I l.length,I (i:Int)]) _ (fun i hi=>?_) ?_ rfl rfl) ?_
 ·have hil:(i:Int)<l.length:=by omega
  have hel:aq 1 (ai l) (I (i:Int))=some [I l[i]]:=by simp [hi]
  have hlen:(xv (l.take i)).length=i:=by rw [Ji,aju];omega
  have hw:aiZ.wrap ((i:Int)+1)=((i+1:Nat):Int):=by rw [ah (by omega) (by omega)];omega
  rw [aa7 hi];generalize xv (l.take i)=s at hlen;have hle:=XW l[i] s;simp -implicitDefEqProofs only [aw,aiW,aiX,aiY,hil,hel,aR];refine aG (.ext 2 [ai s,I l[i],I (jY l[i] s:Nat),ai l,I l.length,I (i:Int)]) (aY (jY l[i] s) (fun k=>[ai s,I l[i],I (k:Int),ai l,I l.length,I (i:Int)]) _ (fun k hk=>?_) ?_ rfl rfl) ?_
  ·have hks:k<s.length:=by omega
   have hlt:=Wt l[i] s k hks hk;have hwk:aiZ.wrap ((k:Int)+1)=(k:Int)+1:=ah (by omega) (by omega);simp -implicitDefEqProofs [hks,hlt,hwk]
  ·by_cases hl:jY l[i] s<s.length
   ·have:=Xu l[i] s hl
    simp -implicitDefEqProofs [hl,this]
   ·simp -implicitDefEqProofs [hl]
  ·rw [XC]
   generalize jY l[i] s=p at hle;have s1:dH false 1 (ai s) (I 0) (I (p:Int))=some (ai (s.take p)):=by
    have:dH false 1 (ai s) (I 0) (I (p:Int))=_:=mK (z:=1) (l:=s.map I) (i:=0) (j:=p) (k:=.i64) (k':=.i64) (ajv _) (by simp;omega);rw [this];simp [List.map_take]
   have s2:cU false 1 (ai s) (I (p:Int))=some (ai (s.drop p)):=by
    have:=mV (z:=1) (l:=s.map I) (i:=p) (k:=.i64) (by simp;omega);rw [this];simp [List.map_drop]
   have o1:=nZ (s.take p) (by rw [aju];omega);have a1:bB 1 8 (ai (s.take p)) (.arr 1 [I l[i]])=some (ai (s.take p++[l[i]])):=eL (m:=[l[i]]) (by simp;omega);have a2:bB 1 8 (ai (s.take p++[l[i]])) (ai (s.drop p))=some (ai (s.take p++[l[i]]++s.drop p)):=eL (by simp;omega);have hm:aA 1 [I l[i]]=some (.arr 1 [I l[i]]):=rfl;have hck:cR (.arr 1 [I l[i]])=some (.arr 1 [I l[i]]):=kX [l[i]];simp -implicitDefEqProofs only [aw,aiW,aiX,aiY,s1,s2,o1,a1,a2,hm,hck,hw]
 ·rw [ajm]
  have:¬(l.length:Int)<l.length:=by omega
  simp -implicitDefEqProofs only [aw,aiW,aiX,aiY,this]
 ·simp -implicitDefEqProofs only [aw,aiW,aiX,aiY]
def Fm (l:List Int):Int:=(xv l).getD ((l.length - 1) / 2) 0
theorem Kv (l:List Int) (h:l.length≤1000):kW [ai l]=some (.ret [I (if eW l=true then Fm l else 0),B (eW l)] []):=by
 rw [JH];have hg:=uQ l (by omega);by_cases hc:eW l=true
 ·have hs:=Mc l h
  have hl0:1≤l.length:=by
   unfold eW at hc;simp only [ajy,decide_eq_true_eq] at hc;exact hc.1.1
  have e1:aiZ.wrap ((l.length:Int) - 1)=((l.length - 1:Nat):Int):=by rw [ah (by omega) (by omega)];omega
  have hix:(l.length - 1) / 2<(xv l).length:=by rw [Ji];omega
  have e2:((l.length - 1:Nat):Int).tdiv 2=(((l.length - 1) / 2:Nat):Int):=by rw [Int.tdiv_eq_ediv_of_nonneg (by omega)];omega
  have e3:aiZ.wrap ((((l.length - 1) / 2:Nat):Int))=(((l.length - 1) / 2:Nat):Int):=ah (by omega) (by omega);have hel:aq 1 (ai (xv l)) (I (((l.length - 1) / 2:Nat):Int))=some [I (Fm l)]:=by
   unfold Fm;generalize (l.length - 1) / 2=m at hix;simp [hix]
  simp -implicitDefEqProofs only [aw,aiW,aiX,aiY,hg,hc,hs,e1,md,e2,e3,hel]
 ·have hc':eW l=false:=by simpa using hc
  simp -implicitDefEqProofs only [aw,aiW,aiX,aiY,hg,hc']
theorem pL (n:Int):ma [I n]=some (.ret [I (Aa n)] []):=by
 rw [RU];unfold Aa;by_cases h1:0<n
 ·simp -implicitDefEqProofs only [aw,aiW,aiX,aiY,h1]
 ·by_cases h2:n<0
  ·simp -implicitDefEqProofs only [aw,aiW,aiX,aiY,h1,h2]
  ·simp -implicitDefEqProofs only [aw,aiW,aiX,aiY,h1,h2]
theorem qi {l:List Int} {i:Nat} (h:i<l.length):aq 1 (ai l) (I (i:Int))=some [I l[i]]:=by simp [h]
theorem CA (l:List Int) (h:l.length≤1000000):gZ [ai l]=some (.ret [I (if eW l=true then((gy l l.length).1:Int) else 0),I (if eW l=true then((gy l l.length).2:Int) else 0),B (eW l)] []):=by
 rw [CB];have hg:=uQ l (by omega);by_cases hc:eW l=true
 case neg =>
  have hc':eW l=false:=by simpa using hc
  simp -implicitDefEqProofs only [aw,aiW,aiX,aiY,hg,hc']
 have hgd:=hc;unfold eW at hgd;simp only [ajy,decide_eq_true_eq,akd] at hgd;obtain⟨⟨hl0,hl1⟩,hr⟩:=hgd;simp -implicitDefEqProofs only [aw,aiW,aiX,aiY,hg,hc];refine aG (.ext 0 [I ((gy l l.length).1:Int),I ((gy l l.length).2:Int)]) (aY l.length (fun i=>[ai l,I ((gy l i).1:Int),I ((gy l i).2:Int),I l.length,I (i:Int)]) _ (fun i hi=>?_) ?_ rfl rfl) ?_
 ·have hil:(i:Int)<l.length:=by omega
  have hw:aiZ.wrap ((i:Int)+1)=((i+1:Nat):Int):=by rw [ah (by omega) (by omega)];omega
  have hmp:=AN l i;have hml:=ZK hi;rw [vU];have hm1:1≤(gy l i).2:=by
   have key:∀n,1≤(gy l n).2:=by
    intro n;induction n with
    | zero=>exact ai0 _
    | succ n ih =>
     rw [vU];unfold Pq;split
     ·exact AN l n
     ·exact ih
   exact key i
  generalize gy l i=p at hm1;obtain⟨b,m⟩:=p;dsimp only at hm1 ⊢;simp -implicitDefEqProofs only [aw,aiW,aiX,aiY,hil,hw];refine aG (.ext 2 [ai l,I ((Pq l (b,m) i).1:Int),I ((Pq l (b,m) i).2:Int),I l.length,I (i:Int)]) (aY (iH l i - 1) (fun j=>[ai l,I (((if m<j+1 then(i,j+1) else(b,m)):Nat × Nat).1:Int),I (((if m<j+1 then(i,j+1) else(b,m)):Nat × Nat).2:Int),I (i:Int),I ((i+1+j:Nat):Int),I l.length,I (i:Int)]) _ (fun j hj=>?_) ?_ rfl ?_) ?_
  ·have hk:i+1+j<l.length:=by omega
   obtain⟨g1,g2⟩:=aeB (l:=l) (i:=i) (k:=i+1+j) (by omega) (by omega) hk;have e1:=qi (l:=l) (i:=i) hi;have e2:=qi (l:=l) (i:=i+1) (by omega);have e3:=qi hk;have e4:=qi (l:=l) (i:=i+1+j - 1) (by omega);have r1:=hr _ (ai1 hi);have r2:=hr _ (ai1 (show i+1<l.length by omega));have r3:=hr _ (ai1 hk);have r4:=hr _ (ai1 (show i+1+j - 1<l.length by omega));generalize l[i]=v1 at *;generalize l[i+1]=v2 at *;generalize l[i+1+j]=v3 at *;generalize l[i+1+j - 1]=v4 at *;have w1:aiZ.wrap (v2 - v1)=v2 - v1:=ah (by omega) (by omega);have w2:aiZ.wrap (v3 - v4)=v3 - v4:=ah (by omega) (by omega);have w3:aiZ.wrap (((i+1+j:Nat):Int) - 1)=((i+1+j - 1:Nat):Int):=by rw [ah (by omega) (by omega)];omega
   have w4:aiZ.wrap (((i+1+j:Nat):Int) - (i:Int))=((j+1:Nat):Int):=by rw [ah (by omega) (by omega)];omega
   have w5:aiZ.wrap (((j+1:Nat):Int)+1)=((j+1+1:Nat):Int):=by rw [ah (by omega) (by omega)];omega
   have w6:aiZ.wrap (((i+1+j:Nat):Int)+1)=((i+1+(j+1):Nat):Int):=by rw [ah (by omega) (by omega)];omega
   have s1:=pL (v2 - v1);have s2:=pL (v3 - v4);have hk':((i+1+j:Nat):Int)<l.length:=by omega
   rw [g2] at s2;by_cases hm:m<j+1
   ·have hm2:¬(((j+1:Nat):Int)<((j+1:Nat):Int)):=by omega
    have hm3:((j+1:Nat):Int)<((j+1+1:Nat):Int):=by omega
    have hm4:m<j+1+1:=by omega
    simp -implicitDefEqProofs only [aw,aiW,aiX,aiY,hm,hm3,hm4,hk',e1,e2,e3,e4,w1,w2,w3,w4,w5,w6,s1,s2,g1,hw,ne_eq,not_true_eq_false]
   ·by_cases hm5:m<j+1+1
    ·have hm6:(m:Int)<((j+1+1:Nat):Int):=by omega
     simp -implicitDefEqProofs only [aw,aiW,aiX,aiY,hm,hm5,hm6,hk',e1,e2,e3,e4,w1,w2,w3,w4,w5,w6,s1,s2,g1,hw,ne_eq,not_true_eq_false]
    ·have hm6:¬(m:Int)<((j+1+1:Nat):Int):=by omega
     simp -implicitDefEqProofs only [aw,aiW,aiX,aiY,hm,hm5,hm6,hk',e1,e2,e3,e4,w1,w2,w3,w4,w5,w6,s1,s2,g1,hw,ne_eq,not_true_eq_false]
  ·have hu:((if m<iH l i - 1+1 then(i,iH l i - 1+1) else(b,m)):Nat × Nat)=Pq l (b,m) i:=by
    rw [show iH l i - 1+1=iH l i by omega];rfl
   rw [hu];by_cases hk:i+1+(iH l i - 1)<l.length
   ·have hk':((i+1+(iH l i - 1):Nat):Int)<l.length:=by omega
    have ha:=afv (l:=l) (i:=i) (k:=i+1+(iH l i - 1)) (by omega) (by omega) hk;have e1:=qi (l:=l) (i:=i) hi;have e2:=qi (l:=l) (i:=i+1) (by omega);have e3:=qi hk;have e4:=qi (l:=l) (i:=i+1+(iH l i - 1) - 1) (by omega);have r1:=hr _ (ai1 hi);have r2:=hr _ (ai1 (show i+1<l.length by omega));have r3:=hr _ (ai1 hk);have r4:=hr _ (ai1 (show i+1+(iH l i - 1) - 1<l.length by omega));have w3:aiZ.wrap (((i+1+(iH l i - 1):Nat):Int) - 1)=((i+1+(iH l i - 1) - 1:Nat):Int):=by rw [ah (by omega) (by omega)];omega
    generalize l[i]=v1 at *;generalize l[i+1]=v2 at *;generalize l[i+1+(iH l i - 1)]=v3 at *;generalize l[i+1+(iH l i - 1) - 1]=v4 at *;have w1:aiZ.wrap (v2 - v1)=v2 - v1:=ah (by omega) (by omega);have w2:aiZ.wrap (v3 - v4)=v3 - v4:=ah (by omega) (by omega);have s1:=pL (v2 - v1);have s2:=pL (v3 - v4);by_cases hz:Aa (v2 - v1)=0
    ·simp -implicitDefEqProofs only [aw,aiW,aiX,aiY,hk',hw,e1,e2,w1,s1,hz]
    ·have hz2:=ha.resolve_left hz
     simp -implicitDefEqProofs only [aw,aiW,aiX,aiY,hk',hw,e1,e2,e3,e4,w1,w2,w3,s1,s2,hz,hz2,ne_eq,not_false_eq_true]
   ·have hk':¬((i+1+(iH l i - 1):Nat):Int)<l.length:=by omega
    simp -implicitDefEqProofs only [aw,aiW,aiX,aiY,hk']
  ·have hm0:¬m<0+1:=by omega
   rw [if_neg hm0]
  ·simp -implicitDefEqProofs only [aw,aiW,aiX,aiY,hw]
 ·have:¬(l.length:Int)<l.length:=by omega
  simp -implicitDefEqProofs only [aw,aiW,aiX,aiY,this]
 ·simp -implicitDefEqProofs only [aw,aiW,aiX,aiY]
theorem sU (l:List Int) (h:l.length≤1000000):iC [ai l]=some (.ret [B (eW l)] []):=by
 rw [OE];simp -implicitDefEqProofs only [aw,aiW,aiX,aiY];have h1:=bC (l.length:Int) 1 40;refine aG _ (pY l (fun i=>[ai l,ai l,I l.length,I i]) (fun _ n=>decide (-500≤n∧n≤500)) (.ret [B false] []) (.ext 0 [ai l]) (fun i hi=>?_) ?_ rfl rfl rfl) ?_
 ·have hil:(i:Int)<l.length:=by omega
  have hw:aiZ.wrap ((i:Int)+1)=((i+1:Nat):Int):=by rw [ah (by omega) (by omega)];omega
  have e1:=qi hi;have ho:rM [I l[i]]=some (.ret [B (decide (-500≤l[i]∧l[i]≤500))] []):=by
   rw [TG];have:=bC l[i] (-500) 500;simp -implicitDefEqProofs only [aw,aiW,aiX,aiY,this]
  by_cases hc : -500≤l[i]∧l[i]≤500
  ·simp -implicitDefEqProofs only [aw,aiW,aiX,aiY,hil,e1,ho,hc,hw]
  ·simp -implicitDefEqProofs only [aw,aiW,aiX,aiY,hil,e1,ho,hc,hw]
 ·have:¬(l.length:Int)<l.length:=by omega
  simp -implicitDefEqProofs only [aw,aiW,aiX,aiY,this]
 ·rw [wG]
  unfold eW;by_cases hc:(1:Int)≤l.length∧(l.length:Int)≤40
  ·rw [decide_eq_true (show 1≤l.length∧l.length≤40 by omega),ajO]
   cases hq:l.all fun n=>decide (-500≤n∧n≤500)<;>simp -implicitDefEqProofs only [aw,aiW,aiX,aiY,h1,hc,sT]
  ·rw [decide_eq_false (show ¬(1≤l.length∧l.length≤40) by omega),akh]
   cases hq:l.all fun n=>decide (-500≤n∧n≤500)<;>simp -implicitDefEqProofs only [aw,aiW,aiX,aiY,h1,hc,sT]
theorem Im (l:List Int) (i:Nat) (s:Int) (hs:s=1∨s = -1) (hi:i<l.length) (h:l.length≤40) (hr:∀n∈l,-500≤n∧n≤500):nI [ai l,I (i:Int),I s]=some (.ret [I (eM s (l.drop i):Nat)] []):=by
 rw [Ui];have hrp:=rL s (l.drop i);have hrl:=Vq s (l.drop i) (fun e=>by have:=congrArg aka e;simp at this;omega);rw [ai5] at hrl;refine aG (.ext 0 [I (eM s (l.drop i):Nat)]) (aY (eM s (l.drop i) - 1) (fun j=>[ai l,I (i:Int),I s,I ((j+1:Nat):Int)]) _ (fun j hj=>?_) ?_ rfl rfl) ?_
 ·have hk:i+(j+1)<l.length:=by omega
  have hk':((i+(j+1):Nat):Int)<l.length:=by omega
  have w0:aiZ.wrap ((i:Int)+((j+1:Nat):Int))=((i+(j+1):Nat):Int):=by rw [ah (by omega) (by omega)];omega
  have w3:aiZ.wrap (((i+(j+1):Nat):Int) - 1)=((i+j:Nat):Int):=by rw [ah (by omega) (by omega)];omega
  have w5:aiZ.wrap (((j+1:Nat):Int)+1)=((j+1+1:Nat):Int):=by rw [ah (by omega) (by omega)];omega
  have e3:=qi hk;have e4:=qi (l:=l) (i:=i+j) (by omega);have r3:=hr _ (ai1 hk);have r4:=hr _ (ai1 (show i+j<l.length by omega));have hp:=PU s (l.drop i) j (by rw [ai5];omega) (by omega);simp only [ajq] at hp;generalize l[i+(j+1)]=v3 at *;generalize l[i+j]=v4 at *;have w2:aiZ.wrap (v3 - v4)=v3 - v4:=ah (by omega) (by omega);have w6:aiZ.wrap (s*(v3 - v4))=s*(v3 - v4):=by rcases hs with rfl | rfl<;>exact ah (by omega) (by omega)
  simp -implicitDefEqProofs only [aw,aiW,aiX,aiY,w0,hk',e3,e4,w3,w2,w6,hp,w5]
 ·rw [show eM s (l.drop i) - 1+1=eM s (l.drop i) by omega]
  have hat:=TA s (l.drop i);by_cases hk:i+eM s (l.drop i)<l.length
  ·have ha:=hat (by rw [ai5];omega)
   have hk':((i+eM s (l.drop i):Nat):Int)<l.length:=by omega
   have w0:aiZ.wrap ((i:Int)+(eM s (l.drop i):Nat))=((i+eM s (l.drop i):Nat):Int):=by rw [ah (by omega) (by omega)];omega
   have w3:aiZ.wrap (((i+eM s (l.drop i):Nat):Int) - 1)=((i+(eM s (l.drop i) - 1):Nat):Int):=by rw [ah (by omega) (by omega)];omega
   have e3:=qi hk;have e4:=qi (l:=l) (i:=i+(eM s (l.drop i) - 1)) (by omega);have r3:=hr _ (ai1 hk);have r4:=hr _ (ai1 (show i+(eM s (l.drop i) - 1)<l.length by omega));simp only [ajq] at ha;generalize l[i+eM s (l.drop i)]=v3 at *;generalize l[i+(eM s (l.drop i) - 1)]=v4 at *;have w2:aiZ.wrap (v3 - v4)=v3 - v4:=ah (by omega) (by omega);have w6:aiZ.wrap (s*(v3 - v4))=s*(v3 - v4):=by rcases hs with rfl | rfl<;>exact ah (by omega) (by omega)
   simp -implicitDefEqProofs only [aw,aiW,aiX,aiY,w0,hk',e3,e4,w3,w2,w6,ha]
  ·have hk':¬((i+eM s (l.drop i):Nat):Int)<l.length:=by omega
   have w0:aiZ.wrap ((i:Int)+(eM s (l.drop i):Nat))=((i+eM s (l.drop i):Nat):Int):=by rw [ah (by omega) (by omega)];omega
   simp -implicitDefEqProofs only [aw,aiW,aiX,aiY,w0,hk']
 ·simp -implicitDefEqProofs only [aw,aiW,aiX,aiY]
theorem CV (l:List Int) (h:l.length≤1000000):ib [ai l]=some (.ret [I (if eW l=true then((MH l l.length).1:Int) else 0),I (if eW l=true then((MH l l.length).2:Int) else 0),B (eW l)] []):=by
 rw [CG];have hg:=sU l (by omega);by_cases hc:eW l=true
 case neg =>
  have hc':eW l=false:=by simpa using hc
  simp -implicitDefEqProofs only [aw,aiW,aiX,aiY,hg,hc']
 have hgd:=hc;unfold eW at hgd;simp only [ajy,decide_eq_true_eq,akd] at hgd;obtain⟨⟨hl0,hl1⟩,hr⟩:=hgd;simp -implicitDefEqProofs only [aw,aiW,aiX,aiY,hg,hc];refine aG (.ext 0 [I ((MH l l.length).1:Int),I ((MH l l.length).2:Int)]) (aY l.length (fun i=>[ai l,I ((MH l i).1:Int),I ((MH l i).2:Int),I l.length,I (i:Int)]) _ (fun i hi=>?_) ?_ rfl rfl) ?_
 ·have hil:(i:Int)<l.length:=by omega
  have hw:aiZ.wrap ((i:Int)+1)=((i+1:Nat):Int):=by rw [ah (by omega) (by omega)];omega
  have d1:=Im l i 1 (.inl rfl) hi hl1 hr;have d2:=Im l i (-1) (.inr rfl) hi hl1 hr;have hmx:Vr (I (eM 1 (l.drop i):Nat)) (I (eM (-1) (l.drop i):Nat))=some (I (iH l i:Nat)):=by
   unfold iH;simp [Vr];omega
  rw [KI];generalize MH l i=p;obtain⟨b,m⟩:=p;unfold Pq;dsimp only;by_cases hm:m<iH l i
  ·have hm':(m:Int)<(iH l i:Nat):=by omega
   simp -implicitDefEqProofs only [aw,aiW,aiX,aiY,hil,d1,d2,hmx,hm,hm',hw]
  ·have hm':¬(m:Int)<(iH l i:Nat):=by omega
   simp -implicitDefEqProofs only [aw,aiW,aiX,aiY,hil,d1,d2,hmx,hm,hm',hw]
 ·have:¬(l.length:Int)<l.length:=by omega
  simp -implicitDefEqProofs only [aw,aiW,aiX,aiY,this]
 ·simp -implicitDefEqProofs only [aw,aiW,aiX,aiY]
theorem oa {n:Int} (h0 : -1000000000000000000<n) (h1:n<1000000000000000000):fE [I n]=some (.ret [T (aI n)] []):=by
 rw [UY];by_cases hn:n<0
 ·have e1:=bR (n:=-n) (by omega) (by omega)
  have hw:aiZ.wrap (-n) = -n:=ah (by omega) (by omega);have hsz:=bX 17 (n:=-n) (by omega) (by omega);have ha:bin aj6 false [] (D.v (aiT {data:={toList:=[45]}})) (T (aI (-n)))=some (T (aI n)):=by
   rw [show(D.v (aiT {data:={toList:=[45]}}))=T ⟨#[45]⟩ from rfl,fT,if_pos (by rw [sz1];omega)];congr 3
   apply bP;have e:=BU (n:=-n) (by omega);rw [Int.neg_neg] at e;rw [e,bh];rfl
  have hu:un UnOp.neg (I n)=some (I (-n)):=by
   rw [Uk,hw]
  simp -implicitDefEqProofs only [aw,aiW,aiX,aiY,hn,hu,e1,ha]
 ·have e1:=bR (n:=n) (by omega) (by omega)
  simp -implicitDefEqProofs only [aw,aiW,aiX,aiY,hn,e1]
theorem Zr (c:UInt8) (l:List Int) (i:Nat) (h:i<l.length) (h0:0<i):cj c (l.take (i+1))=cj c (l.take i)++⟨#[c]⟩++aI l[i]:=by
 apply bP;rw [bh,bh,cJ,cJ,ai9 h,ajJ,List.map_singleton,FC]
 ·simp [ae]
 ·intro e
  rw [List.map_eq_nil_iff,List.take_eq_nil_iff] at e;rcases e with e | e
  ·omega
  ·rw [e] at h
   simp at h
theorem vl (l:List Int) (h:l.length≤1000000) (hr:ae7 l) (hr2:∀n∈l,-1000000000000000000<n∧n<1000000000000000000):jz [ai l]=some (.ret [T (cj 32 l)] []):=by
 rw [Qn];simp -implicitDefEqProofs only [aw,aiW,aiX,aiY];refine aG (.ext 0 [T (cj 32 l)]) (aY l.length (fun i=>[T (cj 32 (l.take i)),ai l,I l.length,I (i:Int)]) _ (fun i hi=>?_) ?_ rfl rfl) ?_
 ·have hil:(i:Int)<l.length:=by omega
  have hw:aiZ.wrap ((i:Int)+1)=((i+1:Nat):Int):=by rw [ah (by omega) (by omega)];omega
  have e1:=qi hi;have hx:=hr2 _ (ai1 hi);have e2:=oa hx.1 hx.2;have z1:(cj 32 (l.take i)).size≤21000000:=by
   have:=oM (c:=32) (ns:=l.take i) fun n hn=>hr n (aj2 hn)
   rw [aju] at this;omega
  have z2:(aI l[i]).size≤21:=by
   have:=oM (c:=32) (ns:=[l[i]]) fun n hn=>by
    rw [List.mem_singleton] at hn;subst hn;exact hr _ (ai1 hi)
   rw [JU] at this;simpa using this
  by_cases h0:0<i
  ·have h0':(0:Int)<i:=by omega
   have a1:bin aj6 false [] (T (cj 32 (l.take i))) (D.v (aiT {data:={toList:=[32]}}))=some (T (cj 32 (l.take i)++⟨#[32]⟩)):=by
    rw [show(D.v (aiT {data:={toList:=[32]}}))=T ⟨#[32]⟩ from rfl,fT,if_pos (by rw [sz1];omega)]
   have a2:bin aj6 false [] (T (cj 32 (l.take i)++⟨#[32]⟩)) (T (aI l[i]))=some (T (cj 32 (l.take (i+1)))):=by
    rw [fT,if_pos (by rw [aj0,sz1];omega),Zr 32 l i hi h0]
   simp -implicitDefEqProofs only [aw,aiW,aiX,aiY,hil,e1,h0',a1,e2,a2,hw]
  ·obtain rfl:i=0:=by omega
   have a1:bin aj6 false [] (T (cj 32 (l.take 0))) (T (aI l[0]))=some (T (cj 32 (l.take (0+1)))):=by
    rw [fT,if_pos (by omega)];congr 3
    apply bP;rw [bh,cJ,cJ,ai9 hi];rfl
   have hil':(0:Int)<l.length:=by omega
   have e1':aq 1 (ai l) (I 0)=some [I l[0]]:=e1;have hw':aiZ.wrap ((0:Int)+1)=((0+1:Nat):Int):=by decide
   have h00:((0:Nat):Int)=0:=rfl;simp -implicitDefEqProofs only [aw,aiW,aiX,aiY,hil',h00,e1',e2,a1,hw']
 ·rw [ajm]
  have:¬(l.length:Int)<l.length:=by omega
  simp -implicitDefEqProofs only [aw,aiW,aiX,aiY,this]
 ·simp -implicitDefEqProofs only [aw,aiW,aiX,aiY]
theorem aeb (w:ByteArray) : -1≤bY w:=by
 unfold bY EC;split<;>omega
theorem aii {v b:D} (h:v.isV=true):ao (D.tup [v,b]) 0=some v:=by cases v<;>first | rfl | cases h
theorem aij {v b:D} (h:b.isV=true):ao (D.tup [v,b]) 1=some b:=by cases b<;>first | rfl | cases h
theorem MD (w:ByteArray) (h:w.size≤4294967296):∃v:Int,mq [T w]=some (.ret [I v,B (Ar w).isSome] [])∧∀x,Ar w=some x→v=x:=by
 rw [MC,←ae0];by_cases hz:1<w.size
 ·have hz':(1:Int)<w.size:=by omega
  have hlen:0<(ae w).length:=by
   have:w.size=(ae w).length:=rfl;omega
  have hch0:kA (T w) (I 0)=some (U ((ae w)[0].toNat:Int)):=by
   have:=oO (s:=w) (k:=.i64) (i:=0);rw [ai6 hlen] at this;exact this
  have hhd:(ae w).head?=some (ae w)[0]:=by
   rw [List.head?_eq_getElem?,ai6 hlen]
  by_cases h5:(ae w)[0]=45
  ·have h5':((ae w)[0].toNat:Int)=45:=by rw [h5];rfl
   have hs:Mg w=if 0<bY (w.extract 1 w.size) then some (-bY (w.extract 1 w.size)) else none:=by
    unfold Mg;rw [if_pos ⟨hz,by rw [hhd,h5]⟩]
   have hr:=fN (w.extract 1 w.size) (by simp;omega);have hx:cU true 0 (T w) (I 1)=some (T (w.extract 1 w.size)):=Gn (z:=0) (i:=1) (by omega);have hlt:=PE (w.extract 1 w.size);have hge : -1≤bY (w.extract 1 w.size):=aeb _;rw [hs];generalize bY (w.extract 1 w.size)=v at *;have hu:un UnOp.neg (I v)=some (I (-v)):=by rw [Uk,ah (by omega) (by omega)]
   refine⟨-v,?_,fun x hx=>?_⟩
   ·by_cases hv:0<v<;>simp -implicitDefEqProofs only [aw,aiW,aiX,aiY,hz',hch0,h5',hx,hr,hu,hv,ai7,ai3]
   ·split at hx
    ·cases hx;rfl
    ·cases hx
  ·have h5':¬((ae w)[0].toNat:Int)=45:=fun e=>h5 (UInt8.toNat_inj.1 (by have e2:(45:UInt8).toNat=45:=rfl;omega))
   have hs:Mg w=if 0≤bY w then some (bY w) else none:=by
    unfold Mg;rw [if_neg (fun e=>h5 (by rw [hhd] at e;exact Option.some.inj e.2))]
   have hr:=fN w h;rw [hs];generalize bY w=v at *;refine⟨v,?_,fun x hx=>?_⟩
   ·by_cases hv:0≤v<;>simp -implicitDefEqProofs only [aw,aiW,aiX,aiY,hz',hch0,h5',hr,hv,ai7,ai3]
   ·split at hx
    ·cases hx;rfl
    ·cases hx
 ·have hz':¬(1:Int)<w.size:=by omega
  have hs:Mg w=if 0≤bY w then some (bY w) else none:=by
   unfold Mg;rw [if_neg (fun e=>hz e.1)]
  have hr:=fN w h;rw [hs];generalize bY w=v at *;refine⟨v,?_,fun x hx=>?_⟩
  ·by_cases hv:0≤v<;>simp -implicitDefEqProofs only [aw,aiW,aiX,aiY,hz',hr,hv,ai7,ai3]
  ·split at hx
   ·cases hx;rfl
   ·cases hx
theorem PC:∀(a:List ByteArray) (w:ByteArray) (r:List Int),cF a=some r→cF (a++[w])=(Ar w).map fun v=>r++[v]
 | [],w,r,h=>by
  cases h;simp only [ajU,cF];cases Ar w<;>rfl
 | x::a,w,r,h=>by
  simp only [cF,aje,ajw] at h;obtain⟨v,h1,m,h2,rfl⟩:=h;simp only [ajl,cF,h1,ajg,PC a w m h2];cases Ar w<;>rfl
theorem Zc {ws:List ByteArray} {i:Nat} (hn:cF (ws.take (i+1))=none):cF ws=none:=by
 have key:∀(a b:List ByteArray),cF a=none→cF (a++b)=none:=by
  intro a;induction a with
  | nil=>intro b h;cases h
  | cons x a ih =>
   intro b h;simp only [cF] at h;simp only [ajl,cF];cases hx:Ar x with
   | none=>rfl
   | some v =>
    rw [hx] at h;simp only [ajg,Option.map_eq_none_iff] at h;simp [ih b h]
 rw [←ajY (i+1) ws];exact key _ _ hn
theorem RJ (ws:List ByteArray) (n:Int) (h:ws.length≤1000000) (hz:∀w∈ws,w.size≤4294967296):pC [txs ws,I n]=some (match cF ws with | some r=>.ret [ai r,B (decide ((ws.length:Int)=n))] [] | none=>.ret [ai [],B false] []):=by
 rw [QZ];simp -implicitDefEqProofs only [aw,aiW,aiX,aiY];refine bL (fun r=>r=_) (fun(i:Nat)=>[I n,ai ((cF (ws.take i)).getD []),txs ws,I ws.length,I (i:Int)]) (fun i=>i≤ws.length∧(cF (ws.take i)).isSome=true) (fun i=>ws.length - i)
  (fun o=>(o = .ext 0 [I n,ai ((cF ws).getD [])]∧(cF ws).isSome=true)∨(o = .ret [ai [],B false] []∧cF ws=none)) (fun i hi=>?_) 0 ⟨ajv _,rfl⟩ rfl ?_
 ·obtain⟨hi1,hi2⟩:=hi
  by_cases hp:i<ws.length
  ·have hil:(i:Int)<ws.length:=by omega
   have hw:aiZ.wrap ((i:Int)+1)=((i+1:Nat):Int):=by rw [ah (by omega) (by omega)];omega
   have hel:aq 1 (txs ws) (I (i:Int))=some [T ws[i]]:=by simp [hp]
   obtain⟨v,hv,hv2⟩:=MD ws[i] (hz _ (ai1 hp));obtain⟨r,hr⟩:=ajE.1 hi2;have hsn:=PC (ws.take i) ws[i] r hr;rw [←ai9 hp] at hsn;have hrl:=(mU _ _ hr).1;rw [aju] at hrl;cases hq:Ar ws[i] with
   | none =>
    rw [hq] at hv hsn
    right
    refine⟨.ret [ai [],B false] [],?_,rfl,.inr ⟨rfl,Zc hsn⟩⟩
    have q0:∀b,ao (D.tup [I v,b]) 0=some (I v):=fun b=>aii rfl
    have q1:∀a b,ao (D.tup [a,B b]) 1=some (B b):=fun a b=>aij rfl
    simp -implicitDefEqProofs only [aw,aiW,aiX,aiY,hil,hel,hv,ai3,q0,q1];rfl
   | some x =>
    rw [hq] at hv hsn;have hvx:=hv2 x hq;subst hvx
    left
    have hm:aA 1 [I v]=some (.arr 1 [I v]):=rfl;have hck:cR (.arr 1 [I v])=some (.arr 1 [I v]):=kX [v];have ha:bB 1 8 (ai r) (.arr 1 [I v])=some (ai (r++[v])):=eL (m:=[v]) (by simp;omega);refine⟨i+1,?_,⟨hp,by rw [hsn];rfl⟩,by omega⟩
    rw [hsn,hr];have q0:∀b,ao (D.tup [I v,b]) 0=some (I v):=fun b=>aii rfl
    have q1:∀a b,ao (D.tup [a,B b]) 1=some (B b):=fun a b=>aij rfl
    simp -implicitDefEqProofs only [aw,aiW,aiX,aiY,hil,hel,hv,ai7,q0,q1,hm,hck,ha,hw,ajH]
  ·have hil:¬(i:Int)<ws.length:=by omega
   obtain rfl:i=ws.length:=by omega
   right
   rw [ajm] at hi2 ⊢;refine⟨_,?_,?_,.inl ⟨rfl,hi2⟩⟩
   ·simp -implicitDefEqProofs only [aw,aiW,aiX,aiY,hil]
   ·rfl
 ·rintro o (⟨rfl,ho⟩ | ⟨rfl,ho⟩)
  ·obtain⟨r,hr⟩:=ajE.1 ho
   have hrl:=(mU _ _ hr).1;rw [hr];simp -implicitDefEqProofs only [aw,aiW,aiX,aiY,ajH,hrl]
  ·rw [ho]
   simp -implicitDefEqProofs only [aw,aiW,aiX,aiY,sT]
theorem Eg (s:ByteArray) (b:Bool):cu [T s,B b]=some (.ret [T (if b=true then s else⟨#[110,111]⟩)] []):=by
 rw [Qw];cases b<;>simp -implicitDefEqProofs only [aw,aiW,aiX,aiY]
theorem acB:bp [T ln]=some (.ret [I (shN ln)] []):=by
 rw [bI];kernel_rfl
theorem aee:bp [T kq]=some (.ret [I (shN kq)] []):=by
 rw [bI];kernel_rfl
theorem adt:bp [T dZ]=some (.ret [I (shN dZ)] []):=by
 rw [bI];kernel_rfl
theorem YD:bp [T bT]=some (.ret [I (shN bT)] []):=by
 rw [bI];kernel_rfl
theorem aby:bp [T fG]=some (.ret [I (shN fG)] []):=by
 rw [bI];kernel_rfl
theorem acH:bp [T dP]=some (.ret [I (shN dP)] []):=by
 rw [bI];kernel_rfl
theorem afF:bp [T gV]=some (.ret [I (shN gV)] []):=by
 rw [bI];kernel_rfl
theorem VF:bp [T bA]=some (.ret [I (shN bA)] []):=by
 rw [bI];kernel_rfl
theorem afE:bp [T kV]=some (.ret [I (shN kV)] []):=by
 rw [bI];kernel_rfl
theorem Yd:bp [T bS]=some (.ret [I (shN bS)] []):=by
 rw [bI];kernel_rfl
theorem aba:bp [T cG]=some (.ret [I (shN cG)] []):=by
 rw [bI];kernel_rfl
theorem acp:bp [T eP]=some (.ret [I (shN eP)] []):=by
 rw [bI];kernel_rfl
theorem abz:bp [T cE]=some (.ret [I (shN cE)] []):=by
 rw [bI];kernel_rfl
theorem aaS:bp [T cB]=some (.ret [I (shN cB)] []):=by
 rw [bI];kernel_rfl
theorem aeg:bp [T er]=some (.ret [I (shN er)] []):=by
 rw [bI];kernel_rfl
theorem Yl:bp [T bM]=some (.ret [I (shN bM)] []):=by
 rw [bI];kernel_rfl
set_option maxRecDepth 1000000 in
set_option maxHeartbeats 4000000 in
theorem NR (w:ByteArray):bp [T w]=some (.ret [I (shN w)] []):=by
 by_cases h_wMelt:w=ln
 ·rw [h_wMelt];exact acB
 by_cases h_wJoin:w=kq
 ·rw [h_wJoin];exact aee
 by_cases h_wTake:w=dZ
 ·rw [h_wTake];exact adt
 by_cases h_wShares:w=bT
 ·rw [h_wShares];exact YD
 by_cases h_wStock:w=fG
 ·rw [h_wStock];exact aby
 by_cases h_wRule:w=dP
 ·rw [h_wRule];exact acH
 by_cases h_wCut:w=gV
 ·rw [h_wCut];exact afF
 by_cases h_wMissing:w=bA
 ·rw [h_wMissing];exact VF
 by_cases h_wOff:w=kV
 ·rw [h_wOff];exact afE
 by_cases h_wMedian:w=bS
 ·rw [h_wMedian];exact Yd
 by_cases h_wDrift:w=cG
 ·rw [h_wDrift];exact aba
 by_cases h_wNote:w=eP
 ·rw [h_wNote];exact acp
 by_cases h_wMetal:w=cE
 ·rw [h_wMetal];exact abz
 by_cases h_wLeast:w=cB
 ·rw [h_wLeast];exact aaS
 by_cases h_wFold:w=er
 ·rw [h_wFold];exact aeg
 by_cases h_wScheme:w=bM
 ·rw [h_wScheme];exact Yl
 have hs:shN w = -2:=by
  unfold shN;simp only [h_wMelt,h_wJoin,h_wTake,h_wShares,h_wStock,h_wRule,h_wCut,h_wMissing,h_wOff,h_wMedian,h_wDrift,h_wNote,h_wMetal,h_wLeast,h_wFold,h_wScheme,or_self,if_false]
 have b_wMelt:bin aiU false [] (T w) (D.v (aiT {data:={toList:=[109,101,108,116]}}))=some (B false):=by rw [af,decide_eq_false h_wMelt]
 have b_wJoin:bin aiU false [] (T w) (D.v (aiT {data:={toList:=[106,111,105,110]}}))=some (B false):=by rw [af,decide_eq_false h_wJoin]
 have b_wTake:bin aiU false [] (T w) (D.v (aiT {data:={toList:=[116,97,107,101]}}))=some (B false):=by rw [af,decide_eq_false h_wTake]
 have b_wShares:bin aiU false [] (T w) (D.v (aiT {data:={toList:=[115,104,97,114,101,115]}}))=some (B false):=by rw [af,decide_eq_false h_wShares]
 have b_wStock:bin aiU false [] (T w) (D.v (aiT {data:={toList:=[115,116,111,99,107]}}))=some (B false):=by rw [af,decide_eq_false h_wStock]
 have b_wRule:bin aiU false [] (T w) (D.v (aiT {data:={toList:=[114,117,108,101]}}))=some (B false):=by rw [af,decide_eq_false h_wRule]
 have b_wCut:bin aiU false [] (T w) (D.v (aiT {data:={toList:=[99,117,116]}}))=some (B false):=by rw [af,decide_eq_false h_wCut]
 have b_wMissing:bin aiU false [] (T w) (D.v (aiT {data:={toList:=[109,105,115,115,105,110,103]}}))=some (B false):=by rw [af,decide_eq_false h_wMissing]
 have b_wOff:bin aiU false [] (T w) (D.v (aiT {data:={toList:=[111,102,102]}}))=some (B false):=by rw [af,decide_eq_false h_wOff]
 have b_wMedian:bin aiU false [] (T w) (D.v (aiT {data:={toList:=[109,101,100,105,97,110]}}))=some (B false):=by rw [af,decide_eq_false h_wMedian]
 have b_wDrift:bin aiU false [] (T w) (D.v (aiT {data:={toList:=[100,114,105,102,116]}}))=some (B false):=by rw [af,decide_eq_false h_wDrift]
 have b_wNote:bin aiU false [] (T w) (D.v (aiT {data:={toList:=[110,111,116,101]}}))=some (B false):=by rw [af,decide_eq_false h_wNote]
 have b_wMetal:bin aiU false [] (T w) (D.v (aiT {data:={toList:=[109,101,116,97,108]}}))=some (B false):=by rw [af,decide_eq_false h_wMetal]
 have b_wLeast:bin aiU false [] (T w) (D.v (aiT {data:={toList:=[108,101,97,115,116]}}))=some (B false):=by rw [af,decide_eq_false h_wLeast]
 have b_wFold:bin aiU false [] (T w) (D.v (aiT {data:={toList:=[102,111,108,100]}}))=some (B false):=by rw [af,decide_eq_false h_wFold]
 have b_wScheme:bin aiU false [] (T w) (D.v (aiT {data:={toList:=[115,99,104,101,109,101]}}))=some (B false):=by rw [af,decide_eq_false h_wScheme]
 rw [hs,bI];simp -implicitDefEqProofs only [fj,ak,aE,b_wMelt,b_wJoin,b_wTake,b_wShares,b_wStock,b_wRule,b_wCut,b_wMissing,b_wOff,b_wMedian,b_wDrift,b_wNote,b_wMetal,b_wLeast,b_wFold,b_wScheme,ajg,aH,ajM,if_false]
structure Cn where
 m:Me
 s:List Slp
 t:List Int
 j:ByteArray
 f:List Fo
abbrev fo (x:Fo):D:=.agg [I x.1,B x.2]
abbrev fos (l:List Fo):D:=.arr 2 (l.map fo)
def cnD (c:Cn) (x y:Value) (n:Int):D:=.agg [I c.m.1,I c.m.2.1,I c.m.2.2,sls c.s,ai c.t,T c.j,fos c.f,.raw x,.raw y,I n]
section
variable (c:Cn) (x y:Value) (n:Int)
theorem bO:aa (cnD c x y n) (D.ref 0 0)=some (D.ref 0 0):=rfl
theorem cf:aa (cnD c x y n) (cnD c x y n)=some (cnD c x y n):=rfl
theorem jV:cI (D.ref 0 0) (cnD c x y n)=some (cnD c x y n):=rfl
theorem aae:((atD (cnD c x y n) (.ref 0 0)).bind (an true 3)).bind aM=some (me c.m):=rfl
theorem aaI:(atD (cnD c x y n) (.ref 0 3)).bind (an false 1)=some (sls c.s):=rfl
theorem adT:(atD (cnD c x y n) (.ref 0 4)).bind (an false 1)=some (ai c.t):=rfl
theorem aep:((atD (cnD c x y n) (.ref 0 5)).bind (an false 1)).bind aM=some (T c.j):=rfl
theorem af0:(atD (cnD c x y n) (.ref 0 6)).bind (an false 1)=some (fos c.f):=rfl
theorem VX (m:Me):stD 3 (cnD c x y n) (.ref 0 0) (me m)=some (cnD {c with m:=m} x y n):=rfl
theorem acC (s:List Slp):stD 1 (cnD c x y n) (.ref 0 3) (sls s)=some (cnD {c with s:=s} x y n):=rfl
theorem ahT (t:List Int):stD 1 (cnD c x y n) (.ref 0 4) (ai t)=some (cnD {c with t:=t} x y n):=rfl
theorem aic (j:ByteArray):stD 1 (cnD c x y n) (.ref 0 5) (T j)=some (cnD {c with j:=j} x y n):=rfl
theorem ahN (f:List Fo):stD 1 (cnD c x y n) (.ref 0 6) (fos f)=some (cnD {c with f:=f} x y n):=rfl
end
theorem bm (k:Nat):aT k (D.ref 0 0)=some (D.ref 0 k):=by
 show some (D.ref 0 (0+k))=_
 rw [Nat.zero_add]
theorem aV (i f:Nat):aa (D.ref i f) (D.ref i f)=some (D.ref i f):=rfl
end Go.Proofs.YtjafgdefcggjcaaGreatDoor

namespace Go.Proofs.YtjafgdefcggjcaaGreatDoor
open Go Go.V
theorem KZ:bin aiU false [] (T ln) (D.v (aiT {data:={toList:=[109,101,108,116]}}))=some (B true):=by rw [af];rfl
theorem XG:bin aiU false [] (T ln) (D.v (aiT {data:={toList:=[106,111,105,110]}}))=some (B false):=by rw [af];rfl
theorem Uq:bin aiU false [] (T ln) (D.v (aiT {data:={toList:=[115,116,111,99,107]}}))=some (B false):=by rw [af];rfl
theorem tD:bin aiU false [] (T kq) (D.v (aiT {data:={toList:=[109,101,108,116]}}))=some (B false):=by rw [af];rfl
theorem tU:bin aiU false [] (T kq) (D.v (aiT {data:={toList:=[106,111,105,110]}}))=some (B true):=by rw [af];rfl
theorem xc:bin aiU false [] (T kq) (D.v (aiT {data:={toList:=[115,116,111,99,107]}}))=some (B false):=by rw [af];rfl
theorem Wb:bin aiU false [] (T dZ) (D.v (aiT {data:={toList:=[109,101,108,116]}}))=some (B false):=by rw [af];rfl
theorem Wm:bin aiU false [] (T dZ) (D.v (aiT {data:={toList:=[106,111,105,110]}}))=some (B false):=by rw [af];rfl
theorem Ai:bin aiU false [] (T dZ) (D.v (aiT {data:={toList:=[116,97,107,101]}}))=some (B true):=by rw [af];rfl
theorem Ro:bin aiU false [] (T dZ) (D.v (aiT {data:={toList:=[115,104,97,114,101,115]}}))=some (B false):=by rw [af];rfl
theorem Xl:bin aiU false [] (T dZ) (D.v (aiT {data:={toList:=[114,117,108,101]}}))=some (B false):=by rw [af];rfl
theorem Yx:bin aiU false [] (T dZ) (D.v (aiT {data:={toList:=[99,117,116]}}))=some (B false):=by rw [af];rfl
theorem Og:bin aiU false [] (T dZ) (D.v (aiT {data:={toList:=[109,105,115,115,105,110,103]}}))=some (B false):=by rw [af];rfl
theorem Rz:bin aiU false [] (T bT) (D.v (aiT {data:={toList:=[109,101,108,116]}}))=some (B false):=by rw [af];rfl
theorem Ru:bin aiU false [] (T bT) (D.v (aiT {data:={toList:=[106,111,105,110]}}))=some (B false):=by rw [af];rfl
theorem uO:bin aiU false [] (T bT) (D.v (aiT {data:={toList:=[116,97,107,101]}}))=some (B false):=by rw [af];rfl
theorem mr:bin aiU false [] (T bT) (D.v (aiT {data:={toList:=[115,104,97,114,101,115]}}))=some (B true):=by rw [af];rfl
theorem Pc:bin aiU false [] (T bT) (D.v (aiT {data:={toList:=[115,116,111,99,107]}}))=some (B false):=by rw [af];rfl
theorem EK:bin aiU false [] (T bT) (D.v (aiT {data:={toList:=[114,117,108,101]}}))=some (B false):=by rw [af];rfl
theorem II:bin aiU false [] (T bT) (D.v (aiT {data:={toList:=[99,117,116]}}))=some (B false):=by rw [af];rfl
theorem KH:bin aiU false [] (T bT) (D.v (aiT {data:={toList:=[109,105,115,115,105,110,103]}}))=some (B false):=by rw [af];rfl
theorem Vo:bin aiU false [] (T bT) (D.v (aiT {data:={toList:=[111,102,102]}}))=some (B false):=by rw [af];rfl
theorem Qi:bin aiU false [] (T bT) (D.v (aiT {data:={toList:=[110,111,116,101]}}))=some (B false):=by rw [af];rfl
theorem QQ:bin aiU false [] (T bT) (D.v (aiT {data:={toList:=[102,111,108,100]}}))=some (B false):=by rw [af];rfl
theorem Uh:bin aiU false [] (T fG) (D.v (aiT {data:={toList:=[109,101,108,116]}}))=some (B false):=by rw [af];rfl
theorem UZ:bin aiU false [] (T fG) (D.v (aiT {data:={toList:=[106,111,105,110]}}))=some (B false):=by rw [af];rfl
theorem Tt:bin aiU false [] (T fG) (D.v (aiT {data:={toList:=[116,97,107,101]}}))=some (B false):=by rw [af];rfl
theorem Dz:bin aiU false [] (T fG) (D.v (aiT {data:={toList:=[115,116,111,99,107]}}))=some (B true):=by rw [af];rfl
theorem WD:bin aiU false [] (T dP) (D.v (aiT {data:={toList:=[109,101,108,116]}}))=some (B false):=by rw [af];rfl
theorem Xh:bin aiU false [] (T dP) (D.v (aiT {data:={toList:=[106,111,105,110]}}))=some (B false):=by rw [af];rfl
theorem ue:bin aiU false [] (T dP) (D.v (aiT {data:={toList:=[116,97,107,101]}}))=some (B false):=by rw [af];rfl
theorem vf:bin aiU false [] (T dP) (D.v (aiT {data:={toList:=[115,104,97,114,101,115]}}))=some (B false):=by rw [af];rfl
theorem UG:bin aiU false [] (T dP) (D.v (aiT {data:={toList:=[115,116,111,99,107]}}))=some (B false):=by rw [af];rfl
theorem ux:bin aiU false [] (T dP) (D.v (aiT {data:={toList:=[114,117,108,101]}}))=some (B true):=by rw [af];rfl
theorem Yq:bin aiU false [] (T dP) (D.v (aiT {data:={toList:=[99,117,116]}}))=some (B false):=by rw [af];rfl
theorem Oo:bin aiU false [] (T dP) (D.v (aiT {data:={toList:=[109,105,115,115,105,110,103]}}))=some (B false):=by rw [af];rfl
theorem YS:bin aiU false [] (T gV) (D.v (aiT {data:={toList:=[109,101,108,116]}}))=some (B false):=by rw [af];rfl
theorem Yh:bin aiU false [] (T gV) (D.v (aiT {data:={toList:=[106,111,105,110]}}))=some (B false):=by rw [af];rfl
theorem Gc:bin aiU false [] (T gV) (D.v (aiT {data:={toList:=[116,97,107,101]}}))=some (B false):=by rw [af];rfl
theorem Hv:bin aiU false [] (T gV) (D.v (aiT {data:={toList:=[115,104,97,114,101,115]}}))=some (B false):=by rw [af];rfl
theorem Vw:bin aiU false [] (T gV) (D.v (aiT {data:={toList:=[115,116,111,99,107]}}))=some (B false):=by rw [af];rfl
theorem Ge:bin aiU false [] (T gV) (D.v (aiT {data:={toList:=[114,117,108,101]}}))=some (B false):=by rw [af];rfl
theorem Js:bin aiU false [] (T gV) (D.v (aiT {data:={toList:=[99,117,116]}}))=some (B true):=by rw [af];rfl
theorem RD:bin aiU false [] (T gV) (D.v (aiT {data:={toList:=[109,105,115,115,105,110,103]}}))=some (B false):=by rw [af];rfl
theorem NF:bin aiU false [] (T bA) (D.v (aiT {data:={toList:=[109,101,108,116]}}))=some (B false):=by rw [af];rfl
theorem OS:bin aiU false [] (T bA) (D.v (aiT {data:={toList:=[106,111,105,110]}}))=some (B false):=by rw [af];rfl
theorem tv:bin aiU false [] (T bA) (D.v (aiT {data:={toList:=[116,97,107,101]}}))=some (B false):=by rw [af];rfl
theorem oP:bin aiU false [] (T bA) (D.v (aiT {data:={toList:=[115,104,97,114,101,115]}}))=some (B false):=by rw [af];rfl
theorem MF:bin aiU false [] (T bA) (D.v (aiT {data:={toList:=[115,116,111,99,107]}}))=some (B false):=by rw [af];rfl
theorem sP:bin aiU false [] (T bA) (D.v (aiT {data:={toList:=[114,117,108,101]}}))=some (B false):=by rw [af];rfl
theorem vn:bin aiU false [] (T bA) (D.v (aiT {data:={toList:=[99,117,116]}}))=some (B false):=by rw [af];rfl
theorem uc:bin aiU false [] (T bA) (D.v (aiT {data:={toList:=[109,105,115,115,105,110,103]}}))=some (B true):=by rw [af];rfl
theorem RH:bin aiU false [] (T bA) (D.v (aiT {data:={toList:=[111,102,102]}}))=some (B false):=by rw [af];rfl
theorem PO:bin aiU false [] (T bA) (D.v (aiT {data:={toList:=[110,111,116,101]}}))=some (B false):=by rw [af];rfl
theorem Pb:bin aiU false [] (T bA) (D.v (aiT {data:={toList:=[102,111,108,100]}}))=some (B false):=by rw [af];rfl
theorem Zx:bin aiU false [] (T kV) (D.v (aiT {data:={toList:=[109,101,108,116]}}))=some (B false):=by rw [af];rfl
theorem Ze:bin aiU false [] (T kV) (D.v (aiT {data:={toList:=[106,111,105,110]}}))=some (B false):=by rw [af];rfl
theorem Qc:bin aiU false [] (T kV) (D.v (aiT {data:={toList:=[116,97,107,101]}}))=some (B false):=by rw [af];rfl
theorem US:bin aiU false [] (T kV) (D.v (aiT {data:={toList:=[115,104,97,114,101,115]}}))=some (B false):=by rw [af];rfl
theorem WT:bin aiU false [] (T kV) (D.v (aiT {data:={toList:=[115,116,111,99,107]}}))=some (B false):=by rw [af];rfl
theorem Nk:bin aiU false [] (T kV) (D.v (aiT {data:={toList:=[114,117,108,101]}}))=some (B false):=by rw [af];rfl
theorem Sv:bin aiU false [] (T kV) (D.v (aiT {data:={toList:=[99,117,116]}}))=some (B false):=by rw [af];rfl
theorem RQ:bin aiU false [] (T kV) (D.v (aiT {data:={toList:=[109,105,115,115,105,110,103]}}))=some (B false):=by rw [af];rfl
theorem Sl:bin aiU false [] (T kV) (D.v (aiT {data:={toList:=[111,102,102]}}))=some (B true):=by rw [af];rfl
theorem Sd:bin aiU false [] (T bS) (D.v (aiT {data:={toList:=[109,101,108,116]}}))=some (B false):=by rw [af];rfl
theorem Rr:bin aiU false [] (T bS) (D.v (aiT {data:={toList:=[106,111,105,110]}}))=some (B false):=by rw [af];rfl
theorem EB:bin aiU false [] (T bS) (D.v (aiT {data:={toList:=[116,97,107,101]}}))=some (B false):=by rw [af];rfl
theorem yw:bin aiU false [] (T bS) (D.v (aiT {data:={toList:=[115,104,97,114,101,115]}}))=some (B false):=by rw [af];rfl
theorem ND:bin aiU false [] (T bS) (D.v (aiT {data:={toList:=[115,116,111,99,107]}}))=some (B false):=by rw [af];rfl
theorem Eh:bin aiU false [] (T bS) (D.v (aiT {data:={toList:=[114,117,108,101]}}))=some (B false):=by rw [af];rfl
theorem GL:bin aiU false [] (T bS) (D.v (aiT {data:={toList:=[99,117,116]}}))=some (B false):=by rw [af];rfl
theorem wM:bin aiU false [] (T bS) (D.v (aiT {data:={toList:=[109,105,115,115,105,110,103]}}))=some (B false):=by rw [af];rfl
theorem IH:bin aiU false [] (T bS) (D.v (aiT {data:={toList:=[111,102,102]}}))=some (B false):=by rw [af];rfl
theorem yK:bin aiU false [] (T bS) (D.v (aiT {data:={toList:=[109,101,100,105,97,110]}}))=some (B true):=by rw [af];rfl
theorem Qy:bin aiU false [] (T bS) (D.v (aiT {data:={toList:=[110,111,116,101]}}))=some (B false):=by rw [af];rfl
theorem Ry:bin aiU false [] (T bS) (D.v (aiT {data:={toList:=[102,111,108,100]}}))=some (B false):=by rw [af];rfl
theorem Ug:bin aiU false [] (T cG) (D.v (aiT {data:={toList:=[109,101,108,116]}}))=some (B false):=by rw [af];rfl
theorem Vd:bin aiU false [] (T cG) (D.v (aiT {data:={toList:=[106,111,105,110]}}))=some (B false):=by rw [af];rfl
theorem Je:bin aiU false [] (T cG) (D.v (aiT {data:={toList:=[116,97,107,101]}}))=some (B false):=by rw [af];rfl
theorem AJ:bin aiU false [] (T cG) (D.v (aiT {data:={toList:=[115,104,97,114,101,115]}}))=some (B false):=by rw [af];rfl
theorem Qm:bin aiU false [] (T cG) (D.v (aiT {data:={toList:=[115,116,111,99,107]}}))=some (B false):=by rw [af];rfl
theorem GQ:bin aiU false [] (T cG) (D.v (aiT {data:={toList:=[114,117,108,101]}}))=some (B false):=by rw [af];rfl
theorem Lk:bin aiU false [] (T cG) (D.v (aiT {data:={toList:=[99,117,116]}}))=some (B false):=by rw [af];rfl
theorem yL:bin aiU false [] (T cG) (D.v (aiT {data:={toList:=[109,105,115,115,105,110,103]}}))=some (B false):=by rw [af];rfl
theorem Lg:bin aiU false [] (T cG) (D.v (aiT {data:={toList:=[111,102,102]}}))=some (B false):=by rw [af];rfl
theorem Bi:bin aiU false [] (T cG) (D.v (aiT {data:={toList:=[109,101,100,105,97,110]}}))=some (B false):=by rw [af];rfl
theorem EE:bin aiU false [] (T cG) (D.v (aiT {data:={toList:=[100,114,105,102,116]}}))=some (B true):=by rw [af];rfl
theorem Uz:bin aiU false [] (T cG) (D.v (aiT {data:={toList:=[110,111,116,101]}}))=some (B false):=by rw [af];rfl
theorem Up:bin aiU false [] (T cG) (D.v (aiT {data:={toList:=[102,111,108,100]}}))=some (B false):=by rw [af];rfl
theorem XE:bin aiU false [] (T eP) (D.v (aiT {data:={toList:=[109,101,108,116]}}))=some (B false):=by rw [af];rfl
theorem Wj:bin aiU false [] (T eP) (D.v (aiT {data:={toList:=[106,111,105,110]}}))=some (B false):=by rw [af];rfl
theorem LG:bin aiU false [] (T eP) (D.v (aiT {data:={toList:=[116,97,107,101]}}))=some (B false):=by rw [af];rfl
theorem Qr:bin aiU false [] (T eP) (D.v (aiT {data:={toList:=[115,104,97,114,101,115]}}))=some (B false):=by rw [af];rfl
theorem Uv:bin aiU false [] (T eP) (D.v (aiT {data:={toList:=[115,116,111,99,107]}}))=some (B false):=by rw [af];rfl
theorem LF:bin aiU false [] (T eP) (D.v (aiT {data:={toList:=[114,117,108,101]}}))=some (B false):=by rw [af];rfl
theorem NZ:bin aiU false [] (T eP) (D.v (aiT {data:={toList:=[99,117,116]}}))=some (B false):=by rw [af];rfl
theorem Ng:bin aiU false [] (T eP) (D.v (aiT {data:={toList:=[109,105,115,115,105,110,103]}}))=some (B false):=by rw [af];rfl
theorem NJ:bin aiU false [] (T eP) (D.v (aiT {data:={toList:=[111,102,102]}}))=some (B false):=by rw [af];rfl
theorem Rt:bin aiU false [] (T eP) (D.v (aiT {data:={toList:=[109,101,100,105,97,110]}}))=some (B false):=by rw [af];rfl
theorem TL:bin aiU false [] (T eP) (D.v (aiT {data:={toList:=[100,114,105,102,116]}}))=some (B false):=by rw [af];rfl
theorem KU:bin aiU false [] (T eP) (D.v (aiT {data:={toList:=[110,111,116,101]}}))=some (B true):=by rw [af];rfl
theorem Vl:bin aiU false [] (T cE) (D.v (aiT {data:={toList:=[109,101,108,116]}}))=some (B false):=by rw [af];rfl
theorem Ur:bin aiU false [] (T cE) (D.v (aiT {data:={toList:=[106,111,105,110]}}))=some (B false):=by rw [af];rfl
theorem Ip:bin aiU false [] (T cE) (D.v (aiT {data:={toList:=[116,97,107,101]}}))=some (B false):=by rw [af];rfl
theorem Ak:bin aiU false [] (T cE) (D.v (aiT {data:={toList:=[115,104,97,114,101,115]}}))=some (B false):=by rw [af];rfl
theorem Qj:bin aiU false [] (T cE) (D.v (aiT {data:={toList:=[115,116,111,99,107]}}))=some (B false):=by rw [af];rfl
theorem Ih:bin aiU false [] (T cE) (D.v (aiT {data:={toList:=[114,117,108,101]}}))=some (B false):=by rw [af];rfl
theorem Lp:bin aiU false [] (T cE) (D.v (aiT {data:={toList:=[99,117,116]}}))=some (B false):=by rw [af];rfl
theorem yQ:bin aiU false [] (T cE) (D.v (aiT {data:={toList:=[109,105,115,115,105,110,103]}}))=some (B false):=by rw [af];rfl
theorem Lq:bin aiU false [] (T cE) (D.v (aiT {data:={toList:=[111,102,102]}}))=some (B false):=by rw [af];rfl
theorem Br:bin aiU false [] (T cE) (D.v (aiT {data:={toList:=[109,101,100,105,97,110]}}))=some (B false):=by rw [af];rfl
theorem ES:bin aiU false [] (T cE) (D.v (aiT {data:={toList:=[100,114,105,102,116]}}))=some (B false):=by rw [af];rfl
theorem Jm:bin aiU false [] (T cE) (D.v (aiT {data:={toList:=[110,111,116,101]}}))=some (B false):=by rw [af];rfl
theorem Ew:bin aiU false [] (T cE) (D.v (aiT {data:={toList:=[109,101,116,97,108]}}))=some (B true):=by rw [af];rfl
theorem UL:bin aiU false [] (T cE) (D.v (aiT {data:={toList:=[102,111,108,100]}}))=some (B false):=by rw [af];rfl
theorem UH:bin aiU false [] (T cB) (D.v (aiT {data:={toList:=[109,101,108,116]}}))=some (B false):=by rw [af];rfl
theorem UF:bin aiU false [] (T cB) (D.v (aiT {data:={toList:=[106,111,105,110]}}))=some (B false):=by rw [af];rfl
theorem Ij:bin aiU false [] (T cB) (D.v (aiT {data:={toList:=[116,97,107,101]}}))=some (B false):=by rw [af];rfl
theorem AR:bin aiU false [] (T cB) (D.v (aiT {data:={toList:=[115,104,97,114,101,115]}}))=some (B false):=by rw [af];rfl
theorem QI:bin aiU false [] (T cB) (D.v (aiT {data:={toList:=[115,116,111,99,107]}}))=some (B false):=by rw [af];rfl
theorem GK:bin aiU false [] (T cB) (D.v (aiT {data:={toList:=[114,117,108,101]}}))=some (B false):=by rw [af];rfl
theorem Li:bin aiU false [] (T cB) (D.v (aiT {data:={toList:=[99,117,116]}}))=some (B false):=by rw [af];rfl
theorem yc:bin aiU false [] (T cB) (D.v (aiT {data:={toList:=[109,105,115,115,105,110,103]}}))=some (B false):=by rw [af];rfl
theorem LB:bin aiU false [] (T cB) (D.v (aiT {data:={toList:=[111,102,102]}}))=some (B false):=by rw [af];rfl
theorem AB:bin aiU false [] (T cB) (D.v (aiT {data:={toList:=[109,101,100,105,97,110]}}))=some (B false):=by rw [af];rfl
theorem DH:bin aiU false [] (T cB) (D.v (aiT {data:={toList:=[100,114,105,102,116]}}))=some (B false):=by rw [af];rfl
theorem HQ:bin aiU false [] (T cB) (D.v (aiT {data:={toList:=[110,111,116,101]}}))=some (B false):=by rw [af];rfl
theorem Ex:bin aiU false [] (T cB) (D.v (aiT {data:={toList:=[109,101,116,97,108]}}))=some (B false):=by rw [af];rfl
theorem DK:bin aiU false [] (T cB) (D.v (aiT {data:={toList:=[108,101,97,115,116]}}))=some (B true):=by rw [af];rfl
theorem TW:bin aiU false [] (T cB) (D.v (aiT {data:={toList:=[102,111,108,100]}}))=some (B false):=by rw [af];rfl
theorem XM:bin aiU false [] (T er) (D.v (aiT {data:={toList:=[109,101,108,116]}}))=some (B false):=by rw [af];rfl
theorem WN:bin aiU false [] (T er) (D.v (aiT {data:={toList:=[106,111,105,110]}}))=some (B false):=by rw [af];rfl
theorem Lv:bin aiU false [] (T er) (D.v (aiT {data:={toList:=[116,97,107,101]}}))=some (B false):=by rw [af];rfl
theorem QE:bin aiU false [] (T er) (D.v (aiT {data:={toList:=[115,104,97,114,101,115]}}))=some (B false):=by rw [af];rfl
theorem UD:bin aiU false [] (T er) (D.v (aiT {data:={toList:=[115,116,111,99,107]}}))=some (B false):=by rw [af];rfl
theorem KM:bin aiU false [] (T er) (D.v (aiT {data:={toList:=[114,117,108,101]}}))=some (B false):=by rw [af];rfl
theorem NE:bin aiU false [] (T er) (D.v (aiT {data:={toList:=[99,117,116]}}))=some (B false):=by rw [af];rfl
theorem Pk:bin aiU false [] (T er) (D.v (aiT {data:={toList:=[109,105,115,115,105,110,103]}}))=some (B false):=by rw [af];rfl
theorem Nx:bin aiU false [] (T er) (D.v (aiT {data:={toList:=[111,102,102]}}))=some (B false):=by rw [af];rfl
theorem Rh:bin aiU false [] (T er) (D.v (aiT {data:={toList:=[109,101,100,105,97,110]}}))=some (B false):=by rw [af];rfl
theorem Uo:bin aiU false [] (T er) (D.v (aiT {data:={toList:=[100,114,105,102,116]}}))=some (B false):=by rw [af];rfl
theorem Lu:bin aiU false [] (T er) (D.v (aiT {data:={toList:=[110,111,116,101]}}))=some (B false):=by rw [af];rfl
theorem Uc:bin aiU false [] (T er) (D.v (aiT {data:={toList:=[109,101,116,97,108]}}))=some (B false):=by rw [af];rfl
theorem UI:bin aiU false [] (T er) (D.v (aiT {data:={toList:=[108,101,97,115,116]}}))=some (B false):=by rw [af];rfl
theorem La:bin aiU false [] (T er) (D.v (aiT {data:={toList:=[102,111,108,100]}}))=some (B true):=by rw [af];rfl
theorem RP:bin aiU false [] (T bM) (D.v (aiT {data:={toList:=[109,101,108,116]}}))=some (B false):=by rw [af];rfl
theorem Ra:bin aiU false [] (T bM) (D.v (aiT {data:={toList:=[106,111,105,110]}}))=some (B false):=by rw [af];rfl
theorem Dk:bin aiU false [] (T bM) (D.v (aiT {data:={toList:=[116,97,107,101]}}))=some (B false):=by rw [af];rfl
theorem yI:bin aiU false [] (T bM) (D.v (aiT {data:={toList:=[115,104,97,114,101,115]}}))=some (B false):=by rw [af];rfl
theorem Pe:bin aiU false [] (T bM) (D.v (aiT {data:={toList:=[115,116,111,99,107]}}))=some (B false):=by rw [af];rfl
theorem Ee:bin aiU false [] (T bM) (D.v (aiT {data:={toList:=[114,117,108,101]}}))=some (B false):=by rw [af];rfl
theorem Iz:bin aiU false [] (T bM) (D.v (aiT {data:={toList:=[99,117,116]}}))=some (B false):=by rw [af];rfl
theorem wJ:bin aiU false [] (T bM) (D.v (aiT {data:={toList:=[109,105,115,115,105,110,103]}}))=some (B false):=by rw [af];rfl
theorem HX:bin aiU false [] (T bM) (D.v (aiT {data:={toList:=[111,102,102]}}))=some (B false):=by rw [af];rfl
theorem yr:bin aiU false [] (T bM) (D.v (aiT {data:={toList:=[109,101,100,105,97,110]}}))=some (B false):=by rw [af];rfl
theorem Bl:bin aiU false [] (T bM) (D.v (aiT {data:={toList:=[100,114,105,102,116]}}))=some (B false):=by rw [af];rfl
theorem Dn:bin aiU false [] (T bM) (D.v (aiT {data:={toList:=[110,111,116,101]}}))=some (B false):=by rw [af];rfl
theorem BK:bin aiU false [] (T bM) (D.v (aiT {data:={toList:=[109,101,116,97,108]}}))=some (B false):=by rw [af];rfl
theorem AU:bin aiU false [] (T bM) (D.v (aiT {data:={toList:=[108,101,97,115,116]}}))=some (B false):=by rw [af];rfl
theorem Di:bin aiU false [] (T bM) (D.v (aiT {data:={toList:=[102,111,108,100]}}))=some (B false):=by rw [af];rfl
theorem t0A {z:Nat} {l b:List D}:ao (.tup (.arr z l::b)) 0=some (.arr z l):=rfl
theorem t0G {l b:List D}:ao (.tup (.agg l::b)) 0=some (.agg l):=rfl
theorem t0V {x:Value} {b:List D}:ao (.tup (.v x::b)) 0=some (.v x):=rfl
theorem t1A {a:D} {z:Nat} {l b:List D}:ao (.tup (a :: .arr z l::b)) 1=some (.arr z l):=rfl
theorem t1G {a:D} {l b:List D}:ao (.tup (a :: .agg l::b)) 1=some (.agg l):=rfl
theorem t1V {a:D} {x:Value} {b:List D}:ao (.tup (a :: .v x::b)) 1=some (.v x):=rfl
theorem t2V {a c:D} {x:Value} {b:List D}:ao (.tup (a::c :: .v x::b)) 2=some (.v x):=rfl
theorem lN {a:D} {b:List D}:dy (.tup (a::b)) 0 = .tup (.bad::b):=rfl
theorem sF (a b c:D) (m:Me):stD 3 (D.agg [a,b,c]) (D.ref 0 0) (me m)=some (me m):=rfl
theorem sO (m:Me):bf true 3 0 (me m)=some (me m):=rfl
theorem TH (a b:Me):aA 3 [me a,me b]=some (mes [a,b]):=rfl
abbrev okT:ByteArray:=⟨⟨[111,107]⟩⟩
abbrev noT:ByteArray:=⟨⟨[110,111]⟩⟩
abbrev pV:ByteArray:=⟨⟨[119,104,97,116]⟩⟩
def MW (c:Cn) (w rest:ByteArray):ByteArray × Cn :=
 if w=fG then(if (pSt rest).isSome=true then(okT,{c with s:=stO (pSt rest)}) else(noT,c))
 else if (pM rest).isSome=false then(noT,c)
 else if w=kq then(if joB [c.m,meO (pM rest)]=true then(mtT (joR [c.m,meO (pM rest)]),{c with m:=joR [c.m,meO (pM rest)]}) else(noT,c))
 else(okT,{c with m:=meO (pM rest)})
theorem BA {l:List Me} (h:joB l=true):cr (joR l)=true:=by
 have h':=h;unfold joB at h';simp only [ajy] at h';rw [joR,if_pos h];exact h'.2
theorem nF (s:ByteArray):cu [T s,B true]=some (.ret [T s] []):=Eg s true
theorem nX (s:ByteArray):cu [T s,B false]=some (.ret [T noT] []):=Eg s false
theorem WK (c:Cn) (x y:Value) (n:Int) (w rest:ByteArray) (hw:w=fG∨w=ln∨w=kq) (hr:rest.size≤1048576) :
  ic [cnD c x y n,T w,T rest]=some (.ret [T (MW c w rest).1] [cnD (MW c w rest).2 x y n]):=by
 rw [Cv];rcases hw with rfl | rfl | rfl
 ·have e1:=IK rest hr
  unfold MW;cases hq:(pSt rest).isSome<;>rw [hq] at e1<;>simp -implicitDefEqProofs only [aw,aiW,aiX,aiY,Dz,e1,t0A,t1V,bO,cf,bm,aV,acC,nF,nX]
 ·have e1:=wk rest hr
  have hne:¬ln=fG:=by decide
  have hne2:¬ln=kq:=by decide
  unfold MW;cases hq:(pM rest).isSome<;>rw [hq] at e1<;>simp -implicitDefEqProofs only [aw,aiW,aiX,aiY,Uq,XG,KZ,hne,hne2,e1,t0G,t1V,sF,sO,bO,cf,bm,aV,VX,nF,nX,ajF]
 ·have e1:=wk rest hr
  have hne:¬kq=fG:=by decide
  unfold MW;cases hq:(pM rest).isSome<;>rw [hq] at e1
  ·simp -implicitDefEqProofs only [aw,aiW,aiX,aiY,xc,tU,tD,hne,e1,t0G,t1V,sF,sO,bO,cf,bm,aV,VX,nF,nX,ajF]
  ·have e2:=Jp [c.m,meO (pM rest)] (by simp)
   cases hj:joB [c.m,meO (pM rest)]<;>rw [hj] at e2
   ·simp -implicitDefEqProofs only [aw,aiW,aiX,aiY,xc,tU,tD,hne,e1,e2,t0G,t1V,sF,sO,TH,aae,bO,cf,bm,aV,VX,nF,nX,ajF]
   ·have e3:=pl (BA hj)
    simp -implicitDefEqProofs only [aw,aiW,aiX,aiY,xc,tU,tD,hne,e1,e2,e3,t0G,t1V,sF,sO,TH,aae,bO,cf,bm,aV,VX,nF,nX,ajF]
theorem adq {l:List Slp}:∀{i n v:Nat},i≤l.length→de (l.take i) n=some v→∀j,j<i→0≤(ctl l i n).getD j 0∧(ctl l i n).getD j 0≤(slC l j:Int)
 | 0,_,_,_,_,j,hj=>absurd hj (Nat.not_lt_zero _)
 | i+1,n,v,hi,h,j,hj=>by
  obtain⟨u,p1,_,p3⟩:=PR hi h;have hlen:=rB l i (n - pk l i n*slW l i);by_cases hji:j<i
  ·have:=adq (Nat.le_of_succ_le hi) p1 j hji
   have e:(ctl l (i+1) n).getD j 0=(ctl l i (n - pk l i n*slW l i)).getD j 0:=by
    simp only [ctl,ajz];rw [ajQ (by omega)]
   rw [e];exact this
  ·have hj':j=i:=by omega
   subst hj';have e:(ctl l (j+1) n).getD j 0=(pk l j n:Int):=by
    simp only [ctl,ajz];rw [List.getElem?_append_right (by omega),hlen];simp
   rw [e];unfold mx at p3;omega
theorem Ud:∀(l:List Slp) (cs:List Int) (i:Nat) (hi:i<l.length) (hc:i<cs.length),(rsS l cs)[i]'(by rw [nD];exact hi)=(l[i].1,aiZ.wrap (l[i].2 - cs[i]))
 | x::l,k::cs,0,_,_=>rfl
 | x::l,k::cs,i+1,hi,hc=>by
  have:=Ud l cs i (by simpa using hi) (by simpa using hc);simp only [rsS,ajn,this]
def okL (l:List Slp):Prop:=∀x∈l,(1≤x.1∧x.1≤200)∧0≤x.2∧x.2≤20
theorem agT {l:List Slp} {n:Nat} (h:okL l) (hv:(de l n).isSome=true):okL (rsS l (ctl l l.length n)):=by
 intro x hx;obtain⟨i,hi,rfl⟩:=List.getElem_of_mem hx;rw [nD] at hi;have hc:i<(ctl l l.length n).length:=by rw [rB];exact hi
 rw [Ud l _ i hi hc];obtain⟨v,hv'⟩:=ajE.1 hv;have hb:=adq (l:=l) (i:=l.length) (n:=n) (v:=v) (ai0 _) (by rw [ajm];exact hv') i hi;have ho:=h l[i] (ai1 hi);have hC:=UC hi ho.2.1;rw [ajz,ai6 hc,ajH] at hb;have hw:aiZ.wrap (l[i].2 - (ctl l l.length n)[i])=l[i].2 - (ctl l l.length n)[i]:=ah (by omega) (by omega);rw [hw];dsimp only;omega
theorem yS (n:Int):jn [I n]=some (.ret [B (decide (1≤n∧n≤400))] []):=by
 rw [MJ];have:=br n 1 400;simp -implicitDefEqProofs only [aw,aiW,aiX,aiY,this]
theorem qZ (n:Int):fx [I n]=some (.ret [B (decide (1≤n∧n≤400))] []):=by
 rw [CW];have:=bC n 1 400;simp -implicitDefEqProofs only [aw,aiW,aiX,aiY,this]
def rlA (l:List Slp) (n:Int):Bool:=cA l&&decide (1≤n∧n≤400)
def rlB (l:List Slp) (n:Int):Bool:=rlA l n&&(de l n.toNat).isSome
def rlV (l:List Slp) (n:Int):List Int:=if rlB l n=true then ctl l l.length n.toNat else []
theorem rC {l:List Slp} {n:Int}:rlA l n=true↔cA l=true∧1≤n∧n≤400:=by
 unfold rlA;simp only [ajy,decide_eq_true_eq]
theorem QN (l:List Slp) (n:Int) (h:l.length≤1048576):pj [sls l,I n]=some (.ret [ai (rlV l n),B (rlB l n)] []):=by
 rw [QT];have hg:=dM l h;have hl:=yS n;by_cases hA:rlA l n=true
 ·obtain⟨h1,h2,h3⟩:=rC.1 hA
  have hr:=Qf l n.toNat (dE h1) (by omega) (dW h1);rw [show((n.toNat:Nat):Int)=n by omega] at hr;have hB:rlB l n=(de l n.toNat).isSome:=by unfold rlB;rw [hA,ajO]
  have hV:rlV l n=ruL l n.toNat:=by unfold rlV ruL;rw [hB]
  rw [hB,hV];simp -implicitDefEqProofs only [aw,aiW,aiX,aiY,hg,h1,hl,h2,h3,hr,t0A,lN,t1V]
 ·have hB:rlB l n=false:=by unfold rlB;simp [hA]
  have hV:rlV l n=[]:=by unfold rlV;rw [hB];rfl
  rw [hB,hV];by_cases h1:cA l=true
  ·have h2:¬(1≤n∧n≤400):=fun e=>hA (rC.2 ⟨h1,e⟩)
   simp -implicitDefEqProofs only [aw,aiW,aiX,aiY,hg,h1,hl,h2];rfl
  ·have h1':cA l=false:=by simpa using h1
   simp -implicitDefEqProofs only [aw,aiW,aiX,aiY,hg,h1',hl];rfl
theorem Rm (l:List Slp) (n:Int) (h:l.length≤1048576):pq [sls l,I n]=some (.ret [ai (rlV l n),B (rlB l n)] []):=by
 rw [Rx];have hg:=dl l h;have hl:=qZ n;by_cases hA:rlA l n=true
 ·obtain⟨h1,h2,h3⟩:=rC.1 hA
  have hr:=RE l n.toNat (dE h1) (by omega) (dW h1);rw [show((n.toNat:Nat):Int)=n by omega] at hr;have hB:rlB l n=(de l n.toNat).isSome:=by unfold rlB;rw [hA,ajO]
  unfold rlV;rw [hB];unfold ruO at hr;cases hq:(de l n.toNat).isSome
  ·rw [hq] at hr
   have hn:abG aiU (.v (.slice none 0 0))=some (B true):=rfl;simp -implicitDefEqProofs only [aw,aiW,aiX,aiY,hg,h1,hl,h2,h3,hr,hn];rfl
  ·rw [hq] at hr
   have hpos:0<(ctl l l.length n.toNat).length:=by
    rw [rB];rcases Nat.eq_zero_or_pos l.length with e | e
    ·rw [ai4 e] at hq
     have h0:de [] n.toNat=none:=if_neg (by omega);rw [h0] at hq;cases hq
    ·exact e
   have hn:abG aiU (ai (ctl l l.length n.toNat))=some (B false):=by
    obtain⟨a,t,e⟩:=List.exists_cons_of_length_pos hpos;rw [e];rfl
   simp -implicitDefEqProofs only [aw,aiW,aiX,aiY,hg,h1,hl,h2,h3,hr,hn]
 ·have hB:rlB l n=false:=by unfold rlB;simp [hA]
  have hV:rlV l n=[]:=by unfold rlV;rw [hB];rfl
  rw [hB,hV];by_cases h1:cA l=true
  ·have h2:¬(1≤n∧n≤400):=fun e=>hA (rC.2 ⟨h1,e⟩)
   simp -implicitDefEqProofs only [aw,aiW,aiX,aiY,hg,h1,hl,h2];rfl
  ·have h1':cA l=false:=by simpa using h1
   simp -implicitDefEqProofs only [aw,aiW,aiX,aiY,hg,h1',hl];rfl
def Kc (P:Nat→Bool):Nat→Nat→Option Nat
 | _,0=>none
 | k,u+1=>if P k=true then some k else Kc P (k+1) u
def tz (l:List Slp) (n:Int):Option Nat:=if rlA l n=true then Kc (fun k=>(de l k).isSome) n.toNat (401 - n.toNat) else none
def Bw (l:List Slp) (n:Int):Int:=match tz l n with
 | some k=>(k:Int) - n
 | none=>0
theorem ZM (P:Nat→Bool):∀(u k m:Nat),Kc P k u=some m→k≤m∧m<k+u
 | 0,_,_,h=>by cases h
 | u+1,k,m,h=>by
  unfold Kc at h;split at h
  ·cases h;omega
  ·have:=ZM P u (k+1) m h
   omega
theorem Gz (l:List Slp) (n:Int) (h:l.length≤1048576):jW [sls l,I n]=some (.ret [I (Bw l n),B (tz l n).isSome] []):=by
 rw [GT];have hg:=dM l h;have hl:=yS n;by_cases hA:rlA l n=true
 ·obtain⟨h1,h2,h3⟩:=rC.1 hA
  have hr:=yG l 400 (dE h1) (by omega) (dW h1);have hrow:=Bz (l:=oN 400 l (l.length+1)) (i:=l.length) (by rw [pW];omega);rw [Aj (by omega),ajm] at hrow;have hr':gA [sls l,D.v (ai8 aiZ 400)]=some (.ret [fC (oN 400 l (l.length+1))] []):=hr;have hO:tz l n=Kc (fun k=>(de l k).isSome) n.toNat (401 - n.toNat):=by unfold tz;rw [if_pos hA]
  have hb:=zJ (l:=l) (fun x hx=>(dW h1 x hx).2.2) l.length (ai0 _);rw [ajm] at hb;have hl8:=dE h1;simp -implicitDefEqProofs only [aw,aiW,aiX,aiY,hg,h1,hl,h2,h3,hr',hrow];refine bL (fun r=>r=_) (fun(k:Nat)=>[I n,ai (yX 400 (de l)),I (k:Int)]) (fun k=>n≤k∧k≤401∧tz l n=Kc (fun k=>(de l k).isSome) k (401 - k)) (fun k=>401 - k)
   (fun o=>(∃m,tz l n=some m∧o = .ret [I ((m:Int) - n),B true] [])∨(tz l n=none∧o = .ext 0 [])) (fun k hk=>?_) n.toNat ⟨by omega,by omega,hO⟩ (by rw [show((n.toNat:Nat):Int)=n by omega]) ?_
  ·obtain⟨g1,g2,g3⟩:=hk
   by_cases hp:k<401
   ·have hp':(k:Int)≤400:=by omega
    have her:=hZ (l:=yX 400 (de l)) (i:=k) (by rw [vE];omega);rw [vy (by omega)] at her;have hw:aiZ.wrap ((k:Int)+1)=((k+1:Nat):Int):=by rw [ah (by omega) (by omega)];omega
    have hw2:aiZ.wrap ((k:Int) - n)=(k:Int) - n:=ah (by omega) (by omega);rw [show 401 - k=(401 - (k+1))+1 by omega] at g3;cases hv:de l k with
    | none =>
     rw [hv] at her;have he:¬gT none<1048576:=by simp [gT]
     left
     refine⟨k+1,?_,⟨by omega,by omega,?_⟩,by omega⟩
     ·simp -implicitDefEqProofs only [aw,aiW,aiX,aiY,hp',her,he,hw]
     ·rw [g3]
      simp only [Kc,hv,ai3,ajM,if_false]
    | some v =>
     rw [hv] at her;have hv2:=hb k v hv;have he:gT (some v)<1048576:=by
      simp only [gT];omega
     right
     refine⟨_,?_,rfl,.inl ⟨k,?_,rfl⟩⟩
     ·simp -implicitDefEqProofs only [aw,aiW,aiX,aiY,hp',her,he,hw2]
     ·rw [g3]
      simp only [Kc,hv,ai7,if_true]
   ·have hp':¬(k:Int)≤400:=by omega
    obtain rfl:k=401:=by omega
    right
    refine⟨_,?_,rfl,.inr ⟨g3,rfl⟩⟩
    simp -implicitDefEqProofs only [aw,aiW,aiX,aiY,hp']
  ·rintro o (⟨m,hm,rfl⟩ | ⟨hm,rfl⟩)
   ·unfold Bw
    rw [hm];simp -implicitDefEqProofs only [aw,aiW,aiX,aiY,sT,ai7]
   ·unfold Bw
    rw [hm];simp -implicitDefEqProofs only [aw,aiW,aiX,aiY,ai3]
 ·have hO:tz l n=none:=by unfold tz;rw [if_neg hA]
  unfold Bw;rw [hO];by_cases h1:cA l=true
  ·have h2:¬(1≤n∧n≤400):=fun e=>hA (rC.2 ⟨h1,e⟩)
   simp -implicitDefEqProofs only [aw,aiW,aiX,aiY,hg,h1,hl,h2,ai3]
  ·have h1':cA l=false:=by simpa using h1
   simp -implicitDefEqProofs only [aw,aiW,aiX,aiY,hg,h1',hl,ai3]
theorem Mx (l:List Slp) (h1:cA l=true):mv [sls l]=some (.ret [ai (zA 400 (de l))] []):=by
 rw [Mp];have hl8:=dE h1;have e1:=wK l (by omega);have e2:=Ds l 400 hl8 (by omega) (dW h1);have e2':jv [ai (l.map (·.1)),ai (l.map (·.2)),D.v (ai8 aiZ 400)]=_:=e2;have hrow:=Bz (l:=qm 400 l (l.length+1)) (i:=l.length) (by rw [qj];omega);rw [AY (by omega),ajm] at hrow;simp -implicitDefEqProofs only [aw,aiW,aiX,aiY,e1,t0A,lN,t1A,e2',hrow]
theorem HZ (l:List Slp) (n:Int) (h:l.length≤1048576):jL [sls l,I n]=some (.ret [I (Bw l n),B (tz l n).isSome] []):=by
 rw [Ik];have hg:=dl l h;have hl:=qZ n;by_cases hA:rlA l n=true
 ·obtain⟨h1,h2,h3⟩:=rC.1 hA
  have hr:=Mx l h1;have hO:tz l n=Kc (fun k=>(de l k).isSome) n.toNat (401 - n.toNat):=by unfold tz;rw [if_pos hA]
  simp -implicitDefEqProofs only [aw,aiW,aiX,aiY,hg,h1,hl,h2,h3,hr];refine bL (fun r=>r=_) (fun(k:Nat)=>[I n,ai (zA 400 (de l)),I (k:Int)]) (fun k=>n≤k∧k≤401∧tz l n=Kc (fun k=>(de l k).isSome) k (401 - k)) (fun k=>401 - k)
   (fun o=>(∃m,tz l n=some m∧o = .ret [I ((m:Int) - n),B true] [])∨(tz l n=none∧o = .ext 0 [])) (fun k hk=>?_) n.toNat ⟨by omega,by omega,hO⟩ (by rw [show((n.toNat:Nat):Int)=n by omega]) ?_
  ·obtain⟨g1,g2,g3⟩:=hk
   by_cases hp:k<401
   ·have hp':(k:Int)≤400:=by omega
    have her:=hZ (l:=zA 400 (de l)) (i:=k) (by rw [vJ];omega);rw [Ab (by omega)] at her;have hw:aiZ.wrap ((k:Int)+1)=((k+1:Nat):Int):=by rw [ah (by omega) (by omega)];omega
    have hw2:aiZ.wrap ((k:Int) - n)=(k:Int) - n:=ah (by omega) (by omega);rw [show 401 - k=(401 - (k+1))+1 by omega] at g3;cases hv:de l k with
    | none =>
     rw [hv] at her;have he:¬0≤je none:=by decide
     left
     refine⟨k+1,?_,⟨by omega,by omega,?_⟩,by omega⟩
     ·simp -implicitDefEqProofs only [aw,aiW,aiX,aiY,hp',her,he,hw]
     ·rw [g3]
      simp only [Kc,hv,ai3,ajM,if_false]
    | some v =>
     rw [hv] at her;have he:0≤je (some v):=by
      rw [EX];omega
     right
     refine⟨_,?_,rfl,.inl ⟨k,?_,rfl⟩⟩
     ·simp -implicitDefEqProofs only [aw,aiW,aiX,aiY,hp',her,he,hw2]
     ·rw [g3]
      simp only [Kc,hv,ai7,if_true]
   ·have hp':¬(k:Int)≤400:=by omega
    obtain rfl:k=401:=by omega
    right
    refine⟨_,?_,rfl,.inr ⟨g3,rfl⟩⟩
    simp -implicitDefEqProofs only [aw,aiW,aiX,aiY,hp']
  ·rintro o (⟨m,hm,rfl⟩ | ⟨hm,rfl⟩)
   ·unfold Bw
    rw [hm];simp -implicitDefEqProofs only [aw,aiW,aiX,aiY,sT,ai7]
   ·unfold Bw
    rw [hm];simp -implicitDefEqProofs only [aw,aiW,aiX,aiY,ai3]
 ·have hO:tz l n=none:=by unfold tz;rw [if_neg hA]
  unfold Bw;rw [hO];by_cases h1:cA l=true
  ·have h2:¬(1≤n∧n≤400):=fun e=>hA (rC.2 ⟨h1,e⟩)
   simp -implicitDefEqProofs only [aw,aiW,aiX,aiY,hg,h1,hl,h2,ai3]
  ·have h1':cA l=false:=by simpa using h1
   simp -implicitDefEqProofs only [aw,aiW,aiX,aiY,hg,h1',hl,ai3]
end Go.Proofs.YtjafgdefcggjcaaGreatDoor

end
