/-
  A part of the proof: contracts and plain forms of functions beneath the statement, made small by a program (names shortened, what is not needed left out).
-/
import Derived.Test.YtjafgdefcggjcaaGreatDoorRows
import Derived.Test.YtjafgdefcggjcaaGreatDoorTie
import Derived.Test.YtjafgdefcggjcaaGreatDoorCards
import Derived.Test.YtjafgdefcggjcaaGreatDoorM8
import Derived.Maps.AppendAt
import Derived.Laws.ResultCell
import Derived.Laws.Rows
import Derived.BigCall
import Derived.Shelf.Strings.BuilderK
open Go.Value renaming string → aht, int → ahJ, slice → ahY, ownBlock → aiO
open Go.BinOp renaming eql → ahu, add → aiE
open Array renaming getElem?_eq_some_iff → ahv, getElem?_push_size → ahQ
open Int renaming reduceLT → ahw, reduceLE → ahx, reduceEq → ahy, toNat_natCast → aiF
open Nat renaming le_refl → ahz, le_trans → ahC, succ_mul → ah0, zero_le → ah3, lt_of_lt_of_le → aia, mul_le_mul_right → aik, mul_one → ait, mul_assoc → aiC, mul_add → aiJ, mod_eq_of_lt → aiK
open Go.IntKind renaming i64 → ahA
open List renaming getElem_mem → ahB, length_drop → ahD, eq_nil_of_length_eq_zero → ahE, getElem?_eq_getElem → ahF, take_succ_eq_append_getElem → ahG, range → ahL, getElem?_eq_some_iff → ahP, getElem?_cons_zero → ahR, replicate → ahS, cons_append → ahT, getElem_cons_succ → ahU, getElem?_map → ahW, getElem_drop → ahX, getElem?_take_of_lt → ahZ, length_take → ah1, append_assoc → ah5, getD_eq_getElem?_getD → ah6, drop_eq_getElem_cons → ah7, length_map → ah8, drop_eq_nil_of_le → aie, length_cons → aig, take_length → aih, map_append → aij, pairwise_cons → ail, map_cons → aim, getElem?_append_left → aio, getElem?_cons_succ → aip, append_nil → air, nil_append → ais, getElem_cons_zero → aiu, take_append_drop → aiw, length_replicate → aix, mem_of_mem_take → aiA, mem_cons → aiB, length_append → aiD, foldl_append → aiG, length → aiI, all_eq_true → aiL, length_nil → aiM, range_succ → aiN
open Go.World renaming setCell → ahH, ownsRow_nil → ain, cell?_of_block → aiz
open Go.Lib renaming cell_of_heap → ahI, cut → ahK, frozen_of_heap → ah9, atoiAll → aiH
open Option renaming bind_eq_some_iff → ahM, bind_some → ahO, isSome_some → ah2, map_eq_some_iff → ah4, isSome_none → aib, isSome_iff_exists → aic, getD_some → aif, map_some → aiq, map_map → aiv
open Go.Proofs renaming enters_of → ahN
open Option.some renaming injEq → ahV
open Bool renaming true_eq_false → aid, and_eq_true → aii, false_and → aiP
open ByteArray renaming size_append → aiy
open Go.Obj renaming cells → aiQ
set_option linter.unusedSimpArgs false
set_option linter.unusedVariables false
noncomputable section
namespace Go.Proofs.YtjafgdefcggjcaaGreatDoor
open Go Go.V Go.RowKit Go.Shelf
abbrev bt (l:List UInt8):ByteArray:=⟨l.toArray⟩
abbrev Ln:=ByteArray × ByteArray × List Int
def rdI (t:ByteArray):Ln × Bool :=
 match fb shE (bt (ahK (ac t) [32]).1) with
 | none=>((⟨#[]⟩,⟨#[]⟩,[]),false)
 | some sh =>
  if (ahK (ac t) [32]).2.2=decide (sh=⟨#[]⟩) then((⟨#[]⟩,⟨#[]⟩,[]),false)
  else if sh=⟨#[84]⟩∨sh=⟨#[]⟩ then((bt (ahK (ac t) [32]).1,bt (ahK (ac t) [32]).2.1,[]),true)
  else match cu (aB 32 (bt (ahK (ac t) [32]).2.1)) with
   | none=>((⟨#[]⟩,⟨#[]⟩,[]),false)
   | some r=>((bt (ahK (ac t) [32]).1,⟨#[]⟩,r),decide (((aB 32 (bt (ahK (ac t) [32]).2.1)).length:Int)=(sh.size:Int)))
theorem aax {k s:ByteArray} (h:fb shE k=some s):s=⟨#[84]⟩∨s=⟨#[]⟩∨s=⟨#[78]⟩∨s=⟨#[78,78]⟩∨s=⟨#[78,78,78]⟩:=by
 have key:∀E:List (ByteArray × ByteArray),fb E k=some s→s∈E.map (·.2):=by
  intro E
  induction E with
  | nil=>intro h;cases h
  | cons x E ih =>
   intro h
   simp only [fb] at h
   split at h
   ·cases h;simp
   ·exact List.mem_cons_of_mem _ (ih h)
 have:=key _ h
 simp only [shE,aim,List.map_nil,aiB,List.not_mem_nil,or_false] at this
 rcases this with h | h | h | h | h | h | h | h | h | h | h | h | h | h | h | h<;>simp [h]
theorem VM:(Tryz.prog.info? 3).map (fun i=>(i.zero,i.size,i.bytes))=some (some (.int .i64 0),1,8):=by kernel_rfl
theorem EI (w:World) (b o:Nat) (v:Value):w.grownBy (w.setCell ⟨b,o,none⟩ v) (some b) :=
 ⟨rfl,rfl,rfl,by simp [ahH],fun k _ h=>heap_setCell_other w ⟨b,o,none⟩ k v (fun e=>h (by rw [e]))⟩
theorem bj {W:World} {b t:Nat} {x y z:Value} (q:W.heap[b]?=some (.cells #[x,y,z] t (0,0))):(W.cell? ⟨b,0,none⟩=some x∧W.cell? ⟨b,1,none⟩=some y∧W.cell? ⟨b,2,none⟩=some z)∧W.frozen? ⟨b,0,none⟩=false∧W.frozen? ⟨b,1,none⟩=false∧W.frozen? ⟨b,2,none⟩=false :=
 ⟨⟨by rw [ahI q];rfl,by rw [ahI q];rfl,by rw [ahI q];rfl⟩,ah9 q 0,ah9 q 1,ah9 q 2⟩
theorem uF {W:World} {b t B:Nat} {x y z:Value} (q:W.heap[b]?=some (.cells #[x,y,z] t (0,0))) (hB:B≤b) (x' y' z':Value) :
  (((W.setCell ⟨b,0,none⟩ x').setCell ⟨b,1,none⟩ y').setCell ⟨b,2,none⟩ z').heap[b]?=some (.cells #[x',y',z'] t (0,0))∧Below B W (((W.setCell ⟨b,0,none⟩ x').setCell ⟨b,1,none⟩ y').setCell ⟨b,2,none⟩ z'):=by
 refine⟨?_,(((Below.refl B W).setCell hB _).setCell hB _).setCell hB _⟩
 have h1:=heap_setCell_same _ b 0 _ _ x' q
 have h2:=heap_setCell_same _ b 1 _ _ y' h1
 have h3:=heap_setCell_same _ b 2 _ _ z' h2
 rw [h3]
 rfl
theorem dJ {W:World} {tmps:Array Value} {g t:Nat} {cs:Array Value} {q:Bool} (hp:tmps.getD 2 undef = .pointer (some ⟨g,0,none⟩)) (hq:tmps.getD 3 undef = .bool q) (hg:W.heap[g]?=some (.cells cs t (0,0))) (hn:cs.size=3) :
  (results Tryz.f79 tmps).run Tryz.prog W = .ok (.tuple #[.agg cs,.bool q]) W:=by
 rw [results_cell_tmp (fn:=Tryz.f79) (p:=2) (u:=3) (ty:=107) rfl,hp,hq]
 have h:=run_loadVar_row W g t 107 cs (0,0) _ hg Tryz.underlying107 rfl (by rw [hn];kernel_rfl)
 simp [asAddr,h,Result.andThen]
theorem Ww (t:ByteArray):(bt (ahK (ac t) [32]).1).size≤t.size∧(bt (ahK (ac t) [32]).2.1).size≤t.size:=by
 show(ac (bt (ahK (ac t) [32]).1)).length≤(ac t).length∧(ac (bt (ahK (ac t) [32]).2.1)).length≤(ac t).length
 rw [cN (ahK (ac t) [32]).1,cN (ahK (ac t) [32]).2.1]
 generalize ac t=l
 by_cases h:(32:UInt8)∈l
 ·obtain⟨a,b,e,hn⟩:∃a b,l=a++32::b∧(32:UInt8)∉a:=by
   rcases nV 32 l with ⟨_,h2⟩ | ⟨a,b,h1,h2,_⟩
   ·exact absurd h h2
   ·exact⟨a,b,h1,h2⟩
  rw [e,Vh hn]
  simp
  omega
 ·rw [Pg h]
  simp
theorem rS {a b:ByteArray} (h:a.toList=b.toList):a=b:=by
 have e:∀c:ByteArray,c.toList=c.data.toList:=fun c=>by simp [ByteArray.toList_eq]
 rw [e,e] at h
 exact Ym h
theorem kA {W W':World} {base e size n:Nat} {v:Value} {xs:List Value} (h:W.ownsRow base e size v n xs) (hB:Below W.heap.size W W'):W'.ownsRow base e size v n xs:=by
 obtain⟨h1,h2 | ⟨g,cap,cur,h2,h3,h4,r⟩⟩:=h
 ·exact⟨h1,.inl h2⟩
 ·exact⟨h1,.inr ⟨g,cap,cur,h2,h3,(hB.block _ (ahv.1 h4).1).trans h4,r⟩⟩
theorem NC {W:World} {base e size n:Nat} {v:Value} {xs:List Value} (h:W.ownsRow base e size v n xs):∃A m c,v = .slice A m c:=by
 obtain⟨_,⟨rfl,_⟩ | ⟨g,cap,cur,rfl,_⟩⟩:=h
 ·exact⟨_,_,_,rfl⟩
 ·exact⟨_,_,_,rfl⟩
theorem nY {W:World} {base e size n:Nat} {v:Value} {xs:List Value} (h:W.ownsRow base e size v (n+1) xs):∃g cap,v = .slice (some ⟨g,0,none⟩) (n+1) cap:=by
 obtain⟨_,⟨rfl,h⟩ | ⟨g,cap,cur,rfl,_⟩⟩:=h
 ·cases h
 ·exact⟨g,cap,rfl⟩
theorem hX {W:World} {base e size n:Nat} {v:Value} {xs:List Value} (h:W.ownsRow base e size v n xs) {j:Nat} (hj:v.ownBlock=some j):base≤j:=by
 obtain⟨_,⟨rfl,_⟩ | ⟨g,cap,cur,rfl,hge,_⟩⟩:=h
 ·simp [aiO] at hj
 ·simp only [aiO,ahV] at hj
  omega
theorem pT {W:World} {base e size n b:Nat} {v:Value} {xs:List Value} (h:W.ownsRow base e size v n xs) (hb:b<base):v.ownBlock≠some b:=fun hj=>by
 have:=hX h hj
 omega
theorem eA {wr w2:World} {o x:Obj} {b:Nat} {v:Value} (q:wr.heap[b]?=some x) (hg:(wr.alloc o).grownBy w2 v.ownBlock) (hn:v.ownBlock≠some b):w2.heap[b]?=some x:=by
 have hb:b<wr.heap.size:=(ahv.1 q).1
 have h1:(wr.alloc o).heap[b]?=wr.heap[b]?:=(World.grownBy_alloc wr o none).block b hb (by simp)
 exact(hg.block b (aia hb (World.grownBy_alloc wr o none).size) (fun e=>hn e.symm)).trans (h1.trans q)
def ahn (w w':World) (e:Ending) (x:Ln × Bool):Prop:=∃sl,e = .returned (.tuple #[.agg #[.string x.1.1,.string x.1.2.1,sl],.bool x.2])∧Below w.heap.size w w' ∧
 ((sl = .slice none 0 0∧x.1.2.2=[])∨∃g cap cur t,sl = .slice (some ⟨g,0,none⟩) x.1.2.2.length cap∧x.1.2.2.length≤cap∧w.heap.size≤g∧w'.heap[g]?=some (.cells cur t (0,0))∧∀(i:Nat) (n:Int),x.1.2.2[i]?=some n→cur[i]?=some (.int .i64 n))
set_option maxHeartbeats 4000000 in
set_option maxRecDepth 1000000 in
theorem PN (t:ByteArray) (ht:t.size≤1048576) (w:World) (F:Nat→Prop) (hF:∀b,F b→b<w.heap.size) (hgl:gOk gl2 w F) :
  Calls Tryz.prog 79 #[.string t] w fun e w'=>ahn w w' e (rdI t):=by
 have hgW:∀W,Below w.heap.size w W→gOk gl2 W F:=fun W hW=>gT (fun _ h=>h) (fun b hb=>hW.block b (hF b hb)) hgl
 have hFW:∀W,Below w.heap.size w W→∀b,F b→b<W.heap.size:=fun W hW b hb=>aia (hF b hb) hW.size
 have h0W:∀W,Below w.heap.size w W→gOk gl0 W F:=fun W hW p hp=>hgW W hW p (mw p hp)
 have h1W:∀W,Below w.heap.size w W→gOk gl1 W F:=fun W hW p hp=>hgW W hW p (BZ p hp)
 have hCut:∀W,Below w.heap.size w W→_:=fun W hW=>acC (hFW W hW) (h0W W hW) t ht
 have hcz1:(bt (ahK (ac t) [32]).1).size≤1048576:=ahC (Ww t).1 ht
 have hcz2:(bt (ahK (ac t) [32]).2.1).size≤1048576:=ahC (Ww t).2 ht
 have hdef:rdI t=rdI t:=rfl
 conv at hdef=>rhs;unfold rdI
 generalize rdI t=res at hdef
 generalize (ahK (ac t) [32]).2.2=found at hCut hdef
 change ∀W,Below w.heap.size w W→Calls Tryz.prog 85 #[.string t,.string ⟨#[32]⟩] W (fun e w'=>e = .returned (.tuple #[.string (bt (ahK (ac t) [32]).1),.string (bt (ahK (ac t) [32]).2.1),.bool found])∧Below W.heap.size W w') at hCut
 generalize bt (ahK (ac t) [32]).1=word at hCut hdef hcz1
 generalize bt (ahK (ac t) [32]).2.1=rest at hCut hdef hcz2
 have hSh:∀W,Below w.heap.size w W→_:=fun W hW=>Zf (hFW W hW) (h0W W hW) word hcz1
 have b0:Below w.heap.size w (w.alloc (.cells #[.string ⟨#[]⟩,.string ⟨#[]⟩,.slice none 0 0] 107)):=(Below.refl _ w).alloc (ahz _) _
 have k2:(w.alloc (.cells #[.string ⟨#[]⟩,.string ⟨#[]⟩,.slice none 0 0] 107)).heap[w.heap.size]?=some (.cells #[.string ⟨#[]⟩,.string ⟨#[]⟩,.slice none 0 0] 107):=ahQ
 have hc1:=hCut _ b0
 have hlt0:w.heap.size<(w.alloc (.cells #[.string ⟨#[]⟩,.string ⟨#[]⟩,.slice none 0 0] 107)).heap.size:=(ahv.1 k2).1
 go_enter Tryz.func79,Tryz.ntmps79
 go_wp2_with (go_at_call 85;refine hc1.mono ?_)
 rintro e W1 ⟨rfl,b1⟩
 have hB1:=b0.trans (b1.mono b0.size)
 have k2:=(b1.block _ (ahv.1 k2).1).trans k2
 have hc2:=hSh _ hB1
 go_wp2_with (go_at_call 115;refine hc2.mono ?_)
 rintro e W2 ⟨rfl,b2⟩
 have hB2:=hB1.trans (b2.mono hB1.size)
 have k2:=(b2.block _ (ahv.1 k2).1).trans k2
 have hlt2:w.heap.size<W2.heap.size:=(ahv.1 k2).1
 clear hc1 hc2 hCut hSh b0 b1 b2 hlt0
 cases hv:fb shE word with
 | none =>
  rw [hv] at hdef
  subst hdef
  obtain⟨⟨c0,c1,c2⟩,f0,f1,f2⟩:=bj k2
  go_wp2
  obtain⟨k3,b3'⟩:=uF k2 (ahz _) (.string ⟨#[]⟩) (.string ⟨#[]⟩) (.slice none 0 0)
  exact bodyPost_ret_by (dJ rfl rfl k3 rfl) rfl ⟨_,rfl,hB2.trans b3',.inl ⟨rfl,rfl⟩⟩
 | some sh =>
  rw [hv] at hdef
  simp only [aif,ah2]
  rcases aax hv with rfl | rfl | rfl | rfl | rfl
  ·cases found
   ·have hdef':res=((⟨#[]⟩,⟨#[]⟩,[]),false):=hdef
    subst hdef'
    obtain⟨⟨c0,c1,c2⟩,f0,f1,f2⟩:=bj k2
    go_wp2
    obtain⟨k3,b3'⟩:=uF k2 (ahz _) (.string ⟨#[]⟩) (.string ⟨#[]⟩) (.slice none 0 0)
    exact bodyPost_ret_by (dJ rfl rfl k3 rfl) rfl ⟨_,rfl,hB2.trans b3',.inl ⟨rfl,rfl⟩⟩
   ·have hdef':res=((word,rest,[]),true):=hdef
    subst hdef'
    obtain⟨⟨c0,c1,c2⟩,f0,f1,f2⟩:=bj k2
    go_wp2
    obtain⟨k3,b3'⟩:=uF k2 (ahz _) (.string word) (.string rest) (.slice none 0 0)
    exact bodyPost_ret_by (dJ rfl rfl k3 rfl) rfl ⟨_,rfl,hB2.trans b3',.inl ⟨rfl,rfl⟩⟩
  ·cases found
   ·have hdef':res=((word,rest,[]),true):=hdef
    subst hdef'
    obtain⟨⟨c0,c1,c2⟩,f0,f1,f2⟩:=bj k2
    go_wp2
    obtain⟨k3,b3'⟩:=uF k2 (ahz _) (.string word) (.string rest) (.slice none 0 0)
    exact bodyPost_ret_by (dJ rfl rfl k3 rfl) rfl ⟨_,rfl,hB2.trans b3',.inl ⟨rfl,rfl⟩⟩
   ·have hdef':res=((⟨#[]⟩,⟨#[]⟩,[]),false):=hdef
    subst hdef'
    obtain⟨⟨c0,c1,c2⟩,f0,f1,f2⟩:=bj k2
    go_wp2
    obtain⟨k3,b3'⟩:=uF k2 (ahz _) (.string ⟨#[]⟩) (.string ⟨#[]⟩) (.slice none 0 0)
    exact bodyPost_ret_by (dJ rfl rfl k3 rfl) rfl ⟨_,rfl,hB2.trans b3',.inl ⟨rfl,rfl⟩⟩
  ·cases found
   ·have hdef':res=((⟨#[]⟩,⟨#[]⟩,[]),false):=hdef
    subst hdef'
    obtain⟨⟨c0,c1,c2⟩,f0,f1,f2⟩:=bj k2
    go_wp2
    obtain⟨k3,b3'⟩:=uF k2 (ahz _) (.string ⟨#[]⟩) (.string ⟨#[]⟩) (.slice none 0 0)
    exact bodyPost_ret_by (dJ rfl rfl k3 rfl) rfl ⟨_,rfl,hB2.trans b3',.inl ⟨rfl,rfl⟩⟩
   have hdef':res=match cu (aB 32 rest) with
    | none=>((⟨#[]⟩,⟨#[]⟩,[]),false)
    | some r=>((word,⟨#[]⟩,r),decide (((aB 32 rest).length:Int)=1)):=hdef
   clear hdef
   obtain⟨i0,hi0,hz0,hz1,hz2⟩:=info_parts VM
   have b3:Below w.heap.size w (W2.alloc (.cells #[.string word,.string ⟨#[]⟩,.slice none 0 0] 107)):=hB2.alloc hB2.size _
   have k9:(W2.alloc (.cells #[.string word,.string ⟨#[]⟩,.slice none 0 0] 107)).heap[W2.heap.size]?=some (.cells #[.string word,.string ⟨#[]⟩,.slice none 0 0] 107):=ahQ
   have k2:=(heap_alloc_old W2 (.cells #[.string word,.string ⟨#[]⟩,.slice none 0 0] 107) hlt2).trans k2
   have hc3:=Ep (hFW _ b3) (h0W _ b3) rest hcz2
   have hwz:∀x∈aB 32 rest,x.size≤1048576:=fun x hx=>ahC (fp 32 rest x hx) hcz2
   have hwl:(aB 32 rest).length≤1048577:=by
    rw [eK]
    have h1:=eJ 32 (ac rest)
    have h2:=cQ rest
    omega
   generalize aB 32 rest=ws at hc3 hwz hwl hdef'
   go_wp2_with (go_at_call 70;refine hc3.mono ?_)
   rintro e W3 ⟨b4,g,o,c,cs,tt,rfl,hge,hg,hcs⟩
   have hB3:=b3.trans (b4.mono b3.size)
   have k9:=(b4.block _ (ahv.1 k9).1).trans k9
   have k2:=(b4.block _ (ahv.1 k2).1).trans k2
   have hl9:W2.heap.size<W3.heap.size:=(ahv.1 k9).1
   have hlg:g<W3.heap.size:=(ahv.1 hg).1
   have hg9:W2.heap.size<g:=by
    have:(W2.alloc (aiQ #[.string word,.string ⟨#[]⟩,.slice none 0 0] 107)).heap.size=W2.heap.size+1:=by simp
    omega
   clear hc3 b3 b4
   go_wp2
   go_loopw [50] (fun v50 wr=>∃(i:Nat) (acc:List Int) (sl:Value),v50 = .int .i64 i∧i≤ws.length∧acc.length=i∧cu ws=(cu (ws.drop i)).map (acc++·) ∧
     wr.heap[W2.heap.size]?=some (.cells #[.string word,.string ⟨#[]⟩,sl] 107 (0,0))∧wr.heap[w.heap.size]?=some (.cells #[.string ⟨#[]⟩,.string ⟨#[]⟩,.slice none 0 0] 107 (0,0))∧wr.heap[g]?=some (.cells cs tt (0,0)) ∧
     wr.ownsRow W3.heap.size 3 1 sl i (acc.map (ahJ .i64))∧Below w.heap.size w wr∧W3.heap.size≤wr.heap.size) (fun v50 wr=>ws.length - (match v50 with | .int _ n=>n.toNat | _=>0))
   case atStart =>
    exact⟨0,[],.slice none 0 0,rfl,ah3 _,rfl,by simp,k9,k2,hg,ain _ _ _ _,hB3,ahz _⟩
   case round =>
    clear k9 k2 hg
    obtain⟨i,acc,sl,rfl,hi,hal,hnw,k9,k2,hg,hrow,hbw,hsz⟩:=hrel
    obtain⟨sA,sn,sc,rfl⟩:=NC hrow
    by_cases hp:i<ws.length
    ·have hpi:(i:Int)<(ws.length:Int):=by omega
     have cw:wr.cell? ⟨g,o+i,none⟩=some (.string ws[i]):=by
      rw [ahI hg]
      exact hcs i _ (ahF hp)
     have hat:=JK (hFW wr hbw) (hgW wr hbw) ws[i] (hwz _ (ahB hp))
     rw [ah7 hp] at hnw
     simp only [cu,zt] at hnw
     have failed:∀W,wr.heap.size≤W.heap.size→Below wr.heap.size wr W→cu ws=none→res=((⟨#[]⟩,⟨#[]⟩,[]),false):=fun _ _ _ h=>by rw [hdef',h]
     go_wp2_with (go_at_call 116;refine hat.mono ?_)
     rintro e W4 ⟨b4,⟨v,hv4,rfl⟩ | ⟨hno,n4,t4,x4,rfl⟩⟩
     case inr =>
      have hnn:cu ws=none:=by
       rw [hnw]
       cases hq:aiH (ac ws[i]) with
       | ok v=>exact absurd hq (hno v)
       | _=>rfl
      obtain rfl:=failed W4 b4.size b4 hnn
      have k2:=(b4.block _ (ahv.1 k2).1).trans k2
      have hB4:=hbw.trans (b4.mono hbw.size)
      obtain⟨⟨c0,c1,c2⟩,f0,f1,f2⟩:=bj k2
      go_wp2
      obtain⟨k3,b3'⟩:=uF k2 (ahz _) (.string ⟨#[]⟩) (.string ⟨#[]⟩) (.slice none 0 0)
      exact bodyPost_ret_by (dJ rfl rfl k3 rfl) rfl ⟨_,rfl,hB4.trans b3',.inl ⟨rfl,rfl⟩⟩
     case inl =>
      rw [hv4] at hnw
      simp only at hnw
      have k2:=(b4.block _ (ahv.1 k2).1).trans k2
      have k9:=(b4.block _ (ahv.1 k9).1).trans k9
      have hg:=(b4.block _ (ahv.1 hg).1).trans hg
      have hB4:=hbw.trans (b4.mono hbw.size)
      have hrow:=kA hrow b4
      have hsz4:=ahC hsz b4.size
      have hwi:=Am (hFW W4 hB4) (h0W W4 hB4) v (-999999) 999999
      go_wp2_with (go_at_call 52;refine hwi.mono ?_)
      rintro e W5 ⟨rfl,b5⟩
      have k2:=(b5.block _ (ahv.1 k2).1).trans k2
      have k9:=(b5.block _ (ahv.1 k9).1).trans k9
      have hg:=(b5.block _ (ahv.1 hg).1).trans hg
      have hB5:=hB4.trans (b5.mono hB4.size)
      have hrow:=kA hrow b5
      have hsz5:=ahC hsz4 b5.size
      by_cases hr : -999999≤v∧v≤999999
      case neg =>
       have hnn:cu ws=none:=by
        rw [hnw,if_neg (fun h=>hr h.1)]
        rfl
       obtain rfl:=failed W4 b4.size b4 hnn
       simp only [hr,decide_false]
       obtain⟨⟨c0,c1,c2⟩,f0,f1,f2⟩:=bj k2
       go_wp2
       obtain⟨k3,b3'⟩:=uF k2 (ahz _) (.string ⟨#[]⟩) (.string ⟨#[]⟩) (.slice none 0 0)
       exact bodyPost_ret_by (dJ rfl rfl k3 rfl) rfl ⟨_,rfl,hB5.trans b3',.inl ⟨rfl,rfl⟩⟩
      case pos =>
       simp only [hr,and_self,decide_true]
       have hit:=Bl (hFW W5 hB5) (h1W W5 hB5) (n:=v) (by omega) (by omega)
       go_wp2_with (go_at_call 117;refine hit.mono ?_)
       rintro e W6 ⟨rfl,b6⟩
       have k2:=(b6.block _ (ahv.1 k2).1).trans k2
       have k9:=(b6.block _ (ahv.1 k9).1).trans k9
       have hg:=(b6.block _ (ahv.1 hg).1).trans hg
       have hB6:=hB5.trans (b6.mono hB5.size)
       have hrow:=kA hrow b6
       have hsz6:=ahC hsz5 b6.size
       by_cases he:aJ v=ws[i]
       case neg =>
        have hnn:cu ws=none:=by
         rw [hnw,if_neg (fun h=>he h.2)]
         rfl
        obtain rfl:=failed W4 b4.size b4 hnn
        have he2:((aJ v).toList==(ws[i]).toList)=false:=by
         rw [beq_eq_false_iff_ne]
         intro h
         exact he (rS h)
        obtain⟨⟨c0,c1,c2⟩,f0,f1,f2⟩:=bj k2
        go_wp2
        obtain⟨k3,b3'⟩:=uF k2 (ahz _) (.string ⟨#[]⟩) (.string ⟨#[]⟩) (.slice none 0 0)
        exact bodyPost_ret_by (dJ rfl rfl k3 rfl) rfl ⟨_,rfl,hB6.trans b3',.inl ⟨rfl,rfl⟩⟩
       case pos =>
        rw [if_pos ⟨hr,he⟩] at hnw
        simp only [ahO,aiv] at hnw
        rw [he]
        obtain⟨⟨c0,c1,c2⟩,f0,f1,f2⟩:=bj k9
        have hnb:(ahY sA sn sc).ownBlock≠some W2.heap.size:=pT hrow hl9
        have hwz4:=hwl
        go_wp2_with (first
         | (at_builtin;refine wpList_append_own _ rfl _ _ 38 rfl W3.heap.size 3 i0 (.int .i64 0) 1 8 Tryz.underlying38 hi0 hz0 hz1 hz2 rfl (by decide) _ _ _ rfl (hrow.alloc _) ⟨W6.heap.size,0,none⟩ 1 1 [.int .i64 v] rfl rfl (cell_one_new _ _ _) (by intro u hu;simp at hu;subst hu;rfl) (by unfold maxLen;omega) (by omega) (by simp;omega) ?_;intro v' w2 hown' hgrow hnil;obtain⟨g',cap',rfl⟩:=nY hown';have hk:=eA k9 hgrow hnb;obtain⟨⟨d0,d1,d2⟩,g0,g1,g2⟩:=bj hk)
         | go_in)
        have hgk:=eA hg hgrow (pT hrow hlg)
        have k2k:=eA k2 hgrow (pT hrow (by omega))
        have hb7:Below w.heap.size w w2:=(hB6.alloc hB6.size (.cells #[.int .i64 v] 3)).grown hgrow (by simp;omega) (fun j hj=>by have:=hX hrow hj;omega)
        refine⟨⟨i+1,acc++[v],.slice (some ⟨g',0,none⟩) (i+1) cap',congrArg (ahJ .i64) (by omega),by omega,by simp [hal],?_,?_,?_,?_,?_,hb7.setCell (by simp;omega) _,?_⟩,?_⟩
        ·rw [hnw]
         congr 1
         funext r
         simp
        ·rw [heap_setCell_same _ _ _ _ _ _ hk]
         rfl
        ·rw [heap_setCell_other _ _ _ _ (by simp;omega)]
         exact k2k
        ·rw [heap_setCell_other _ _ _ _ (by simp;omega)]
         exact hgk
        ·rw [aij]
         exact hown'.kept (EI _ _ _ _) (.inr (pT hown' hl9))
        ·have e1:=hgrow.size
         simp at e1
         simp [ahH]
         omega
        ·show ws.length - ((i:Int)+1).toNat<ws.length - (i:Int).toNat
         omega
    ·have hpi:¬(i:Int)<(ws.length:Int):=by omega
     have hil:i=ws.length:=by omega
     rw [aie (by omega)] at hnw
     simp only [cu,aiq,air] at hnw
     rw [hnw] at hdef'
     subst hdef'
     obtain⟨⟨c0,c1,c2⟩,f0,f1,f2⟩:=bj k9
     obtain⟨⟨d0,d1,d2⟩,e0,e1,e2⟩:=bj k2
     go_wp2
     obtain⟨k3,b3'⟩:=uF k2 (ahz _) (.string word) (.string ⟨#[]⟩) (.slice sA sn sc)
     have h4:(ahY sA sn sc = .slice none 0 0∧acc=[])∨∃g cap cur t,ahY sA sn sc = .slice (some ⟨g,0,none⟩) acc.length cap∧acc.length≤cap∧w.heap.size≤g∧(((wr.setCell ⟨w.heap.size,0,none⟩ (.string word)).setCell ⟨w.heap.size,1,none⟩ (.string ⟨#[]⟩)).setCell ⟨w.heap.size,2,none⟩ (.slice sA sn sc)).heap[g]?=some (.cells cur t (0,0)) ∧
       ∀(i:Nat) (n:Int),acc[i]?=some n→cur[i]?=some (.int .i64 n):=by
      obtain⟨hxs,⟨hsv,hz⟩ | ⟨g2,cap2,cur,hsv,hge2,hg2,hcap,_,hcs2,htake⟩⟩:=hrow
      ·exact .inl ⟨hsv,ahE (by omega)⟩
      ·refine .inr ⟨g2,cap2,cur,3,by rw [hal];exact hsv,by rw [hal];exact hcap,by omega,?_,fun j n hn=>?_⟩
       ·rw [heap_setCell_other _ _ _ _ (by simp;omega),heap_setCell_other _ _ _ _ (by simp;omega),heap_setCell_other _ _ _ _ (by simp;omega)]
        exact hg2
       ·have e:(acc.map (ahJ .i64))[j]?=some (.int .i64 n):=by rw [ahW,hn];rfl
        have hj:j<acc.length:=(ahP.1 hn).1
        rw [←htake,ahZ (by omega)] at e
        simpa using e
     exact bodyPost_ret_by (dJ rfl rfl k3 rfl) rfl ⟨_,rfl,hbw.trans b3',h4⟩
  ·cases found
   ·have hdef':res=((⟨#[]⟩,⟨#[]⟩,[]),false):=hdef
    subst hdef'
    obtain⟨⟨c0,c1,c2⟩,f0,f1,f2⟩:=bj k2
    go_wp2
    obtain⟨k3,b3'⟩:=uF k2 (ahz _) (.string ⟨#[]⟩) (.string ⟨#[]⟩) (.slice none 0 0)
    exact bodyPost_ret_by (dJ rfl rfl k3 rfl) rfl ⟨_,rfl,hB2.trans b3',.inl ⟨rfl,rfl⟩⟩
   have hdef':res=match cu (aB 32 rest) with
    | none=>((⟨#[]⟩,⟨#[]⟩,[]),false)
    | some r=>((word,⟨#[]⟩,r),decide (((aB 32 rest).length:Int)=2)):=hdef
   clear hdef
   obtain⟨i0,hi0,hz0,hz1,hz2⟩:=info_parts VM
   have b3:Below w.heap.size w (W2.alloc (.cells #[.string word,.string ⟨#[]⟩,.slice none 0 0] 107)):=hB2.alloc hB2.size _
   have k9:(W2.alloc (.cells #[.string word,.string ⟨#[]⟩,.slice none 0 0] 107)).heap[W2.heap.size]?=some (.cells #[.string word,.string ⟨#[]⟩,.slice none 0 0] 107):=ahQ
   have k2:=(heap_alloc_old W2 (.cells #[.string word,.string ⟨#[]⟩,.slice none 0 0] 107) hlt2).trans k2
   have hc3:=Ep (hFW _ b3) (h0W _ b3) rest hcz2
   have hwz:∀x∈aB 32 rest,x.size≤1048576:=fun x hx=>ahC (fp 32 rest x hx) hcz2
   have hwl:(aB 32 rest).length≤1048577:=by
    rw [eK]
    have h1:=eJ 32 (ac rest)
    have h2:=cQ rest
    omega
   generalize aB 32 rest=ws at hc3 hwz hwl hdef'
   go_wp2_with (go_at_call 70;refine hc3.mono ?_)
   rintro e W3 ⟨b4,g,o,c,cs,tt,rfl,hge,hg,hcs⟩
   have hB3:=b3.trans (b4.mono b3.size)
   have k9:=(b4.block _ (ahv.1 k9).1).trans k9
   have k2:=(b4.block _ (ahv.1 k2).1).trans k2
   have hl9:W2.heap.size<W3.heap.size:=(ahv.1 k9).1
   have hlg:g<W3.heap.size:=(ahv.1 hg).1
   have hg9:W2.heap.size<g:=by
    have:(W2.alloc (aiQ #[.string word,.string ⟨#[]⟩,.slice none 0 0] 107)).heap.size=W2.heap.size+1:=by simp
    omega
   clear hc3 b3 b4
   go_wp2
   go_loopw [50] (fun v50 wr=>∃(i:Nat) (acc:List Int) (sl:Value),v50 = .int .i64 i∧i≤ws.length∧acc.length=i∧cu ws=(cu (ws.drop i)).map (acc++·) ∧
     wr.heap[W2.heap.size]?=some (.cells #[.string word,.string ⟨#[]⟩,sl] 107 (0,0))∧wr.heap[w.heap.size]?=some (.cells #[.string ⟨#[]⟩,.string ⟨#[]⟩,.slice none 0 0] 107 (0,0))∧wr.heap[g]?=some (.cells cs tt (0,0)) ∧
     wr.ownsRow W3.heap.size 3 1 sl i (acc.map (ahJ .i64))∧Below w.heap.size w wr∧W3.heap.size≤wr.heap.size) (fun v50 wr=>ws.length - (match v50 with | .int _ n=>n.toNat | _=>0))
   case atStart =>
    exact⟨0,[],.slice none 0 0,rfl,ah3 _,rfl,by simp,k9,k2,hg,ain _ _ _ _,hB3,ahz _⟩
   case round =>
    clear k9 k2 hg
    obtain⟨i,acc,sl,rfl,hi,hal,hnw,k9,k2,hg,hrow,hbw,hsz⟩:=hrel
    obtain⟨sA,sn,sc,rfl⟩:=NC hrow
    by_cases hp:i<ws.length
    ·have hpi:(i:Int)<(ws.length:Int):=by omega
     have cw:wr.cell? ⟨g,o+i,none⟩=some (.string ws[i]):=by
      rw [ahI hg]
      exact hcs i _ (ahF hp)
     have hat:=JK (hFW wr hbw) (hgW wr hbw) ws[i] (hwz _ (ahB hp))
     rw [ah7 hp] at hnw
     simp only [cu,zt] at hnw
     have failed:∀W,wr.heap.size≤W.heap.size→Below wr.heap.size wr W→cu ws=none→res=((⟨#[]⟩,⟨#[]⟩,[]),false):=fun _ _ _ h=>by rw [hdef',h]
     go_wp2_with (go_at_call 116;refine hat.mono ?_)
     rintro e W4 ⟨b4,⟨v,hv4,rfl⟩ | ⟨hno,n4,t4,x4,rfl⟩⟩
     case inr =>
      have hnn:cu ws=none:=by
       rw [hnw]
       cases hq:aiH (ac ws[i]) with
       | ok v=>exact absurd hq (hno v)
       | _=>rfl
      obtain rfl:=failed W4 b4.size b4 hnn
      have k2:=(b4.block _ (ahv.1 k2).1).trans k2
      have hB4:=hbw.trans (b4.mono hbw.size)
      obtain⟨⟨c0,c1,c2⟩,f0,f1,f2⟩:=bj k2
      go_wp2
      obtain⟨k3,b3'⟩:=uF k2 (ahz _) (.string ⟨#[]⟩) (.string ⟨#[]⟩) (.slice none 0 0)
      exact bodyPost_ret_by (dJ rfl rfl k3 rfl) rfl ⟨_,rfl,hB4.trans b3',.inl ⟨rfl,rfl⟩⟩
     case inl =>
      rw [hv4] at hnw
      simp only at hnw
      have k2:=(b4.block _ (ahv.1 k2).1).trans k2
      have k9:=(b4.block _ (ahv.1 k9).1).trans k9
      have hg:=(b4.block _ (ahv.1 hg).1).trans hg
      have hB4:=hbw.trans (b4.mono hbw.size)
      have hrow:=kA hrow b4
      have hsz4:=ahC hsz b4.size
      have hwi:=Am (hFW W4 hB4) (h0W W4 hB4) v (-999999) 999999
      go_wp2_with (go_at_call 52;refine hwi.mono ?_)
      rintro e W5 ⟨rfl,b5⟩
      have k2:=(b5.block _ (ahv.1 k2).1).trans k2
      have k9:=(b5.block _ (ahv.1 k9).1).trans k9
      have hg:=(b5.block _ (ahv.1 hg).1).trans hg
      have hB5:=hB4.trans (b5.mono hB4.size)
      have hrow:=kA hrow b5
      have hsz5:=ahC hsz4 b5.size
      by_cases hr : -999999≤v∧v≤999999
      case neg =>
       have hnn:cu ws=none:=by
        rw [hnw,if_neg (fun h=>hr h.1)]
        rfl
       obtain rfl:=failed W4 b4.size b4 hnn
       simp only [hr,decide_false]
       obtain⟨⟨c0,c1,c2⟩,f0,f1,f2⟩:=bj k2
       go_wp2
       obtain⟨k3,b3'⟩:=uF k2 (ahz _) (.string ⟨#[]⟩) (.string ⟨#[]⟩) (.slice none 0 0)
       exact bodyPost_ret_by (dJ rfl rfl k3 rfl) rfl ⟨_,rfl,hB5.trans b3',.inl ⟨rfl,rfl⟩⟩
      case pos =>
       simp only [hr,and_self,decide_true]
       have hit:=Bl (hFW W5 hB5) (h1W W5 hB5) (n:=v) (by omega) (by omega)
       go_wp2_with (go_at_call 117;refine hit.mono ?_)
       rintro e W6 ⟨rfl,b6⟩
       have k2:=(b6.block _ (ahv.1 k2).1).trans k2
       have k9:=(b6.block _ (ahv.1 k9).1).trans k9
       have hg:=(b6.block _ (ahv.1 hg).1).trans hg
       have hB6:=hB5.trans (b6.mono hB5.size)
       have hrow:=kA hrow b6
       have hsz6:=ahC hsz5 b6.size
       by_cases he:aJ v=ws[i]
       case neg =>
        have hnn:cu ws=none:=by
         rw [hnw,if_neg (fun h=>he h.2)]
         rfl
        obtain rfl:=failed W4 b4.size b4 hnn
        have he2:((aJ v).toList==(ws[i]).toList)=false:=by
         rw [beq_eq_false_iff_ne]
         intro h
         exact he (rS h)
        obtain⟨⟨c0,c1,c2⟩,f0,f1,f2⟩:=bj k2
        go_wp2
        obtain⟨k3,b3'⟩:=uF k2 (ahz _) (.string ⟨#[]⟩) (.string ⟨#[]⟩) (.slice none 0 0)
        exact bodyPost_ret_by (dJ rfl rfl k3 rfl) rfl ⟨_,rfl,hB6.trans b3',.inl ⟨rfl,rfl⟩⟩
       case pos =>
        rw [if_pos ⟨hr,he⟩] at hnw
        simp only [ahO,aiv] at hnw
        rw [he]
        obtain⟨⟨c0,c1,c2⟩,f0,f1,f2⟩:=bj k9
        have hnb:(ahY sA sn sc).ownBlock≠some W2.heap.size:=pT hrow hl9
        have hwz4:=hwl
        go_wp2_with (first
         | (at_builtin;refine wpList_append_own _ rfl _ _ 38 rfl W3.heap.size 3 i0 (.int .i64 0) 1 8 Tryz.underlying38 hi0 hz0 hz1 hz2 rfl (by decide) _ _ _ rfl (hrow.alloc _) ⟨W6.heap.size,0,none⟩ 1 1 [.int .i64 v] rfl rfl (cell_one_new _ _ _) (by intro u hu;simp at hu;subst hu;rfl) (by unfold maxLen;omega) (by omega) (by simp;omega) ?_;intro v' w2 hown' hgrow hnil;obtain⟨g',cap',rfl⟩:=nY hown';have hk:=eA k9 hgrow hnb;obtain⟨⟨d0,d1,d2⟩,g0,g1,g2⟩:=bj hk)
         | go_in)
        have hgk:=eA hg hgrow (pT hrow hlg)
        have k2k:=eA k2 hgrow (pT hrow (by omega))
        have hb7:Below w.heap.size w w2:=(hB6.alloc hB6.size (.cells #[.int .i64 v] 3)).grown hgrow (by simp;omega) (fun j hj=>by have:=hX hrow hj;omega)
        refine⟨⟨i+1,acc++[v],.slice (some ⟨g',0,none⟩) (i+1) cap',congrArg (ahJ .i64) (by omega),by omega,by simp [hal],?_,?_,?_,?_,?_,hb7.setCell (by simp;omega) _,?_⟩,?_⟩
        ·rw [hnw]
         congr 1
         funext r
         simp
        ·rw [heap_setCell_same _ _ _ _ _ _ hk]
         rfl
        ·rw [heap_setCell_other _ _ _ _ (by simp;omega)]
         exact k2k
        ·rw [heap_setCell_other _ _ _ _ (by simp;omega)]
         exact hgk
        ·rw [aij]
         exact hown'.kept (EI _ _ _ _) (.inr (pT hown' hl9))
        ·have e1:=hgrow.size
         simp at e1
         simp [ahH]
         omega
        ·show ws.length - ((i:Int)+1).toNat<ws.length - (i:Int).toNat
         omega
    ·have hpi:¬(i:Int)<(ws.length:Int):=by omega
     have hil:i=ws.length:=by omega
     rw [aie (by omega)] at hnw
     simp only [cu,aiq,air] at hnw
     rw [hnw] at hdef'
     subst hdef'
     obtain⟨⟨c0,c1,c2⟩,f0,f1,f2⟩:=bj k9
     obtain⟨⟨d0,d1,d2⟩,e0,e1,e2⟩:=bj k2
     go_wp2
     obtain⟨k3,b3'⟩:=uF k2 (ahz _) (.string word) (.string ⟨#[]⟩) (.slice sA sn sc)
     have h4:(ahY sA sn sc = .slice none 0 0∧acc=[])∨∃g cap cur t,ahY sA sn sc = .slice (some ⟨g,0,none⟩) acc.length cap∧acc.length≤cap∧w.heap.size≤g∧(((wr.setCell ⟨w.heap.size,0,none⟩ (.string word)).setCell ⟨w.heap.size,1,none⟩ (.string ⟨#[]⟩)).setCell ⟨w.heap.size,2,none⟩ (.slice sA sn sc)).heap[g]?=some (.cells cur t (0,0)) ∧
       ∀(i:Nat) (n:Int),acc[i]?=some n→cur[i]?=some (.int .i64 n):=by
      obtain⟨hxs,⟨hsv,hz⟩ | ⟨g2,cap2,cur,hsv,hge2,hg2,hcap,_,hcs2,htake⟩⟩:=hrow
      ·exact .inl ⟨hsv,ahE (by omega)⟩
      ·refine .inr ⟨g2,cap2,cur,3,by rw [hal];exact hsv,by rw [hal];exact hcap,by omega,?_,fun j n hn=>?_⟩
       ·rw [heap_setCell_other _ _ _ _ (by simp;omega),heap_setCell_other _ _ _ _ (by simp;omega),heap_setCell_other _ _ _ _ (by simp;omega)]
        exact hg2
       ·have e:(acc.map (ahJ .i64))[j]?=some (.int .i64 n):=by rw [ahW,hn];rfl
        have hj:j<acc.length:=(ahP.1 hn).1
        rw [←htake,ahZ (by omega)] at e
        simpa using e
     exact bodyPost_ret_by (dJ rfl rfl k3 rfl) rfl ⟨_,rfl,hbw.trans b3',h4⟩
  ·cases found
   ·have hdef':res=((⟨#[]⟩,⟨#[]⟩,[]),false):=hdef
    subst hdef'
    obtain⟨⟨c0,c1,c2⟩,f0,f1,f2⟩:=bj k2
    go_wp2
    obtain⟨k3,b3'⟩:=uF k2 (ahz _) (.string ⟨#[]⟩) (.string ⟨#[]⟩) (.slice none 0 0)
    exact bodyPost_ret_by (dJ rfl rfl k3 rfl) rfl ⟨_,rfl,hB2.trans b3',.inl ⟨rfl,rfl⟩⟩
   have hdef':res=match cu (aB 32 rest) with
    | none=>((⟨#[]⟩,⟨#[]⟩,[]),false)
    | some r=>((word,⟨#[]⟩,r),decide (((aB 32 rest).length:Int)=3)):=hdef
   clear hdef
   obtain⟨i0,hi0,hz0,hz1,hz2⟩:=info_parts VM
   have b3:Below w.heap.size w (W2.alloc (.cells #[.string word,.string ⟨#[]⟩,.slice none 0 0] 107)):=hB2.alloc hB2.size _
   have k9:(W2.alloc (.cells #[.string word,.string ⟨#[]⟩,.slice none 0 0] 107)).heap[W2.heap.size]?=some (.cells #[.string word,.string ⟨#[]⟩,.slice none 0 0] 107):=ahQ
   have k2:=(heap_alloc_old W2 (.cells #[.string word,.string ⟨#[]⟩,.slice none 0 0] 107) hlt2).trans k2
   have hc3:=Ep (hFW _ b3) (h0W _ b3) rest hcz2
   have hwz:∀x∈aB 32 rest,x.size≤1048576:=fun x hx=>ahC (fp 32 rest x hx) hcz2
   have hwl:(aB 32 rest).length≤1048577:=by
    rw [eK]
    have h1:=eJ 32 (ac rest)
    have h2:=cQ rest
    omega
   generalize aB 32 rest=ws at hc3 hwz hwl hdef'
   go_wp2_with (go_at_call 70;refine hc3.mono ?_)
   rintro e W3 ⟨b4,g,o,c,cs,tt,rfl,hge,hg,hcs⟩
   have hB3:=b3.trans (b4.mono b3.size)
   have k9:=(b4.block _ (ahv.1 k9).1).trans k9
   have k2:=(b4.block _ (ahv.1 k2).1).trans k2
   have hl9:W2.heap.size<W3.heap.size:=(ahv.1 k9).1
   have hlg:g<W3.heap.size:=(ahv.1 hg).1
   have hg9:W2.heap.size<g:=by
    have:(W2.alloc (aiQ #[.string word,.string ⟨#[]⟩,.slice none 0 0] 107)).heap.size=W2.heap.size+1:=by simp
    omega
   clear hc3 b3 b4
   go_wp2
   go_loopw [50] (fun v50 wr=>∃(i:Nat) (acc:List Int) (sl:Value),v50 = .int .i64 i∧i≤ws.length∧acc.length=i∧cu ws=(cu (ws.drop i)).map (acc++·) ∧
     wr.heap[W2.heap.size]?=some (.cells #[.string word,.string ⟨#[]⟩,sl] 107 (0,0))∧wr.heap[w.heap.size]?=some (.cells #[.string ⟨#[]⟩,.string ⟨#[]⟩,.slice none 0 0] 107 (0,0))∧wr.heap[g]?=some (.cells cs tt (0,0)) ∧
     wr.ownsRow W3.heap.size 3 1 sl i (acc.map (ahJ .i64))∧Below w.heap.size w wr∧W3.heap.size≤wr.heap.size) (fun v50 wr=>ws.length - (match v50 with | .int _ n=>n.toNat | _=>0))
   case atStart =>
    exact⟨0,[],.slice none 0 0,rfl,ah3 _,rfl,by simp,k9,k2,hg,ain _ _ _ _,hB3,ahz _⟩
   case round =>
    clear k9 k2 hg
    obtain⟨i,acc,sl,rfl,hi,hal,hnw,k9,k2,hg,hrow,hbw,hsz⟩:=hrel
    obtain⟨sA,sn,sc,rfl⟩:=NC hrow
    by_cases hp:i<ws.length
    ·have hpi:(i:Int)<(ws.length:Int):=by omega
     have cw:wr.cell? ⟨g,o+i,none⟩=some (.string ws[i]):=by
      rw [ahI hg]
      exact hcs i _ (ahF hp)
     have hat:=JK (hFW wr hbw) (hgW wr hbw) ws[i] (hwz _ (ahB hp))
     rw [ah7 hp] at hnw
     simp only [cu,zt] at hnw
     have failed:∀W,wr.heap.size≤W.heap.size→Below wr.heap.size wr W→cu ws=none→res=((⟨#[]⟩,⟨#[]⟩,[]),false):=fun _ _ _ h=>by rw [hdef',h]
     go_wp2_with (go_at_call 116;refine hat.mono ?_)
     rintro e W4 ⟨b4,⟨v,hv4,rfl⟩ | ⟨hno,n4,t4,x4,rfl⟩⟩
     case inr =>
      have hnn:cu ws=none:=by
       rw [hnw]
       cases hq:aiH (ac ws[i]) with
       | ok v=>exact absurd hq (hno v)
       | _=>rfl
      obtain rfl:=failed W4 b4.size b4 hnn
      have k2:=(b4.block _ (ahv.1 k2).1).trans k2
      have hB4:=hbw.trans (b4.mono hbw.size)
      obtain⟨⟨c0,c1,c2⟩,f0,f1,f2⟩:=bj k2
      go_wp2
      obtain⟨k3,b3'⟩:=uF k2 (ahz _) (.string ⟨#[]⟩) (.string ⟨#[]⟩) (.slice none 0 0)
      exact bodyPost_ret_by (dJ rfl rfl k3 rfl) rfl ⟨_,rfl,hB4.trans b3',.inl ⟨rfl,rfl⟩⟩
     case inl =>
      rw [hv4] at hnw
      simp only at hnw
      have k2:=(b4.block _ (ahv.1 k2).1).trans k2
      have k9:=(b4.block _ (ahv.1 k9).1).trans k9
      have hg:=(b4.block _ (ahv.1 hg).1).trans hg
      have hB4:=hbw.trans (b4.mono hbw.size)
      have hrow:=kA hrow b4
      have hsz4:=ahC hsz b4.size
      have hwi:=Am (hFW W4 hB4) (h0W W4 hB4) v (-999999) 999999
      go_wp2_with (go_at_call 52;refine hwi.mono ?_)
      rintro e W5 ⟨rfl,b5⟩
      have k2:=(b5.block _ (ahv.1 k2).1).trans k2
      have k9:=(b5.block _ (ahv.1 k9).1).trans k9
      have hg:=(b5.block _ (ahv.1 hg).1).trans hg
      have hB5:=hB4.trans (b5.mono hB4.size)
      have hrow:=kA hrow b5
      have hsz5:=ahC hsz4 b5.size
      by_cases hr : -999999≤v∧v≤999999
      case neg =>
       have hnn:cu ws=none:=by
        rw [hnw,if_neg (fun h=>hr h.1)]
        rfl
       obtain rfl:=failed W4 b4.size b4 hnn
       simp only [hr,decide_false]
       obtain⟨⟨c0,c1,c2⟩,f0,f1,f2⟩:=bj k2
       go_wp2
       obtain⟨k3,b3'⟩:=uF k2 (ahz _) (.string ⟨#[]⟩) (.string ⟨#[]⟩) (.slice none 0 0)
       exact bodyPost_ret_by (dJ rfl rfl k3 rfl) rfl ⟨_,rfl,hB5.trans b3',.inl ⟨rfl,rfl⟩⟩
      case pos =>
       simp only [hr,and_self,decide_true]
       have hit:=Bl (hFW W5 hB5) (h1W W5 hB5) (n:=v) (by omega) (by omega)
       go_wp2_with (go_at_call 117;refine hit.mono ?_)
       rintro e W6 ⟨rfl,b6⟩
       have k2:=(b6.block _ (ahv.1 k2).1).trans k2
       have k9:=(b6.block _ (ahv.1 k9).1).trans k9
       have hg:=(b6.block _ (ahv.1 hg).1).trans hg
       have hB6:=hB5.trans (b6.mono hB5.size)
       have hrow:=kA hrow b6
       have hsz6:=ahC hsz5 b6.size
       by_cases he:aJ v=ws[i]
       case neg =>
        have hnn:cu ws=none:=by
         rw [hnw,if_neg (fun h=>he h.2)]
         rfl
        obtain rfl:=failed W4 b4.size b4 hnn
        have he2:((aJ v).toList==(ws[i]).toList)=false:=by
         rw [beq_eq_false_iff_ne]
         intro h
         exact he (rS h)
        obtain⟨⟨c0,c1,c2⟩,f0,f1,f2⟩:=bj k2
        go_wp2
        obtain⟨k3,b3'⟩:=uF k2 (ahz _) (.string ⟨#[]⟩) (.string ⟨#[]⟩) (.slice none 0 0)
        exact bodyPost_ret_by (dJ rfl rfl k3 rfl) rfl ⟨_,rfl,hB6.trans b3',.inl ⟨rfl,rfl⟩⟩
       case pos =>
        rw [if_pos ⟨hr,he⟩] at hnw
        simp only [ahO,aiv] at hnw
        rw [he]
        obtain⟨⟨c0,c1,c2⟩,f0,f1,f2⟩:=bj k9
        have hnb:(ahY sA sn sc).ownBlock≠some W2.heap.size:=pT hrow hl9
        have hwz4:=hwl
        go_wp2_with (first
         | (at_builtin;refine wpList_append_own _ rfl _ _ 38 rfl W3.heap.size 3 i0 (.int .i64 0) 1 8 Tryz.underlying38 hi0 hz0 hz1 hz2 rfl (by decide) _ _ _ rfl (hrow.alloc _) ⟨W6.heap.size,0,none⟩ 1 1 [.int .i64 v] rfl rfl (cell_one_new _ _ _) (by intro u hu;simp at hu;subst hu;rfl) (by unfold maxLen;omega) (by omega) (by simp;omega) ?_;intro v' w2 hown' hgrow hnil;obtain⟨g',cap',rfl⟩:=nY hown';have hk:=eA k9 hgrow hnb;obtain⟨⟨d0,d1,d2⟩,g0,g1,g2⟩:=bj hk)
         | go_in)
        have hgk:=eA hg hgrow (pT hrow hlg)
        have k2k:=eA k2 hgrow (pT hrow (by omega))
        have hb7:Below w.heap.size w w2:=(hB6.alloc hB6.size (.cells #[.int .i64 v] 3)).grown hgrow (by simp;omega) (fun j hj=>by have:=hX hrow hj;omega)
        refine⟨⟨i+1,acc++[v],.slice (some ⟨g',0,none⟩) (i+1) cap',congrArg (ahJ .i64) (by omega),by omega,by simp [hal],?_,?_,?_,?_,?_,hb7.setCell (by simp;omega) _,?_⟩,?_⟩
        ·rw [hnw]
         congr 1
         funext r
         simp
        ·rw [heap_setCell_same _ _ _ _ _ _ hk]
         rfl
        ·rw [heap_setCell_other _ _ _ _ (by simp;omega)]
         exact k2k
        ·rw [heap_setCell_other _ _ _ _ (by simp;omega)]
         exact hgk
        ·rw [aij]
         exact hown'.kept (EI _ _ _ _) (.inr (pT hown' hl9))
        ·have e1:=hgrow.size
         simp at e1
         simp [ahH]
         omega
        ·show ws.length - ((i:Int)+1).toNat<ws.length - (i:Int).toNat
         omega
    ·have hpi:¬(i:Int)<(ws.length:Int):=by omega
     have hil:i=ws.length:=by omega
     rw [aie (by omega)] at hnw
     simp only [cu,aiq,air] at hnw
     rw [hnw] at hdef'
     subst hdef'
     obtain⟨⟨c0,c1,c2⟩,f0,f1,f2⟩:=bj k9
     obtain⟨⟨d0,d1,d2⟩,e0,e1,e2⟩:=bj k2
     go_wp2
     obtain⟨k3,b3'⟩:=uF k2 (ahz _) (.string word) (.string ⟨#[]⟩) (.slice sA sn sc)
     have h4:(ahY sA sn sc = .slice none 0 0∧acc=[])∨∃g cap cur t,ahY sA sn sc = .slice (some ⟨g,0,none⟩) acc.length cap∧acc.length≤cap∧w.heap.size≤g∧(((wr.setCell ⟨w.heap.size,0,none⟩ (.string word)).setCell ⟨w.heap.size,1,none⟩ (.string ⟨#[]⟩)).setCell ⟨w.heap.size,2,none⟩ (.slice sA sn sc)).heap[g]?=some (.cells cur t (0,0)) ∧
       ∀(i:Nat) (n:Int),acc[i]?=some n→cur[i]?=some (.int .i64 n):=by
      obtain⟨hxs,⟨hsv,hz⟩ | ⟨g2,cap2,cur,hsv,hge2,hg2,hcap,_,hcs2,htake⟩⟩:=hrow
      ·exact .inl ⟨hsv,ahE (by omega)⟩
      ·refine .inr ⟨g2,cap2,cur,3,by rw [hal];exact hsv,by rw [hal];exact hcap,by omega,?_,fun j n hn=>?_⟩
       ·rw [heap_setCell_other _ _ _ _ (by simp;omega),heap_setCell_other _ _ _ _ (by simp;omega),heap_setCell_other _ _ _ _ (by simp;omega)]
        exact hg2
       ·have e:(acc.map (ahJ .i64))[j]?=some (.int .i64 n):=by rw [ahW,hn];rfl
        have hj:j<acc.length:=(ahP.1 hn).1
        rw [←htake,ahZ (by omega)] at e
        simpa using e
     exact bodyPost_ret_by (dJ rfl rfl k3 rfl) rfl ⟨_,rfl,hbw.trans b3',h4⟩
abbrev lnD (x:Ln):D:=.agg [T x.1,T x.2.1,ai x.2.2]
def Wy (ds:List D):Option Out:=match ds with
 | [d]=>(zQ d).bind fun s=>if s.size≤1048576 then some (.ret [lnD (rdI s).1,B (rdI s).2] []) else none
 | _=>none
theorem aeO (s:ByteArray) (hs:s.size≤1048576):Wy [T s]=some (.ret [lnD (rdI s).1,B (rdI s).2] []):=by
 have e:Wy [T s]=(zQ (T s)).bind fun s=>if s.size≤1048576 then some (.ret [lnD (rdI s).1,B (rdI s).2] []) else none:=rfl
 rw [e,show zQ (T s)=some s from rfl,ahO,if_pos hs]
@[reducible] def xP:FS:={pm:=[.dat 0],rm:=[.dat 1,.dat 0],f:=Wy}
theorem ac1 {w:World} {G:Nat→Prop} {x:Ln} {sl:Value} (h:(sl = .slice none 0 0∧x.2.2=[])∨∃g cap cur t,sl = .slice (some ⟨g,0,none⟩) x.2.2.length cap∧x.2.2.length≤cap∧G g∧w.heap[g]?=some (.cells cur t (0,0))∧∀(i:Nat) (n:Int),x.2.2[i]?=some n→cur[i]?=some (.int .i64 n)) :
  bP w G (lnD x) (.agg #[.string x.1,.string x.2.1,sl]):=by
 refine⟨[.string x.1,.string x.2.1,sl],rfl,?_⟩
 simp only [RepC]
 refine⟨aw.2 ⟨[.string x.1],[.string x.2.1,sl],rfl,by simp only [RepC];exact⟨trivial,rfl⟩,aw.2 ⟨[.string x.2.1],[sl],rfl,by simp only [RepC];exact⟨trivial,rfl⟩,aw.2 ⟨[sl],[],rfl,?_,aV.2 rfl⟩⟩⟩,rfl⟩
 simp only [RepC]
 rcases h with ⟨rfl,h⟩ | ⟨g,cap,cur,t,rfl,h1,h2,h3,h4⟩
 ·rw [h]
  exact⟨none,0,[],rfl,ahz _,aV.2 rfl,by simp,fun h=>absurd rfl h⟩
 ·refine⟨some ⟨g,0,none⟩,cap,x.2.2.map (ahJ .i64),by simp,by simpa using h1,nP _,fun d hd=>?_,fun _=>⟨g,0,rfl,h2,fun j u hu=>?_⟩⟩
  ·obtain⟨n,_,rfl⟩:=List.mem_map.1 hd
   rfl
  ·rw [ahW] at hu
   obtain⟨n,hn,rfl⟩:=ah4.1 hu
   rw [ahI h3,Nat.zero_add]
   exact h4 j n hn
set_option maxRecDepth 100000 in
theorem LS:au gl2 Tryz.prog 79 xP:=by
 have he:∀args w,(callFunc 79 args).run Tryz.prog w = .ok (.enter 79 args) w:=ahN Tryz.func79 (by kernel_rfl) rfl
 refine bT he fun ds rs us hd args w F ow hg ha hF _=>?_
 obtain⟨d,y,rfl,h2,h3⟩:=mX ha
 replace hd:Wy [d]=some (.ret rs us):=hd
 obtain⟨s,hs,hd'⟩:=ahM.1 hd
 clear hd
 obtain rfl:=ES hs
 split at hd'
 case isFalse=>cases hd'
 rename_i hz
 cases hd'
 obtain⟨rfl,_⟩:=El h3
 rw [FK h2]
 refine(PN s hz w F (fun b hb=>(hF b hb).1) hg).mono ?_
 rintro e w' ⟨sl,rfl,hB,hsl⟩
 let F':Nat→Prop:=fun b=>F b∨(w.heap.size≤b∧b<w'.heap.size)
 refine⟨_,rfl,F',fun _=>none,[.agg #[.string (rdI s).1.1,.string (rdI s).1.2.1,sl],.bool (rdI s).2],rfl,
  ⟨hB.os,hB.tape,hB.output,hB.size,fun b hb _=>hB.block b hb,fun b hb=>.inl hb,fun b hb=>?_,fun b j h=>(by cases h),rfl,rfl,fun j=>?_,trivial⟩⟩
 ·rcases hb with hb | hb
  ·exact⟨.inl hb,aia (hF b hb).1 hB.size,rfl⟩
  ·exact⟨.inr hb.1,hb.2,rfl⟩
 ·match j with
  | 0 =>
   refine .inr (show bP w' (FB F' w.heap.size 1) _ _ from ac1 ?_)
   rcases hsl with h | ⟨g,cap,cur,t,q1,q2,q3,q4,q5⟩
   ·exact .inl h
   ·exact .inr ⟨g,cap,cur,t,q1,q2,⟨.inr ⟨q3,(ahv.1 q4).1⟩,q3⟩,q4,q5⟩
  | 1=>exact .inr (show bP w' _ (B (rdI s).2) _ from cb.2 ⟨rfl,rfl⟩)
  | j+2=>exact .inl rfl
end Go.Proofs.YtjafgdefcggjcaaGreatDoor

namespace Go.Proofs.YtjafgdefcggjcaaGreatDoor
open Go Go.V
abbrev Fo:=Int × Bool
abbrev Lf:=Int × Bool
def pX (l:List Fo):Bool:=(l.all fun f=>decide (1≤f.1∧f.1≤2))&&decide (l.length≤4)
def szF (l:List Fo):Nat × Nat:=l.foldl (fun s f=>if f.1=1 then(s.1*2,s.2) else(s.1,s.2*2)) (1,1)
def lg (pile other:List Lf) (over:Bool):List Lf :=
 if over=true then other.reverse.map (fun x=>(x.1,!x.2))++pile else pile++other.reverse.map (fun x=>(x.1,!x.2))
abbrev Pls:=List (List (List Lf))
def atF (ps:Pls) (y x:Nat):List Lf:=(ps.getD y []).getD x []
def VJ (ps:Pls) (f:Fo):Pls :=
 if f.1=2 then(ahL (ps.length / 2)).map fun y=>(ahL (ps.getD y []).length).map fun x=>lg (atF ps y x) (atF ps (ps.length - 1 - y) x) f.2
 else(ahL ps.length).map fun y=>(ahL ((ps.getD 0 []).length / 2)).map fun x=>lg (atF ps y x) (atF ps y ((ps.getD 0 []).length - 1 - x)) f.2
def agY (l:List Fo):Pls:=(ahL (szF l).2).map fun y=>(ahL (szF l).1).map fun x=>[(((y*(szF l).1+x:Nat):Int),true)]
def fX (l:List Fo) (n:Nat):Pls:=(l.take n).foldl VJ (agY l)
def eP (l:List Fo):List Lf:=atF (fX l l.length) 0 0
def DS (front:Bool) (i:Nat) (x:Lf):Int:=if x.2=front then 2*(i:Int)+1 else 2*(i:Int)+2
def Yn (l:List Fo) (front:Bool) (n:Nat):List Int :=
 ((eP l).take n).zipIdx.foldl (fun a p=>a.set p.1.1.toNat (DS front p.2 p.1)) (ahS (eP l).length 0)
def qp (p:List Int):List Int:=p.reverse.map fun x=>-x
def aaI (stay turned:List Int) (over:Bool):List Int:=if over=true then turned++stay else stay++turned
def SL (s:Nat × Nat × List (List Int)) (f:Fo):Nat × Nat × List (List Int) :=
 if f.1=1 then(s.1 / 2,s.2.1,(ahL s.2.1).flatMap fun r=>(ahL (s.1 / 2)).map fun k=>aaI (s.2.2.getD (r*s.1+k) []) (qp (s.2.2.getD (r*s.1+s.1 - 1 - k) [])) f.2)
 else(s.1,s.2.1 / 2,(ahL (s.2.1 / 2)).flatMap fun r=>(ahL s.1).map fun k=>aaI (s.2.2.getD (r*s.1+k) []) (qp (s.2.2.getD ((s.2.1 - 1 - r)*s.1+k) [])) f.2)
def jZ (l:List Fo) (n:Nat):Nat × Nat × List (List Int):=(l.take n).foldl SL ((szF l).1,(szF l).2,(ahL ((szF l).1*(szF l).2)).map fun i=>[((i:Nat):Int)+1])
def cZ (l:List Fo):List Int:=(jZ l l.length).2.2.getD 0 []
def Ei (n:Int):Int:=if -n<n then n else -n
def At (l:List Fo) (n:Nat):List Int × List Int :=
 ((cZ l).take n).zipIdx.foldl (fun a p =>
  (a.1.set (Ei p.1 - 1).toNat (if p.1<0 then 2*(p.2:Int)+2 else 2*(p.2:Int)+1),a.2.set (Ei p.1 - 1).toNat (if p.1<0 then 2*(p.2:Int)+1 else 2*(p.2:Int)+2)))
  (ahS (cZ l).length 0,ahS (cZ l).length 0)
def UE:Nat→List (List Fo)
 | 0=>[[]]
 | n+1=>(UE n).flatMap fun l=>[(1,true)::l,(2,true)::l]
def um:List (List Fo):=UE 0++UE 1++UE 2++UE 3++UE 4
theorem Xt:∀(n:Nat) (l:List Fo),l.length=n→(∀f∈l,(f.1=1∨f.1=2)∧f.2=true)→l∈UE n
 | 0,l,h,_=>by
  rw [ahE h]
  simp [UE]
 | n+1,[],h,_=>by simp at h
 | n+1,f::l,h,hf=>by
  have ih:=Xt n l (by simpa using h) fun g hg=>hf g (by simp [hg])
  obtain⟨h1,h2⟩:=hf f (by simp)
  simp only [UE,List.mem_flatMap]
  refine⟨l,ih,?_⟩
  obtain⟨a,b⟩:=f
  dsimp only at h1 h2
  subst h2
  rcases h1 with rfl | rfl<;>simp
theorem EK {l:List Fo} (h:l.length≤4) (hf:∀f∈l,(f.1=1∨f.1=2)∧f.2=true):l∈um:=by
 have:=Xt l.length l rfl hf
 unfold um
 simp only [List.mem_append]
 have h5:l.length=0∨l.length=1∨l.length=2∨l.length=3∨l.length=4:=by omega
 rcases h5 with e | e | e | e | e<;>rw [e] at this<;>simp [this]
def afp (ps:Pls) (rows cols m:Nat):Bool:=decide (ps.length=rows)&&ps.all fun r=>decide (r.length=cols)&&r.all fun p=>decide (p.length=m)
def okF (l:List Fo):Bool :=
 decide (Yn l true (eP l).length=(At l (cZ l).length).1)&&decide ((eP l).length=(szF l).1*(szF l).2)&&decide ((cZ l).length=(szF l).1*(szF l).2)
 && decide (1≤(szF l).1∧(szF l).1≤16∧1≤(szF l).2∧(szF l).2≤16∧(szF l).1*(szF l).2≤16)
 && ((eP l).all fun x=>decide (0≤x.1∧x.1<((eP l).length:Int)))
 && ((cZ l).all fun x=>decide (0≤Ei x - 1∧Ei x - 1<((cZ l).length:Int)))
 && ((At l (cZ l).length).1.all fun n=>decide (0≤n∧n≤100))
 && ((ahL l.length).all fun n=>(let s:=szF (l.drop n);afp (fX l n) s.2 s.1 (2 ^ n))
  && (let s:=jZ l n;decide (s.1=(szF (l.drop n)).1)&&decide (s.2.1=(szF (l.drop n)).2)&&decide (s.2.2.length=s.1*s.2.1)&&s.2.2.all fun p=>decide (p.length=2 ^ n)))
set_option maxRecDepth 100000 in
theorem JU:um.all okF=true:=by decide +kernel
end Go.Proofs.YtjafgdefcggjcaaGreatDoor

namespace Go.Proofs.YtjafgdefcggjcaaGreatDoor
open Go Go.V
def xR (cols:Nat):Nat→List Int→ByteArray
 | 0,_=>⟨⟨[]⟩⟩
 | k+1,l=>bX 44 (l.take cols)++⟨⟨[47]⟩⟩++xR cols k (l.drop cols)
def KJ (cols i:Nat):ByteArray:=if i % cols=cols - 1 then⟨⟨[47]⟩⟩ else⟨⟨[44]⟩⟩
def qj (cols:Nat):Nat→List Int→ByteArray
 | _,[]=>⟨⟨[]⟩⟩
 | i,n::l=>aJ n++KJ cols i++qj cols (i+1) l
theorem rc (l:List UInt8):ac ⟨⟨l⟩⟩=l:=rfl
theorem Xq {cols:Nat} (rest:List Int):∀(r:List Int) (i:Nat),r≠[]→i % cols+r.length=cols→ac (qj cols i (r++rest))=ac (bX 44 r)++47::ac (qj cols (i+r.length) rest)
 | [],_,h,_=>absurd rfl h
 | [a],i,_,h=>by
  have hc:i % cols=cols - 1:=by simp at h;omega
  simp only [ahT,ais,qj,KJ,hc,if_true,bk,rc,cz,aim,List.map_nil,dO,aig,aiM,ah5]
 | a::b::r,i,_,h=>by
  simp only [aig] at h
  have hc:¬i % cols=cols - 1:=by omega
  have hm:(i+1) % cols=i % cols+1:=by
   have hlt:i % cols<cols:=Nat.mod_lt _ (by omega)
   rw [Nat.add_mod]
   have h1:1 % cols=1:=aiK (by omega)
   rw [h1,aiK (by omega)]
  have ih:=Xq rest (b::r) (i+1) (by simp) (by rw [hm,aig];omega)
  have e:ac (qj cols i (a::b::r++rest))=ac (aJ a)++44::ac (qj cols (i+1) (b::r++rest)):=by
   simp only [ahT,qj,KJ,hc,if_false,bk,rc,ah5]
   simp
  have e2:ac (bX 44 (a::b::r))=ac (aJ a)++44::ac (bX 44 (b::r)):=by
   simp only [cz,aim,dO]
  rw [e,ih,e2,ah5,ahT]
  have e3:i+1+(b::r).length=i+(a::b::r).length:=by simp;omega
  rw [e3]
theorem Sr {cols:Nat} (hc:0<cols):∀(k:Nat) (l:List Int) (i:Nat),l.length=k*cols→i % cols=0→xR cols k l=qj cols i l
 | 0,l,i,h,_=>by
  have:l=[]:=ahE (by simpa using h)
  subst this
  rfl
 | k+1,l,i,h,hi=>by
  rw [ah0] at h
  have hl:(l.take cols).length=cols:=by rw [ah1];omega
  have hr:=Xq (cols:=cols) (l.drop cols) (l.take cols) i (fun e=>by rw [e] at hl;simp at hl;omega) (by rw [hi,hl];omega)
  rw [aiw,hl] at hr
  apply bK
  rw [hr,←Sr hc k (l.drop cols) (i+cols) (by rw [ahD];omega) (by simp [hi])]
  simp only [xR,bk,rc,ah5]
  simp
end Go.Proofs.YtjafgdefcggjcaaGreatDoor

namespace Go.Proofs.YtjafgdefcggjcaaGreatDoor
open Go Go.V Go.RowKit Go.Shelf
abbrev lfD (x:Lf):D:=.agg [I x.1,B x.2]
def TG (x:Lf):List Value:=[.int .i64 x.1,.bool x.2]
theorem aae {w:World} {F:Nat→Prop}:∀(l:List Lf) (us:List Value),bZ w F (l.map lfD) us→us=l.flatMap TG
 | [],us,h=>aV.1 h
 | x::l,us,h=>by
  obtain⟨v1,v2,rfl,h1,h2⟩:=aw.1 h
  rw [aae l v2 h2]
  simp only [RepC] at h1
  obtain⟨u1,r1,rfl,g1,h1⟩:=aw.1 h1.1
  obtain⟨u2,r2,rfl,g2,h1⟩:=aw.1 h1
  simp only [RepC] at g1 g2
  rw [g1.1,g2.1,aV.1 h1]
  rfl
theorem SZ {w:World} {b:Nat}:∀(l:List Lf) (o:Nat),cH w b o (l.flatMap TG)→∀(i:Nat) (x:Lf),l[i]?=some x→cH w b (o+i*2) (TG x)
 | [],_,_,i,x,hx=>by simp at hx
 | y::l,o,h,0,x,hx=>by
  simp only [ahR,ahV] at hx
  subst hx
  intro j u hu
  have:=h j u (by rw [List.flatMap_cons,aio (ahP.1 hu).1];exact hu)
  simpa using this
 | y::l,o,h,i+1,x,hx=>by
  have:=SZ l (o+2) (by
   have:=h.drop 2
   exact this) i x (by simpa using hx)
  rw [show o+(i+1)*2=o+2+i*2 by omega]
  exact this
set_option maxRecDepth 100000 in
theorem WA {w:World} {F:Nat→Prop} (hF:∀b,F b→b<w.heap.size) (hgl:gOk gl0 w F) {d:D} {x:Value} (hx:bP w F d x) {L:List Lf} (hd:fm [d]=some (.ret [.arr 2 (L.map lfD)] [])) :
  Calls Tryz.prog 236 #[x] w fun e w'=>Below w.heap.size w w'∧∃A c,e = .returned (.slice A L.length c)∧(L≠[]→∃b o,A=some ⟨b,o,none⟩∧b<w'.heap.size∧∀(i:Nat) (x:Lf),L[i]?=some x→cH w' b (o+i*2) (TG x)):=by
 refine(sr (ahN Tryz.func236 (by kernel_rfl) rfl) Qc fm rfl hd (args:=#[x]) hgl (show eD w F _ (.dat 2) d x∧True from⟨.inr hx,trivial⟩) hF).mono ?_
 rintro e w' ⟨hB,F',R,vs,rfl,hpost⟩
 refine⟨hB,?_⟩
 have hl:=hpost.len
 match vs,hl with
 | [y0],hl =>
  have r0:=(hpost.res 0).resolve_left (by intro h;cases h)
  replace r0:bP w' _ (.arr 2 (L.map lfD)) y0:=r0
  obtain⟨A,c,us,h1,h2,h3,h4,h5⟩:=pI r0
  rw [aae L us h3] at h5
  rw [ah8] at h1
  refine⟨A,c,by rw [h1];rfl,fun hne=>?_⟩
  obtain⟨b,o,h6,h7,h8⟩:=h5 (by simpa using hne)
  exact⟨b,o,h6,(hpost.fn b h7.1).2.1,SZ L o h8⟩
theorem JF (front:Bool):∀(l:List (Lf × Nat)) (a:List Int),(l.foldl (fun a p=>a.set p.1.1.toNat (DS front p.2 p.1)) a).length=a.length
 | [],a=>rfl
 | p::l,a=>by rw [List.foldl_cons,JF front l,List.length_set]
set_option maxHeartbeats 4000000 in
set_option maxRecDepth 1000000 in
theorem Yr (d:D) (x:Value) (front:Bool) (L:List Lf) (w:World) (F:Nat→Prop) (hF:∀b,F b→b<w.heap.size) (hgl:gOk gl0 w F) (hx:bP w F d x) (hd:fm [d]=some (.ret [.arr 2 (L.map lfD)] []))
  (hr:∀x∈L,0≤x.1∧x.1<(L.length:Int)) (hne:L≠[]) (hlz:L.length≤1000000) :
  Calls Tryz.prog 214 #[x,.bool front] w fun e w'=>Below w.heap.size w w' ∧
   ∃g cs,e = .returned (.slice (some ⟨g,0,none⟩) L.length L.length)∧w.heap.size≤g∧w'.heap[g]?=some (.cells cs 3 (0,0))∧cs.toList=((L.zipIdx.foldl (fun a p=>a.set p.1.1.toNat (DS front p.2 p.1)) (ahS L.length 0)).map (ahJ .i64)):=by
 have hc1:=WA hF hgl hx hd
 go_enter Tryz.func214,Tryz.ntmps214
 go_wp2_with (go_at_call 236;refine hc1.mono ?_)
 rintro e W1 ⟨b1,A,c,rfl,hA⟩
 obtain⟨b,o,rfl,hbz,hcells⟩:=hA hne
 obtain⟨i0,hi0,hz0,hz1,hz2⟩:=info_parts VM
 have hmk:=run_makeSlice (P:=Tryz.prog) W1 38 3 i0 (.int .i64 0) Tryz.underlying38 hi0 hz0 .i64 .i64 (L.length:Int) (L.length:Int) (by omega) (Int.le_refl _) (by rw [hz1,aiF];omega) (by rw [hz2];omega) (by omega)
 rw [hz1,aiF,ait] at hmk
 go_wp2
 have hb1:Below w.heap.size w (W1.alloc (.cells (madeCells #[.int .i64 0] L.length) 3)):=b1.alloc b1.size _
 have hk1:(W1.alloc (.cells (madeCells #[.int .i64 0] L.length) 3)).heap[W1.heap.size]?=some (.cells (madeCells #[.int .i64 0] L.length) 3 (0,0)):=ahQ
 have hg0:w.heap.size≤W1.heap.size:=b1.size
 clear hmk hc1
 go_loopw [16] (fun v16 wr=>∃(i:Nat) (cs:Array Value),v16 = .int .i64 i∧i≤L.length∧wr.heap[W1.heap.size]?=some (.cells cs 3 (0,0))∧cs.toList=(((L.zipIdx.take i).foldl (fun a p=>a.set p.1.1.toNat (DS front p.2 p.1)) (ahS L.length 0)).map (ahJ .i64)) ∧
   Below w.heap.size w wr∧wr.heap[b]?=W1.heap[b]?∧W1.heap.size<wr.heap.size) (fun v16 wr=>L.length - (match v16 with | .int _ n=>n.toNat | _=>0))
 case atStart =>
  refine⟨0,_,rfl,ah3 _,hk1,?_,hb1,heap_alloc_old W1 _ hbz,by simp⟩
  rw [List.take_zero,List.foldl_nil,List.map_replicate]
  refine List.ext_getElem (by simp [size_madeCells]) fun j h1 h2=>?_
  simp [madeCells,Nat.mod_one]
 case round =>
  obtain⟨i,cs,rfl,hi,hk,hcs,hbw,hb,hsz⟩:=hrel
  by_cases hp:i<L.length
  ·have hpi:(i:Int)<(L.length:Int):=by omega
   have hx0:=hr L[i] (ahB hp)
   have hcl:=hcells i L[i] (ahF hp)
   have c0:wr.cell? ⟨b,o+i*2,none⟩=some (.int .i64 L[i].1):=(aiz hb).trans (hcl 0 _ rfl)
   have c1:wr.cell? ⟨b,o+i*2+1,none⟩=some (.bool L[i].2):=(aiz hb).trans (hcl 1 _ rfl)
   have hcz:cs.size=L.length:=by
    have:=congrArg aiI hcs
    rw [ah8,JF,aix] at this
    simpa using this
   have hx1:L[i].1.toNat<L.length:=by omega
   have c2:wr.cell? ⟨W1.heap.size,L[i].1.toNat,none⟩=some (cs[L[i].1.toNat]'(by omega)):=by
    rw [ahI hk]
    exact Array.getElem?_eq_getElem _
   have f2:wr.frozen? ⟨W1.heap.size,L[i].1.toNat,none⟩=false:=ah9 hk _
   have hstep:(L.zipIdx.take (i+1)).foldl (fun a p=>a.set p.1.1.toNat (DS front p.2 p.1)) (ahS L.length 0)=((L.zipIdx.take i).foldl (fun a p=>a.set p.1.1.toNat (DS front p.2 p.1)) (ahS L.length 0)).set L[i].1.toNat (DS front i L[i]):=by
    rw [ahG (by simpa using hp),aiG]
    simp
   by_cases hq:L[i].2=front
   ·have hq2:(L[i].2==front)=true:=by simp [hq]
    go_wp2
    refine⟨⟨i+1,(cs.setIfInBounds L[i].1.toNat (.int .i64 (2*i+2))).setIfInBounds L[i].1.toNat (.int .i64 (2*i+1)),congrArg (ahJ .i64) (by omega),by omega,?_,?_,?_,?_,?_⟩,?_⟩
    ·rw [heap_alloc_old _ _ (by simp [ahH];omega)]
     exact heap_setCell_same _ _ _ _ _ _ (heap_setCell_same _ _ _ _ _ _ hk)
    ·rw [hstep]
     simp [Array.toList_setIfInBounds,hcs,List.map_set,DS,hq]
    ·exact Below.alloc ((hbw.setCell hg0 _).setCell hg0 _) (by simp [ahH];omega) _
    ·rw [heap_alloc_old _ _ (by simp [ahH];omega)]
     rw [heap_setCell_other _ _ _ _ (by simp;omega),heap_setCell_other _ _ _ _ (by simp;omega)]
     exact hb
    ·simp [ahH]
     omega
    ·show L.length - ((i:Int)+1).toNat<L.length - (i:Int).toNat
     omega
   ·have hq2:(L[i].2==front)=false:=by simp [hq]
    go_wp2
    refine⟨⟨i+1,cs.setIfInBounds L[i].1.toNat (.int .i64 (2*i+2)),congrArg (ahJ .i64) (by omega),by omega,?_,?_,?_,?_,?_⟩,?_⟩
    ·rw [heap_alloc_old _ _ (by simp [ahH];omega)]
     exact heap_setCell_same _ _ _ _ _ _ hk
    ·rw [hstep]
     simp [Array.toList_setIfInBounds,hcs,List.map_set,DS,hq]
    ·exact Below.alloc (hbw.setCell hg0 _) (by simp [ahH];omega) _
    ·rw [heap_alloc_old _ _ (by simp [ahH];omega)]
     rw [heap_setCell_other _ _ _ _ (by simp;omega)]
     exact hb
    ·simp [ahH]
     omega
    ·show L.length - ((i:Int)+1).toNat<L.length - (i:Int).toNat
     omega
  ·have hpi:¬(i:Int)<(L.length:Int):=by omega
   have hil:i=L.length:=by omega
   go_wp2
   go_ret
   refine⟨hbw,W1.heap.size,rfl,hg0,cs,hk,?_⟩
   rw [hcs,List.take_of_length_le (by simp;omega)]
end Go.Proofs.YtjafgdefcggjcaaGreatDoor

namespace Go.Proofs.YtjafgdefcggjcaaGreatDoor
open Go Go.V Go.RowKit Go.Shelf
theorem abQ {w:World} {G:Nat→Prop} {l:List Int} {g o c:Nat} {cs:Array Value} {t:TypeId} (hk:w.heap[g]?=some (.cells cs t (0,0))) (hG:G g) (hcs:∀(i:Nat) (x:Int),l[i]?=some x→cs[o+i]?=some (.int .i64 x)) (hc:l.length≤c) :
  bP w G (ai l) (.slice (some ⟨g,o,none⟩) l.length c):=by
 simp only [bP,RepC]
 refine⟨_,c,l.map (ahJ .i64),by rw [ah8],by rw [ah8];exact hc,nP _,fun d hd=>?_,fun _=>⟨g,o,rfl,hG,fun j u hu=>?_⟩⟩
 ·obtain⟨n,_,rfl⟩:=List.mem_map.1 hd
  rfl
 ·rw [ahW] at hu
  obtain⟨n,hn,rfl⟩:=ah4.1 hu
  rw [ahI hk]
  exact hcs j n hn
set_option maxRecDepth 100000 in
theorem abh {w:World} {F:Nat→Prop} (hF:∀b,F b→b<w.heap.size) (hgl:gOk gl1 w F) {l:List Int} {x:Value} (hx:bP w F (ai l) x) (h:∀n∈l,0≤n∧n<1000000000000000000) (hl:l.length≤1000000) :
  Calls Tryz.prog 134 #[x,.string ⟨#[44]⟩] w fun e w'=>e = .returned (.string (bX 44 l))∧Below w.heap.size w w' :=
 mg (ahN Tryz.func134 (by kernel_rfl) rfl) pF cV rfl (KN l 44 h hl) rfl hgl
  (show eD w F _ (.dat 2) (ai l) x∧eD w F _ (.dat 0) (T ⟨#[44]⟩) (.string ⟨#[44]⟩)∧True from⟨.inr hx,.inr (cb.2 ⟨rfl,rfl⟩),trivial⟩) hF
set_option maxHeartbeats 4000000 in
set_option maxRecDepth 1000000 in
theorem aaE (d:D) (x:Value) (w:World) (F:Nat→Prop) (hF:∀b,F b→b<w.heap.size) (hgl:gOk gl1 w F) (hx:bP w F d x) (h1:dr [d]=some (.ret [B false] [])) :
  Calls Tryz.prog 180 #[x] w fun e w'=>e = .returned (.tuple #[.string ⟨#[]⟩,.bool false])∧Below w.heap.size w w':=by
 have h0g:gOk gl0 w F:=fun p hp=>hgl p (Jt p hp)
 have hc1:Calls Tryz.prog 173 #[x] w fun e w'=>e = .returned (.bool false)∧Below w.heap.size w w' :=
  mg (ahN Tryz.func173 (by kernel_rfl) rfl) pN dr rfl h1 rfl h0g (show eD w F _ (.dat 2) d x∧True from⟨.inr hx,trivial⟩) hF
 go_enter Tryz.func180,Tryz.ntmps180
 go_wp2_with (go_at_call 173;refine hc1.mono ?_)
 rintro e W1 ⟨rfl,b1⟩
 go_wp2
 go_ret2
 exact⟨rfl,b1⟩
def Vn (front:Bool) (L:List Lf):List Int:=L.zipIdx.foldl (fun a p=>a.set p.1.1.toNat (DS front p.2 p.1)) (ahS L.length 0)
theorem GO (front:Bool) (L:List Lf):(Vn front L).length=L.length:=by rw [Vn,JF,aix]
set_option maxHeartbeats 4000000 in
set_option maxRecDepth 1000000 in
theorem VU (d:D) (x:Value) (cols rows:Int) (cn k:Nat) (L:List Lf) (l:List Int) (w:World) (F:Nat→Prop) (hF:∀b,F b→b<w.heap.size) (hgl:gOk gl1 w F) (hx:bP w F d x) (h1:dr [d]=some (.ret [B true] [])) (h2:ex [d]=some (.ret [I cols,I rows] []))
  (h3:fm [d]=some (.ret [.arr 2 (L.map lfD)] [])) (hL:l=Vn true L) (hr:∀x∈L,0≤x.1∧x.1<(L.length:Int)) (hcn:cols=(cn:Int)) (hc0:0<cn) (hk0:0<k) (hl:l.length=k*cn) (hlz:l.length≤1000000) (hln:∀n∈l,0≤n∧n<1000000000000000000) :
  Calls Tryz.prog 180 #[x] w fun e w'=>e = .returned (.tuple #[.string (xR cn k l),.bool true])∧Below w.heap.size w w':=by
 subst hcn
 have hgW:∀W,Below w.heap.size w W→gOk gl1 W F:=fun W hW=>gT (fun _ h=>h) (fun b hb=>hW.block b (hF b hb)) hgl
 have hFW:∀W,Below w.heap.size w W→∀b,F b→b<W.heap.size:=fun W hW b hb=>aia (hF b hb) hW.size
 have h0W:∀W,Below w.heap.size w W→gOk gl0 W F:=fun W hW p hp=>hgW W hW p (Jt p hp)
 have hxW:∀W,Below w.heap.size w W→bP W F d x:=fun W hW=>ch (fun _ h=>h) (fun b hb=>hW.block b (hF b hb)) hx
 have hne:l≠[]:=fun e=>by
  rw [e,aiM] at hl
  have:=Nat.mul_pos hk0 hc0
  omega
 have hc1:Calls Tryz.prog 173 #[x] w fun e w'=>e = .returned (.bool true)∧Below w.heap.size w w' :=
  mg (ahN Tryz.func173 (by kernel_rfl) rfl) pN dr rfl h1 rfl (fun p hp=>hgl p (Jt p hp)) (show eD w F _ (.dat 2) d x∧True from⟨.inr hx,trivial⟩) hF
 have hc2:∀W,Below w.heap.size w W→Calls Tryz.prog 213 #[x] W fun e w'=>e = .returned (.tuple #[.int .i64 cn,.int .i64 rows])∧Below W.heap.size W w':=fun W hW =>
  pl (ahN Tryz.func213 (by kernel_rfl) rfl) vV (ds:=[d]) [_,_] ex rfl h2 rfl (h0W W hW) (show eD W F _ (.dat 2) d x∧True from⟨.inr (hxW W hW),trivial⟩) (hFW W hW)
 have hlL:l.length=L.length:=by rw [hL,GO]
 have hneL:L≠[]:=fun e=>hne (ahE (by rw [hlL,e];rfl))
 have hc3:∀W,Below w.heap.size w W→Calls Tryz.prog 214 #[x,.bool true] W fun e w'=>Below W.heap.size W w' ∧
   ∃g cs,e = .returned (.slice (some ⟨g,0,none⟩) l.length l.length)∧W.heap.size≤g∧w'.heap[g]?=some (.cells cs 3 (0,0))∧cs.toList=l.map (ahJ .i64):=fun W hW=>by
  rw [hlL,hL]
  exact Yr d x true L W F (hFW W hW) (h0W W hW) (hxW W hW) h3 hr hneL (by omega)
 clear hL hlL hneL hr h3
 go_enter Tryz.func180,Tryz.ntmps180
 go_wp2_with (go_at_call 173;refine hc1.mono ?_)
 rintro e W1 ⟨rfl,b1⟩
 have hc2':=hc2 W1 b1
 go_wp2_with (go_at_call 213;refine hc2'.mono ?_)
 rintro e W2 ⟨rfl,b2⟩
 have hB2:=b1.trans (b2.mono b1.size)
 have hB3:=hB2.alloc hB2.size (.cells #[.pointer none,.slice none 0 0] 67)
 have hI3:Lib.IsBuilderF 67 5 W2.heap.size W2.heap.size (Lib.byteCells []) _:=Lib.IsBuilderF.of (Lib.fresh_isBuilder 67 5 W2)
 have hc3':=hc3 _ hB3
 go_wp2_with (go_at_call 214;refine hc3'.mono ?_)
 rintro e W3 ⟨b3,g,cs,rfl,hge,hg,hcs0⟩
 have hcs:∀(i:Nat) (x:Int),l[i]?=some x→cs[i]?=some (.int .i64 x):=fun i x hx=>by
  rw [←Array.getElem?_toList,hcs0,ahW,hx]
  rfl
 have hI3:=iE hI3 b3
 have hsz:W2.heap.size<g:=by
  simp at hge
  omega
 have hB3:=hB3.trans (b3.mono hB3.size)
 have hgl3:g<W3.heap.size:=(ahv.1 hg).1
 have hW2:=hB2.size
 clear hc1 hc2 hc3 hc3' b3 hge b1 b2 hB2
 go_wp2
 go_loopw [7] (fun v7 wr=>∃(j:Nat) (acc:List UInt8),∃ad,v7 = .slice ad (k*cn - j*cn) (k*cn - j*cn)∧(j<k→ad=some ⟨g,j*cn,none⟩)∧j≤k∧Lib.IsBuilderF 67 5 W2.heap.size W2.heap.size (Lib.byteCells acc) wr∧Below w.heap.size w wr∧wr.heap[g]?=some (.cells cs 3 (0,0))∧W3.heap.size≤wr.heap.size ∧
   acc++ac (xR cn (k - j) (l.drop (j*cn)))=ac (xR cn k l)∧acc.length≤j*(cn*19+1)) (fun v7 wr=>match v7 with | .slice _ n _=>n | _=>0)
 case atStart =>
  exact⟨0,[],some ⟨g,0,none⟩,by simp,by simp,ah3 _,hI3,hB3,hg,ahz _,by simp,by simp⟩
 case round =>
  obtain⟨j,acc,ad,rfl,had,hj,hI,hbw,hg,hsz3,hacc,hal⟩:=hrel
  by_cases hp:j<k
  ·obtain rfl:=had hp
   have hmul:j*cn+cn≤k*cn:=by
    rw [←ah0]
    exact aik _ hp
   have hpos:0<k*cn - j*cn:=by omega
   have hpos2:(0:Int)<((k*cn - j*cn:Nat):Int):=by omega
   have hpl:((l.drop (j*cn)).take cn).length=cn:=by rw [ah1,ahD];omega
   have hpn:∀n∈(l.drop (j*cn)).take cn,0≤n∧n<1000000000000000000:=fun n hn=>hln n (List.mem_of_mem_drop (aiA hn))
   have hrp:bP wr (fun b=>F b∨b=g) (ai ((l.drop (j*cn)).take cn)) (.slice (some ⟨g,j*cn,none⟩) cn (k*cn - j*cn)):=by
    have:=abQ (w:=wr) (G:=fun b=>F b∨b=g) (l:=(l.drop (j*cn)).take cn) (o:=j*cn) (c:=k*cn - j*cn) hg (.inr rfl) (fun i x hx=>?_) (by rw [hpl];omega)
    ·rw [hpl] at this
     exact this
    ·have hi:i<cn:=by
      have:=(ahP.1 hx).1
      omega
     rw [ahZ hi,List.getElem?_drop] at hx
     exact hcs _ _ hx
   have hcj:=abh (w:=wr) (F:=fun b=>F b∨b=g) (fun b hb=>hb.elim (hFW wr hbw b) (fun e=>by rw [e];omega)) (gT (fun _ h=>.inl h) (fun _ _=>rfl) (hgW wr hbw)) hrp hpn (by omega)
   have hsj:=ED (c:=44) hpn
   rw [hpl] at hsj
   have hdr:ac (xR cn (k - j) (l.drop (j*cn)))=ac (bX 44 ((l.drop (j*cn)).take cn)++⟨#[47]⟩)++ac (xR cn (k - (j+1)) (l.drop ((j+1)*cn))):=by
    rw [show k - j=(k - (j+1))+1 by omega]
    simp only [xR,bk,List.drop_drop,ah0]
   generalize hJ:bX 44 ((l.drop (j*cn)).take cn)=J at hcj hsj hdr
   go_wp2_with (go_at_call 134;refine hcj.mono ?_)
   intro e W4 he b4
   subst he
   have hI4:=iE hI b4
   have hB4:=hbw.trans (b4.mono hbw.size)
   have hcw:=Fc W2.heap.size W2.heap.size _ (J++⟨#[47]⟩) _ hI4 (by
    rw [Lib.byteCells_length,aiy,sz1]
    have h1:j*(cn*19+1)≤k*cn*19+k:=by
     have h2:=aik (cn*19+1) (Nat.le_of_lt hp)
     rw [aiJ,aiJ,ait,ait,←aiC,←aiC] at h2
     rw [aiJ,ait,←aiC]
     exact h2
    have h3:k≤k*cn:=Nat.le_mul_of_pos_right _ hc0
    omega) (ahC (by omega) (ahC hsz3 b4.size))
   go_wp2_with (go_at_call 43;refine hcw.mono ?_)
   rintro e W5 ⟨rfl,hI5,b5,k5⟩
   have hg5:W5.heap[g]?=some (.cells cs 3 (0,0)):=k5 g _ ((b4.block g (ahv.1 hg).1).trans hg) (by simp;omega) (fun c fz h=>by cases h)
   have hs5:W3.heap.size≤W5.heap.size:=ahC hsz3 (ahC b4.size b5.size)
   have hlt:k*cn - (j+1)*cn=k*cn - j*cn - cn:=by rw [ah0];omega
   go_wp2
   refine⟨⟨j+1,acc++ac (J++⟨#[47]⟩),_,by rw [hlt],fun hj1=>?_,by omega,?_,hB4.trans (b5.mono hW2),hg5,hs5,?_,?_⟩,?_⟩
   ·have h6:(j+2)*cn≤k*cn:=aik _ (by omega)
    have h7:(j+2)*cn=j*cn+cn+cn:=by rw [ah0,ah0]
    rw [if_neg (by omega),ah0]
   ·rw [Lib.byteCells_append]
    exact Or.inr hI5
   ·rw [←hacc,hdr,ah5]
   ·rw [aiD,bk,aiD,ah0]
    have:(ac J).length=J.size:=rfl
    have h2:(ac (⟨#[47]⟩:ByteArray)).length=1:=rfl
    omega
   ·show k*cn - j*cn - cn<k*cn - j*cn
    omega
  ·have hjk:j=k:=by omega
   subst hjk
   have hcs4:=yJ W2.heap.size W2.heap.size acc _ hI (by omega)
   go_wp2_with (go_at_call 44;refine hcs4.mono ?_)
   rintro e W4 ⟨rfl,h1,b4,k4⟩
   go_wp2
   go_ret2
   rw [Nat.sub_self,xR] at hacc
   refine⟨?_,hbw.trans (b4.mono hW2)⟩
   have:acc=ac (xR cn j l):=by rw [←hacc];simp [rc]
   rw [this,mC]
   rfl
def af3:D→Option Lf
 | .agg [.v (.int .i64 a),.v (.bool b)]=>some (a,b)
 | _=>none
theorem aaH {d:D} {x:Lf} (h:af3 d=some x):d=lfD x:=by
 unfold af3 at h
 split at h
 ·cases h;rfl
 ·cases h
def Sw:List D→Option (List Lf)
 | []=>some []
 | d::l=>(af3 d).bind fun x=>(Sw l).map (x::·)
theorem Om:∀(ds:List D) (l:List Lf),Sw ds=some l→ds=l.map lfD
 | [],l,h=>by cases h;rfl
 | d::ds,l,h=>by
  simp only [Sw,ahM,ah4] at h
  obtain⟨x,h1,m,h2,rfl⟩:=h
  rw [aaH h1,Om ds m h2]
  rfl
theorem RZ:∀(l:List Lf),Sw (l.map lfD)=some l
 | []=>rfl
 | x::l=>by
  simp only [aim,Sw,RZ l]
  rfl
def aeS:Option Out→Option Bool
 | some (.ret [.v (.bool b)] [])=>some b
 | _=>none
def ZC:Option Out→Option (Int × Int)
 | some (.ret [.v (.int .i64 a),.v (.int .i64 b)] [])=>some (a,b)
 | _=>none
def aam:Option Out→Option (List Lf)
 | some (.ret [.arr 2 ds] [])=>Sw ds
 | _=>none
theorem aaW {o:Option Out} {b:Bool} (h:aeS o=some b):o=some (.ret [B b] []):=by
 unfold aeS at h
 split at h
 ·cases h;rfl
 ·cases h
theorem Yj {o:Option Out} {x:Int × Int} (h:ZC o=some x):o=some (.ret [I x.1,I x.2] []):=by
 unfold ZC at h
 split at h
 ·cases h;rfl
 ·cases h
theorem Zw {o:Option Out} {l:List Lf} (h:aam o=some l):o=some (.ret [.arr 2 (l.map lfD)] []):=by
 unfold aam at h
 split at h
 ·rw [Om _ _ h]
 ·cases h
def WH (c k:Nat) (L:List Lf):Prop:=0<c∧0<k∧L.length=k*c∧L.length≤1000000∧(∀x∈L,0≤x.1∧x.1<(L.length:Int))∧∀n∈Vn true L,0≤n∧n<1000000000000000000
instance (c k:Nat) (L:List Lf):Decidable (WH c k L):=by unfold WH;infer_instance
def aeD (d:D):Option Out:=(aeS (dr [d])).bind fun b=>if b=false then some (.ret [T ⟨#[]⟩,B false] []) else
   (ZC (ex [d])).bind fun x=>(aam (fm [d])).bind fun L =>
    if 0≤x.1∧WH x.1.toNat (L.length / x.1.toNat) L then some (.ret [T (xR x.1.toNat (L.length / x.1.toNat) (Vn true L)),B true] []) else none
def Be:List D→Option Out
 | [.arr z ds]=>aeD (.arr z ds)
 | _=>none
@[reducible] def sI:FS:={pm:=[.dat 2],rm:=[.dat 0,.dat 0],f:=Be}
set_option maxRecDepth 100000 in
theorem HS:au gl1 Tryz.prog 180 sI:=by
 have he:∀args w,(callFunc 180 args).run Tryz.prog w = .ok (.enter 180 args) w:=ahN Tryz.func180 (by kernel_rfl) rfl
 refine bT he fun ds rs us hd args w F ow hg ha hF _=>?_
 obtain⟨d,y,rfl,h2,h3⟩:=mX ha
 replace hd:Be [d]=some (.ret rs us):=hd
 rw [FK h2]
 unfold Be at hd
 split at hd
 case h_2=>cases hd
 rename_i z ds e
 cases e
 have hy:=h3.resolve_left (by intro h;cases h)
 generalize D.arr z ds=d at *
 unfold aeD at hd
 obtain⟨b,h1,hd⟩:=ahM.1 hd
 have h1:=aaW h1
 split at hd
 case isTrue hb =>
  subst hb
  cases hd
  refine(aaE d y w F (fun b hb=>(hF b hb).1) hg hy h1).mono ?_
  rintro e w' ⟨rfl,hB⟩
  refine⟨_,rfl,F,_,[_,_],rfl,eQ hB hF rfl rfl [_,_] [_,_] rfl rfl fun j d hj=>?_⟩
  match j,hj with
  | 0,hj =>
   simp only [ahR,ahV] at hj
   subst hj
   exact⟨_,rfl,cb.2 ⟨rfl,rfl⟩⟩
  | 1,hj =>
   simp only [aip,ahR,ahV] at hj
   subst hj
   exact⟨_,rfl,cb.2 ⟨rfl,rfl⟩⟩
 case isFalse hb =>
  obtain rfl:b=true:=by simpa using hb
  obtain⟨⟨cols,rows⟩,h4,hd⟩:=ahM.1 hd
  obtain⟨L,h5,hd⟩:=ahM.1 hd
  split at hd
  case isFalse=>cases hd
  rename_i hz
  cases hd
  dsimp only at hz
  obtain⟨hz0,hz⟩:=hz
  unfold WH at hz
  refine(VU d y cols rows cols.toNat (L.length / cols.toNat) L (Vn true L) w F (fun b hb=>(hF b hb).1) hg hy h1 (Yj h4) (Zw h5) rfl hz.2.2.2.2.1 (by omega) hz.1 hz.2.1 (by rw [GO];exact hz.2.2.1) (by rw [GO];exact hz.2.2.2.1) hz.2.2.2.2.2).mono ?_
  rintro e w' ⟨rfl,hB⟩
  refine⟨_,rfl,F,_,[_,_],rfl,eQ hB hF rfl rfl [_,_] [_,_] rfl rfl fun j d hj=>?_⟩
  match j,hj with
  | 0,hj =>
   simp only [ahR,ahV] at hj
   subst hj
   exact⟨_,rfl,cb.2 ⟨rfl,rfl⟩⟩
  | 1,hj =>
   simp only [aip,ahR,ahV] at hj
   subst hj
   exact⟨_,rfl,cb.2 ⟨rfl,rfl⟩⟩
end Go.Proofs.YtjafgdefcggjcaaGreatDoor

namespace Go.Proofs.YtjafgdefcggjcaaGreatDoor
open Go Go.V
def BQ:List Int→Int→List Int
 | [],n=>[n]
 | x::l,n=>if x<n then x::BQ l n else n::x::l
def jz (n:Int):List Int→Nat
 | []=>0
 | x::l=>if x<n then jz n l+1 else 0
theorem XB (n:Int):∀l,jz n l≤l.length
 | []=>ahz _
 | x::l=>by
  unfold jz
  split
  ·exact Nat.succ_le_succ (XB n l)
  ·exact ah3 _
theorem VH (n:Int):∀(l:List Int) (i:Nat) (h:i<l.length),i<jz n l→l[i]<n
 | [],i,h,_=>by cases h
 | x::l,i,h,hi=>by
  unfold jz at hi
  split at hi
  ·rename_i hx
   cases i with
   | zero=>exact hx
   | succ i=>exact VH n l i (by simpa using h) (by omega)
  ·omega
theorem Xn (n:Int):∀(l:List Int) (h:jz n l<l.length),¬l[jz n l]<n
 | [],h=>by cases h
 | x::l,h=>by
  by_cases hx:x<n
  ·have e:jz n (x::l)=jz n l+1:=by simp [jz,hx]
   simp only [e,ahU]
   exact Xn n l (by rw [e] at h;simpa using h)
  ·have e:jz n (x::l)=0:=by simp [jz,hx]
   simp only [e,aiu]
   exact hx
theorem Xz (n:Int):∀(l:List Int),BQ l n=l.take (jz n l)++[n]++l.drop (jz n l)
 | []=>by simp [BQ,jz]
 | x::l=>by
  by_cases hx:x<n
  ·have e:jz n (x::l)=jz n l+1:=by simp [jz,hx]
   rw [e]
   simp only [BQ,hx,if_true,List.take_succ_cons,List.drop_succ_cons,ahT]
   rw [Xz n l]
  ·have e:jz n (x::l)=0:=by simp [jz,hx]
   rw [e]
   simp [BQ,hx]
theorem MT {n:Int}:∀{l:List Int},(BQ l n).Perm (n::l)
 | []=>by simp [BQ]
 | x::l=>by
  unfold BQ
  split
  ·exact(MT.cons x).trans (List.Perm.swap n x l)
  ·exact List.Perm.refl _
theorem Pc {n:Int}:∀{l:List Int},l.Pairwise (·≤·)→(BQ l n).Pairwise (·≤·)
 | [],_=>by simp [BQ]
 | x::l,h=>by
  have h':=ail.1 h
  unfold BQ
  split
  ·rename_i hx
   refine ail.2 ⟨fun y hy=>?_,Pc h'.2⟩
   rcases aiB.1 (MT.mem_iff.1 hy) with rfl | hy
   ·omega
   ·exact h'.1 y hy
  ·refine ail.2 ⟨fun y hy=>?_,h⟩
   rcases aiB.1 hy with rfl | hy
   ·omega
   ·have:=h'.1 y hy
    omega
def wd (l:List Int):List Int:=l.foldl BQ []
theorem wt:∀(l acc:List Int),acc.Pairwise (·≤·)→(l.foldl BQ acc).Pairwise (·≤·)∧(l.foldl BQ acc).Perm (acc++l)
 | [],acc,h=>⟨h,by simp⟩
 | n::l,acc,h=>by
  obtain⟨h1,h2⟩:=wt l (BQ acc n) (Pc h)
  refine⟨h1,h2.trans ?_⟩
  have:=(MT (n:=n) (l:=acc)).append_right l
  refine this.trans ?_
  rw [ahT]
  exact List.perm_middle.symm
theorem FH (l:List Int):(wd l).length=l.length:=by
 have:=(wt l [] List.Pairwise.nil).2.length_eq
 simpa [wd] using this
def eo (s:Int):List Int→Nat
 | a::b::t=>if 0<s*(b - a) then eo s (b::t)+1 else 1
 | _=>1
theorem qP (s:Int):∀l,1≤eo s l
 | []=>ahz _
 | [_]=>ahz _
 | a::b::t=>by
  simp only [eo]
  split<;>omega
theorem Vf (s:Int):∀l:List Int,l≠[]→eo s l≤l.length
 | [],h=>absurd rfl h
 | [_],_=>ahz _
 | a::b::t,_=>by
  have:=Vf s (b::t) (by simp)
  simp only [eo]
  split
  ·simp only [aig] at this ⊢;omega
  ·simp
theorem NJ (s:Int):∀(l:List Int) (n:Nat) (h:n+1<l.length),n+1<eo s l→0<s*(l[n+1] - l[n])
 | [],_,h,_=>by simp at h
 | [_],_,h,_=>by simp at h
 | a::b::t,n,h,hr=>by
  simp only [eo] at hr
  split at hr
  ·rename_i hp
   cases n with
   | zero=>exact hp
   | succ n=>exact NJ s (b::t) n (by simpa using h) (by omega)
  ·omega
theorem Ue (s:Int):∀(l:List Int) (h:eo s l<l.length),¬0<s*(l[eo s l] - l[eo s l - 1]'(by have:=qP s l;omega))
 | [],h=>by simp at h
 | [_],h=>by simp [eo] at h
 | a::b::t,h=>by
  by_cases hp:0<s*(b - a)
  ·have e:eo s (a::b::t)=eo s (b::t)+1:=by simp only [eo,hp,if_true]
   have h':eo s (b::t)<(b::t).length:=by rw [e] at h;simpa using h
   have ih:=Ue s (b::t) h'
   have hpos:=qP s (b::t)
   have e1:(a::b::t)[eo s (a::b::t)]=(b::t)[eo s (b::t)]:=by simp only [e,ahU]
   have e2:(a::b::t)[eo s (a::b::t) - 1]'(by omega)=(b::t)[eo s (b::t) - 1]'(by omega):=by
    obtain⟨m,hm⟩:∃m,eo s (b::t)=m+1:=⟨eo s (b::t) - 1,by omega⟩
    simp only [e,hm,Nat.add_sub_cancel,ahU]
   rw [e1,e2]
   exact ih
  ·have e:eo s (a::b::t)=1:=by simp only [eo,hp,if_false]
   simp only [e,ahU,aiu,Nat.sub_self]
   exact hp
def ig (l:List Int) (i:Nat):Nat:=max (eo 1 (l.drop i)) (eo (-1) (l.drop i))
def MX (l:List Int) (s:Nat × Nat) (i:Nat):Nat × Nat:=if s.2<ig l i then(i,ig l i) else s
def Lp (l:List Int) (n:Nat):Nat × Nat:=(ahL n).foldl (MX l) (0,0)
def fW (l:List Int) (n:Nat):Nat × Nat:=(ahL n).foldl (MX l) (0,1)
theorem IB (l:List Int) (n:Nat):Lp l (n+1)=MX l (Lp l n) n:=by simp [Lp,aiN]
theorem uV (l:List Int) (n:Nat):fW l (n+1)=MX l (fW l n) n:=by simp [fW,aiN]
theorem zX (l:List Int) (i:Nat):1≤ig l i:=by
 have:=qP 1 (l.drop i)
 unfold ig
 omega
theorem adq (l:List Int):∀n,1≤n→fW l n=Lp l n
 | 1,_=>by
  have:=zX l 0
  rw [uV l 0,IB l 0]
  have e1:fW l 0=(0,1):=rfl
  have e2:Lp l 0=(0,0):=rfl
  rw [e1,e2]
  unfold MX
  dsimp only
  rw [if_pos (show 0<ig l 0 by omega)]
  by_cases h:1<ig l 0
  ·rw [if_pos h]
  ·rw [if_neg h]
   have:ig l 0=1:=by omega
   rw [this]
 | n+2,_=>by rw [uV,IB,adq l (n+1) (by omega)]
theorem ZL {l:List Int} {i:Nat} (h:i<l.length):ig l i≤l.length - i:=by
 have h0:l.drop i≠[]:=fun e=>by have:=congrArg aiI e;simp at this;omega
 have h1:=Vf 1 (l.drop i) h0
 have h2:=Vf (-1) (l.drop i) h0
 rw [ahD] at h1 h2
 unfold ig
 omega
def Aj (n:Int):Int:=if 0<n then 1 else if n<0 then -1 else 0
theorem aeL {l:List Int} {i k:Nat} (h1:i+1≤k) (h2:k<i+ig l i) (h3:k<l.length):Aj (l[i+1]'(by omega) - l[i]'(by omega))≠0∧Aj (l[k] - l[k - 1]'(by omega))=Aj (l[i+1]'(by omega) - l[i]'(by omega)):=by
 obtain⟨n,rfl⟩:∃n,k=i+(n+1):=⟨k - i - 1,by omega⟩
 have hd:∀s,n+1<eo s (l.drop i)→0<s*(l[i+(n+1)] - l[i+n]'(by omega))∧0<s*(l[i+1]'(by omega) - l[i]'(by omega)):=by
  intro s hs
  have a:=NJ s (l.drop i) n (by rw [ahD];omega) hs
  have b:=NJ s (l.drop i) 0 (by rw [ahD];omega) (by omega)
  simp only [ahX] at a b
  exact⟨a,b⟩
 have hk:l[i+(n+1) - 1]'(by omega)=l[i+n]'(by omega):=by congr 1
 rw [hk]
 unfold ig at h2
 unfold Aj
 by_cases hm:n+1<eo 1 (l.drop i)
 ·obtain⟨a,b⟩:=hd 1 hm
  rw [if_pos (by omega),if_pos (by omega)]
  exact⟨by decide,rfl⟩
 ·obtain⟨a,b⟩:=hd (-1) (by omega)
  rw [if_neg (by omega),if_pos (by omega),if_neg (by omega),if_pos (by omega)]
  exact⟨by decide,rfl⟩
theorem ae8 {l:List Int} {i k:Nat} (h1:i+1≤k) (h2:k=i+ig l i) (h3:k<l.length):Aj (l[i+1]'(by omega) - l[i]'(by omega))=0∨Aj (l[k] - l[k - 1]'(by omega))≠Aj (l[i+1]'(by omega) - l[i]'(by omega)):=by
 have key:∀s,eo s (l.drop i)=ig l i→¬0<s*(l[k] - l[k - 1]'(by omega)):=by
  intro s hs
  have a:=Ue s (l.drop i) (by rw [ahD];omega)
  simp only [ahX,hs] at a
  have e1:l[i+ig l i]'(by omega)=l[k]:=by congr 1;omega
  have e2:l[i+(ig l i - 1)]'(by have:=zX l i;omega)=l[k - 1]'(by omega):=by
   congr 1
   have:=zX l i
   omega
  rw [e1,e2] at a
  exact a
 have one:∀s,¬eo s (l.drop i)=ig l i→0<s*(l[i+1]'(by omega) - l[i]'(by omega))→eo s (l.drop i)=1∨1<eo s (l.drop i):=fun s _ _=>by
  have:=qP s (l.drop i)
  omega
 have first:∀s,1<eo s (l.drop i)→0<s*(l[i+1]'(by omega) - l[i]'(by omega)):=by
  intro s hs
  have b:=NJ s (l.drop i) 0 (by rw [ahD];omega) (by omega)
  simp only [ahX] at b
  exact b
 have not1:∀s,eo s (l.drop i)=1→¬0<s*(l[i+1]'(by omega) - l[i]'(by omega)):=by
  intro s hs
  have a:=Ue s (l.drop i) (by rw [ahD,hs];omega)
  simp only [ahX,hs] at a
  exact a
 by_cases hz:l[i+1]'(by omega) - l[i]'(by omega)=0
 ·left
  unfold Aj
  rw [if_neg (by omega),if_neg (by omega)]
 right
 by_cases hp:0<l[i+1]'(by omega) - l[i]'(by omega)
 ·have hr:eo 1 (l.drop i)=ig l i:=by
   have h1:¬1<eo (-1) (l.drop i):=fun h=>by have:=first (-1) h;omega
   have:=qP (-1) (l.drop i)
   have:=qP 1 (l.drop i)
   unfold ig
   omega
  have hk:=key 1 hr
  have hb:Aj (l[i+1]'(by omega) - l[i]'(by omega))=1:=by unfold Aj;rw [if_pos hp]
  rw [hb]
  unfold Aj
  rw [if_neg (by omega)]
  split<;>decide
 ·have hr:eo (-1) (l.drop i)=ig l i:=by
   have h1:¬1<eo 1 (l.drop i):=fun h=>by have:=first 1 h;omega
   have:=qP (-1) (l.drop i)
   have:=qP 1 (l.drop i)
   unfold ig
   omega
  have hk:=key (-1) hr
  have hb:Aj (l[i+1]'(by omega) - l[i]'(by omega)) = -1:=by unfold Aj;rw [if_neg hp,if_pos (by omega)]
  rw [hb]
  unfold Aj
  by_cases hq:0<l[k] - l[k - 1]'(by omega)
  ·rw [if_pos hq];decide
  ·rw [if_neg hq,if_neg (by omega)];decide
end Go.Proofs.YtjafgdefcggjcaaGreatDoor

namespace Go.Proofs.YtjafgdefcggjcaaGreatDoor
open Go Go.V
theorem ed {l m:List Int} (h:l.length+m.length≤1048577):bA 1 8 (ai l) (ai m)=some (ai (l++m)):=by
 rw [gn,if_pos (by simp only [ah8];omega)]
 simp
theorem mY (l:List Int) (h:l.length≤1000000):gp [ai l]=some (.ret [ai l] []):=by
 rw [Uz]
 have:=ed (l:=[]) (m:=l) (by simp;omega)
 rw [ais] at this
 have hc:=kn l
 simp only [aZ,ahO,hc]
 rw [show D.arr 1 []=ai [] from rfl,this]
 rfl
def eE (l:List Int):Bool:=decide (1≤l.length∧l.length≤40)&&l.all fun n=>decide (-500≤n∧n≤500)
theorem uh (l:List Int) (h:l.length≤1000000):iQ [ai l]=some (.ret [B (eE l)] []):=by
 rw [Qy]
 have h1:=bn (l.length:Int) 1 40
 have h2:=GX l (-500) 500 (by omega)
 by_cases hc:(1:Int)≤l.length∧(l.length:Int)≤40
 ·have hg:eE l=l.all fun n=>decide (-500≤n∧n≤500):=by
   unfold eE
   rw [decide_eq_true (show 1≤l.length∧l.length≤40 by omega),Bool.true_and]
  rw [hg]
  simp -implicitDefEqProofs [h1,h2,hc]
 ·have hg:eE l=false:=by
   unfold eE
   rw [decide_eq_false (show ¬(1≤l.length∧l.length≤40) by omega),aiP]
  rw [hg]
  simp -implicitDefEqProofs [h1,hc]
theorem aaD {l:List Int} {i:Nat} (h:i<l.length):wd (l.take (i+1))=BQ (wd (l.take i)) l[i]:=by
 unfold wd
 rw [ahG h,aiG]
 rfl
theorem LP (l:List Int) (h:l.length≤1000):lL [ai l]=some (.ret [ai (wd l)] []):=by
 rw [Lw]
 simp -implicitDefEqProofs only [ay,ahw,ahx,ahy]
 refine aD (.ext 0 [ai (wd l)]) (aQ l.length (fun i=>[ai (wd (l.take i)),ai l,I l.length,I (i:Int)]) _ (fun i hi=>?_) ?_ rfl rfl) ?_
 ·have hil:(i:Int)<l.length:=by omega
  have hel:ao 1 (ai l) (I (i:Int))=some [I l[i]]:=by simp [hi]
  have hlen:(wd (l.take i)).length=i:=by rw [FH,ah1];omega
  have hw:ahA.wrap ((i:Int)+1)=((i+1:Nat):Int):=by rw [ah (by omega) (by omega)];omega
  rw [aaD hi]
  generalize wd (l.take i)=s at hlen
  have hle:=XB l[i] s
  simp -implicitDefEqProofs only [ay,ahw,ahx,ahy,hil,hel,aP]
  refine aD (.ext 2 [ai s,I l[i],I (jz l[i] s:Nat),ai l,I l.length,I (i:Int)]) (aQ (jz l[i] s) (fun k=>[ai s,I l[i],I (k:Int),ai l,I l.length,I (i:Int)]) _ (fun k hk=>?_) ?_ rfl rfl) ?_
  ·have hks:k<s.length:=by omega
   have hlt:=VH l[i] s k hks hk
   have hwk:ahA.wrap ((k:Int)+1)=(k:Int)+1:=ah (by omega) (by omega)
   simp -implicitDefEqProofs [hks,hlt,hwk]
  ·by_cases hl:jz l[i] s<s.length
   ·have:=Xn l[i] s hl
    simp -implicitDefEqProofs [hl,this]
   ·simp -implicitDefEqProofs [hl]
  ·rw [Xz]
   generalize jz l[i] s=p at hle
   have s1:dW false 1 (ai s) (I 0) (I (p:Int))=some (ai (s.take p)):=by
    have:dW false 1 (ai s) (I 0) (I (p:Int))=_:=lQ (z:=1) (l:=s.map I) (i:=0) (j:=p) (k:=.i64) (k':=.i64) (ah3 _) (by simp;omega)
    rw [this]
    simp [List.map_take]
   have s2:cJ false 1 (ai s) (I (p:Int))=some (ai (s.drop p)):=by
    have:=mn (z:=1) (l:=s.map I) (i:=p) (k:=.i64) (by simp;omega)
    rw [this]
    simp [List.map_drop]
   have o1:=mY (s.take p) (by rw [ah1];omega)
   have a1:bA 1 8 (ai (s.take p)) (.arr 1 [I l[i]])=some (ai (s.take p++[l[i]])):=ed (m:=[l[i]]) (by simp;omega)
   have a2:bA 1 8 (ai (s.take p++[l[i]])) (ai (s.drop p))=some (ai (s.take p++[l[i]]++s.drop p)):=ed (by simp;omega)
   have hm:aH 1 [I l[i]]=some (.arr 1 [I l[i]]):=rfl
   have hck:cK (.arr 1 [I l[i]])=some (.arr 1 [I l[i]]):=kn [l[i]]
   simp -implicitDefEqProofs only [ay,ahw,ahx,ahy,s1,s2,o1,a1,a2,hm,hck,hw]
 ·rw [aih]
  have:¬(l.length:Int)<l.length:=by omega
  simp -implicitDefEqProofs only [ay,ahw,ahx,ahy,this]
 ·simp -implicitDefEqProofs only [ay,ahw,ahx,ahy]
def ER (l:List Int):Int:=(wd l).getD ((l.length - 1) / 2) 0
theorem Jx (l:List Int) (h:l.length≤1000):kl [ai l]=some (.ret [I (if eE l=true then ER l else 0),B (eE l)] []):=by
 rw [IG]
 have hg:=uh l (by omega)
 by_cases hc:eE l=true
 ·have hs:=LP l h
  have hl0:1≤l.length:=by
   unfold eE at hc
   simp only [aii,decide_eq_true_eq] at hc
   exact hc.1.1
  have e1:ahA.wrap ((l.length:Int) - 1)=((l.length - 1:Nat):Int):=by rw [ah (by omega) (by omega)];omega
  have hix:(l.length - 1) / 2<(wd l).length:=by rw [FH];omega
  have e2:((l.length - 1:Nat):Int).tdiv 2=(((l.length - 1) / 2:Nat):Int):=by rw [Int.tdiv_eq_ediv_of_nonneg (by omega)];omega
  have e3:ahA.wrap ((((l.length - 1) / 2:Nat):Int))=(((l.length - 1) / 2:Nat):Int):=ah (by omega) (by omega)
  have hel:ao 1 (ai (wd l)) (I (((l.length - 1) / 2:Nat):Int))=some [I (ER l)]:=by
   unfold ER
   generalize (l.length - 1) / 2=m at hix
   simp [hix]
  simp -implicitDefEqProofs only [ay,ahw,ahx,ahy,hg,hc,hs,e1,lC,e2,e3,hel]
 ·have hc':eE l=false:=by simpa using hc
  simp -implicitDefEqProofs only [ay,ahw,ahx,ahy,hg,hc']
theorem oA (n:Int):kY [I n]=some (.ret [I (Aj n)] []):=by
 rw [QS]
 unfold Aj
 by_cases h1:0<n
 ·simp -implicitDefEqProofs only [ay,ahw,ahx,ahy,h1]
 ·by_cases h2:n<0
  ·simp -implicitDefEqProofs only [ay,ahw,ahx,ahy,h1,h2]
  ·simp -implicitDefEqProofs only [ay,ahw,ahx,ahy,h1,h2]
end Go.Proofs.YtjafgdefcggjcaaGreatDoor

namespace Go.Proofs.YtjafgdefcggjcaaGreatDoor
open Go Go.V
theorem pd {l:List Int} {i:Nat} (h:i<l.length):ao 1 (ai l) (I (i:Int))=some [I l[i]]:=by simp [h]
theorem Bs (l:List Int) (h:l.length≤1000000):gK [ai l]=some (.ret [I (if eE l=true then((fW l l.length).1:Int) else 0),I (if eE l=true then((fW l l.length).2:Int) else 0),B (eE l)] []):=by
 rw [BE]
 have hg:=uh l (by omega)
 by_cases hc:eE l=true
 case neg =>
  have hc':eE l=false:=by simpa using hc
  simp -implicitDefEqProofs only [ay,ahw,ahx,ahy,hg,hc']
 have hgd:=hc
 unfold eE at hgd
 simp only [aii,decide_eq_true_eq,aiL] at hgd
 obtain⟨⟨hl0,hl1⟩,hr⟩:=hgd
 simp -implicitDefEqProofs only [ay,ahw,ahx,ahy,hg,hc]
 refine aD (.ext 0 [I ((fW l l.length).1:Int),I ((fW l l.length).2:Int)]) (aQ l.length (fun i=>[ai l,I ((fW l i).1:Int),I ((fW l i).2:Int),I l.length,I (i:Int)]) _ (fun i hi=>?_) ?_ rfl rfl) ?_
 ·have hil:(i:Int)<l.length:=by omega
  have hw:ahA.wrap ((i:Int)+1)=((i+1:Nat):Int):=by rw [ah (by omega) (by omega)];omega
  have hmp:=zX l i
  have hml:=ZL hi
  rw [uV]
  have hm1:1≤(fW l i).2:=by
   have key:∀n,1≤(fW l n).2:=by
    intro n
    induction n with
    | zero=>exact ahz _
    | succ n ih =>
     rw [uV]
     unfold MX
     split
     ·exact zX l n
     ·exact ih
   exact key i
  generalize fW l i=p at hm1
  obtain⟨b,m⟩:=p
  dsimp only at hm1 ⊢
  simp -implicitDefEqProofs only [ay,ahw,ahx,ahy,hil,hw]
  refine aD (.ext 2 [ai l,I ((MX l (b,m) i).1:Int),I ((MX l (b,m) i).2:Int),I l.length,I (i:Int)]) (aQ (ig l i - 1) (fun j=>[ai l,I (((if m<j+1 then(i,j+1) else(b,m)):Nat × Nat).1:Int),I (((if m<j+1 then(i,j+1) else(b,m)):Nat × Nat).2:Int),I (i:Int),I ((i+1+j:Nat):Int),I l.length,I (i:Int)]) _ (fun j hj=>?_) ?_ rfl ?_) ?_
  ·have hk:i+1+j<l.length:=by omega
   obtain⟨g1,g2⟩:=aeL (l:=l) (i:=i) (k:=i+1+j) (by omega) (by omega) hk
   have e1:=pd (l:=l) (i:=i) hi
   have e2:=pd (l:=l) (i:=i+1) (by omega)
   have e3:=pd hk
   have e4:=pd (l:=l) (i:=i+1+j - 1) (by omega)
   have r1:=hr _ (ahB hi)
   have r2:=hr _ (ahB (show i+1<l.length by omega))
   have r3:=hr _ (ahB hk)
   have r4:=hr _ (ahB (show i+1+j - 1<l.length by omega))
   generalize l[i]=v1 at *
   generalize l[i+1]=v2 at *
   generalize l[i+1+j]=v3 at *
   generalize l[i+1+j - 1]=v4 at *
   have w1:ahA.wrap (v2 - v1)=v2 - v1:=ah (by omega) (by omega)
   have w2:ahA.wrap (v3 - v4)=v3 - v4:=ah (by omega) (by omega)
   have w3:ahA.wrap (((i+1+j:Nat):Int) - 1)=((i+1+j - 1:Nat):Int):=by rw [ah (by omega) (by omega)];omega
   have w4:ahA.wrap (((i+1+j:Nat):Int) - (i:Int))=((j+1:Nat):Int):=by rw [ah (by omega) (by omega)];omega
   have w5:ahA.wrap (((j+1:Nat):Int)+1)=((j+1+1:Nat):Int):=by rw [ah (by omega) (by omega)];omega
   have w6:ahA.wrap (((i+1+j:Nat):Int)+1)=((i+1+(j+1):Nat):Int):=by rw [ah (by omega) (by omega)];omega
   have s1:=oA (v2 - v1)
   have s2:=oA (v3 - v4)
   have hk':((i+1+j:Nat):Int)<l.length:=by omega
   rw [g2] at s2
   by_cases hm:m<j+1
   ·have hm2:¬(((j+1:Nat):Int)<((j+1:Nat):Int)):=by omega
    have hm3:((j+1:Nat):Int)<((j+1+1:Nat):Int):=by omega
    have hm4:m<j+1+1:=by omega
    simp -implicitDefEqProofs only [ay,ahw,ahx,ahy,hm,hm3,hm4,hk',e1,e2,e3,e4,w1,w2,w3,w4,w5,w6,s1,s2,g1,hw,ne_eq,not_true_eq_false]
   ·by_cases hm5:m<j+1+1
    ·have hm6:(m:Int)<((j+1+1:Nat):Int):=by omega
     simp -implicitDefEqProofs only [ay,ahw,ahx,ahy,hm,hm5,hm6,hk',e1,e2,e3,e4,w1,w2,w3,w4,w5,w6,s1,s2,g1,hw,ne_eq,not_true_eq_false]
    ·have hm6:¬(m:Int)<((j+1+1:Nat):Int):=by omega
     simp -implicitDefEqProofs only [ay,ahw,ahx,ahy,hm,hm5,hm6,hk',e1,e2,e3,e4,w1,w2,w3,w4,w5,w6,s1,s2,g1,hw,ne_eq,not_true_eq_false]
  ·have hu:((if m<ig l i - 1+1 then(i,ig l i - 1+1) else(b,m)):Nat × Nat)=MX l (b,m) i:=by
    rw [show ig l i - 1+1=ig l i by omega]
    rfl
   rw [hu]
   by_cases hk:i+1+(ig l i - 1)<l.length
   ·have hk':((i+1+(ig l i - 1):Nat):Int)<l.length:=by omega
    have ha:=ae8 (l:=l) (i:=i) (k:=i+1+(ig l i - 1)) (by omega) (by omega) hk
    have e1:=pd (l:=l) (i:=i) hi
    have e2:=pd (l:=l) (i:=i+1) (by omega)
    have e3:=pd hk
    have e4:=pd (l:=l) (i:=i+1+(ig l i - 1) - 1) (by omega)
    have r1:=hr _ (ahB hi)
    have r2:=hr _ (ahB (show i+1<l.length by omega))
    have r3:=hr _ (ahB hk)
    have r4:=hr _ (ahB (show i+1+(ig l i - 1) - 1<l.length by omega))
    have w3:ahA.wrap (((i+1+(ig l i - 1):Nat):Int) - 1)=((i+1+(ig l i - 1) - 1:Nat):Int):=by rw [ah (by omega) (by omega)];omega
    generalize l[i]=v1 at *
    generalize l[i+1]=v2 at *
    generalize l[i+1+(ig l i - 1)]=v3 at *
    generalize l[i+1+(ig l i - 1) - 1]=v4 at *
    have w1:ahA.wrap (v2 - v1)=v2 - v1:=ah (by omega) (by omega)
    have w2:ahA.wrap (v3 - v4)=v3 - v4:=ah (by omega) (by omega)
    have s1:=oA (v2 - v1)
    have s2:=oA (v3 - v4)
    by_cases hz:Aj (v2 - v1)=0
    ·simp -implicitDefEqProofs only [ay,ahw,ahx,ahy,hk',hw,e1,e2,w1,s1,hz]
    ·have hz2:=ha.resolve_left hz
     simp -implicitDefEqProofs only [ay,ahw,ahx,ahy,hk',hw,e1,e2,e3,e4,w1,w2,w3,s1,s2,hz,hz2,ne_eq,not_false_eq_true]
   ·have hk':¬((i+1+(ig l i - 1):Nat):Int)<l.length:=by omega
    simp -implicitDefEqProofs only [ay,ahw,ahx,ahy,hk']
  ·have hm0:¬m<0+1:=by omega
   rw [if_neg hm0]
  ·simp -implicitDefEqProofs only [ay,ahw,ahx,ahy,hw]
 ·have:¬(l.length:Int)<l.length:=by omega
  simp -implicitDefEqProofs only [ay,ahw,ahx,ahy,this]
 ·simp -implicitDefEqProofs only [ay,ahw,ahx,ahy]
theorem rJ (l:List Int) (h:l.length≤1000000):hD [ai l]=some (.ret [B (eE l)] []):=by
 rw [OI]
 simp -implicitDefEqProofs only [ay,ahw,ahx,ahy]
 have h1:=bz (l.length:Int) 1 40
 refine aD _ (pA l (fun i=>[ai l,ai l,I l.length,I i]) (fun _ n=>decide (-500≤n∧n≤500)) (.ret [B false] []) (.ext 0 [ai l]) (fun i hi=>?_) ?_ rfl rfl rfl) ?_
 ·have hil:(i:Int)<l.length:=by omega
  have hw:ahA.wrap ((i:Int)+1)=((i+1:Nat):Int):=by rw [ah (by omega) (by omega)];omega
  have e1:=pd hi
  have ho:qO [I l[i]]=some (.ret [B (decide (-500≤l[i]∧l[i]≤500))] []):=by
   rw [TC]
   have:=bz l[i] (-500) 500
   simp -implicitDefEqProofs only [ay,ahw,ahx,ahy,this]
  by_cases hc : -500≤l[i]∧l[i]≤500
  ·simp -implicitDefEqProofs only [ay,ahw,ahx,ahy,hil,e1,ho,hc,hw]
  ·simp -implicitDefEqProofs only [ay,ahw,ahx,ahy,hil,e1,ho,hc,hw]
 ·have:¬(l.length:Int)<l.length:=by omega
  simp -implicitDefEqProofs only [ay,ahw,ahx,ahy,this]
 ·rw [vH]
  unfold eE
  by_cases hc:(1:Int)≤l.length∧(l.length:Int)≤40
  ·rw [decide_eq_true (show 1≤l.length∧l.length≤40 by omega),Bool.true_and]
   cases hq:l.all fun n=>decide (-500≤n∧n≤500)<;>simp -implicitDefEqProofs only [ay,ahw,ahx,ahy,h1,hc,sk]
  ·rw [decide_eq_false (show ¬(1≤l.length∧l.length≤40) by omega),aiP]
   cases hq:l.all fun n=>decide (-500≤n∧n≤500)<;>simp -implicitDefEqProofs only [ay,ahw,ahx,ahy,h1,hc,sk]
theorem Hf (l:List Int) (i:Nat) (s:Int) (hs:s=1∨s = -1) (hi:i<l.length) (h:l.length≤40) (hr:∀n∈l,-500≤n∧n≤500):mE [ai l,I (i:Int),I s]=some (.ret [I (eo s (l.drop i):Nat)] []):=by
 rw [TD]
 have hrp:=qP s (l.drop i)
 have hrl:=Vf s (l.drop i) (fun e=>by have:=congrArg aiI e;simp at this;omega)
 rw [ahD] at hrl
 refine aD (.ext 0 [I (eo s (l.drop i):Nat)]) (aQ (eo s (l.drop i) - 1) (fun j=>[ai l,I (i:Int),I s,I ((j+1:Nat):Int)]) _ (fun j hj=>?_) ?_ rfl rfl) ?_
 ·have hk:i+(j+1)<l.length:=by omega
  have hk':((i+(j+1):Nat):Int)<l.length:=by omega
  have w0:ahA.wrap ((i:Int)+((j+1:Nat):Int))=((i+(j+1):Nat):Int):=by rw [ah (by omega) (by omega)];omega
  have w3:ahA.wrap (((i+(j+1):Nat):Int) - 1)=((i+j:Nat):Int):=by rw [ah (by omega) (by omega)];omega
  have w5:ahA.wrap (((j+1:Nat):Int)+1)=((j+1+1:Nat):Int):=by rw [ah (by omega) (by omega)];omega
  have e3:=pd hk
  have e4:=pd (l:=l) (i:=i+j) (by omega)
  have r3:=hr _ (ahB hk)
  have r4:=hr _ (ahB (show i+j<l.length by omega))
  have hp:=NJ s (l.drop i) j (by rw [ahD];omega) (by omega)
  simp only [ahX] at hp
  generalize l[i+(j+1)]=v3 at *
  generalize l[i+j]=v4 at *
  have w2:ahA.wrap (v3 - v4)=v3 - v4:=ah (by omega) (by omega)
  have w6:ahA.wrap (s*(v3 - v4))=s*(v3 - v4):=by rcases hs with rfl | rfl<;>exact ah (by omega) (by omega)
  simp -implicitDefEqProofs only [ay,ahw,ahx,ahy,w0,hk',e3,e4,w3,w2,w6,hp,w5]
 ·rw [show eo s (l.drop i) - 1+1=eo s (l.drop i) by omega]
  have hat:=Ue s (l.drop i)
  by_cases hk:i+eo s (l.drop i)<l.length
  ·have ha:=hat (by rw [ahD];omega)
   have hk':((i+eo s (l.drop i):Nat):Int)<l.length:=by omega
   have w0:ahA.wrap ((i:Int)+(eo s (l.drop i):Nat))=((i+eo s (l.drop i):Nat):Int):=by rw [ah (by omega) (by omega)];omega
   have w3:ahA.wrap (((i+eo s (l.drop i):Nat):Int) - 1)=((i+(eo s (l.drop i) - 1):Nat):Int):=by rw [ah (by omega) (by omega)];omega
   have e3:=pd hk
   have e4:=pd (l:=l) (i:=i+(eo s (l.drop i) - 1)) (by omega)
   have r3:=hr _ (ahB hk)
   have r4:=hr _ (ahB (show i+(eo s (l.drop i) - 1)<l.length by omega))
   simp only [ahX] at ha
   generalize l[i+eo s (l.drop i)]=v3 at *
   generalize l[i+(eo s (l.drop i) - 1)]=v4 at *
   have w2:ahA.wrap (v3 - v4)=v3 - v4:=ah (by omega) (by omega)
   have w6:ahA.wrap (s*(v3 - v4))=s*(v3 - v4):=by rcases hs with rfl | rfl<;>exact ah (by omega) (by omega)
   simp -implicitDefEqProofs only [ay,ahw,ahx,ahy,w0,hk',e3,e4,w3,w2,w6,ha]
  ·have hk':¬((i+eo s (l.drop i):Nat):Int)<l.length:=by omega
   have w0:ahA.wrap ((i:Int)+(eo s (l.drop i):Nat))=((i+eo s (l.drop i):Nat):Int):=by rw [ah (by omega) (by omega)];omega
   simp -implicitDefEqProofs only [ay,ahw,ahx,ahy,w0,hk']
 ·simp -implicitDefEqProofs only [ay,ahw,ahx,ahy]
theorem BP (l:List Int) (h:l.length≤1000000):gG [ai l]=some (.ret [I (if eE l=true then((Lp l l.length).1:Int) else 0),I (if eE l=true then((Lp l l.length).2:Int) else 0),B (eE l)] []):=by
 rw [BC]
 have hg:=rJ l (by omega)
 by_cases hc:eE l=true
 case neg =>
  have hc':eE l=false:=by simpa using hc
  simp -implicitDefEqProofs only [ay,ahw,ahx,ahy,hg,hc']
 have hgd:=hc
 unfold eE at hgd
 simp only [aii,decide_eq_true_eq,aiL] at hgd
 obtain⟨⟨hl0,hl1⟩,hr⟩:=hgd
 simp -implicitDefEqProofs only [ay,ahw,ahx,ahy,hg,hc]
 refine aD (.ext 0 [I ((Lp l l.length).1:Int),I ((Lp l l.length).2:Int)]) (aQ l.length (fun i=>[ai l,I ((Lp l i).1:Int),I ((Lp l i).2:Int),I l.length,I (i:Int)]) _ (fun i hi=>?_) ?_ rfl rfl) ?_
 ·have hil:(i:Int)<l.length:=by omega
  have hw:ahA.wrap ((i:Int)+1)=((i+1:Nat):Int):=by rw [ah (by omega) (by omega)];omega
  have d1:=Hf l i 1 (.inl rfl) hi hl1 hr
  have d2:=Hf l i (-1) (.inr rfl) hi hl1 hr
  have hmx:Uf (I (eo 1 (l.drop i):Nat)) (I (eo (-1) (l.drop i):Nat))=some (I (ig l i:Nat)):=by
   unfold ig
   simp [Uf]
   omega
  rw [IB]
  generalize Lp l i=p
  obtain⟨b,m⟩:=p
  unfold MX
  dsimp only
  by_cases hm:m<ig l i
  ·have hm':(m:Int)<(ig l i:Nat):=by omega
   simp -implicitDefEqProofs only [ay,ahw,ahx,ahy,hil,d1,d2,hmx,hm,hm',hw]
  ·have hm':¬(m:Int)<(ig l i:Nat):=by omega
   simp -implicitDefEqProofs only [ay,ahw,ahx,ahy,hil,d1,d2,hmx,hm,hm',hw]
 ·have:¬(l.length:Int)<l.length:=by omega
  simp -implicitDefEqProofs only [ay,ahw,ahx,ahy,this]
 ·simp -implicitDefEqProofs only [ay,ahw,ahx,ahy]
end Go.Proofs.YtjafgdefcggjcaaGreatDoor

namespace Go.Proofs.YtjafgdefcggjcaaGreatDoor
open Go Go.V
theorem nz {n:Int} (h0 : -1000000000000000000<n) (h1:n<1000000000000000000):fi [I n]=some (.ret [T (aJ n)] []):=by
 rw [Vd]
 by_cases hn:n<0
 ·have e1:=cE (n:=-n) (by omega) (by omega)
  have hw:ahA.wrap (-n) = -n:=ah (by omega) (by omega)
  have hsz:=cq 17 (n:=-n) (by omega) (by omega)
  have ha:bin aiE false [] (D.v (aht {data:={toList:=[45]}})) (T (aJ (-n)))=some (T (aJ n)):=by
   rw [show(D.v (aht {data:={toList:=[45]}}))=T ⟨#[45]⟩ from rfl,fH,if_pos (by rw [sz1];omega)]
   congr 3
   apply bK
   have e:=AZ (n:=-n) (by omega)
   rw [Int.neg_neg] at e
   rw [e,bk]
   rfl
  have hu:un UnOp.neg (I n)=some (I (-n)):=by
   rw [Uw,hw]
  simp -implicitDefEqProofs only [ay,ahw,ahx,ahy,hn,hu,e1,ha]
 ·have e1:=cE (n:=n) (by omega) (by omega)
  simp -implicitDefEqProofs only [ay,ahw,ahx,ahy,hn,e1]
theorem YX (c:UInt8) (l:List Int) (i:Nat) (h:i<l.length) (h0:0<i):bX c (l.take (i+1))=bX c (l.take i)++⟨#[c]⟩++aJ l[i]:=by
 apply bK
 rw [bk,bk,cz,cz,ahG h,aij,List.map_singleton,Eo]
 ·simp [ac]
 ·intro e
  rw [List.map_eq_nil_iff,List.take_eq_nil_iff] at e
  rcases e with e | e
  ·omega
  ·rw [e] at h
   simp at h
theorem tS (l:List Int) (h:l.length≤1000000) (hr:aeQ l) (hr2:∀n∈l,-1000000000000000000<n∧n<1000000000000000000):iT [ai l]=some (.ret [T (bX 32 l)] []):=by
 rw [QG]
 simp -implicitDefEqProofs only [ay,ahw,ahx,ahy]
 refine aD (.ext 0 [T (bX 32 l)]) (aQ l.length (fun i=>[T (bX 32 (l.take i)),ai l,I l.length,I (i:Int)]) _ (fun i hi=>?_) ?_ rfl rfl) ?_
 ·have hil:(i:Int)<l.length:=by omega
  have hw:ahA.wrap ((i:Int)+1)=((i+1:Nat):Int):=by rw [ah (by omega) (by omega)];omega
  have e1:=pd hi
  have hx:=hr2 _ (ahB hi)
  have e2:=nz hx.1 hx.2
  have z1:(bX 32 (l.take i)).size≤21000000:=by
   have:=nR (c:=32) (ns:=l.take i) fun n hn=>hr n (aiA hn)
   rw [ah1] at this
   omega
  have z2:(aJ l[i]).size≤21:=by
   have:=nR (c:=32) (ns:=[l[i]]) fun n hn=>by
    rw [List.mem_singleton] at hn
    subst hn
    exact hr _ (ahB hi)
   rw [JX] at this
   simpa using this
  by_cases h0:0<i
  ·have h0':(0:Int)<i:=by omega
   have a1:bin aiE false [] (T (bX 32 (l.take i))) (D.v (aht {data:={toList:=[32]}}))=some (T (bX 32 (l.take i)++⟨#[32]⟩)):=by
    rw [show(D.v (aht {data:={toList:=[32]}}))=T ⟨#[32]⟩ from rfl,fH,if_pos (by rw [sz1];omega)]
   have a2:bin aiE false [] (T (bX 32 (l.take i)++⟨#[32]⟩)) (T (aJ l[i]))=some (T (bX 32 (l.take (i+1)))):=by
    rw [fH,if_pos (by rw [aiy,sz1];omega),YX 32 l i hi h0]
   simp -implicitDefEqProofs only [ay,ahw,ahx,ahy,hil,e1,h0',a1,e2,a2,hw]
  ·obtain rfl:i=0:=by omega
   have a1:bin aiE false [] (T (bX 32 (l.take 0))) (T (aJ l[0]))=some (T (bX 32 (l.take (0+1)))):=by
    rw [fH,if_pos (by omega)]
    congr 3
    apply bK
    rw [bk,cz,cz,ahG hi]
    rfl
   have hil':(0:Int)<l.length:=by omega
   have e1':ao 1 (ai l) (I 0)=some [I l[0]]:=e1
   have hw':ahA.wrap ((0:Int)+1)=((0+1:Nat):Int):=by decide
   have h00:((0:Nat):Int)=0:=rfl
   simp -implicitDefEqProofs only [ay,ahw,ahx,ahy,hil',h00,e1',e2,a1,hw']
 ·rw [aih]
  have:¬(l.length:Int)<l.length:=by omega
  simp -implicitDefEqProofs only [ay,ahw,ahx,ahy,this]
 ·simp -implicitDefEqProofs only [ay,ahw,ahx,ahy]
theorem acx (w:ByteArray) : -1≤bR w:=by
 unfold bR Dd
 split<;>omega
theorem agB {v b:D} (h:v.isV=true):aq (D.tup [v,b]) 0=some v:=by cases v<;>first | rfl | cases h
theorem agE {v b:D} (h:b.isV=true):aq (D.tup [v,b]) 1=some b:=by cases b<;>first | rfl | cases h
theorem Lu (w:ByteArray) (h:w.size≤4294967296):∃v:Int,lI [T w]=some (.ret [I v,B (zt w).isSome] [])∧∀x,zt w=some x→v=x:=by
 rw [Lj,←aej]
 by_cases hz:1<w.size
 ·have hz':(1:Int)<w.size:=by omega
  have hlen:0<(ac w).length:=by
   have:w.size=(ac w).length:=rfl
   omega
  have hch0:jW (T w) (I 0)=some (U ((ac w)[0].toNat:Int)):=by
   have:=oe (s:=w) (k:=.i64) (i:=0)
   rw [ahF hlen] at this
   exact this
  have hhd:(ac w).head?=some (ac w)[0]:=by
   rw [List.head?_eq_getElem?,ahF hlen]
  by_cases h5:(ac w)[0]=45
  ·have h5':((ac w)[0].toNat:Int)=45:=by rw [h5];rfl
   have hs:Mc w=if 0<bR (w.extract 1 w.size) then some (-bR (w.extract 1 w.size)) else none:=by
    unfold Mc
    rw [if_pos ⟨hz,by rw [hhd,h5]⟩]
   have hr:=fq (w.extract 1 w.size) (by simp;omega)
   have hx:cJ true 0 (T w) (I 1)=some (T (w.extract 1 w.size)):=Fz (z:=0) (i:=1) (by omega)
   have hlt:=PD (w.extract 1 w.size)
   have hge : -1≤bR (w.extract 1 w.size):=acx _
   rw [hs]
   generalize bR (w.extract 1 w.size)=v at *
   have hu:un UnOp.neg (I v)=some (I (-v)):=by rw [Uw,ah (by omega) (by omega)]
   refine⟨-v,?_,fun x hx=>?_⟩
   ·by_cases hv:0<v<;>simp -implicitDefEqProofs only [ay,ahw,ahx,ahy,hz',hch0,h5',hx,hr,hu,hv,ah2,aib]
   ·split at hx
    ·cases hx;rfl
    ·cases hx
  ·have h5':¬((ac w)[0].toNat:Int)=45:=fun e=>h5 (UInt8.toNat_inj.1 (by have e2:(45:UInt8).toNat=45:=rfl;omega))
   have hs:Mc w=if 0≤bR w then some (bR w) else none:=by
    unfold Mc
    rw [if_neg (fun e=>h5 (by rw [hhd] at e;exact Option.some.inj e.2))]
   have hr:=fq w h
   rw [hs]
   generalize bR w=v at *
   refine⟨v,?_,fun x hx=>?_⟩
   ·by_cases hv:0≤v<;>simp -implicitDefEqProofs only [ay,ahw,ahx,ahy,hz',hch0,h5',hr,hv,ah2,aib]
   ·split at hx
    ·cases hx;rfl
    ·cases hx
 ·have hz':¬(1:Int)<w.size:=by omega
  have hs:Mc w=if 0≤bR w then some (bR w) else none:=by
   unfold Mc
   rw [if_neg (fun e=>hz e.1)]
  have hr:=fq w h
  rw [hs]
  generalize bR w=v at *
  refine⟨v,?_,fun x hx=>?_⟩
  ·by_cases hv:0≤v<;>simp -implicitDefEqProofs only [ay,ahw,ahx,ahy,hz',hr,hv,ah2,aib]
  ·split at hx
   ·cases hx;rfl
   ·cases hx
theorem Ns:∀(a:List ByteArray) (w:ByteArray) (r:List Int),cu a=some r→cu (a++[w])=(zt w).map fun v=>r++[v]
 | [],w,r,h=>by
  cases h
  simp only [ais,cu]
  cases zt w<;>rfl
 | x::a,w,r,h=>by
  simp only [cu,ahM,ah4] at h
  obtain⟨v,h1,m,h2,rfl⟩:=h
  simp only [ahT,cu,h1,ahO,Ns a w m h2]
  cases zt w<;>rfl
theorem Zt {ws:List ByteArray} {i:Nat} (hn:cu (ws.take (i+1))=none):cu ws=none:=by
 have key:∀(a b:List ByteArray),cu a=none→cu (a++b)=none:=by
  intro a
  induction a with
  | nil=>intro b h;cases h
  | cons x a ih =>
   intro b h
   simp only [cu] at h
   simp only [ahT,cu]
   cases hx:zt x with
   | none=>rfl
   | some v =>
    rw [hx] at h
    simp only [ahO,Option.map_eq_none_iff] at h
    simp [ih b h]
 rw [←aiw (i+1) ws]
 exact key _ _ hn
theorem QU (ws:List ByteArray) (n:Int) (h:ws.length≤1000000) (hz:∀w∈ws,w.size≤4294967296):oQ [txs ws,I n]=some (match cu ws with | some r=>.ret [ai r,B (decide ((ws.length:Int)=n))] [] | none=>.ret [ai [],B false] []):=by
 rw [QV]
 simp -implicitDefEqProofs only [ay,ahw,ahx,ahy]
 refine cG (fun r=>r=_) (fun(i:Nat)=>[I n,ai ((cu (ws.take i)).getD []),txs ws,I ws.length,I (i:Int)]) (fun i=>i≤ws.length∧(cu (ws.take i)).isSome=true) (fun i=>ws.length - i)
  (fun o=>(o = .ext 0 [I n,ai ((cu ws).getD [])]∧(cu ws).isSome=true)∨(o = .ret [ai [],B false] []∧cu ws=none)) (fun i hi=>?_) 0 ⟨ah3 _,rfl⟩ rfl ?_
 ·obtain⟨hi1,hi2⟩:=hi
  by_cases hp:i<ws.length
  ·have hil:(i:Int)<ws.length:=by omega
   have hw:ahA.wrap ((i:Int)+1)=((i+1:Nat):Int):=by rw [ah (by omega) (by omega)];omega
   have hel:ao 1 (txs ws) (I (i:Int))=some [T ws[i]]:=by simp [hp]
   obtain⟨v,hv,hv2⟩:=Lu ws[i] (hz _ (ahB hp))
   obtain⟨r,hr⟩:=aic.1 hi2
   have hsn:=Ns (ws.take i) ws[i] r hr
   rw [←ahG hp] at hsn
   have hrl:=(lY _ _ hr).1
   rw [ah1] at hrl
   cases hq:zt ws[i] with
   | none =>
    rw [hq] at hv hsn
    right
    refine⟨.ret [ai [],B false] [],?_,rfl,.inr ⟨rfl,Zt hsn⟩⟩
    have q0:∀b,aq (D.tup [I v,b]) 0=some (I v):=fun b=>agB rfl
    have q1:∀a b,aq (D.tup [a,B b]) 1=some (B b):=fun a b=>agE rfl
    simp -implicitDefEqProofs only [ay,ahw,ahx,ahy,hil,hel,hv,aib,q0,q1]
    rfl
   | some x =>
    rw [hq] at hv hsn
    have hvx:=hv2 x hq
    subst hvx
    left
    have hm:aH 1 [I v]=some (.arr 1 [I v]):=rfl
    have hck:cK (.arr 1 [I v])=some (.arr 1 [I v]):=kn [v]
    have ha:bA 1 8 (ai r) (.arr 1 [I v])=some (ai (r++[v])):=ed (m:=[v]) (by simp;omega)
    refine⟨i+1,?_,⟨hp,by rw [hsn];rfl⟩,by omega⟩
    rw [hsn,hr]
    have q0:∀b,aq (D.tup [I v,b]) 0=some (I v):=fun b=>agB rfl
    have q1:∀a b,aq (D.tup [a,B b]) 1=some (B b):=fun a b=>agE rfl
    simp -implicitDefEqProofs only [ay,ahw,ahx,ahy,hil,hel,hv,ah2,q0,q1,hm,hck,ha,hw,aif]
  ·have hil:¬(i:Int)<ws.length:=by omega
   obtain rfl:i=ws.length:=by omega
   right
   rw [aih] at hi2 ⊢
   refine⟨_,?_,?_,.inl ⟨rfl,hi2⟩⟩
   ·simp -implicitDefEqProofs only [ay,ahw,ahx,ahy,hil]
   ·rfl
 ·rintro o (⟨rfl,ho⟩ | ⟨rfl,ho⟩)
  ·obtain⟨r,hr⟩:=aic.1 ho
   have hrl:=(lY _ _ hr).1
   rw [hr]
   simp -implicitDefEqProofs only [ay,ahw,ahx,ahy,aif,hrl]
  ·rw [ho]
   simp -implicitDefEqProofs only [ay,ahw,ahx,ahy,sk]
theorem Cm (s:ByteArray) (b:Bool):cf [T s,B b]=some (.ret [T (if b=true then s else⟨#[110,111]⟩)] []):=by
 rw [Qz]
 cases b<;>simp -implicitDefEqProofs only [ay,ahw,ahx,ahy]
end Go.Proofs.YtjafgdefcggjcaaGreatDoor

namespace Go.Proofs.YtjafgdefcggjcaaGreatDoor
open Go Go.V
set_option maxRecDepth 100000 in
theorem adW:bo [T kF]=some (.ret [I (shN kF)] []):=by
 rw [bF]
 kernel_rfl
set_option maxRecDepth 100000 in
theorem acy:bo [T jY]=some (.ret [I (shN jY)] []):=by
 rw [bF]
 kernel_rfl
set_option maxRecDepth 100000 in
theorem acw:bo [T dC]=some (.ret [I (shN dC)] []):=by
 rw [bF]
 kernel_rfl
set_option maxRecDepth 100000 in
theorem YU:bo [T bN]=some (.ret [I (shN bN)] []):=by
 rw [bF]
 kernel_rfl
set_option maxRecDepth 100000 in
theorem aaA:bo [T fg]=some (.ret [I (shN fg)] []):=by
 rw [bF]
 kernel_rfl
set_option maxRecDepth 100000 in
theorem acA:bo [T dv]=some (.ret [I (shN dv)] []):=by
 rw [bF]
 kernel_rfl
set_option maxRecDepth 100000 in
theorem aen:bo [T gE]=some (.ret [I (shN gE)] []):=by
 rw [bF]
 kernel_rfl
set_option maxRecDepth 100000 in
theorem WP:bo [T bw]=some (.ret [I (shN bw)] []):=by
 rw [bF]
 kernel_rfl
set_option maxRecDepth 100000 in
theorem afg:bo [T kh]=some (.ret [I (shN kh)] []):=by
 rw [bF]
 kernel_rfl
set_option maxRecDepth 100000 in
theorem Zg:bo [T bM]=some (.ret [I (shN bM)] []):=by
 rw [bF]
 kernel_rfl
set_option maxRecDepth 100000 in
theorem aa8:bo [T cv]=some (.ret [I (shN cv)] []):=by
 rw [bF]
 kernel_rfl
set_option maxRecDepth 100000 in
theorem acM:bo [T eu]=some (.ret [I (shN eu)] []):=by
 rw [bF]
 kernel_rfl
set_option maxRecDepth 100000 in
theorem aaF:bo [T cr]=some (.ret [I (shN cr)] []):=by
 rw [bF]
 kernel_rfl
set_option maxRecDepth 100000 in
theorem abx:bo [T cj]=some (.ret [I (shN cj)] []):=by
 rw [bF]
 kernel_rfl
set_option maxRecDepth 100000 in
theorem abK:bo [T dP]=some (.ret [I (shN dP)] []):=by
 rw [bF]
 kernel_rfl
set_option maxRecDepth 100000 in
theorem YS:bo [T bH]=some (.ret [I (shN bH)] []):=by
 rw [bF]
 kernel_rfl
set_option maxRecDepth 1000000 in
set_option maxHeartbeats 4000000 in
theorem Oq (w:ByteArray):bo [T w]=some (.ret [I (shN w)] []):=by
 by_cases h_wMelt:w=kF
 ·rw [h_wMelt];exact adW
 by_cases h_wJoin:w=jY
 ·rw [h_wJoin];exact acy
 by_cases h_wTake:w=dC
 ·rw [h_wTake];exact acw
 by_cases h_wShares:w=bN
 ·rw [h_wShares];exact YU
 by_cases h_wStock:w=fg
 ·rw [h_wStock];exact aaA
 by_cases h_wRule:w=dv
 ·rw [h_wRule];exact acA
 by_cases h_wCut:w=gE
 ·rw [h_wCut];exact aen
 by_cases h_wMissing:w=bw
 ·rw [h_wMissing];exact WP
 by_cases h_wOff:w=kh
 ·rw [h_wOff];exact afg
 by_cases h_wMedian:w=bM
 ·rw [h_wMedian];exact Zg
 by_cases h_wDrift:w=cv
 ·rw [h_wDrift];exact aa8
 by_cases h_wNote:w=eu
 ·rw [h_wNote];exact acM
 by_cases h_wMetal:w=cr
 ·rw [h_wMetal];exact aaF
 by_cases h_wLeast:w=cj
 ·rw [h_wLeast];exact abx
 by_cases h_wFold:w=dP
 ·rw [h_wFold];exact abK
 by_cases h_wScheme:w=bH
 ·rw [h_wScheme];exact YS
 have hs:shN w = -2:=by
  unfold shN
  simp only [h_wMelt,h_wJoin,h_wTake,h_wShares,h_wStock,h_wRule,h_wCut,h_wMissing,h_wOff,h_wMedian,h_wDrift,h_wNote,h_wMetal,h_wLeast,h_wFold,h_wScheme,or_self,if_false]
 have b_wMelt:bin ahu false [] (T w) (D.v (aht {data:={toList:=[109,101,108,116]}}))=some (B false):=by rw [af,decide_eq_false h_wMelt]
 have b_wJoin:bin ahu false [] (T w) (D.v (aht {data:={toList:=[106,111,105,110]}}))=some (B false):=by rw [af,decide_eq_false h_wJoin]
 have b_wTake:bin ahu false [] (T w) (D.v (aht {data:={toList:=[116,97,107,101]}}))=some (B false):=by rw [af,decide_eq_false h_wTake]
 have b_wShares:bin ahu false [] (T w) (D.v (aht {data:={toList:=[115,104,97,114,101,115]}}))=some (B false):=by rw [af,decide_eq_false h_wShares]
 have b_wStock:bin ahu false [] (T w) (D.v (aht {data:={toList:=[115,116,111,99,107]}}))=some (B false):=by rw [af,decide_eq_false h_wStock]
 have b_wRule:bin ahu false [] (T w) (D.v (aht {data:={toList:=[114,117,108,101]}}))=some (B false):=by rw [af,decide_eq_false h_wRule]
 have b_wCut:bin ahu false [] (T w) (D.v (aht {data:={toList:=[99,117,116]}}))=some (B false):=by rw [af,decide_eq_false h_wCut]
 have b_wMissing:bin ahu false [] (T w) (D.v (aht {data:={toList:=[109,105,115,115,105,110,103]}}))=some (B false):=by rw [af,decide_eq_false h_wMissing]
 have b_wOff:bin ahu false [] (T w) (D.v (aht {data:={toList:=[111,102,102]}}))=some (B false):=by rw [af,decide_eq_false h_wOff]
 have b_wMedian:bin ahu false [] (T w) (D.v (aht {data:={toList:=[109,101,100,105,97,110]}}))=some (B false):=by rw [af,decide_eq_false h_wMedian]
 have b_wDrift:bin ahu false [] (T w) (D.v (aht {data:={toList:=[100,114,105,102,116]}}))=some (B false):=by rw [af,decide_eq_false h_wDrift]
 have b_wNote:bin ahu false [] (T w) (D.v (aht {data:={toList:=[110,111,116,101]}}))=some (B false):=by rw [af,decide_eq_false h_wNote]
 have b_wMetal:bin ahu false [] (T w) (D.v (aht {data:={toList:=[109,101,116,97,108]}}))=some (B false):=by rw [af,decide_eq_false h_wMetal]
 have b_wLeast:bin ahu false [] (T w) (D.v (aht {data:={toList:=[108,101,97,115,116]}}))=some (B false):=by rw [af,decide_eq_false h_wLeast]
 have b_wFold:bin ahu false [] (T w) (D.v (aht {data:={toList:=[102,111,108,100]}}))=some (B false):=by rw [af,decide_eq_false h_wFold]
 have b_wScheme:bin ahu false [] (T w) (D.v (aht {data:={toList:=[115,99,104,101,109,101]}}))=some (B false):=by rw [af,decide_eq_false h_wScheme]
 rw [hs,bF]
 simp -implicitDefEqProofs only [b_wMelt,b_wJoin,b_wTake,b_wShares,b_wStock,b_wRule,b_wCut,b_wMissing,b_wOff,b_wMedian,b_wDrift,b_wNote,b_wMetal,b_wLeast,b_wFold,b_wScheme,ahO,aG,Bool.false_eq_true,if_false]
end Go.Proofs.YtjafgdefcggjcaaGreatDoor

namespace Go.Proofs.YtjafgdefcggjcaaGreatDoor
open Go Go.V
structure Cn where
 m:Me
 s:List Slp
 t:List Int
 j:ByteArray
 f:List Fo
abbrev fo (x:Fo):D:=.agg [I x.1,B x.2]
abbrev fos (l:List Fo):D:=.arr 2 (l.map fo)
def cnD (c:Cn) (x y:Value) (n:Int):D:=.agg [I c.m.1,I c.m.2.1,I c.m.2.2,sls c.s,ai c.t,T c.j,fos c.f,.raw x,.raw y,I n]
section
variable (c:Cn) (x y:Value) (n:Int)
theorem bJ:aa (cnD c x y n) (D.ref 0 0)=some (D.ref 0 0):=rfl
theorem bV:aa (cnD c x y n) (cnD c x y n)=some (cnD c x y n):=rfl
theorem jr:kS (D.ref 0 0) (cnD c x y n)=some (cnD c x y n):=rfl
theorem aaj:((atD (cnD c x y n) (.ref 0 0)).bind (an true 3)).bind aL=some (me c.m):=rfl
theorem ZP:(atD (cnD c x y n) (.ref 0 3)).bind (an false 1)=some (sls c.s):=rfl
theorem ack:(atD (cnD c x y n) (.ref 0 4)).bind (an false 1)=some (ai c.t):=rfl
theorem aca:((atD (cnD c x y n) (.ref 0 5)).bind (an false 1)).bind aL=some (T c.j):=rfl
theorem afA:(atD (cnD c x y n) (.ref 0 6)).bind (an false 1)=some (fos c.f):=rfl
theorem VT (m:Me):stD 3 (cnD c x y n) (.ref 0 0) (me m)=some (cnD {c with m:=m} x y n):=rfl
theorem acg (s:List Slp):stD 1 (cnD c x y n) (.ref 0 3) (sls s)=some (cnD {c with s:=s} x y n):=rfl
theorem agK (t:List Int):stD 1 (cnD c x y n) (.ref 0 4) (ai t)=some (cnD {c with t:=t} x y n):=rfl
theorem agV (j:ByteArray):stD 1 (cnD c x y n) (.ref 0 5) (T j)=some (cnD {c with j:=j} x y n):=rfl
theorem agT (f:List Fo):stD 1 (cnD c x y n) (.ref 0 6) (fos f)=some (cnD {c with f:=f} x y n):=rfl
end
theorem bg (k:Nat):bc k (D.ref 0 0)=some (D.ref 0 k):=by
 show some (D.ref 0 (0+k))=_
 rw [Nat.zero_add]
theorem aR (i f:Nat):aa (D.ref i f) (D.ref i f)=some (D.ref i f):=rfl
end Go.Proofs.YtjafgdefcggjcaaGreatDoor

namespace Go.Proofs.YtjafgdefcggjcaaGreatDoor
open Go Go.V
theorem KY:bin ahu false [] (T kF) (D.v (aht {data:={toList:=[109,101,108,116]}}))=some (B true):=by rw [af];rfl
theorem Wt:bin ahu false [] (T kF) (D.v (aht {data:={toList:=[106,111,105,110]}}))=some (B false):=by rw [af];rfl
theorem TS:bin ahu false [] (T kF) (D.v (aht {data:={toList:=[115,116,111,99,107]}}))=some (B false):=by rw [af];rfl
theorem tq:bin ahu false [] (T jY) (D.v (aht {data:={toList:=[109,101,108,116]}}))=some (B false):=by rw [af];rfl
theorem tN:bin ahu false [] (T jY) (D.v (aht {data:={toList:=[106,111,105,110]}}))=some (B true):=by rw [af];rfl
theorem wj:bin ahu false [] (T jY) (D.v (aht {data:={toList:=[115,116,111,99,107]}}))=some (B false):=by rw [af];rfl
theorem WR:bin ahu false [] (T dC) (D.v (aht {data:={toList:=[109,101,108,116]}}))=some (B false):=by rw [af];rfl
theorem Xh:bin ahu false [] (T dC) (D.v (aht {data:={toList:=[106,111,105,110]}}))=some (B false):=by rw [af];rfl
theorem yN:bin ahu false [] (T dC) (D.v (aht {data:={toList:=[116,97,107,101]}}))=some (B true):=by rw [af];rfl
theorem Qd:bin ahu false [] (T dC) (D.v (aht {data:={toList:=[115,104,97,114,101,115]}}))=some (B false):=by rw [af];rfl
theorem WM:bin ahu false [] (T dC) (D.v (aht {data:={toList:=[114,117,108,101]}}))=some (B false):=by rw [af];rfl
theorem Ye:bin ahu false [] (T dC) (D.v (aht {data:={toList:=[99,117,116]}}))=some (B false):=by rw [af];rfl
theorem Pb:bin ahu false [] (T dC) (D.v (aht {data:={toList:=[109,105,115,115,105,110,103]}}))=some (B false):=by rw [af];rfl
theorem Ro:bin ahu false [] (T bN) (D.v (aht {data:={toList:=[109,101,108,116]}}))=some (B false):=by rw [af];rfl
theorem PW:bin ahu false [] (T bN) (D.v (aht {data:={toList:=[106,111,105,110]}}))=some (B false):=by rw [af];rfl
theorem tY:bin ahu false [] (T bN) (D.v (aht {data:={toList:=[116,97,107,101]}}))=some (B false):=by rw [af];rfl
theorem ly:bin ahu false [] (T bN) (D.v (aht {data:={toList:=[115,104,97,114,101,115]}}))=some (B true):=by rw [af];rfl
theorem OJ:bin ahu false [] (T bN) (D.v (aht {data:={toList:=[115,116,111,99,107]}}))=some (B false):=by rw [af];rfl
theorem DI:bin ahu false [] (T bN) (D.v (aht {data:={toList:=[114,117,108,101]}}))=some (B false):=by rw [af];rfl
theorem FW:bin ahu false [] (T bN) (D.v (aht {data:={toList:=[99,117,116]}}))=some (B false):=by rw [af];rfl
theorem Jg:bin ahu false [] (T bN) (D.v (aht {data:={toList:=[109,105,115,115,105,110,103]}}))=some (B false):=by rw [af];rfl
theorem TA:bin ahu false [] (T bN) (D.v (aht {data:={toList:=[111,102,102]}}))=some (B false):=by rw [af];rfl
theorem Rt:bin ahu false [] (T bN) (D.v (aht {data:={toList:=[110,111,116,101]}}))=some (B false):=by rw [af];rfl
theorem RQ:bin ahu false [] (T bN) (D.v (aht {data:={toList:=[102,111,108,100]}}))=some (B false):=by rw [af];rfl
theorem Vp:bin ahu false [] (T fg) (D.v (aht {data:={toList:=[109,101,108,116]}}))=some (B false):=by rw [af];rfl
theorem UU:bin ahu false [] (T fg) (D.v (aht {data:={toList:=[106,111,105,110]}}))=some (B false):=by rw [af];rfl
theorem Uk:bin ahu false [] (T fg) (D.v (aht {data:={toList:=[116,97,107,101]}}))=some (B false):=by rw [af];rfl
theorem DM:bin ahu false [] (T fg) (D.v (aht {data:={toList:=[115,116,111,99,107]}}))=some (B true):=by rw [af];rfl
theorem Ws:bin ahu false [] (T dv) (D.v (aht {data:={toList:=[109,101,108,116]}}))=some (B false):=by rw [af];rfl
theorem Wa:bin ahu false [] (T dv) (D.v (aht {data:={toList:=[106,111,105,110]}}))=some (B false):=by rw [af];rfl
theorem tE:bin ahu false [] (T dv) (D.v (aht {data:={toList:=[116,97,107,101]}}))=some (B false):=by rw [af];rfl
theorem ur:bin ahu false [] (T dv) (D.v (aht {data:={toList:=[115,104,97,114,101,115]}}))=some (B false):=by rw [af];rfl
theorem Ut:bin ahu false [] (T dv) (D.v (aht {data:={toList:=[115,116,111,99,107]}}))=some (B false):=by rw [af];rfl
theorem tf:bin ahu false [] (T dv) (D.v (aht {data:={toList:=[114,117,108,101]}}))=some (B true):=by rw [af];rfl
theorem Yt:bin ahu false [] (T dv) (D.v (aht {data:={toList:=[99,117,116]}}))=some (B false):=by rw [af];rfl
theorem PA:bin ahu false [] (T dv) (D.v (aht {data:={toList:=[109,105,115,115,105,110,103]}}))=some (B false):=by rw [af];rfl
theorem YN:bin ahu false [] (T gE) (D.v (aht {data:={toList:=[109,101,108,116]}}))=some (B false):=by rw [af];rfl
theorem Yz:bin ahu false [] (T gE) (D.v (aht {data:={toList:=[106,111,105,110]}}))=some (B false):=by rw [af];rfl
theorem EG:bin ahu false [] (T gE) (D.v (aht {data:={toList:=[116,97,107,101]}}))=some (B false):=by rw [af];rfl
theorem Fr:bin ahu false [] (T gE) (D.v (aht {data:={toList:=[115,104,97,114,101,115]}}))=some (B false):=by rw [af];rfl
theorem Wz:bin ahu false [] (T gE) (D.v (aht {data:={toList:=[115,116,111,99,107]}}))=some (B false):=by rw [af];rfl
theorem EZ:bin ahu false [] (T gE) (D.v (aht {data:={toList:=[114,117,108,101]}}))=some (B false):=by rw [af];rfl
theorem Ka:bin ahu false [] (T gE) (D.v (aht {data:={toList:=[99,117,116]}}))=some (B true):=by rw [af];rfl
theorem Rp:bin ahu false [] (T gE) (D.v (aht {data:={toList:=[109,105,115,115,105,110,103]}}))=some (B false):=by rw [af];rfl
theorem Pq:bin ahu false [] (T bw) (D.v (aht {data:={toList:=[109,101,108,116]}}))=some (B false):=by rw [af];rfl
theorem Pt:bin ahu false [] (T bw) (D.v (aht {data:={toList:=[106,111,105,110]}}))=some (B false):=by rw [af];rfl
theorem sx:bin ahu false [] (T bw) (D.v (aht {data:={toList:=[116,97,107,101]}}))=some (B false):=by rw [af];rfl
theorem nO:bin ahu false [] (T bw) (D.v (aht {data:={toList:=[115,104,97,114,101,115]}}))=some (B false):=by rw [af];rfl
theorem Ly:bin ahu false [] (T bw) (D.v (aht {data:={toList:=[115,116,111,99,107]}}))=some (B false):=by rw [af];rfl
theorem rO:bin ahu false [] (T bw) (D.v (aht {data:={toList:=[114,117,108,101]}}))=some (B false):=by rw [af];rfl
theorem uu:bin ahu false [] (T bw) (D.v (aht {data:={toList:=[99,117,116]}}))=some (B false):=by rw [af];rfl
theorem sH:bin ahu false [] (T bw) (D.v (aht {data:={toList:=[109,105,115,115,105,110,103]}}))=some (B true):=by rw [af];rfl
theorem PX:bin ahu false [] (T bw) (D.v (aht {data:={toList:=[111,102,102]}}))=some (B false):=by rw [af];rfl
theorem NT:bin ahu false [] (T bw) (D.v (aht {data:={toList:=[110,111,116,101]}}))=some (B false):=by rw [af];rfl
theorem Nv:bin ahu false [] (T bw) (D.v (aht {data:={toList:=[102,111,108,100]}}))=some (B false):=by rw [af];rfl
theorem Yf:bin ahu false [] (T kh) (D.v (aht {data:={toList:=[109,101,108,116]}}))=some (B false):=by rw [af];rfl
theorem Zn:bin ahu false [] (T kh) (D.v (aht {data:={toList:=[106,111,105,110]}}))=some (B false):=by rw [af];rfl
theorem Ol:bin ahu false [] (T kh) (D.v (aht {data:={toList:=[116,97,107,101]}}))=some (B false):=by rw [af];rfl
theorem UB:bin ahu false [] (T kh) (D.v (aht {data:={toList:=[115,104,97,114,101,115]}}))=some (B false):=by rw [af];rfl
theorem XL:bin ahu false [] (T kh) (D.v (aht {data:={toList:=[115,116,111,99,107]}}))=some (B false):=by rw [af];rfl
theorem MA:bin ahu false [] (T kh) (D.v (aht {data:={toList:=[114,117,108,101]}}))=some (B false):=by rw [af];rfl
theorem SB:bin ahu false [] (T kh) (D.v (aht {data:={toList:=[99,117,116]}}))=some (B false):=by rw [af];rfl
theorem Rk:bin ahu false [] (T kh) (D.v (aht {data:={toList:=[109,105,115,115,105,110,103]}}))=some (B false):=by rw [af];rfl
theorem SJ:bin ahu false [] (T kh) (D.v (aht {data:={toList:=[111,102,102]}}))=some (B true):=by rw [af];rfl
theorem Qj:bin ahu false [] (T bM) (D.v (aht {data:={toList:=[109,101,108,116]}}))=some (B false):=by rw [af];rfl
theorem RP:bin ahu false [] (T bM) (D.v (aht {data:={toList:=[106,111,105,110]}}))=some (B false):=by rw [af];rfl
theorem DP:bin ahu false [] (T bM) (D.v (aht {data:={toList:=[116,97,107,101]}}))=some (B false):=by rw [af];rfl
theorem xw:bin ahu false [] (T bM) (D.v (aht {data:={toList:=[115,104,97,114,101,115]}}))=some (B false):=by rw [af];rfl
theorem Pd:bin ahu false [] (T bM) (D.v (aht {data:={toList:=[115,116,111,99,107]}}))=some (B false):=by rw [af];rfl
theorem Ck:bin ahu false [] (T bM) (D.v (aht {data:={toList:=[114,117,108,101]}}))=some (B false):=by rw [af];rfl
theorem HH:bin ahu false [] (T bM) (D.v (aht {data:={toList:=[99,117,116]}}))=some (B false):=by rw [af];rfl
theorem uM:bin ahu false [] (T bM) (D.v (aht {data:={toList:=[109,105,115,115,105,110,103]}}))=some (B false):=by rw [af];rfl
theorem Ib:bin ahu false [] (T bM) (D.v (aht {data:={toList:=[111,102,102]}}))=some (B false):=by rw [af];rfl
theorem xe:bin ahu false [] (T bM) (D.v (aht {data:={toList:=[109,101,100,105,97,110]}}))=some (B true):=by rw [af];rfl
theorem Qf:bin ahu false [] (T bM) (D.v (aht {data:={toList:=[110,111,116,101]}}))=some (B false):=by rw [af];rfl
theorem Rr:bin ahu false [] (T bM) (D.v (aht {data:={toList:=[102,111,108,100]}}))=some (B false):=by rw [af];rfl
theorem Tz:bin ahu false [] (T cv) (D.v (aht {data:={toList:=[109,101,108,116]}}))=some (B false):=by rw [af];rfl
theorem UM:bin ahu false [] (T cv) (D.v (aht {data:={toList:=[106,111,105,110]}}))=some (B false):=by rw [af];rfl
theorem Fy:bin ahu false [] (T cv) (D.v (aht {data:={toList:=[116,97,107,101]}}))=some (B false):=by rw [af];rfl
theorem zL:bin ahu false [] (T cv) (D.v (aht {data:={toList:=[115,104,97,114,101,115]}}))=some (B false):=by rw [af];rfl
theorem RL:bin ahu false [] (T cv) (D.v (aht {data:={toList:=[115,116,111,99,107]}}))=some (B false):=by rw [af];rfl
theorem GI:bin ahu false [] (T cv) (D.v (aht {data:={toList:=[114,117,108,101]}}))=some (B false):=by rw [af];rfl
theorem KM:bin ahu false [] (T cv) (D.v (aht {data:={toList:=[99,117,116]}}))=some (B false):=by rw [af];rfl
theorem xg:bin ahu false [] (T cv) (D.v (aht {data:={toList:=[109,105,115,115,105,110,103]}}))=some (B false):=by rw [af];rfl
theorem Ki:bin ahu false [] (T cv) (D.v (aht {data:={toList:=[111,102,102]}}))=some (B false):=by rw [af];rfl
theorem yH:bin ahu false [] (T cv) (D.v (aht {data:={toList:=[109,101,100,105,97,110]}}))=some (B false):=by rw [af];rfl
theorem DQ:bin ahu false [] (T cv) (D.v (aht {data:={toList:=[100,114,105,102,116]}}))=some (B true):=by rw [af];rfl
theorem UD:bin ahu false [] (T cv) (D.v (aht {data:={toList:=[110,111,116,101]}}))=some (B false):=by rw [af];rfl
theorem UN:bin ahu false [] (T cv) (D.v (aht {data:={toList:=[102,111,108,100]}}))=some (B false):=by rw [af];rfl
theorem Vx:bin ahu false [] (T eu) (D.v (aht {data:={toList:=[109,101,108,116]}}))=some (B false):=by rw [af];rfl
theorem Wk:bin ahu false [] (T eu) (D.v (aht {data:={toList:=[106,111,105,110]}}))=some (B false):=by rw [af];rfl
theorem Km:bin ahu false [] (T eu) (D.v (aht {data:={toList:=[116,97,107,101]}}))=some (B false):=by rw [af];rfl
theorem PQ:bin ahu false [] (T eu) (D.v (aht {data:={toList:=[115,104,97,114,101,115]}}))=some (B false):=by rw [af];rfl
theorem Tn:bin ahu false [] (T eu) (D.v (aht {data:={toList:=[115,116,111,99,107]}}))=some (B false):=by rw [af];rfl
theorem KC:bin ahu false [] (T eu) (D.v (aht {data:={toList:=[114,117,108,101]}}))=some (B false):=by rw [af];rfl
theorem MH:bin ahu false [] (T eu) (D.v (aht {data:={toList:=[99,117,116]}}))=some (B false):=by rw [af];rfl
theorem MG:bin ahu false [] (T eu) (D.v (aht {data:={toList:=[109,105,115,115,105,110,103]}}))=some (B false):=by rw [af];rfl
theorem ON:bin ahu false [] (T eu) (D.v (aht {data:={toList:=[111,102,102]}}))=some (B false):=by rw [af];rfl
theorem QF:bin ahu false [] (T eu) (D.v (aht {data:={toList:=[109,101,100,105,97,110]}}))=some (B false):=by rw [af];rfl
theorem UP:bin ahu false [] (T eu) (D.v (aht {data:={toList:=[100,114,105,102,116]}}))=some (B false):=by rw [af];rfl
theorem KQ:bin ahu false [] (T eu) (D.v (aht {data:={toList:=[110,111,116,101]}}))=some (B true):=by rw [af];rfl
theorem UW:bin ahu false [] (T cr) (D.v (aht {data:={toList:=[109,101,108,116]}}))=some (B false):=by rw [af];rfl
theorem TU:bin ahu false [] (T cr) (D.v (aht {data:={toList:=[106,111,105,110]}}))=some (B false):=by rw [af];rfl
theorem Il:bin ahu false [] (T cr) (D.v (aht {data:={toList:=[116,97,107,101]}}))=some (B false):=by rw [af];rfl
theorem zN:bin ahu false [] (T cr) (D.v (aht {data:={toList:=[115,104,97,114,101,115]}}))=some (B false):=by rw [af];rfl
theorem QE:bin ahu false [] (T cr) (D.v (aht {data:={toList:=[115,116,111,99,107]}}))=some (B false):=by rw [af];rfl
theorem Gw:bin ahu false [] (T cr) (D.v (aht {data:={toList:=[114,117,108,101]}}))=some (B false):=by rw [af];rfl
theorem KO:bin ahu false [] (T cr) (D.v (aht {data:={toList:=[99,117,116]}}))=some (B false):=by rw [af];rfl
theorem xd:bin ahu false [] (T cr) (D.v (aht {data:={toList:=[109,105,115,115,105,110,103]}}))=some (B false):=by rw [af];rfl
theorem KF:bin ahu false [] (T cr) (D.v (aht {data:={toList:=[111,102,102]}}))=some (B false):=by rw [af];rfl
theorem yR:bin ahu false [] (T cr) (D.v (aht {data:={toList:=[109,101,100,105,97,110]}}))=some (B false):=by rw [af];rfl
theorem Dj:bin ahu false [] (T cr) (D.v (aht {data:={toList:=[100,114,105,102,116]}}))=some (B false):=by rw [af];rfl
theorem Hb:bin ahu false [] (T cr) (D.v (aht {data:={toList:=[110,111,116,101]}}))=some (B false):=by rw [af];rfl
theorem CO:bin ahu false [] (T cr) (D.v (aht {data:={toList:=[109,101,116,97,108]}}))=some (B true):=by rw [af];rfl
theorem Tp:bin ahu false [] (T cr) (D.v (aht {data:={toList:=[102,111,108,100]}}))=some (B false):=by rw [af];rfl
theorem Ur:bin ahu false [] (T cj) (D.v (aht {data:={toList:=[109,101,108,116]}}))=some (B false):=by rw [af];rfl
theorem UJ:bin ahu false [] (T cj) (D.v (aht {data:={toList:=[106,111,105,110]}}))=some (B false):=by rw [af];rfl
theorem FD:bin ahu false [] (T cj) (D.v (aht {data:={toList:=[116,97,107,101]}}))=some (B false):=by rw [af];rfl
theorem zJ:bin ahu false [] (T cj) (D.v (aht {data:={toList:=[115,104,97,114,101,115]}}))=some (B false):=by rw [af];rfl
theorem PZ:bin ahu false [] (T cj) (D.v (aht {data:={toList:=[115,116,111,99,107]}}))=some (B false):=by rw [af];rfl
theorem Hh:bin ahu false [] (T cj) (D.v (aht {data:={toList:=[114,117,108,101]}}))=some (B false):=by rw [af];rfl
theorem KZ:bin ahu false [] (T cj) (D.v (aht {data:={toList:=[99,117,116]}}))=some (B false):=by rw [af];rfl
theorem xu:bin ahu false [] (T cj) (D.v (aht {data:={toList:=[109,105,115,115,105,110,103]}}))=some (B false):=by rw [af];rfl
theorem Kp:bin ahu false [] (T cj) (D.v (aht {data:={toList:=[111,102,102]}}))=some (B false):=by rw [af];rfl
theorem yo:bin ahu false [] (T cj) (D.v (aht {data:={toList:=[109,101,100,105,97,110]}}))=some (B false):=by rw [af];rfl
theorem Db:bin ahu false [] (T cj) (D.v (aht {data:={toList:=[100,114,105,102,116]}}))=some (B false):=by rw [af];rfl
theorem Fk:bin ahu false [] (T cj) (D.v (aht {data:={toList:=[110,111,116,101]}}))=some (B false):=by rw [af];rfl
theorem CT:bin ahu false [] (T cj) (D.v (aht {data:={toList:=[109,101,116,97,108]}}))=some (B false):=by rw [af];rfl
theorem Cy:bin ahu false [] (T cj) (D.v (aht {data:={toList:=[108,101,97,115,116]}}))=some (B true):=by rw [af];rfl
theorem Ua:bin ahu false [] (T cj) (D.v (aht {data:={toList:=[102,111,108,100]}}))=some (B false):=by rw [af];rfl
theorem XD:bin ahu false [] (T dP) (D.v (aht {data:={toList:=[109,101,108,116]}}))=some (B false):=by rw [af];rfl
theorem WO:bin ahu false [] (T dP) (D.v (aht {data:={toList:=[106,111,105,110]}}))=some (B false):=by rw [af];rfl
theorem Ky:bin ahu false [] (T dP) (D.v (aht {data:={toList:=[116,97,107,101]}}))=some (B false):=by rw [af];rfl
theorem QR:bin ahu false [] (T dP) (D.v (aht {data:={toList:=[115,104,97,114,101,115]}}))=some (B false):=by rw [af];rfl
theorem TH:bin ahu false [] (T dP) (D.v (aht {data:={toList:=[115,116,111,99,107]}}))=some (B false):=by rw [af];rfl
theorem KD:bin ahu false [] (T dP) (D.v (aht {data:={toList:=[114,117,108,101]}}))=some (B false):=by rw [af];rfl
theorem Nk:bin ahu false [] (T dP) (D.v (aht {data:={toList:=[99,117,116]}}))=some (B false):=by rw [af];rfl
theorem Pw:bin ahu false [] (T dP) (D.v (aht {data:={toList:=[109,105,115,115,105,110,103]}}))=some (B false):=by rw [af];rfl
theorem NO:bin ahu false [] (T dP) (D.v (aht {data:={toList:=[111,102,102]}}))=some (B false):=by rw [af];rfl
theorem Qk:bin ahu false [] (T dP) (D.v (aht {data:={toList:=[109,101,100,105,97,110]}}))=some (B false):=by rw [af];rfl
theorem UZ:bin ahu false [] (T dP) (D.v (aht {data:={toList:=[100,114,105,102,116]}}))=some (B false):=by rw [af];rfl
theorem Kx:bin ahu false [] (T dP) (D.v (aht {data:={toList:=[110,111,116,101]}}))=some (B false):=by rw [af];rfl
theorem Vl:bin ahu false [] (T dP) (D.v (aht {data:={toList:=[109,101,116,97,108]}}))=some (B false):=by rw [af];rfl
theorem Vk:bin ahu false [] (T dP) (D.v (aht {data:={toList:=[108,101,97,115,116]}}))=some (B false):=by rw [af];rfl
theorem Ku:bin ahu false [] (T dP) (D.v (aht {data:={toList:=[102,111,108,100]}}))=some (B true):=by rw [af];rfl
theorem Ra:bin ahu false [] (T bH) (D.v (aht {data:={toList:=[109,101,108,116]}}))=some (B false):=by rw [af];rfl
theorem Rq:bin ahu false [] (T bH) (D.v (aht {data:={toList:=[106,111,105,110]}}))=some (B false):=by rw [af];rfl
theorem Di:bin ahu false [] (T bH) (D.v (aht {data:={toList:=[116,97,107,101]}}))=some (B false):=by rw [af];rfl
theorem xE:bin ahu false [] (T bH) (D.v (aht {data:={toList:=[115,104,97,114,101,115]}}))=some (B false):=by rw [af];rfl
theorem MZ:bin ahu false [] (T bH) (D.v (aht {data:={toList:=[115,116,111,99,107]}}))=some (B false):=by rw [af];rfl
theorem DO:bin ahu false [] (T bH) (D.v (aht {data:={toList:=[114,117,108,101]}}))=some (B false):=by rw [af];rfl
theorem Hm:bin ahu false [] (T bH) (D.v (aht {data:={toList:=[99,117,116]}}))=some (B false):=by rw [af];rfl
theorem vQ:bin ahu false [] (T bH) (D.v (aht {data:={toList:=[109,105,115,115,105,110,103]}}))=some (B false):=by rw [af];rfl
theorem GT:bin ahu false [] (T bH) (D.v (aht {data:={toList:=[111,102,102]}}))=some (B false):=by rw [af];rfl
theorem xM:bin ahu false [] (T bH) (D.v (aht {data:={toList:=[109,101,100,105,97,110]}}))=some (B false):=by rw [af];rfl
theorem zx:bin ahu false [] (T bH) (D.v (aht {data:={toList:=[100,114,105,102,116]}}))=some (B false):=by rw [af];rfl
theorem Cq:bin ahu false [] (T bH) (D.v (aht {data:={toList:=[110,111,116,101]}}))=some (B false):=by rw [af];rfl
theorem yt:bin ahu false [] (T bH) (D.v (aht {data:={toList:=[109,101,116,97,108]}}))=some (B false):=by rw [af];rfl
theorem yK:bin ahu false [] (T bH) (D.v (aht {data:={toList:=[108,101,97,115,116]}}))=some (B false):=by rw [af];rfl
theorem DB:bin ahu false [] (T bH) (D.v (aht {data:={toList:=[102,111,108,100]}}))=some (B false):=by rw [af];rfl
end Go.Proofs.YtjafgdefcggjcaaGreatDoor

namespace Go.Proofs.YtjafgdefcggjcaaGreatDoor
open Go Go.V
theorem t0A {z:Nat} {l b:List D}:aq (.tup (.arr z l::b)) 0=some (.arr z l):=rfl
theorem t0G {l b:List D}:aq (.tup (.agg l::b)) 0=some (.agg l):=rfl
theorem t0V {x:Value} {b:List D}:aq (.tup (.v x::b)) 0=some (.v x):=rfl
theorem t1A {a:D} {z:Nat} {l b:List D}:aq (.tup (a :: .arr z l::b)) 1=some (.arr z l):=rfl
theorem t1G {a:D} {l b:List D}:aq (.tup (a :: .agg l::b)) 1=some (.agg l):=rfl
theorem t1V {a:D} {x:Value} {b:List D}:aq (.tup (a :: .v x::b)) 1=some (.v x):=rfl
theorem t2V {a c:D} {x:Value} {b:List D}:aq (.tup (a::c :: .v x::b)) 2=some (.v x):=rfl
theorem kU {a:D} {b:List D}:dg (.tup (a::b)) 0 = .tup (.bad::b):=rfl
theorem rV (a b c:D) (m:Me):stD 3 (D.agg [a,b,c]) (D.ref 0 0) (me m)=some (me m):=rfl
theorem ro (m:Me):bf true 3 0 (me m)=some (me m):=rfl
theorem Ub (a b:Me):aH 3 [me a,me b]=some (mes [a,b]):=rfl
abbrev okT:ByteArray:=⟨⟨[111,107]⟩⟩
abbrev noT:ByteArray:=⟨⟨[110,111]⟩⟩
abbrev fv:ByteArray:=⟨⟨[119,104,97,116]⟩⟩
def QA (c:Cn) (w rest:ByteArray):ByteArray × Cn :=
 if w=fg then(if (pSt rest).isSome=true then(okT,{c with s:=stO (pSt rest)}) else(noT,c))
 else if (pM rest).isSome=false then(noT,c)
 else if w=jY then(if joB [c.m,meO (pM rest)]=true then(mtT (joR [c.m,meO (pM rest)]),{c with m:=joR [c.m,meO (pM rest)]}) else(noT,c))
 else(okT,{c with m:=meO (pM rest)})
theorem yB {l:List Me} (h:joB l=true):ck (joR l)=true:=by
 have h':=h
 unfold joB at h'
 simp only [aii] at h'
 rw [joR,if_pos h]
 exact h'.2
theorem nq (s:ByteArray):cf [T s,B true]=some (.ret [T s] []):=Cm s true
theorem mG (s:ByteArray):cf [T s,B false]=some (.ret [T noT] []):=Cm s false
theorem XI (c:Cn) (x y:Value) (n:Int) (w rest:ByteArray) (hw:w=fg∨w=kF∨w=jY) (hr:rest.size≤1048576) :
  gJ [cnD c x y n,T w,T rest]=some (.ret [T (QA c w rest).1] [cnD (QA c w rest).2 x y n]):=by
 rw [Bu]
 rcases hw with rfl | rfl | rfl
 ·have e1:=Ho rest hr
  unfold QA
  cases hq:(pSt rest).isSome<;>rw [hq] at e1<;>simp -implicitDefEqProofs only [ay,ahw,ahx,ahy,DM,e1,t0A,t1V,bJ,bV,bg,aR,acg,nq,mG]
 ·have e1:=vt rest hr
  have hne:¬kF=fg:=by decide
  have hne2:¬kF=jY:=by decide
  unfold QA
  cases hq:(pM rest).isSome<;>rw [hq] at e1<;>simp -implicitDefEqProofs only [ay,ahw,ahx,ahy,TS,Wt,KY,hne,hne2,e1,t0G,t1V,rV,ro,bJ,bV,bg,aR,VT,nq,mG,aid]
 ·have e1:=vt rest hr
  have hne:¬jY=fg:=by decide
  unfold QA
  cases hq:(pM rest).isSome<;>rw [hq] at e1
  ·simp -implicitDefEqProofs only [ay,ahw,ahx,ahy,wj,tN,tq,hne,e1,t0G,t1V,rV,ro,bJ,bV,bg,aR,VT,nq,mG,aid]
  ·have e2:=Ju [c.m,meO (pM rest)] (by simp)
   cases hj:joB [c.m,meO (pM rest)]<;>rw [hj] at e2
   ·simp -implicitDefEqProofs only [ay,ahw,ahx,ahy,wj,tN,tq,hne,e1,e2,t0G,t1V,rV,ro,Ub,aaj,bJ,bV,bg,aR,VT,nq,mG,aid]
   ·have e3:=DU (yB hj)
    simp -implicitDefEqProofs only [ay,ahw,ahx,ahy,wj,tN,tq,hne,e1,e2,e3,t0G,t1V,rV,ro,Ub,aaj,bJ,bV,bg,aR,VT,nq,mG,aid]
end Go.Proofs.YtjafgdefcggjcaaGreatDoor

namespace Go.Proofs.YtjafgdefcggjcaaGreatDoor
open Go Go.V
theorem acs {l:List Slp}:∀{i n v:Nat},i≤l.length→cS (l.take i) n=some v→∀j,j<i→0≤(ctl l i n).getD j 0∧(ctl l i n).getD j 0≤(slC l j:Int)
 | 0,_,_,_,_,j,hj=>absurd hj (Nat.not_lt_zero _)
 | i+1,n,v,hi,h,j,hj=>by
  obtain⟨u,p1,_,p3⟩:=Nc hi h
  have hlen:=qM l i (n - pk l i n*slW l i)
  by_cases hji:j<i
  ·have:=acs (Nat.le_of_succ_le hi) p1 j hji
   have e:(ctl l (i+1) n).getD j 0=(ctl l i (n - pk l i n*slW l i)).getD j 0:=by
    simp only [ctl,ah6]
    rw [aio (by omega)]
   rw [e]
   exact this
  ·have hj':j=i:=by omega
   subst hj'
   have e:(ctl l (j+1) n).getD j 0=(pk l j n:Int):=by
    simp only [ctl,ah6]
    rw [List.getElem?_append_right (by omega),hlen]
    simp
   rw [e]
   unfold mx at p3
   omega
theorem Uy:∀(l:List Slp) (cs:List Int) (i:Nat) (hi:i<l.length) (hc:i<cs.length),(rsS l cs)[i]'(by rw [mF];exact hi)=(l[i].1,ahA.wrap (l[i].2 - cs[i]))
 | x::l,k::cs,0,_,_=>rfl
 | x::l,k::cs,i+1,hi,hc=>by
  have:=Uy l cs i (by simpa using hi) (by simpa using hc)
  simp only [rsS,ahU,this]
def okL (l:List Slp):Prop:=∀x∈l,(1≤x.1∧x.1≤200)∧0≤x.2∧x.2≤20
theorem afR {l:List Slp} {n:Nat} (h:okL l) (hv:(cS l n).isSome=true):okL (rsS l (ctl l l.length n)):=by
 intro x hx
 obtain⟨i,hi,rfl⟩:=List.getElem_of_mem hx
 rw [mF] at hi
 have hc:i<(ctl l l.length n).length:=by rw [qM];exact hi
 rw [Uy l _ i hi hc]
 obtain⟨v,hv'⟩:=aic.1 hv
 have hb:=acs (l:=l) (i:=l.length) (n:=n) (v:=v) (ahz _) (by rw [aih];exact hv') i hi
 have ho:=h l[i] (ahB hi)
 have hC:=UV hi ho.2.1
 rw [ah6,ahF hc,aif] at hb
 have hw:ahA.wrap (l[i].2 - (ctl l l.length n)[i])=l[i].2 - (ctl l l.length n)[i]:=ah (by omega) (by omega)
 rw [hw]
 dsimp only
 omega
end Go.Proofs.YtjafgdefcggjcaaGreatDoor

end
