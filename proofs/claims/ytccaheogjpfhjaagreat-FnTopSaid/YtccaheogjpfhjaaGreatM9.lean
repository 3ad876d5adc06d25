/-
  A part of the proof: contracts and plain forms of functions beneath the statement, made small by a program (names shortened, what is not needed left out).
-/
import Derived.Test.YtccaheogjpfhjaaGreatRows
import Derived.Test.YtccaheogjpfhjaaGreatM8
import Derived.Laws.Rows
import Derived.Laws.Bits64b
import Derived.Sort.Walk0
open Go.IntKind renaming i64 → ZE, u64 → aad
open Option renaming bind_some → ZF, map → aag, map_some → aaM
open Go.Lib renaming frozen_of_heap → ZG, cell_of_heap → aap
open List renaming length_map → ZH, getElem_mem → ZP, length_pos_iff → ZQ, range → ZS, drop_eq_getElem_cons → ZV, getElem?_eq_getElem → ZW, map_drop → ZY, drop_eq_nil_of_le → aaa, length_cons → aac, all_eq_true → aah, length_take → aai, mem_map → aaj, foldl_cons → aak, map_take → aam, getD_eq_getElem?_getD → aan, getElem?_eq_some_iff → aao, length → aas, mem_range → aau, mem_cons → aax, drop_succ_cons → aaz, length_append → aaC, ext_getElem? → aaF, getElem?_map → aaH, map_append → aaL
open Bool renaming false_eq_true → ZI, and_eq_true → ZR, true_and → ZT, false_and → aab
open Int renaming reduceEq → ZJ, reduceLT → ZK, reduceLE → ZL, eq_ofNat_of_zero_le → ZU, not_lt → aaf, mul_nonneg → aal, le_refl → aar, mul_le_mul → aat, not_le → aaw, toNat_natCast → aaE
open Nat renaming le_of_lt → ZM, le_refl → ZN, zero_add → aaq, le_trans → aaA, beq_refl → aaB, zero_le → aaI, not_lt_zero → aaO
open ByteArray renaming size_append → ZO
open Classical renaming choose → ZX
open Go.Value renaming int → ZZ, string → aaD, bool → aaN
open Go.Proofs renaming enters_of → aae
open Go.RowKit.Below renaming refl → aav
open Go.World renaming grownBy_alloc → aay, setCell → aaQ
open Go.Value.slice renaming injEq → aaG
open Go.Instr renaming makeSlice → aaJ
open Option.some renaming inj → aaK
open Go.BinOp renaming add → aaP
open List.cons renaming inj → aaR
set_option maxRecDepth 100000
set_option linter.unusedSimpArgs false
set_option linter.unusedVariables false
noncomputable section
namespace Go.Proofs.YtccaheogjpfhjaaGreat
open Go Go.Proofs Go.V Go.RowKit Go.Lib
set_option maxRecDepth 100000
theorem QL (w:World) (a b:Int):Calls Tryz.prog 84 #[.int .i64 a,.int .i64 b] w fun e w'=>e = .returned (.int .i64 (if b<a then a else b))∧w'=w:=by
 go_enter Tryz.func84,Tryz.ntmps84
 by_cases h:b<a
 ·go_wp2
  go_ret
  simp [h]
 ·go_wp2
  go_ret
  simp [h]
theorem WG:(Tryz.prog.info? 155).map (fun i=>(i.zero,i.size,i.bytes))=some (some (.slice none 0 0),1,24):=by kernel_rfl
theorem Yd:(Tryz.prog.info? 140).map (fun i=>(i.zero,i.size,i.bytes))=some (some (.agg #[.bool false,.int .i64 0,.slice none 0 0,.int .i64 0]),4,48):=by kernel_rfl
abbrev DG (a b c:Int):Value:=.agg #[.int .i64 a,.int .i64 b,.int .i64 c]
theorem kQ {B:Nat} {w W:World} (h:Below B w W) {p:Addr} {v:Value} (hp:B≤p.block):Below B w (W.setCell p v) :=
 ⟨h.os,h.tape,h.output,by simpa [aaQ] using h.size,fun b hb=>(heap_setCell_other _ _ _ _ (by omega)).trans (h.block b hb)⟩
theorem Sl (W:World) (p:Addr) (v:Value):(W.setCell p v).heap.size=W.heap.size:=by simp [aaQ]
structure FromS (w:World) (n rb tb gb R:Nat) (q1 q2 q3:Int) (v:Nat→Way) (W:World):Prop where
 bel:Below w.heap.size w W
 rul:W.heap[rb]?=some (.cells #[.int .i64 q1,.int .i64 q2,.int .i64 q3] 53 (0,0))
 res:W.heap[tb]?=some (.cells #[.bool false,.int .i64 0,.slice none 0 0,.int .i64 0] 140 (0,0))
 best:W.heap[gb]?=some (.cells #[.slice (some ⟨R,0,none⟩) (n+1) (n+1)] 155 (0,0))
 row:WRow W w.heap.size R (n+1) v
 rle:w.heap.size≤R∧tb≠R
theorem FromS.below {w W W':World} {n rb tb gb R:Nat} {q1 q2 q3:Int} {v:Nat→Way} (h:FromS w n rb tb gb R q1 q2 q3 v W) (hb:Below W.heap.size W W'):FromS w n rb tb gb R q1 q2 q3 v W' :=
 ⟨h.bel.trans (hb.mono h.bel.size),aJ hb h.rul (aG h.rul),aJ hb h.res (aG h.res),aJ hb h.best (aG h.best),h.row.below hb,h.rle⟩
theorem LH {W:World} {b t:Nat} {a0 a1 a2:Value} (h:W.heap[b]?=some (.cells #[a0,a1,a2] t (0,0))) :
  W.cell? ⟨b,0,none⟩=some a0∧W.cell? ⟨b,1,none⟩=some a1∧W.cell? ⟨b,2,none⟩=some a2:=by
 refine⟨?_,?_,?_⟩<;>rw [aap h]<;>rfl
theorem Lt {W:World} {b t:Nat} {a0:Value} (h:W.heap[b]?=some (.cells #[a0] t (0,0))):W.cell? ⟨b,0,none⟩=some a0:=by
 rw [aap h];rfl
theorem FromS.set {w W:World} {n rb tb gb R:Nat} {q1 q2 q3:Int} {v:Nat→Way} (h:FromS w n rb tb gb R q1 q2 q3 v W) {ob k:Nat} {x:Value} {c:Array Value} (hp:w.heap.size≤ob) (h1:ob≠rb) (h2:ob≠tb) (h3:ob≠gb) (h4:ob≠R) (hz:W.heap[ob]?=some (.cells c 140 (0,0))):FromS w n rb tb gb R q1 q2 q3 v (W.setCell ⟨ob,k,none⟩ x) :=
 ⟨kQ h.bel hp,(heap_setCell_other _ ⟨ob,k,none⟩ _ _ (fun e=>h1 e.symm)).trans h.rul,(heap_setCell_other _ ⟨ob,k,none⟩ _ _ (fun e=>h2 e.symm)).trans h.res,(heap_setCell_other _ ⟨ob,k,none⟩ _ _ (fun e=>h3 e.symm)).trans h.best,h.row.kept (heap_setCell_other _ ⟨ob,k,none⟩ _ _ (fun e=>h4 e.symm)) (KI.set (p:=⟨ob,k,none⟩) hz (by decide)),h.rle⟩
theorem FromS.better {w W:World} {n rb tb gb R:Nat} {q1 q2 q3:Int} {v:Nat→Way} (h:FromS w n rb tb gb R q1 q2 q3 v W) {ob:Nat} {c:Array Value} (hp:w.heap.size≤ob) (h1:ob≠rb) (h2:ob≠tb) (h3:ob≠gb) (h4:ob≠R) (hz:W.heap[ob]?=some (.cells c 140 (0,0))) (x1 x2 x0 x3:Value) :
  FromS w n rb tb gb R q1 q2 q3 v ((((W.setCell ⟨ob,1,none⟩ x1).setCell ⟨ob,2,none⟩ x2).setCell ⟨ob,0,none⟩ x0).setCell ⟨ob,3,none⟩ x3) :=
 (((h.set hp h1 h2 h3 h4 hz).set hp h1 h2 h3 h4 (dj hz)).set hp h1 h2 h3 h4 (dj (dj hz))).set hp h1 h2 h3 h4 (dj (dj (dj hz)))
theorem FromS.worse {w W:World} {n rb tb gb R:Nat} {q1 q2 q3:Int} {v:Nat→Way} (h:FromS w n rb tb gb R q1 q2 q3 v W) {ob:Nat} {c:Array Value} (hp:w.heap.size≤ob) (h1:ob≠rb) (h2:ob≠tb) (h3:ob≠gb) (h4:ob≠R) (hz:W.heap[ob]?=some (.cells c 140 (0,0))) (x0 x3:Value) :
  FromS w n rb tb gb R q1 q2 q3 v ((W.setCell ⟨ob,0,none⟩ x0).setCell ⟨ob,3,none⟩ x3):=(h.set hp h1 h2 h3 h4 hz).set hp h1 h2 h3 h4 (dj hz)
theorem FromS.put {w W:World} {n rb tb gb R:Nat} {q1 q2 q3:Int} {v:Nat→Way} (h:FromS w n rb tb gb R q1 q2 q3 v W) (i:Nat) {x0 x1 x2 x3:Value} {q:Way} (hq:WayC W w.heap.size x0 x1 x2 x3 q) :
  FromS w n rb tb gb R q1 q2 q3 (fun x=>if x=i then q else v x) (Sz W R i x0 x1 x2 x3):=by
 obtain⟨cur,k1,_⟩:=h.row.out;have nr:rb≠R:=fun e=>by
  have h1:=h.rul;rw [e,k1] at h1;simp at h1
 have ng:gb≠R:=fun e=>by
  have h1:=h.best;rw [e,k1] at h1;simp at h1
 exact⟨kQ (kQ (kQ (kQ h.bel h.rle.1) h.rle.1) h.rle.1) h.rle.1,(sJ nr).trans h.rul,(sJ h.rle.2).trans h.res,(sJ ng).trans h.best,h.row.put i hq,h.rle⟩
set_option maxHeartbeats 20000000 in
set_option maxRecDepth 1000000 in
theorem Rr (w:World) (n:Nat) (hn:n≤1048576) (A:Option Addr) (cA:Nat) (hcA:n≤cA) (hA:0<n→∃b o,A=some ⟨b,o,none⟩) (q1 q2 q3:Int) (meas:Int) (last:Nat→Bool) (lc:Nat→Nat→Int × Bool)
  (hLast:∀(W:World) (b o i:Nat),A=some ⟨b,o,none⟩→i<n→Below w.heap.size w W→Calls Tryz.prog 130 #[.slice (some ⟨b,o+i,none⟩) (n - i) (cA - i),DG q1 q2 q3,.int .i64 meas,.bool true] W fun e W'=>∃c:Int,e = .returned (.tuple #[.int .i64 c,.bool (last i)])∧Below W.heap.size W W')
  (hLine:∀(W:World) (b o i j:Nat),A=some ⟨b,o,none⟩→i<j→j<n→Below w.heap.size w W→Calls Tryz.prog 130 #[.slice (some ⟨b,o+i,none⟩) (j - i) (cA - i),DG q1 q2 q3,.int .i64 meas,.bool false] W fun e W'=>e = .returned (.tuple #[.int .i64 (lc i j).1,.bool (lc i j).2])∧Below W.heap.size W W')
  (hLess:∀(W:World) (y z:Value) (a b:List Int),a.length≤1048576→b.length≤1048576→Below w.heap.size w W→lR W w.heap.size y a→lR W w.heap.size z b→Calls Tryz.prog 131 #[y,z] W fun e W'=>e = .returned (.bool (sd a b))∧Below W.heap.size W W') :
  Calls Tryz.prog 106 #[.slice A n cA,DG q1 q2 q3,.int .i64 meas,.int .i64 0] w fun e w'=>Below w.heap.size w w'∧∃y,e = .returned (.agg #[.bool (fG n last lc n 0).1,.int .i64 (fG n last lc n 0).2.1,y,.int .i64 (fG n last lc n 0).2.2.2])∧lR w' w.heap.size y (fG n last lc n 0).2.2.1:=by
 obtain⟨iw,hiw,hw0,hw1,hw2⟩:=info_parts Yd;obtain⟨is,his,hs0,hs1,hs2⟩:=info_parts WG;have m1:∀W:World,(aaJ 155 (.int .i64 ((n:Int)+1)) (.int .i64 ((n:Int)+1))).run Tryz.prog W = .ok (.slice (some ⟨W.heap.size,0,none⟩) (n+1) (n+1)) (W.alloc (.cells (madeCells #[.bool false,.int .i64 0,.slice none 0 0,.int .i64 0] ((n+1)*4)) 140)):=fun W=>by
  have h:=run_make (P:=Tryz.prog) W 155 140 iw _ Tryz.underlying155 hiw hw0 .i64 .i64 ((n:Int)+1) ((n:Int)+1) (by omega) (by omega) (by rw [hw2];omega) (by omega);rw [hw1,show((n:Int)+1).toNat=n+1 by omega] at h;exact h
 have m2:∀W:World,(aaJ 154 (.int .i64 1) (.int .i64 1)).run Tryz.prog W = .ok (.slice (some ⟨W.heap.size,0,none⟩) 1 1) (W.alloc (.cells #[.slice none 0 0] 155)):=fun W=>by
  have h:=run_make (P:=Tryz.prog) W 154 155 is _ Tryz.underlying154 his hs0 .i64 .i64 1 1 (by omega) (by omega) (by rw [hs2];omega) (by omega);rw [hs1,show madeCells (Value.slice none 0 0).cells (Int.toNat 1*1)=#[.slice none 0 0] by kernel_rfl] at h;exact h
 obtain⟨i0,hi,hz0,hz1,hz2⟩:=info_parts Xc;have hwn:ZE.wrap ((n:Int)+1)=(n:Int)+1:=ae (by omega) (by omega)
 go_enter Tryz.func106,Tryz.ntmps106
 go_upto_region 3 with fail
 have pr:((((w.alloc (.cells #[.int .i64 q1,.int .i64 q2,.int .i64 q3] 53)).alloc (.cells #[.bool false,.int .i64 0,.slice none 0 0,.int .i64 0] 140)).alloc (.cells #[.slice none 0 0] 155))).heap[w.heap.size]?=some (.cells #[.int .i64 q1,.int .i64 q2,.int .i64 q3] 53 (0,0)):=fq _ (fq _ (bF _ rfl));have pt:((((w.alloc (.cells #[.int .i64 q1,.int .i64 q2,.int .i64 q3] 53)).alloc (.cells #[.bool false,.int .i64 0,.slice none 0 0,.int .i64 0] 140)).alloc (.cells #[.slice none 0 0] 155))).heap[w.heap.size+1]?=some (.cells #[.bool false,.int .i64 0,.slice none 0 0,.int .i64 0] 140 (0,0)):=fq _ (bF _ (by simp));have pg:((((w.alloc (.cells #[.int .i64 q1,.int .i64 q2,.int .i64 q3] 53)).alloc (.cells #[.bool false,.int .i64 0,.slice none 0 0,.int .i64 0] 140)).alloc (.cells #[.slice none 0 0] 155))).heap[w.heap.size+1+1]?=some (.cells #[.slice none 0 0] 155 (0,0)):=bF _ (by simp);have B0:Below w.heap.size w (((w.alloc (.cells #[.int .i64 q1,.int .i64 q2,.int .i64 q3] 53)).alloc (.cells #[.bool false,.int .i64 0,.slice none 0 0,.int .i64 0] 140)).alloc (.cells #[.slice none 0 0] 155)):=(((aav _ w).alloc (ZN _) _).alloc (by simp) _).alloc (by simp;omega) _;generalize (((w.alloc (.cells #[.int .i64 q1,.int .i64 q2,.int .i64 q3] 53)).alloc (.cells #[.bool false,.int .i64 0,.slice none 0 0,.int .i64 0] 140)).alloc (.cells #[.slice none 0 0] 155))=W0 at *;obtain⟨tb,htb⟩:∃tb,tb=w.heap.size+1:=⟨_,rfl⟩
 obtain⟨gb,hgb⟩:∃gb,gb=w.heap.size+1+1:=⟨_,rfl⟩
 rw [←hgb] at pg ⊢;rw [←htb] at pt ⊢;have HB:Hid (tb=w.heap.size+1∧gb=w.heap.size+1+1):=⟨htb,hgb⟩
 clear htb hgb
 go_wp2
 go_loopw [29] (fun vk wr=>(vk = .int .i64 0∧wr=W0)∨(vk = .int .i64 1∧∃R,FromS w n w.heap.size tb gb R q1 q2 q3 (fG n last lc 0) wr)) (fun vk _=>1 - (RowKit.intOf vk).toNat)
 case atStart=>exact .inl ⟨rfl,rfl⟩
 case round =>
  rcases hrel with ⟨rfl,rfl⟩ | ⟨rfl,R,hS⟩
  ·have hgl:=aG pg
   have pg2:(wr.alloc (.cells (madeCells #[.bool false,.int .i64 0,.slice none 0 0,.int .i64 0] ((n+1)*4)) 140)).heap[gb]?=some (.cells #[.slice none 0 0] 155 (0,0)):=fq _ pg;have c2:=Lt pg2;have f2:=ZG pg2 0;have pr2:(wr.alloc (.cells (madeCells #[.bool false,.int .i64 0,.slice none 0 0,.int .i64 0] ((n+1)*4)) 140)).heap[w.heap.size]?=_:=fq _ pr;have pt2:(wr.alloc (.cells (madeCells #[.bool false,.int .i64 0,.slice none 0 0,.int .i64 0] ((n+1)*4)) 140)).heap[tb]?=_:=fq _ pt;have pR2:=UO (B:=w.heap.size) (bF (w:=wr) (.cells (madeCells #[.bool false,.int .i64 0,.slice none 0 0,.int .i64 0] ((n+1)*4)) 140) rfl);have B2:=B0.alloc B0.size (.cells (madeCells #[.bool false,.int .i64 0,.slice none 0 0,.int .i64 0] ((n+1)*4)) 140);have hRl:=B0.size;have htl:=aG pt
   go_wp2
   obtain⟨e2,e3⟩:=HB.out;refine⟨.inr ⟨rfl,wr.heap.size,(kQ B0 (p:=⟨gb,0,none⟩) (by simp only;omega)).alloc (kQ B0 (p:=⟨gb,0,none⟩) (v:=.slice (some ⟨wr.heap.size,0,none⟩) (n+1) (n+1)) (by simp only;omega)).size _,fq _ ((heap_setCell_other _ _ _ _ (by simp only;omega)).trans pr),fq _ ((heap_setCell_other _ _ _ _ (by simp only;omega)).trans pt),fq _ (heap_setCell_same _ _ _ _ _ _ pg),UO (bF _ (Sl _ _ _).symm),hRl,by omega⟩,by decide⟩
  ·clear pr pt pg B0
   go_wp2
   go_loopw [41] (fun vk wr=>(vk = .int .i64 0∧FromS w n w.heap.size tb gb R q1 q2 q3 (fG n last lc 0) wr)∨(vk = .int .i64 1∧FromS w n w.heap.size tb gb R q1 q2 q3 (fG n last lc n) wr)) (fun vk _=>1 - (RowKit.intOf vk).toNat)
   case atStart=>exact .inl ⟨rfl,hS⟩
   case round =>
    clear hS;rcases hrel with ⟨rfl,hS⟩ | ⟨rfl,hS⟩
    ·go_wp2
     go_loopw [13] (fun vi wr=>∃c:Nat,c≤n∧vi = .int .i64 ((c:Int) - 1)∧FromS w n w.heap.size tb gb R q1 q2 q3 (fG n last lc (n - c)) wr) (fun vi _=>(RowKit.intOf vi+1).toNat)
     case atStart=>exact⟨n,ZN _,rfl,by rw [Nat.sub_self];exact hS⟩
     case round =>
      clear hS;obtain⟨c,hc,rfl,hS⟩:=hrel;by_cases hc0:c=0
      ·subst hc0
       have e0:((0:Nat):Int) - 1 = -1:=by omega
       rw [e0];rw [Nat.sub_zero] at hS
       go_wp2
       refine⟨.inr ⟨rfl,hS⟩,by decide⟩
      ·obtain⟨i,rfl⟩:∃i,c=i+1:=⟨c - 1,by omega⟩
       have ei:((i+1:Nat):Int) - 1=(i:Int):=by omega
       rw [ei];have hi0:(0:Int)≤(i:Int):=by omega
       obtain⟨b,o,rfl⟩:=hA (by omega);have zO:(wr.alloc (.cells #[.bool false,.int .i64 0,.slice none 0 0,.int .i64 0] 140)).heap[wr.heap.size]?=some (.cells #[.bool false,.int .i64 0,.slice none 0 0,.int .i64 0] 140 (0,0)):=bF _ rfl;have hS1:=hS.below ((aav _ wr).alloc (ZN _) (.cells #[.bool false,.int .i64 0,.slice none 0 0,.int .i64 0] 140));have hobl:=hS.bel.size;have hoR:=hS.row.lt;have hoT:=aG hS.res;have hoG:=aG hS.best;have HS:Hid _:=hS;clear hS
       go_upto_region 16 with fail
       generalize hob:wr.heap.size=ob at *;generalize wr.alloc (.cells #[.bool false,.int .i64 0,.slice none 0 0,.int .i64 0] 140)=W1 at *;have hS2:=hS1.below (bM W1);have zO2:=aJ (bM W1) zO (aG zO);obtain⟨d0,d1,d2⟩:=LH hS2.rul;have hl:=fun W hW=>hLast W b o i rfl (by omega) hW
       have hB2:=hS2.bel;have hRl:=aG hS2.rul;have hin:(i:Int)≤(n:Int):=by omega
       have hinc:(n:Int)≤(cA:Int):=by omega
       have hci:¬cA=i:=by omega
       have HS2:Hid _:=hS2;have HZ2:Hid _:=zO2;clear hS1 zO hS2 zO2
       go_region_held3 (fun X2=>X2.cell? ⟨w.heap.size,0,none⟩=some (.int .i64 q1)∧X2.cell? ⟨w.heap.size,1,none⟩=some (.int .i64 q2)∧X2.cell? ⟨w.heap.size,2,none⟩=some (.int .i64 q3)) (first | (refine⟨?_,?_,?_⟩<;>assumption) | go_keep)
        (first
         | (go_at_call 130;refine(hl _ hB2).mono ?_;rintro e w3 ⟨c1,rfl,b3⟩;obtain⟨k0,k1,k2⟩:=LH (aJ b3 HS2.out.rul hRl)))
       have hS3:=HS2.out.below b3;have zO3:=aJ b3 HZ2.out (aG HZ2.out);clear k0 k1 k2 d0 d1 d2 b3 hl hB2 hci hinc hin hRl;clear HS2 HZ2;have hobR:ob≠R:=by omega
       have hobT:ob≠tb:=by omega
       have hobG:ob≠gb:=by omega
       have hobU:ob≠w.heap.size:=by have:=aG HS.out.rul;omega
       obtain⟨z0,z1,z2,z3⟩:=nY zO3;have z4:=ZG zO3 0;have z5:=ZG zO3 1;have z6:=ZG zO3 2;have z7:=ZG zO3 3
       go_upto_region 17 with fail
       go_cut [16,56,62,64,69] from 180 (fun a1 a2 a3 a4 d wc=>d = .bool (last i)∧wc=w3)
       case first =>
        cases hla:last i
        ·go_wp2
         go_meet
         case rel=>exact⟨by rw [hla],rfl⟩
        ·go_wp2
         go_meet
         case rel=>exact⟨by rw [hla],rfl⟩
       case' rest =>
        obtain⟨rfl,rfl⟩:=hcut
        go_upto_if 69 with fail
        go_cut [69] from 180 (fun d wd=>(∃y,OutS wd w.heap.size ob y (GR (last i)))∧FromS w n w.heap.size tb gb R q1 q2 q3 (fG n last lc (n - (i+1))) wd)
       case first =>
        cases hla:last i
        ·have HO3:Hid _:=zO3
         have HS3:Hid _:=hS3;clear hS3 zO3
         go_wp2
         go_meet
         case rel =>
          rw [hla];exact⟨⟨.slice none 0 0,HO3.out,.inl ⟨rfl,rfl⟩⟩,HS3.out⟩
        ·have hF:FromS w n w.heap.size tb gb R q1 q2 q3 (fG n last lc (n - (i+1))) ((((wc.setCell ⟨ob,0,none⟩ (.bool true)).setCell ⟨ob,1,none⟩ (.int .i64 0)).setCell ⟨ob,2,none⟩ (.slice none 0 0)).setCell ⟨ob,3,none⟩ (.int .i64 1)):=(((hS3.set hobl hobU hobT hobG hobR zO3).set hobl hobU hobT hobG hobR (dj zO3)).set hobl hobU hobT hobG hobR (dj (dj zO3))).set hobl hobU hobT hobG hobR (dj (dj (dj zO3)))
         have hO:OutS ((((wc.setCell ⟨ob,0,none⟩ (.bool true)).setCell ⟨ob,1,none⟩ (.int .i64 0)).setCell ⟨ob,2,none⟩ (.slice none 0 0)).setCell ⟨ob,3,none⟩ (.int .i64 1)) w.heap.size ob (.slice none 0 0) (GR true):=⟨dj (dj (dj (dj zO3))),.inl ⟨rfl,rfl⟩⟩
         have HO3:Hid _:=And.intro hO hF;clear hF hO;clear hS3 zO3
         go_wp2
         go_meet
         case rel =>
          rw [hla];exact⟨⟨_,HO3.out.1⟩,HO3.out.2⟩
       case rest =>
        obtain⟨⟨y3,hO3⟩,hS3x⟩:=hcut;have HO3:Hid _:=hO3;have HS3:Hid _:=hS3x;clear hO3 hS3x
        go_upto_region 20 with fail
        have hnn:(n:Int) - 1=(n:Int) - 1:=rfl
        go_loopw [17] (fun vj wr=>∃(c2:Nat) (y:Value) (q:Way),i+1≤c2∧c2≤n∧vj = .int .i64 ((c2:Int) - 1)∧FromS w n w.heap.size tb gb R q1 q2 q3 (fG n last lc (n - (i+1))) wr∧OutS wr w.heap.size ob y q∧q=inW n (last i) (lc i) (fG n last lc (n - (i+1))) (n - c2)) (fun vj _=>(RowKit.intOf vj+1).toNat)
        case atStart=>exact⟨n,y3,_,by omega,ZN _,rfl,HS3.out,HO3.out,by rw [Nat.sub_self];rfl⟩
        case round =>
         clear hnn;obtain⟨c2,y,q,hj0,hj1,rfl,hS,hO,hq⟩:=hrel;by_cases hje:c2=i+1
         ·subst hje
          have ei2:((i+1:Nat):Int) - 1=(i:Int):=by omega
          rw [ei2];obtain⟨yA,yc,rfl⟩:=hO.brk.sl;have HS:Hid _:=hS;have HO:Hid _:=hO;have HQ:Hid _:=hq;clear hS hO hq;have g0:=Lt HS.out.best;obtain⟨o0,o1,o2,o3⟩:=nY HO.out.cells;have hin1:(i:Int)<(n:Int)+1:=by omega
          have hi00:(0:Int)≤(i:Int):=by omega
          go_upto_region 33 with fail
          go_still_tail 7,(by kernel_rfl)
          change wpList _ _ _ _ _ wr.drew
          have hS1:=HS.out.below (bM wr);have hO1:=HO.out.below (bM wr);generalize wr.drew=W8 at *;obtain⟨yr,r0,r1,r2,r3,_⟩:=hS1.row.cell (i:=i) (by omega);have r4:=hS1.row.fz (i*4);have r5:=hS1.row.fz (i*4+1);have r6:=hS1.row.fz (i*4+2);have r7:=hS1.row.fz (i*4+3);have HS1:Hid _:=hS1;have HO1:Hid _:=hO1;clear hS1 hO1
          go_wp2
          refine⟨⟨i,by omega,rfl,?_⟩,?_⟩
          ·rw [TN (by omega),←HQ.out]
           exact HS1.out.put i ⟨rfl,rfl,HO1.out.brk,rfl⟩
          ·show(((i:Int) - 1)+1).toNat<((i:Int)+1).toNat
           omega
         ·obtain⟨j,rfl⟩:∃j,c2=j+1:=⟨c2 - 1,by omega⟩
          have ej:((j+1:Nat):Int) - 1=(j:Int):=by omega
          rw [ej];have hij:(i:Int)<(j:Int):=by omega
          obtain⟨y2,r0,r1,r2,r3,hrb⟩:=hS.row.cell (i:=j) (by omega);obtain⟨rest,hrest⟩:∃rest,rest=fG n last lc (n - (i+1)) j:=⟨_,rfl⟩
          rw [←hrest] at r0 r1 r3 hrb;obtain⟨bA,bc,rfl⟩:=hrb.sl;have g0:=Lt hS.best;have g0':=kv (o:=.cells #[.bool rest.1,.int .i64 rest.2.1,.slice bA rest.2.2.1.length bc,.int .i64 rest.2.2.2] 140 (0,0)) g0;have r0':=kv (o:=.cells #[.bool rest.1,.int .i64 rest.2.1,.slice bA rest.2.2.1.length bc,.int .i64 rest.2.2.2] 140 (0,0)) r0;have r1':=kv (o:=.cells #[.bool rest.1,.int .i64 rest.2.1,.slice bA rest.2.2.1.length bc,.int .i64 rest.2.2.2] 140 (0,0)) r1;have r2':=kv (o:=.cells #[.bool rest.1,.int .i64 rest.2.1,.slice bA rest.2.2.1.length bc,.int .i64 rest.2.2.2] 140 (0,0)) r2;have r3':=kv (o:=.cells #[.bool rest.1,.int .i64 rest.2.1,.slice bA rest.2.2.1.length bc,.int .i64 rest.2.2.2] 140 (0,0)) r3;have hm:=fun W=>QL W (-1) 0
          simp only [show ¬(0:Int) < -1 by decide,if_false] at hm;have hj00:(0:Int)≤(j:Int):=by omega
          have hjn:(j:Int)<(n:Int)+1:=by omega
          have HS:Hid _:=hS;have HO:Hid _:=hO;have HR:Hid _:=hrest;have HQ:Hid _:=hq;clear hS hO hrest hq
          go_upto_region 25 with (go_at_call 84;refine(hm _).mono ?_;rintro e w4 ⟨rfl,rfl⟩)
          have zI:(w4.alloc (.cells #[.bool rest.1,.int .i64 rest.2.1,.slice bA rest.2.2.1.length bc,.int .i64 rest.2.2.2] 140)).heap[w4.heap.size]?=some (.cells #[.bool rest.1,.int .i64 rest.2.1,.slice bA rest.2.2.1.length bc,.int .i64 rest.2.2.2] 140 (0,0)):=bF _ rfl;have bI:Below w4.heap.size w4 (w4.alloc (.cells #[.bool rest.1,.int .i64 rest.2.1,.slice bA rest.2.2.1.length bc,.int .i64 rest.2.2.2] 140)):=(aav _ w4).alloc (ZN _) _;have hS5:=(HS.out.below bI).below (bM _);have hO5:=(HO.out.below bI).below (bM _);have zI5:=aJ (bM _) zI (aG zI);have hrb5:=(hrb.kept (KI.of bI)).kept (KI.of (bM _));have hIl:=HS.out.bel.size;have hIo:=aG HO.out.cells;have hIR:=HS.out.row.lt;have hIT:=aG HS.out.res;have hIG:=aG HS.out.best;have hRl:=aG HS.out.rul;clear g0 g0' r0 r1 r2 r3 r0' r1' r2' r3' hm zI bI hrb;generalize w4.alloc (.cells #[.bool rest.1,.int .i64 rest.2.1,.slice bA rest.2.2.1.length bc,.int .i64 rest.2.2.2] 140)=W5 at *;generalize hib:w4.heap.size=ib at *;obtain⟨d0,d1,d2⟩:=LH hS5.rul;have hB5:=hS5.bel;have hl:=fun W hW=>hLine W b o i j rfl (by omega) (by omega) hW
          have hci:¬cA=i:=by omega
          have hjc:(j:Int)≤(cA:Int):=by omega
          have hij2:(i:Int)≤(j:Int):=by omega
          have HS5:Hid _:=hS5;have HO5:Hid _:=hO5;have HI5:Hid _:=zI5;have HB5:Hid _:=hrb5;have hRl5:=aG hS5.rul;clear hS5 hO5 zI5 hrb5
          go_region_held3 (fun X2=>X2.cell? ⟨w.heap.size,0,none⟩=some (.int .i64 q1)∧X2.cell? ⟨w.heap.size,1,none⟩=some (.int .i64 q2)∧X2.cell? ⟨w.heap.size,2,none⟩=some (.int .i64 q3)) (first | (refine⟨?_,?_,?_⟩<;>assumption) | go_keep)
           (first
            | (go_at_call 130;refine(hl _ hB5).mono ?_;rintro e w6 ⟨rfl,b6⟩;obtain⟨k0,k1,k2⟩:=LH (aJ b6 HS5.out.rul hRl5)))
          have hS6:=HS5.out.below b6;have hO6:=HO5.out.below b6;have zI6:=aJ b6 HI5.out (aG HI5.out);have hrb6:=lR.kept HB5.out (KI.of b6);clear k0 k1 k2 d0 d1 d2 b6 hl hB5 HS5 HO5 HI5 HB5 hci hjc;obtain⟨z0,z1,z2,z3⟩:=nY zI6;have HS6:Hid _:=hS6;have HO6:Hid _:=hO6;have HI6:Hid _:=zI6;have HB6:Hid _:=hrb6;clear hS6 hO6 zI6 hrb6;have hqn:inW n (last i) (lc i) (fG n last lc (n - (i+1))) (n - j)=rD (lc i j) rest j q:=by rw [Sg (by omega),←HR.out,←HQ.out]
          have HN:Hid _:=hqn;clear hqn;have hms:(((j:Int) - 1)+1).toNat<((j:Int)+1).toNat:=by omega
          cases hlo:(lc i j).2
          ·go_upto_region 21 with fail
           go_wp2
           refine⟨⟨j,y,q,by omega,by omega,rfl,HS6.out,HO6.out,?_⟩,hms⟩
           rw [HN.out,Of (.inl hlo)]
          ·cases hro:rest.1
           ·rw [hro] at z0
            go_upto_region 21 with fail
            go_wp2
            refine⟨⟨j,y,q,by omega,by omega,rfl,HS6.out,HO6.out,?_⟩,hms⟩
            rw [HN.out,Of (.inr hro)]
           ·rw [hro] at z0
            have hrn:=rj (n:=n) (last:=last) (lc:=lc) (n - (i+1)) (by omega) j;rw [←HR.out] at hrn;have hql:q.2.2.1.length≤1048576:=by
             rw [HQ.out];have:=MD (n:=n) (i:=i) (last:=last i) (lc:=lc i) (v:=fG n last lc (n - (i+1))) (fun x _ _=>rj _ (by omega) x) (n - (j+1)) (by omega);omega
            have hjl:((j:Int)::rest.2.2.1).length≤1048576:=by rw [aac];omega
            have HL:Hid _:=And.intro hjl hql;clear hql hjl;have hmx:1+rest.2.2.1.length≤maxLen:=by unfold maxLen;omega
            have hmb:(1+rest.2.2.1.length)*8≤140737488355328:=by omega
            have bJ:Below w6.heap.size w6 (w6.alloc (.cells #[.int .i64 (j:Int)] 3)):=(aav _ w6).alloc (ZN _) _;have zA2:=kv (o:=.cells #[.int .i64 (j:Int)] 3) z2;obtain⟨_,hrA⟩:=lR.src (lR.kept HB6.out (KI.of bJ));have hrJ:(w6.alloc (.cells #[.int .i64 (j:Int)] 3)).ownsRow w6.heap.size 3 1 (.slice (some ⟨w6.heap.size,0,none⟩) 1 1) 1 [.int .i64 (j:Int)]:=⟨rfl,.inr ⟨_,1,#[.int .i64 (j:Int)],rfl,ZN _,bF _ rfl,ZN _,by unfold maxLen;omega,rfl,rfl⟩⟩
            go_upto_region 28 with (at_builtin;refine yY _ rfl _ _ 34 rfl w6.heap.size 3 i0 (.int .i64 0) 1 8 Tryz.underlying34 hi hz0 hz1 hz2 rfl (by decide) (.slice (some ⟨w6.heap.size,0,none⟩) 1 1) 1 [.int .i64 (j:Int)] rfl hrJ bA rest.2.2.1.length bc (rest.2.2.1.map (ZZ .i64)) rfl (by rw [ZH,Nat.mul_one]) hrA (by intro u hu;obtain⟨x,_,rfl⟩:=aaj.1 hu;rfl) hmx hmb (aay w6 _ none).size ?_;intro v7 w7 hown7 hgrow7 _)
            have b7:Below w6.heap.size w6 w7:=bJ.grown hgrow7 (aay w6 _ none).size (fun k hk=>by have:w6.heap.size=k:=aaK hk;omega);have hx7:lR w7 w.heap.size v7 ((j:Int)::rest.2.2.1):=.inr (tz.of (b:=w6.heap.size) (by rw [aac,Nat.add_comm];exact hown7) HS6.out.bel.size (fun e=>by
             obtain⟨_,⟨_,h0⟩ | ⟨g,cap,cur,e2,_⟩⟩:=hown7
             ·omega
             ·rw [e] at e2;cases e2))
            have hS7:=HS6.out.below b7;have hO7:=HO6.out.below b7;have zI7:=aJ b7 HI6.out (aG HI6.out);clear z0 z1 z2 z3 hrn hmx hmb bJ zA2 hrA hrJ hown7 hgrow7 b7;obtain⟨z0,z1,z2,z3⟩:=nY zI7;rw [hro] at z0;obtain⟨x0,x1,x2,x3⟩:=nY hO7.cells;have x4:=ZG hO7.cells 0;have x5:=ZG hO7.cells 1;have x6:=ZG hO7.cells 2;have x7:=ZG hO7.cells 3;have hoi:ob≠ib:=by omega
            have hio:ib≠ob:=fun e=>hoi e.symm
            have hB7:=hS7.bel;have HS7:Hid _:=hS7;have HO7:Hid _:=hO7;have HI7:Hid _:=zI7;have HX7:Hid _:=hx7;obtain⟨vA,vc,rfl⟩:=hx7.sl;clear hS7 hO7 zI7 hx7;cases hqo:q.1
            ·rw [hqo] at x0
             have HBt:Hid _:=(show Ef (lc i j).1 rest j q from .inl hqo)
             go_wp2
             refine⟨⟨j,_,_,by omega,by omega,rfl,HS7.out.better hobl hobU hobT hobG hobR HO7.out.cells _ _ _ _,yI HO7.out HX7.out _ _,?_⟩,hms⟩
             rw [HN.out,rZ hlo hro HBt.out]
            ·rw [hqo] at x0
             by_cases hlt:wrap64 ((lc i j).1+rest.2.1)<q.2.1
             ·have HBt:Hid _:=(show Ef (lc i j).1 rest j q from .inr (.inl hlt))
              go_wp2
              refine⟨⟨j,_,_,by omega,by omega,rfl,HS7.out.better hobl hobU hobT hobG hobR HO7.out.cells _ _ _ _,yI HO7.out HX7.out _ _,?_⟩,hms⟩
              rw [HN.out,rZ hlo hro HBt.out]
             ·by_cases heq:wrap64 ((lc i j).1+rest.2.1)=q.2.1
              ·have h8:=hLess w7 _ _ _ _ HL.out.1 HL.out.2 hB7 HX7.out HO7.out.brk
               cases hlx:sd ((j:Int)::rest.2.2.1) q.2.2.1
               ·have HBt:Hid _:=(show ¬Ef (lc i j).1 rest j q from fun h=>by
                 rcases h with h | h | ⟨_,h⟩
                 ·rw [hqo] at h;cases h
                 ·exact hlt h
                 ·rw [hlx] at h;cases h)
                have HE:Hid _:=heq
                go_wp2_with (go_at_call 131;refine h8.mono ?_;rintro e w8 ⟨rfl,b8⟩;rw [hlx];have hS8:=HS7.out.below b8;have hO8:=HO7.out.below b8;have hX8:=lR.kept HX7.out (KI.of b8);have zI8:=aJ b8 HI7.out (aG HI7.out);obtain⟨g0,g1,g2,g3⟩:=nY zI8;obtain⟨d0,d1,d2,d3⟩:=nY hO8.cells;have d4:=ZG hO8.cells 0;have d5:=ZG hO8.cells 1;have d6:=ZG hO8.cells 2;have d7:=ZG hO8.cells 3;have HS8:Hid _:=hS8;have HO8:Hid _:=hO8;have HX8:Hid _:=hX8;clear hS8 hO8 hX8 zI8 b8 x0 x1 x2 x3 x4 x5 x6 x7 z0 z1 z2 z3)
                refine⟨⟨j,_,_,by omega,by omega,rfl,HS8.out.worse hobl hobU hobT hobG hobR HO8.out.cells _ _,Kv HO8.out _,?_⟩,hms⟩
                rw [HN.out,DJ hlo hro HBt.out]
               ·have HBt:Hid _:=(show Ef (lc i j).1 rest j q from .inr (.inr ⟨heq,hlx⟩))
                have HE:Hid _:=heq
                go_wp2_with (go_at_call 131;refine h8.mono ?_;rintro e w8 ⟨rfl,b8⟩;rw [hlx];have hS8:=HS7.out.below b8;have hO8:=HO7.out.below b8;have hX8:=lR.kept HX7.out (KI.of b8);have zI8:=aJ b8 HI7.out (aG HI7.out);obtain⟨g0,g1,g2,g3⟩:=nY zI8;obtain⟨d0,d1,d2,d3⟩:=nY hO8.cells;have d4:=ZG hO8.cells 0;have d5:=ZG hO8.cells 1;have d6:=ZG hO8.cells 2;have d7:=ZG hO8.cells 3;have HS8:Hid _:=hS8;have HO8:Hid _:=hO8;have HX8:Hid _:=hX8;clear hS8 hO8 hX8 zI8 b8 x0 x1 x2 x3 x4 x5 x6 x7 z0 z1 z2 z3)
                refine⟨⟨j,_,_,by omega,by omega,rfl,HS8.out.better hobl hobU hobT hobG hobR HO8.out.cells _ _ _ _,yI HO8.out HX8.out _ _,?_⟩,hms⟩
                rw [HN.out,rZ hlo hro HBt.out];exact congrArg (fun c=>((true,c,(j:Int)::rest.2.2.1,EY (q.2.2.2+rest.2.2.2)):Way)) HE.out.symm
              ·have heq2:(wrap64 ((lc i j).1+rest.2.1)==q.2.1)=false:=by simpa using heq
               have HBt:Hid _:=(show ¬Ef (lc i j).1 rest j q from fun h=>by
                rcases h with h | h | ⟨h,_⟩
                ·rw [hqo] at h;cases h
                ·exact hlt h
                ·exact heq h)
               clear heq
               go_wp2
               refine⟨⟨j,_,_,by omega,by omega,rfl,HS7.out.worse hobl hobU hobT hobG hobR HO7.out.cells _ _,Kv HO7.out _,?_⟩,hms⟩
               rw [HN.out,DJ hlo hro HBt.out]
    ·obtain⟨y,r0,r1,r2,r3,hb⟩:=hS.row.cell (i:=0) (by omega)
     have g0:=Lt hS.best;obtain⟨t0,t1,t2,t3⟩:=nY hS.res;have t4:=ZG hS.res 0;have t5:=ZG hS.res 1;have t6:=ZG hS.res 2;have t7:=ZG hS.res 3;have hn1:(0:Int)<(n:Int)+1:=by omega
     obtain⟨yA,yc,rfl⟩:=hb.sl;have HS:Hid _:=hS;clear hS;have hge:w.heap.size≤tb:=by have:=HB.out.1;omega
     have HRs:Hid _:=HS.out.res;have HBr:Hid _:=hb;clear hb
     go_wp2
     have h4:((((wr.setCell ⟨tb,0,none⟩ (.bool (fG n last lc n 0).1)).setCell ⟨tb,1,none⟩ (.int .i64 (fG n last lc n 0).2.1)).setCell ⟨tb,2,none⟩ (.slice yA (fG n last lc n 0).2.2.1.length yc)).setCell ⟨tb,3,none⟩ (.int .i64 (fG n last lc n 0).2.2.2)).heap[tb]?=some (.cells #[.bool (fG n last lc n 0).1,.int .i64 (fG n last lc n 0).2.1,.slice yA (fG n last lc n 0).2.2.1.length yc,.int .i64 (fG n last lc n 0).2.2.2] 140 (0,0)):=dj (dj (dj (dj HRs.out)))
     (try simp only [Exit.inBlock,Exit.then])
     refine bodyPost_ret (results_cell_row rfl _ _ tb 140 _ _ _ rfl h4 Tryz.underlying140 rfl (by kernel_rfl)) rfl ?_
     exact⟨kQ (kQ (kQ (kQ HS.out.bel hge) hge) hge) hge,_,rfl,lR.kept (lR.kept (lR.kept (lR.kept HBr.out (KI.set (p:=⟨tb,0,none⟩) HRs.out (by decide))) (KI.set (p:=⟨tb,1,none⟩) (dj HRs.out) (by decide))) (KI.set (p:=⟨tb,2,none⟩) (dj (dj HRs.out)) (by decide))) (KI.set (p:=⟨tb,3,none⟩) (dj (dj (dj HRs.out))) (by decide))⟩
end Go.Proofs.YtccaheogjpfhjaaGreat

namespace Go.Proofs.YtccaheogjpfhjaaGreat
open Go Go.V
set_option maxRecDepth 100000
set_option maxRecDepth 100000
def aM (s:ByteArray):List UInt8:=s.data.toList
theorem nV {s:ByteArray} {k:IntKind} {i:Nat}:Ay (T s) (.v (.int k (i:Int)))=((aM s)[i]?).map fun b=>U b.toNat:=by simp [Ay,aM]
theorem ig (s:ByteArray):s.size=(aM s).length:=rfl
theorem qW {a b:ByteArray} (h:aM a=aM b):a=b:=by
 cases a with | mk a=>cases b with | mk b =>
  cases a with | mk a=>cases b with | mk b =>
   simp [aM] at h;rw [h]
theorem jF (s:ByteArray) (i j:Nat):aM (s.extract i j)=((aM s).take j).drop i:=by
 simp [aM,List.drop_take]
theorem Mm (a b:ByteArray):aM (a++b)=aM a++aM b:=by simp [aM]
theorem Te {s:ByteArray} {z i j:Nat} (h1:i≤j) (h2:j≤s.size):eT true z (T s) (I (i:Int)) (I (j:Int))=some (T (s.extract i j)):=by
 simp only [eT,aaE];rw [if_pos (by omega)]
theorem UQ {s:ByteArray} {z i:Nat} (h:i≤s.size):fw true z (T s) (I (i:Int))=some (T (s.extract i s.size)):=by
 simp only [fw,aaE];rw [if_pos (by omega)]
set_option maxRecDepth 100000
theorem BV (l:List Int):dq (ints l)=some (ints l):=fj fun _=>rfl
open Go Go.Proofs Go.V Go.RowKit Go.Lib
set_option maxRecDepth 100000
theorem Ki {n e:Nat} {last:Nat→Bool} {lc:Nat→Nat→Int × Bool} (x:Nat):fG n last lc (e+1) x=if x=n - 1 - e then inW n (last (n - 1 - e)) (lc (n - 1 - e)) (fG n last lc e) e else fG n last lc e x:=rfl
theorem yZ {n e:Nat} {last:Nat→Bool} {lc:Nat→Nat→Int × Bool} {x:Nat} (hx:n - e≤x) (hxn:x<n):∀k,e+k≤n→fG n last lc (e+k) x=fG n last lc e x
 | 0,_=>rfl
 | k+1,h=>by
  rw [←Nat.add_assoc,Ki,if_neg (by omega)];exact yZ hx hxn k (by omega)
theorem Kx {n:Nat} {last:Bool} {lc:Nat→Int × Bool} {v v':Nat→Way}:∀d,d≤n→(∀j,n - d≤j→j<n→v j=v' j)→inW n last lc v d=inW n last lc v' d
 | 0,_,_=>rfl
 | d+1,hd,h=>by
  unfold inW;rw [h (n - 1 - d) (by omega) (by omega),Kx d (by omega) fun j h1 h2=>h j (by omega) h2]
theorem Wb {n:Nat} {last:Nat→Bool} {lc:Nat→Nat→Int × Bool} {i:Nat} (hi:i<n):fG n last lc n i=inW n (last i) (lc i) (fG n last lc n) (n - 1 - i):=by
 have h:=yZ (n:=n) (e:=n - 1 - i+1) (last:=last) (lc:=lc) (x:=i) (by omega) hi i (by omega);rw [show n - 1 - i+1+i=n by omega] at h;rw [h,Ki,if_pos (by omega),show n - 1 - (n - 1 - i)=i by omega];refine Kx _ (by omega) fun j h1 h2=>?_
 have h3:=yZ (n:=n) (e:=n - 1 - i) (last:=last) (lc:=lc) (x:=j) h1 h2 (i+1) (by omega);rw [show n - 1 - i+(i+1)=n by omega] at h3;exact h3.symm
structure BrB (n i lo:Nat) (last:Bool) (lc:Nat→Int × Bool) (V:Nat→Way) (out:Way):Prop where
 no:out.1=false→last=false∧∀j,lo≤j→j<n→(lc j).2=true→(V j).1=true→False
 rg:out.1=true→0≤out.2.1∧out.2.1≤100000*((n:Int) - i)
 mn:out.1=true→∀j,lo≤j→j<n→(lc j).2=true→(V j).1=true→out.2.1≤(lc j).1+(V j).2.1
 at_:out.1=true→(last=true∧out.2.1=0∧out.2.2.1=[])∨(last=false∧∃j,lo≤j∧j<n∧(lc j).2=true∧(V j).1=true∧out.2.1=(lc j).1+(V j).2.1∧out.2.2.1=(j:Int)::(V j).2.2.1∧∀k,lo≤k→k<j→(lc k).2=true→(V k).1=true→out.2.1<(lc k).1+(V k).2.1)
theorem BrB.start {n i:Nat} (hi:i<n) (last:Bool) (lc:Nat→Int × Bool) (V:Nat→Way):BrB n i n last lc V (GR last):=by
 cases last
 ·exact⟨fun _=>⟨rfl,fun j h1 h2=>absurd h2 (by omega)⟩,fun h=>(by cases h),fun h=>(by cases h),fun h=>(by cases h)⟩
 ·exact⟨fun h=>(by cases h),fun _=>⟨aar 0,show(0:Int)≤_ by omega⟩,fun _ j h1 h2=>absurd h2 (by omega),fun _=>.inl ⟨rfl,rfl,rfl⟩⟩
theorem BrB.step {n i j:Nat} {last:Bool} {lc:Nat→Int × Bool} {V:Nat→Way} {out:Way} (h:BrB n i (j+1) last lc V out) (hij:i<j) (hj:j<n) (hn:n≤1000000)
  (hc:0≤(lc j).1∧(lc j).1≤100000) (hv:(V j).1=true→0≤(V j).2.1∧(V j).2.1≤100000*((n:Int) - j)):BrB n i j last lc V (rD (lc j) (V j) j out):=by
 unfold rD;by_cases hb:(lc j).2=true∧(V j).1=true
 ·rw [if_pos hb]
  obtain⟨v1,v2⟩:=hv hb.2;have hw:EY ((lc j).1+(V j).2.1)=(lc j).1+(V j).2.1:=by unfold EY wrap64;omega
  by_cases hbet:Ef (lc j).1 (V j) j out
  ·rw [if_pos hbet,hw]
   refine⟨fun h0=>(by cases h0),fun _=>⟨?_,?_⟩,fun _ k h1 h2 h3 h4=>?_,fun _=>?_⟩
   ·show 0≤(lc j).1+(V j).2.1
    omega
   ·show(lc j).1+(V j).2.1≤_
    omega
   ·show(lc j).1+(V j).2.1≤(lc k).1+(V k).2.1
    by_cases hk:k=j
    ·subst hk;omega
    ·cases ho:out.1
     ·exact absurd h4 fun h4=>(h.no ho).2 k (by omega) h2 h3 h4
     ·have:=h.mn ho k (by omega) h2 h3 h4
      unfold Ef at hbet;rw [hw,ho] at hbet;rcases hbet with hbet | hbet | hbet
      ·cases hbet
      ·omega
      ·omega
   ·have hl:last=false:=by
     cases hl:last
     ·rfl
     ·exfalso
      cases ho:out.1
      ·have:=(h.no ho).1
       rw [hl] at this;cases this
      ·rcases h.at_ ho with h0 | h0
       ·unfold Ef at hbet
        rw [hw,ho,h0.2.1,h0.2.2] at hbet;rcases hbet with hbet | hbet | hbet
        ·cases hbet
        ·omega
        ·simp [sd] at hbet
       ·rw [hl] at h0
        cases h0.1
    refine .inr ⟨hl,j,ZN _,hj,hb.1,hb.2,rfl,rfl,fun k h1 h2=>absurd h2 (by omega)⟩
  ·rw [if_neg hbet]
   unfold Ef at hbet;rw [hw] at hbet;have ho:out.1=true:=by
    cases ho:out.1
    ·exact absurd (.inl ho) hbet
    ·rfl
   have hle:out.2.1≤(lc j).1+(V j).2.1:=aaf.1 fun h0=>hbet (.inr (.inl h0))
   refine⟨fun h0=>(by cases h0),fun _=>h.rg ho,fun _ k h1 h2 h3 h4=>?_,fun _=>?_⟩
   ·by_cases hk:k=j
    ·subst hk;exact hle
    ·exact h.mn ho k (by omega) h2 h3 h4
   ·rcases h.at_ ho with h0 | ⟨hl,k,k1,k2,k3,k4,k5,k6,k7⟩
    ·exact .inl h0
    ·refine .inr ⟨hl,k,by omega,k2,k3,k4,k5,k6,fun m m1 m2 m3 m4=>?_⟩
     by_cases hm:m=j
     ·subst hm
      show out.2.1<(lc m).1+(V m).2.1
      have hne:(lc m).1+(V m).2.1≠out.2.1:=fun he=>hbet (.inr (.inr ⟨he,by
       rw [k6];unfold sd;rw [if_neg (by omega)];exact decide_eq_true (by omega)⟩))
      omega
     ·exact k7 m (by omega) m2 m3 m4
 ·rw [if_neg hb]
  have hno:(lc j).2=true→(V j).1=true→False:=fun h1 h2=>hb ⟨h1,h2⟩
  refine⟨fun h0=>⟨(h.no h0).1,fun k h1 h2 h3 h4=>?_⟩,h.rg,fun h0 k h1 h2 h3 h4=>?_,fun h0=>?_⟩
  ·by_cases hk:k=j
   ·subst hk;exact hno h3 h4
   ·exact(h.no h0).2 k (by omega) h2 h3 h4
  ·by_cases hk:k=j
   ·subst hk;exact(hno h3 h4).elim
   ·exact h.mn h0 k (by omega) h2 h3 h4
  ·rcases h.at_ h0 with h0 | ⟨hl,k,k1,k2,k3,k4,k5,k6,k7⟩
   ·exact .inl h0
   ·refine .inr ⟨hl,k,by omega,k2,k3,k4,k5,k6,fun m m1 m2 m3 m4=>?_⟩
    by_cases hm:m=j
    ·subst hm;exact(hno m3 m4).elim
    ·exact k7 m (by omega) m2 m3 m4
theorem NZ {n i:Nat} (hi:i<n) (hn:n≤1000000) (last:Bool) {lc:Nat→Int × Bool} {V:Nat→Way} (hc:∀j,j<n→0≤(lc j).1∧(lc j).1≤100000) (hv:∀j,i<j→j<n→(V j).1=true→0≤(V j).2.1∧(V j).2.1≤100000*((n:Int) - j)) :
  ∀d,d≤n - 1 - i→BrB n i (n - d) last lc V (inW n last lc V d)
 | 0,_=>BrB.start hi last lc V
 | d+1,h=>by
  have h1:=NZ hi hn last hc hv d (by omega);rw [show n - d=n - 1 - d+1 by omega] at h1;rw [show n - (d+1)=n - 1 - d by omega];exact h1.step (by omega) (by omega) hn (hc _ (by omega)) (hv _ (by omega) (by omega))
theorem Rn {n:Nat} (hn:n≤1000000) {last:Nat→Bool} {lc:Nat→Nat→Int × Bool} (hc:∀i j,i<n→j<n→0≤(lc i j).1∧(lc i j).1≤100000):∀k i,k=n - i→i<n→BrB n i (i+1) (last i) (lc i) (fG n last lc n) (fG n last lc n i):=by
 intro k;induction k using Nat.strongRecOn with
 | _ k ih =>
  intro i hk hi;have h:=NZ (V:=fG n last lc n) hi hn (last i) (fun j hj=>hc i j hi hj) (fun j h1 h2 h3=>(ih (n - j) (by omega) j rfl h2).rg h3) (n - 1 - i) (ZN _);rw [←Wb hi,show n - (n - 1 - i)=i+1 by omega] at h;exact h
end Go.Proofs.YtccaheogjpfhjaaGreat

namespace Go.Proofs.YtccaheogjpfhjaaGreat
open Go Go.V
set_option maxRecDepth 100000
abbrev aL (q1 q2 q3:Int):D:=.agg [I q1,I q2,I q3]
structure RulP (q1 q2 q3 m:Int):Prop where
 l1:1≤q1
 l2:q1≤q2
 l3:q2≤q3
 l4:q3≤54
 m1:1≤m
 m2:m≤2000
structure WdsP (ws:List Int):Prop where
 len:ws.length≤24
 all:∀x∈ws,1≤x∧x≤600
theorem WdsP.sub {ws vs:List Int} (h:WdsP ws) (hs:vs.Sublist ws):WdsP vs:=⟨aaA hs.length_le h.len,fun x hx=>h.all x (hs.subset hx)⟩
def mX (l:List Int):Int:=l.foldl (·+·) 0
theorem FQ (l:List Int):∀(i:Nat) (a:Int),iD (fun _ a x=>a+x) i l a=l.foldl (·+·) a:=by
 induction l with
 | nil=>intro i a;rfl
 | cons x l ih=>intro i a;simp only [iD,aak,ih]
theorem EU (l:List Int) (hl:l.length≤1048576) (hx:∀x∈l,0≤x∧x≤100000) (i:Nat) (a:Int) (hi:i<l.length) (ha:0≤a∧a≤100000*(i:Int)):ZE.wrap (a+l[i])=a+l[i]∧(0≤a+l[i]∧a+l[i]≤100000*((i+1:Nat):Int)):=by
 have:=hx l[i] (ZP hi);exact⟨ae (by omega) (by omega),by omega,by omega⟩
theorem sk (l:List Int) (hl:l.length≤1048576) (hx:∀x∈l,0≤x∧x≤100000):jf [ints l]=some (.ret [I (mX l)] []):=by
 rw [Ll];simp only [aS,ZH,ZF];refine ax _ (co l (fun i a=>[I a,ints l,I l.length,I i]) (fun i a=>0≤a∧a≤100000*(i:Int)) (fun _ a x=>a+x) (fun a=>.ext 0 [I a]) 0 (fun i a hi ha=>?_) (fun a _=>?_) (fun _=>rfl) (by simp) rfl) ?_
 ·have hw:ZE.wrap ((i:Int)+1)=(i:Int)+1:=ae (by omega) (by omega)
  obtain⟨h1,h2⟩:=EU l hl hx i a hi ha;exact⟨by simp -implicitDefEqProofs [hi,hw,h1],h2⟩
 ·simp
 ·simp [FQ,mX]
theorem GX (l:List Int) (hl:l.length≤1048576) (hx:∀x∈l,0≤x∧x≤100000):oD [ints l]=some (.ret [I (mX l)] []):=by
 rw [Pf];simp only [aS,ZH,ZF];refine ax _ (co l (fun i a=>[I a,ints l,I l.length,I i]) (fun i a=>0≤a∧a≤100000*(i:Int)) (fun _ a x=>a+x) (fun a=>.ext 0 [I a]) 0 (fun i a hi ha=>?_) (fun a _=>?_) (fun _=>rfl) (by simp) rfl) ?_
 ·have hw:ZE.wrap ((i:Int)+1)=(i:Int)+1:=ae (by omega) (by omega)
  obtain⟨h1,h2⟩:=EU l hl hx i a hi ha;exact⟨by simp -implicitDefEqProofs [hi,hw,h1],h2⟩
 ·simp
 ·simp [FQ,mX]
theorem Wj (l:List Int) (hx:∀x∈l,0≤x∧x≤600):0≤mX l∧mX l≤600*(l.length:Int):=by
 have key:∀(l:List Int) (a:Int),(∀x∈l,0≤x∧x≤600)→a≤l.foldl (·+·) a∧l.foldl (·+·) a≤a+600*(l.length:Int):=by
  intro l;induction l with
  | nil=>intro a _;simp
  | cons x l ih =>
   intro a h;have h1:=ih (a+x) fun y hy=>h y (by simp [hy])
   have h2:=h x (by simp);simp only [aak,aac];omega
 have:=key l 0 hx;unfold mX;omega
theorem WdsP.sum {ws:List Int} (h:WdsP ws):0≤mX ws∧mX ws≤14400:=by
 have:=Wj ws fun x hx=>by have:=h.all x hx;omega
 have:=h.len;omega
abbrev ja (ws:List Int):Int:=(ws.length:Int) - 1
abbrev gA (ws:List Int) (m:Int):Int:=m - mX ws
def tZ (ws:List Int) (q1 q3 m:Int):Bool:=decide (ja ws*q1≤gA ws m∧gA ws m≤ja ws*q3)
def ug (ws:List Int) (m:Int) (i:Nat):Int:=if (i:Int)<(gA ws m).tmod (ja ws) then(gA ws m).tdiv (ja ws)+1 else(gA ws m).tdiv (ja ws)
def vZ (ws:List Int) (m:Int):List Int:=(ZS (ws.length - 1)).map (ug ws m)
def Ip (q:Int) (l:List Int):Int:=l.foldl (fun a n=>a+(n - q)*(n - q)) 0
theorem Rb {a b:Int} (h0:0≤a) (h1:a≤24) (h2:0≤b) (h3:b≤54):0≤a*b∧a*b≤1296:=⟨aal h0 h2,by
 have:=aat h1 h3 h2 (by omega);omega⟩
theorem Ql {ws:List Int} {q1 q2 q3 m:Int} (hr:RulP q1 q2 q3 m) (hf:tZ ws q1 q3 m=true) (h0:ws≠[]):∀x∈vZ ws m,q1≤x∧x≤q3:=by
 intro x hx;obtain⟨i,hi,rfl⟩:=aaj.1 hx;have hi:=aau.1 hi;unfold tZ at hf;simp only [decide_eq_true_eq] at hf;obtain⟨f1,f2⟩:=hf;have hgp:0<ja ws:=by unfold ja;omega
 unfold ug;generalize ja ws=g at *;generalize gA ws m=r at *;have l1:=hr.l1;have hrp:0≤r:=Int.le_trans (aal (show 0≤g by omega) (show 0≤q1 by omega)) f1;rw [Int.tdiv_eq_ediv_of_nonneg hrp,Int.tmod_eq_emod_of_nonneg hrp];have hq1:q1≤r / g:=by
  rw [Int.le_ediv_iff_mul_le hgp,Int.mul_comm];exact f1
 have hq3:r / g≤q3:=by
  have:r / g<q3+1:=by
   rw [Int.ediv_lt_iff_lt_mul hgp,Int.add_mul,Int.mul_comm q3 g];omega
  omega
 split
 ·rename_i hlt
  refine⟨by omega,?_⟩
  have e:=Int.mul_ediv_add_emod r g;have h4:r / g<q3:=by
   by_cases hh:r / g=q3
   ·rw [hh] at e
    omega
   ·omega
  omega
 ·exact⟨hq1,hq3⟩
theorem OO (ws:List Int) (m:Int):(vZ ws m).length=ws.length - 1:=by simp [vZ]
theorem OW {n q:Int} (h0 : -54≤n - q) (h1:n - q≤54):0≤(n - q)*(n - q)∧(n - q)*(n - q)≤2916:=by
 generalize n - q=d at *;rcases Int.le_total 0 d with h | h
 ·exact⟨aal h h,by have:=aat h1 h1 h (by omega);omega⟩
 ·have e:d*d=(-d)*(-d):=by rw [Int.neg_mul_neg]
  rw [e];exact⟨aal (by omega) (by omega),by have:=aat (show -d≤54 by omega) (show -d≤54 by omega) (by omega) (by omega);omega⟩
theorem Vw {q:Int} {l:List Int} (h:∀x∈l,-54≤x - q∧x - q≤54):0≤Ip q l∧Ip q l≤2916*(l.length:Int):=by
 have key:∀(l:List Int) (a:Int),(∀x∈l,-54≤x - q∧x - q≤54)→a≤l.foldl (fun a n=>a+(n - q)*(n - q)) a∧l.foldl (fun a n=>a+(n - q)*(n - q)) a≤a+2916*(l.length:Int):=by
  intro l;induction l with
  | nil=>intro a _;simp
  | cons x l ih =>
   intro a h;have h1:=ih (a+(x - q)*(x - q)) fun y hy=>h y (by simp [hy])
   have h2:=h x (by simp);have h3:=OW h2.1 h2.2;simp only [aak,aac];omega
 have:=key l 0 h;unfold Ip;omega
theorem KQ (q:Int) (l:List Int):∀(i:Nat) (a:Int),iD (fun _ a n=>a+(n - q)*(n - q)) i l a=l.foldl (fun a n=>a+(n - q)*(n - q)) a:=by
 induction l with
 | nil=>intro i a;rfl
 | cons x l ih=>intro i a;simp only [iD,aak,ih]
theorem NV {q:Int} {l:List Int} (hl:l.length≤1000) (hx:∀x∈l,-54≤x - q∧x - q≤54) (i:Nat) (a:Int) (hi:i<l.length) (ha:0≤a∧a≤2916*(i:Int)) :
  ZE.wrap (l[i] - q)=l[i] - q∧ZE.wrap ((l[i] - q)*(l[i] - q))=(l[i] - q)*(l[i] - q)∧ZE.wrap (a+(l[i] - q)*(l[i] - q))=a+(l[i] - q)*(l[i] - q)∧0≤a+(l[i] - q)*(l[i] - q)∧a+(l[i] - q)*(l[i] - q)≤2916*((i+1:Nat):Int):=by
 have h1:=hx l[i] (ZP hi);have h2:=OW h1.1 h1.2;exact⟨ae (by omega) (by omega),ae (by omega) (by omega),ae (by omega) (by omega),by omega,by omega⟩
theorem ye (l:List Int) (q1 q2 q3:Int) (hl:l.length≤1000) (hx:∀x∈l,-54≤x - q2∧x - q2≤54):mF [ints l,aL q1 q2 q3]=some (.ret [I (Ip q2 l)] []):=by
 rw [IF];have hb:bE 3 (aL q1 q2 q3)=some (aL q1 q2 q3):=by simp [bE]
 simp only [hb,aS,ZH,ZF];refine ax _ (co l (fun i a=>[aL q1 q2 q3,I a,ints l,I l.length,I i]) (fun i a=>0≤a∧a≤2916*(i:Int)) (fun _ a n=>a+(n - q2)*(n - q2)) (fun a=>.ext 0 [I a]) 0 (fun i a hi ha=>?_) (fun a _=>?_) (fun _=>rfl) (by simp) rfl) ?_
 ·have hw:ZE.wrap ((i:Int)+1)=(i:Int)+1:=ae (by omega) (by omega)
  obtain⟨h1,h2,h3,h4⟩:=NV hl hx i a hi ha;exact⟨by simp -implicitDefEqProofs [hi,hw,h1,h2,h3],h4⟩
 ·simp
 ·simp [KQ,Ip]
set_option maxRecDepth 100000
section
variable {ws:List Int} {q1 q2 q3 m:Int}
theorem VR (hw:WdsP ws) (hr:RulP q1 q2 q3 m) : -14400≤gA ws m∧gA ws m≤2000:=by
 have:=hw.sum;have:=hr.m1;have:=hr.m2;unfold gA;omega
theorem BI (hw:WdsP ws) (hr:RulP q1 q2 q3 m):ZE.wrap (m - mX ws)=m - mX ws:=by
 have:=VR hw hr;unfold gA at this;exact ae (by omega) (by omega)
theorem va (hw:WdsP ws):ZE.wrap ((ws.length:Int) - 1)=(ws.length:Int) - 1:=by
 have:=hw.len;exact ae (by omega) (by omega)
theorem vv (hw:WdsP ws) (h0:ws≠[]) {q:Int} (h1:0≤q) (h2:q≤54):ZE.wrap (((ws.length:Int) - 1)*q)=((ws.length:Int) - 1)*q∧0≤((ws.length:Int) - 1)*q∧((ws.length:Int) - 1)*q≤1296:=by
 have h3:=hw.len;have h4:0<ws.length:=ZQ.2 h0;obtain⟨h5,h6⟩:=Rb (a:=(ws.length:Int) - 1) (b:=q) (by omega) (by omega) h1 h2;exact⟨ae (by omega) (by omega),h5,h6⟩
theorem WdsP.big (hw:WdsP ws):ws.length≤1048576∧∀x∈ws,0≤x∧x≤100000:=⟨by have:=hw.len;omega,fun x hx=>by have:=hw.all x hx;omega⟩
theorem SY (hw:WdsP ws) (hr:RulP q1 q2 q3 m) (hf:tZ ws q1 q3 m=true) (h0:ws≠[]) {i:Nat} (hi:i<ws.length - 1) : -1≤(gA ws m).tdiv (ja ws)∧(gA ws m).tdiv (ja ws)≤54:=by
 have h1:=Ql hr hf h0 (ug ws m i) (aaj.2 ⟨i,aau.2 hi,rfl⟩);have:=hr.l1;have:=hr.l4;unfold ug at h1;split at h1<;>omega
theorem Tv (i:Nat):(ZS (i+1)).map (ug ws m)=(ZS i).map (ug ws m)++[ug ws m i]:=by rw [List.range_succ,aaL];rfl
theorem MV (hw:WdsP ws) (hr:RulP q1 q2 q3 m) (hf:tZ ws q1 q3 m=true) (h0:ws≠[]) {i:Nat} (hi:i<ws.length - 1) {K:D→D→Option Out} :
    ((bin BinOp.quo false [] (I (gA ws m)) (I (ja ws))).bind fun z=>(bin BinOp.rem false [] (I (gA ws m)) (I (ja ws))).bind fun z_9=>(bin BinOp.lss false [] (I (i:Int)) z_9).bind fun z_10=>ifD z_10 ((bin aaP false [] z (D.v (ZZ ZE 1))).bind fun z =>
     (ay 1 [z]).bind fun a=>(dq a).bind fun b=>(bY 1 8 (ints ((ZS i).map (ug ws m))) b).bind fun y=>(bin aaP false [] (I (i:Int)) (D.v (ZZ ZE 1))).bind fun z=>K y z)
     ((ay 1 [z]).bind fun a=>(dq a).bind fun b=>(bY 1 8 (ints ((ZS i).map (ug ws m))) b).bind fun y=>(bin aaP false [] (I (i:Int)) (D.v (ZZ ZE 1))).bind fun z=>K y z))=K (ints ((ZS (i+1)).map (ug ws m))) (I ((i+1:Nat):Int)):=by
  have h1:=SY hw hr hf h0 hi;have hl:=hw.len;have hg:¬ja ws=0:=by unfold ja;omega
  have hw1:ZE.wrap ((gA ws m).tdiv (ja ws))=(gA ws m).tdiv (ja ws):=ae (by omega) (by omega);have hw2:ZE.wrap ((gA ws m).tdiv (ja ws)+1)=(gA ws m).tdiv (ja ws)+1:=ae (by omega) (by omega);have hwi:ZE.wrap ((i:Int)+1)=((i+1:Nat):Int):=by
    rw [ae (by omega) (by omega)];rfl
  have ha:∀x:Int,bY 1 8 (ints ((ZS i).map (ug ws m))) (ints [x])=some (ints ((ZS i).map (ug ws m)++[x])):=fun x=>AK (by simp;omega)
  rw [Tv];unfold ug;rw [EO,if_neg hg,Qc,if_neg hg,hw1];simp only [ZF,bp];by_cases hlt:(i:Int)<(gA ws m).tmod (ja ws)
  · rw [decide_eq_true hlt,if_pos hlt]
    have ha':=ha ((gA ws m).tdiv (ja ws)+1);unfold ug at ha';simp only [bt,if_true,bZ,ZF,hw2,EA,BV,ha',hwi]
  · rw [decide_eq_false hlt,if_neg hlt]
    have ha':=ha ((gA ws m).tdiv (ja ws));unfold ug at ha';simp only [bt,ZI,if_false,bZ,ZF,EA,BV,ha',hwi]
theorem Ec (hw:WdsP ws) (hr:RulP q1 q2 q3 m) (hf:tZ ws q1 q3 m=true) (h0:ws≠[]):jI [ints ws,I m]=some (.ret [ints (vZ ws m)] []):=by
 have hl:=hw.len;have h4:0<ws.length:=ZQ.2 h0;rw [Et,sk ws hw.big.1 hw.big.2];simp -implicitDefEqProofs only [bd,aE,kZ,ZF,aS,ZH,BI hw hr,va hw];refine ax _ (dn (ws.length - 1) (fun i=>[I (gA ws m),I (ja ws),ints ((ZS i).map (ug ws m)),I (i:Int)]) (.ext 0 [ints (vZ ws m)]) (fun i hi=>?_) ?_ rfl rfl) ?_
 ·have hlt:(i:Int)<ja ws:=by unfold ja;omega
  simp -implicitDefEqProofs only [aE,aX,bp,ZF,decide_eq_true hlt,bt,if_true];exact MV hw hr hf h0 hi (K:=fun y z=>some (Out.nrm [I (gA ws m),I (ja ws),y,z]))
 ·have hge:¬((ws.length - 1:Nat):Int)<ja ws:=by unfold ja;omega
  simp -implicitDefEqProofs only [aE,aX,bp,ZF,decide_eq_false hge,bt,ZI,if_false];rfl
 ·simp
theorem FJ (hw:WdsP ws) (hr:RulP q1 q2 q3 m) (h0:ws≠[]):lh [ints ws,aL q1 q2 q3,I m]=some (.ret [ints (if tZ ws q1 q3 m=true then vZ ws m else []),B (tZ ws q1 q3 m)] []):=by
 have hl:=hw.len;have h4:0<ws.length:=ZQ.2 h0;have l1:=hr.l1;have l2:=hr.l2;have l3:=hr.l3;have l4:=hr.l4;rw [Gt,GX ws hw.big.1 hw.big.2];have hb:bE 3 (aL q1 q2 q3)=some (aL q1 q2 q3):=by simp [bE]
 have g1:=(vv hw h0 (q:=q1) (by omega) (by omega)).1;have g3:=(vv hw h0 (q:=q3) (by omega) (by omega)).1;have a0:(aa (aL q1 q2 q3) (D.ref 0 0))=some (D.ref 0 0):=rfl;have a2:(aa (aL q1 q2 q3) (D.ref 0 2))=some (D.ref 0 2):=rfl;have b0:(atD (aL q1 q2 q3) (D.ref 0 0)).bind (au false 1)=some (I q1):=by simp
 have b2:(atD (aL q1 q2 q3) (D.ref 0 2)).bind (au false 1)=some (I q3):=by simp
 have hin:=cg (m - mX ws) (((ws.length:Int) - 1)*q1) (((ws.length:Int) - 1)*q3);simp -implicitDefEqProofs only [hb,bd,aE,kZ,mf,ZF,aS,ZH,BI hw hr,va hw,a0,a2,b0,b2,g1,g3,hin,dw,lH,bt];have hfe:decide (((ws.length:Int) - 1)*q1≤m - mX ws∧m - mX ws≤((ws.length:Int) - 1)*q3)=tZ ws q1 q3 m:=rfl;rw [hfe];cases hf:tZ ws q1 q3 m
 ·simp
 ·simp -implicitDefEqProofs only [Bool.not_true,ZI,if_false,if_true]
  refine ax _ (dn (ws.length - 1) (fun i=>[I (ja ws),I (gA ws m),ints ((ZS i).map (ug ws m)),I (i:Int)]) (.ext 0 [ints (vZ ws m)]) (fun i hi=>?_) ?_ rfl rfl) ?_
  ·have hlt:(i:Int)<ja ws:=by unfold ja;omega
   simp -implicitDefEqProofs only [aE,aX,bp,ZF,decide_eq_true hlt,bt,if_true];exact MV hw hr hf h0 hi (K:=fun y z=>some (Out.nrm [I (ja ws),I (gA ws m),y,z]))
  ·have hge:¬((ws.length - 1:Nat):Int)<ja ws:=by unfold ja;omega
   simp -implicitDefEqProofs only [aE,aX,bp,ZF,decide_eq_false hge,bt,ZI,if_false];rfl
  ·simp
theorem Hf (hw:WdsP ws) (hr:RulP q1 q2 q3 m) (hf:tZ ws q1 q3 m=true) (h0:ws≠[]):∀x∈vZ ws m,-54≤x - q2∧x - q2≤54:=fun x hx=>by
 have:=Ql hr hf h0 x hx;have:=hr.l1;have:=hr.l2;have:=hr.l3;have:=hr.l4;omega
theorem KS (hw:WdsP ws):(vZ ws m).length≤1000:=by
 have:=hw.len;rw [OO];omega
def lnC (q1 q2 q3 m:Int) (ws:List Int):Int × Bool:=if ws.length≤20∧tZ ws q1 q3 m=true then(Ip q2 (vZ ws m),true) else(0,false)
def lnE (q2 m:Int) (ws:List Int):Bool:=decide (ws.length≤20)&&decide (mX ws+((ws.length:Int) - 1)*q2≤m)
theorem Xx (hw:WdsP ws) (hr:RulP q1 q2 q3 m) (h0:ws≠[]):0≤(lnC q1 q2 q3 m ws).1∧(lnC q1 q2 q3 m ws).1≤100000:=by
 unfold lnC;split
 ·rename_i h
  have:=Vw (Hf hw hr h.2 h0);have h2:=OO ws m;have:=h.1;simp only;omega
 ·exact⟨aar 0,by decide⟩
theorem jR (hw:WdsP ws) (hr:RulP q1 q2 q3 m) (h0:ws≠[]):ct [ints ws,aL q1 q2 q3,I m]=some (.ret [I (lnC q1 q2 q3 m ws).1,B (lnC q1 q2 q3 m ws).2] []):=by
 rw [Eh];have hb:bE 3 (aL q1 q2 q3)=some (aL q1 q2 q3):=by simp [bE]
 have hf3:ba true 3 0 (aL q1 q2 q3)=some (aL q1 q2 q3):=by simp [ba,D.cells,D.ofCells,au]
 unfold lnC;by_cases hl:ws.length≤20
 ·have hl':¬(20:Int)<(ws.length:Int):=by omega
  have ej:=FJ (q1:=q1) (q2:=q2) (q3:=q3) (m:=m) hw hr h0;cases hf:tZ ws q1 q3 m
  ·rw [hf] at ej
   have ec:=ye [] q1 q2 q3 (by simp) (by simp);simp -implicitDefEqProofs [hb,hf3,hl',ej,ec,Ip]
  ·rw [hf] at ej
   have ec:=ye (vZ ws m) q1 q2 q3 (KS hw) (Hf hw hr hf h0);simp -implicitDefEqProofs [hb,hf3,hl',hl,ej,ec]
 ·have hl':(20:Int)<(ws.length:Int):=by omega
  simp -implicitDefEqProofs [hb,hl',hl]
theorem qt (hw:WdsP ws) (hr:RulP q1 q2 q3 m) (h0:ws≠[]):dG [ints ws,aL q1 q2 q3,I m]=some (.ret [B (lnE q2 m ws)] []):=by
 rw [Jz];have l1:=hr.l1;have l2:=hr.l2;have l3:=hr.l3;have l4:=hr.l4;have hb:bE 3 (aL q1 q2 q3)=some (aL q1 q2 q3):=by simp [bE]
 obtain⟨g2,g4,g5⟩:=vv hw h0 (q:=q2) (by omega) (by omega);have hs:=hw.sum;have hw1:ZE.wrap (mX ws+((ws.length:Int) - 1)*q2)=mX ws+((ws.length:Int) - 1)*q2:=ae (by omega) (by omega);have es:=GX ws hw.big.1 hw.big.2;have hg:=va hw;unfold lnE;by_cases hl:ws.length≤20
 ·have hl':(ws.length:Int)≤20:=by omega
  by_cases h5:mX ws+((ws.length:Int) - 1)*q2≤m
  ·simp -implicitDefEqProofs [hb,hl',hl,es,hg,g2,hw1,h5]
  ·simp -implicitDefEqProofs [hb,hl',hl,es,hg,g2,hw1,h5]
 ·have hl':¬(ws.length:Int)≤20:=by omega
  simp -implicitDefEqProofs [hb,hl',hl]
def Rv (q1 q3 m:Int) (ws:List Int):Int:=if tZ ws q1 q3 m=true then 0 else if (ws.length:Int) - 1=0 then 3 else if m - mX ws<((ws.length:Int) - 1)*q1 then 1 else 2
theorem Mk (hw:WdsP ws) (hr:RulP q1 q2 q3 m) (h0:ws≠[]):nL [ints ws,aL q1 q2 q3,I m]=some (.ret [I (Rv q1 q3 m ws)] []):=by
 have hl:=hw.len;have l1:=hr.l1;have l2:=hr.l2;have l3:=hr.l3;have l4:=hr.l4;rw [Lz,sk ws hw.big.1 hw.big.2];have hb:bE 3 (aL q1 q2 q3)=some (aL q1 q2 q3):=by simp [bE]
 have g1:=(vv hw h0 (q:=q1) (by omega) (by omega)).1;have g3:=(vv hw h0 (q:=q3) (by omega) (by omega)).1;have hwl:=BI hw hr;have hwg:=va hw;unfold Rv tZ ja gA;obtain⟨g,hg⟩:∃g,g=(ws.length:Int) - 1:=⟨_,rfl⟩
 have hwg:ZE.wrap ((ws.length:Int) - 1)=g:=hwg.trans hg.symm;rw [←hg] at g1 g3 ⊢;clear hg;by_cases c1:g*q1≤m - mX ws
 ·have n1:¬m - mX ws<g*q1:=by omega
  by_cases c2:m - mX ws≤g*q3
  ·simp -implicitDefEqProofs [hb,hwl,hwg,g1,g3,c1,c2]
  ·by_cases c3:g=0
   ·simp -implicitDefEqProofs [hb,hwl,hwg,g1,g3,c1,c2,if_pos c3]
   ·simp -implicitDefEqProofs [hb,hwl,hwg,g1,g3,c1,c2,c3,n1]
 ·have n1:m - mX ws<g*q1:=by omega
  by_cases c3:g=0
  ·simp -implicitDefEqProofs [hb,hwl,hwg,g1,g3,c1,if_pos c3]
  ·simp -implicitDefEqProofs [hb,hwl,hwg,g1,g3,c1,c3,n1]
theorem OA:Rv q1 q3 m ws=0↔tZ ws q1 q3 m=true:=by
 unfold Rv;split
 ·simp [*]
 ·split
  ·simp [*]
  ·split<;>simp [*]
theorem Jn (hw:WdsP ws) (hr:RulP q1 q2 q3 m) (hf:tZ ws q1 q3 m=true) (h0:ws≠[]):mg [ints ws,aL q1 q2 q3,I m]=some (.ret [I (Ip q2 (vZ ws m))] []):=by
 rw [Ie,Ec hw hr hf h0];have hb:bE 3 (aL q1 q2 q3)=some (aL q1 q2 q3):=by simp [bE]
 simp only [hb,bd,aE,aS,ZH,ZF];refine ax _ (co (vZ ws m) (fun i a=>[aL q1 q2 q3,I a,ints (vZ ws m),I (vZ ws m).length,I i]) (fun i a=>0≤a∧a≤2916*(i:Int)) (fun _ a n=>a+(n - q2)*(n - q2)) (fun a=>.ext 0 [I a]) 0 (fun i a hi ha=>?_) (fun a _=>?_) (fun _=>rfl) (by simp) rfl) ?_
 ·have hs:=KS (m:=m) hw
  have hwi:ZE.wrap ((i:Int)+1)=(i:Int)+1:=ae (by omega) (by omega);obtain⟨h1,h2,h3,h4⟩:=NV hs (Hf hw hr hf h0) i a hi ha;exact⟨by simp -implicitDefEqProofs [hi,hwi,h1,h2,h3],h4⟩
 ·simp
 ·simp [KQ,Ip]
theorem Fj (hw:WdsP ws) (hr:RulP q1 q2 q3 m) (h0:ws≠[]):lY [ints ws,aL q1 q2 q3,I m,B true]=some (.ret [I 0,B (lnE q2 m ws)] []):=by
 rw [ww];have l1:=hr.l1;have l2:=hr.l2;have l3:=hr.l3;have l4:=hr.l4;have hb:bE 3 (aL q1 q2 q3)=some (aL q1 q2 q3):=by simp [bE]
 obtain⟨g2,g4,g5⟩:=vv hw h0 (q:=q2) (by omega) (by omega);have hs:=hw.sum;have hw1:ZE.wrap (mX ws+((ws.length:Int) - 1)*q2)=mX ws+((ws.length:Int) - 1)*q2:=ae (by omega) (by omega);have es:=sk ws hw.big.1 hw.big.2;have hg:=va hw;unfold lnE;by_cases hl:ws.length≤20
 ·have hl':¬(20:Int)<(ws.length:Int):=by omega
  simp -implicitDefEqProofs [hb,hl',hl,es,hg,g2,hw1]
 ·have hl':(20:Int)<(ws.length:Int):=by omega
  simp -implicitDefEqProofs [hb,hl',hl]
theorem Gy (hw:WdsP ws) (hr:RulP q1 q2 q3 m) (h0:ws≠[]):lY [ints ws,aL q1 q2 q3,I m,B false]=some (.ret [I (lnC q1 q2 q3 m ws).1,B (lnC q1 q2 q3 m ws).2] []):=by
 rw [ww];have hb:bE 3 (aL q1 q2 q3)=some (aL q1 q2 q3):=by simp [bE]
 have hf3:ba true 3 0 (aL q1 q2 q3)=some (aL q1 q2 q3):=by simp [ba,D.cells,D.ofCells,au]
 have ew:=Mk hw hr h0;unfold lnC;by_cases hl:ws.length≤20
 ·have hl':¬(20:Int)<(ws.length:Int):=by omega
  cases hf:tZ ws q1 q3 m
  ·have hn:¬Rv q1 q3 m ws=0:=fun h=>by
    rw [OA.1 h] at hf;cases hf
   simp -implicitDefEqProofs [hb,hf3,hl',ew,hn]
  ·have hn:Rv q1 q3 m ws=0:=OA.2 hf
   have ec:=Jn hw hr hf h0;rw [hn] at ew;simp -implicitDefEqProofs [hb,hf3,hl',hl,ew,ec]
 ·have hl':(20:Int)<(ws.length:Int):=by omega
  simp -implicitDefEqProofs [hb,hl',hl]
end
end Go.Proofs.YtccaheogjpfhjaaGreat

namespace Go.Proofs.YtccaheogjpfhjaaGreat
open Go Go.V
set_option maxRecDepth 100000
theorem zJ (n:Nat) (x0 x1 x2 x3:D):dI (n+1) [x0,x1,x2,x3]=((bE 3 x1).bind fun y=>(lenD false x0).bind fun z=>(Nj 1 8 (I 0) z z).bind fun h=>(aa h (.ref 0 0)).bind fun z=>((aa z h).bind (lenD false)).bind fun z=>(aQ (fun s=>(bin .lss false [] (sl s 6) (sl s 5)).bind fun z=>ifD z ((aa (sl s 4) (.ref 0 0)).bind fun z=>((aa z (sl s 4)).bind fun b=>dE 1 b (sl s 6)).bind fun z=>(stD 1 (sl s 4) z (I (-1))).bind fun b=>(bin .eql false [] (sl s 2) (I 1)).bind fun z=>(af (.tup []) z false (some (sl s 2))).bind fun j=>(af (.tup []) z false (bin .lss false [] j (I 0))).bind fun f=>(aU z (B true) f).bind fun z=>(af (.tup []) z true (some (sl s 0))).bind fun k=>(af (.tup []) z true (some (sl s 6))).bind fun l=>(af (.tup []) z true (fw false 1 k l)).bind fun d=>(af (.tup []) z true (ba true 3 0 (sl s 3))).bind fun m=>(af (.tup []) z true (some (sl s 1))).bind fun p=>bX z true (callK (dG [d,m,p]) fun g _=>some (.nrm [sl g 0])) [.tup []] fun q=>(aU z (sl q 0) (B false)).bind fun z=>ifD z ((aa b (.ref 0 0)).bind fun z=>((aa z b).bind fun b=>dE 1 b (sl s 6)).bind fun z=>(stD 1 b z (I 0)).bind fun b=>(bin .add false [] (sl s 6) (I 1)).bind fun z=>some (.nrm [sl s 0,sl s 1,sl s 2,sl s 3,b,sl s 5,z])) ((bin .add false [] (sl s 6) (I 1)).bind fun z=>some (.nrm [sl s 0,sl s 1,sl s 2,sl s 3,b,sl s 5,z]))) (some (.ext 0 [sl s 0,sl s 1,sl s 2,sl s 3,sl s 4]))) [x0,x2,x3,y,h,z,I 0]).bind fun o=>outK o (fun i s=>ifN (i.beq 0) ((bin .eql false [] (sl s 2) (I 1)).bind fun z=>ifD z (some (.ret [sl s 4] [])) ((aa (sl s 4) (.ref 0 0)).bind fun z=>(aa z (.ref 0 0)).bind fun z=>(bin .gtr false [] (sl s 2) (I 1)).bind fun j=>ifD j ((ba true 3 0 (sl s 3)).bind fun z=>(bin .sub false [] (sl s 2) (I 1)).bind fun f=>callK (dI n [sl s 0,z,sl s 1,f]) fun _ _u_1=>none) ((lenD false (sl s 0)).bind fun f=>(bin .sub false [] f (I 1)).bind fun k=>(aQ (fun s=>(bin .geq false [] (sl s 5) (I 0)).bind fun z=>ifD z ((bin .add false [] (sl s 5) (I 1)).bind fun z=>(aQ (fun s=>(lenD false (sl s 0)).bind fun z=>(bin .lss false [] (sl s 6) z).bind fun z=>ifD z ((eT false 1 (sl s 0) (sl s 5) (sl s 6)).bind fun z=>(ba true 3 0 (sl s 2)).bind fun l=>callK (ct [z,l,sl s 1]) fun g _=>(aF (.tup g) 0).bind fun z=>(aF (.tup g) 1).bind fun d=>(af D.bad d true (aa (sl s 4) (.ref 0 0))).bind fun m=>(af (.tup []) d true (some (sl s 6))).bind fun p=>(af D.bad d true ((aa m (sl s 3)).bind fun b=>dE 1 b p)).bind fun r=>(af (.tup []) d true ((atD (sl s 3) r).bind (au false 1))).bind fun t=>(af (.tup []) d true (bin .geq false [] t (I 0))).bind fun u=>(aU d u (B false)).bind fun e=>(af D.bad e true (aa (sl s 3) (.ref 0 0))).bind fun v=>(af (.tup []) e true (some (sl s 5))).bind fun w=>(af D.bad e true ((aa v (sl s 3)).bind fun b=>dE 1 b w)).bind fun za=>(af (.tup []) e true ((atD (sl s 3) za).bind (au false 1))).bind fun zb=>(af (.tup []) e true (bin .lss false [] zb (I 0))).bind fun zc=>(af (.tup []) e true (some zc)).bind fun c=>(af (.tup []) c false (some z)).bind fun zd=>(af D.bad c false (aa (sl s 4) (.ref 0 0))).bind fun ze=>(af (.tup []) c false (some (sl s 6))).bind fun zf=>(af D.bad c false ((aa ze (sl s 3)).bind fun b=>dE 1 b zf)).bind fun zg=>(af (.tup []) c false ((atD (sl s 3) zg).bind (au false 1))).bind fun zh=>(af (.tup []) c false (bin .add false [] zd zh)).bind fun zi=>(af D.bad c false (aa (sl s 3) (.ref 0 0))).bind fun zj=>(af (.tup []) c false (some (sl s 5))).bind fun zk=>(af D.bad c false ((aa zj (sl s 3)).bind fun b=>dE 1 b zk)).bind fun zl=>(af (.tup []) c false ((atD (sl s 3) zl).bind (au false 1))).bind fun zm=>(af (.tup []) c false (bin .lss false [] zi zm)).bind fun zn=>(af (.tup []) e true (aU c (B true) zn)).bind fun zo=>(aU e zo (B false)).bind fun zp=>ifD zp ((aa (sl s 3) (.ref 0 0)).bind fun zq=>(aa (sl s 4) (.ref 0 0)).bind fun zr=>((aa zr (sl s 3)).bind fun b=>dE 1 b (sl s 6)).bind fun zs=>((atD (sl s 3) zs).bind (au false 1)).bind fun zt=>(bin .add false [] z zt).bind fun z=>((aa zq (sl s 3)).bind fun b=>dE 1 b (sl s 5)).bind fun zu=>(stD 1 (sl s 3) zu z).bind fun b=>(bin .add false [] (sl s 6) (I 1)).bind fun z=>some (.nrm [sl s 0,sl s 1,sl s 2,b,sl s 4,sl s 5,z])) ((bin .add false [] (sl s 6) (I 1)).bind fun z=>some (.nrm [sl s 0,sl s 1,sl s 2,sl s 3,sl s 4,sl s 5,z]))) (some (.ext 4 [sl s 0,sl s 1,sl s 2,sl s 3,sl s 4,sl s 5]))) [sl s 0,sl s 1,sl s 2,sl s 3,sl s 4,sl s 5,z]).bind fun o=>outK o (fun i s=>ifN (i.beq 4) ((bin .sub false [] (sl s 5) (I 1)).bind fun z=>some (.nrm [sl s 0,sl s 1,sl s 2,sl s 3,sl s 4,z])) (ifN (i.beq 3) ((bin .sub false [] (sl s 5) (I 1)).bind fun z=>some (.nrm [sl s 0,sl s 1,sl s 2,sl s 3,sl s 4,z])) (some (.ext i [sl s 3])))) fun a b=>some (.ret a b)) (some (.ext 2 [sl s 3]))) [sl s 0,sl s 1,sl s 3,sl s 4,z,k]).bind fun o=>outK o (fun i s=>ifN (i.beq 2) (some (.ret [sl s 0] [])) none) fun a b=>some (.ret a b)))) none) fun a b=>some (.ret a b)):=by kernel_rfl
theorem Bj (x0 x1 x2 x3:D):iB [x0,x1,x2,x3]=((bE 3 x1).bind fun y=>(ba true 3 0 y).bind fun z=>callK (iv [x0,z,x2,x3]) fun c _=>(ay 1 []).bind fun a=>(aag D.ptr (aI 1 (sl c 0) (I 0))).bind fun z=>((ldD false 1 z).bind bq).bind fun z=>(bin .lss false [] z (I 0)).bind fun v=>ifD v (some (.ret [a,I 0,B false] [])) ((aQ (fun s=>(bin .gtr false [] (sl s 2) (I 1)).bind fun z=>(af (.tup []) z false (some (sl s 2))).bind fun w=>(af (.tup []) z false (bin .lss false [] w (I 0))).bind fun za=>(af (.tup []) z false (some za)).bind fun j=>(af (.tup []) j true (some (sl s 8))).bind fun zb=>(af (.tup []) j true (bin .gtr false [] zb (I 0))).bind fun zc=>(af (.tup []) j true (some zc)).bind fun f=>(af (.tup []) f false (some (sl s 0))).bind fun zd=>(af (.tup []) f false (some (sl s 7))).bind fun ze=>(af (.tup []) f false (fw false 1 zd ze)).bind fun zf=>(af (.tup []) f false (ba true 3 0 (sl s 3))).bind fun zg=>(af (.tup []) f false (some (sl s 1))).bind fun zh=>bX f false (callK (dG [zf,zg,zh]) fun c _=>some (.nrm [sl c 0])) [.tup []] fun zi=>(af (.tup []) f false (un .not (sl zi 0))).bind fun zj=>(af (.tup []) j true (aU f (B true) zj)).bind fun zk=>(af (.tup []) z false (aU j zk (B false))).bind fun zl=>(aU z (B true) zl).bind fun z=>ifD z ((bin .gtr false [] (sl s 2) (I 1)).bind fun z=>ifD z ((bin .sub false [] (sl s 2) (I 1)).bind fun z=>(ba true 3 0 (sl s 3)).bind fun k=>callK (iv [sl s 0,k,sl s 1,z]) fun c _=>(bin .add false [] (sl s 7) (I 1)).bind fun g=>(aQ (fun s=>(lenD false (sl s 0)).bind fun z=>(bin .lss false [] (sl s 9) z).bind fun z=>ifD z ((eT false 1 (sl s 0) (sl s 6) (sl s 9)).bind fun z=>(ba true 3 0 (sl s 3)).bind fun l=>callK (ct [z,l,sl s 1]) fun c _=>(aF (.tup c) 0).bind fun z=>(aF (.tup c) 1).bind fun h=>(af (.tup []) h true (some (sl s 8))).bind fun m=>(af (.tup []) h true (some (sl s 9))).bind fun n=>(af (.tup []) h true (aag D.ptr (aI 1 m n))).bind fun p=>(af (.tup []) h true ((ldD false 1 p).bind bq)).bind fun d=>(af (.tup []) h true (bin .geq false [] d (I 0))).bind fun q=>(aU h q (B false)).bind fun e=>(af (.tup []) e true (some z)).bind fun z=>(af (.tup []) e true (some (sl s 8))).bind fun r=>(af (.tup []) e true (some (sl s 9))).bind fun t=>(af (.tup []) e true (aag D.ptr (aI 1 r t))).bind fun u=>(af (.tup []) e true ((ldD false 1 u).bind bq)).bind fun zm=>(af (.tup []) e true (bin .add false [] z zm)).bind fun z=>(af (.tup []) e true (some (sl s 7))).bind fun zn=>(af (.tup []) e true (bin .eql false [] z zn)).bind fun z=>(aU e z (B false)).bind fun z=>ifD z ((ay 1 [sl s 9]).bind fun a=>(dq a).bind fun b=>(bY 1 8 (sl s 4) b).bind fun y=>(aag D.ptr (aI 1 (sl s 8) (sl s 9))).bind fun z=>((ldD false 1 z).bind bq).bind fun z=>some (.ext 2 [sl s 0,sl s 1,sl s 2,sl s 3,D.bad,y,sl s 5,sl s 9,z,sl s 8])) ((bin .add false [] (sl s 9) (I 1)).bind fun z=>some (.nrm [sl s 0,sl s 1,sl s 2,sl s 3,sl s 4,sl s 5,sl s 6,sl s 7,sl s 8,z]))) (some (.ext 2 [sl s 0,sl s 1,sl s 2,sl s 3,D.bad,sl s 4,sl s 5,sl s 6,sl s 7,sl s 8]))) [sl s 0,sl s 1,z,sl s 3,sl s 5,sl s 6,sl s 7,sl s 8,sl c 0,g]).bind fun o=>outK o (fun i s=>ifN (i.beq 2) (some (.nrm [sl s 0,sl s 1,sl s 2,sl s 3,sl s 9,sl s 5,sl s 6,sl s 7,sl s 8])) (ifN (i.beq 1) (some (.nrm [sl s 0,sl s 1,sl s 2,sl s 3,sl s 4,sl s 5,sl s 6,sl s 7,sl s 8])) (some (.ext i [sl s 5,sl s 6])))) fun a b=>some (.ret a b)) ((bin .add false [] (sl s 7) (I 1)).bind fun z=>(aQ (fun s=>(lenD false (sl s 0)).bind fun z=>(bin .lss false [] (sl s 9) z).bind fun z=>ifD z ((eT false 1 (sl s 0) (sl s 6) (sl s 9)).bind fun z=>(ba true 3 0 (sl s 3)).bind fun k=>callK (ct [z,k,sl s 1]) fun c _=>(aF (.tup c) 0).bind fun z=>(aF (.tup c) 1).bind fun g=>(af (.tup []) g true (some (sl s 8))).bind fun l=>(af (.tup []) g true (some (sl s 9))).bind fun h=>(af (.tup []) g true (aag D.ptr (aI 1 l h))).bind fun m=>(af (.tup []) g true ((ldD false 1 m).bind bq)).bind fun n=>(af (.tup []) g true (bin .geq false [] n (I 0))).bind fun p=>(aU g p (B false)).bind fun d=>(af (.tup []) d true (some z)).bind fun z=>(af (.tup []) d true (some (sl s 8))).bind fun q=>(af (.tup []) d true (some (sl s 9))).bind fun e=>(af (.tup []) d true (aag D.ptr (aI 1 q e))).bind fun r=>(af (.tup []) d true ((ldD false 1 r).bind bq)).bind fun t=>(af (.tup []) d true (bin .add false [] z t)).bind fun z=>(af (.tup []) d true (some (sl s 7))).bind fun u=>(af (.tup []) d true (bin .eql false [] z u)).bind fun z=>(aU d z (B false)).bind fun z=>ifD z ((ay 1 [sl s 9]).bind fun a=>(dq a).bind fun b=>(bY 1 8 (sl s 4) b).bind fun y=>(aag D.ptr (aI 1 (sl s 8) (sl s 9))).bind fun z=>((ldD false 1 z).bind bq).bind fun z=>some (.ext 2 [sl s 0,sl s 1,sl s 2,sl s 3,D.bad,y,sl s 5,sl s 9,z,sl s 8])) ((bin .add false [] (sl s 9) (I 1)).bind fun z=>some (.nrm [sl s 0,sl s 1,sl s 2,sl s 3,sl s 4,sl s 5,sl s 6,sl s 7,sl s 8,z]))) (some (.ext 2 [sl s 0,sl s 1,sl s 2,sl s 3,D.bad,sl s 4,sl s 5,sl s 6,sl s 7,sl s 8]))) [sl s 0,sl s 1,sl s 2,sl s 3,sl s 5,sl s 6,sl s 7,sl s 8,sl s 4,z]).bind fun o=>outK o (fun i s=>ifN (i.beq 2) (some (.nrm [sl s 0,sl s 1,sl s 2,sl s 3,sl s 9,sl s 5,sl s 6,sl s 7,sl s 8])) (ifN (i.beq 1) (some (.nrm [sl s 0,sl s 1,sl s 2,sl s 3,sl s 4,sl s 5,sl s 6,sl s 7,sl s 8])) (some (.ext i [sl s 5,sl s 6])))) fun a b=>some (.ret a b))) (some (.ext 0 [sl s 5,sl s 6]))) [x0,x2,x3,y,sl c 0,a,z,I 0,z]).bind fun o=>outK o (fun i s=>ifN (i.beq 0) (some (.ret [sl s 0,sl s 1,B true] [])) none) fun a b=>some (.ret a b))):=by kernel_rfl
theorem zL (x0 x1 x2:D):iE [x0,x1,x2]=((bE 3 x1).bind fun y=>(ba true 3 0 y).bind fun z=>callK (dS [x0,z,x2]) fun c _=>(un .not (sl c 0)).bind fun z=>ifD z ((ay 1 []).bind fun a=>some (.ret [a,I 0,B false] [])) ((ba true 3 0 y).bind fun z=>callK (iB [x0,z,x2,I (-1)]) fun c _=>(aF (.tup c) 0).bind fun y=>(aF (cv (.tup c) 0) 1).bind fun z=>(aF (cv (.tup c) 0) 2).bind fun d=>some (.ret [y,z,d] []))):=by kernel_rfl
set_option maxRecDepth 100000
def Nu (q1 q2 q3:Int):Bool:=decide (1≤q1)&&decide (q1≤q2)&&decide (q2≤q3)&&decide (q3≤54)
def MQ (ws:List Int):Bool:=decide (1≤(ws.length:Int)∧(ws.length:Int)≤24)&&ws.all fun n=>decide (1≤n∧n≤600)
def tr (ws:List Int) (q1 q2 q3 m:Int):Bool:=MQ ws&&Nu q1 q2 q3&&decide (1≤m∧m≤2000)
theorem Bm {ws:List Int} {q1 q2 q3 m:Int} (h:tr ws q1 q2 q3 m=true):WdsP ws∧RulP q1 q2 q3 m∧ws≠[]:=by
 simp only [tr,MQ,Nu,ZR,decide_eq_true_eq,aah] at h;obtain⟨⟨⟨⟨h1,h2⟩,h3⟩,⟨⟨h4,h5⟩,h6⟩,h7⟩,h8,h9⟩:=h;exact⟨⟨by omega,h3⟩,⟨h4,h5,h6,h7,h8,h9⟩,fun e=>by rw [e] at h1;simp at h1⟩
theorem IB (q1 q2 q3:Int):mj [aL q1 q2 q3]=some (.ret [B (Nu q1 q2 q3)] []):=by
 rw [JC];have hb:bE 3 (aL q1 q2 q3)=some (aL q1 q2 q3):=by simp [bE]
 unfold Nu;by_cases h1:1≤q1
 ·by_cases h2:q1≤q2
  ·by_cases h3:q2≤q3
   ·simp -implicitDefEqProofs [hb,h1,h2,h3]
   ·simp -implicitDefEqProofs [hb,h1,h2,h3]
  ·simp -implicitDefEqProofs [hb,h1,h2]
 ·simp -implicitDefEqProofs [hb,h1]
theorem JG (q1 q2 q3:Int):lW [aL q1 q2 q3]=some (.ret [B (Nu q1 q2 q3)] []):=by
 rw [Ic];have hb:bE 3 (aL q1 q2 q3)=some (aL q1 q2 q3):=by simp [bE]
 unfold Nu;by_cases h1:1≤q1
 ·by_cases h2:q1≤q2
  ·by_cases h3:q2≤q3
   ·simp -implicitDefEqProofs [hb,h1,h2,h3]
   ·simp -implicitDefEqProofs [hb,h1,h2,h3]
  ·simp -implicitDefEqProofs [hb,h1,h2]
 ·simp -implicitDefEqProofs [hb,h1]
theorem Cc {β:Type} (p:β→Bool):∀(l:List β) (i:Nat),du (fun _ x=>p x) i l=l.all p
 | [],_=>rfl
 | x::l,i=>by simp only [du,List.all_cons];rw [Cc p l]
theorem Jl (l:List Int) (a b:Int) (h:l.length≤1048577):nF [ints l,I a,I b]=some (.ret [B (l.all fun n=>decide (a≤n∧n≤b))] []):=by
 rw [LF];simp only [aS,ZH,ZF];refine ax _ (dJ l (fun i=>[I a,I b,ints l,I l.length,I i]) (fun _ n=>decide (a≤n∧n≤b)) (.ret [B false] []) (.ext 0 []) (fun i hi=>?_) ?_ rfl rfl rfl) ?_
 ·have hw:ZE.wrap ((i:Int)+1)=(i:Int)+1:=ae (by omega) (by omega)
  have e:=eY l[i] a b;cases hd:decide (a≤l[i]∧l[i]≤b)<;>rw [hd] at e<;>simp -implicitDefEqProofs [hi,hw,e]
 ·simp -implicitDefEqProofs
 ·rw [Cc]
  cases l.all fun n=>decide (a≤n∧n≤b)<;>simp
theorem Fy (ws:List Int) (h:ws.length≤1048577):kT [ints ws]=some (.ret [B (MQ ws)] []):=by
 rw [GY];have e1:=eY (ws.length:Int) 1 24;have e2:=Jl ws 1 600 h;unfold MQ;cases hd:decide (1≤(ws.length:Int)∧(ws.length:Int)≤24)<;>rw [hd] at e1<;>simp -implicitDefEqProofs [e1,e2]
theorem tY (ws:List Int) (q1 q2 q3 m:Int) (h:ws.length≤1048577):iU [ints ws,aL q1 q2 q3,I m]=some (.ret [B (tr ws q1 q2 q3 m)] []):=by
 rw [Gf];have hb:bE 3 (aL q1 q2 q3)=some (aL q1 q2 q3):=by simp [bE]
 have hf3:ba true 3 0 (aL q1 q2 q3)=some (aL q1 q2 q3):=by simp [ba,D.cells,D.ofCells,au]
 have e1:=Fy ws h;have e2:=IB q1 q2 q3;have e3:iZ [I m]=some (.ret [B (decide (1≤m∧m≤2000))] []):=by
  rw [Dg];simp [eY]
 unfold tr;cases hd:MQ ws<;>rw [hd] at e1
 ·simp -implicitDefEqProofs [hb,e1]
 ·cases hd2:Nu q1 q2 q3<;>rw [hd2] at e2
  ·simp -implicitDefEqProofs [hb,hf3,e1,e2]
  ·simp -implicitDefEqProofs [hb,hf3,e1,e2,e3]
theorem yK (ws:List Int) (h:ws.length≤1048577):gO [ints ws]=some (.ret [B (MQ ws)] []):=by
 rw [yV];simp only [aS,ZH,ZF];refine ax _ (dJ ws (fun i=>[ints ws,ints ws,I ws.length,I i]) (fun _ n=>decide (1≤n∧n≤600)) (.ret [B false] []) (.ext 0 [ints ws]) (fun i hi=>?_) ?_ rfl rfl rfl) ?_
 ·have hw:ZE.wrap ((i:Int)+1)=(i:Int)+1:=ae (by omega) (by omega)
  have e:=cg ws[i] 1 600;cases hd:decide (1≤ws[i]∧ws[i]≤600)<;>rw [hd] at e<;>simp -implicitDefEqProofs [hi,hw,e]
 ·simp -implicitDefEqProofs
 ·rw [Cc]
  have e1:=cg (ws.length:Int) 1 24;unfold MQ;cases ws.all fun n=>decide (1≤n∧n≤600)
  ·simp
  ·simp [e1]
theorem lD (ws:List Int) (q1 q2 q3 m:Int) (h:ws.length≤1048577):dS [ints ws,aL q1 q2 q3,I m]=some (.ret [B (tr ws q1 q2 q3 m)] []):=by
 rw [tv];have hb:bE 3 (aL q1 q2 q3)=some (aL q1 q2 q3):=by simp [bE]
 have hf3:ba true 3 0 (aL q1 q2 q3)=some (aL q1 q2 q3):=by simp [ba,D.cells,D.ofCells,au]
 have e1:=yK ws h;have e2:=JG q1 q2 q3;have e3:jc [I m]=some (.ret [B (decide (1≤m∧m≤2000))] []):=by
  rw [BK];simp [cg]
 unfold tr;cases hd:MQ ws<;>rw [hd] at e1
 ·simp -implicitDefEqProofs [hb,e1]
 ·cases hd2:Nu q1 q2 q3<;>rw [hd2] at e2
  ·simp -implicitDefEqProofs [hb,hf3,e1,e2]
  ·simp -implicitDefEqProofs [hb,hf3,e1,e2,e3]
abbrev tbL (n:Nat) (T:Nat→Int):D:=ints ((ZS n).map T)
theorem Mg {n i:Nat} {T:Nat→Int} {v:Int} (h:i<n):stD 1 (tbL n T) (.ref i 0) (I v)=some (tbL n fun x=>if x=i then v else T x):=by
 have hL:(((ZS n).map T).map I)[i]?=some (.v (.int .i64 (T i))):=by simp [h]
 rw [AX hL];congr 2
 refine aaF fun k=>?_
 rw [List.getElem?_set];by_cases hk:i=k
 ·subst hk
  simp [h]
 ·rw [if_neg hk]
  have hk':¬k=i:=fun e=>hk e.symm
  by_cases hkn:k<n
  ·simp [hkn,hk']
  ·simp [hkn]
theorem Tc {n i:Nat} {T:Nat→Int} (h:i<n):(atD (tbL n T) (.ref i 0)).bind (au false 1)=some (I (T i)):=by
 simp [h]
theorem Ex {n i:Nat} {T:Nat→Int} (h:i<n):dE 1 (tbL n T) (I (i:Int))=some (.ref i 0):=by
 simp [h]
theorem Na {n:Nat} {T:Nat→Int} {x:D}:aa (tbL n T) x=some x:=rfl
def fnC (v:Way):Int:=if v.1=true then v.2.1 else -1
structure MinA (i hi:Nat) (last:Bool) (lc:Nat→Int × Bool) (V:Nat→Way) (a:Int):Prop where
 lo : -1≤a∧a≤100000000000000
 no:a<0→a = -1∧last=false∧∀k,i<k→k<hi→(lc k).2=true→(V k).1=true→False
 la:last=true→a≤0
 mn:0≤a→∀k,i<k→k<hi→(lc k).2=true→(V k).1=true→a≤(lc k).1+(V k).2.1
 at_:0≤a→last=true∨∃k,i<k∧k<hi∧(lc k).2=true∧(V k).1=true∧a=(lc k).1+(V k).2.1
theorem MinA.start (i:Nat) (last:Bool) (lc:Nat→Int × Bool) (V:Nat→Way):MinA i (i+1) last lc V (if last=true then 0 else -1):=by
 cases last
 ·exact⟨by decide,fun _=>⟨rfl,rfl,fun k h1 h2=>by omega⟩,fun h=>(by cases h),fun h=>absurd h (by decide),fun h=>absurd h (by decide)⟩
 ·exact⟨by decide,fun h=>absurd h (by decide),fun _=>by decide,fun _ k h1 h2=>by omega,fun _=>.inl rfl⟩
def QY (c:Int × Bool) (v:Way) (a:Int):Int:=if c.2=true∧0≤fnC v∧(a<0∨c.1+fnC v<a) then c.1+fnC v else a
theorem MinA.step {i hi:Nat} {last:Bool} {lc:Nat→Int × Bool} {V:Nat→Way} {a:Int} (h:MinA i hi last lc V a) (hih:i<hi) (hc:0≤(lc hi).1∧(lc hi).1≤100000) (hv:(V hi).1=true→0≤(V hi).2.1∧(V hi).2.1≤100000000000) :
  MinA i (hi+1) last lc V (QY (lc hi) (V hi) a):=by
 unfold QY;have hfv:(V hi).1=true→fnC (V hi)=(V hi).2.1:=fun e=>by unfold fnC;rw [if_pos e]
 have hfn:(V hi).1=false→fnC (V hi) = -1:=fun e=>by unfold fnC;rw [if_neg (by rw [e];decide)]
 by_cases hb:(lc hi).2=true∧0≤fnC (V hi)∧(a<0∨(lc hi).1+fnC (V hi)<a)
 ·rw [if_pos hb]
  have hok:(V hi).1=true:=by
   cases he:(V hi).1
   ·have:=hfn he;omega
   ·rfl
  obtain⟨v1,v2⟩:=hv hok;have e:=hfv hok;rw [e] at hb ⊢;refine⟨by omega,fun h0=>by omega,fun hl=>?_,fun _ k h1 h2 h3 h4=>?_,fun _=>.inr ⟨hi,hih,by omega,hb.1,hok,rfl⟩⟩
  ·have:=h.la hl
   rcases hb.2.2 with h5 | h5
   ·have:=(h.no h5).2.1
    rw [hl] at this;cases this
   ·omega
  ·by_cases hk:k=hi
   ·subst hk;omega
   ·by_cases h5:a<0
    ·exact((h.no h5).2.2 k h1 (by omega) h3 h4).elim
    ·have:=h.mn (by omega) k h1 (by omega) h3 h4
     omega
 ·rw [if_neg hb]
  refine⟨h.lo,fun h0=>⟨(h.no h0).1,(h.no h0).2.1,fun k h1 h2 h3 h4=>?_⟩,h.la,fun h0 k h1 h2 h3 h4=>?_,fun h0=>?_⟩
  ·by_cases hk:k=hi
   ·subst hk
    have:=hfv h4;have:=(hv h4).1;exact hb ⟨h3,by omega,.inl h0⟩
   ·exact(h.no h0).2.2 k h1 (by omega) h3 h4
  ·by_cases hk:k=hi
   ·subst hk
    have e:=hfv h4;have:=(hv h4).1;exact Classical.byContradiction fun hc=>hb ⟨h3,by omega,.inr (by omega)⟩
   ·exact h.mn h0 k h1 (by omega) h3 h4
  ·rcases h.at_ h0 with h1 | ⟨k,h1,h2,h3⟩
   ·exact .inl h1
   ·exact .inr ⟨k,h1,by omega,h3⟩
theorem MinA.eq {n i:Nat} {last:Bool} {lc:Nat→Int × Bool} {V:Nat→Way} {a:Int} (h:MinA i n last lc V a) (hb:BrB n i (i+1) last lc V (V i)):a=fnC (V i):=by
 unfold fnC;cases ho:(V i).1
 ·rw [if_neg (by decide)]
  obtain⟨h1,h2⟩:=hb.no ho;by_cases h0:a<0
  ·exact(h.no h0).1
  ·rcases h.at_ (by omega) with h3 | ⟨k,h3,h4,h5,h6,_⟩
   ·rw [h1] at h3;cases h3
   ·exact(h2 k (by omega) h4 h5 h6).elim
 ·rw [if_pos rfl]
  by_cases h0:a<0
  ·obtain⟨_,h1,h2⟩:=h.no h0
   rcases hb.at_ ho with ⟨h3,_⟩ | ⟨_,j,h3,h4,h5,h6,_⟩
   ·rw [h1] at h3;cases h3
   ·exact(h2 j (by omega) h4 h5 h6).elim
  ·have h0:0≤a:=by omega
   rcases hb.at_ ho with ⟨h3,h4,_⟩ | ⟨h3,j,h4,h5,h6,h7,h8,_⟩
   ·have:=h.la h3
    omega
   ·rcases h.at_ h0 with h9 | ⟨k,k1,k2,k3,k4,k5⟩
    ·rw [h3] at h9;cases h9
    ·have:=h.mn h0 j (by omega) h5 h6 h7
     have:=hb.mn ho k (by omega) k2 k3 k4;omega
set_option maxRecDepth 100000
section
variable {ws:List Int} {q1 q2 q3 m:Int}
abbrev Fw (q2 m:Int) (ws:List Int) (i:Nat):Bool:=lnE q2 m (ws.drop i)
abbrev lcW (q1 q2 q3 m:Int) (ws:List Int) (i j:Nat):Int × Bool:=lnC q1 q2 q3 m ((ws.take j).drop i)
abbrev fA (q1 q2 q3 m:Int) (ws:List Int):Nat→Way:=fG ws.length (Fw q2 m ws) (lcW q1 q2 q3 m ws) ws.length
theorem EG (hw:WdsP ws) {i:Nat} (hi:i<ws.length):WdsP (ws.drop i)∧ws.drop i≠[]:=⟨hw.sub (List.drop_sublist _ _),fun e=>by
 have:=congrArg aas e;simp at this;omega⟩
theorem vw (hw:WdsP ws) {i j:Nat} (hij:i<j) (hj:j≤ws.length):WdsP ((ws.take j).drop i)∧(ws.take j).drop i≠[]:=⟨hw.sub ((List.drop_sublist _ _).trans (List.take_sublist _ _)),fun e=>by
 have:=congrArg aas e;simp at this;omega⟩
theorem Ch (hw:WdsP ws) (hr:RulP q1 q2 q3 m) {i j:Nat} (hi:i<ws.length) (hj:j<ws.length):0≤(lcW q1 q2 q3 m ws i j).1∧(lcW q1 q2 q3 m ws i j).1≤100000:=by
 by_cases h:i<j
 ·obtain⟨h1,h2⟩:=vw hw h (ZM hj)
  exact Xx h1 hr h2
 ·have e:(ws.take j).drop i=[]:=by
   rw [List.drop_eq_nil_iff];simp;omega
  have e2:lcW q1 q2 q3 m ws i j=lnC q1 q2 q3 m []:=by
   show lnC q1 q2 q3 m ((ws.take j).drop i)=_
   rw [e]
  have hs:vZ [] m=[]:=rfl;rw [e2];unfold lnC;rw [hs];split<;>simp [Ip]
theorem uX (hw:WdsP ws) (hr:RulP q1 q2 q3 m) {i:Nat} (hi:i<ws.length):BrB ws.length i (i+1) (Fw q2 m ws i) (lcW q1 q2 q3 m ws i) (fA q1 q2 q3 m ws) (fA q1 q2 q3 m ws i) :=
 Rn (by have:=hw.len;omega) (fun i j hi hj=>Ch hw hr hi hj) (ws.length - i) i rfl hi
theorem PG (hw:WdsP ws) (hr:RulP q1 q2 q3 m) {i:Nat} (hi:i<ws.length) (h:(fA q1 q2 q3 m ws i).1=true):0≤(fA q1 q2 q3 m ws i).2.1∧(fA q1 q2 q3 m ws i).2.1≤2400000:=by
 have:=(uX hw hr hi).rg h;have:=hw.len;omega
def JI (q1 q2 q3 m:Int) (ws:List Int) (i:Nat):Nat→Int
 | 0=>if Fw q2 m ws i=true then 0 else -1
 | d+1=>QY (lcW q1 q2 q3 m ws i (i+1+d)) (fA q1 q2 q3 m ws (i+1+d)) (JI q1 q2 q3 m ws i d)
theorem Oz (hw:WdsP ws) (hr:RulP q1 q2 q3 m) {i:Nat} (hi:i<ws.length):∀d,i+1+d≤ws.length→MinA i (i+1+d) (Fw q2 m ws i) (lcW q1 q2 q3 m ws i) (fA q1 q2 q3 m ws) (JI q1 q2 q3 m ws i d)
 | 0,_=>MinA.start _ _ _ _
 | d+1,h=>(Oz hw hr hi d (by omega)).step (by omega) (Ch hw hr hi (by omega)) fun e=>by
  have:=PG hw hr (i:=i+1+d) (by omega) e;omega
theorem Uk (hw:WdsP ws) (hr:RulP q1 q2 q3 m) {i:Nat} (hi:i<ws.length):JI q1 q2 q3 m ws i (ws.length - 1 - i)=fnC (fA q1 q2 q3 m ws i):=by
 have h:=Oz hw hr hi (ws.length - 1 - i) (by omega);rw [show i+1+(ws.length - 1 - i)=ws.length by omega] at h;exact h.eq (uX hw hr hi)
def inT (q2 m:Int) (ws:List Int) (e x:Nat):Int:=if x<e then(if Fw q2 m ws x=true then 0 else -1) else 0
def jY (q1 q2 q3 m:Int) (ws:List Int) (e x:Nat):Int:=if ws.length - e≤x then fnC (fA q1 q2 q3 m ws x) else if Fw q2 m ws x=true then 0 else -1
theorem lI {n:Nat} {T S:Nat→Int} (h:∀x,x<n→T x=S x):tbL n T=tbL n S:=by
 unfold tbL;rw [List.map_congr_left fun x hx=>h x (aau.1 hx)]
theorem uo (hw:WdsP ws) (hr:RulP q1 q2 q3 m) (k:Nat):dI (k+1) [ints ws,aL q1 q2 q3,I m,I (-1)]=some (.ret [tbL ws.length fun x=>fnC (fA q1 q2 q3 m ws x)] []):=by
 have hl:=hw.len;rw [zJ];have hb:bE 3 (aL q1 q2 q3)=some (aL q1 q2 q3):=by simp [bE]
 have hf3:ba true 3 0 (aL q1 q2 q3)=some (aL q1 q2 q3):=by simp [ba,D.cells,D.ofCells,au]
 have hmk:Nj 1 8 (I 0) (I (ws.length:Int)) (I (ws.length:Int))=some (tbL ws.length (inT q2 m ws 0)):=by
  rw [NR,if_pos (by omega)];congr 2
  refine aaF fun x=>?_
  by_cases hx:x<ws.length
  ·simp [hx,inT]
  ·simp [hx]
 simp -implicitDefEqProofs only [hb,aS,ZH,ZF,hmk,Na,List.length_range,cI];refine ax _ (dn ws.length (fun i=>[ints ws,I m,I (-1),aL q1 q2 q3,tbL ws.length (inT q2 m ws i),I (ws.length:Int),I (i:Int)]) (.ext 0 [ints ws,I m,I (-1),aL q1 q2 q3,tbL ws.length (inT q2 m ws ws.length)]) (fun i hi=>?_) ?_ rfl rfl) ?_
 ·have hwi:ZE.wrap ((i:Int)+1)=(i:Int)+1:=ae (by omega) (by omega)
  have hii:(i:Int)<(ws.length:Int):=by omega
  obtain⟨d1,d2⟩:=EG hw hi;have ec:=qt d1 hr d2;have h1:dE 1 (tbL ws.length (inT q2 m ws i)) (I (i:Int))=some (.ref i 0):=Ex hi;have h2:stD 1 (tbL ws.length (inT q2 m ws i)) (.ref i 0) (I (-1))=_:=Mg hi;have h3:dE 1 (tbL ws.length fun x=>if x=i then -1 else inT q2 m ws i x) (I (i:Int))=some (.ref i 0):=Ex hi;have h4:stD 1 (tbL ws.length fun x=>if x=i then -1 else inT q2 m ws i x) (.ref i 0) (I 0)=_:=Mg hi;have hs:fw false 1 (ints ws) (I (i:Int))=some (ints (ws.drop i)):=by
   rw [uh (by simpa using ZM hi),←ZY]
  cases he:lnE q2 m (ws.drop i)
  ·have e5:tbL ws.length (fun x=>if x=i then -1 else inT q2 m ws i x)=tbL ws.length (inT q2 m ws (i+1)):=lI fun x hx=>by
    unfold inT;by_cases e:x=i
    ·subst e
     simp [he]
    ·have:x<i+1↔x<i:=by omega
     simp [e,this]
   rw [he] at ec;rw [e5] at h2 h3;generalize tbL ws.length (inT q2 m ws i)=t at *;generalize tbL ws.length (inT q2 m ws (i+1))=t2 at *;have l1:∀x,aa t x=some x:=fun x=>by
    cases t<;>first | rfl | (simp [dE] at h1)
   simp -implicitDefEqProofs [hii,l1,h1,h2,hs,hf3,ec,hwi]
  ·have e5:tbL ws.length (fun x=>if x=i then 0 else(fun x=>if x=i then -1 else inT q2 m ws i x) x)=tbL ws.length (inT q2 m ws (i+1)):=lI fun x hx=>by
    unfold inT;by_cases e:x=i
    ·subst e
     simp [he]
    ·have:x<i+1↔x<i:=by omega
     simp [e,this]
   rw [he] at ec;rw [e5] at h4;generalize tbL ws.length (fun x=>if x=i then -1 else inT q2 m ws i x)=t1 at *;generalize tbL ws.length (inT q2 m ws i)=t at *;generalize tbL ws.length (inT q2 m ws (i+1))=t2 at *;have l1:∀x,aa t x=some x:=fun x=>by
    cases t<;>first | rfl | (simp [dE] at h1)
   have l2:∀x,aa t1 x=some x:=fun x=>by
    cases t1<;>first | rfl | (simp [dE] at h3)
   simp -implicitDefEqProofs [hii,l1,l2,h1,h2,h3,h4,hs,hf3,ec,hwi]
 ·simp -implicitDefEqProofs
 ·have hwn:ZE.wrap ((ws.length:Int) - 1)=(ws.length:Int) - 1:=ae (by omega) (by omega)
  simp -implicitDefEqProofs only [cZ,aaB,jn,if_true,aE,aX,mw,Ai,ZF,ZJ,decide_false,bt,ZI,if_false,Na,cI,ZK,aS,ZH,kZ,hwn,show ¬((-1:Int)=1) by decide,show ¬((1:Int) < -1) by decide];have e0:tbL ws.length (inT q2 m ws ws.length)=tbL ws.length (jY q1 q2 q3 m ws 0):=lI fun x hx=>by
   unfold inT jY;have hn:¬ws.length - 0≤x:=by omega
   rw [if_pos hx,if_neg hn]
  rw [e0];refine ax _ (dn ws.length (fun e=>[ints ws,I m,aL q1 q2 q3,tbL ws.length (jY q1 q2 q3 m ws e),D.ref 0 0,I ((ws.length:Int) - 1 - (e:Int))]) (.ext 2 [tbL ws.length (jY q1 q2 q3 m ws ws.length)]) (fun e he=>?_) ?_ rfl (by rw [show(ws.length:Int) - 1 - ((0:Nat):Int)=(ws.length:Int) - 1 by omega])) ?_
  ·obtain⟨i,hi⟩:∃i,i=ws.length - 1 - e:=⟨_,rfl⟩
   have hin:i<ws.length:=by omega
   have hie:(ws.length:Int) - 1 - (e:Int)=(i:Int):=by omega
   have hie2:(ws.length:Int) - 1 - ((e+1:Nat):Int)=(i:Int) - 1:=by omega
   have hwi:ZE.wrap ((i:Int)+1)=(i:Int)+1:=ae (by omega) (by omega);have hwi2:ZE.wrap ((i:Int) - 1)=(i:Int) - 1:=ae (by omega) (by omega);have hi0:(0:Int)≤(i:Int):=by omega
   have hne:ws.length - e=i+1:=by omega
   rw [hie,hie2];simp -implicitDefEqProofs only [aE,aX,Bq,ZF,decide_eq_true hi0,bt,if_true,bZ,hwi];have es:tbL ws.length (jY q1 q2 q3 m ws e)=tbL ws.length (fun x=>if x=i then JI q1 q2 q3 m ws i 0 else jY q1 q2 q3 m ws e x):=lI fun x hx=>by
    by_cases ex:x=i
    ·subst ex
     rw [if_pos rfl];unfold jY JI;have hn:¬ws.length - e≤x:=by omega
     rw [if_neg hn]
    ·rw [if_neg ex]
   have ee:tbL ws.length (fun x=>if x=i then JI q1 q2 q3 m ws i (ws.length - 1 - i) else jY q1 q2 q3 m ws e x)=tbL ws.length (jY q1 q2 q3 m ws (e+1)):=lI fun x hx=>by
    rw [Uk hw hr hin];unfold jY;by_cases ex:x=i
    ·subst ex
     rw [if_pos rfl,if_pos (by omega)]
    ·rw [if_neg ex]
     have:ws.length - e≤x↔ws.length - (e+1)≤x:=by omega
     simp only [this]
   refine ax _ (dn (ws.length - 1 - i) (fun d=>[ints ws,I m,aL q1 q2 q3,tbL ws.length (fun x=>if x=i then JI q1 q2 q3 m ws i d else jY q1 q2 q3 m ws e x),D.ref 0 0,I (i:Int),I ((i+1+d:Nat):Int)]) (.ext 4 [ints ws,I m,aL q1 q2 q3,tbL ws.length (jY q1 q2 q3 m ws (e+1)),D.ref 0 0,I (i:Int)]) (fun d hd=>?_) ?_ rfl (by rw [es];rfl)) ?_
   ·obtain⟨to,hto⟩:∃to,to=i+1+d:=⟨_,rfl⟩
    have hton:to<ws.length:=by omega
    have hc1:((i+1+d:Nat):Int)=(to:Int):=by omega
    have hc2:((i+1+(d+1):Nat):Int)=(to:Int)+1:=by omega
    rw [hc1,hc2];have hwt:ZE.wrap ((to:Int)+1)=(to:Int)+1:=ae (by omega) (by omega);have hlt:(to:Int)<(ws.length:Int):=by omega
    obtain⟨p1,p2⟩:=vw hw (show i<to by omega) (ZM hton);have ec:=jR p1 hr p2;have hci:=Ch (q1:=q1) (q2:=q2) (q3:=q3) (m:=m) hw hr hin hton;have hs:eT false 1 (ints ws) (I (i:Int)) (I (to:Int))=some (ints ((ws.take to).drop i)):=by
     rw [oS (by omega) (by simpa using ZM hton),←aam,←ZY]
    obtain⟨f,hf⟩:∃f,f=fnC (fA q1 q2 q3 m ws to):=⟨_,rfl⟩
    obtain⟨a,ha⟩:∃a,a=JI q1 q2 q3 m ws i d:=⟨_,rfl⟩
    have hfb : -1≤f∧f≤2400000:=by
     rw [hf];unfold fnC;split
     ·rename_i h
      have:=PG hw hr hton h;omega
     ·omega
    have hacc:JI q1 q2 q3 m ws i (d+1)=QY (lcW q1 q2 q3 m ws i to) (fA q1 q2 q3 m ws to) a:=by
     rw [JI,←hto,←ha]
    have r1:dE 1 (tbL ws.length (fun x=>if x=i then a else jY q1 q2 q3 m ws e x)) (I (to:Int))=some (.ref to 0):=Ex hton;have r2:dE 1 (tbL ws.length (fun x=>if x=i then a else jY q1 q2 q3 m ws e x)) (I (i:Int))=some (.ref i 0):=Ex hin;have a1:(atD (tbL ws.length (fun x=>if x=i then a else jY q1 q2 q3 m ws e x)) (.ref to 0)).bind (au false 1)=some (I f):=by
     rw [Tc hton,if_neg (by omega)];unfold jY;rw [if_pos (by omega),hf]
    have a2:(atD (tbL ws.length (fun x=>if x=i then a else jY q1 q2 q3 m ws e x)) (.ref i 0)).bind (au false 1)=some (I a):=by
     rw [Tc hin,if_pos rfl]
    have s1:∀v,stD 1 (tbL ws.length (fun x=>if x=i then a else jY q1 q2 q3 m ws e x)) (.ref i 0) (I v)=some (tbL ws.length (fun x=>if x=i then v else jY q1 q2 q3 m ws e x)):=fun v=>by
     rw [Mg hin];congr 1
     exact lI fun x hx=>by
      by_cases ex:x=i
      ·simp [ex]
      ·simp [ex]
    have hst:QY (lcW q1 q2 q3 m ws i to) (fA q1 q2 q3 m ws to) a=if (lcW q1 q2 q3 m ws i to).2=true∧0≤f∧(a<0∨(lcW q1 q2 q3 m ws i to).1+f<a) then(lcW q1 q2 q3 m ws i to).1+f else a:=by
     unfold QY;rw [←hf]
    rw [hacc,hst,←ha];have l1:∀x,aa (tbL ws.length (fun x=>if x=i then a else jY q1 q2 q3 m ws e x)) x=some x:=fun x=>rfl
    replace ec:ct [ints ((ws.take to).drop i),aL q1 q2 q3,I m]=some (.ret [I (lcW q1 q2 q3 m ws i to).1,B (lcW q1 q2 q3 m ws i to).2] []):=ec;generalize lcW q1 q2 q3 m ws i to=c at *;obtain⟨c,b⟩:=c;simp only at ec hci ⊢;have hwc:ZE.wrap (c+f)=c+f:=ae (by omega) (by omega);have s2:=s1 (c+f);have hfin:∀v:Int,(fun x=>if x=i then v else jY q1 q2 q3 m ws e x)=fun x=>if x=i then v else jY q1 q2 q3 m ws e x:=fun _=>rfl
    clear hfin hst hacc s1 es ee hf ha;cases b
    ·simp only [ZI,false_and,if_false]
     generalize tbL ws.length (fun x=>if x=i then a else jY q1 q2 q3 m ws e x)=t at *;simp -implicitDefEqProofs [hlt,hs,hf3,ec,hwt]
    ·by_cases hf0:0≤f
     ·by_cases ha0:a<0
      ·rw [if_pos ⟨rfl,hf0,.inl ha0⟩]
       generalize tbL ws.length (fun x=>if x=i then a else jY q1 q2 q3 m ws e x)=t at *;generalize tbL ws.length (fun x=>if x=i then c+f else jY q1 q2 q3 m ws e x)=t2 at *;simp -implicitDefEqProofs [hlt,hs,hf3,ec,hwt,l1,r1,r2,a1,a2,s2,hf0,ha0,hwc]
      ·by_cases hca:c+f<a
       ·rw [if_pos ⟨rfl,hf0,.inr hca⟩]
        generalize tbL ws.length (fun x=>if x=i then a else jY q1 q2 q3 m ws e x)=t at *;generalize tbL ws.length (fun x=>if x=i then c+f else jY q1 q2 q3 m ws e x)=t2 at *;simp -implicitDefEqProofs [hlt,hs,hf3,ec,hwt,l1,r1,r2,a1,a2,s2,hf0,ha0,hwc,hca]
       ·rw [if_neg (fun h=>by rcases h.2.2 with h | h;exact ha0 h;exact hca h)]
        generalize tbL ws.length (fun x=>if x=i then a else jY q1 q2 q3 m ws e x)=t at *;simp -implicitDefEqProofs [hlt,hs,hf3,ec,hwt,l1,r1,r2,a1,a2,hf0,ha0,hwc,hca]
     ·rw [if_neg (fun h=>hf0 h.2.1)]
      generalize tbL ws.length (fun x=>if x=i then a else jY q1 q2 q3 m ws e x)=t at *;simp -implicitDefEqProofs [hlt,hs,hf3,ec,hwt,l1,r1,r2,a1,a2,hf0]
   ·have hge:¬((i+1+(ws.length - 1 - i):Nat):Int)<(ws.length:Int):=by omega
    rw [ee];simp -implicitDefEqProofs only [aE,aX,aS,ZH,bp,ZF,decide_eq_false hge,bt,ZI,if_false]
   ·simp -implicitDefEqProofs [hwi2]
  ·have hlt:¬(0:Int)≤(ws.length:Int) - 1 - ((ws.length:Nat):Int):=by omega
   simp -implicitDefEqProofs only [aE,aX,Bq,ZF,decide_eq_false hlt,bt,ZI,if_false]
  ·have ef:tbL ws.length (jY q1 q2 q3 m ws ws.length)=tbL ws.length fun x=>fnC (fA q1 q2 q3 m ws x):=lI fun x hx=>by
    unfold jY;rw [if_pos (by omega)]
   rw [ef];simp
theorem zS (hw:WdsP ws) (hr:RulP q1 q2 q3 m):iv [ints ws,aL q1 q2 q3,I m,I (-1)]=some (.ret [tbL ws.length fun x=>fnC (fA q1 q2 q3 m ws x)] []):=by
 refine Qi (fun n o ho=>?_) 1 (uo hw hr 0)
 cases n with
 | zero=>cases ho
 | succ n =>
  rw [uo hw hr n] at ho;exact(aaK ho).symm
end
end Go.Proofs.YtccaheogjpfhjaaGreat

namespace Go.Proofs.YtccaheogjpfhjaaGreat
open Go Go.V
set_option maxRecDepth 100000
section
variable {ws:List Int} {q1 q2 q3 m:Int}
theorem gx (a:Int):bq (I a)=some (I a):=rfl
def nm (q1 q2 q3 m:Int) (ws:List Int):List D:=if tr ws q1 q2 q3 m=true∧(fA q1 q2 q3 m ws 0).1=true then [ints (fA q1 q2 q3 m ws 0).2.2.1,I (fA q1 q2 q3 m ws 0).2.1,B true] else [ints [],I 0,B false]
theorem zQ (hw:WdsP ws) (hr:RulP q1 q2 q3 m) (h0:ws≠[]):iB [ints ws,aL q1 q2 q3,I m,I (-1)]=some (.ret (if (fA q1 q2 q3 m ws 0).1=true then [ints (fA q1 q2 q3 m ws 0).2.2.1,I (fA q1 q2 q3 m ws 0).2.1,B true] else [ints [],I 0,B false]) []):=by
  have hl:=hw.len;have hp:0<ws.length:=ZQ.2 h0;rw [Bj];have hb:bE 3 (aL q1 q2 q3)=some (aL q1 q2 q3):=by simp [bE]
  have hf3:ba true 3 0 (aL q1 q2 q3)=some (aL q1 q2 q3):=by simp [ba,D.cells,D.ofCells,au]
  have el:=zS (q1:=q1) (q2:=q2) (q3:=q3) (m:=m) hw hr;obtain⟨V,hV⟩:∃V,V=fA q1 q2 q3 m ws:=⟨_,rfl⟩
  have hbest:∀i,i<ws.length→BrB ws.length i (i+1) (Fw q2 m ws i) (lcW q1 q2 q3 m ws i) V (V i):=fun i hi=>by rw [hV];exact uX hw hr hi
  have hvin:∀i,i<ws.length→(V i).1=true→0≤(V i).2.1∧(V i).2.1≤2400000:=fun i hi h=>by rw [hV] at h ⊢;exact PG hw hr hi h
  have hvlen:(V 0).2.2.1.length≤ws.length - 1 - 0:=by rw [hV];exact rj _ (ZN _) 0
  rw [←hV] at el ⊢;have hel0:aI 1 (tbL ws.length fun x=>fnC (V x)) (I 0)=some [I (fnC (V 0))]:=by
    simp [hp]
  simp -implicitDefEqProofs only [hb,hf3,ZF,el,bd,aE,dw,hel0,aaM,fS,eJ,gx,bp,bt];cases hok:(V 0).1
  · have hf:fnC (V 0) = -1:=by unfold fnC;rw [if_neg (by rw [hok];decide)]
    rw [hf];simp
  · have hf:fnC (V 0)=(V 0).2.1:=by unfold fnC;rw [if_pos hok]
    have hv0:=hvin 0 hp hok;have hnl:¬(V 0).2.1<0:=by omega
    rw [hf];simp -implicitDefEqProofs only [decide_eq_false hnl,ZI,if_false,if_true];refine bu (fun r=>r=some (Out.ret [ints (V 0).2.2.1,I (V 0).2.1,B true] [])) (fun a:List Int × Nat=>[ints ws,I m,I (-1),aL q1 q2 q3,tbL ws.length (fun x=>fnC (V x)),ints a.1,I (V 0).2.1,I (a.2:Int),I (V a.2).2.1])
      (fun a=>a.2<ws.length∧(V a.2).1=true∧a.1++(V a.2).2.2.1=(V 0).2.2.1) (fun a=>ws.length - a.2) (fun o=>o = .ext 0 [ints (V 0).2.2.1,I (V 0).2.1]) (fun a ha=>?_) ([],0) ⟨hp,hok,rfl⟩ rfl (fun o ho=>?_)
    · obtain⟨acc,i⟩:=a
      obtain⟨hi,hvi,hacc⟩:=ha;simp only at hi hvi hacc ⊢;have hacl:acc.length≤24:=by
        have:=congrArg aas hacc;rw [aaC] at this;omega
      obtain⟨d1,d2⟩:=EG hw hi;have ece:=qt d1 hr d2;have hsh:fw false 1 (ints ws) (I (i:Int))=some (ints (ws.drop i)):=by
        rw [uh (by simpa using ZM hi),←ZY]
      have hB:=hbest i hi;have hvi2:=hvin i hi hvi;rcases hB.at_ hvi with ⟨c1,c2,c3⟩ | ⟨c1,j,c2,c3,c4,c5,c6,c7,c8⟩
      · refine .inr ⟨.ext 0 [ints (V 0).2.2.1,I (V 0).2.1],?_,rfl,rfl⟩
        have hacc':acc=(V 0).2.2.1:=by rw [←hacc,c3,List.append_nil]
        have ece':dG [ints (ws.drop i),aL q1 q2 q3,I m]=some (.ret [B true] []):=by rw [ece,show lnE q2 m (ws.drop i)=true from c1]
        rw [c2,hacc'];generalize tbL ws.length (fun x=>fnC (V x))=t;simp -implicitDefEqProofs [hsh,hf3,ece']
      · refine .inl ⟨(acc++[(j:Int)],j),?_,⟨c3,c5,?_⟩,?_⟩
        · have ece':dG [ints (ws.drop i),aL q1 q2 q3,I m]=some (.ret [B false] []):=by rw [ece,show lnE q2 m (ws.drop i)=false from c1]
          have hcond:∀{K:D→Option Out},((bin BinOp.gtr false [] (I (-1)) (D.v (ZZ ZE 1))).bind fun z =>
 (af (D.tup []) z false (some (I (-1)))).bind fun z_2=>(af (D.tup []) z false (bin BinOp.lss false [] z_2 (D.v (ZZ ZE 0)))).bind fun z_3=>(af (D.tup []) z false (some z_3)).bind fun z_4 =>
 (af (D.tup []) z_4 true (some (I (V i).2.1))).bind fun z_5=>(af (D.tup []) z_4 true (bin BinOp.gtr false [] z_5 (D.v (ZZ ZE 0)))).bind fun z_6=>(af (D.tup []) z_4 true (some z_6)).bind fun z_7 =>
 (af (D.tup []) z_7 false (some (ints ws))).bind fun z_8=>(af (D.tup []) z_7 false (some (I (i:Int)))).bind fun z_9=>(af (D.tup []) z_7 false (fw false 1 z_8 z_9)).bind fun z_10 =>
 (af (D.tup []) z_7 false (ba true 3 0 (aL q1 q2 q3))).bind fun z_11=>(af (D.tup []) z_7 false (some (I m))).bind fun z_12=>bX z_7 false (callK (dG [z_10,z_11,z_12]) fun rs _u =>
 some (Out.nrm [sl rs 0])) [D.tup []] fun outs=>(af (D.tup []) z_7 false (un UnOp.not (sl outs 0))).bind fun z_13=>(af (D.tup []) z_4 true (aU z_7 (D.v (aaN true)) z_13)).bind fun z_14 =>
 (af (D.tup []) z false (aU z_4 z_14 (D.v (aaN false)))).bind fun z_15=>(aU z (D.v (aaN true)) z_15).bind fun z=>K z)=K (B true):=by
            intro K;by_cases hg:0<(V i).2.1
            · simp -implicitDefEqProofs [hg]
            · simp -implicitDefEqProofs [hg,hsh,hf3,ece']
          simp -implicitDefEqProofs only [aE,aX];rw [hcond];have hwi:ZE.wrap ((i:Int)+1)=(i:Int)+1:=ae (by omega) (by omega);simp -implicitDefEqProofs only [bt,if_true,Ai,ZF,show ¬((1:Int) < -1) by decide,decide_false,ZI,if_false,bZ,hwi];refine ax _ (dn (j - (i+1)) (fun d=>[ints ws,I m,I (-1),aL q1 q2 q3,ints acc,I (V 0).2.1,I (i:Int),I (V i).2.1,tbL ws.length (fun x=>fnC (V x)),I ((i+1+d:Nat):Int)]) (.ext 2 [ints ws,I m,I (-1),aL q1 q2 q3,D.bad,ints (acc++[(j:Int)]),I (V 0).2.1,I (j:Int),I (V j).2.1,tbL ws.length (fun x=>fnC (V x))]) (fun d hd=>?_) ?_ rfl rfl) ?_
          · obtain⟨k,hk⟩:∃k,k=i+1+d:=⟨_,rfl⟩
            have hkn:k<ws.length:=by omega
            have hc1:((i+1+d:Nat):Int)=(k:Int):=by omega
            have hc2:((i+1+(d+1):Nat):Int)=(k:Int)+1:=by omega
            rw [hc1,hc2];have hwk:ZE.wrap ((k:Int)+1)=(k:Int)+1:=ae (by omega) (by omega);have hlt:(k:Int)<(ws.length:Int):=by omega
            obtain⟨p1,p2⟩:=vw hw (show i<k by omega) (ZM hkn);have ec:ct [ints ((ws.take k).drop i),aL q1 q2 q3,I m]=some (.ret [I (lcW q1 q2 q3 m ws i k).1,B (lcW q1 q2 q3 m ws i k).2] []):=jR p1 hr p2;have hci:=Ch (q1:=q1) (q2:=q2) (q3:=q3) (m:=m) hw hr hi hkn;have hs:eT false 1 (ints ws) (I (i:Int)) (I (k:Int))=some (ints ((ws.take k).drop i)):=by
              rw [oS (by omega) (by simpa using ZM hkn),←aam,←ZY]
            have h8:=c8 k (by omega) (by omega);have hel:aI 1 (tbL ws.length fun x=>fnC (V x)) (I (k:Int))=some [I (fnC (V k))]:=by simp [hkn]
            have hvk:=hvin k hkn;have hfv:(V k).1=true→fnC (V k)=(V k).2.1:=fun e=>by unfold fnC;rw [if_pos e]
            have hfn:(V k).1=false→fnC (V k) = -1:=fun e=>by unfold fnC;rw [if_neg (by rw [e];decide)]
            generalize tbL ws.length (fun x=>fnC (V x))=t at *;generalize lcW q1 q2 q3 m ws i k=c at *;obtain⟨c,b⟩:=c;simp only at ec hci h8 ⊢;cases b
            · simp -implicitDefEqProofs [hlt,hs,hf3,ec,hwk]
            · cases hvk1:(V k).1
              · rw [hfn hvk1] at hel
                simp -implicitDefEqProofs [hlt,hs,hf3,ec,hwk,hel,gx]
              · have hvk2:=hvk hvk1
                have hwc:ZE.wrap (c+(V k).2.1)=c+(V k).2.1:=ae (by omega) (by omega);have hge:0≤(V k).2.1:=hvk2.1;have hne:¬c+(V k).2.1=(V i).2.1:=by have:=h8 rfl hvk1;omega
                rw [hfv hvk1] at hel;simp -implicitDefEqProofs [hlt,hs,hf3,ec,hwk,hel,gx,hwc,hge,hne]
          · have hc1:((i+1+(j - (i+1)):Nat):Int)=(j:Int):=by omega
            rw [hc1];have hlt:(j:Int)<(ws.length:Int):=by omega
            obtain⟨p1,p2⟩:=vw hw (show i<j by omega) (ZM c3);have ec:ct [ints ((ws.take j).drop i),aL q1 q2 q3,I m]=some (.ret [I (lcW q1 q2 q3 m ws i j).1,B (lcW q1 q2 q3 m ws i j).2] []):=jR p1 hr p2;have hs:eT false 1 (ints ws) (I (i:Int)) (I (j:Int))=some (ints ((ws.take j).drop i)):=by
              rw [oS (by omega) (by simpa using ZM c3),←aam,←ZY]
            have hci:=Ch (q1:=q1) (q2:=q2) (q3:=q3) (m:=m) hw hr hi c3;have hfv:fnC (V j)=(V j).2.1:=by unfold fnC;rw [if_pos c5]
            have hel:aI 1 (tbL ws.length fun x=>fnC (V x)) (I (j:Int))=some [I (V j).2.1]:=by simp [c3,hfv]
            have hvj:=hvin j c3 c5;have hwc:ZE.wrap ((lcW q1 q2 q3 m ws i j).1+(V j).2.1)=(lcW q1 q2 q3 m ws i j).1+(V j).2.1:=ae (by omega) (by omega);have hge:0≤(V j).2.1:=hvj.1;have happ:bY 1 8 (ints acc) (ints [(j:Int)])=some (ints (acc++[(j:Int)])):=AK (by simp;omega);have hone:=EA (j:Int);have hck:=BV [(j:Int)];generalize tbL ws.length (fun x=>fnC (V x))=t at *;generalize lcW q1 q2 q3 m ws i j=c at *;obtain⟨c,b⟩:=c;simp only at ec hci c4 c6 hwc ⊢;subst c4;replace hwc:=hwc.trans c6.symm;simp -implicitDefEqProofs only [aE,aX,aS,ZH,ZF,bp,decide_eq_true hlt,bt,if_true,hs,hf3,ec,bd,aF,sA,hel,aaM,fS,eJ,gx,Bq,decide_eq_true hge,mq,bZ,hwc,mw,decide_true,hone,hck,happ];simp -implicitDefEqProofs [hel,gx,hge,hwc]
          · simp
        · show acc++[(j:Int)]++(V j).2.2.1=_
          rw [List.append_assoc,←hacc,c7];rfl
        · show ws.length - j<ws.length - i
          omega
    · rw [ho]
      simp
theorem AL (ws:List Int) (q1 q2 q3 m:Int) (h:ws.length≤1048576):iE [ints ws,aL q1 q2 q3,I m]=some (.ret (nm q1 q2 q3 m ws) []):=by
 rw [zL];have hb:bE 3 (aL q1 q2 q3)=some (aL q1 q2 q3):=by simp [bE]
 have hf3:ba true 3 0 (aL q1 q2 q3)=some (aL q1 q2 q3):=by simp [ba,D.cells,D.ofCells,au]
 have e1:=lD ws q1 q2 q3 m (by omega);unfold nm;cases ha:tr ws q1 q2 q3 m
 ·rw [ha] at e1
  simp -implicitDefEqProofs [hb,hf3,e1,dw]
 ·rw [ha] at e1
  obtain⟨h1,h2,h3⟩:=Bm ha;have e2:=zQ h1 h2 h3;cases hv:(fA q1 q2 q3 m ws 0).1
  ·rw [hv] at e2
   simp -implicitDefEqProofs [hb,hf3,e1,e2,hv,aF,cv]
  ·rw [hv] at e2
   simp -implicitDefEqProofs [hb,hf3,e1,e2,hv,aF,cv]
end
end Go.Proofs.YtccaheogjpfhjaaGreat

namespace Go.Proofs.YtccaheogjpfhjaaGreat
open Go Go.V
set_option maxRecDepth 100000
section
variable {ws:List Int} {q1 q2 q3 m:Int}
def QB (l:List Int) (lo hi:Int):Bool:=du (fun i x=>decide (lo≤x∧x≤hi)&&(decide (i=0)||decide (l.getD (i - 1) 0<x))) 0 l
theorem Fp {β:Type} {p:Nat→β→Bool}:∀{l:List β} {i:Nat},du p i l=true→∀(j:Nat) (hj:j<l.length),p (i+j) l[j]=true
 | [],_,_,j,hj=>absurd hj (aaO _)
 | y::l,i,h,j,hj=>by
  simp only [du,ZR] at h;cases j with
  | zero=>exact h.1
  | succ j =>
   have:=Fp h.2 j (by simpa using hj);rw [show i+(j+1)=i+1+j by omega];exact this
theorem zG (l:List Int) (hm:l.length≤1048576) (lo hi:Int):jm [ints l,I lo,I hi]=some (.ret [B (QB l lo hi)] []):=by
 rw [BP];simp only [aS,ZH,ZF];refine ax _ (dJ l (fun i=>[ints l,I lo,I hi,ints l,I l.length,I i]) (fun i x=>decide (lo≤x∧x≤hi)&&(decide (i=0)||decide (l.getD (i - 1) 0<x))) (.ret [B false] []) (.ext 0 []) (fun i hi'=>?_) ?_ rfl rfl rfl) ?_
 ·have hw:ZE.wrap ((i:Int)+1)=(i:Int)+1:=ae (by omega) (by omega)
  have hwm:ZE.wrap ((i:Int) - 1)=(i:Int) - 1:=ae (by omega) (by omega);have hi2:(i:Int)<(l.length:Int):=by omega
  have hri:aI 1 (ints l) (I (i:Int))=some [I l[i]]:=by simp [hi']
  have hrp:0<i→aI 1 (ints l) (I ((i:Int) - 1))=some [I (l.getD (i - 1) 0)]:=fun h0=>by
   have h1:i - 1<l.length:=by omega
   rw [show((i:Int) - 1)=((i - 1:Nat):Int) by omega,aan,ZW h1];simp [h1]
  generalize l[i]=x at *;have hin:=cg x lo hi;by_cases c1:lo≤x∧x≤hi
  ·rw [decide_eq_true c1] at hin ⊢
   by_cases c2:i=0
   ·subst c2
    have hri0:aI 1 (ints l) (I 0)=some [I x]:=hri;have h0:(0:Nat)<l.length:=hi';have hw1:ZE.wrap 1=1:=by decide
    generalize ints l=d at *;simp -implicitDefEqProofs [hri0,hin,h0,hw1,gx]
   ·have hrp:=hrp (by omega)
    have c3:(0:Int)<(i:Int):=by omega
    have c4:0<i:=by omega
    generalize l.getD (i - 1) 0=y at *;generalize ints l=d at *;by_cases c5:y<x
    ·have c6:¬x≤y:=by omega
     simp -implicitDefEqProofs [hi2,hri,hin,hw,hwm,hrp,c2,c3,c4,c5,c6,gx]
    ·have c6:x≤y:=by omega
     simp -implicitDefEqProofs [hi2,hri,hin,hw,hwm,hrp,c2,c3,c4,c5,c6,gx]
  ·rw [decide_eq_false c1] at hin ⊢
   generalize ints l=d at *;simp -implicitDefEqProofs [hi2,hri,hin,gx]
 ·simp
 ·unfold QB
  cases du (fun i x=>decide (lo≤x∧x≤hi)&&(decide (i=0)||decide (l.getD (i - 1) 0<x))) 0 l<;>simp
theorem Cy (ws bs:List Int) (hw:ws.length≤1048576) (hb:bs.length≤1048576):iW [ints ws,ints bs]=some (.ret [B (QB bs 1 ((ws.length:Int) - 1))] []):=by
 rw [BJ];have hwm:ZE.wrap ((ws.length:Int) - 1)=(ws.length:Int) - 1:=ae (by omega) (by omega);simp -implicitDefEqProofs [hwm,zG bs hb]
def Mq (q1 q2 q3 m:Int) (ws:List Int) (c:Int):Prop:=tr ws q1 q2 q3 m=true∧(fA q1 q2 q3 m ws 0).1=true∧(fA q1 q2 q3 m ws 0).2.1≤c
theorem vV (ws bs:List Int) (q1 q2 q3 m:Int) (hwl:ws.length≤1048576) (hbl:bs.length≤1048576):∃(c:Int) (b:Bool),gc [ints ws,aL q1 q2 q3,I m,ints bs]=some (.ret [I c,B b] [])∧(b=true→Mq q1 q2 q3 m ws c):=by
 rw [vP];have hb:bE 3 (aL q1 q2 q3)=some (aL q1 q2 q3):=by simp [bE]
 have hf3:ba true 3 0 (aL q1 q2 q3)=some (aL q1 q2 q3):=by simp [ba,D.cells,D.ofCells,au]
 have e1:=lD ws q1 q2 q3 m (by omega);cases ha:tr ws q1 q2 q3 m
 ·rw [ha] at e1
  exact⟨0,false,by simp -implicitDefEqProofs [hb,hf3,e1],fun h=>by cases h⟩
 rw [ha] at e1;obtain⟨hw,hr,h0⟩:=Bm ha;have hl:=hw.len;have hp:0<ws.length:=ZQ.2 h0;have e2:=Cy ws bs hwl hbl;cases hrs:QB bs 1 ((ws.length:Int) - 1)
 ·rw [hrs] at e2
  exact⟨0,false,by simp -implicitDefEqProofs [hb,hf3,e1,e2],fun h=>by cases h⟩
 rw [hrs] at e2;have hin:∀(i:Nat) (hi:i<bs.length),1≤bs[i]∧bs[i]≤(ws.length:Int) - 1:=fun i hi=>by
  have:=Fp hrs i hi;simp only [ZR,decide_eq_true_eq] at this;exact this.1
 have hup:∀(i:Nat) (hi:i+1<bs.length),bs[i]'(by omega)<bs[i+1]:=fun i hi=>by
  have:=Fp hrs (i+1) hi;simp only [ZR,decide_eq_true_eq,Bool.or_eq_true] at this;rcases this.2 with h | h
  ·omega
  ·rw [aan,show 0+(i+1) - 1=i by omega,ZW (by omega)] at h
   exact h
 simp -implicitDefEqProofs only [hb,hf3,e1,e2,ZF,bd,aE,lH,Bool.not_true,sA,sc,Mj,MB,vF,Mz,nT,mq,bt,ZI,if_false,aS,ZH];refine bu (fun r=>∃(c:Int) (b:Bool),r=some (.ret [I c,B b] [])∧(b=true→Mq q1 q2 q3 m ws c)) (fun a:Int × Nat × Nat=>[ints ws,I m,aL q1 q2 q3,I a.1,I (a.2.1:Int),ints bs,I (bs.length:Int),I (a.2.2:Int)])
  (fun a=>a.2.2≤bs.length∧a.2.1<ws.length∧(∀h:a.2.2<bs.length,(a.2.1:Int)<bs[a.2.2])∧0≤a.1∧a.1≤100000*(a.2.2:Int)∧((fA q1 q2 q3 m ws a.2.1).1=true→(fA q1 q2 q3 m ws 0).1=true∧(fA q1 q2 q3 m ws 0).2.1≤a.1+(fA q1 q2 q3 m ws a.2.1).2.1))
  (fun a=>bs.length - a.2.2) (fun o=>(o = .ret [I 0,B false] [])∨∃(c:Int) (i:Nat),o = .ext 0 [ints ws,I m,aL q1 q2 q3,I c,I (i:Int)]∧i<ws.length∧((fA q1 q2 q3 m ws i).1=true→(fA q1 q2 q3 m ws 0).1=true∧(fA q1 q2 q3 m ws 0).2.1≤c+(fA q1 q2 q3 m ws i).2.1)) (fun a hI=>?_) (0,0,0) ⟨aaI _,hp,fun h=>?_,aar 0,by simp,fun h=>⟨h,by simp⟩⟩ rfl (fun o ho=>?_)
 ·obtain⟨c,i,x⟩:=a
  obtain⟨h1,h2,h3,h4,h5,h6⟩:=hI;simp only at h1 h2 h3 h4 h5 h6 ⊢;by_cases hx:x<bs.length
  ·obtain⟨g1,g2⟩:=hin x hx
   have g3:=h3 hx;obtain⟨j,hj⟩:∃j:Nat,bs[x]=(j:Int):=⟨bs[x].toNat,by omega⟩
   have hij:i<j:=by omega
   have hjn:j<ws.length:=by omega
   have hwx:ZE.wrap ((x:Int)+1)=(x:Int)+1:=ae (by omega) (by omega);have hlt:(x:Int)<(bs.length:Int):=by omega
   obtain⟨p1,p2⟩:=vw hw hij (ZM hjn);have ec:ct [ints ((ws.take j).drop i),aL q1 q2 q3,I m]=some (.ret [I (lcW q1 q2 q3 m ws i j).1,B (lcW q1 q2 q3 m ws i j).2] []):=jR p1 hr p2;have hci:=Ch (q1:=q1) (q2:=q2) (q3:=q3) (m:=m) hw hr h2 hjn;have hs:eT false 1 (ints ws) (I (i:Int)) (I (j:Int))=some (ints ((ws.take j).drop i)):=by
    rw [oS (by omega) (by simpa using ZM hjn),←aam,←ZY]
   have hel:aI 1 (ints bs) (I (x:Int))=some [I (j:Int)]:=by simp [hx,hj]
   have hwc:ZE.wrap (c+(lcW q1 q2 q3 m ws i j).1)=c+(lcW q1 q2 q3 m ws i j).1:=ae (by omega) (by omega);have hB:=uX (q1:=q1) (q2:=q2) (q3:=q3) (m:=m) hw hr h2;cases hok:(lcW q1 q2 q3 m ws i j).2
   ·rw [hok] at ec
    refine .inr ⟨.ret [I 0,B false] [],?_,rfl,.inl rfl⟩
    generalize ints bs=t at *;simp -implicitDefEqProofs [hlt,hel,gx,hs,hf3,ec]
   ·rw [hok] at ec
    refine .inl ⟨(c+(lcW q1 q2 q3 m ws i j).1,j,x+1),?_,⟨by show x+1≤bs.length;omega,hjn,fun h=>?_,by show 0≤c+(lcW q1 q2 q3 m ws i j).1;omega,by show c+(lcW q1 q2 q3 m ws i j).1≤100000*((x+1:Nat):Int);omega,fun hv=>?_⟩,by show bs.length - (x+1)<bs.length - x;omega⟩
    ·generalize ints bs=t at *
     simp -implicitDefEqProofs [hlt,hel,gx,hs,hf3,ec,hwx,hwc]
    ·have:=hup x h
     simp only at h ⊢;omega
    ·have hvi:(fA q1 q2 q3 m ws i).1=true:=by
      cases hvi:(fA q1 q2 q3 m ws i).1
      ·exact((hB.no hvi).2 j (by omega) hjn hok hv).elim
      ·rfl
     have:=hB.mn hvi j (by omega) hjn hok hv;obtain⟨k1,k2⟩:=h6 hvi;exact⟨k1,by simp only;omega⟩
  ·refine .inr ⟨.ext 0 [ints ws,I m,aL q1 q2 q3,I c,I (i:Int)],?_,rfl,.inr ⟨c,i,rfl,h2,h6⟩⟩
   have hge:¬(x:Int)<(bs.length:Int):=by omega
   simp -implicitDefEqProofs only [aE,aX,bp,ZF,decide_eq_false hge,bt,ZI,if_false]
 ·have:=hin 0 h
  simp only at h ⊢;omega
 ·rcases ho with rfl | ⟨c,i,rfl,hi,h6⟩
  ·exact⟨0,false,by simp,fun h=>by cases h⟩
  ·obtain⟨d1,d2⟩:=EG hw hi
   have ece:dG [ints (ws.drop i),aL q1 q2 q3,I m]=some (.ret [B (Fw q2 m ws i)] []):=qt d1 hr d2;have hsh:fw false 1 (ints ws) (I (i:Int))=some (ints (ws.drop i)):=by
    rw [uh (by simpa using ZM hi),←ZY]
   have hB:=uX (q1:=q1) (q2:=q2) (q3:=q3) (m:=m) hw hr hi;cases hla:Fw q2 m ws i
   ·rw [hla] at ece
    exact⟨0,false,by simp -implicitDefEqProofs [hsh,hf3,ece],fun h=>by cases h⟩
   ·rw [hla] at ece
    refine⟨c,true,by simp -implicitDefEqProofs [hsh,hf3,ece],fun _=>⟨ha,?_⟩⟩
    have hvi:(fA q1 q2 q3 m ws i).1=true:=by
     cases hvi:(fA q1 q2 q3 m ws i).1
     ·have:=(hB.no hvi).1
      rw [hla] at this;cases this
     ·rfl
    obtain⟨k1,k2⟩:=h6 hvi;rcases hB.at_ hvi with ⟨_,c2,_⟩ | ⟨c1,_⟩
    ·exact⟨k1,by omega⟩
    ·rw [hla] at c1
     cases c1
end
end Go.Proofs.YtccaheogjpfhjaaGreat

namespace Go.Proofs.YtccaheogjpfhjaaGreat
open Go Go.Proofs Go.V Go.RowKit Go.Lib
set_option maxRecDepth 100000
theorem Kq:∀(i:Nat) (a b:List Int),i≤a.length→i≤b.length→(∀k,k<i→a[k]?=b[k]?)→sd a b=sd (a.drop i) (b.drop i)
 | 0,_,_,_,_,_=>rfl
 | i+1,[],_,h,_,_=>by simp at h
 | i+1,_::_,[],_,h,_=>by simp at h
 | i+1,x::a,y::b,h1,h2,h3=>by
  have e:x=y:=by simpa using h3 0 (by omega)
  rw [sd,if_pos e,aaz,aaz];exact Kq i a b (by simpa using h1) (by simpa using h2) fun k hk=>by simpa using h3 (k+1) (by omega)
theorem Ix (a b:List Int) (ha:a.length≤1048576) (hb:b.length≤1048576):mo [ints a,ints b]=some (.ret [B (sd a b)] []):=by
 rw [Ik];refine bu (fun r=>r=some (Out.ret [B (sd a b)] [])) (fun i:Nat=>[ints a,ints b,I (i:Int)]) (fun i=>i≤a.length∧i≤b.length∧∀k,k<i→a[k]?=b[k]?) (fun i=>a.length - i)
  (fun o=>o = .ret [B (sd a b)] []∨(o = .ext 0 [ints a,ints b]∧sd a b=decide (a.length<b.length))) (fun i hI=>?_) 0 ⟨aaI _,aaI _,fun k hk=>absurd hk (aaO _)⟩ rfl (fun o ho=>?_)
 ·obtain⟨h1,h2,h3⟩:=hI
  have hlex:=Kq i a b h1 h2 h3;by_cases ca:i<a.length
  ·by_cases cb:i<b.length
   ·have ea:aI 1 (ints a) (I (i:Int))=some [I a[i]]:=by simp [ca]
    have eb:aI 1 (ints b) (I (i:Int))=some [I b[i]]:=by simp [cb]
    have la:lenD false (ints a)=some (I (a.length:Int)):=by simp
    have lb:lenD false (ints b)=some (I (b.length:Int)):=by simp
    have hwi:ZE.wrap ((i:Int)+1)=(i:Int)+1:=ae (by omega) (by omega);have ia:(i:Int)<(a.length:Int):=by omega
    have ib:(i:Int)<(b.length:Int):=by omega
    by_cases ce:a[i]=b[i]
    ·refine .inl ⟨i+1,?_,⟨by omega,by omega,fun k hk=>?_⟩,by omega⟩
     ·rw [←ce] at eb
      generalize ints a=da at *;generalize ints b=db at *;simp -implicitDefEqProofs [la,lb,ea,eb,ia,ib,hwi,gx]
     ·by_cases hki:k=i
      ·subst hki
       rw [ZW ca,ZW cb,ce]
      ·exact h3 k (by omega)
    ·refine .inr ⟨.ret [B (sd a b)] [],?_,rfl,.inl rfl⟩
     have hv:sd a b=decide (a[i]<b[i]):=by
      rw [hlex,ZV ca,ZV cb,sd,if_neg ce]
     rw [hv];generalize ints a=da at *;generalize ints b=db at *;simp -implicitDefEqProofs [la,lb,ea,eb,ia,ib,hwi,gx,ce]
   ·refine .inr ⟨.ext 0 [ints a,ints b],?_,rfl,.inr ⟨rfl,?_⟩⟩
    ·have ia:(i:Int)<(a.length:Int):=by omega
     have ib:¬(i:Int)<(b.length:Int):=by omega
     simp -implicitDefEqProofs [ia,ib]
    ·rw [hlex,ZV ca,aaa (by omega:b.length≤i),sd]
     exact(decide_eq_false (by omega)).symm
  ·refine .inr ⟨.ext 0 [ints a,ints b],?_,rfl,.inr ⟨rfl,?_⟩⟩
   ·have ia:¬(i:Int)<(a.length:Int):=by omega
    simp -implicitDefEqProofs [ia]
   ·rw [hlex,aaa (by omega:a.length≤i)]
    by_cases cb:i<b.length
    ·rw [ZV cb,sd]
     exact(decide_eq_true (by omega)).symm
    ·rw [aaa (by omega:b.length≤i),sd]
     exact(decide_eq_false (by omega)).symm
 ·rcases ho with rfl | ⟨rfl,h⟩
  ·simp
  ·rw [h]
   simp
theorem GA {w:World} {F:Nat→Prop}:∀(l:List Int) (us:List Value),bW w F (l.map I) us→us=l.map (ZZ .i64)
 | [],us,h=>aW.1 h
 | x::l,us,h=>by
  obtain⟨v1,v2,rfl,h1,h2⟩:=aA.1 h;simp only [RepC] at h1;rw [GA l v2 h2,h1.1];rfl
theorem OC {w:World} {F:Nat→Prop} {l:List Int} {b o c:Nat} (h:bf w F (ints l) (.slice (some ⟨b,o,none⟩) l.length c)) {i j:Nat} (hij:i<j) (hj:j≤l.length):bf w F (ints ((l.take j).drop i)) (.slice (some ⟨b,o+i,none⟩) (j - i) (c - i)):=by
 obtain⟨A,c',us,e1,hc,hr,hw,hA⟩:=h;have hl:l≠[]:=fun e=>by rw [e] at hj;simp at hj;omega
 have e1':=(aaR e1).1;simp only [aaG] at e1';obtain⟨e2,_,e3⟩:=e1';subst e3;rw [ZH] at hc;have hus:=GA l us hr;subst hus;obtain⟨b',o',e4,hF,hcell⟩:=hA (by simpa using hl);rw [←e2] at e4;cases e4;have hlen:((l.take j).drop i).length=j - i:=by simp;omega
 refine⟨some ⟨b,o+i,none⟩,c - i,((l.take j).drop i).map (ZZ .i64),by rw [ZH,hlen],by rw [ZH,hlen];omega,vH _,fun d hd=>?_,fun _=>⟨b,o+i,rfl,hF,fun k u hu=>?_⟩⟩
 ·obtain⟨x,_,rfl⟩:=aaj.1 hd
  rfl
 ·rw [aaH,List.getElem?_drop] at hu
  have h2:=hcell (i+k) u (by
   rw [aaH];rw [List.getElem?_take] at hu;split at hu
   ·exact hu
   ·simp at hu)
  rw [Nat.add_assoc];exact h2
abbrev Xk (a b c:Int):Value:=.agg #[.int .i64 a,.int .i64 b,.int .i64 c]
theorem Ov (w:World) (F:Nat→Prop) (q1 q2 q3:Int):bf w F (aL q1 q2 q3) (Xk q1 q2 q3):=by
 refine⟨[_,_,_],rfl,?_⟩
 simp only [RepC,aA,aW];exact⟨⟨[_],[_,_],rfl,⟨rfl,rfl⟩,[_],[_],rfl,⟨rfl,rfl⟩,[_],[],rfl,⟨rfl,rfl⟩,rfl⟩,rfl⟩
theorem UL {w:World} {F:Nat→Prop} {q1 q2 q3:Int} {y:Value} (h:bf w F (aL q1 q2 q3) y):y=Xk q1 q2 q3:=by
 obtain⟨vs,rfl,h⟩:=h;simp only [RepC,aA,aW] at h;obtain⟨⟨v1,v2,rfl,⟨rfl,_⟩,v3,v4,rfl,⟨rfl,_⟩,v5,v6,rfl,⟨rfl,_⟩,rfl⟩,_⟩:=h;rfl
theorem lR.rep {W:World} {B:Nat} {y:Value} {l:List Int} (h:lR W B y l):bf W (fun b=>B≤b∧b<W.heap.size) (ints l) y:=by
 rcases h with ⟨rfl,rfl⟩ | ⟨g,cap,cur,rfl,h1,h2,h3,h4,h5⟩
 ·show RepC _ _ (.arr 1 []) [.slice none 0 0]
  simp only [RepC];exact⟨none,0,[],rfl,ZN _,aW.2 rfl,(fun d hd=>by cases hd),fun h=>absurd rfl h⟩
 ·refine⟨some ⟨g,0,none⟩,cap,l.map (ZZ .i64),by rw [ZH],by rw [ZH];exact h3,vH l,fun d hd=>?_,fun _=>⟨g,0,rfl,⟨h1,aG h2⟩,fun i u hu=>?_⟩⟩
  ·obtain⟨x,_,rfl⟩:=aaj.1 hd
   rfl
  ·rw [aap h2,aaq]
   exact h5 i u hu
abbrev QO (v:Way):D:=.agg [B v.1,I v.2.1,ints v.2.2.1,I v.2.2.2]
theorem Wd {W:World} {F:Nat→Prop} {y:Value} {v:Way} (h:bf W F (ints v.2.2.1) y):bf W F (QO v) (.agg #[.bool v.1,.int .i64 v.2.1,y,.int .i64 v.2.2.2]):=by
 refine⟨[_,_,_,_],rfl,?_⟩
 simp only [RepC];refine⟨aA.2 ⟨[_],[_,_,_],rfl,(by simp only [RepC];exact⟨trivial,rfl⟩),aA.2 ⟨[_],[_,_],rfl,(by simp only [RepC];exact⟨trivial,rfl⟩),aA.2 ⟨[_],[_],rfl,h,aA.2 ⟨[_],[],rfl,(by simp only [RepC];exact⟨trivial,rfl⟩),aW.2 rfl⟩⟩⟩⟩,rfl⟩
set_option maxRecDepth 100000
theorem QT {a b:List Int} (h:ints a=ints b):a=b:=EK (fun x y e=>by simpa using e) (D.arr.inj h).2
def TL (ds:List D) (x:List Int × Int × Int × Int × Int):Prop:=ds=[ints x.1,aL x.2.1 x.2.2.1 x.2.2.2.1,I x.2.2.2.2,I 0]∧tr x.1 x.2.1 x.2.2.1 x.2.2.2.1 x.2.2.2.2=true
open Classical in
def gY (ds:List D):Option Out:=if h:∃x,TL ds x then some (.ret [QO (fA (ZX h).2.1 (ZX h).2.2.1 (ZX h).2.2.2.1 (ZX h).2.2.2.2 (ZX h).1 0)] []) else none
theorem xy {ws:List Int} {q1 q2 q3 m:Int} (h:tr ws q1 q2 q3 m=true):gY [ints ws,aL q1 q2 q3,I m,I 0]=some (.ret [QO (fA q1 q2 q3 m ws 0)] []):=by
 have hh:∃x,TL [ints ws,aL q1 q2 q3,I m,I 0] x:=⟨(ws,q1,q2,q3,m),rfl,h⟩
 unfold gY;rw [dif_pos hh];have h2:=(Classical.choose_spec hh).1;generalize ZX hh=x at *;obtain⟨ws',a,b,c,d⟩:=x;simp only [List.cons.injEq,D.agg.injEq,D.v.injEq,ZZ.injEq,and_true,true_and] at h2;obtain⟨e1,⟨rfl,rfl,rfl⟩,rfl⟩:=h2;obtain rfl:=QT e1;rfl
@[reducible] def qr:FS:={pm:=[.dat 2,.dat 0,.dat 0,.dat 0],rm:=[.dat 1],f:=gY}
theorem Ji:aw gl0 Tryz.prog 106 qr:=by
 have he:∀args w,(callFunc 106 args).run Tryz.prog w = .ok (.enter 106 args) w:=aae Tryz.func106 (by kernel_rfl) rfl;refine kR he fun ds rs us hd args w F ow hg ha hF _=>?_
 have hd0:gY ds=some (.ret rs us):=hd;have hh:∃x,TL ds x:=by
  unfold gY at hd0;split at hd0
  ·assumption
  ·cases hd0
 obtain⟨⟨ws,q1,q2,q3,m⟩,rfl,hask⟩:=hh;simp only at hask hd0 ha;rw [xy hask] at hd0;simp only [Option.some.injEq,Out.ret.injEq] at hd0;obtain⟨rfl,rfl⟩:=hd0;obtain⟨hws,hru,hne⟩:=Bm hask;have hl24:=hws.len;obtain⟨y1,y2,y3,y4,rfl,r1,r2,r3,r4⟩:=KJ ha (by simp) (by simp) (by simp) (by simp);obtain rfl:=UL r2;obtain⟨rfl,_⟩:=cX.1 r3;obtain⟨rfl,_⟩:=cX.1 r4;replace r1:bf w F (ints ws) y1:=r1;obtain⟨A,cA,rfl⟩:=CZ r1;rw [ZH] at r1 ⊢;have hcA:ws.length≤cA∧(0<ws.length→∃b o,A=some ⟨b,o,none⟩):=by
  obtain⟨A',c',us,e1,hc,hr,hw,hA⟩:=r1;have e1':=(aaR e1).1;simp only [aaG] at e1';obtain⟨rfl,_,rfl⟩:=e1';refine⟨by simpa using hc,fun h=>?_⟩
  obtain⟨b,o,e,_⟩:=hA (fun e=>by
   have:=congrArg aas e;simp at this;rw [this] at h;simp at h)
  exact⟨b,o,e⟩
 have hp1:∀W,Below w.heap.size w W→bf W (fun b=>b<W.heap.size) (ints ws) (.slice A ws.length cA):=fun W hW=>aK (fun b hb=>Nat.lt_of_lt_of_le (hF b hb).1 hW.size) (fun b hb=>hW.block b (hF b hb).1) r1
 refine(Rr w ws.length (by omega) A cA hcA.1 hcA.2 q1 q2 q3 m (Fw q2 m ws) (lcW q1 q2 q3 m ws) (fun W b o i hAe hi hW=>?_) (fun W b o i j hAe hij hj hW=>?_) (fun W y z a b la lb hW hy hz=>?_)).mono ?_
 ·have hp:=hp1 W hW
  rw [hAe] at hp;have hp2:=OC hp hi (ZN _);rw [List.take_length] at hp2;obtain⟨d1,d2⟩:=EG hws hi;refine(qa (w:=W) (args:=#[.slice (some ⟨b,o+i,none⟩) (ws.length - i) (cA - i),DG q1 q2 q3,.int .i64 m,.bool true]) (ds:=[ints (ws.drop i),aL q1 q2 q3,I m,B true]) (F:=fun b=>b<W.heap.size) (aae Tryz.func130 (by kernel_rfl) rfl) wK (Fj d1 hru d2)
   (show cR W _ _ (.dat 2) (ints (ws.drop i)) (.slice (some ⟨b,o+i,none⟩) (ws.length - i) (cA - i))∧cR W _ _ (.dat 0) (aL q1 q2 q3) (DG q1 q2 q3)∧cR W _ _ (.dat 0) (I m) (.int .i64 m)∧cR W _ _ (.dat 0) (B true) (.bool true)∧True from⟨.inr hp2,.inr (Ov _ _ _ _ _),.inr (cX.2 ⟨rfl,rfl⟩),.inr (cX.2 ⟨rfl,rfl⟩),trivial⟩) (fun b hb=>hb)).mono ?_
  rintro e W' ⟨rfl,hb⟩;exact⟨0,rfl,hb⟩
 ·have hp:=hp1 W hW
  rw [hAe] at hp;have hp2:=OC hp hij (ZM hj);obtain⟨d1,d2⟩:=vw hws hij (ZM hj);exact qa (w:=W) (args:=#[.slice (some ⟨b,o+i,none⟩) (j - i) (cA - i),DG q1 q2 q3,.int .i64 m,.bool false]) (ds:=[ints ((ws.take j).drop i),aL q1 q2 q3,I m,B false]) (F:=fun b=>b<W.heap.size) (aae Tryz.func130 (by kernel_rfl) rfl) wK (Gy d1 hru d2)
   (show cR W _ _ (.dat 2) (ints ((ws.take j).drop i)) (.slice (some ⟨b,o+i,none⟩) (j - i) (cA - i))∧cR W _ _ (.dat 0) (aL q1 q2 q3) (DG q1 q2 q3)∧cR W _ _ (.dat 0) (I m) (.int .i64 m)∧cR W _ _ (.dat 0) (B false) (.bool false)∧True from⟨.inr hp2,.inr (Ov _ _ _ _ _),.inr (cX.2 ⟨rfl,rfl⟩),.inr (cX.2 ⟨rfl,rfl⟩),trivial⟩) (fun b hb=>hb)
 ·have hy2:=hy.rep
  have hz2:=hz.rep;exact fd (aae Tryz.func131 (by kernel_rfl) rfl) IU mo rfl (Ix a b la lb) rfl (F:=fun b=>b<W.heap.size) ga
   (show cR W _ _ (.dat 2) (ints a) y∧cR W _ _ (.dat 2) (ints b) z∧True from⟨.inr (aK (fun b hb=>hb.2) (fun _ _=>rfl) hy2),.inr (aK (fun b hb=>hb.2) (fun _ _=>rfl) hz2),trivial⟩) (fun b hb=>hb)
 ·rintro e w' ⟨hB,y,rfl,hbrk⟩
  refine⟨_,rfl,?_⟩
  obtain⟨F',R,hpost⟩:=rU (S:=qr) (args:=#[.slice A ws.length cA,DG q1 q2 q3,.int .i64 m,.int .i64 0]) (d:=QO (fA q1 q2 q3 m ws 0)) (K:=fun b=>w.heap.size≤b∧b<w'.heap.size) (fl:=[]) (w':=w') (Wd hbrk.rep) (fun b hb=>hb) hB hF rfl rfl rfl (by simp);exact⟨F',R,_,rfl,hpost⟩
end Go.Proofs.YtccaheogjpfhjaaGreat

namespace Go.Proofs.YtccaheogjpfhjaaGreat
open Go Go.V
set_option maxRecDepth 100000
structure Cur where
 code:List Int
 at_:Nat
 seed:Int
abbrev gw (l:List Int):D:=.arr 1 (l.map U)
abbrev aR (c:Cur):D:=.agg [gw c.code,I c.at_,.v (.int .u64 c.seed)]
structure Cur.ok (c:Cur) (B:Nat):Prop where
 by_:∀n∈c.code,0≤n∧n≤255
 len:c.code.length≤9223372036854775807
 at_:c.at_≤B
 lo:0≤c.seed
 hi:c.seed<18446744073709551616
theorem KX {k:IntKind} {n:Int}:pN (some .i64) false (.v (.int k n))=some (I (ZE.wrap n)):=rfl
theorem Ke {k:IntKind} {n:Int}:pN (some .u64) false (.v (.int k n))=some (.v (.int .u64 (aad.wrap n))):=rfl
theorem Rk {n:Int} {bl:Bool} {eq:List Nat}:bin .shr bl eq (.v (.int .u64 n)) (.v (.int .u64 40))=some (.v (.int .u64 (n.fdiv 1099511627776))):=by
 simp [bin,IntKind.bits]
theorem WQ {a b:Int} {bl:Bool} {eq:List Nat}:bin .and bl eq (.v (.int .u64 a)) (.v (.int .u64 b))=some (.v (.int .u64 (bits .and .u64 a b))):=by simp [bin,jX]
theorem Xp {n:Int} (h0:0≤n) (h1:n<18446744073709551616):0≤bits .and .u64 n 255∧bits .and .u64 n 255≤255:=by
 obtain⟨m,rfl⟩:=ZU h0;have:=bits_and_u64_nat m 255 (by omega) (by omega);rw [show((255:Int))=((255:Nat):Int) from rfl,this];have h2:m &&& 255≤255:=Nat.and_le_right;omega
theorem Vb (n:Int):0≤aad.wrap n∧aad.wrap n<18446744073709551616:=by
 rw [IntKind.wrap_u64];omega
def qj (s n:Int):Int:=aad.wrap (aad.wrap (aad.wrap (s*6364136223846793005)+aad.wrap n)+1442695040888963407)
def DB (s:Int):Int:=bits .and .u64 (s.fdiv 1099511627776) 255
theorem kp (s n:Int):0≤qj s n∧qj s n<18446744073709551616:=Vb _
theorem MI {s:Int} (h0:0≤s) (h1:s<18446744073709551616):0≤DB s∧DB s≤255:=by
 unfold DB;rw [Int.fdiv_eq_ediv_of_nonneg _ (by omega)];exact Xp (by omega) (by omega)
theorem YM (c:Cur) (B:Nat) (h:c.ok B) (hB:B≤1000000000000) (hc:c.at_<c.code.length):dK [aR c]=some (.ret [I c.code[c.at_]] [aR ⟨c.code,c.at_+1,qj c.seed c.code[c.at_]⟩]):=by
 have hl:=h.len;have ha:=h.at_;have hw:ZE.wrap ((c.at_:Int)+1)=(c.at_:Int)+1:=ae (by omega) (by omega);have hn:=h.by_ c.code[c.at_] (ZP hc);have hv:ZE.wrap c.code[c.at_]=c.code[c.at_]:=ae (by omega) (by omega);have hle:(c.at_:Int)+1≤(c.code.length:Int):=by omega
 rw [pe];simp -implicitDefEqProofs [hc,hw,hv,hle,KX,Ke,qj]
theorem Zd (c:Cur) (B:Nat) (h:c.ok B) (hB:B≤1000000000000) (hc:¬c.at_<c.code.length):dK [aR c]=some (.ret [I (DB (qj c.seed 0))] [aR ⟨c.code,c.at_+1,qj c.seed 0⟩]):=by
 have hl:=h.len;have ha:=h.at_;have hw:ZE.wrap ((c.at_:Int)+1)=(c.at_:Int)+1:=ae (by omega) (by omega);have hle:¬(c.at_:Int)+1≤(c.code.length:Int):=by omega
 have hq:=MI (kp c.seed 0).1 (kp c.seed 0).2;have hv:ZE.wrap (DB (qj c.seed 0))=DB (qj c.seed 0):=ae (by omega) (by omega);unfold DB qj at hv;rw [pe];simp -implicitDefEqProofs [hc,hw,hle,KX,Ke,Rk,WQ,hv,qj,DB]
theorem UK (c:Cur) (B:Nat) (h:c.ok B) (hB:B≤1000000000000):∃v c',dK [aR c]=some (.ret [I v] [aR c'])∧0≤v∧v≤255∧c'.ok (B+1):=by
 have ha:=h.at_;by_cases hc:c.at_<c.code.length
 ·have hn:=h.by_ c.code[c.at_] (ZP hc)
  exact⟨_,_,YM c B h hB hc,hn.1,hn.2,⟨h.by_,h.len,Nat.succ_le_succ ha,(kp _ _).1,(kp _ _).2⟩⟩
 ·have hq:=MI (kp c.seed 0).1 (kp c.seed 0).2
  exact⟨_,_,Zd c B h hB hc,hq.1,hq.2,⟨h.by_,h.len,Nat.succ_le_succ ha,(kp _ _).1,(kp _ _).2⟩⟩
theorem dg (c:Cur) (n:Int) (B:Nat) (h:c.ok B) (hB:B≤100000000000) (hn:n≤1000000000):∃v c',ah [aR c,I n]=some (.ret [I v] [aR c'])∧0≤v∧(v<n∨v=0)∧c'.ok (B+2):=by
 rw [BH];by_cases h1:n≤1
 ·exact⟨0,c,by simp [h1],by omega,.inr rfl,⟨h.by_,h.len,by have:=h.at_;omega,h.lo,h.hi⟩⟩
 obtain⟨v,c1,e1,l1,u1,k1⟩:=UK c B h (by omega);have hn0:¬n=0:=by omega
 by_cases h2:200<n
 ·obtain⟨v2,c2,e2,l2,u2,k2⟩:=UK c1 (B+1) k1 (by omega)
  have w1:ZE.wrap (v*256)=v*256:=ae (by omega) (by omega);have w2:ZE.wrap (v*256+v2)=v*256+v2:=ae (by omega) (by omega);refine⟨(v*256+v2).tmod n,c2,by simp [h1,h2,e1,e2,w1,w2,hn0],Int.tmod_nonneg _ (by omega),.inl (Int.tmod_lt_of_pos _ (by omega)),k2⟩
 ·refine⟨v.tmod n,c1,by simp [h1,h2,e1,hn0],Int.tmod_nonneg _ l1,.inl (Int.tmod_lt_of_pos _ (by omega)),⟨k1.by_,k1.len,by have:=k1.at_;omega,k1.lo,k1.hi⟩⟩
theorem ly (c:Cur) (n:Int) (B:Nat) (h:c.ok B) (hB:B≤100000000000) (hn:n≤1000000000):∃(b:Bool) (c':Cur),aP [aR c,I n]=some (.ret [.v (.bool b)] [aR c'])∧c'.ok (B+2):=by
 rw [De];obtain⟨v,c1,e1,l1,u1,k1⟩:=dg c n B h hB hn;exact⟨_,c1,by simp [e1];rfl,k1⟩
abbrev iP (l:List Int):D:=.arr 1 (l.map I)
theorem gE (c:Cur) (l:List Int) (B:Nat) (h:c.ok B) (hB:B≤100000000000) (hl:l≠[]) (hn:l.length≤1000000000):∃v c',ak [aR c,iP l]=some (.ret [I v] [aR c'])∧v∈l∧c'.ok (B+2):=by
 rw [yP];have hp:0<l.length:=ZQ.2 hl;obtain⟨v,c1,e1,l1,u1,k1⟩:=dg c l.length B h hB (by omega);obtain⟨i,rfl⟩:=ZU l1;have hi:i<l.length:=by omega
 exact⟨l[i],c1,by simp [e1,hi],ZP hi,k1⟩
theorem Cur.ok.mono {c:Cur} {B C:Nat} (h:c.ok B) (hBC:B≤C):c.ok C:=⟨h.by_,h.len,aaA h.at_ hBC,h.lo,h.hi⟩
theorem vb {l:List Int}:ay 1 (l.map I)=some (iP l):=by
 have:eA 1 (l.map I).length (l.map I)=true:=by
  unfold eA;simp
 simp only [ay,this,if_true]
theorem Ld (l:List Int):cO [(0,1)] [D.arr 1 [],I 0,D.v (.int .u64 0)] [gw l]=some (.agg [gw l,I 0,D.v (.int .u64 0)]):=by
 simp [cO,iG]
structure Bytes (l:List Int):Prop where
 by_:∀n∈l,0≤n∧n≤255
 len:l.length≤9223372036854775807
theorem Uw {l:List Int} (h:Bytes l):Cur.ok ⟨l,0,0⟩ 0:=⟨h.by_,h.len,ZN _,aar 0,show(0:Int)<18446744073709551616 by decide⟩
abbrev txs (l:List ByteArray):D:=.arr 1 (l.map T)
theorem NY {l:List ByteArray}:ay 1 (l.map T)=some (txs l):=by
 have:eA 1 (l.map T).length (l.map T)=true:=by
  unfold eA;simp
 simp only [ay,this,if_true]
theorem VP (c:Cur) (l:List ByteArray) (B:Nat) (h:c.ok B) (hB:B≤100000000000) (hl:l≠[]) (hn:l.length≤1000000000):∃v c',dp [aR c,txs l]=some (.ret [T v] [aR c'])∧v∈l∧c'.ok (B+2):=by
 rw [DW];have hp:0<l.length:=ZQ.2 hl;obtain⟨v,c1,e1,l1,u1,k1⟩:=dg c l.length B h hB (by omega);obtain⟨i,rfl⟩:=ZU l1;have hi:i<l.length:=by omega
 exact⟨l[i],c1,by simp [e1,hi],ZP hi,k1⟩
set_option maxRecDepth 100000
def fN {β:Type} (p:β→Bool):Nat→List β→Option Nat
 | _,[]=>none
 | i,x::l=>if p x=true then some i else fN p (i+1) l
theorem CX {β:Type} {body:List D→Option Out} (l:List β) (st:Nat→List D) (p:β→Bool) (o1:Nat→Out) (o2:Out) (hs:∀(i:Nat) (hi:i<l.length),body (st i)=some (if p l[i]=true then o1 i else .nrm (st (i+1)))) (he:body (st l.length)=some o2)
  (h1:∀i,(o1 i).ends=true) (h2:o2.ends=true) {s0:List D} (h:s0=st 0):aQ body s0=some ((fN p 0 l).elim o2 o1):=by
 have e:∀(m:List β) (i:Nat),goL (fun i x (_:Unit)=>if p x=true then .inr (o1 i) else .inl ()) (fun _=>o2) i m ()=(fN p i m).elim o2 o1:=by
  intro m;induction m with
  | nil=>intro i;simp [goL,fN]
  | cons x m ih =>
   intro i;simp only [goL,fN];by_cases hp:p x=true
   ·simp [hp]
   ·simp [hp,ih]
 rw [←e];refine Da l (fun i _=>st i) (fun _ _=>True) _ _ (fun i x a hx _=>?_) (fun _ _=>⟨he,h2⟩) () trivial h
 have hi:i<l.length:=(aao.1 hx).1;have hxe:l[i]=x:=(aao.1 hx).2;have:=hs i hi;rw [hxe] at this;by_cases hp:p x=true
 ·simpa [hp,h1] using this
 ·simpa [hp] using this
theorem ou {a b:ByteArray} {bl:Bool} {eq:List Nat}:bin .geq bl eq (T a) (T b)=some (B (!Op.bytesLess a.toList b.toList)):=by simp [bin,yD]
def az (b:UInt8):Bool:=decide (97≤(b.toNat:Int))&&decide ((b.toNat:Int)≤122)
def eK (s:ByteArray) (lo hi:Int):Bool:=du (fun _ b=>az b) 0 (aM s)&&decide (lo≤(s.size:Int)∧(s.size:Int)≤hi)
theorem lS (s:ByteArray) (n:Int) (h:s.size≤9223372036854775807):fg [T s,I n]=some (.ret [B (eK s 1 n)] []):=by
 rw [Dc];rw [ig] at h;refine ax _ (dJ (aM s) (fun i=>[T s,I n,I i]) (fun _ b=>az b) (.ret [B false] []) (.ext 0 [T s,I n]) (fun i hi=>?_) ?_ rfl rfl rfl) ?_
 ·have hw:ZE.wrap ((i:Int)+1)=(i:Int)+1:=ae (by omega) (by omega)
  by_cases h1:97≤(((aM s)[i]).toNat:Int)
  ·by_cases h2:(((aM s)[i]).toNat:Int)≤122
   ·simp -implicitDefEqProofs [ig,nV,hi,hw,az,h1,h2,aaf.2 h1,aaf.2 h2]
   ·simp -implicitDefEqProofs [ig,nV,hi,hw,az,h1,h2,aaf.2 h1,aaw.1 h2]
  ·simp -implicitDefEqProofs [ig,nV,hi,hw,az,h1,aaw.1 h1]
 ·simp -implicitDefEqProofs [ig]
 ·by_cases hg:du (fun _ b=>az b) 0 (aM s)=true<;>simp -implicitDefEqProofs [hg,eK,eY]
theorem pY (s:ByteArray) (m n:Int) (h:s.size≤9223372036854775807):fP [T s,I m,I n]=some (.ret [B (eK s m n)] []):=by
 rw [BB];rw [ig] at h;refine ax _ (dJ (aM s) (fun i=>[T s,I m,I n,I i]) (fun _ b=>az b) (.ret [B false] []) (.ext 0 [T s,I m,I n]) (fun i hi=>?_) ?_ rfl rfl rfl) ?_
 ·have hw:ZE.wrap ((i:Int)+1)=(i:Int)+1:=ae (by omega) (by omega)
  by_cases h1:97≤(((aM s)[i]).toNat:Int)
  ·by_cases h2:(((aM s)[i]).toNat:Int)≤122
   ·simp -implicitDefEqProofs [ig,nV,hi,hw,az,h1,h2,aaf.2 h1,aaf.2 h2]
   ·simp -implicitDefEqProofs [ig,nV,hi,hw,az,h1,h2,aaf.2 h1,aaw.1 h2]
  ·simp -implicitDefEqProofs [ig,nV,hi,hw,az,h1,aaw.1 h1]
 ·simp -implicitDefEqProofs [ig]
 ·by_cases hg:du (fun _ b=>az b) 0 (aM s)=true<;>simp -implicitDefEqProofs [hg,eK,cg]
set_option maxRecDepth 100000
theorem tv1 (a:D) (v:Value) (ds:List D):aF (.tup (a :: .v v::ds)) 1=some (.v v):=rfl
theorem ta0 (z:Nat) (l:List D) (ds:List D):aF (.tup (.arr z l::ds)) 0=some (.arr z l):=rfl
theorem tc0 (a:D) (ds:List D):cv (.tup (a::ds)) 0 = .tup (.bad::ds):=rfl
instance:Std.Irrefl (α:=UInt8) (·<·):=⟨UInt8.lt_irrefl⟩
instance:Trans (α:=UInt8) (β:=UInt8) (γ:=UInt8) (·<·) (·<·) (·<·):=⟨UInt8.lt_trans⟩
def ltS (a b:ByteArray):Bool:=Op.bytesLess a.toList b.toList
theorem Ey {a b:ByteArray}:ltS a b=true↔aM a<aM b:=by
 unfold ltS;rw [bytesLess_eq,Lib.toList_data,Lib.toList_data,decide_eq_true_eq];rfl
theorem RO {a b c:ByteArray} (h1:ltS a b=true) (h2:ltS b c=true):ltS a c=true :=
 Ey.2 (List.lt_trans (Ey.1 h1) (Ey.1 h2))
theorem yw (a:ByteArray):ltS a a=false:=by
 rw [Bool.eq_false_iff];exact fun h=>List.lt_irrefl _ (Ey.1 h)
theorem Qv {a b:ByteArray} {bl:Bool} {eq:List Nat}:bin .geq bl eq (T a) (T b)=some (B (!ltS a b)):=ou
abbrev Srt:=ByteArray × Int
abbrev sr (x:Srt):D:=.agg [T x.1,I x.2]
abbrev srs (l:List Srt):D:=.arr 2 (l.map sr)
theorem FA {f:List Srt} {i:Nat} (h:i<f.length):aI 2 (srs f) (I (i:Int))=some [T f[i].1,I f[i].2]:=by simp [h]
theorem Kb (a:ByteArray) (b:Int):au true 2 [T a,I b]=some (.agg [T a,I b]):=by simp
theorem KF (c:ByteArray) (d:Int) (a:ByteArray) (b:Int):stD 2 (.agg [T c,I d]) (.ref 0 0) (.agg [T a,I b])=some (.agg [T a,I b]):=by simp
theorem Kg (a:ByteArray) (b:Int):ba true 2 0 (.agg [T a,I b])=some (.agg [T a,I b]):=by simp
theorem Tf (a:ByteArray) (b:Int):bE 2 (.agg [T a,I b])=some (.agg [T a,I b]):=by simp
theorem CO (a:ByteArray) (b:Int):bq (.agg [T a,I b])=some (.agg [T a,I b]):=by simp
theorem Li (a c:ByteArray) (b d:Int):cO [(0,1),(1,1)] [T a,I b] [T c,I d]=some (.agg [T c,I d]):=by simp [cO,iG]
theorem PJ (a:ByteArray) (b:Int):ay 2 [.agg [T a,I b]]=some (srs [(a,b)]):=by simp [ay,eA]
theorem Ml (l:List Srt):dq (srs l)=some (srs l):=fj fun _=>rfl
theorem QJ {l m:List Srt} (h:l.length+m.length≤1048577):bY 2 24 (srs l) (srs m)=some (srs (l++m)):=by
 rw [bv,if_pos (by simp only [ZH];omega)];show _=some (D.arr 2 ((l++m).map sr))
 rw [aaL]
def BM (x:Srt):Bool:=eK x.1 1 3&&decide (1≤x.2∧x.2≤54)
theorem xK (s:ByteArray) (h:s.size≤9223372036854775807):jw [T s]=some (.ret [B (eK s 1 3)] []):=by
 rw [Ij];simp -implicitDefEqProofs only [gP,ZK,ZL,ZJ,pY s 1 3 h]
theorem IG (x:Srt) (h:x.1.size≤9223372036854775807):ma [sr x]=some (.ret [B (BM x)] []):=by
 rw [IZ];have h1:=xK x.1 h;have h2:=cg x.2 1 54;unfold BM;cases hc:eK x.1 1 3<;>rw [hc] at h1<;>simp -implicitDefEqProofs only [gP,ZK,ZL,ZJ,Tf,h1,h2,ZT,aab]
theorem JO (x:Srt) (h:x.1.size≤9223372036854775807):mC [sr x]=some (.ret [B (BM x)] []):=by
 rw [Ii];have h1:=lS x.1 3 h;have h2:=eY x.2 1 54;unfold BM;cases hc:eK x.1 1 3<;>rw [hc] at h1<;>simp -implicitDefEqProofs only [gP,ZK,ZL,ZJ,Tf,h1,h2,ZT,aab]
def nxt (f:List Srt) (i:Nat) (x:Srt):Bool:=BM x&&(decide (i=0)||ltS (f.getD (i - 1) default).1 x.1)
def wh (f:List Srt):Bool:=du (nxt f) 0 f&&decide (1≤(f.length:Int)∧(f.length:Int)≤32)
structure FIn (f:List Srt):Prop where
 ln:f.length≤1000000
 sz:∀x∈f,x.1.size≤1000000
theorem OJ {body:List D→Option Out} (f:List Srt) (h:FIn f)
  (hs:∀(i:Nat) (hi:i<f.length),body [srs f,srs f,I f.length,I i]=some (if nxt f i f[i]=true then .nrm [srs f,srs f,I f.length,I ((i+1:Nat):Int)] else .ret [B false] []))
  (he:body [srs f,srs f,I f.length,I f.length]=some (.ext 0 [srs f])):aQ body [srs f,srs f,I f.length,I 0]=some (if du (nxt f) 0 f=true then .ext 0 [srs f] else .ret [B false] []) :=
 dJ f (fun i=>[srs f,srs f,I f.length,I i]) (nxt f) (.ret [B false] []) (.ext 0 [srs f]) hs he rfl rfl rfl
theorem JF (f:List Srt) (h:FIn f):mD [srs f]=some (.ret [B (wh f)] []):=by
 rw [Ih];have hl:=h.ln;simp -implicitDefEqProofs only [gP,ZK,ZL,ZJ];refine ax _ (OJ f h (fun i hi=>?_) ?_) ?_
 ·have hi':(i:Int)<(f.length:Int):=by omega
  have hw:ZE.wrap ((i:Int)+1)=((i+1:Nat):Int):=by rw [ae (by omega) (by omega)];omega
  have hg:=FA hi;have hsz:=h.sz _ (ZP hi);have h1:=IG f[i] (by omega);have e0:D.v (aaD {data:={toList:=[]}})=T ⟨#[]⟩:=rfl;unfold nxt;cases hc:BM f[i]
  ·rw [hc] at h1
   simp -implicitDefEqProofs only [gP,ZK,ZL,ZJ,hi',hg,Kb,CO,e0,KF,Kg,h1,aab]
  ·rw [hc] at h1
   by_cases h0:i=0
   ·subst h0
    have hz:¬(0:Int)<((0:Nat):Int):=by decide
    simp -implicitDefEqProofs only [gP,ZK,ZL,ZJ,hi',hg,Kb,CO,e0,KF,Kg,h1,ZT,hz,Bool.true_or,hw]
   ·have hz:(0:Int)<(i:Int):=by omega
    have hwm:ZE.wrap ((i:Int) - 1)=((i - 1:Nat):Int):=by rw [ae (by omega) (by omega)];omega
    have hgm:=FA (f:=f) (i:=i - 1) (by omega);have hgd:(f.getD (i - 1) default)=f[i - 1]'(by omega):=by simp [show i - 1<f.length by omega]
    rw [hgd];cases hlt:ltS (f[i - 1]'(by omega)).1 f[i].1<;>simp -implicitDefEqProofs only [gP,ZK,ZL,ZJ,hi',hg,Kb,CO,e0,KF,Kg,h1,ZT,hz,h0,Bool.false_or,hwm,hgm,Qv,hlt,hw]
 ·have hlt:¬((f.length:Int)<(f.length:Int)):=by omega
  simp -implicitDefEqProofs only [gP,ZK,ZL,ZJ,hlt]
 ·have h2:=cg (f.length:Int) 1 32
  unfold wh;cases du (nxt f) 0 f
  ·simp -implicitDefEqProofs only [gP,ZK,ZL,ZJ,NG,aab]
  ·simp -implicitDefEqProofs only [gP,ZK,ZL,ZJ,h2,ZT]
theorem JH (f:List Srt) (h:FIn f):mz [srs f]=some (.ret [B (wh f)] []):=by
 rw [JX];have hl:=h.ln;simp -implicitDefEqProofs only [gP,ZK,ZL,ZJ];refine ax _ (OJ f h (fun i hi=>?_) ?_) ?_
 ·have hi':(i:Int)<(f.length:Int):=by omega
  have hw:ZE.wrap ((i:Int)+1)=((i+1:Nat):Int):=by rw [ae (by omega) (by omega)];omega
  have hg:=FA hi;have hsz:=h.sz _ (ZP hi);have h1:=JO f[i] (by omega);have e0:D.v (aaD {data:={toList:=[]}})=T ⟨#[]⟩:=rfl;unfold nxt;cases hc:BM f[i]
  ·rw [hc] at h1
   simp -implicitDefEqProofs only [gP,ZK,ZL,ZJ,hi',hg,Kb,CO,e0,KF,Kg,h1,aab]
  ·rw [hc] at h1
   by_cases h0:i=0
   ·subst h0
    have hz:¬(0:Int)<((0:Nat):Int):=by decide
    simp -implicitDefEqProofs only [gP,ZK,ZL,ZJ,hi',hg,Kb,CO,e0,KF,Kg,h1,ZT,hz,Bool.true_or,hw]
   ·have hz:(0:Int)<(i:Int):=by omega
    have hwm:ZE.wrap ((i:Int) - 1)=((i - 1:Nat):Int):=by rw [ae (by omega) (by omega)];omega
    have hgm:=FA (f:=f) (i:=i - 1) (by omega);have hgd:(f.getD (i - 1) default)=f[i - 1]'(by omega):=by simp [show i - 1<f.length by omega]
    rw [hgd];cases hlt:ltS (f[i - 1]'(by omega)).1 f[i].1<;>simp -implicitDefEqProofs only [gP,ZK,ZL,ZJ,hi',hg,Kb,CO,e0,KF,Kg,h1,ZT,hz,h0,Bool.false_or,hwm,hgm,Qv,hlt,hw]
 ·have hlt:¬((f.length:Int)<(f.length:Int)):=by omega
  simp -implicitDefEqProofs only [gP,ZK,ZL,ZJ,hlt]
 ·have h2:=eY (f.length:Int) 1 32
  unfold wh;cases du (nxt f) 0 f
  ·simp -implicitDefEqProofs only [gP,ZK,ZL,ZJ,NG,aab]
  ·simp -implicitDefEqProofs only [gP,ZK,ZL,ZJ,h2,ZT]
set_option maxRecDepth 100000
theorem WR:D.arr 2 []=srs []:=rfl
def cd (c:ByteArray) (x:Srt):Bool:=decide (x.1=c)
def fnd (f:List Srt) (c:ByteArray):Option Nat:=fN (cd c) 0 f
theorem Du {β:Type} (p:β→Bool):∀(l:List β) (i j:Nat),fN p i l=some j→∃k,j=i+k∧∃h:k<l.length,p l[k]=true∧∀m (hm:m<k),p (l[m]'(by omega))=false
 | [],_,_,h=>by cases h
 | x::l,i,j,h=>by
  simp only [fN] at h;by_cases hp:p x=true
  ·rw [if_pos hp] at h
   cases h;exact⟨0,rfl,by simp,hp,fun m hm=>by omega⟩
  ·rw [if_neg hp] at h
   obtain⟨k,rfl,hk,h2,h3⟩:=Du p l (i+1) j h;refine⟨k+1,by omega,by simp;omega,h2,fun m hm=>?_⟩
   cases m with
   | zero=>simpa using hp
   | succ m=>exact h3 m (by omega)
theorem Fs {β:Type} {p:β→Bool}:∀{l:List β} {i:Nat},fN p i l=none→∀x∈l,p x=false
 | [],_,_,_,hx=>by cases hx
 | y::l,i,h,x,hx=>by
  simp only [fN] at h;by_cases hp:p y=true
  ·rw [if_pos hp] at h
   cases h
  ·rw [if_neg hp] at h
   rcases aax.1 hx with rfl | hx
   ·simpa using hp
   ·exact Fs h x hx
def woB (f:List Srt) (c:ByteArray):Bool:=(wh f&&(fnd f c).isSome) && !decide ((f.length:Int)=1)
def woR (f:List Srt) (c:ByteArray):List Srt:=if woB f c=true then(fnd f c).elim [] fun j=>f.take j++f.drop (j+1) else []
def bef (s x:Srt):Bool:=!ltS x.1 s.1
def pos (f:List Srt) (s:Srt):Nat:=(fN (bef s) 0 f).elim f.length id
def ins (f:List Srt) (s:Srt):List Srt:=(f.take (pos f s)++[s])++f.drop (pos f s)
theorem Kl (f:List Srt) (s:Srt):pos f s≤f.length∧(∀m (hm:m<pos f s) (hl:m<f.length),ltS f[m].1 s.1=true)∧(∀h:pos f s<f.length,ltS f[pos f s].1 s.1=false):=by
 unfold pos;cases hf:fN (bef s) 0 f with
 | none =>
  refine⟨ZN _,fun m _ hl=>?_,fun h=>absurd h (Nat.lt_irrefl _)⟩
  have:=Fs hf _ (ZP hl);unfold bef at this;simpa using this
 | some j =>
  obtain⟨k,rfl,hk,h2,h3⟩:=Du _ _ _ _ hf;simp only [Option.elim,id,aaq];refine⟨by omega,fun m hm hl=>?_,fun _=>?_⟩
  ·have:=h3 m hm
   unfold bef at this;simpa using this
  ·unfold bef at h2
   simpa using h2
def wsB (f:List Srt) (s:Srt):Bool:=(wh f&&BM s)&&wh (ins f s)
theorem Wy (f:List Srt) (s:Srt):(ins f s).length=f.length+1:=by
 have:=(Kl f s).1;unfold ins;simp only [aaC,aai,List.length_drop,List.length_singleton];omega
theorem EP {f:List Srt}:wh f=true↔(∀x∈f,BM x=true)∧f.Pairwise (fun a b=>ltS a.1 b.1=true)∧1≤f.length∧f.length≤32:=by
 have key:∀(l:List Srt) (i:Nat) (q:Nat→Srt→Bool),du (fun i x=>BM x&&q i x) i l=true↔(∀x∈l,BM x=true)∧∀k (hk:k<l.length),q (i+k) l[k]=true:=by
  intro l;induction l with
  | nil=>intro i q;simp [du]
  | cons x l ih =>
   intro i q;simp only [du,ZR];rw [ih (i+1) q];constructor
   ·rintro⟨⟨h1,h2⟩,h3,h4⟩
    refine⟨fun y hy=>?_,fun k hk=>?_⟩
    ·rcases aax.1 hy with rfl | hy
     ·exact h1
     ·exact h3 y hy
    ·cases k with
     | zero=>exact h2
     | succ k =>
      have:=h4 k (by simpa using hk);rw [show i+(k+1)=i+1+k by omega];exact this
   ·rintro⟨h1,h2⟩
    refine⟨⟨h1 x (by simp),h2 0 (by simp)⟩,fun y hy=>h1 y (by simp [hy]),fun k hk=>?_⟩
    have:=h2 (k+1) (by simpa using hk);rw [show i+(k+1)=i+1+k by omega] at this;exact this
 unfold wh;rw [ZR,decide_eq_true_eq];have hk:=key f 0 (fun i x=>decide (i=0)||ltS (f.getD (i - 1) default).1 x.1);show du (nxt f) 0 f=true∧_↔_
 have e:du (nxt f) 0 f=du (fun i x=>BM x&&(decide (i=0)||ltS (f.getD (i - 1) default).1 x.1)) 0 f:=rfl;rw [e,hk];have chain:(∀k (hk:k<f.length),(decide (0+k=0)||ltS (f.getD (0+k - 1) default).1 f[k].1)=true)↔f.Pairwise (fun a b=>ltS a.1 b.1=true):=by
  rw [List.pairwise_iff_getElem];constructor
  ·intro h
   have step:∀i (hi:i+1<f.length),ltS f[i].1 f[i+1].1=true:=by
    intro i hi;have:=h (i+1) hi;rw [aaq,Nat.add_sub_cancel] at this;simpa [show i<f.length by omega] using this
   intro i j hi hj hij;have:∀n (hn:i+1+n<f.length),ltS f[i].1 f[i+1+n].1=true:=by
    intro n;induction n with
    | zero=>exact fun hn=>step i hn
    | succ n ih=>exact fun hn=>RO (ih (by omega)) (step (i+1+n) hn)
   have h2:=this (j - (i+1)) (by omega);have e2:i+1+(j - (i+1))=j:=by omega
   simpa only [e2] using h2
  ·intro h k hk
   by_cases h0:k=0
   ·simp [h0]
   ·have h2:=h (k - 1) k (by omega) hk (by omega)
    have h3:k - 1<f.length:=by omega
    rw [aaq];have hgd:f.getD (k - 1) default=f[k - 1]:=by simp [h3]
    rw [hgd,h2];simp
 rw [chain];constructor
 ·rintro⟨⟨h1,h2⟩,h3⟩
  exact⟨h1,h2,by omega,by omega⟩
 ·rintro⟨h1,h2,h3,h4⟩
  exact⟨⟨h1,h2⟩,by omega,by omega⟩
theorem XQ {f:List Srt} {s:Srt} (h:wsB f s=true):woR (ins f s) s.1=f∧woB (ins f s) s.1=true:=by
 unfold wsB at h;simp only [ZR] at h;obtain⟨⟨h1,-⟩,h3⟩:=h;obtain⟨-,-,hf1,-⟩:=EP.1 h1;obtain⟨p1,p2,p3⟩:=Kl f s;have hfn:fnd (ins f s) s.1=some (pos f s):=by
  have key:∀(l:List Srt) (m:List Srt) (i:Nat),(∀x∈l,¬x.1=s.1)→fN (cd s.1) i (l++s::m)=some (i+l.length):=by
   intro l;induction l with
   | nil=>intro m i _;simp [fN,cd]
   | cons x l ih =>
    intro m i hx;have hxc:cd s.1 x=false:=decide_eq_false (hx x (by simp));rw [List.cons_append,fN,hxc,ih m (i+1) fun y hy=>hx y (by simp [hy]),aac];simp;omega
  have e:ins f s=f.take (pos f s)++s::f.drop (pos f s):=by unfold ins;simp
  unfold fnd;rw [e,key _ _ 0 fun x hx=>?_]
  ·rw [aai]
   congr 1
   omega
  ·intro hc
   obtain⟨m,hm,rfl⟩:=List.mem_iff_getElem.1 hx;rw [aai] at hm;rw [List.getElem_take] at hc;have:=p2 m (by omega) (by omega);rw [hc,yw] at this;cases this
 have hb:woB (ins f s) s.1=true:=by
  unfold woB;rw [h3,hfn,Wy];have:¬((f.length+1:Nat):Int)=1:=by omega
  simp only [Option.isSome_some,Bool.and_self,ZT,decide_eq_false this,Bool.not_false]
 refine⟨?_,hb⟩
 unfold woR;rw [if_pos hb,hfn];simp only [Option.elim];have hlen:(f.take (pos f s)).length=pos f s:=by rw [aai];omega
 have e:ins f s=f.take (pos f s)++s::f.drop (pos f s):=by unfold ins;simp
 rw [e,List.take_left' hlen,List.drop_append,hlen,aaa (by omega)];rw [show pos f s+1 - pos f s=1 by omega];simp
set_option maxRecDepth 100000
structure WIn (ws:List ByteArray):Prop where
 ln:ws.length≤1000000
 sz:∀w∈ws,w.size≤1000000
theorem JK (s:ByteArray) (h:s.size≤9223372036854775807):mu [T s]=some (.ret [B (eK s 1 16)] []):=by
 rw [IA];simp -implicitDefEqProofs only [gP,ZK,ZL,ZJ,pY s 1 16 h]
theorem Jb (s:ByteArray) (h:s.size≤9223372036854775807):lU [T s]=some (.ret [B (eK s 1 16)] []):=by
 rw [JE];simp -implicitDefEqProofs only [gP,ZK,ZL,ZJ,lS s 16 h]
set_option maxRecDepth 100000
def asc (s:ByteArray):Prop:=∀b∈aM s,b.toNat<128
theorem EE {a b:ByteArray} (h1:asc a) (h2:asc b):asc (a++b):=by
 intro x hx;rw [Mm] at hx;rcases List.mem_append.1 hx with hx | hx
 ·exact h1 x hx
 ·exact h2 x hx
theorem Qk:asc ⟨⟨[]⟩⟩:=fun b hb=>by cases hb
theorem tS' (l:List UInt8):(D.v (aaD {data:={toList:=l}}))=T ⟨⟨l⟩⟩:=rfl
theorem Qs (l:List UInt8) (h:(l.all fun b=>decide (b.toNat<128))=true):asc ⟨⟨l⟩⟩:=fun b hb=>of_decide_eq_true (aah.1 h b hb)
structure Tx (n:Nat) (s:ByteArray):Prop where
 sz:s.size≤n
 ok:asc s
def txB (n:Nat) (l:List ByteArray):Bool:=l.all fun s=>decide (s.size≤n)&&(aM s).all fun b=>decide (b.toNat<128)
theorem Mo {n:Nat} {l:List ByteArray} (h:txB n l=true):∀s∈l,Tx n s:=by
 intro s hs;have:=aah.1 h s hs;rw [ZR,decide_eq_true_eq] at this;exact⟨this.1,fun b hb=>of_decide_eq_true (aah.1 this.2 b hb)⟩
def W10:List ByteArray:=[⟨⟨[97]⟩⟩,⟨⟨[98]⟩⟩,⟨⟨[99]⟩⟩,⟨⟨[97,98]⟩⟩,⟨⟨[98,98]⟩⟩,⟨⟨[97,98,99]⟩⟩,⟨⟨[100]⟩⟩,⟨⟨[101]⟩⟩,⟨⟨[102]⟩⟩,⟨⟨[102,105]⟩⟩]
theorem SP:∀s∈W10,1≤s.size∧s.size≤3:=by
 intro s hs;simp only [W10,aax,List.not_mem_nil,or_false] at hs;rcases hs with rfl | rfl | rfl | rfl | rfl | rfl | rfl | rfl | rfl | rfl<;>exact⟨by decide,by decide⟩
theorem Ys:∀s∈W10,Tx 3 s:=Mo (by decide)
theorem Mt {a b:ByteArray} (h:a.size+b.size≤100000000):bin .add false [] (T a) (T b)=some (T (a++b)):=by
 rw [UE,if_pos (by omega)]
theorem UP (c:Cur) (B:Nat) (h:c.ok B) (hB:B≤1000000000):∃(s:ByteArray) (c':Cur),cM [aR c]=some (.ret [T s] [aR c'])∧Tx 8 s∧c'.ok (B+20):=by
 rw [Af];obtain⟨v,c1,e1,l1,u1,k1⟩:=dg c 6 B h (by omega) (by omega);obtain⟨v,rfl⟩:=ZU l1;have hv:v<6:=by omega
 have m10:ay 1 [T ⟨⟨[97]⟩⟩,T ⟨⟨[98]⟩⟩,T ⟨⟨[99]⟩⟩,T ⟨⟨[97,98]⟩⟩,T ⟨⟨[98,98]⟩⟩,T ⟨⟨[97,98,99]⟩⟩,T ⟨⟨[100]⟩⟩,T ⟨⟨[101]⟩⟩,T ⟨⟨[102]⟩⟩,T ⟨⟨[102,105]⟩⟩]=some (txs W10):=NY (l:=W10);have hw:ZE.wrap (1+(v:Int))=((1+v:Nat):Int):=by rw [ae (by omega) (by omega)];omega
 simp -implicitDefEqProofs only [bV,ZF,jU,e1,bd,aE,bZ,hw,m10,tS'];refine bu (fun X=>∃s c',X=some (.ret [T s] [aR c'])∧Tx 8 s∧c'.ok (B+20)) (fun a:Cur × ByteArray=>[aR a.1,T a.2,I ((1+v:Nat):Int)])
  (fun a=>a.1.ok (B+2+2*a.2.size)∧Tx 8 a.2) (fun a=>8 - a.2.size) (fun o=>∃(s:ByteArray) (c':Cur),o = .ext 0 [aR c',T s]∧Tx 8 s∧c'.ok (B+20)) ?_ (c1,⟨⟨[]⟩⟩) ⟨k1.mono (by show B+2≤B+2+2*0;omega),by show 0≤8;omega,Qk⟩ rfl ?_
 ·rintro⟨ca,s⟩ ⟨h1,h2,h3⟩
  simp only at h1 h2 h3;by_cases hn:s.size<1+v
  ·have hn':(s.size:Int)<((1+v:Nat):Int):=by omega
   obtain⟨t,c2,e2,ht,k2⟩:=VP ca W10 _ h1 (by omega) (by decide) (by decide);have hts:=SP t ht;have ha:=Mt (a:=s) (b:=t) (by omega);refine .inl ⟨(c2,s++t),?_,⟨k2.mono (by simp only [ZO];omega),by simp only [ZO];omega,EE h3 (Ys t ht).ok⟩,by simp only [ZO];omega⟩
   simp -implicitDefEqProofs only [aE,aX,rz,ZF,bp,hn',decide_true,bt,if_true,bV,jU,e2,bd,ha]
  ·have hn':¬(s.size:Int)<((1+v:Nat):Int):=by omega
   refine .inr ⟨_,?_,rfl,s,ca,rfl,⟨h2,h3⟩,h1.mono (by omega)⟩
   simp -implicitDefEqProofs only [aE,aX,rz,ZF,bp,hn',decide_false,bt,ZI,if_false]
 ·rintro o ⟨s,c',rfl,g1,g2⟩
  refine⟨s,c',?_,g1,g2⟩
  simp -implicitDefEqProofs only [cZ,aaB,jn,if_true,aE,aX,bV,ZF]
def W4:List ByteArray:=[⟨⟨[]⟩⟩,⟨⟨[65]⟩⟩,⟨⟨[97,32,98]⟩⟩,⟨⟨[97,45,98]⟩⟩]
theorem Zb:∀s∈W4,Tx 20 s:=Mo (by decide)
theorem Tx.mono {m n:Nat} {s:ByteArray} (h:Tx m s) (hm:m≤n):Tx n s:=⟨aaA h.sz hm,h.ok⟩
theorem Tx.add {k n:Nat} {a b:ByteArray} (h:Tx k a) (h2:Tx n b):Tx (k+n) (a++b):=⟨by have:=h.sz;have:=h2.sz;simp only [ZO];omega,EE h.ok h2.ok⟩
theorem Tx.nil (n:Nat):Tx n ⟨⟨[]⟩⟩:=⟨by show 0≤n;omega,Qk⟩
theorem Ks (c:Cur) (B:Nat) (h:c.ok B) (hB:B≤900000000):∃(s:ByteArray) (c':Cur),en [aR c]=some (.ret [T s] [aR c'])∧Tx 20 s∧c'.ok (B+30):=by
 rw [uY];obtain⟨k,c1,e1,l1,u1,k1⟩:=dg c 30 B h (by omega) (by omega);have m4:ay 1 [T ⟨⟨[]⟩⟩,T ⟨⟨[65]⟩⟩,T ⟨⟨[97,32,98]⟩⟩,T ⟨⟨[97,45,98]⟩⟩]=some (txs W4):=NY (l:=W4);obtain⟨s,c2,e2,h2,k2⟩:=UP c1 _ k1 (by omega);have h2s:=h2.sz;simp -implicitDefEqProofs only [bV,ZF,jU,e1,bd,aE,mw,m4,tS',bt,decide_eq_true_eq];by_cases q0:k=0
 ·obtain⟨t,c3,e3,ht,k3⟩:=VP c1 W4 _ k1 (by omega) (by decide) (by decide)
  refine⟨t,c3,?_,Zb t ht,k3.mono (by omega)⟩
  rw [if_pos q0];simp -implicitDefEqProofs only [e3,bd,aE,bV,ZF]
 rw [if_neg q0];by_cases q1:k=1
 ·rw [if_pos q1]
  obtain⟨v,c3,e3,l3,u3,k3⟩:=dg c1 2 _ k1 (by omega) (by omega);obtain⟨v,rfl⟩:=ZU l3;have hw:ZE.wrap (16+(v:Int))=((16+v:Nat):Int):=by rw [ae (by omega) (by omega)];omega
  simp -implicitDefEqProofs only [e3,bd,aE,bZ,hw,ZF];refine bu (fun X=>∃s c',X=some (.ret [T s] [aR c'])∧Tx 20 s∧c'.ok (B+30)) (fun a:ByteArray=>[aR c3,T a,I ((16+v:Nat):Int)])
   (fun a=>Tx 20 a) (fun a=>20 - a.size) (fun o=>∃(s:ByteArray),o = .ext 1 [aR c3,T s]∧Tx 20 s) ?_ (⟨⟨[]⟩⟩) (Tx.nil 20) rfl ?_
  ·intro s h2
   have h2s:=h2.sz;by_cases hn:s.size<16+v
   ·have hn':(s.size:Int)<((16+v:Nat):Int):=by omega
    have hz:(⟨⟨[97]⟩⟩:ByteArray).size=1:=rfl;have ha:=Mt (a:=s) (b:=⟨⟨[97]⟩⟩) (by omega);refine .inl ⟨s++⟨⟨[97]⟩⟩,?_,⟨by simp only [ZO];omega,EE h2.ok (Qs [97] (by decide))⟩,by simp only [ZO];omega⟩
    simp -implicitDefEqProofs only [aE,aX,rz,ZF,bp,hn',decide_true,bt,if_true,ha]
   ·have hn':¬(s.size:Int)<((16+v:Nat):Int):=by omega
    refine .inr ⟨_,?_,rfl,s,rfl,h2⟩
    simp -implicitDefEqProofs only [aE,aX,rz,ZF,bp,hn',decide_false,bt,ZI,if_false]
  ·rintro o ⟨s,rfl,g1⟩
   refine⟨s,c3,?_,g1,k3.mono (by omega)⟩
   simp -implicitDefEqProofs only [cZ,aaB,jn,if_true,aE,aX,bV,ZF]
 rw [if_neg q1];by_cases q2:k=2
 ·rw [if_pos q2]
  have hz:(⟨⟨[122]⟩⟩:ByteArray).size=1:=rfl;have ha:=Mt (a:=s) (b:=⟨⟨[122]⟩⟩) (by omega);refine⟨s++⟨⟨[122]⟩⟩,c2,?_,⟨by simp only [ZO];omega,EE h2.ok (Qs [122] (by decide))⟩,k2.mono (by omega)⟩
  simp -implicitDefEqProofs only [e2,bd,aE,bV,ZF,ha]
 ·rw [if_neg q2]
  refine⟨s,c2,?_,h2.mono (by omega),k2.mono (by omega)⟩
  simp -implicitDefEqProofs only [e2,bd,aE,bV,ZF]
end Go.Proofs.YtccaheogjpfhjaaGreat

end
