/-
  A part of the proof: contracts and plain forms of functions beneath the statement, made small by a program (names shortened, what is not needed left out).
-/
import Derived.Test.YtepkkkphfmckdaaGreatDoorRows
import Derived.Test.YtepkkkphfmckdaaGreatDoorTie
import Derived.Test.YtepkkkphfmckdaaGreatDoorCards
import Derived.Test.YtepkkkphfmckdaaGreatDoorM4
import Derived.Lib.IndexBytes
import Derived.Laws.RangeString
import Derived.Laws.Bits64b
import Derived.Shelf.GgSortFunc.SmallK
import Derived.Shelf.GgSortMore.Stable
import Derived.Deep.QuietTactic
import Derived.BigCall
import Derived.BigQuiet
import Derived.WalkKit
open Int renaming reduceLT → Hg, reduceLE → Hh, reduceEq → Hi, eq_ofNat_of_zero_le → Hm, not_lt → HE, tdiv_eq_ediv_of_nonneg → HK, tmod_eq_emod_of_nonneg → HL, toNat_natCast → HN, not_le → HZ
open Option renaming map → Hj, bind_some → Hl, map_some → HD
open Go.IntKind renaming i64 → Hk, u64 → Hn, u8 → HB, bits → Ip
open Go.Value renaming int → Ho, string → Ic
open List renaming getElem_mem → Hp, length_singleton → Hu, mem_singleton → Hv, length_drop → Hx, mem_append → Hz, all_eq_true → HC, length_map → HF, length_set → HH, length_pos_iff → HJ, getElem?_eq_some_iff → HO, drop_eq_nil_of_le → HV, drop_zero → HY, mem_cons → Ia, map_set → Ig, length_append → Ih, not_mem_nil → Ii, length_take → Ij, take_length → Ik, map_append → Im, drop_drop → Io
open ByteArray renaming size_append → Hq, empty → HI
open Nat renaming lt_or_ge → Hr, le_refl → Hy, zero_le → HU, le_trans → Ib, zero_add → Ie
open UInt8 renaming ofNat → Hs
open Bool renaming true_and → Ht, false_and → Hw, false_eq_true → HA, and_eq_true → HS
open Go.Proofs.SW renaming start → Il
set_option maxRecDepth 100000
set_option linter.unusedSimpArgs false
set_option linter.unusedVariables false
noncomputable section
namespace Go.Proofs.YtepkkkphfmckdaaGreatDoor
open Go Go.V
set_option maxRecDepth 100000
theorem uC (x0 x1 x2:D):bX [x0,x1,x2]=((bin .geq false [] x0 x1).bind fun z=>(ah (.tup []) z true (some x0)).bind fun c=>(ah (.tup []) z true (some x2)).bind fun d=>(ah (.tup []) z true (bin .leq false [] c d)).bind fun e=>(aW z e (B false)).bind fun z=>some (.ret [z] [])):=by kernel_rfl
theorem pD (x0 x1 x2:D):dg [x0,x1,x2]=((aI (fun s=>(lenD true (sl s 0)).bind fun z=>(bin .lss false [] (sl s 3) z).bind fun z=>ifD z ((oO (sl s 0) (sl s 3)).bind fun z=>(bin .lss false [] z (.v (Ho HB 97))).bind fun z=>(ah (.tup []) z false (some (sl s 0))).bind fun c=>(ah (.tup []) z false (some (sl s 3))).bind fun d=>(ah (.tup []) z false (oO c d)).bind fun e=>(ah (.tup []) z false (bin .gtr false [] e (.v (Ho HB 122)))).bind fun f=>(aW z (B true) f).bind fun z=>ifD z (some (.ret [B false] [])) ((bin .add false [] (sl s 3) (I 1)).bind fun z=>some (.nrm [sl s 0,sl s 1,sl s 2,z]))) (some (.ext 0 [sl s 0,sl s 1,sl s 2]))) [x0,x1,x2,I 0]).bind fun o=>cv o (fun i s=>ifN (i.beq 0) ((lenD true (sl s 0)).bind fun z=>ai (bX [z,sl s 1,sl s 2]) fun g _=>some (.ret [sl g 0] [])) none) fun a b=>some (.ret a b)):=by kernel_rfl
theorem uj (x0:D):gF [x0]=(ai (dg [x0,I 1,I 3]) fun c _=>some (.ret [sl c 0] [])):=by kernel_rfl
theorem uD (x0:D):gG [x0]=((nV 2 x0).bind fun y=>(aa y (.ref 0 0)).bind fun z=>((atD y z).bind (bK false 1)).bind fun z=>ai (gF [z]) fun c _=>(ah D.bad (sl c 0) true (aa y (.ref 0 1))).bind fun z=>(ah (.tup []) (sl c 0) true ((atD y z).bind (bK false 1))).bind fun z=>dJ (sl c 0) true (ai (bX [z,I 1,I 54]) fun c _=>some (.nrm [sl c 0])) [.tup []] fun d=>(aW (sl c 0) (sl d 0) (B false)).bind fun z=>some (.ret [z] [])):=by kernel_rfl
theorem uh (x0:D):fa [x0]=((lenD false x0).bind fun z=>(aI (fun s=>(bin .lss false [] (sl s 3) (sl s 2)).bind fun z=>ifD z ((Hj D.ptr (aJ 2 (sl s 1) (sl s 3))).bind fun z=>((ldD true 2 z).bind bc).bind fun z=>(stD 2 (.agg [.v (.string ⟨⟨[]⟩⟩),I 0]) (.ref 0 0) z).bind fun b=>(oZ true 2 0 b).bind fun z=>ai (gG [z]) fun d _=>(un .not (sl d 0)).bind fun z=>(ah (.tup []) z false (some (sl s 3))).bind fun e=>(ah (.tup []) z false (bin .gtr false [] e (I 0))).bind fun f=>(ah (.tup []) z false (some f)).bind fun c=>(ah (.tup []) c true (some (sl s 0))).bind fun g=>(ah (.tup []) c true (some (sl s 3))).bind fun h=>(ah (.tup []) c true (bin .sub false [] h (I 1))).bind fun j=>(ah (.tup []) c true (Hj D.ptr (aJ 2 g j))).bind fun k=>(ah (.tup []) c true (rA 0 k)).bind fun l=>(ah (.tup []) c true ((ldD false 1 l).bind bc)).bind fun m=>(ah D.bad c true (aa b (.ref 0 0))).bind fun n=>(ah (.tup []) c true ((atD b n).bind (bK false 1))).bind fun p=>(ah (.tup []) c true (bin .geq false [] m p)).bind fun q=>(ah (.tup []) z false (aW c q (B false))).bind fun r=>(aW z (B true) r).bind fun z=>ifD z (some (.ret [B false] [])) ((bin .add false [] (sl s 3) (I 1)).bind fun z=>some (.nrm [sl s 0,sl s 1,sl s 2,z]))) (some (.ext 0 [sl s 0]))) [x0,x0,z,I 0]).bind fun o=>cv o (fun i s=>ifN (i.beq 0) ((lenD false (sl s 0)).bind fun z=>ai (bX [z,I 1,I 32]) fun d _=>some (.ret [sl d 0] [])) none) fun a b=>some (.ret a b)):=by kernel_rfl
theorem ut (x0:D):gL [x0]=(ai (dg [x0,I 1,I 16]) fun c _=>some (.ret [sl c 0] [])):=by kernel_rfl
theorem rB (x0:D):fe [x0]=((lenD false x0).bind fun z=>(aI (fun s=>(bin .lss false [] (sl s 3) (sl s 2)).bind fun z=>ifD z ((Hj D.ptr (aJ 1 (sl s 1) (sl s 3))).bind fun z=>((ldD false 1 z).bind bc).bind fun z=>ai (gL [z]) fun c _=>(un .not (sl c 0)).bind fun z=>ifD z (some (.ret [B false] [])) ((bin .add false [] (sl s 3) (I 1)).bind fun z=>some (.nrm [sl s 0,sl s 1,sl s 2,z]))) (some (.ext 0 [sl s 0]))) [x0,x0,z,I 0]).bind fun o=>cv o (fun i s=>ifN (i.beq 0) ((lenD false (sl s 0)).bind fun z=>(bin .leq false [] z (I 40)).bind fun z=>some (.ret [z] [])) none) fun a b=>some (.ret a b)):=by kernel_rfl
theorem fO (x0 x1:D):bk [x0,x1]=((lenD true x0).bind fun z=>(lenD true x1).bind fun c=>(bin .geq false [] z c).bind fun z=>(ah (.tup []) z true (some x0)).bind fun d=>(ah (.tup []) z true (some x1)).bind fun e=>(ah (.tup []) z true (lenD true e)).bind fun f=>(ah (.tup []) z true (fZ true 0 d (I 0) f)).bind fun g=>(ah (.tup []) z true (some x1)).bind fun h=>(ah (.tup []) z true (bin .eql false [] g h)).bind fun j=>(aW z j (B false)).bind fun z=>some (.ret [z] [])):=by kernel_rfl
theorem mT (x0 x1:D):dz [x0,x1]=(ai (bk [x0,x1]) fun c _=>some (.ret [sl c 0] [])):=by kernel_rfl
theorem tJ (x0 x1:D):eB [x0,x1]=((aA 1 []).bind fun a=>(aI (fun s=>(lenD true (sl s 1)).bind fun z=>(bin .gtr false [] z (I 0)).bind fun z=>ifD z ((lenD false (sl s 0)).bind fun z=>(aI (fun s=>(bin .lss false [] (sl s 6) (sl s 5)).bind fun z=>ifD z ((Hj D.ptr (aJ 2 (sl s 4) (sl s 6))).bind fun z=>((ldD true 2 z).bind bc).bind fun z=>(stD 2 (.agg [.v (.string ⟨⟨[]⟩⟩),I 0]) (.ref 0 0) z).bind fun b=>(aa b (.ref 0 0)).bind fun z=>((atD b z).bind (bK false 1)).bind fun z=>ai (dz [sl s 1,z]) fun c _=>(ah (.tup []) (sl c 0) true (some (sl s 3))).bind fun z=>(ah (.tup []) (sl c 0) true (bin .lss false [] z (I 0))).bind fun z=>(ah (.tup []) (sl c 0) true (some z)).bind fun z=>(ah D.bad z false (aa b (.ref 0 0))).bind fun d=>(ah (.tup []) z false ((atD b d).bind (bK false 1))).bind fun e=>(ah (.tup []) z false (lenD true e)).bind fun f=>(ah (.tup []) z false (some (sl s 0))).bind fun g=>(ah (.tup []) z false (some (sl s 3))).bind fun h=>(ah (.tup []) z false (Hj D.ptr (aJ 2 g h))).bind fun j=>(ah (.tup []) z false (rA 0 j)).bind fun k=>(ah (.tup []) z false ((ldD false 1 k).bind bc)).bind fun l=>(ah (.tup []) z false (lenD true l)).bind fun m=>(ah (.tup []) z false (bin .gtr false [] f m)).bind fun n=>(ah (.tup []) (sl c 0) true (aW z (B true) n)).bind fun z=>(aW (sl c 0) z (B false)).bind fun z=>ifD z ((bin .add false [] (sl s 6) (I 1)).bind fun z=>some (.nrm [sl s 0,sl s 1,sl s 2,sl s 6,sl s 4,sl s 5,z])) ((bin .add false [] (sl s 6) (I 1)).bind fun z=>some (.nrm [sl s 0,sl s 1,sl s 2,sl s 3,sl s 4,sl s 5,z]))) (some (.ext 2 [sl s 0,sl s 1,sl s 2,sl s 3]))) [sl s 0,sl s 1,sl s 2,I (-1),sl s 0,z,I 0]).bind fun o=>cv o (fun i s=>ifN (i.beq 2) ((bin .lss false [] (sl s 3) (I 0)).bind fun z=>ifD z ((aA 1 []).bind fun a=>some (.ret [a,B false] [])) ((aA 1 [sl s 3]).bind fun a=>(jM a).bind fun b=>(gi 1 8 (sl s 2) b).bind fun y=>(Hj D.ptr (aJ 2 (sl s 0) (sl s 3))).bind fun z=>(rA 0 z).bind fun z=>((ldD false 1 z).bind bc).bind fun z=>(lenD true z).bind fun z=>(iC true 0 (sl s 1) z).bind fun z=>some (.nrm [sl s 0,z,y]))) (ifN (i.beq 1) (some (.nrm [sl s 0,sl s 1,sl s 2])) (some (.ext i [sl s 2])))) fun a b=>some (.ret a b)) (some (.ext 0 [sl s 2]))) [x0,x1,a]).bind fun o=>cv o (fun i s=>ifN (i.beq 0) (some (.ret [sl s 0,B true] [])) none) fun a b=>some (.ret a b)):=by kernel_rfl
theorem jI (x0 x1:D):bQ [x0,x1]=(ai (fa [x0]) fun c _=>(un .not (sl c 0)).bind fun z=>(ah (.tup []) z false (some x1)).bind fun e=>dJ z false (ai (fe [e]) fun c _=>some (.nrm [sl c 0])) [.tup []] fun f=>(ah (.tup []) z false (un .not (sl f 0))).bind fun g=>(aW z (B true) g).bind fun z=>ifD z ((aA 1 []).bind fun a=>some (.ret [a,B false] [])) ((lenD false x0).bind fun z=>(vX 1 8 (I 0) z z).bind fun y=>(lenD false x1).bind fun z=>(aI (fun s=>(bin .lss false [] (sl s 4) (sl s 3)).bind fun z=>ifD z ((Hj D.ptr (aJ 1 (sl s 2) (sl s 4))).bind fun z=>((ldD false 1 z).bind bc).bind fun z=>ai (eB [sl s 0,z]) fun c _=>(aT (.tup c) 0).bind fun y=>(aT (en (.tup c) 0) 1).bind fun z=>(un .not z).bind fun z=>ifD z ((aA 1 []).bind fun a=>some (.ret [a,B false] [])) ((lenD false y).bind fun z=>(aI (fun s=>(bin .lss false [] (sl s 7) (sl s 6)).bind fun z=>ifD z ((Hj D.ptr (aJ 1 (sl s 5) (sl s 7))).bind fun z=>((ldD false 1 z).bind bc).bind fun z=>(aa (sl s 1) (.ref 0 0)).bind fun d=>((aa d (sl s 1)).bind fun b=>gd 1 b z).bind fun h=>((atD (sl s 1) h).bind (bK false 1)).bind fun j=>(bin .add false [] j (I 1)).bind fun k=>((aa d (sl s 1)).bind fun b=>gd 1 b z).bind fun z=>(stD 1 (sl s 1) z k).bind fun b=>(bin .add false [] (sl s 7) (I 1)).bind fun z=>some (.nrm [sl s 0,b,sl s 2,sl s 3,sl s 4,sl s 5,sl s 6,z])) (some (.ext 2 [sl s 0,sl s 1,sl s 2,sl s 3,sl s 4]))) [sl s 0,sl s 1,sl s 2,sl s 3,sl s 4,y,z,I 0]).bind fun o=>cv o (fun i s=>ifN (i.beq 2) ((bin .add false [] (sl s 4) (I 1)).bind fun z=>some (.nrm [sl s 0,sl s 1,sl s 2,sl s 3,z])) (ifN (i.beq 1) ((bin .add false [] (sl s 4) (I 1)).bind fun z=>some (.nrm [sl s 0,sl s 1,sl s 2,sl s 3,z])) (some (.ext i [sl s 1])))) fun a b=>some (.ret a b))) (some (.ext 0 [sl s 1]))) [x0,y,x1,z,I 0]).bind fun o=>cv o (fun i s=>ifN (i.beq 0) (some (.ret [sl s 0,B true] [])) none) fun a b=>some (.ret a b))):=by kernel_rfl
theorem qi (x0 x1:D):cF [x0,x1]=((lenD false x1).bind fun z=>(aI (fun s=>(bin .lss false [] (sl s 4) (sl s 3)).bind fun z=>ifD z ((Hj D.ptr (aJ 1 (sl s 2) (sl s 4))).bind fun z=>((ldD false 1 z).bind bc).bind fun z=>ai (bX [z,I 0,I 100000]) fun c _=>(un .not (sl c 0)).bind fun z=>ifD z (some (.ret [B false] [])) ((bin .add false [] (sl s 4) (I 1)).bind fun z=>some (.nrm [sl s 0,sl s 1,sl s 2,sl s 3,z]))) (some (.ext 0 [sl s 0,sl s 1]))) [x0,x1,x1,z,I 0]).bind fun o=>cv o (fun i s=>ifN (i.beq 0) (ai (fa [sl s 0]) fun c _=>(ah (.tup []) (sl c 0) true (some (sl s 1))).bind fun z=>(ah (.tup []) (sl c 0) true (lenD false z)).bind fun z=>(ah (.tup []) (sl c 0) true (some (sl s 0))).bind fun d=>(ah (.tup []) (sl c 0) true (lenD false d)).bind fun e=>(ah (.tup []) (sl c 0) true (bin .eql false [] z e)).bind fun z=>(aW (sl c 0) z (B false)).bind fun z=>some (.ret [z] [])) none) fun a b=>some (.ret a b)):=by kernel_rfl
theorem rF (x0 x1 x2:D):fh [x0,x1,x2]=(ai (bQ [x0,x2]) fun c _=>(aT (.tup c) 0).bind fun y=>(aT (en (.tup c) 0) 1).bind fun z=>(ah (.tup []) z true (some x0)).bind fun d=>(ah (.tup []) z true (some x1)).bind fun e=>dJ z true (ai (cF [d,e]) fun c _=>some (.nrm [sl c 0])) [.tup []] fun f=>(aW z (sl f 0) (B false)).bind fun z=>some (.ret [y,z] [])):=by kernel_rfl
theorem mR (x0 x1 x2:D):dv [x0,x1,x2]=(ai (fh [x0,x1,x2]) fun e _=>(aT (.tup e) 0).bind fun y=>(aT (en (.tup e) 0) 1).bind fun z=>(un .not z).bind fun z=>ifD z (some (.ret [I 0,B false] [])) ((lenD false y).bind fun z=>(aI (fun s=>(bin .lss false [] (sl s 5) (sl s 4)).bind fun z=>ifD z ((Hj D.ptr (aJ 1 (sl s 3) (sl s 5))).bind fun z=>((ldD false 1 z).bind bc).bind fun z=>(bin .gtr false [] z (I 0)).bind fun d=>(ah (.tup []) d true (some (sl s 2))).bind fun f=>(ah (.tup []) d true (bin .lss false [] f (I 0))).bind fun g=>(ah (.tup []) d true (some g)).bind fun c=>(ah (.tup []) c false (some (sl s 0))).bind fun h=>(ah (.tup []) c false (some (sl s 5))).bind fun j=>(ah (.tup []) c false (Hj D.ptr (aJ 1 h j))).bind fun k=>(ah (.tup []) c false ((ldD false 1 k).bind bc)).bind fun l=>(ah (.tup []) c false (some (sl s 1))).bind fun m=>(ah (.tup []) c false (some (sl s 2))).bind fun n=>(ah (.tup []) c false (Hj D.ptr (aJ 1 m n))).bind fun p=>(ah (.tup []) c false ((ldD false 1 p).bind bc)).bind fun q=>(ah (.tup []) c false (bin .mul false [] l q)).bind fun r=>(ah (.tup []) c false (some (sl s 0))).bind fun t=>(ah (.tup []) c false (some (sl s 2))).bind fun u=>(ah (.tup []) c false (Hj D.ptr (aJ 1 t u))).bind fun v=>(ah (.tup []) c false ((ldD false 1 v).bind bc)).bind fun w=>(ah (.tup []) c false (some z)).bind fun z=>(ah (.tup []) c false (bin .mul false [] w z)).bind fun z=>(ah (.tup []) c false (bin .lss false [] r z)).bind fun z=>(ah (.tup []) d true (aW c (B true) z)).bind fun z=>(aW d z (B false)).bind fun z=>ifD z ((bin .add false [] (sl s 5) (I 1)).bind fun z=>some (.nrm [sl s 0,sl s 1,sl s 5,sl s 3,sl s 4,z])) ((bin .add false [] (sl s 5) (I 1)).bind fun z=>some (.nrm [sl s 0,sl s 1,sl s 2,sl s 3,sl s 4,z]))) (some (.ext 0 [sl s 2]))) [x1,y,I (-1),y,z,I 0]).bind fun o=>cv o (fun i s=>ifN (i.beq 0) ((bin .lss false [] (sl s 0) (I 0)).bind fun z=>ifD z (some (.ret [I 0,B false] [])) (some (.ret [sl s 0,B true] []))) none) fun a b=>some (.ret a b))):=by kernel_rfl
theorem xR (x0 x1 x2:D):cE [x0,x1,x2]=((bin .geq false [] x0 x1).bind fun z=>(ah (.tup []) z true (some x0)).bind fun c=>(ah (.tup []) z true (some x2)).bind fun d=>(ah (.tup []) z true (bin .leq false [] c d)).bind fun e=>(aW z e (B false)).bind fun z=>some (.ret [z] [])):=by kernel_rfl
theorem qz (x0 x1:D):dF [x0,x1]=((aI (fun s=>(lenD true (sl s 0)).bind fun z=>(bin .lss false [] (sl s 2) z).bind fun z=>ifD z ((oO (sl s 0) (sl s 2)).bind fun z=>(bin .lss false [] z (.v (Ho HB 97))).bind fun z=>(ah (.tup []) z false (some (sl s 0))).bind fun c=>(ah (.tup []) z false (some (sl s 2))).bind fun d=>(ah (.tup []) z false (oO c d)).bind fun e=>(ah (.tup []) z false (bin .gtr false [] e (.v (Ho HB 122)))).bind fun f=>(aW z (B true) f).bind fun z=>ifD z (some (.ret [B false] [])) ((bin .add false [] (sl s 2) (I 1)).bind fun z=>some (.nrm [sl s 0,sl s 1,z]))) (some (.ext 0 [sl s 0,sl s 1]))) [x0,x1,I 0]).bind fun o=>cv o (fun i s=>ifN (i.beq 0) ((lenD true (sl s 0)).bind fun z=>ai (cE [z,I 1,sl s 1]) fun g _=>some (.ret [sl g 0] [])) none) fun a b=>some (.ret a b)):=by kernel_rfl
theorem ui (x0:D):gM [x0]=((nV 2 x0).bind fun y=>(aa y (.ref 0 0)).bind fun z=>((atD y z).bind (bK false 1)).bind fun z=>ai (dF [z,I 3]) fun c _=>(ah D.bad (sl c 0) true (aa y (.ref 0 1))).bind fun z=>(ah (.tup []) (sl c 0) true ((atD y z).bind (bK false 1))).bind fun z=>dJ (sl c 0) true (ai (cE [z,I 1,I 54]) fun c _=>some (.nrm [sl c 0])) [.tup []] fun d=>(aW (sl c 0) (sl d 0) (B false)).bind fun z=>some (.ret [z] [])):=by kernel_rfl
theorem uV (x0:D):dY [x0]=((lenD false x0).bind fun z=>(aI (fun s=>(bin .lss false [] (sl s 3) (sl s 2)).bind fun z=>ifD z ((Hj D.ptr (aJ 2 (sl s 1) (sl s 3))).bind fun z=>((ldD true 2 z).bind bc).bind fun z=>(stD 2 (.agg [.v (.string ⟨⟨[]⟩⟩),I 0]) (.ref 0 0) z).bind fun b=>(oZ true 2 0 b).bind fun z=>ai (gM [z]) fun d _=>(un .not (sl d 0)).bind fun z=>(ah (.tup []) z false (some (sl s 3))).bind fun e=>(ah (.tup []) z false (bin .gtr false [] e (I 0))).bind fun f=>(ah (.tup []) z false (some f)).bind fun c=>(ah (.tup []) c true (some (sl s 0))).bind fun g=>(ah (.tup []) c true (some (sl s 3))).bind fun h=>(ah (.tup []) c true (bin .sub false [] h (I 1))).bind fun j=>(ah (.tup []) c true (Hj D.ptr (aJ 2 g j))).bind fun k=>(ah (.tup []) c true (rA 0 k)).bind fun l=>(ah (.tup []) c true ((ldD false 1 l).bind bc)).bind fun m=>(ah D.bad c true (aa b (.ref 0 0))).bind fun n=>(ah (.tup []) c true ((atD b n).bind (bK false 1))).bind fun p=>(ah (.tup []) c true (bin .geq false [] m p)).bind fun q=>(ah (.tup []) z false (aW c q (B false))).bind fun r=>(aW z (B true) r).bind fun z=>ifD z (some (.ret [B false] [])) ((bin .add false [] (sl s 3) (I 1)).bind fun z=>some (.nrm [sl s 0,sl s 1,sl s 2,z]))) (some (.ext 0 [sl s 0]))) [x0,x0,z,I 0]).bind fun o=>cv o (fun i s=>ifN (i.beq 0) ((lenD false (sl s 0)).bind fun z=>ai (cE [z,I 1,I 32]) fun d _=>some (.ret [sl d 0] [])) none) fun a b=>some (.ret a b)):=by kernel_rfl
theorem uP (x0:D):gE [x0]=(ai (dF [x0,I 16]) fun c _=>some (.ret [sl c 0] [])):=by kernel_rfl
theorem tX (x0:D):fG [x0]=((lenD false x0).bind fun z=>(aI (fun s=>(bin .lss false [] (sl s 3) (sl s 2)).bind fun z=>ifD z ((Hj D.ptr (aJ 1 (sl s 1) (sl s 3))).bind fun z=>((ldD false 1 z).bind bc).bind fun z=>ai (gE [z]) fun c _=>(un .not (sl c 0)).bind fun z=>ifD z (some (.ret [B false] [])) ((bin .add false [] (sl s 3) (I 1)).bind fun z=>some (.nrm [sl s 0,sl s 1,sl s 2,z]))) (some (.ext 0 [sl s 0]))) [x0,x0,z,I 0]).bind fun o=>cv o (fun i s=>ifN (i.beq 0) ((lenD false (sl s 0)).bind fun z=>(bin .leq false [] z (I 40)).bind fun z=>some (.ret [z] [])) none) fun a b=>some (.ret a b)):=by kernel_rfl
theorem tI (x0 x1:D):eI [x0,x1]=((bin .lss false [] x0 x1).bind fun z=>ifD z (some (.ret [x0] [])) (some (.ret [x1] []))):=by kernel_rfl
theorem uo (x0 x1:D):eX [x0,x1]=((lenD false x0).bind fun z=>(aI (fun s=>(bin .lss false [] (sl s 3) (sl s 2)).bind fun z=>ifD z ((Hj D.ptr (aJ 2 (sl s 1) (sl s 3))).bind fun z=>((ldD true 2 z).bind bc).bind fun z=>(stD 2 (.agg [.v (.string ⟨⟨[]⟩⟩),I 0]) (.ref 0 0) z).bind fun b=>(aa b (.ref 0 0)).bind fun z=>((atD b z).bind (bK false 1)).bind fun z=>(bin .eql false [] z (sl s 0)).bind fun z=>ifD z (some (.ret [sl s 3] [])) ((bin .add false [] (sl s 3) (I 1)).bind fun z=>some (.nrm [sl s 0,sl s 1,sl s 2,z]))) (some (.ext 0 []))) [x1,x0,z,I 0]).bind fun o=>cv o (fun i _=>ifN (i.beq 0) (some (.ret [I (-1)] [])) none) fun a b=>some (.ret a b)):=by kernel_rfl
theorem wt (x0 x1:D):fJ [x0,x1]=((aI (fun s=>(lenD true (sl s 1)).bind fun z=>(bin .lss false [] (sl s 3) z).bind fun z=>ifD z ((lenD true (sl s 1)).bind fun z=>(bin .sub false [] z (sl s 3)).bind fun z=>ai (eI [I 3,z]) fun c _=>(aI (fun s=>(bin .gtr false [] (sl s 5) (I 0)).bind fun z=>(ah (.tup []) z true (some (sl s 4))).bind fun d=>(ah (.tup []) z true (bin .lss false [] d (I 0))).bind fun e=>(aW z e (B false)).bind fun z=>ifD z ((bin .add false [] (sl s 3) (sl s 5)).bind fun z=>(fZ true 0 (sl s 1) (sl s 3) z).bind fun z=>ai (eX [sl s 0,z]) fun c _=>(bin .sub false [] (sl s 5) (I 1)).bind fun z=>some (.nrm [sl s 0,sl s 1,sl s 2,sl s 3,sl c 0,z])) (some (.ext 2 [sl s 0,sl s 1,sl s 2,sl s 3,sl s 4]))) [sl s 0,sl s 1,sl s 2,sl s 3,I (-1),sl c 0]).bind fun o=>cv o (fun i s=>ifN (i.beq 2) ((bin .lss false [] (sl s 4) (I 0)).bind fun z=>ifD z (some (.ret [.arr 1 [],B false] [])) ((aA 1 [sl s 4]).bind fun a=>(jM a).bind fun b=>(gi 1 8 (sl s 2) b).bind fun y=>(Hj D.ptr (aJ 2 (sl s 0) (sl s 4))).bind fun z=>(rA 0 z).bind fun z=>((ldD false 1 z).bind bc).bind fun z=>(lenD true z).bind fun z=>(bin .add false [] (sl s 3) z).bind fun z=>some (.nrm [sl s 0,sl s 1,y,z]))) (ifN (i.beq 1) (some (.nrm [sl s 0,sl s 1,sl s 2,sl s 3])) (some (.ext i [sl s 2])))) fun a b=>some (.ret a b)) (some (.ext 0 [sl s 2]))) [x0,x1,.arr 1 [],I 0]).bind fun o=>cv o (fun i s=>ifN (i.beq 0) (some (.ret [sl s 0,B true] [])) none) fun a b=>some (.ret a b)):=by kernel_rfl
theorem ug (x0 x1:D):eT [x0,x1]=((lenD false x0).bind fun z=>(vX 1 8 (I 0) z z).bind fun y=>(lenD false x1).bind fun z=>(aI (fun s=>(bin .lss false [] (sl s 4) (sl s 3)).bind fun z=>ifD z ((Hj D.ptr (aJ 1 (sl s 2) (sl s 4))).bind fun z=>((ldD false 1 z).bind bc).bind fun z=>ai (fJ [sl s 0,z]) fun c _=>(aT (.tup c) 0).bind fun y=>(aT (en (.tup c) 0) 1).bind fun z=>(un .not z).bind fun z=>ifD z (some (.ret [.arr 1 [],B false] [])) ((lenD false y).bind fun z=>(aI (fun s=>(bin .lss false [] (sl s 7) (sl s 6)).bind fun z=>ifD z ((Hj D.ptr (aJ 1 (sl s 5) (sl s 7))).bind fun z=>((ldD false 1 z).bind bc).bind fun z=>(aa (sl s 1) (.ref 0 0)).bind fun d=>((aa d (sl s 1)).bind fun b=>gd 1 b z).bind fun e=>((atD (sl s 1) e).bind (bK false 1)).bind fun f=>(bin .add false [] f (I 1)).bind fun g=>((aa d (sl s 1)).bind fun b=>gd 1 b z).bind fun z=>(stD 1 (sl s 1) z g).bind fun b=>(bin .add false [] (sl s 7) (I 1)).bind fun z=>some (.nrm [sl s 0,b,sl s 2,sl s 3,sl s 4,sl s 5,sl s 6,z])) (some (.ext 2 [sl s 0,sl s 1,sl s 2,sl s 3,sl s 4]))) [sl s 0,sl s 1,sl s 2,sl s 3,sl s 4,y,z,I 0]).bind fun o=>cv o (fun i s=>ifN (i.beq 2) ((bin .add false [] (sl s 4) (I 1)).bind fun z=>some (.nrm [sl s 0,sl s 1,sl s 2,sl s 3,z])) (ifN (i.beq 1) ((bin .add false [] (sl s 4) (I 1)).bind fun z=>some (.nrm [sl s 0,sl s 1,sl s 2,sl s 3,z])) (some (.ext i [sl s 1])))) fun a b=>some (.ret a b))) (some (.ext 0 [sl s 1]))) [x0,y,x1,z,I 0]).bind fun o=>cv o (fun i s=>ifN (i.beq 0) (some (.ret [sl s 0,B true] [])) none) fun a b=>some (.ret a b)):=by kernel_rfl
theorem uB (x0 x1:D):gJ [x0,x1]=(ai (dY [x0]) fun c _=>(un .not (sl c 0)).bind fun z=>(ah (.tup []) z false (some x1)).bind fun d=>dJ z false (ai (fG [d]) fun c _=>some (.nrm [sl c 0])) [.tup []] fun e=>(ah (.tup []) z false (un .not (sl e 0))).bind fun f=>(aW z (B true) f).bind fun z=>ifD z (some (.ret [B false] [])) (ai (eT [x0,x1]) fun c _=>(aT (.tup c) 0).bind fun _=>(aT (en (.tup c) 0) 1).bind fun z=>some (.ret [z] []))):=by kernel_rfl
theorem wi (x0 x1 x2:D):fE [x0,x1,x2]=((lenD false x0).bind fun z=>(aI (fun s=>(bin .lss false [] (sl s 4) (sl s 3)).bind fun z=>ifD z ((Hj D.ptr (aJ 1 (sl s 2) (sl s 4))).bind fun z=>((ldD false 1 z).bind bc).bind fun z=>ai (cE [z,sl s 0,sl s 1]) fun c _=>(un .not (sl c 0)).bind fun z=>ifD z (some (.ret [B false] [])) ((bin .add false [] (sl s 4) (I 1)).bind fun z=>some (.nrm [sl s 0,sl s 1,sl s 2,sl s 3,z]))) (some (.ext 0 []))) [x1,x2,x0,z,I 0]).bind fun o=>cv o (fun i _=>ifN (i.beq 0) (some (.ret [B true] [])) none) fun a b=>some (.ret a b)):=by kernel_rfl
theorem sQ (x0 x1:D):dB [x0,x1]=((lenD false x1).bind fun z=>(lenD false x0).bind fun c=>(bin .eql false [] z c).bind fun z=>(ah (.tup []) z true (some x1)).bind fun d=>dJ z true (ai (fE [d,I 0,I 100000]) fun e _=>some (.nrm [sl e 0])) [.tup []] fun f=>(aW z (sl f 0) (B false)).bind fun z=>some (.ret [z] [])):=by kernel_rfl
theorem sV (x0 x1 x2:D):fK [x0,x1,x2]=(ai (gJ [x0,x2]) fun c _=>(ah (.tup []) (sl c 0) true (some x0)).bind fun z=>(ah (.tup []) (sl c 0) true (some x1)).bind fun d=>dJ (sl c 0) true (ai (dB [z,d]) fun c _=>some (.nrm [sl c 0])) [.tup []] fun e=>(aW (sl c 0) (sl e 0) (B false)).bind fun z=>some (.ret [z] [])):=by kernel_rfl
theorem mY (x0 x1 x2:D):du [x0,x1,x2]=(ai (fK [x0,x1,x2]) fun e _=>(un .not (sl e 0)).bind fun z=>ifD z (some (.ret [I 0,B false] [])) (ai (eT [x0,x2]) fun e _=>(aT (.tup e) 0).bind fun y=>(aT (en (.tup e) 0) 1).bind fun _=>(lenD false y).bind fun z=>(aI (fun s=>(bin .lss false [] (sl s 5) (sl s 4)).bind fun z=>ifD z ((Hj D.ptr (aJ 1 (sl s 3) (sl s 5))).bind fun z=>((ldD false 1 z).bind bc).bind fun z=>(bin .gtr false [] z (I 0)).bind fun d=>(ah (.tup []) d true (some (sl s 2))).bind fun f=>(ah (.tup []) d true (bin .lss false [] f (I 0))).bind fun g=>(ah (.tup []) d true (some g)).bind fun c=>(ah (.tup []) c false (some (sl s 0))).bind fun h=>(ah (.tup []) c false (some (sl s 5))).bind fun j=>(ah (.tup []) c false (Hj D.ptr (aJ 1 h j))).bind fun k=>(ah (.tup []) c false ((ldD false 1 k).bind bc)).bind fun l=>(ah (.tup []) c false (some (sl s 1))).bind fun m=>(ah (.tup []) c false (some (sl s 2))).bind fun n=>(ah (.tup []) c false (Hj D.ptr (aJ 1 m n))).bind fun p=>(ah (.tup []) c false ((ldD false 1 p).bind bc)).bind fun q=>(ah (.tup []) c false (bin .mul false [] l q)).bind fun r=>(ah (.tup []) c false (some (sl s 0))).bind fun t=>(ah (.tup []) c false (some (sl s 2))).bind fun u=>(ah (.tup []) c false (Hj D.ptr (aJ 1 t u))).bind fun v=>(ah (.tup []) c false ((ldD false 1 v).bind bc)).bind fun w=>(ah (.tup []) c false (some z)).bind fun z=>(ah (.tup []) c false (bin .mul false [] w z)).bind fun z=>(ah (.tup []) c false (bin .lss false [] r z)).bind fun z=>(ah (.tup []) d true (aW c (B true) z)).bind fun z=>(aW d z (B false)).bind fun z=>ifD z ((bin .add false [] (sl s 5) (I 1)).bind fun z=>some (.nrm [sl s 0,sl s 1,sl s 5,sl s 3,sl s 4,z])) ((bin .add false [] (sl s 5) (I 1)).bind fun z=>some (.nrm [sl s 0,sl s 1,sl s 2,sl s 3,sl s 4,z]))) (some (.ext 0 [sl s 2]))) [x1,y,I (-1),y,z,I 0]).bind fun o=>cv o (fun i s=>ifN (i.beq 0) ((bin .lss false [] (sl s 0) (I 0)).bind fun z=>ifD z (some (.ret [I 0,B false] [])) (some (.ret [sl s 0,B true] []))) none) fun a b=>some (.ret a b))):=by kernel_rfl
theorem pt (x0 x1:D):ep [x0,x1]=(ai (bQ [x0,x1]) fun c _=>(aT (.tup c) 0).bind fun y=>(aT (en (.tup c) 0) 1).bind fun z=>some (.ret [y,z] [])):=by kernel_rfl
theorem lR (x0 x1 x2:D):dh [x0,x1,x2]=(ai (cF [x0,x1]) fun c _=>(un .not (sl c 0)).bind fun z=>(ah (.tup []) z false (some x2)).bind fun d=>dJ z false (ai (bX [d,I 1,I 72]) fun c _=>some (.nrm [sl c 0])) [.tup []] fun e=>(ah (.tup []) z false (un .not (sl e 0))).bind fun f=>(aW z (B true) f).bind fun z=>ifD z (some (.ret [I 0,B false] [])) ((lenD false x0).bind fun z=>(aI (fun s=>(bin .lss false [] (sl s 5) (sl s 4)).bind fun z=>ifD z ((Hj D.ptr (aJ 2 (sl s 3) (sl s 5))).bind fun z=>((ldD true 2 z).bind bc).bind fun z=>(stD 2 (.agg [.v (.string ⟨⟨[]⟩⟩),I 0]) (.ref 0 0) z).bind fun b=>(Hj D.ptr (aJ 1 (sl s 0) (sl s 5))).bind fun z=>((ldD false 1 z).bind bc).bind fun z=>(aa b (.ref 0 1)).bind fun g=>((atD b g).bind (bK false 1)).bind fun h=>(bin .mul false [] z h).bind fun z=>(bin .add false [] (sl s 2) z).bind fun z=>(bin .add false [] (sl s 5) (I 1)).bind fun j=>some (.nrm [sl s 0,sl s 1,z,sl s 3,sl s 4,j])) (some (.ext 0 [sl s 1,sl s 2]))) [x1,x2,I 0,x0,z,I 0]).bind fun o=>cv o (fun i s=>ifN (i.beq 0) ((bin .mul false [] (sl s 1) (sl s 0)).bind fun z=>(bin .add false [] z (I 99)).bind fun z=>(bin .quo false [] z (I 100)).bind fun z=>some (.ret [z,B true] [])) none) fun a b=>some (.ret a b))):=by kernel_rfl
theorem lQ (x0 x1 x2:D):cU [x0,x1,x2]=(ai (dY [x0]) fun c _=>(un .not (sl c 0)).bind fun z=>(ah (.tup []) z false (some x0)).bind fun e=>(ah (.tup []) z false (some x1)).bind fun f=>dJ z false (ai (dB [e,f]) fun c _=>some (.nrm [sl c 0])) [.tup []] fun d=>(ah (.tup []) z false (un .not (sl d 0))).bind fun g=>(aW z (B true) g).bind fun z=>(ah (.tup []) z false (some x2)).bind fun h=>dJ z false (ai (cE [h,I 1,I 72]) fun c _=>some (.nrm [sl c 0])) [.tup []] fun d=>(ah (.tup []) z false (un .not (sl d 0))).bind fun j=>(aW z (B true) j).bind fun z=>ifD z (some (.ret [I 0,B false] [])) ((lenD false x1).bind fun z=>(aI (fun s=>(bin .lss false [] (sl s 5) (sl s 4)).bind fun z=>ifD z ((Hj D.ptr (aJ 1 (sl s 3) (sl s 5))).bind fun z=>((ldD false 1 z).bind bc).bind fun z=>(Hj D.ptr (aJ 2 (sl s 0) (sl s 5))).bind fun k=>(rA 1 k).bind fun l=>((ldD false 1 l).bind bc).bind fun m=>(bin .mul false [] z m).bind fun z=>(bin .mul false [] z (sl s 1)).bind fun z=>(bin .add false [] (sl s 2) z).bind fun z=>(bin .add false [] (sl s 5) (I 1)).bind fun n=>some (.nrm [sl s 0,sl s 1,z,sl s 3,sl s 4,n])) (some (.ext 0 [sl s 2]))) [x0,x2,I 0,x1,z,I 0]).bind fun o=>cv o (fun i s=>ifN (i.beq 0) ((bin .add false [] (sl s 0) (I 99)).bind fun z=>(bin .quo false [] z (I 100)).bind fun z=>some (.ret [z,B true] [])) none) fun a b=>some (.ret a b))):=by kernel_rfl
theorem ri (x0 x1:D):fc [x0,x1]=(ai (cF [x0,x1]) fun c _=>(un .not (sl c 0)).bind fun z=>ifD z (some (.ret [.v (.string ⟨⟨[]⟩⟩),B false] [])) ((aA 1 []).bind fun a=>(lenD false x1).bind fun z=>(aI (fun s=>(bin .lss false [] (sl s 4) (sl s 3)).bind fun z=>ifD z ((Hj D.ptr (aJ 1 (sl s 2) (sl s 4))).bind fun z=>((ldD false 1 z).bind bc).bind fun z=>(bin .gtr false [] z (I 0)).bind fun d=>ifD d ((Hj D.ptr (aJ 2 (sl s 0) (sl s 4))).bind fun e=>(rA 0 e).bind fun f=>((ldD false 1 f).bind bc).bind fun g=>(bin .add false [] g (.v (.string ⟨⟨[61]⟩⟩))).bind fun h=>ai (vB [z]) fun c _=>(bin .add false [] h (sl c 0)).bind fun z=>(aA 1 [z]).bind fun a=>(jM a).bind fun b=>(gi 1 16 (sl s 1) b).bind fun y=>(bin .add false [] (sl s 4) (I 1)).bind fun z=>some (.nrm [sl s 0,y,sl s 2,sl s 3,z])) ((bin .add false [] (sl s 4) (I 1)).bind fun z=>some (.nrm [sl s 0,sl s 1,sl s 2,sl s 3,z]))) (some (.ext 0 [sl s 1]))) [x0,a,x1,z,I 0]).bind fun o=>cv o (fun i s=>ifN (i.beq 0) ((aa (sl s 0) (.ref 0 0)).bind fun z=>(aa z (sl s 0)).bind fun i=>ai (vu [i,.v (.string ⟨⟨[32]⟩⟩)]) fun c _=>some (.ret [sl c 0,B true] [])) none) fun a b=>some (.ret a b))):=by kernel_rfl
theorem ww (n:Nat) (x0:D):bn (n+1) [x0]=((bin .lss false [] x0 (I 10)).bind fun z=>ifD z ((bin .add false [] (I 48) x0).bind fun z=>(gf (some .u8) false z).bind fun z=>(aA 1 [z]).bind fun a=>(qd a).bind fun z=>some (.ret [z] [])) ((bin .quo false [] x0 (I 10)).bind fun z=>ai (bn n [z]) fun c _=>(bin .rem false [] x0 (I 10)).bind fun z=>(bin .add false [] (I 48) z).bind fun z=>(gf (some .u8) false z).bind fun z=>(aA 1 [z]).bind fun a=>(qd a).bind fun z=>(bin .add false [] (sl c 0) z).bind fun z=>some (.ret [z] []))):=by kernel_rfl
theorem rv (x0 x1:D):fi [x0,x1]=(ai (dY [x0]) fun c _=>(un .not (sl c 0)).bind fun z=>(ah (.tup []) z false (some x0)).bind fun d=>(ah (.tup []) z false (some x1)).bind fun e=>dJ z false (ai (dB [d,e]) fun c _=>some (.nrm [sl c 0])) [.tup []] fun f=>(ah (.tup []) z false (un .not (sl f 0))).bind fun g=>(aW z (B true) g).bind fun z=>ifD z (some (.ret [.v (.string ⟨⟨[]⟩⟩),B false] [])) ((lenD false x1).bind fun z=>(aI (fun s=>(bin .lss false [] (sl s 4) (sl s 3)).bind fun z=>ifD z ((Hj D.ptr (aJ 1 (sl s 2) (sl s 4))).bind fun z=>((ldD false 1 z).bind bc).bind fun z=>(bin .gtr false [] z (I 0)).bind fun h=>ifD h ((Hj D.ptr (aJ 2 (sl s 0) (sl s 4))).bind fun j=>(rA 0 j).bind fun k=>((ldD false 1 k).bind bc).bind fun l=>(bin .add false [] l (.v (.string ⟨⟨[61]⟩⟩))).bind fun m=>ai (kH [z]) fun c _=>(bin .add false [] m (sl c 0)).bind fun z=>(bin .add false [] z (.v (.string ⟨⟨[32]⟩⟩))).bind fun z=>(bin .add false [] (sl s 1) z).bind fun z=>(bin .add false [] (sl s 4) (I 1)).bind fun n=>some (.nrm [sl s 0,z,sl s 2,sl s 3,n])) ((bin .add false [] (sl s 4) (I 1)).bind fun z=>some (.nrm [sl s 0,sl s 1,sl s 2,sl s 3,z]))) (some (.ext 0 [sl s 1]))) [x0,.v (.string ⟨⟨[]⟩⟩),x1,z,I 0]).bind fun o=>cv o (fun i s=>ifN (i.beq 0) ((bin .eql false [] (sl s 0) (.v (.string ⟨⟨[]⟩⟩))).bind fun z=>ifD z (some (.ret [.v (.string ⟨⟨[]⟩⟩),B true] [])) ((lenD true (sl s 0)).bind fun z=>(bin .sub false [] z (I 1)).bind fun z=>(fZ true 0 (sl s 0) (I 0) z).bind fun z=>some (.ret [z,B true] []))) none) fun a b=>some (.ret a b))):=by kernel_rfl
theorem kM (x0 x1:D):cB [x0,x1]=((lenD false x0).bind fun z=>ai (cE [z,I 1,I 32]) fun e _=>(un .not (sl e 0)).bind fun z=>(ah (.tup []) z false (some x0)).bind fun k=>dJ z false (ai (fE [k,I 0,I 1000000]) fun e _=>some (.nrm [sl e 0])) [.tup []] fun j=>(ah (.tup []) z false (un .not (sl j 0))).bind fun l=>(aW z (B true) l).bind fun z=>(ah (.tup []) z false (some x1)).bind fun m=>dJ z false (ai (cE [m,I 0,I 100000]) fun e _=>some (.nrm [sl e 0])) [.tup []] fun j=>(ah (.tup []) z false (un .not (sl j 0))).bind fun n=>(aW z (B true) n).bind fun z=>ifD z (some (.ret [.arr 1 [],B false] [])) ((lenD false x0).bind fun z=>(aI (fun s=>(bin .lss false [] (sl s 5) (sl s 4)).bind fun z=>ifD z ((Hj D.ptr (aJ 1 (sl s 3) (sl s 5))).bind fun z=>((ldD false 1 z).bind bc).bind fun z=>(bin .add false [] (sl s 2) z).bind fun z=>(bin .add false [] (sl s 5) (I 1)).bind fun d=>some (.nrm [sl s 0,sl s 1,z,sl s 3,sl s 4,d])) (some (.ext 0 [sl s 0,sl s 1,sl s 2]))) [x0,x1,I 0,x0,z,I 0]).bind fun o=>cv o (fun i s=>ifN (i.beq 0) ((bin .eql false [] (sl s 2) (I 0)).bind fun z=>ifD z (some (.ret [.arr 1 [],B false] [])) ((lenD false (sl s 0)).bind fun z=>(aI (fun s=>(bin .lss false [] (sl s 7) (sl s 6)).bind fun z=>ifD z ((Hj D.ptr (aJ 1 (sl s 5) (sl s 7))).bind fun z=>((ldD false 1 z).bind bc).bind fun z=>(bin .mul false [] (sl s 1) z).bind fun d=>(bin .quo false [] d (sl s 2)).bind fun f=>(aA 1 [f]).bind fun a=>(jM a).bind fun b=>(gi 1 8 (sl s 3) b).bind fun y=>(bin .mul false [] (sl s 1) z).bind fun z=>(bin .quo false [] z (sl s 2)).bind fun z=>(bin .sub false [] (sl s 4) z).bind fun z=>(bin .add false [] (sl s 7) (I 1)).bind fun g=>some (.nrm [sl s 0,sl s 1,sl s 2,y,z,sl s 5,sl s 6,g])) (some (.ext 2 [sl s 0,sl s 1,sl s 2,sl s 3,sl s 4]))) [sl s 0,sl s 1,sl s 2,.arr 1 [],sl s 1,sl s 0,z,I 0]).bind fun o=>cv o (fun i s=>ifN (i.beq 2) ((lenD false (sl s 0)).bind fun z=>(vX 1 1 (B false) z z).bind fun y=>(aa y (.ref 0 0)).bind fun z=>(aI (fun s=>(bin .gtr false [] (sl s 4) (I 0)).bind fun z=>ifD z ((lenD false (sl s 0)).bind fun z=>(aI (fun s=>(bin .lss false [] (sl s 10) (sl s 9)).bind fun z=>ifD z ((Hj D.ptr (aJ 1 (sl s 8) (sl s 10))).bind fun z=>((ldD false 1 z).bind bc).bind fun z=>(aa (sl s 5) (.ref 0 0)).bind fun d=>((aa d (sl s 7)).bind fun b=>gd 1 b (sl s 10)).bind fun f=>((atD (sl s 7) f).bind (bK false 1)).bind fun g=>(un .not g).bind fun h=>(ah (.tup []) h true (some (sl s 6))).bind fun p=>(ah (.tup []) h true (bin .lss false [] p (I 0))).bind fun q=>(ah (.tup []) h true (some q)).bind fun c=>(ah (.tup []) c false (some (sl s 1))).bind fun r=>(ah (.tup []) c false (some z)).bind fun z=>(ah (.tup []) c false (bin .mul false [] r z)).bind fun z=>(ah (.tup []) c false (some (sl s 2))).bind fun t=>(ah (.tup []) c false (bin .rem false [] z t)).bind fun z=>(ah (.tup []) c false (some (sl s 1))).bind fun u=>(ah (.tup []) c false (some (sl s 0))).bind fun v=>(ah (.tup []) c false (some (sl s 6))).bind fun w=>(ah (.tup []) c false (Hj D.ptr (aJ 1 v w))).bind fun za=>(ah (.tup []) c false ((ldD false 1 za).bind bc)).bind fun zb=>(ah (.tup []) c false (bin .mul false [] u zb)).bind fun zc=>(ah (.tup []) c false (some (sl s 2))).bind fun zd=>(ah (.tup []) c false (bin .rem false [] zc zd)).bind fun ze=>(ah (.tup []) c false (bin .gtr false [] z ze)).bind fun z=>(ah (.tup []) h true (aW c (B true) z)).bind fun z=>(aW h z (B false)).bind fun z=>ifD z ((bin .add false [] (sl s 10) (I 1)).bind fun z=>some (.nrm [sl s 0,sl s 1,sl s 2,sl s 3,sl s 4,sl s 5,sl s 10,sl s 7,sl s 8,sl s 9,z])) ((bin .add false [] (sl s 10) (I 1)).bind fun z=>some (.nrm [sl s 0,sl s 1,sl s 2,sl s 3,sl s 4,sl s 5,sl s 6,sl s 7,sl s 8,sl s 9,z]))) (some (.ext 6 [sl s 0,sl s 1,sl s 2,sl s 3,sl s 4,sl s 5,sl s 6,sl s 7]))) [sl s 0,sl s 1,sl s 2,sl s 3,sl s 4,sl s 5,I (-1),sl s 6,sl s 0,z,I 0]).bind fun o=>cv o (fun i s=>ifN (i.beq 6) ((aa (sl s 5) (.ref 0 0)).bind fun z=>((aa z (sl s 7)).bind fun b=>gd 1 b (sl s 6)).bind fun z=>(stD 1 (sl s 7) z (B true)).bind fun b=>(aa (sl s 3) (.ref 0 0)).bind fun z=>((aa z (sl s 3)).bind fun b=>gd 1 b (sl s 6)).bind fun d=>((atD (sl s 3) d).bind (bK false 1)).bind fun f=>(bin .add false [] f (I 1)).bind fun g=>((aa z (sl s 3)).bind fun b=>gd 1 b (sl s 6)).bind fun z=>(stD 1 (sl s 3) z g).bind fun zf=>(bin .sub false [] (sl s 4) (I 1)).bind fun z=>some (.nrm [sl s 0,sl s 1,sl s 2,zf,z,sl s 5,b])) (ifN (i.beq 5) ((bin .sub false [] (sl s 4) (I 1)).bind fun z=>some (.nrm [sl s 0,sl s 1,sl s 2,sl s 3,z,sl s 5,sl s 7])) (some (.ext i [sl s 3])))) fun a b=>some (.ret a b)) (some (.ext 4 [sl s 3]))) [sl s 0,sl s 1,sl s 2,sl s 3,sl s 4,z,y]).bind fun o=>cv o (fun i s=>ifN (i.beq 4) (some (.ret [sl s 0,B true] [])) none) fun a b=>some (.ret a b)) none) fun a b=>some (.ret a b))) none) fun a b=>some (.ret a b))):=by kernel_rfl
theorem jq (x0:D):bP [x0]=((aa x0 (.ref 0 0)).bind fun z=>(aa z z).bind fun z=>(cM 1 z).bind fun z=>(((atD x0 z).bind (bK false 1)).bind bc).bind fun z=>(aa x0 (.ref 0 0)).bind fun w=>(aa w w).bind fun zc=>(cM 0 zc).bind fun zd=>((atD x0 zd).bind (bK false 1)).bind fun ze=>(lenD false ze).bind fun zf=>(bin .lss false [] z zf).bind fun z=>ifD z ((aa x0 (.ref 0 0)).bind fun z=>(aa z z).bind fun z=>(cM 0 z).bind fun z=>((atD x0 z).bind (bK false 1)).bind fun z=>(aa x0 (.ref 0 0)).bind fun e=>(aa e e).bind fun g=>(cM 1 g).bind fun h=>(((atD x0 h).bind (bK false 1)).bind bc).bind fun j=>(Hj D.ptr (aJ 1 z j)).bind fun z=>((ldD false 1 z).bind bc).bind fun z=>(gf (some .i64) false z).bind fun z=>(aa x0 (.ref 0 0)).bind fun c=>(aa c c).bind fun k=>(cM 1 k).bind fun l=>(((atD x0 l).bind (bK false 1)).bind bc).bind fun m=>(bin .add false [] m (I 1)).bind fun n=>(aa c c).bind fun p=>(cM 1 p).bind fun q=>(stD 1 x0 q n).bind fun b=>(aa b (.ref 0 0)).bind fun f=>(aa b (.ref 0 0)).bind fun d=>(aa d d).bind fun r=>(cM 2 r).bind fun t=>(((atD b t).bind (bK false 1)).bind bc).bind fun u=>(bin .mul false [] u (.v (Ho Hn 6364136223846793005))).bind fun v=>(gf (some .u64) false z).bind fun zg=>(bin .add false [] v zg).bind fun zh=>(bin .add false [] zh (.v (Ho Hn 1442695040888963407))).bind fun zi=>(aa f f).bind fun zj=>(cM 2 zj).bind fun zk=>(stD 1 b zk zi).bind fun b=>(aa b (.ref 0 0)).bind fun za=>(aa za za).bind fun zl=>(cM 1 zl).bind fun zm=>(((atD b zm).bind (bK false 1)).bind bc).bind fun zn=>(aa b (.ref 0 0)).bind fun zb=>(aa zb zb).bind fun zo=>(cM 0 zo).bind fun zp=>((atD b zp).bind (bK false 1)).bind fun zq=>(lenD false zq).bind fun zr=>(bin .leq false [] zn zr).bind fun zs=>ifD zs ((aa b b).bind fun _=>some (.ret [z] [b])) ((aa b (.ref 0 0)).bind fun z=>(aa z z).bind fun z=>(cM 2 z).bind fun z=>(((atD b z).bind (bK false 1)).bind bc).bind fun z=>(bin .shr false [] z (.v (Ho Hn 40))).bind fun z=>(bin .and false [] z (.v (Ho Hn 255))).bind fun z=>(gf (some .i64) false z).bind fun z=>(aa b b).bind fun _=>some (.ret [z] [b]))) ((aa x0 (.ref 0 0)).bind fun z=>(aa z z).bind fun e=>(cM 1 e).bind fun g=>(((atD x0 g).bind (bK false 1)).bind bc).bind fun h=>(bin .add false [] h (I 1)).bind fun j=>(aa z z).bind fun z=>(cM 1 z).bind fun z=>(stD 1 x0 z j).bind fun b=>(aa b (.ref 0 0)).bind fun z=>(aa b (.ref 0 0)).bind fun c=>(aa c c).bind fun k=>(cM 2 k).bind fun l=>(((atD b l).bind (bK false 1)).bind bc).bind fun m=>(bin .mul false [] m (.v (Ho Hn 6364136223846793005))).bind fun n=>(gf (some .u64) false (I 0)).bind fun p=>(bin .add false [] n p).bind fun q=>(bin .add false [] q (.v (Ho Hn 1442695040888963407))).bind fun f=>(aa z z).bind fun z=>(cM 2 z).bind fun z=>(stD 1 b z f).bind fun b=>(aa b (.ref 0 0)).bind fun z=>(aa z z).bind fun z=>(cM 1 z).bind fun z=>(((atD b z).bind (bK false 1)).bind bc).bind fun z=>(aa b (.ref 0 0)).bind fun d=>(aa d d).bind fun r=>(cM 0 r).bind fun t=>((atD b t).bind (bK false 1)).bind fun u=>(lenD false u).bind fun v=>(bin .leq false [] z v).bind fun z=>ifD z ((aa b b).bind fun _=>some (.ret [I 0] [b])) ((aa b (.ref 0 0)).bind fun z=>(aa z z).bind fun z=>(cM 2 z).bind fun z=>(((atD b z).bind (bK false 1)).bind bc).bind fun z=>(bin .shr false [] z (.v (Ho Hn 40))).bind fun z=>(bin .and false [] z (.v (Ho Hn 255))).bind fun z=>(gf (some .i64) false z).bind fun z=>(aa b b).bind fun _=>some (.ret [z] [b])))):=by kernel_rfl
theorem pG (x0 x1:D):an [x0,x1]=((bin .leq false [] x1 (I 1)).bind fun z=>ifD z ((aa x0 x0).bind fun _=>some (.ret [I 0] [x0])) ((aa x0 (.ref 0 0)).bind fun z=>(br z x0).bind fun i=>(aa i i).bind fun i=>ai (bP [i]) fun d c=>(bin .gtr false [] x1 (I 200)).bind fun z=>ifD z ((bin .mul false [] (sl d 0) (I 256)).bind fun z=>(aa (sl c 0) (.ref 0 0)).bind fun e=>(br e (sl c 0)).bind fun i=>(aa i i).bind fun i=>ai (bP [i]) fun d c=>(bin .add false [] z (sl d 0)).bind fun z=>(bin .rem false [] z x1).bind fun z=>(aa (sl c 0) (sl c 0)).bind fun _=>some (.ret [z] [sl c 0])) ((bin .rem false [] (sl d 0) x1).bind fun z=>(aa (sl c 0) (sl c 0)).bind fun _=>some (.ret [z] [sl c 0])))):=by kernel_rfl
theorem qA (x0 x1:D):aK [x0,x1]=((aa x0 (.ref 0 0)).bind fun z=>(br z x0).bind fun i=>(aa i i).bind fun i=>ai (an [i,x1]) fun d c=>(bin .eql false [] (sl d 0) (I 0)).bind fun z=>(aa (sl c 0) (sl c 0)).bind fun _=>some (.ret [z] [sl c 0])):=by kernel_rfl
theorem od (x0 x1:D):al [x0,x1]=((aa x0 (.ref 0 0)).bind fun z=>(lenD false x1).bind fun d=>(br z x0).bind fun i=>(aa i i).bind fun i=>ai (an [i,d]) fun e c=>(Hj D.ptr (aJ 1 x1 (sl e 0))).bind fun z=>((ldD false 1 z).bind bc).bind fun z=>(aa (sl c 0) (sl c 0)).bind fun _=>some (.ret [z] [sl c 0])):=by kernel_rfl
theorem iS (x0:D):bO [x0]=((oo [(0,1)] [.arr 1 [],I 0,.v (Ho Hn 0)] [x0]).bind fun z=>(nV 3 z).bind fun y=>(aa y (.ref 0 0)).bind fun z=>(aa z z).bind fun l=>(br l y).bind fun i=>(aa i i).bind fun i=>ai (an [i,I 6]) fun c d=>(bin .add false [] (I 1) (sl c 0)).bind fun m=>(aa z z).bind fun n=>(br n (sl d 0)).bind fun i=>(aa i i).bind fun i=>ai (aK [i,I 12]) fun c d=>ifD (sl c 0) ((aa z z).bind fun h=>(aA 1 [I 0,I 32,I 33]).bind fun a=>(br h (sl d 0)).bind fun i=>(aa i i).bind fun i=>ai (al [i,a]) fun c d=>(aI (fun s=>(aa (sl s 1) (.ref 0 0)).bind fun z=>((aa z (sl s 1)).bind (lenD false)).bind fun z=>(bin .lss false [] z (sl s 2)).bind fun z=>ifD z ((aa (sl s 0) (sl s 0)).bind fun z=>(aA 1 [I 0,I 1,I 1,I 2,I 3,I 7,I 1000000]).bind fun a=>(br z (sl s 3)).bind fun i=>(aa i i).bind fun i=>ai (al [i,a]) fun c d=>(aA 1 [sl c 0]).bind fun a=>(jM a).bind fun b=>(gi 1 8 (sl s 1) b).bind fun y=>some (.nrm [sl s 0,y,sl s 2,sl d 0])) (some (.ext 0 [sl s 0,sl s 1,sl s 2,sl s 3]))) [z,.arr 1 [],sl c 0,sl d 0]).bind fun o=>cv o (fun i s=>ifN (i.beq 0) ((bin .gtr false [] (sl s 2) (I 0)).bind fun z=>(ah D.bad z true (aa (sl s 0) (sl s 0))).bind fun f=>dJ z true ((br f (sl s 3)).bind fun i=>(aa i i).bind fun i=>ai (aK [i,I 20]) fun c d=>some (.nrm [sl c 0,sl d 0])) [.tup [],sl s 3] fun e=>(aW z (sl e 0) (B false)).bind fun z=>ifD z ((aa (sl s 1) (.ref 0 0)).bind fun z=>(aa (sl s 0) (sl s 0)).bind fun g=>(br g (sl e 1)).bind fun i=>(aa i i).bind fun i=>ai (an [i,sl s 2]) fun c d=>(aa (sl s 0) (sl s 0)).bind fun j=>(aA 1 [I (-1),I 1000001]).bind fun a=>(br j (sl d 0)).bind fun i=>(aa i i).bind fun i=>ai (al [i,a]) fun k d=>((aa z (sl s 1)).bind fun b=>gd 1 b (sl c 0)).bind fun z=>(stD 1 (sl s 1) z (sl k 0)).bind fun b=>(aa (sl s 0) (sl s 0)).bind fun z=>(aa (sl s 0) (sl s 0)).bind fun p=>(aA 1 [I 5,I (-1),I 100001]).bind fun a=>(br p (sl d 0)).bind fun i=>(aa i i).bind fun i=>ai (al [i,a]) fun c d=>(aA 1 [I 0,I 1,I 10,I 11,I 100,I 997,I 100000,sl c 0]).bind fun a=>(br z (sl d 0)).bind fun i=>(aa i i).bind fun i=>ai (al [i,a]) fun c _=>some (.ret [b,sl c 0] [])) ((aa (sl s 0) (sl s 0)).bind fun z=>(aa (sl s 0) (sl s 0)).bind fun g=>(aA 1 [I 5,I (-1),I 100001]).bind fun a=>(br g (sl e 1)).bind fun i=>(aa i i).bind fun i=>ai (al [i,a]) fun c d=>(aA 1 [I 0,I 1,I 10,I 11,I 100,I 997,I 100000,sl c 0]).bind fun a=>(br z (sl d 0)).bind fun i=>(aa i i).bind fun i=>ai (al [i,a]) fun c _=>some (.ret [sl s 1,sl c 0] []))) none) fun a b=>some (.ret a b)) ((aI (fun s=>(aa (sl s 1) (.ref 0 0)).bind fun z=>((aa z (sl s 1)).bind (lenD false)).bind fun z=>(bin .lss false [] z (sl s 2)).bind fun z=>ifD z ((aa (sl s 0) (sl s 0)).bind fun z=>(aA 1 [I 0,I 1,I 1,I 2,I 3,I 7,I 1000000]).bind fun a=>(br z (sl s 3)).bind fun i=>(aa i i).bind fun i=>ai (al [i,a]) fun c d=>(aA 1 [sl c 0]).bind fun a=>(jM a).bind fun b=>(gi 1 8 (sl s 1) b).bind fun y=>some (.nrm [sl s 0,y,sl s 2,sl d 0])) (some (.ext 0 [sl s 0,sl s 1,sl s 2,sl s 3]))) [z,.arr 1 [],m,sl d 0]).bind fun o=>cv o (fun i s=>ifN (i.beq 0) ((bin .gtr false [] (sl s 2) (I 0)).bind fun z=>(ah D.bad z true (aa (sl s 0) (sl s 0))).bind fun h=>dJ z true ((br h (sl s 3)).bind fun i=>(aa i i).bind fun i=>ai (aK [i,I 20]) fun c d=>some (.nrm [sl c 0,sl d 0])) [.tup [],sl s 3] fun e=>(aW z (sl e 0) (B false)).bind fun z=>ifD z ((aa (sl s 1) (.ref 0 0)).bind fun z=>(aa (sl s 0) (sl s 0)).bind fun f=>(br f (sl e 1)).bind fun i=>(aa i i).bind fun i=>ai (an [i,sl s 2]) fun c d=>(aa (sl s 0) (sl s 0)).bind fun g=>(aA 1 [I (-1),I 1000001]).bind fun a=>(br g (sl d 0)).bind fun i=>(aa i i).bind fun i=>ai (al [i,a]) fun k d=>((aa z (sl s 1)).bind fun b=>gd 1 b (sl c 0)).bind fun z=>(stD 1 (sl s 1) z (sl k 0)).bind fun b=>(aa (sl s 0) (sl s 0)).bind fun z=>(aa (sl s 0) (sl s 0)).bind fun j=>(aA 1 [I 5,I (-1),I 100001]).bind fun a=>(br j (sl d 0)).bind fun i=>(aa i i).bind fun i=>ai (al [i,a]) fun c d=>(aA 1 [I 0,I 1,I 10,I 11,I 100,I 997,I 100000,sl c 0]).bind fun a=>(br z (sl d 0)).bind fun i=>(aa i i).bind fun i=>ai (al [i,a]) fun c _=>some (.ret [b,sl c 0] [])) ((aa (sl s 0) (sl s 0)).bind fun z=>(aa (sl s 0) (sl s 0)).bind fun f=>(aA 1 [I 5,I (-1),I 100001]).bind fun a=>(br f (sl e 1)).bind fun i=>(aa i i).bind fun i=>ai (al [i,a]) fun c d=>(aA 1 [I 0,I 1,I 10,I 11,I 100,I 997,I 100000,sl c 0]).bind fun a=>(br z (sl d 0)).bind fun i=>(aa i i).bind fun i=>ai (al [i,a]) fun c _=>some (.ret [sl s 1,sl c 0] []))) none) fun a b=>some (.ret a b))):=by kernel_rfl
theorem oz (x0:D):eu [x0]=((aA 1 [.v (.string ⟨⟨[97]⟩⟩),.v (.string ⟨⟨[97,98]⟩⟩),.v (.string ⟨⟨[97,98,99]⟩⟩),.v (.string ⟨⟨[98]⟩⟩),.v (.string ⟨⟨[98,98]⟩⟩),.v (.string ⟨⟨[99]⟩⟩),.v (.string ⟨⟨[100]⟩⟩),.v (.string ⟨⟨[101]⟩⟩),.v (.string ⟨⟨[102]⟩⟩),.v (.string ⟨⟨[102,102]⟩⟩),.v (.string ⟨⟨[102,105]⟩⟩),.v (.string ⟨⟨[105]⟩⟩)]).bind fun a=>(lenD false a).bind fun z=>(aI (fun s=>(bin .lss false [] (sl s 4) (sl s 3)).bind fun z=>ifD z ((Hj D.ptr (aJ 1 (sl s 2) (sl s 4))).bind fun z=>((ldD false 1 z).bind bc).bind fun z=>(lenD true z).bind fun j=>(bin .eql false [] j (I 1)).bind fun g=>(ah D.bad g true (aa (sl s 0) (.ref 0 0))).bind fun k=>dJ g true ((br k (sl s 0)).bind fun i=>(aa i i).bind fun i=>ai (aK [i,I 12]) fun e f=>some (.nrm [sl e 0,sl f 0])) [.tup [],sl s 0] fun c=>(ah (.tup []) g true (un .not (sl c 0))).bind fun l=>(aW g l (B false)).bind fun d=>(ah (.tup []) d false (some z)).bind fun m=>(ah (.tup []) d false (lenD true m)).bind fun n=>(ah (.tup []) d false (bin .gtr false [] n (I 1))).bind fun p=>(ah (.tup []) d false (some p)).bind fun h=>(ah D.bad h true (aa (sl c 1) (.ref 0 0))).bind fun q=>dJ h true ((br q (sl c 1)).bind fun i=>(aa i i).bind fun i=>ai (aK [i,I 3]) fun e f=>some (.nrm [sl e 0,sl f 0])) [.tup [],sl c 1] fun c=>(ah (.tup []) d false (aW h (sl c 0) (B false))).bind fun r=>(aW d (B true) r).bind fun t=>ifD t ((lenD true z).bind fun u=>(aa (sl c 1) (.ref 0 0)).bind fun v=>(br v (sl c 1)).bind fun i=>(aa i i).bind fun i=>ai (an [i,I 4]) fun e f=>(bin .add false [] (I 2) (sl e 0)).bind fun w=>(bin .mul false [] u w).bind fun za=>(bin .add false [] (I 4) za).bind fun zb=>(oo [(0,1),(1,1)] [.v (.string ⟨⟨[]⟩⟩),I 0] [z,zb]).bind fun z=>(aA 2 [z]).bind fun a=>(jM a).bind fun b=>(gi 2 24 (sl s 1) b).bind fun y=>(bin .add false [] (sl s 4) (I 1)).bind fun z=>some (.nrm [sl f 0,y,sl s 2,sl s 3,z])) ((bin .add false [] (sl s 4) (I 1)).bind fun z=>some (.nrm [sl c 1,sl s 1,sl s 2,sl s 3,z]))) (some (.ext 0 [sl s 0,sl s 1]))) [x0,.arr 2 [],a,z,I 0]).bind fun o=>cv o (fun i s=>ifN (i.beq 0) ((aa (sl s 1) (.ref 0 0)).bind fun z=>((aa z (sl s 1)).bind (lenD false)).bind fun z=>(bin .eql false [] z (I 0)).bind fun z=>ifD z ((oo [(0,1),(1,1)] [.v (.string ⟨⟨[]⟩⟩),I 0] [.v (.string ⟨⟨[97]⟩⟩),I 9]).bind fun z=>(aA 2 [z]).bind fun a=>(aa (sl s 0) (sl s 0)).bind fun _=>some (.ret [a] [sl s 0])) ((aa (sl s 0) (sl s 0)).bind fun _=>some (.ret [sl s 1] [sl s 0]))) none) fun a b=>some (.ret a b)):=by kernel_rfl
theorem rl (x0 x1:D):cQ [x0,x1]=((aa x0 (.ref 0 0)).bind fun z=>(lenD false x1).bind fun d=>(br z x0).bind fun i=>(aa i i).bind fun i=>ai (an [i,d]) fun e c=>(Hj D.ptr (aJ 1 x1 (sl e 0))).bind fun z=>((ldD false 1 z).bind bc).bind fun z=>(aa (sl c 0) (sl c 0)).bind fun _=>some (.ret [z] [sl c 0])):=by kernel_rfl
theorem mf (x0:D):bL [x0]=((aa x0 (.ref 0 0)).bind fun z=>(br z x0).bind fun i=>(aa i i).bind fun i=>ai (eu [i]) fun d c=>(aa (sl c 0) (.ref 0 0)).bind fun z=>(aa (sl d 0) (.ref 0 0)).bind fun j=>((aa j (sl d 0)).bind (lenD false)).bind fun k=>(br z (sl c 0)).bind fun i=>(aa i i).bind fun i=>ai (an [i,k]) fun h c=>(aa (sl c 0) (.ref 0 0)).bind fun z=>(br z (sl c 0)).bind fun i=>(aa i i).bind fun i=>ai (an [i,I 30]) fun f c=>(bin .eql false [] (sl f 0) (I 0)).bind fun z=>ifD z ((aa (sl d 0) (.ref 0 0)).bind fun z=>(aa (sl c 0) (.ref 0 0)).bind fun e=>(aA 1 [.v (.string ⟨⟨[]⟩⟩),.v (.string ⟨⟨[65]⟩⟩),.v (.string ⟨⟨[97,98,99,100]⟩⟩),.v (.string ⟨⟨[97]⟩⟩),.v (.string ⟨⟨[122,122,122]⟩⟩)]).bind fun a=>(br e (sl c 0)).bind fun i=>(aa i i).bind fun i=>ai (cQ [i,a]) fun g c=>((aa z (sl d 0)).bind fun b=>gd 2 b (sl h 0)).bind fun z=>(cM 0 z).bind fun z=>(stD 1 (sl d 0) z (sl g 0)).bind fun b=>(aa (sl c 0) (sl c 0)).bind fun _=>some (.ret [b] [sl c 0])) ((bin .eql false [] (sl f 0) (I 1)).bind fun z=>ifD z ((aa (sl d 0) (.ref 0 0)).bind fun z=>(aa (sl c 0) (.ref 0 0)).bind fun e=>(aA 1 [I 0,I 1,I 54,I 55,I (-1)]).bind fun a=>(br e (sl c 0)).bind fun i=>(aa i i).bind fun i=>ai (al [i,a]) fun g c=>((aa z (sl d 0)).bind fun b=>gd 2 b (sl h 0)).bind fun z=>(cM 1 z).bind fun z=>(stD 1 (sl d 0) z (sl g 0)).bind fun b=>(aa (sl c 0) (sl c 0)).bind fun _=>some (.ret [b] [sl c 0])) ((bin .eql false [] (sl f 0) (I 2)).bind fun z=>ifD z ((aa (sl c 0) (sl c 0)).bind fun _=>some (.ret [.arr 2 []] [sl c 0])) ((bin .eql false [] (sl f 0) (I 3)).bind fun z=>ifD z ((aa (sl c 0) (.ref 0 0)).bind fun z=>(br z (sl c 0)).bind fun i=>(aa i i).bind fun i=>ai (an [i,I 2]) fun d c=>(bin .add false [] (I 32) (sl d 0)).bind fun z=>(aI (fun s=>(aa (sl s 1) (.ref 0 0)).bind fun z=>((aa z (sl s 1)).bind (lenD false)).bind fun z=>(bin .lss false [] z (sl s 2)).bind fun z=>ifD z ((aa (sl s 1) (.ref 0 0)).bind fun z=>(aa (sl s 1) (.ref 0 0)).bind fun e=>((aa e (sl s 1)).bind (lenD false)).bind fun l=>(bin .quo false [] l (I 6)).bind fun m=>(bin .add false [] (I 97) m).bind fun n=>(gf (some .u8) false n).bind fun p=>(aa (sl s 1) (.ref 0 0)).bind fun q=>((aa q (sl s 1)).bind (lenD false)).bind fun r=>(bin .rem false [] r (I 6)).bind fun t=>(bin .add false [] (I 97) t).bind fun u=>(gf (some .u8) false u).bind fun v=>(aA 1 [p,v]).bind fun a=>(qd a).bind fun w=>(oo [(0,1),(1,1)] [.v (.string ⟨⟨[]⟩⟩),I 0] [w,I 9]).bind fun za=>(aA 2 [za]).bind fun a=>(aa z (sl s 1)).bind fun zb=>(jM a).bind fun b=>(gi 2 24 zb b).bind fun y=>some (.nrm [sl s 0,y,sl s 2])) (some (.ext 1 [sl s 0,sl s 1]))) [sl c 0,.arr 2 [],z]).bind fun o=>cv o (fun i s=>ifN (i.beq 1) ((aa (sl s 0) (sl s 0)).bind fun _=>some (.ret [sl s 1] [sl s 0])) (ifN (i.beq 0) ((aa (sl s 0) (sl s 0)).bind fun _=>some (.ret [sl s 1] [sl s 0])) none)) fun a b=>some (.ret a b)) ((aa (sl c 0) (sl c 0)).bind fun _=>some (.ret [sl d 0] [sl c 0])))))):=by kernel_rfl
theorem kI (x0 x1:D):bv [x0,x1]=((lenD false x1).bind fun z=>(aI (fun s=>(bin .lss false [] (sl s 3) (sl s 2)).bind fun z=>ifD z ((aa (sl s 0) (.ref 0 0)).bind fun z=>(aA 1 [I 0,I 1,I 2,I 3,I 5,I 8,I 20,I 100]).bind fun a=>(br z (sl s 0)).bind fun i=>(aa i i).bind fun i=>ai (al [i,a]) fun d c=>(aA 1 [sl d 0]).bind fun a=>(jM a).bind fun b=>(gi 1 8 (sl s 1) b).bind fun y=>(bin .add false [] (sl s 3) (I 1)).bind fun z=>some (.nrm [sl c 0,y,sl s 2,z])) (some (.ext 0 [sl s 0,sl s 1]))) [x0,.arr 1 [],z,I 0]).bind fun o=>cv o (fun i s=>ifN (i.beq 0) ((aa (sl s 0) (.ref 0 0)).bind fun z=>(br z (sl s 0)).bind fun i=>(aa i i).bind fun i=>ai (an [i,I 24]) fun d c=>(bin .eql false [] (sl d 0) (I 0)).bind fun z=>ifD z ((aA 1 [I 1]).bind fun a=>(jM a).bind fun b=>(gi 1 8 (sl s 1) b).bind fun y=>(aa (sl c 0) (sl c 0)).bind fun _=>some (.ret [y] [sl c 0])) ((bin .eql false [] (sl d 0) (I 1)).bind fun z=>ifD z ((aa (sl s 1) (.ref 0 0)).bind fun z=>((aa z (sl s 1)).bind (lenD false)).bind fun z=>(bin .gtr false [] z (I 0)).bind fun z=>ifD z ((aa (sl s 1) (.ref 0 0)).bind fun z=>(aa (sl c 0) (.ref 0 0)).bind fun e=>(aa (sl s 1) (.ref 0 0)).bind fun f=>((aa f (sl s 1)).bind (lenD false)).bind fun g=>(br e (sl c 0)).bind fun i=>(aa i i).bind fun i=>ai (an [i,g]) fun d c=>(aa (sl c 0) (.ref 0 0)).bind fun h=>(aA 1 [I 100000,I 100001,I (-1)]).bind fun a=>(br h (sl c 0)).bind fun i=>(aa i i).bind fun i=>ai (al [i,a]) fun j c=>((aa z (sl s 1)).bind fun b=>gd 1 b (sl d 0)).bind fun z=>(stD 1 (sl s 1) z (sl j 0)).bind fun b=>(aa (sl c 0) (sl c 0)).bind fun _=>some (.ret [b] [sl c 0])) ((aa (sl c 0) (sl c 0)).bind fun _=>some (.ret [sl s 1] [sl c 0]))) ((aa (sl c 0) (sl c 0)).bind fun _=>some (.ret [sl s 1] [sl c 0])))) none) fun a b=>some (.ret a b)):=by kernel_rfl
theorem oD (x0:D):bm [x0]=((aa x0 (.ref 0 0)).bind fun z=>(br z x0).bind fun i=>(aa i i).bind fun i=>ai (an [i,I 6]) fun c d=>(bin .add false [] (I 1) (sl c 0)).bind fun z=>(aI (fun s=>(lenD true (sl s 1)).bind fun z=>(bin .lss false [] z (sl s 2)).bind fun z=>ifD z ((aa (sl s 0) (.ref 0 0)).bind fun z=>(aA 1 [.v (.string ⟨⟨[97]⟩⟩),.v (.string ⟨⟨[98]⟩⟩),.v (.string ⟨⟨[99]⟩⟩),.v (.string ⟨⟨[97,98]⟩⟩),.v (.string ⟨⟨[98,98]⟩⟩),.v (.string ⟨⟨[97,98,99]⟩⟩),.v (.string ⟨⟨[100]⟩⟩),.v (.string ⟨⟨[101]⟩⟩),.v (.string ⟨⟨[102]⟩⟩),.v (.string ⟨⟨[102,105]⟩⟩)]).bind fun a=>(br z (sl s 0)).bind fun i=>(aa i i).bind fun i=>ai (cQ [i,a]) fun c d=>(bin .add false [] (sl s 1) (sl c 0)).bind fun z=>some (.nrm [sl d 0,z,sl s 2])) (some (.ext 0 [sl s 0,sl s 1]))) [sl d 0,.v (.string ⟨⟨[]⟩⟩),z]).bind fun o=>cv o (fun i s=>ifN (i.beq 0) ((aa (sl s 0) (sl s 0)).bind fun _=>some (.ret [sl s 1] [sl s 0])) none) fun a b=>some (.ret a b)):=by kernel_rfl
theorem mw (x0:D):bH [x0]=((aa x0 (.ref 0 0)).bind fun z=>(br z x0).bind fun i=>(aa i i).bind fun i=>ai (an [i,I 30]) fun d c=>(bin .eql false [] (sl d 0) (I 0)).bind fun z=>ifD z ((aa (sl c 0) (.ref 0 0)).bind fun z=>(aA 1 [.v (.string ⟨⟨[]⟩⟩),.v (.string ⟨⟨[65]⟩⟩),.v (.string ⟨⟨[97,32,98]⟩⟩),.v (.string ⟨⟨[97,45,98]⟩⟩)]).bind fun a=>(br z (sl c 0)).bind fun i=>(aa i i).bind fun i=>ai (cQ [i,a]) fun d c=>(aa (sl c 0) (sl c 0)).bind fun _=>some (.ret [sl d 0] [sl c 0])) ((bin .eql false [] (sl d 0) (I 1)).bind fun z=>ifD z ((aa (sl c 0) (.ref 0 0)).bind fun z=>(br z (sl c 0)).bind fun i=>(aa i i).bind fun i=>ai (an [i,I 2]) fun d c=>(bin .add false [] (I 16) (sl d 0)).bind fun z=>(aI (fun s=>(lenD true (sl s 1)).bind fun z=>(bin .lss false [] z (sl s 2)).bind fun z=>ifD z ((bin .add false [] (sl s 1) (.v (.string ⟨⟨[97]⟩⟩))).bind fun z=>some (.nrm [sl s 0,z,sl s 2])) (some (.ext 1 [sl s 0,sl s 1]))) [sl c 0,.v (.string ⟨⟨[]⟩⟩),z]).bind fun o=>cv o (fun i s=>ifN (i.beq 1) ((aa (sl s 0) (sl s 0)).bind fun _=>some (.ret [sl s 1] [sl s 0])) (ifN (i.beq 0) ((aa (sl s 0) (.ref 0 0)).bind fun z=>(br z (sl s 0)).bind fun i=>(aa i i).bind fun i=>ai (bm [i]) fun d c=>(aa (sl c 0) (sl c 0)).bind fun _=>some (.ret [sl d 0] [sl c 0])) none)) fun a b=>some (.ret a b)) ((bin .eql false [] (sl d 0) (I 2)).bind fun z=>ifD z ((aa (sl c 0) (.ref 0 0)).bind fun z=>(br z (sl c 0)).bind fun i=>(aa i i).bind fun i=>ai (bm [i]) fun d c=>(bin .add false [] (sl d 0) (.v (.string ⟨⟨[122]⟩⟩))).bind fun z=>(aa (sl c 0) (sl c 0)).bind fun _=>some (.ret [z] [sl c 0])) ((aa (sl c 0) (.ref 0 0)).bind fun z=>(br z (sl c 0)).bind fun i=>(aa i i).bind fun i=>ai (bm [i]) fun d c=>(aa (sl c 0) (sl c 0)).bind fun _=>some (.ret [sl d 0] [sl c 0]))))):=by kernel_rfl
theorem nX (x0:D):dL [x0]=((aa x0 (.ref 0 0)).bind fun z=>(br z x0).bind fun i=>(aa i i).bind fun i=>ai (an [i,I 6]) fun d c=>(aa (sl c 0) (.ref 0 0)).bind fun z=>(br z (sl c 0)).bind fun i=>(aa i i).bind fun i=>ai (aK [i,I 16]) fun k c=>ifD (sl k 0) ((aa (sl c 0) (.ref 0 0)).bind fun z=>(br z (sl c 0)).bind fun i=>(aa i i).bind fun i=>ai (an [i,I 2]) fun d c=>(bin .add false [] (I 40) (sl d 0)).bind fun z=>(aI (fun s=>(aa (sl s 1) (.ref 0 0)).bind fun z=>((aa z (sl s 1)).bind (lenD false)).bind fun z=>(bin .lss false [] z (sl s 2)).bind fun z=>ifD z ((aa (sl s 0) (.ref 0 0)).bind fun z=>(br z (sl s 0)).bind fun i=>(aa i i).bind fun i=>ai (bm [i]) fun d c=>(aA 1 [sl d 0]).bind fun a=>(jM a).bind fun b=>(gi 1 16 (sl s 1) b).bind fun y=>some (.nrm [sl c 0,y,sl s 2])) (some (.ext 0 [sl s 0,sl s 1,sl s 2]))) [sl c 0,.arr 1 [],z]).bind fun o=>cv o (fun i s=>ifN (i.beq 0) ((bin .gtr false [] (sl s 2) (I 0)).bind fun z=>(ah D.bad z true (aa (sl s 0) (.ref 0 0))).bind fun f=>dJ z true ((br f (sl s 0)).bind fun i=>(aa i i).bind fun i=>ai (aK [i,I 16]) fun d c=>some (.nrm [sl d 0,sl c 0])) [.tup [],sl s 0] fun e=>(aW z (sl e 0) (B false)).bind fun z=>ifD z ((aa (sl s 1) (.ref 0 0)).bind fun z=>(aa (sl e 1) (.ref 0 0)).bind fun g=>(br g (sl e 1)).bind fun i=>(aa i i).bind fun i=>ai (an [i,sl s 2]) fun d c=>(aa (sl c 0) (.ref 0 0)).bind fun h=>(br h (sl c 0)).bind fun i=>(aa i i).bind fun i=>ai (bH [i]) fun j c=>((aa z (sl s 1)).bind fun b=>gd 1 b (sl d 0)).bind fun z=>(stD 1 (sl s 1) z (sl j 0)).bind fun b=>(aa (sl c 0) (sl c 0)).bind fun _=>some (.ret [b] [sl c 0])) ((aa (sl e 1) (sl e 1)).bind fun _=>some (.ret [sl s 1] [sl e 1]))) none) fun a b=>some (.ret a b)) ((aI (fun s=>(aa (sl s 1) (.ref 0 0)).bind fun z=>((aa z (sl s 1)).bind (lenD false)).bind fun z=>(bin .lss false [] z (sl s 2)).bind fun z=>ifD z ((aa (sl s 0) (.ref 0 0)).bind fun z=>(br z (sl s 0)).bind fun i=>(aa i i).bind fun i=>ai (bm [i]) fun d c=>(aA 1 [sl d 0]).bind fun a=>(jM a).bind fun b=>(gi 1 16 (sl s 1) b).bind fun y=>some (.nrm [sl c 0,y,sl s 2])) (some (.ext 0 [sl s 0,sl s 1,sl s 2]))) [sl c 0,.arr 1 [],sl d 0]).bind fun o=>cv o (fun i s=>ifN (i.beq 0) ((bin .gtr false [] (sl s 2) (I 0)).bind fun z=>(ah D.bad z true (aa (sl s 0) (.ref 0 0))).bind fun f=>dJ z true ((br f (sl s 0)).bind fun i=>(aa i i).bind fun i=>ai (aK [i,I 16]) fun d c=>some (.nrm [sl d 0,sl c 0])) [.tup [],sl s 0] fun e=>(aW z (sl e 0) (B false)).bind fun z=>ifD z ((aa (sl s 1) (.ref 0 0)).bind fun z=>(aa (sl e 1) (.ref 0 0)).bind fun g=>(br g (sl e 1)).bind fun i=>(aa i i).bind fun i=>ai (an [i,sl s 2]) fun d c=>(aa (sl c 0) (.ref 0 0)).bind fun h=>(br h (sl c 0)).bind fun i=>(aa i i).bind fun i=>ai (bH [i]) fun j c=>((aa z (sl s 1)).bind fun b=>gd 1 b (sl d 0)).bind fun z=>(stD 1 (sl s 1) z (sl j 0)).bind fun b=>(aa (sl c 0) (sl c 0)).bind fun _=>some (.ret [b] [sl c 0])) ((aa (sl e 1) (sl e 1)).bind fun _=>some (.ret [sl s 1] [sl e 1]))) none) fun a b=>some (.ret a b))):=by kernel_rfl
theorem mS (x0:D):dA [x0]=((oo [(0,1)] [.arr 1 [],I 0,.v (Ho Hn 0)] [x0]).bind fun z=>(nV 3 z).bind fun y=>(aa y (.ref 0 0)).bind fun z=>(aa z z).bind fun e=>(br e y).bind fun i=>(aa i i).bind fun i=>ai (bL [i]) fun d c=>(aa z z).bind fun f=>(br f (sl c 0)).bind fun i=>(aa i i).bind fun i=>ai (bv [i,sl d 0]) fun g c=>(aa z z).bind fun z=>(br z (sl c 0)).bind fun i=>(aa i i).bind fun i=>ai (dL [i]) fun h _=>some (.ret [sl d 0,sl g 0,sl h 0] [])):=by kernel_rfl
theorem kv (x0:D):cf [x0]=(ai (dA [x0]) fun c _=>(aT (.tup c) 0).bind fun z=>(aT (.tup c) 1).bind fun y=>(aT (en (.tup c) 1) 2).bind fun d=>some (.ret [z,y,d] [])):=by kernel_rfl
theorem jQ (x0:D):bW [x0]=((oo [(0,1)] [.arr 1 [],I 0,.v (Ho Hn 0)] [x0]).bind fun z=>(nV 3 z).bind fun y=>(aa y (.ref 0 0)).bind fun z=>(aa z z).bind fun e=>(br e y).bind fun i=>(aa i i).bind fun i=>ai (bL [i]) fun d c=>(aa z z).bind fun f=>(br f (sl c 0)).bind fun i=>(aa i i).bind fun i=>ai (bv [i,sl d 0]) fun g c=>(aa z z).bind fun h=>(aa z z).bind fun z=>(aA 1 [I 9,I 0,I 73]).bind fun a=>(br z (sl c 0)).bind fun i=>(aa i i).bind fun i=>ai (al [i,a]) fun j c=>(aA 1 [I 1,I 6,I 8,I 10,I 12,I 72,sl j 0]).bind fun a=>(br h (sl c 0)).bind fun i=>(aa i i).bind fun i=>ai (al [i,a]) fun k _=>some (.ret [sl d 0,sl g 0,sl k 0] [])):=by kernel_rfl
theorem na (x0:D):dw [x0]=((oo [(0,1)] [.arr 1 [],I 0,.v (Ho Hn 0)] [x0]).bind fun z=>(nV 3 z).bind fun y=>(aa y (.ref 0 0)).bind fun z=>(aa z z).bind fun d=>(br d y).bind fun i=>(aa i i).bind fun i=>ai (bL [i]) fun c e=>(aa z z).bind fun z=>(br z (sl e 0)).bind fun i=>(aa i i).bind fun i=>ai (bv [i,sl c 0]) fun f _=>some (.ret [sl c 0,sl f 0] [])):=by kernel_rfl
theorem wv (x0 x1:D):iI [x0,x1]=((lenD false x0).bind fun z=>(lenD false x1).bind fun c=>(bin .neq false [] z c).bind fun z=>ifD z (some (.ret [B false] [])) ((lenD false x0).bind fun z=>(aI (fun s=>(bin .lss false [] (sl s 3) (sl s 2)).bind fun z=>ifD z ((Hj D.ptr (aJ 1 (sl s 0) (sl s 3))).bind fun z=>((ldD false 1 z).bind bc).bind fun z=>(Hj D.ptr (aJ 1 (sl s 1) (sl s 3))).bind fun d=>((ldD false 1 d).bind bc).bind fun e=>(bin .neq false [] z e).bind fun z=>ifD z (some (.ret [B false] [])) ((bin .add false [] (sl s 3) (I 1)).bind fun z=>some (.nrm [sl s 0,sl s 1,sl s 2,z]))) (some (.ext 0 []))) [x0,x1,z,I 0]).bind fun o=>cv o (fun i _=>ifN (i.beq 0) (some (.ret [B true] [])) none) fun a b=>some (.ret a b))):=by kernel_rfl
theorem xo (x0:D):gY [x0]=((lenD false x0).bind fun z=>(aI (fun s=>(bin .lss false [] (sl s 3) (sl s 2)).bind fun z=>ifD z ((Hj D.ptr (aJ 1 (sl s 1) (sl s 3))).bind fun z=>((ldD false 1 z).bind bc).bind fun z=>(bin .add false [] (sl s 0) z).bind fun z=>(bin .add false [] (sl s 3) (I 1)).bind fun c=>some (.nrm [z,sl s 1,sl s 2,c])) (some (.ext 0 [sl s 0]))) [I 0,x0,z,I 0]).bind fun o=>cv o (fun i s=>ifN (i.beq 0) (some (.ret [sl s 0] [])) none) fun a b=>some (.ret a b)):=by kernel_rfl
theorem yQ (x0:D):kR [x0]=((lenD false x0).bind fun z=>(aI (fun s=>(bin .lss false [] (sl s 3) (sl s 2)).bind fun z=>ifD z ((Hj D.ptr (aJ 1 (sl s 1) (sl s 3))).bind fun z=>((ldD false 1 z).bind bc).bind fun z=>(bin .add false [] (sl s 0) z).bind fun z=>(bin .add false [] (sl s 3) (I 1)).bind fun c=>some (.nrm [z,sl s 1,sl s 2,c])) (some (.ext 0 [sl s 0]))) [I 0,x0,z,I 0]).bind fun o=>cv o (fun i s=>ifN (i.beq 0) (some (.ret [sl s 0] [])) none) fun a b=>some (.ret a b)):=by kernel_rfl
set_option maxRecDepth 100000
def qr (u:Nat):ByteArray:=⟨(Lib.decDigits u).toArray⟩
def uJ (n:Int):ByteArray:=⟨(Lib.itoa n).toArray⟩
theorem xv (u:Nat):uJ (u:Int)=qr u:=by
 unfold uJ qr;rw [Lib.itoa_nonneg]
theorem oc {u:Nat} (h:u<10):qr u=⟨#[Hs (48+u)]⟩:=by
 unfold qr;rw [Lib.decDigits_one h]
theorem xp {u:Nat} (h:¬u<10):qr u=qr (u / 10)++⟨#[Hs (48+u % 10)]⟩:=by
 unfold qr;rw [Lib.decDigits,dif_neg h];apply ByteArray.ext;simp
theorem pH:∀(k u:Nat),u<10 ^ (k+1)→(qr u).size≤k+1
 | 0,u,h=>by
  rw [oc (by simpa using h)];exact Hy _
 | k+1,u,h=>by
  by_cases hu:u<10
  ·rw [oc hu]
   show 1≤k+1+1
   omega
  ·rw [xp hu,Hq]
   have h1:=pH k (u / 10) (by rw [Nat.pow_succ] at h;exact Nat.div_lt_of_lt_mul (by rw [Nat.mul_comm];exact h));have h2:(⟨#[Hs (48+u % 10)]⟩:ByteArray).size=1:=rfl;omega
theorem qu (k:Nat) {n:Int} (h0:0≤n) (h1:n<10 ^ (k+1)):(uJ n).size≤k+1:=by
 obtain⟨u,rfl⟩:=Hm h0;rw [xv];exact pH k u (by exact_mod_cast h1)
theorem Ak (u:Nat) (h:u<10):gK [.v (.int .u8 (48+(u:Int)))]=some [Hs (48+u)]:=by
 have e:(48+(u:Int)).toNat=48+u:=by omega
 simp only [gK,e,HD]
theorem FA (a:Int) (h0:0≤a) (h1:a<256):HB.wrap a=a:=by
 have:=Int.emod_eq_of_lt h0 h1;simpa [IntKind.wrap,Ip,IntKind.signed] using this
theorem wW (a:Int):aA 1 [.v (.int .u8 a)]=some (.arr 1 [.v (.int .u8 a)]):=by simp [aA,gu]
theorem sk (k u:Nat) (hu:u<10 ^ 18) (ih:bn k [I ((u / 10:Nat):Int)]=none∨bn k [I ((u / 10:Nat):Int)]=some (.ret [T (qr (u / 10))] [])) :
  (bn (k+1) [I (u:Int)]=none∧bn k [I ((u / 10:Nat):Int)]=none∧¬u<10)∨bn (k+1) [I (u:Int)]=some (.ret [T (qr u)] []):=by
 rw [ww];by_cases h:u<10
 ·right
  have h1:(u:Int)<10:=by omega
  have hw:Hk.wrap (48+(u:Int))=48+(u:Int):=wrap_id (by omega) (by omega);have hw8:=FA (48+(u:Int)) (by omega) (by omega);simp only [iH,h1,decide_true,Hl,lN,if_true,jE,hw,gf,hw8,wW,qd,Ak u h,HD,oc h]
 ·have h1:¬(u:Int)<10:=by omega
  have hq:Hk.wrap ((u:Int).tdiv 10)=((u / 10:Nat):Int):=by
   rw [HK (by omega),wrap_id (by omega) (by omega)];omega
  have hr:(u:Int).tmod 10=((u % 10:Nat):Int):=by
   rw [HL (by omega)];omega
  have hm:u % 10<10:=Nat.mod_lt _ (by decide);have hw:Hk.wrap (48+((u % 10:Nat):Int))=48+((u % 10:Nat):Int):=wrap_id (by omega) (by omega);have hw8:=FA (48+((u % 10:Nat):Int)) (by omega) (by omega);have hs:(qr (u / 10)).size+(⟨#[Hs (48+u % 10)]⟩:ByteArray).size≤1152921504606846976:=by
   have:=pH 17 (u / 10) (by omega);have h2:(⟨#[Hs (48+u % 10)]⟩:ByteArray).size=1:=rfl;omega
  rcases ih with e | e
  ·left
   refine⟨?_,e,h⟩
   simp only [iH,h1,decide_false,Hl,lN,HA,if_false,pB,show ¬(10:Int)=0 by decide,hq,e,ai]
  ·right
   simp only [iH,h1,decide_false,Hl,lN,HA,if_false,pB,show ¬(10:Int)=0 by decide,hq,e,dC,Ah,hr,jE,hw,gf,hw8,wW,qd,
    Ak _ hm,HD,dc,pz,hs,if_true,xp h]
theorem wL:∀(k u:Nat),u<10 ^ 18→bn k [I (u:Int)]=none∨bn k [I (u:Int)]=some (.ret [T (qr u)] [])
 | 0,_,_=>.inl rfl
 | k+1,u,hu=>(sk k u hu (wL k (u / 10) (by omega))).imp (fun h=>h.1) id
theorem Am:∀(k u:Nat),u<10 ^ 18→u<10 ^ (k+1)→bn (k+1) [I (u:Int)]=some (.ret [T (qr u)] [])
 | 0,u,hu,h=>by
  rcases sk 0 u hu (wL 0 _ (by omega)) with ⟨_,_,h1⟩ | h1
  ·exact absurd (by simpa using h) h1
  ·exact h1
 | k+1,u,hu,h=>by
  rcases sk (k+1) u hu (wL (k+1) _ (by omega)) with ⟨_,h1,_⟩ | h1
  ·rw [Am k (u / 10) (by omega) (by rw [Nat.pow_succ] at h;exact Nat.div_lt_of_lt_mul (by rw [Nat.mul_comm];exact h))] at h1
   cases h1
  ·exact h1
theorem wz {n:Int} (h0:0≤n) (h1:n<1000000000000000000):kH [I n]=some (.ret [T (uJ n)] []):=by
 obtain⟨u,rfl⟩:=Hm h0;have hu:u<10 ^ 18:=by omega
 rw [xv];refine Et (fun k o ho=>?_) 18 (Am 17 u hu hu)
 rcases wL k u hu with e | e
 ·rw [e] at ho;cases ho
 ·rw [e] at ho;cases ho;rfl
theorem Gl {n:Int} (h0 : -9223372036854775808≤n) (h1:n≤9223372036854775807):vB [I n]=some (.ret [T (uJ n)] []):=by
 simp only [vB,h0,h1,and_self,if_true];rfl
set_option maxRecDepth 100000
def aj (s:ByteArray):List UInt8:=s.data.toList
theorem iP {s:ByteArray} {k:IntKind} {i:Nat}:oO (T s) (.v (.int k (i:Int)))=((aj s)[i]?).map fun b=>U b.toNat:=by simp [oO,aj]
theorem ed (s:ByteArray):s.size=(aj s).length:=rfl
theorem gp {a b:ByteArray} (h:aj a=aj b):a=b:=by
 cases a with | mk a=>cases b with | mk b =>
  cases a with | mk a=>cases b with | mk b =>
   simp [aj] at h;rw [h]
theorem ec (s:ByteArray) (i j:Nat):aj (s.extract i j)=((aj s).take j).drop i:=by
 simp [aj,List.drop_take]
theorem kW (a b:ByteArray):aj (a++b)=aj a++aj b:=by simp [aj]
theorem zx {s:ByteArray} {z i j:Nat} (h1:i≤j) (h2:j≤s.size):fZ true z (T s) (I (i:Int)) (I (j:Int))=some (T (s.extract i j)):=by
 simp only [fZ,HN];rw [if_pos (by omega)]
theorem DY {s:ByteArray} {z i:Nat} (h:i≤s.size):iC true z (T s) (I (i:Int))=some (T (s.extract i s.size)):=by
 simp only [iC,HN];rw [if_pos (by omega)]
set_option maxRecDepth 100000
abbrev aq (l:List Int):D:=.arr 1 (l.map I)
theorem rL (a:Int):aA 1 [I a]=some (aq [a]):=by simp [aA,gu]
theorem ke (l:List Int):jM (aq l)=some (aq l):=td fun _=>rfl
set_option maxRecDepth 100000
theorem eC (a b c:Int):cE [I a,I b,I c]=some (.ret [B (decide (b≤a∧a≤c))] []):=by
 rw [xR];by_cases h:b≤a<;>simp [h]
theorem dZ (a b c:Int):bX [I a,I b,I c]=some (.ret [B (decide (b≤a∧a≤c))] []):=by
 rw [uC];by_cases h:b≤a<;>simp [h]
set_option maxRecDepth 100000
set_option maxRecDepth 100000
structure Cur where
 code:List Int
 at_:Nat
 seed:Int
abbrev dn (l:List Int):D:=.arr 1 (l.map U)
abbrev aU (c:Cur):D:=.agg [dn c.code,I c.at_,.v (.int .u64 c.seed)]
structure Cur.ok (c:Cur) (B:Nat):Prop where
 by_:∀n∈c.code,0≤n∧n≤255
 len:c.code.length≤9223372036854775807
 at_:c.at_≤B
 lo:0≤c.seed
 hi:c.seed<18446744073709551616
theorem vM {k:IntKind} {n:Int}:gf (some .i64) false (.v (.int k n))=some (I (Hk.wrap n)):=rfl
theorem va {k:IntKind} {n:Int}:gf (some .u64) false (.v (.int k n))=some (.v (.int .u64 (Hn.wrap n))):=rfl
theorem Bp {n:Int} {bl:Bool} {eq:List Nat}:bin .shr bl eq (.v (.int .u64 n)) (.v (.int .u64 40))=some (.v (.int .u64 (n.fdiv 1099511627776))):=by
 simp [bin,Ip]
theorem Fs {a b:Int} {bl:Bool} {eq:List Nat}:bin .and bl eq (.v (.int .u64 a)) (.v (.int .u64 b))=some (.v (.int .u64 (bits .and .u64 a b))):=by simp [bin,fm]
theorem FI {n:Int} (h0:0≤n) (h1:n<18446744073709551616):0≤bits .and .u64 n 255∧bits .and .u64 n 255≤255:=by
 obtain⟨m,rfl⟩:=Hm h0;have:=bits_and_u64_nat m 255 (by omega) (by omega);rw [show((255:Int))=((255:Nat):Int) from rfl,this];have h2:m &&& 255≤255:=Nat.and_le_right;omega
theorem Gd (n:Int):0≤Hn.wrap n∧Hn.wrap n<18446744073709551616:=by
 rw [IntKind.wrap_u64];omega
def jP (s n:Int):Int:=Hn.wrap (Hn.wrap (Hn.wrap (s*6364136223846793005)+Hn.wrap n)+1442695040888963407)
def qR (s:Int):Int:=bits .and .u64 (s.fdiv 1099511627776) 255
theorem fu (s n:Int):0≤jP s n∧jP s n<18446744073709551616:=Gd _
theorem wU {s:Int} (h0:0≤s) (h1:s<18446744073709551616):0≤qR s∧qR s≤255:=by
 unfold qR;rw [Int.fdiv_eq_ediv_of_nonneg _ (by omega)];exact FI (by omega) (by omega)
theorem GH (c:Cur) (B:Nat) (h:c.ok B) (hB:B≤1000000000000) (hc:c.at_<c.code.length):bP [aU c]=some (.ret [I c.code[c.at_]] [aU ⟨c.code,c.at_+1,jP c.seed c.code[c.at_]⟩]):=by
 have hl:=h.len;have ha:=h.at_;have hw:Hk.wrap ((c.at_:Int)+1)=(c.at_:Int)+1:=wrap_id (by omega) (by omega);have hn:=h.by_ c.code[c.at_] (Hp hc);have hv:Hk.wrap c.code[c.at_]=c.code[c.at_]:=wrap_id (by omega) (by omega);have hle:(c.at_:Int)+1≤(c.code.length:Int):=by omega
 rw [jq];simp -implicitDefEqProofs [hc,hw,hv,hle,vM,va,jP]
theorem GQ (c:Cur) (B:Nat) (h:c.ok B) (hB:B≤1000000000000) (hc:¬c.at_<c.code.length):bP [aU c]=some (.ret [I (qR (jP c.seed 0))] [aU ⟨c.code,c.at_+1,jP c.seed 0⟩]):=by
 have hl:=h.len;have ha:=h.at_;have hw:Hk.wrap ((c.at_:Int)+1)=(c.at_:Int)+1:=wrap_id (by omega) (by omega);have hle:¬(c.at_:Int)+1≤(c.code.length:Int):=by omega
 have hq:=wU (fu c.seed 0).1 (fu c.seed 0).2;have hv:Hk.wrap (qR (jP c.seed 0))=qR (jP c.seed 0):=wrap_id (by omega) (by omega);unfold qR jP at hv;rw [jq];simp -implicitDefEqProofs [hc,hw,hle,vM,va,Bp,Fs,hv,jP,qR]
theorem DR (c:Cur) (B:Nat) (h:c.ok B) (hB:B≤1000000000000):∃v c',bP [aU c]=some (.ret [I v] [aU c'])∧0≤v∧v≤255∧c'.ok (B+1):=by
 have ha:=h.at_;by_cases hc:c.at_<c.code.length
 ·have hn:=h.by_ c.code[c.at_] (Hp hc)
  exact⟨_,_,GH c B h hB hc,hn.1,hn.2,⟨h.by_,h.len,Nat.succ_le_succ ha,(fu _ _).1,(fu _ _).2⟩⟩
 ·have hq:=wU (fu c.seed 0).1 (fu c.seed 0).2
  exact⟨_,_,GQ c B h hB hc,hq.1,hq.2,⟨h.by_,h.len,Nat.succ_le_succ ha,(fu _ _).1,(fu _ _).2⟩⟩
theorem eE (c:Cur) (n:Int) (B:Nat) (h:c.ok B) (hB:B≤100000000000) (hn:n≤1000000000):∃v c',an [aU c,I n]=some (.ret [I v] [aU c'])∧0≤v∧(v<n∨v=0)∧c'.ok (B+2):=by
 rw [pG];by_cases h1:n≤1
 ·exact⟨0,c,by simp [h1],by omega,.inr rfl,⟨h.by_,h.len,by have:=h.at_;omega,h.lo,h.hi⟩⟩
 obtain⟨v,c1,e1,l1,u1,k1⟩:=DR c B h (by omega);have hn0:¬n=0:=by omega
 by_cases h2:200<n
 ·obtain⟨v2,c2,e2,l2,u2,k2⟩:=DR c1 (B+1) k1 (by omega)
  have w1:Hk.wrap (v*256)=v*256:=wrap_id (by omega) (by omega);have w2:Hk.wrap (v*256+v2)=v*256+v2:=wrap_id (by omega) (by omega);refine⟨(v*256+v2).tmod n,c2,by simp [h1,h2,e1,e2,w1,w2,hn0],Int.tmod_nonneg _ (by omega),.inl (Int.tmod_lt_of_pos _ (by omega)),k2⟩
 ·refine⟨v.tmod n,c1,by simp [h1,h2,e1,hn0],Int.tmod_nonneg _ l1,.inl (Int.tmod_lt_of_pos _ (by omega)),⟨k1.by_,k1.len,by have:=k1.at_;omega,k1.lo,k1.hi⟩⟩
theorem vp (c:Cur) (n:Int) (B:Nat) (h:c.ok B) (hB:B≤100000000000) (hn:n≤1000000000):∃(b:Bool) (c':Cur),aK [aU c,I n]=some (.ret [.v (.bool b)] [aU c'])∧c'.ok (B+2):=by
 rw [qA];obtain⟨v,c1,e1,l1,u1,k1⟩:=eE c n B h hB hn;exact⟨_,c1,by simp [e1];rfl,k1⟩
abbrev il (l:List Int):D:=.arr 1 (l.map I)
theorem gI (c:Cur) (l:List Int) (B:Nat) (h:c.ok B) (hB:B≤100000000000) (hl:l≠[]) (hn:l.length≤1000000000):∃v c',al [aU c,il l]=some (.ret [I v] [aU c'])∧v∈l∧c'.ok (B+2):=by
 rw [od];have hp:0<l.length:=HJ.2 hl;obtain⟨v,c1,e1,l1,u1,k1⟩:=eE c l.length B h hB (by omega);obtain⟨i,rfl⟩:=Hm l1;have hi:i<l.length:=by omega
 exact⟨l[i],c1,by simp [e1,hi],Hp hi,k1⟩
theorem Cur.ok.mono {c:Cur} {B C:Nat} (h:c.ok B) (hBC:B≤C):c.ok C:=⟨h.by_,h.len,Ib h.at_ hBC,h.lo,h.hi⟩
theorem jW {l:List Int}:aA 1 (l.map I)=some (il l):=by
 have:gu 1 (l.map I).length (l.map I)=true:=by
  unfold gu;simp
 simp only [aA,this,if_true]
theorem vQ (l:List Int):oo [(0,1)] [D.arr 1 [],I 0,D.v (.int .u64 0)] [dn l]=some (.agg [dn l,I 0,D.v (.int .u64 0)]):=by
 simp [oo,tW]
structure Bytes (l:List Int):Prop where
 by_:∀n∈l,0≤n∧n≤255
 len:l.length≤9223372036854775807
theorem Fm {l:List Int} (h:Bytes l):Cur.ok ⟨l,0,0⟩ 0:=⟨h.by_,h.len,Hy _,Int.le_refl 0,show(0:Int)<18446744073709551616 by decide⟩
abbrev txs (l:List ByteArray):D:=.arr 1 (l.map T)
theorem Ax {l:List ByteArray}:aA 1 (l.map T)=some (txs l):=by
 have:gu 1 (l.map T).length (l.map T)=true:=by
  unfold gu;simp
 simp only [aA,this,if_true]
theorem FR (c:Cur) (l:List ByteArray) (B:Nat) (h:c.ok B) (hB:B≤100000000000) (hl:l≠[]) (hn:l.length≤1000000000):∃v c',cQ [aU c,txs l]=some (.ret [T v] [aU c'])∧v∈l∧c'.ok (B+2):=by
 rw [rl];have hp:0<l.length:=HJ.2 hl;obtain⟨v,c1,e1,l1,u1,k1⟩:=eE c l.length B h hB (by omega);obtain⟨i,rfl⟩:=Hm l1;have hi:i<l.length:=by omega
 exact⟨l[i],c1,by simp [e1,hi],Hp hi,k1⟩
set_option maxRecDepth 100000
def kr {β:Type} (p:β→Bool):Nat→List β→Option Nat
 | _,[]=>none
 | i,x::l=>if p x=true then some i else kr p (i+1) l
theorem BW {β:Type} {body:List D→Option Out} (l:List β) (st:Nat→List D) (p:β→Bool) (o1:Nat→Out) (o2:Out) (hs:∀(i:Nat) (hi:i<l.length),body (st i)=some (if p l[i]=true then o1 i else .nrm (st (i+1)))) (he:body (st l.length)=some o2)
  (h1:∀i,(o1 i).ends=true) (h2:o2.ends=true) {s0:List D} (h:s0=st 0):aI body s0=some ((kr p 0 l).elim o2 o1):=by
 have e:∀(m:List β) (i:Nat),goL (fun i x (_:Unit)=>if p x=true then .inr (o1 i) else .inl ()) (fun _=>o2) i m ()=(kr p i m).elim o2 o1:=by
  intro m;induction m with
  | nil=>intro i;simp [goL,kr]
  | cons x m ih =>
   intro i;simp only [goL,kr];by_cases hp:p x=true
   ·simp [hp]
   ·simp [hp,ih]
 rw [←e];refine kC l (fun i _=>st i) (fun _ _=>True) _ _ (fun i x a hx _=>?_) (fun _ _=>⟨he,h2⟩) () trivial h
 have hi:i<l.length:=(HO.1 hx).1;have hxe:l[i]=x:=(HO.1 hx).2;have:=hs i hi;rw [hxe] at this;by_cases hp:p x=true
 ·simpa [hp,h1] using this
 ·simpa [hp] using this
theorem CS {a b:ByteArray} {bl:Bool} {eq:List Nat}:bin .geq bl eq (T a) (T b)=some (B (!Op.bytesLess a.toList b.toList)):=by simp [bin,nW]
def az (b:UInt8):Bool:=decide (97≤(b.toNat:Int))&&decide ((b.toNat:Int)≤122)
def cC (s:ByteArray) (lo hi:Int):Bool:=kq (fun _ b=>az b) 0 (aj s)&&decide (lo≤(s.size:Int)∧(s.size:Int)≤hi)
theorem ky (s:ByteArray) (n:Int) (h:s.size≤9223372036854775807):dF [T s,I n]=some (.ret [B (cC s 1 n)] []):=by
 rw [qz];rw [ed] at h;refine aG _ (jb (aj s) (fun i=>[T s,I n,I i]) (fun _ b=>az b) (.ret [B false] []) (.ext 0 [T s,I n]) (fun i hi=>?_) ?_ rfl rfl rfl) ?_
 ·have hw:Hk.wrap ((i:Int)+1)=(i:Int)+1:=wrap_id (by omega) (by omega)
  by_cases h1:97≤(((aj s)[i]).toNat:Int)
  ·by_cases h2:(((aj s)[i]).toNat:Int)≤122
   ·simp -implicitDefEqProofs [ed,iP,hi,hw,az,h1,h2,HE.2 h1,HE.2 h2]
   ·simp -implicitDefEqProofs [ed,iP,hi,hw,az,h1,h2,HE.2 h1,HZ.1 h2]
  ·simp -implicitDefEqProofs [ed,iP,hi,hw,az,h1,HZ.1 h1]
 ·simp -implicitDefEqProofs [ed]
 ·by_cases hg:kq (fun _ b=>az b) 0 (aj s)=true<;>simp -implicitDefEqProofs [hg,cC,eC]
theorem jJ (s:ByteArray) (m n:Int) (h:s.size≤9223372036854775807):dg [T s,I m,I n]=some (.ret [B (cC s m n)] []):=by
 rw [pD];rw [ed] at h;refine aG _ (jb (aj s) (fun i=>[T s,I m,I n,I i]) (fun _ b=>az b) (.ret [B false] []) (.ext 0 [T s,I m,I n]) (fun i hi=>?_) ?_ rfl rfl rfl) ?_
 ·have hw:Hk.wrap ((i:Int)+1)=(i:Int)+1:=wrap_id (by omega) (by omega)
  by_cases h1:97≤(((aj s)[i]).toNat:Int)
  ·by_cases h2:(((aj s)[i]).toNat:Int)≤122
   ·simp -implicitDefEqProofs [ed,iP,hi,hw,az,h1,h2,HE.2 h1,HE.2 h2]
   ·simp -implicitDefEqProofs [ed,iP,hi,hw,az,h1,h2,HE.2 h1,HZ.1 h2]
  ·simp -implicitDefEqProofs [ed,iP,hi,hw,az,h1,HZ.1 h1]
 ·simp -implicitDefEqProofs [ed]
 ·by_cases hg:kq (fun _ b=>az b) 0 (aj s)=true<;>simp -implicitDefEqProofs [hg,cC,dZ]
set_option maxRecDepth 100000
theorem tv0 (v:Value) (ds:List D):aT (.tup (.v v::ds)) 0=some (.v v):=rfl
theorem tv1 (a:D) (v:Value) (ds:List D):aT (.tup (a :: .v v::ds)) 1=some (.v v):=rfl
theorem tv2 (a b:D) (v:Value) (ds:List D):aT (.tup (a::b :: .v v::ds)) 2=some (.v v):=rfl
theorem ta0 (z:Nat) (l:List D) (ds:List D):aT (.tup (.arr z l::ds)) 0=some (.arr z l):=rfl
theorem ta1 (a:D) (z:Nat) (l:List D) (ds:List D):aT (.tup (a :: .arr z l::ds)) 1=some (.arr z l):=rfl
theorem ta2 (a b:D) (z:Nat) (l:List D) (ds:List D):aT (.tup (a::b :: .arr z l::ds)) 2=some (.arr z l):=rfl
theorem tc0 (a:D) (ds:List D):en (.tup (a::ds)) 0 = .tup (.bad::ds):=rfl
theorem tc1 (a b:D) (ds:List D):en (.tup (a::b::ds)) 1 = .tup (a :: .bad::ds):=rfl
theorem lI {β:Type} (p:β→Bool):∀(l:List β) (i:Nat),kq (fun _ b=>p b) i l=l.all p
 | [],_=>rfl
 | b::l,i=>by
  simp only [kq,List.all_cons];rw [lI p l (i+1)]
instance:Std.Irrefl (α:=UInt8) (·<·):=⟨UInt8.lt_irrefl⟩
instance:Trans (α:=UInt8) (β:=UInt8) (γ:=UInt8) (·<·) (·<·) (·<·):=⟨UInt8.lt_trans⟩
def ltS (a b:ByteArray):Bool:=Op.bytesLess a.toList b.toList
theorem rK {a b:ByteArray}:ltS a b=true↔aj a<aj b:=by
 unfold ltS;rw [bytesLess_eq,Lib.toList_data,Lib.toList_data,decide_eq_true_eq];rfl
theorem BP {a b c:ByteArray} (h1:ltS a b=true) (h2:ltS b c=true):ltS a c=true :=
 rK.2 (List.lt_trans (rK.1 h1) (rK.1 h2))
theorem sN (a:ByteArray):ltS a a=false:=by
 rw [Bool.eq_false_iff];exact fun h=>List.lt_irrefl _ (rK.1 h)
theorem AF {a b:ByteArray} {bl:Bool} {eq:List Nat}:bin .geq bl eq (T a) (T b)=some (B (!ltS a b)):=CS
abbrev Srt:=ByteArray × Int
abbrev sr (x:Srt):D:=.agg [T x.1,I x.2]
abbrev srs (l:List Srt):D:=.arr 2 (l.map sr)
theorem sE {f:List Srt} {i:Nat} (h:i<f.length):aJ 2 (srs f) (I (i:Int))=some [T f[i].1,I f[i].2]:=by simp [h]
theorem uY (a:ByteArray) (b:Int):bK true 2 [T a,I b]=some (.agg [T a,I b]):=by simp
theorem tK (c:ByteArray) (d:Int) (a:ByteArray) (b:Int):stD 2 (.agg [T c,I d]) (.ref 0 0) (.agg [T a,I b])=some (.agg [T a,I b]):=by simp
theorem vc (a:ByteArray) (b:Int):oZ true 2 0 (.agg [T a,I b])=some (.agg [T a,I b]):=by simp
theorem CP (a:ByteArray) (b:Int):nV 2 (.agg [T a,I b])=some (.agg [T a,I b]):=by simp
theorem ql (a:ByteArray) (b:Int):bc (.agg [T a,I b])=some (.agg [T a,I b]):=by simp
theorem vS (a c:ByteArray) (b d:Int):oo [(0,1),(1,1)] [T a,I b] [T c,I d]=some (.agg [T c,I d]):=by simp [oo,tW]
theorem zI (a:ByteArray) (b:Int):aA 2 [.agg [T a,I b]]=some (srs [(a,b)]):=by simp [aA,gu]
theorem wD (l:List Srt):jM (srs l)=some (srs l):=td fun _=>rfl
theorem AV {l m:List Srt} (h:l.length+m.length≤1048577):gi 2 24 (srs l) (srs m)=some (srs (l++m)):=by
 rw [jC,if_pos (by simp only [HF];omega)];show _=some (D.arr 2 ((l++m).map sr))
 rw [Im]
def pI (x:Srt):Bool:=cC x.1 1 3&&decide (1≤x.2∧x.2≤54)
theorem uR (s:ByteArray) (h:s.size≤9223372036854775807):gF [T s]=some (.ret [B (cC s 1 3)] []):=by
 rw [uj];simp -implicitDefEqProofs only [ao,Hg,Hh,Hi,jJ s 1 3 h]
theorem uw (x:Srt) (h:x.1.size≤9223372036854775807):gG [sr x]=some (.ret [B (pI x)] []):=by
 rw [uD];have h1:=uR x.1 h;have h2:=dZ x.2 1 54;unfold pI;cases hc:cC x.1 1 3<;>rw [hc] at h1<;>simp -implicitDefEqProofs only [ao,Hg,Hh,Hi,CP,h1,h2,Ht,Hw]
theorem uT (x:Srt) (h:x.1.size≤9223372036854775807):gM [sr x]=some (.ret [B (pI x)] []):=by
 rw [ui];have h1:=ky x.1 3 h;have h2:=eC x.2 1 54;unfold pI;cases hc:cC x.1 1 3<;>rw [hc] at h1<;>simp -implicitDefEqProofs only [ao,Hg,Hh,Hi,CP,h1,h2,Ht,Hw]
def nxt (f:List Srt) (i:Nat) (x:Srt):Bool:=pI x&&(decide (i=0)||ltS (f.getD (i - 1) default).1 x.1)
def fA (f:List Srt):Bool:=kq (nxt f) 0 f&&decide (1≤(f.length:Int)∧(f.length:Int)≤32)
structure FIn (f:List Srt):Prop where
 ln:f.length≤1000000
 sz:∀x∈f,x.1.size≤1000000
theorem yz {body:List D→Option Out} (f:List Srt) (h:FIn f)
  (hs:∀(i:Nat) (hi:i<f.length),body [srs f,srs f,I f.length,I i]=some (if nxt f i f[i]=true then .nrm [srs f,srs f,I f.length,I ((i+1:Nat):Int)] else .ret [B false] []))
  (he:body [srs f,srs f,I f.length,I f.length]=some (.ext 0 [srs f])):aI body [srs f,srs f,I f.length,I 0]=some (if kq (nxt f) 0 f=true then .ext 0 [srs f] else .ret [B false] []) :=
 jb f (fun i=>[srs f,srs f,I f.length,I i]) (nxt f) (.ret [B false] []) (.ext 0 [srs f]) hs he rfl rfl rfl
theorem jT (f:List Srt) (h:FIn f):fa [srs f]=some (.ret [B (fA f)] []):=by
 rw [uh];have hl:=h.ln;simp -implicitDefEqProofs only [ao,Hg,Hh,Hi];refine aG _ (yz f h (fun i hi=>?_) ?_) ?_
 ·have hi':(i:Int)<(f.length:Int):=by omega
  have hw:Hk.wrap ((i:Int)+1)=((i+1:Nat):Int):=by rw [wrap_id (by omega) (by omega)];omega
  have hg:=sE hi;have hsz:=h.sz _ (Hp hi);have h1:=uw f[i] (by omega);have e0:D.v (Ic {data:={toList:=[]}})=T ⟨#[]⟩:=rfl;unfold nxt;cases hc:pI f[i]
  ·rw [hc] at h1
   simp -implicitDefEqProofs only [ao,Hg,Hh,Hi,hi',hg,uY,ql,e0,tK,vc,h1,Hw]
  ·rw [hc] at h1
   by_cases h0:i=0
   ·subst h0
    have hz:¬(0:Int)<((0:Nat):Int):=by decide
    simp -implicitDefEqProofs only [ao,Hg,Hh,Hi,hi',hg,uY,ql,e0,tK,vc,h1,Ht,hz,Bool.true_or,hw]
   ·have hz:(0:Int)<(i:Int):=by omega
    have hwm:Hk.wrap ((i:Int) - 1)=((i - 1:Nat):Int):=by rw [wrap_id (by omega) (by omega)];omega
    have hgm:=sE (f:=f) (i:=i - 1) (by omega);have hgd:(f.getD (i - 1) default)=f[i - 1]'(by omega):=by simp [show i - 1<f.length by omega]
    rw [hgd];cases hlt:ltS (f[i - 1]'(by omega)).1 f[i].1<;>simp -implicitDefEqProofs only [ao,Hg,Hh,Hi,hi',hg,uY,ql,e0,tK,vc,h1,Ht,hz,h0,Bool.false_or,hwm,hgm,AF,hlt,hw]
 ·have hlt:¬((f.length:Int)<(f.length:Int)):=by omega
  simp -implicitDefEqProofs only [ao,Hg,Hh,Hi,hlt]
 ·have h2:=dZ (f.length:Int) 1 32
  unfold fA;cases kq (nxt f) 0 f
  ·simp -implicitDefEqProofs only [ao,Hg,Hh,Hi,gT,Hw]
  ·simp -implicitDefEqProofs only [ao,Hg,Hh,Hi,h2,Ht]
theorem jU (f:List Srt) (h:FIn f):dY [srs f]=some (.ret [B (fA f)] []):=by
 rw [uV];have hl:=h.ln;simp -implicitDefEqProofs only [ao,Hg,Hh,Hi];refine aG _ (yz f h (fun i hi=>?_) ?_) ?_
 ·have hi':(i:Int)<(f.length:Int):=by omega
  have hw:Hk.wrap ((i:Int)+1)=((i+1:Nat):Int):=by rw [wrap_id (by omega) (by omega)];omega
  have hg:=sE hi;have hsz:=h.sz _ (Hp hi);have h1:=uT f[i] (by omega);have e0:D.v (Ic {data:={toList:=[]}})=T ⟨#[]⟩:=rfl;unfold nxt;cases hc:pI f[i]
  ·rw [hc] at h1
   simp -implicitDefEqProofs only [ao,Hg,Hh,Hi,hi',hg,uY,ql,e0,tK,vc,h1,Hw]
  ·rw [hc] at h1
   by_cases h0:i=0
   ·subst h0
    have hz:¬(0:Int)<((0:Nat):Int):=by decide
    simp -implicitDefEqProofs only [ao,Hg,Hh,Hi,hi',hg,uY,ql,e0,tK,vc,h1,Ht,hz,Bool.true_or,hw]
   ·have hz:(0:Int)<(i:Int):=by omega
    have hwm:Hk.wrap ((i:Int) - 1)=((i - 1:Nat):Int):=by rw [wrap_id (by omega) (by omega)];omega
    have hgm:=sE (f:=f) (i:=i - 1) (by omega);have hgd:(f.getD (i - 1) default)=f[i - 1]'(by omega):=by simp [show i - 1<f.length by omega]
    rw [hgd];cases hlt:ltS (f[i - 1]'(by omega)).1 f[i].1<;>simp -implicitDefEqProofs only [ao,Hg,Hh,Hi,hi',hg,uY,ql,e0,tK,vc,h1,Ht,hz,h0,Bool.false_or,hwm,hgm,AF,hlt,hw]
 ·have hlt:¬((f.length:Int)<(f.length:Int)):=by omega
  simp -implicitDefEqProofs only [ao,Hg,Hh,Hi,hlt]
 ·have h2:=eC (f.length:Int) 1 32
  unfold fA;cases kq (nxt f) 0 f
  ·simp -implicitDefEqProofs only [ao,Hg,Hh,Hi,gT,Hw]
  ·simp -implicitDefEqProofs only [ao,Hg,Hh,Hi,h2,Ht]
set_option maxRecDepth 100000
theorem Ft:D.arr 2 []=srs []:=rfl
def bef (s x:Srt):Bool:=!ltS x.1 s.1
theorem rY {f:List Srt}:fA f=true↔(∀x∈f,pI x=true)∧f.Pairwise (fun a b=>ltS a.1 b.1=true)∧1≤f.length∧f.length≤32:=by
 have key:∀(l:List Srt) (i:Nat) (q:Nat→Srt→Bool),kq (fun i x=>pI x&&q i x) i l=true↔(∀x∈l,pI x=true)∧∀k (hk:k<l.length),q (i+k) l[k]=true:=by
  intro l;induction l with
  | nil=>intro i q;simp [kq]
  | cons x l ih =>
   intro i q;simp only [kq,HS];rw [ih (i+1) q];constructor
   ·rintro⟨⟨h1,h2⟩,h3,h4⟩
    refine⟨fun y hy=>?_,fun k hk=>?_⟩
    ·rcases Ia.1 hy with rfl | hy
     ·exact h1
     ·exact h3 y hy
    ·cases k with
     | zero=>exact h2
     | succ k =>
      have:=h4 k (by simpa using hk);rw [show i+(k+1)=i+1+k by omega];exact this
   ·rintro⟨h1,h2⟩
    refine⟨⟨h1 x (by simp),h2 0 (by simp)⟩,fun y hy=>h1 y (by simp [hy]),fun k hk=>?_⟩
    have:=h2 (k+1) (by simpa using hk);rw [show i+(k+1)=i+1+k by omega] at this;exact this
 unfold fA;rw [HS,decide_eq_true_eq];have hk:=key f 0 (fun i x=>decide (i=0)||ltS (f.getD (i - 1) default).1 x.1);show kq (nxt f) 0 f=true∧_↔_
 have e:kq (nxt f) 0 f=kq (fun i x=>pI x&&(decide (i=0)||ltS (f.getD (i - 1) default).1 x.1)) 0 f:=rfl;rw [e,hk];have chain:(∀k (hk:k<f.length),(decide (0+k=0)||ltS (f.getD (0+k - 1) default).1 f[k].1)=true)↔f.Pairwise (fun a b=>ltS a.1 b.1=true):=by
  rw [List.pairwise_iff_getElem];constructor
  ·intro h
   have step:∀i (hi:i+1<f.length),ltS f[i].1 f[i+1].1=true:=by
    intro i hi;have:=h (i+1) hi;rw [Ie,Nat.add_sub_cancel] at this;simpa [show i<f.length by omega] using this
   intro i j hi hj hij;have:∀n (hn:i+1+n<f.length),ltS f[i].1 f[i+1+n].1=true:=by
    intro n;induction n with
    | zero=>exact fun hn=>step i hn
    | succ n ih=>exact fun hn=>BP (ih (by omega)) (step (i+1+n) hn)
   have h2:=this (j - (i+1)) (by omega);have e2:i+1+(j - (i+1))=j:=by omega
   simpa only [e2] using h2
  ·intro h k hk
   by_cases h0:k=0
   ·simp [h0]
   ·have h2:=h (k - 1) k (by omega) hk (by omega)
    have h3:k - 1<f.length:=by omega
    rw [Ie];have hgd:f.getD (k - 1) default=f[k - 1]:=by simp [h3]
    rw [hgd,h2];simp
 rw [chain];constructor
 ·rintro⟨⟨h1,h2⟩,h3⟩
  exact⟨h1,h2,by omega,by omega⟩
 ·rintro⟨h1,h2,h3,h4⟩
  exact⟨⟨h1,h2⟩,by omega,by omega⟩
set_option maxRecDepth 100000
def qh (ws:List ByteArray):Bool:=(ws.all fun w=>cC w 1 16)&&decide ((ws.length:Int)≤40)
structure WIn (ws:List ByteArray):Prop where
 ln:ws.length≤1000000
 sz:∀w∈ws,w.size≤1000000
theorem uS (s:ByteArray) (h:s.size≤9223372036854775807):gL [T s]=some (.ret [B (cC s 1 16)] []):=by
 rw [ut];simp -implicitDefEqProofs only [ao,Hg,Hh,Hi,jJ s 1 16 h]
theorem uF (s:ByteArray) (h:s.size≤9223372036854775807):gE [T s]=some (.ret [B (cC s 1 16)] []):=by
 rw [uP];simp -implicitDefEqProofs only [ao,Hg,Hh,Hi,ky s 16 h]
theorem rQ {l:List ByteArray} {i:Nat} (h:i<l.length):aJ 1 (.arr 1 (l.map T)) (I (i:Int))=some [T l[i]]:=by simp [h]
theorem ly (ws:List ByteArray) (h:WIn ws):fe [txs ws]=some (.ret [B (qh ws)] []):=by
 rw [rB];have hl:=h.ln;simp -implicitDefEqProofs only [ao,Hg,Hh,Hi];refine aG _ (jb ws (fun i=>[txs ws,txs ws,I ws.length,I i]) (fun _ w=>cC w 1 16) (.ret [B false] []) (.ext 0 [txs ws]) (fun i hi=>?_) ?_ rfl rfl rfl) ?_
 ·have hi':(i:Int)<(ws.length:Int):=by omega
  have hw:Hk.wrap ((i:Int)+1)=((i+1:Nat):Int):=by rw [wrap_id (by omega) (by omega)];omega
  have hg:=rQ hi;have hp:=uS ws[i] (by have:=h.sz _ (Hp hi);omega);cases hc:cC ws[i] 1 16<;>rw [hc] at hp<;>simp -implicitDefEqProofs only [ao,Hg,Hh,Hi,hi',hg,hp,hw]
 ·have hlt:¬((ws.length:Int)<(ws.length:Int)):=by omega
  simp -implicitDefEqProofs only [ao,Hg,Hh,Hi,hlt]
 ·rw [lI]
  unfold qh;cases ws.all fun w=>cC w 1 16
  ·simp -implicitDefEqProofs only [ao,Hg,Hh,Hi,gT,Hw]
  ·simp -implicitDefEqProofs only [ao,Hg,Hh,Hi,Ht]
theorem sU (ws:List ByteArray) (h:WIn ws):fG [txs ws]=some (.ret [B (qh ws)] []):=by
 rw [tX];have hl:=h.ln;simp -implicitDefEqProofs only [ao,Hg,Hh,Hi];refine aG _ (jb ws (fun i=>[txs ws,txs ws,I ws.length,I i]) (fun _ w=>cC w 1 16) (.ret [B false] []) (.ext 0 [txs ws]) (fun i hi=>?_) ?_ rfl rfl rfl) ?_
 ·have hi':(i:Int)<(ws.length:Int):=by omega
  have hw:Hk.wrap ((i:Int)+1)=((i+1:Nat):Int):=by rw [wrap_id (by omega) (by omega)];omega
  have hg:=rQ hi;have hp:=uF ws[i] (by have:=h.sz _ (Hp hi);omega);cases hc:cC ws[i] 1 16<;>rw [hc] at hp<;>simp -implicitDefEqProofs only [ao,Hg,Hh,Hi,hi',hg,hp,hw]
 ·have hlt:¬((ws.length:Int)<(ws.length:Int)):=by omega
  simp -implicitDefEqProofs only [ao,Hg,Hh,Hi,hlt]
 ·rw [lI]
  unfold qh;cases ws.all fun w=>cC w 1 16
  ·simp -implicitDefEqProofs only [ao,Hg,Hh,Hi,gT,Hw]
  ·simp -implicitDefEqProofs only [ao,Hg,Hh,Hi,Ht]
set_option maxRecDepth 100000
def asc (s:ByteArray):Prop:=∀b∈aj s,b.toNat<128
theorem rO {a b:ByteArray} (h1:asc a) (h2:asc b):asc (a++b):=by
 intro x hx;rw [kW] at hx;rcases Hz.1 hx with hx | hx
 ·exact h1 x hx
 ·exact h2 x hx
theorem Ao:asc ⟨⟨[]⟩⟩:=fun b hb=>by cases hb
theorem tS' (l:List UInt8):(D.v (Ic {data:={toList:=l}}))=T ⟨⟨l⟩⟩:=rfl
theorem Az (l:List UInt8) (h:(l.all fun b=>decide (b.toNat<128))=true):asc ⟨⟨l⟩⟩:=fun b hb=>of_decide_eq_true (HC.1 h b hb)
structure Tx (n:Nat) (s:ByteArray):Prop where
 sz:s.size≤n
 ok:asc s
def txB (n:Nat) (l:List ByteArray):Bool:=l.all fun s=>decide (s.size≤n)&&(aj s).all fun b=>decide (b.toNat<128)
theorem wF {n:Nat} {l:List ByteArray} (h:txB n l=true):∀s∈l,Tx n s:=by
 intro s hs;have:=HC.1 h s hs;rw [HS,decide_eq_true_eq] at this;exact⟨this.1,fun b hb=>of_decide_eq_true (HC.1 this.2 b hb)⟩
def W10:List ByteArray:=[⟨⟨[97]⟩⟩,⟨⟨[98]⟩⟩,⟨⟨[99]⟩⟩,⟨⟨[97,98]⟩⟩,⟨⟨[98,98]⟩⟩,⟨⟨[97,98,99]⟩⟩,⟨⟨[100]⟩⟩,⟨⟨[101]⟩⟩,⟨⟨[102]⟩⟩,⟨⟨[102,105]⟩⟩]
theorem CE:∀s∈W10,1≤s.size∧s.size≤3:=by
 intro s hs;simp only [W10,Ia,Ii,or_false] at hs;rcases hs with rfl | rfl | rfl | rfl | rfl | rfl | rfl | rfl | rfl | rfl<;>exact⟨by decide,by decide⟩
theorem Gm:∀s∈W10,Tx 3 s:=wF (by decide)
theorem iJ {a b:ByteArray} (h:a.size+b.size≤100000000):bin .add false [] (T a) (T b)=some (T (a++b)):=by
 rw [pz,if_pos (by omega)]
theorem DX (c:Cur) (B:Nat) (h:c.ok B) (hB:B≤1000000000):∃(s:ByteArray) (c':Cur),bm [aU c]=some (.ret [T s] [aU c'])∧Tx 8 s∧c'.ok (B+20):=by
 rw [oD];obtain⟨v,c1,e1,l1,u1,k1⟩:=eE c 6 B h (by omega) (by omega);obtain⟨v,rfl⟩:=Hm l1;have hv:v<6:=by omega
 have m10:aA 1 [T ⟨⟨[97]⟩⟩,T ⟨⟨[98]⟩⟩,T ⟨⟨[99]⟩⟩,T ⟨⟨[97,98]⟩⟩,T ⟨⟨[98,98]⟩⟩,T ⟨⟨[97,98,99]⟩⟩,T ⟨⟨[100]⟩⟩,T ⟨⟨[101]⟩⟩,T ⟨⟨[102]⟩⟩,T ⟨⟨[102,105]⟩⟩]=some (txs W10):=Ax (l:=W10);have hw:Hk.wrap (1+(v:Int))=((1+v:Nat):Int):=by rw [wrap_id (by omega) (by omega)];omega
 simp -implicitDefEqProofs only [dX,Hl,px,e1,dC,dc,jE,hw,m10,tS'];refine cT (fun X=>∃s c',X=some (.ret [T s] [aU c'])∧Tx 8 s∧c'.ok (B+20)) (fun a:Cur × ByteArray=>[aU a.1,T a.2,I ((1+v:Nat):Int)])
  (fun a=>a.1.ok (B+2+2*a.2.size)∧Tx 8 a.2) (fun a=>8 - a.2.size) (fun o=>∃(s:ByteArray) (c':Cur),o = .ext 0 [aU c',T s]∧Tx 8 s∧c'.ok (B+20)) ?_ (c1,⟨⟨[]⟩⟩) ⟨k1.mono (by show B+2≤B+2+2*0;omega),by show 0≤8;omega,Ao⟩ rfl ?_
 ·rintro⟨ca,s⟩ ⟨h1,h2,h3⟩
  simp only at h1 h2 h3;by_cases hn:s.size<1+v
  ·have hn':(s.size:Int)<((1+v:Nat):Int):=by omega
   obtain⟨t,c2,e2,ht,k2⟩:=FR ca W10 _ h1 (by omega) (by decide) (by decide);have hts:=CE t ht;have ha:=iJ (a:=s) (b:=t) (by omega);refine .inl ⟨(c2,s++t),?_,⟨k2.mono (by simp only [Hq];omega),by simp only [Hq];omega,rO h3 (Gm t ht).ok⟩,by simp only [Hq];omega⟩
   simp -implicitDefEqProofs only [dc,iK,kx,Hl,iH,hn',decide_true,lN,if_true,dX,px,e2,dC,ha]
  ·have hn':¬(s.size:Int)<((1+v:Nat):Int):=by omega
   refine .inr ⟨_,?_,rfl,s,ca,rfl,⟨h2,h3⟩,h1.mono (by omega)⟩
   simp -implicitDefEqProofs only [dc,iK,kx,Hl,iH,hn',decide_false,lN,HA,if_false]
 ·rintro o ⟨s,c',rfl,g1,g2⟩
  refine⟨s,c',?_,g1,g2⟩
  simp -implicitDefEqProofs only [pq,Nat.beq_refl,Aj,if_true,dc,iK,dX,Hl]
def W4:List ByteArray:=[⟨⟨[]⟩⟩,⟨⟨[65]⟩⟩,⟨⟨[97,32,98]⟩⟩,⟨⟨[97,45,98]⟩⟩]
theorem GO:∀s∈W4,Tx 20 s:=wF (by decide)
theorem Tx.mono {m n:Nat} {s:ByteArray} (h:Tx m s) (hm:m≤n):Tx n s:=⟨Ib h.sz hm,h.ok⟩
theorem Tx.add {k n:Nat} {a b:ByteArray} (h:Tx k a) (h2:Tx n b):Tx (k+n) (a++b):=⟨by have:=h.sz;have:=h2.sz;simp only [Hq];omega,rO h.ok h2.ok⟩
theorem Tx.nil (n:Nat):Tx n ⟨⟨[]⟩⟩:=⟨by show 0≤n;omega,Ao⟩
theorem Bs (c:Cur) (B:Nat) (h:c.ok B) (hB:B≤900000000):∃(s:ByteArray) (c':Cur),bH [aU c]=some (.ret [T s] [aU c'])∧Tx 20 s∧c'.ok (B+30):=by
 rw [mw];obtain⟨k,c1,e1,l1,u1,k1⟩:=eE c 30 B h (by omega) (by omega);have m4:aA 1 [T ⟨⟨[]⟩⟩,T ⟨⟨[65]⟩⟩,T ⟨⟨[97,32,98]⟩⟩,T ⟨⟨[97,45,98]⟩⟩]=some (txs W4):=Ax (l:=W4);obtain⟨s,c2,e2,h2,k2⟩:=DX c1 _ k1 (by omega);have h2s:=h2.sz;simp -implicitDefEqProofs only [dX,Hl,px,e1,dC,dc,wy,m4,tS',lN,decide_eq_true_eq];by_cases q0:k=0
 ·obtain⟨t,c3,e3,ht,k3⟩:=FR c1 W4 _ k1 (by omega) (by decide) (by decide)
  refine⟨t,c3,?_,GO t ht,k3.mono (by omega)⟩
  rw [if_pos q0];simp -implicitDefEqProofs only [e3,dC,dc,dX,Hl]
 rw [if_neg q0];by_cases q1:k=1
 ·rw [if_pos q1]
  obtain⟨v,c3,e3,l3,u3,k3⟩:=eE c1 2 _ k1 (by omega) (by omega);obtain⟨v,rfl⟩:=Hm l3;have hw:Hk.wrap (16+(v:Int))=((16+v:Nat):Int):=by rw [wrap_id (by omega) (by omega)];omega
  simp -implicitDefEqProofs only [e3,dC,dc,jE,hw,Hl];refine cT (fun X=>∃s c',X=some (.ret [T s] [aU c'])∧Tx 20 s∧c'.ok (B+30)) (fun a:ByteArray=>[aU c3,T a,I ((16+v:Nat):Int)])
   (fun a=>Tx 20 a) (fun a=>20 - a.size) (fun o=>∃(s:ByteArray),o = .ext 1 [aU c3,T s]∧Tx 20 s) ?_ (⟨⟨[]⟩⟩) (Tx.nil 20) rfl ?_
  ·intro s h2
   have h2s:=h2.sz;by_cases hn:s.size<16+v
   ·have hn':(s.size:Int)<((16+v:Nat):Int):=by omega
    have hz:(⟨⟨[97]⟩⟩:ByteArray).size=1:=rfl;have ha:=iJ (a:=s) (b:=⟨⟨[97]⟩⟩) (by omega);refine .inl ⟨s++⟨⟨[97]⟩⟩,?_,⟨by simp only [Hq];omega,rO h2.ok (Az [97] (by decide))⟩,by simp only [Hq];omega⟩
    simp -implicitDefEqProofs only [dc,iK,kx,Hl,iH,hn',decide_true,lN,if_true,ha]
   ·have hn':¬(s.size:Int)<((16+v:Nat):Int):=by omega
    refine .inr ⟨_,?_,rfl,s,rfl,h2⟩
    simp -implicitDefEqProofs only [dc,iK,kx,Hl,iH,hn',decide_false,lN,HA,if_false]
  ·rintro o ⟨s,rfl,g1⟩
   refine⟨s,c3,?_,g1,k3.mono (by omega)⟩
   simp -implicitDefEqProofs only [pq,Nat.beq_refl,Aj,if_true,dc,iK,dX,Hl]
 rw [if_neg q1];by_cases q2:k=2
 ·rw [if_pos q2]
  have hz:(⟨⟨[122]⟩⟩:ByteArray).size=1:=rfl;have ha:=iJ (a:=s) (b:=⟨⟨[122]⟩⟩) (by omega);refine⟨s++⟨⟨[122]⟩⟩,c2,?_,⟨by simp only [Hq];omega,rO h2.ok (Az [122] (by decide))⟩,k2.mono (by omega)⟩
  simp -implicitDefEqProofs only [e2,dC,dc,dX,Hl,ha]
 ·rw [if_neg q2]
  refine⟨s,c2,?_,h2.mono (by omega),k2.mono (by omega)⟩
  simp -implicitDefEqProofs only [e2,dC,dc,dX,Hl]
set_option maxRecDepth 100000
def C12:List ByteArray:=[⟨⟨[97]⟩⟩,⟨⟨[97,98]⟩⟩,⟨⟨[97,98,99]⟩⟩,⟨⟨[98]⟩⟩,⟨⟨[98,98]⟩⟩,⟨⟨[99]⟩⟩,⟨⟨[100]⟩⟩,⟨⟨[101]⟩⟩,⟨⟨[102]⟩⟩,⟨⟨[102,102]⟩⟩,⟨⟨[102,105]⟩⟩,⟨⟨[105]⟩⟩]
theorem DQ:∀s∈C12,1≤s.size∧s.size≤3:=by
 have:(C12.all fun s=>decide (1≤s.size)&&decide (s.size≤3))=true:=by decide
 intro s hs;have:=HC.1 this s hs;simpa using this
structure Fd (f:List Srt):Prop where
 ln:f.length≤40
 sz:∀x∈f,x.1.size≤4
 lo:∀x∈f,-1≤x.2∧x.2≤100
theorem Fd.fin {f:List Srt} (h:Fd f):FIn f:=⟨by have:=h.ln;omega,fun x hx=>by have:=h.sz x hx;omega⟩
theorem m12:aA 1 [T ⟨⟨[97]⟩⟩,T ⟨⟨[97,98]⟩⟩,T ⟨⟨[97,98,99]⟩⟩,T ⟨⟨[98]⟩⟩,T ⟨⟨[98,98]⟩⟩,T ⟨⟨[99]⟩⟩,T ⟨⟨[100]⟩⟩,T ⟨⟨[101]⟩⟩,T ⟨⟨[102]⟩⟩,T ⟨⟨[102,102]⟩⟩,T ⟨⟨[102,105]⟩⟩,T ⟨⟨[105]⟩⟩]=some (txs C12):=Ax (l:=C12)
theorem FY (c:Cur) (B:Nat) (h:c.ok B) (hB:B≤800000000):∃(f:List Srt) (c':Cur),eu [aU c]=some (.ret [srs f] [aU c'])∧(1≤f.length∧f.length≤12∧(∀x∈f,x.1.size≤3)∧∀x∈f,0≤x.2∧x.2≤100)∧c'.ok (B+100):=by
 rw [oz];have hlen:(C12.map T).length=12:=rfl;simp -implicitDefEqProofs only [ao,Hg,Hh,Hi,tS',m12,Ft,hlen];refine cT (fun X=>∃f c',X=some (.ret [srs f] [aU c'])∧(1≤f.length∧f.length≤12∧(∀x∈f,x.1.size≤3)∧∀x∈f,0≤x.2∧x.2≤100)∧c'.ok (B+100)) (fun a:Cur × List Srt × Nat=>[aU a.1,srs a.2.1,txs C12,I 12,I (a.2.2:Int)])
  (fun a=>a.1.ok (B+5*a.2.2)∧a.2.2≤12∧a.2.1.length≤a.2.2∧(∀x∈a.2.1,x.1.size≤3)∧∀x∈a.2.1,0≤x.2∧x.2≤100) (fun a=>12 - a.2.2)
  (fun o=>∃(f:List Srt) (c':Cur),o = .ext 0 [aU c',srs f]∧(f.length≤12∧(∀x∈f,x.1.size≤3)∧∀x∈f,0≤x.2∧x.2≤100)∧c'.ok (B+60)) ?_ (c,[],0) ⟨h.mono (by simp),by simp,by simp,by simp,by simp⟩ rfl ?_
 ·rintro⟨ca,f,i⟩ ⟨h1,h2,h3,h4,h5⟩
  simp only at h1 h2 h3 h4 h5;have hl12:C12.length=12:=rfl;by_cases hi:i<12
  ·have hi':(i:Int)<12:=by omega
   have hwi:Hk.wrap ((i:Int)+1)=((i+1:Nat):Int):=by rw [wrap_id (by omega) (by omega)];omega
   have hg:aJ 1 (txs C12) (I (i:Int))=some [T (C12[i]'(by omega))]:=by simp [hl12,hi]
   have hz:=DQ _ (Hp (by omega:i<C12.length));generalize C12[i]'(by omega)=t at hg hz;have take:∀(c2:Cur),c2.ok (B+5*i+2)→∃(v:Int) (c3:Cur),an [aU c2,I 4]=some (.ret [I v] [aU c3])∧Hk.wrap (2+v)=2+v∧Hk.wrap ((t.size:Int)*(2+v))=(t.size:Int)*(2+v)∧Hk.wrap (4+(t.size:Int)*(2+v))=4+(t.size:Int)*(2+v)∧aA 2 [.agg [T t,I (4+(t.size:Int)*(2+v))]]=some (srs [(t,4+(t.size:Int)*(2+v))]) ∧
     gi 2 24 (srs f) (srs [(t,4+(t.size:Int)*(2+v))])=some (srs (f++[(t,4+(t.size:Int)*(2+v))]))∧(0≤4+(t.size:Int)*(2+v)∧4+(t.size:Int)*(2+v)≤100)∧c3.ok (B+5*(i+1)):=by
    intro c2 k2;obtain⟨v,c3,e3,l3,u3,k3⟩:=eE c2 4 _ k2 (by omega) (by omega);have hv:v≤3:=by omega
    have hm1:0≤(t.size:Int)*(2+v):=Int.mul_nonneg (by omega) (by omega);have hm2:(t.size:Int)*(2+v)≤3*5:=Int.mul_le_mul (by omega) (by omega) (by omega) (by omega);exact⟨v,c3,e3,wrap_id (by omega) (by omega),wrap_id (by omega) (by omega),wrap_id (by omega) (by omega),zI _ _,AV (by simp only [Hu];omega),⟨by omega,by omega⟩,k3.mono (by omega)⟩
   have memo:∀(y:Srt),y.1.size≤3→(0≤y.2∧y.2≤100)→(∀x∈f++[y],x.1.size≤3)∧∀x∈f++[y],0≤x.2∧x.2≤100:=by
    intro y g1 g2;constructor<;>intro x hx<;>rcases Hz.1 hx with hx | hx
    ·exact h4 x hx
    ·rw [Hv.1 hx];exact g1
    ·exact h5 x hx
    ·rw [Hv.1 hx];exact g2
   by_cases h1':(t.size:Int)=1
   ·have h1g:¬(1:Int)<(t.size:Int):=by omega
    obtain⟨b,c2,e2,k2⟩:=vp ca 12 _ h1 (by omega) (by omega);cases b
    ·obtain⟨v,c3,e3,w1,w2,w3,o1,a1,r1,k3⟩:=take c2 k2
     obtain⟨q1,q2⟩:=memo (t,4+(t.size:Int)*(2+v)) hz.2 r1;rw [h1'] at w2 w3 o1 a1 r1 q1 q2;refine .inl ⟨(c3,f++[(t,4+1*(2+v))],i+1),?_,⟨k3,by simp only;omega,by simp;omega,q1,q2⟩,by simp only;omega⟩
     simp -implicitDefEqProofs only [ao,Hg,Hh,Hi,hi',hg,h1',e2,e3,w1,w2,w3,vS,o1,wD,a1,hwi]
    ·refine .inl ⟨(c2,f,i+1),?_,⟨k2.mono (by simp only;omega),by simp only;omega,by simp only;omega,h4,h5⟩,by simp only;omega⟩
     simp -implicitDefEqProofs only [ao,Hg,Hh,Hi,hi',hg,h1',e2,show ¬(1:Int)<1 by decide,hwi]
   ·have h1g:(1:Int)<(t.size:Int):=by omega
    obtain⟨b,c2,e2,k2⟩:=vp ca 3 _ h1 (by omega) (by omega);cases b
    ·refine .inl ⟨(c2,f,i+1),?_,⟨k2.mono (by simp only;omega),by simp only;omega,by simp only;omega,h4,h5⟩,by simp only;omega⟩
     simp -implicitDefEqProofs only [ao,Hg,Hh,Hi,hi',hg,h1',h1g,e2,hwi]
    ·obtain⟨v,c3,e3,w1,w2,w3,o1,a1,r1,k3⟩:=take c2 k2
     obtain⟨q1,q2⟩:=memo (t,4+(t.size:Int)*(2+v)) hz.2 r1;refine .inl ⟨(c3,f++[(t,4+(t.size:Int)*(2+v))],i+1),?_,⟨k3,by simp only;omega,by simp;omega,q1,q2⟩,by simp only;omega⟩
     simp -implicitDefEqProofs only [ao,Hg,Hh,Hi,hi',hg,h1',h1g,e2,e3,w1,w2,w3,vS,o1,wD,a1,hwi]
  ·have hi':¬(i:Int)<12:=by omega
   refine .inr ⟨_,?_,rfl,f,ca,rfl,⟨by omega,h4,h5⟩,h1.mono (by omega)⟩
   simp -implicitDefEqProofs only [ao,Hg,Hh,Hi,hi']
 ·rintro o ⟨f,c',rfl,⟨g1,g2,g3⟩,g4⟩
  have hm1:aA 2 [.agg [T ⟨⟨[97]⟩⟩,I 9]]=some (srs [(⟨⟨[97]⟩⟩,9)]):=zI _ _;by_cases h0:(f.length:Int)=0
  ·refine⟨[(⟨⟨[97]⟩⟩,9)],c',?_,⟨by simp,by simp,?_,?_⟩,g4.mono (by omega)⟩
   ·simp -implicitDefEqProofs only [ao,Hg,Hh,Hi,h0,vS,hm1]
   ·intro x hx
    rw [Hv.1 hx];decide
   ·intro x hx
    rw [Hv.1 hx];decide
  ·refine⟨f,c',?_,⟨by omega,g1,g2,g3⟩,g4.mono (by omega)⟩
   simp -implicitDefEqProofs only [ao,Hg,Hh,Hi,h0]
def A5':List ByteArray:=[⟨⟨[]⟩⟩,⟨⟨[65]⟩⟩,⟨⟨[97,98,99,100]⟩⟩,⟨⟨[97]⟩⟩,⟨⟨[122,122,122]⟩⟩]
theorem FQ:∀s∈A5',Tx 4 s:=wF (by decide)
theorem EB {f:List Srt} {k:Nat} (h:k<f.length):gd 2 (srs f) (I (k:Int))=some (.ref k 0):=by
 rw [tq,if_pos (by simpa using h)]
theorem Eh {f:List Srt} {k:Nat} (h:k<f.length) (t:ByteArray):stD 1 (srs f) (.ref k 0) (T t)=some (srs (f.set k (t,f[k].2))):=by
 rw [yb (c:=[T f[k].1,I f[k].2]) (by simp [h]) (by simp)];show some (D.arr 2 ((f.map sr).set k (sr (t,f[k].2))))=_
 rw [←Ig]
theorem FU {f:List Srt} {k:Nat} (h:k<f.length) (n:Int):stD 1 (srs f) (.ref k 1) (I n)=some (srs (f.set k (f[k].1,n))):=by
 rw [yb (c:=[T f[k].1,I f[k].2]) (by simp [h]) (by simp)];show some (D.arr 2 ((f.map sr).set k (sr (f[k].1,n))))=_
 rw [←Ig]
def two (n:Nat):ByteArray:=⟨⟨[Hs (97+n / 6),Hs (97+n % 6)]⟩⟩
theorem Gb (a b:UInt8):gK [U (a.toNat:Int),U (b.toNat:Int)]=some [a,b]:=by simp [gK]
theorem Fl (n:Nat) (h:n<40):bin .quo false [] (I (n:Int)) (I 6)=some (I ((n / 6:Nat):Int))∧bin .add false [] (I 97) (I ((n / 6:Nat):Int))=some (I ((97+n / 6:Nat):Int))∧gf (some .u8) false (I ((97+n / 6:Nat):Int))=some (U ((97+n / 6:Nat):Int)) ∧
  bin .rem false [] (I (n:Int)) (I 6)=some (I ((n % 6:Nat):Int))∧bin .add false [] (I 97) (I ((n % 6:Nat):Int))=some (I ((97+n % 6:Nat):Int))∧gf (some .u8) false (I ((97+n % 6:Nat):Int))=some (U ((97+n % 6:Nat):Int)) ∧
  aA 1 [U ((97+n / 6:Nat):Int),U ((97+n % 6:Nat):Int)]=some (.arr 1 [U ((97+n / 6:Nat):Int),U ((97+n % 6:Nat):Int)])∧qd (.arr 1 [U ((97+n / 6:Nat):Int),U ((97+n % 6:Nat):Int)])=some (T (two n)):=by
 have hm:n % 6<6:=Nat.mod_lt _ (by decide);have hq:n / 6≤6:=by omega
 have w1:Hk.wrap (97+((n % 6:Nat):Int))=((97+n % 6:Nat):Int):=by rw [wrap_id (by omega) (by omega)];omega
 have w2:Hk.wrap (97+((n / 6:Nat):Int))=((97+n / 6:Nat):Int):=by rw [wrap_id (by omega) (by omega)];omega
 have w3:Hk.wrap ((n / 6:Nat):Int)=((n / 6:Nat):Int):=wrap_id (by omega) (by omega);refine⟨?_,by rw [jE,w2],?_,?_,by rw [jE,w1],?_,?_,?_⟩
 ·rw [pB,if_neg (by decide),HK (by omega)]
  rw [show((n:Int) / 6)=((n / 6:Nat):Int) from rfl,w3]
 ·show some (U (HB.wrap _))=_
  congr 3
  simp only [IntKind.wrap_u8];omega
 ·rw [Ah,if_neg (by decide),HL (by omega)]
  rfl
 ·show some (U (HB.wrap _))=_
  congr 3
  simp only [IntKind.wrap_u8];omega
 ·simp [aA,gu]
 ·have t1:(Hs (97+n / 6)).toNat=97+n / 6:=by
   rw [UInt8.toNat_ofNat'];omega
  have t2:(Hs (97+n % 6)).toNat=97+n % 6:=by
   rw [UInt8.toNat_ofNat'];omega
  have hb:=Gb (Hs (97+n / 6)) (Hs (97+n % 6));rw [t1,t2] at hb;simp only [qd,hb,HD];rfl
theorem mG {α:Type} {l:List α} {k:Nat} {x y:α} (h:x∈l.set k y):x∈l∨x=y:=List.mem_or_eq_of_mem_set h
theorem qD (c:Cur) (B:Nat) (h:c.ok B) (hB:B≤700000000):∃(f:List Srt) (c':Cur),bL [aU c]=some (.ret [srs f] [aU c'])∧Fd f∧c'.ok (B+200):=by
 rw [mf];obtain⟨f,c1,e1,⟨f1,f2,f3,f4⟩,k1⟩:=FY c B h (by omega);obtain⟨k,c2,e2,l2,u2,k2⟩:=eE c1 (f.length:Int) _ k1 (by omega) (by omega);obtain⟨k,rfl⟩:=Hm l2;have hk:k<f.length:=by omega
 obtain⟨q,c3,e3,l3,u3,k3⟩:=eE c2 30 _ k2 (by omega) (by omega);have m5:aA 1 [T ⟨⟨[]⟩⟩,T ⟨⟨[65]⟩⟩,T ⟨⟨[97,98,99,100]⟩⟩,T ⟨⟨[97]⟩⟩,T ⟨⟨[122,122,122]⟩⟩]=some (txs A5'):=Ax (l:=A5');have mi:aA 1 [I 0,I 1,I 54,I 55,I (-1)]=some (il [0,1,54,55,-1]):=jW (l:=[0,1,54,55,-1]);have hr:=EB hk;have hfd:Fd f:=⟨by omega,fun x hx=>by have:=f3 x hx;omega,fun x hx=>by have:=f4 x hx;omega⟩
 simp -implicitDefEqProofs only [ao,Hg,Hh,Hi,e1,e2,e3,tS',m5,mi,Ft,decide_eq_true_eq];by_cases q0:q=0
 ·obtain⟨t,c4,e4,ht,k4⟩:=FR c3 A5' _ k3 (by omega) (by decide) (by decide)
  have htz:=(FQ t ht).sz;have hst:=Eh hk t;refine⟨f.set k (t,f[k].2),c4,?_,⟨by rw [HH];omega,fun x hx=>?_,fun x hx=>?_⟩,k4.mono (by omega)⟩
  ·rw [if_pos q0]
   simp -implicitDefEqProofs only [ao,Hg,Hh,Hi,e4,hr,tZ,hst]
  ·rcases mG hx with hx | rfl
   ·exact hfd.sz x hx
   ·exact htz
  ·rcases mG hx with hx | rfl
   ·exact hfd.lo x hx
   ·have:=hfd.lo _ (Hp hk)
    exact this
 rw [if_neg q0];by_cases q1:q=1
 ·obtain⟨n,c4,e4,hn,k4⟩:=gI c3 [0,1,54,55,-1] _ k3 (by omega) (by simp) (by simp)
  have hst:=FU hk n;refine⟨f.set k (f[k].1,n),c4,?_,⟨by rw [HH];omega,fun x hx=>?_,fun x hx=>?_⟩,k4.mono (by omega)⟩
  ·rw [if_pos q1]
   simp -implicitDefEqProofs only [ao,Hg,Hh,Hi,e4,hr,tZ,Ie,hst]
  ·rcases mG hx with hx | rfl
   ·exact hfd.sz x hx
   ·have:=hfd.sz _ (Hp hk)
    exact this
  ·rcases mG hx with hx | rfl
   ·exact hfd.lo x hx
   ·simp only [Ia,Ii,or_false] at hn
    show -1≤n∧n≤100
    omega
 rw [if_neg q1];by_cases q2:q=2
 ·refine⟨[],c3,?_,⟨by simp,by simp,by simp⟩,k3.mono (by omega)⟩
  rw [if_pos q2]
 rw [if_neg q2];by_cases q3:q=3
 ·rw [if_pos q3]
  obtain⟨v,c4,e4,l4,u4,k4⟩:=eE c3 2 _ k3 (by omega) (by omega);obtain⟨v,rfl⟩:=Hm l4;have hw:Hk.wrap (32+(v:Int))=((32+v:Nat):Int):=by rw [wrap_id (by omega) (by omega)];omega
  simp -implicitDefEqProofs only [ao,Hg,Hh,Hi,e4,hw];refine cT (fun X=>∃f c',X=some (.ret [srs f] [aU c'])∧Fd f∧c'.ok (B+200)) (fun a:List Srt=>[aU c4,srs a,I ((32+v:Nat):Int)])
   (fun a=>a.length≤32+v∧Fd a) (fun a=>40 - a.length) (fun o=>∃(f:List Srt),o = .ext 1 [aU c4,srs f]∧Fd f) ?_ [] ⟨by simp,⟨by simp,by simp,by simp⟩⟩ rfl ?_
  ·rintro a ⟨g1,g2⟩
   by_cases hn:a.length<32+v
   ·have hn':(a.length:Int)<((32+v:Nat):Int):=by omega
    obtain⟨r1,r2,r3,r4,r5,r6,r7,r8⟩:=Fl a.length (by omega);have ho:aA 2 [.agg [T (two a.length),I 9]]=some (srs [(two a.length,9)]):=zI _ _;have ha:=AV (l:=a) (m:=[(two a.length,9)]) (by simp only [Hu];omega);refine .inl ⟨a++[(two a.length,9)],?_,⟨by simp;omega,⟨by simp;omega,fun x hx=>?_,fun x hx=>?_⟩⟩,by simp;omega⟩
    ·simp -implicitDefEqProofs only [ao,Hg,Hh,Hi,hn',r1,r2,r3,r4,r5,r6,r7,r8,vS,ho,wD,ha]
    ·rcases Hz.1 hx with hx | hx
     ·exact g2.sz x hx
     ·rw [Hv.1 hx]
      show 2≤4
      omega
    ·rcases Hz.1 hx with hx | hx
     ·exact g2.lo x hx
     ·rw [Hv.1 hx]
      show(-1:Int)≤9∧(9:Int)≤100
      omega
   ·have hn':¬(a.length:Int)<((32+v:Nat):Int):=by omega
    refine .inr ⟨_,?_,rfl,a,rfl,g2⟩
    simp -implicitDefEqProofs only [ao,Hg,Hh,Hi,hn']
  ·rintro o ⟨a,rfl,g⟩
   refine⟨a,c4,?_,g,k4.mono (by omega)⟩
   simp -implicitDefEqProofs only [ao,Hg,Hh,Hi]
 ·rw [if_neg q3]
  exact⟨f,c3,rfl,hfd,k3.mono (by omega)⟩
theorem DF {l:List ByteArray} {k:Nat} (h:k<l.length) (t:ByteArray):stD 1 (txs l) (.ref k 0) (T t)=some (txs (l.set k t)):=by
 rw [tE (w:=.string l[k]) (by simp [h])];simp [txs,Ig]
theorem Au {l:List ByteArray} {k:Nat} (h:k<l.length):gd 1 (txs l) (I (k:Int))=some (.ref k 0):=by
 rw [tq,if_pos (by simpa using h)]
theorem Ad (s:ByteArray):aA 1 [T s]=some (txs [s]):=by simp [aA,gu]
theorem wn (l:List ByteArray):jM (txs l)=some (txs l):=td fun _=>rfl
theorem Aw {l m:List ByteArray} (h:l.length+m.length≤1048577):gi 1 16 (txs l) (txs m)=some (txs (l++m)):=by
 rw [jC,if_pos (by simp only [HF];omega)];show _=some (D.arr 1 ((l++m).map T))
 rw [Im]
theorem Gw:D.arr 1 []=txs []:=rfl
theorem Af {body:List D→Option Out} {K:Out→Option Out} (B n:Nat) (hn:n≤50) (c0:Cur) (h0:c0.ok B) (Q:Option Out→Prop)
  (hs:∀(c:Cur) (l:List ByteArray),c.ok (B+30*l.length)→l.length<n→∃s c',body [aU c,txs l,I (n:Int)]=some (.nrm [aU c',txs (l++[s]),I (n:Int)])∧s.size≤20∧c'.ok (B+30*(l.length+1)))
  (he:∀(c:Cur) (l:List ByteArray),¬l.length<n→body [aU c,txs l,I (n:Int)]=some (.ext 0 [aU c,txs l,I (n:Int)]))
  (hK:∀(c:Cur) (l:List ByteArray),l.length=n→(∀s∈l,s.size≤20)→c.ok (B+1500)→Q (K (.ext 0 [aU c,txs l,I (n:Int)]))):Q ((aI body [aU c0,txs [],I (n:Int)]).bind K):=by
 refine cT Q (fun a:Cur × List ByteArray=>[aU a.1,txs a.2,I (n:Int)]) (fun a=>a.1.ok (B+30*a.2.length)∧a.2.length≤n∧∀s∈a.2,s.size≤20) (fun a=>n - a.2.length)
  (fun o=>∃(c:Cur) (l:List ByteArray),o = .ext 0 [aU c,txs l,I (n:Int)]∧l.length=n∧(∀s∈l,s.size≤20)∧c.ok (B+1500)) ?_ (c0,[]) ⟨h0.mono (by simp),by simp,by simp⟩ rfl ?_
 ·rintro⟨c,l⟩ ⟨h1,h2,h3⟩
  simp only at h1 h2 h3;by_cases hlt:l.length<n
  ·obtain⟨s,c',e,k1,k2⟩:=hs c l h1 hlt
   refine .inl ⟨(c',l++[s]),e,⟨by simpa using k2,by simp;omega,fun x hx=>?_⟩,by simp;omega⟩
   rcases Hz.1 hx with hx | hx
   ·exact h3 x hx
   ·rw [Hv.1 hx];exact k1
  ·exact .inr ⟨_,he c l hlt,rfl,c,l,rfl,by omega,h3,h1.mono (by omega)⟩
 ·rintro o ⟨c,l,rfl,g1,g2,g3⟩
  exact hK c l g1 g2 g3
theorem EC (c:Cur) (B:Nat) (h:c.ok B) (hB:B≤700000000):∃(l:List ByteArray) (c':Cur),dL [aU c]=some (.ret [txs l] [aU c'])∧WIn l∧c'.ok (B+2000):=by
 rw [nX];obtain⟨v,c1,e1,l1,u1,k1⟩:=eE c 6 B h (by omega) (by omega);obtain⟨v,rfl⟩:=Hm l1;obtain⟨b,c2,e2,k2⟩:=vp c1 16 _ k1 (by omega) (by omega);have step:∀(B':Nat) (c:Cur) (l:List ByteArray),B'≤800000000→c.ok B'→l.length≤60→∃s c',bm [aU c]=some (.ret [T s] [aU c'])∧s.size≤20∧c'.ok (B'+20)∧aA 1 [T s]=some (txs [s])∧gi 1 16 (txs l) (txs [s])=some (txs (l++[s])):=by
  intro B' c l h1 h2 h3;obtain⟨s,c',e,hs,hc⟩:=DX c B' h2 (by omega);exact⟨s,c',e,by have:=hs.sz;omega,hc,Ad s,Aw (by simp only [Hu];omega)⟩
 have fin:∀(c:Cur) (l:List ByteArray) (n:Nat),l.length=n→0<n→n≤60→c.ok (B+1600)→∃(b:Bool) (c3:Cur) (k:Nat) (c4:Cur) (w:ByteArray) (c5:Cur),aK [aU c,I 16]=some (.ret [.v (.bool b)] [aU c3])∧c3.ok (B+1700)∧an [aU c3,I (n:Int)]=some (.ret [I (k:Int)] [aU c4])∧k<n∧bH [aU c4]=some (.ret [T w] [aU c5])∧w.size≤20∧c5.ok (B+1900):=by
  intro c l n h1 h2 h3 h4;obtain⟨b,c3,e3,k3⟩:=vp c 16 _ h4 (by omega) (by omega);obtain⟨k,c4,e4,l4,u4,k4⟩:=eE c3 (n:Int) _ k3 (by omega) (by omega);obtain⟨k,rfl⟩:=Hm l4;obtain⟨w,c5,e5,h5,k5⟩:=Bs c4 _ k4 (by omega);exact⟨b,c3,k,c4,w,c5,e3,k3.mono (by omega),e4,by omega,e5,h5.sz,k5.mono (by omega)⟩
 simp -implicitDefEqProofs only [ao,Hg,Hh,Hi,e1,e2,Gw];cases b
 ·simp -implicitDefEqProofs only [ao,Hg,Hh,Hi]
  refine Af (B+10) v (by omega) c2 (k2.mono (by omega)) (fun X=>∃(l:List ByteArray) (c':Cur),X=some (.ret [txs l] [aU c'])∧WIn l∧c'.ok (B+2000)) (fun c l h1 hlt=>?_) (fun c l hlt=>?_) (fun c l h1 h2 h3=>?_)
  ·obtain⟨s,c',g1,g2,g3,g4,g5⟩:=step _ c l (by omega) h1 (by omega)
   have hlt':(l.length:Int)<(v:Int):=by omega
   refine⟨s,c',?_,g2,g3.mono (by omega)⟩
   simp -implicitDefEqProofs only [ao,Hg,Hh,Hi,hlt',g1,g4,wn,g5]
  ·have hlt':¬(l.length:Int)<(v:Int):=by omega
   simp -implicitDefEqProofs only [ao,Hg,Hh,Hi,hlt']
  ·have hwi:WIn l:=⟨by omega,fun s hs=>by have:=h2 s hs;omega⟩
   by_cases hv:0<v
   ·have hv':(0:Int)<(v:Int):=by omega
    obtain⟨b,c3,k,c4,w,c5,g1,g2,g3,g4,g5,g6,g7⟩:=fin c l v h1 hv (by omega) (h3.mono (by omega));cases b
    ·refine⟨l,c3,?_,hwi,g2.mono (by omega)⟩
     simp -implicitDefEqProofs only [ao,Hg,Hh,Hi,hv',g1]
    ·have hr:=Au (l:=l) (k:=k) (by omega)
     have hst:=DF (l:=l) (k:=k) (by omega) w;refine⟨l.set k w,c5,?_,⟨by rw [HH];omega,fun s hs=>?_⟩,g7.mono (by omega)⟩
     ·simp -implicitDefEqProofs only [ao,Hg,Hh,Hi,hv',g1,g3,g5,hr,hst]
     ·rcases mG hs with hs | rfl
      ·exact hwi.sz s hs
      ·omega
   ·have hv':¬(0:Int)<(v:Int):=by omega
    refine⟨l,c,?_,hwi,h3.mono (by omega)⟩
    simp -implicitDefEqProofs only [ao,Hg,Hh,Hi,hv']
 ·obtain⟨x,c3,e3,l3,u3,k3⟩:=eE c2 2 _ k2 (by omega) (by omega)
  obtain⟨x,rfl⟩:=Hm l3;have hx:x<2:=by omega
  have hw:Hk.wrap (40+(x:Int))=((40+x:Nat):Int):=by rw [wrap_id (by omega) (by omega)];omega
  simp -implicitDefEqProofs only [ao,Hg,Hh,Hi,e3,hw];refine Af (B+10) (40+x) (by omega) c3 (k3.mono (by omega)) (fun X=>∃(l:List ByteArray) (c':Cur),X=some (.ret [txs l] [aU c'])∧WIn l∧c'.ok (B+2000)) (fun c l h1 hlt=>?_) (fun c l hlt=>?_) (fun c l h1 h2 h3=>?_)
  ·obtain⟨s,c',g1,g2,g3,g4,g5⟩:=step _ c l (by omega) h1 (by omega)
   have hlt':(l.length:Int)<((40+x:Nat):Int):=by omega
   refine⟨s,c',?_,g2,g3.mono (by omega)⟩
   simp -implicitDefEqProofs only [ao,Hg,Hh,Hi,hlt',g1,g4,wn,g5]
  ·have hlt':¬(l.length:Int)<((40+x:Nat):Int):=by omega
   simp -implicitDefEqProofs only [ao,Hg,Hh,Hi,hlt']
  ·have hwi:WIn l:=⟨by omega,fun s hs=>by have:=h2 s hs;omega⟩
   have hv':(0:Int)<((40+x:Nat):Int):=by omega
   obtain⟨b,c3,k,c4,w,c5,g1,g2,g3,g4,g5,g6,g7⟩:=fin c l (40+x) h1 (by omega) (by omega) (h3.mono (by omega));cases b
   ·refine⟨l,c3,?_,hwi,g2.mono (by omega)⟩
    simp -implicitDefEqProofs only [ao,Hg,Hh,Hi,hv',g1]
   ·have hr:=Au (l:=l) (k:=k) (by omega)
    have hst:=DF (l:=l) (k:=k) (by omega) w;refine⟨l.set k w,c5,?_,⟨by rw [HH];omega,fun s hs=>?_⟩,g7.mono (by omega)⟩
    ·simp -implicitDefEqProofs only [ao,Hg,Hh,Hi,hv',g1,g3,g5,hr,hst]
    ·rcases mG hs with hs | rfl
     ·exact hwi.sz s hs
     ·omega
set_option maxRecDepth 100000
theorem BI {α β:Type} (f:Nat→α→β→α) (l:List β) (Inv:Nat→α→Prop) (hs:∀(i:Nat) (a:α) (hi:i<l.length),Inv i a→Inv (i+1) (f i a l[i])) (a:α) (h0:Inv 0 a):Inv l.length (qQ f 0 l a):=by
 have key:∀(n i:Nat) (a:α),i+n=l.length→Inv i a→Inv l.length (qQ f i (l.drop i) a):=by
  intro n;induction n with
  | zero =>
   intro i a hi hI;have:i=l.length:=by omega
   subst this;rw [List.drop_length];exact hI
  | succ n ih =>
   intro i a hi hI;have hlt:i<l.length:=by omega
   rw [List.drop_eq_getElem_cons hlt];exact ih (i+1) _ (by omega) (hs i a hlt hI)
 simpa using key l.length 0 a (by omega) h0
def Pre (c:ByteArray) (w:List UInt8):Prop:=w.take (aj c).length=aj c
instance (c:ByteArray) (w:List UInt8):Decidable (Pre c w):=by unfold Pre;infer_instance
theorem Pre.len {c:ByteArray} {w:List UInt8} (h:Pre c w):(aj c).length≤w.length:=by
 have:=congrArg List.length h;rw [Ij] at this;omega
theorem fo (s p:ByteArray):dz [T s,T p]=some (.ret [B (decide (Pre p (aj s)))] []):=by
 have e:bk [T s,T p]=some (.ret [B (decide (Pre p (aj s)))] []):=by
  rw [fO];by_cases h:p.size≤s.size
  ·have hs:=zx (z:=0) (HU p.size) h
   have hp:(s.extract 0 p.size=p)↔Pre p (aj s):=by
    constructor
    ·intro h'
     have:=congrArg aj h';rw [ec,HY] at this;exact this
    ·intro h'
     refine gp ?_
     rw [ec,HY];exact h'
   have h0:fZ true 0 (T s) (D.v (.int .i64 0)) (I (p.size:Int))=some (T (s.extract 0 p.size)):=hs;by_cases hq:Pre p (aj s)
   ·simp -implicitDefEqProofs [h,h0,hq,hp.2 hq]
   ·have hq':¬s.extract 0 p.size=p:=fun e=>hq (hp.1 e)
    simp -implicitDefEqProofs [h,h0,hq,hq']
  ·have hq:¬Pre p (aj s):=fun h'=>h h'.len
   simp -implicitDefEqProofs [h,hq]
 rw [mT];simp -implicitDefEqProofs [e]
def wd (cs:List ByteArray) (w:List UInt8) (i:Nat):Prop:=∃h:i<cs.length,Pre cs[i] w∧∀(j:Nat) (hj:j<cs.length),Pre cs[j] w→(aj cs[j]).length≤(aj cs[i]).length
def pP (cs:List ByteArray) (w:List UInt8):Prop:=∀(j:Nat) (hj:j<cs.length),¬Pre cs[j] w
structure Codes (cs:List ByteArray):Prop where
 len:∀(j:Nat) (hj:j<cs.length),1≤(aj cs[j]).length∧(aj cs[j]).length≤3
 inj:∀(i j:Nat) (hi:i<cs.length) (hj:j<cs.length),cs[i]=cs[j]→i=j
theorem wd.uniq {cs:List ByteArray} {w:List UInt8} (hc:Codes cs) {i j:Nat} (hi:wd cs w i) (hj:wd cs w j):i=j:=by
 obtain⟨h1,p1,m1⟩:=hi;obtain⟨h2,p2,m2⟩:=hj;have e:(aj cs[i]).length=(aj cs[j]).length:=Nat.le_antisymm (m2 i h1 p1) (m1 j h2 p2);refine hc.inj i j h1 h2 (gp ?_)
 rw [←p1,←p2,e]
def BN (cs:List ByteArray) (w:List UInt8) (b:Int):Prop:=(b = -1∧pP cs w)∨∃k:Nat,b=k∧wd cs w k
theorem BN.best {cs:List ByteArray} {w:List UInt8} (hc:Codes cs) {b:Int} (h:BN cs w b) {i:Nat} (hi:wd cs w i):b=i:=by
 rcases h with ⟨_,h⟩ | ⟨k,rfl,h⟩
 ·exact absurd hi.2.1 (h i hi.1)
 ·rw [h.uniq hc hi]
theorem BN.none {cs:List ByteArray} {w:List UInt8} {b:Int} (h:BN cs w b) (hi:pP cs w):b = -1:=by
 rcases h with ⟨h,_⟩ | ⟨k,rfl,h⟩
 ·exact h
 ·exact absurd h.2.1 (hi k h.1)
inductive Sets (cs:List ByteArray):List UInt8→List Nat→Option (List Nat)→Prop where
 | nil {acc:List Nat}:Sets cs [] acc (some acc)
 | fail {w:List UInt8} {acc:List Nat}:w≠[]→pP cs w→Sets cs w acc none
 | step {w:List UInt8} {acc:List Nat} {i:Nat} {r:Option (List Nat)}:w≠[]→wd cs w i→Sets cs (w.drop (aj (cs.getD i HI)).length) (acc++[i]) r→Sets cs w acc r
theorem Ex {cs:List ByteArray} {w:List UInt8} (h:¬pP cs w):∃i,wd cs w i:=by
 have key:∀n,n≤cs.length→(∀(j:Nat) (hj:j<cs.length),j<n→¬Pre cs[j] w)∨∃(i:Nat) (hi:i<cs.length),i<n∧Pre cs[i] w∧∀(j:Nat) (hj:j<cs.length),j<n→Pre cs[j] w→(aj cs[j]).length≤(aj cs[i]).length:=by
  intro n;induction n with
  | zero=>exact fun _=>.inl fun j _ hj=>absurd hj (by omega)
  | succ n ih =>
   intro hn;by_cases hp:Pre cs[n] w
   ·rcases ih (by omega) with h | ⟨i,hi,h1,h2,h3⟩
    ·refine .inr ⟨n,by omega,by omega,hp,fun j hj hjn hpj=>?_⟩
     rcases Hr j n with h' | h'
     ·exact absurd hpj (h j hj h')
     ·have:j=n:=by omega
      subst this;exact Hy _
    ·by_cases hl:(aj cs[n]).length≤(aj cs[i]).length
     ·refine .inr ⟨i,hi,by omega,h2,fun j hj hjn hpj=>?_⟩
      rcases Hr j n with h' | h'
      ·exact h3 j hj h' hpj
      ·have:j=n:=by omega
       subst this;exact hl
     ·refine .inr ⟨n,by omega,by omega,hp,fun j hj hjn hpj=>?_⟩
      rcases Hr j n with h' | h'
      ·exact Ib (h3 j hj h' hpj) (by omega)
      ·have:j=n:=by omega
       subst this;exact Hy _
   ·rcases ih (by omega) with h | ⟨i,hi,h1,h2,h3⟩
    ·refine .inl fun j hj hjn hpj=>?_
     rcases Hr j n with h' | h'
     ·exact h j hj h' hpj
     ·have:j=n:=by omega
      subst this;exact hp hpj
    ·refine .inr ⟨i,hi,by omega,h2,fun j hj hjn hpj=>?_⟩
     rcases Hr j n with h' | h'
     ·exact h3 j hj h' hpj
     ·have:j=n:=by omega
      subst this;exact absurd hpj hp
 rcases key cs.length (Hy _) with h' | ⟨i,hi,_,h2,h3⟩
 ·exact absurd (fun j hj=>h' j hj hj) h
 ·exact⟨i,hi,h2,fun j hj=>h3 j hj hj⟩
theorem rV {cs:List ByteArray} {i:Nat} (h:i<cs.length):cs.getD i HI=cs[i]:=by
 simp [List.getD_eq_getElem?_getD,h]
theorem tr {cs:List ByteArray} (hc:Codes cs):∀(n:Nat) (w:List UInt8) (acc:List Nat),w.length≤n→∃r,Sets cs w acc r
 | 0,w,acc,h=>by
  have:w=[]:=List.eq_nil_of_length_eq_zero (by omega);subst this;exact⟨_,.nil⟩
 | n+1,w,acc,h=>by
  by_cases hw:w=[]
  ·subst hw
   exact⟨_,.nil⟩
  ·by_cases hN:pP cs w
   ·exact⟨_,.fail hw hN⟩
   ·obtain⟨i,hi⟩:=Ex hN
    have h1:=hc.len i hi.1;obtain⟨r,hr⟩:=tr hc n (w.drop (aj (cs.getD i HI)).length) (acc++[i]) (by
     rw [rV hi.1,Hx];have:0<w.length:=HJ.2 hw;omega)
    exact⟨r,.step hw hi hr⟩
theorem Ej {cs:List ByteArray} (hc:Codes cs) {w:List UInt8} {acc:List Nat} {r:Option (List Nat)} (h:Sets cs w acc r):(∀i∈acc,i<cs.length)→∀l,r=some l→(∀i∈l,i<cs.length)∧l.length≤acc.length+w.length:=by
 induction h with
 | nil =>
  intro h l e;cases e;exact⟨h,by simp⟩
 | fail=>intro _ l e;cases e
 | step hw hb _ ih =>
  rename_i w acc i r _;intro h l e;obtain⟨h1,h2⟩:=ih (fun j hj=>by
   rcases Hz.1 hj with hj | hj
   ·exact h j hj
   ·simp at hj
    subst hj;exact hb.1) l e
  refine⟨h1,?_⟩
  rw [Ih,Hu,Hx,rV hb.1] at h2;have:=hc.len i hb.1;have:=hb.2.1.len;omega
theorem vl {cs:List ByteArray} (hc:Codes cs) {body:List D→Option Out} (w:List UInt8) (st:Nat→List Nat→List D) (fin:Option (List Nat)→Out) (hfin:∀r,(fin r).ends=true)
  (h0:∀acc,acc.length≤w.length→body (st w.length acc)=some (fin (some acc))) (hf:∀at_ acc,at_<w.length→acc.length≤at_→pP cs (w.drop at_)→body (st at_ acc)=some (fin none))
  (hs:∀at_ acc i (hb:wd cs (w.drop at_) i),at_<w.length→acc.length≤at_→at_+(aj (cs[i]'hb.1)).length≤w.length→body (st at_ acc)=some (.nrm (st (at_+(aj (cs[i]'hb.1)).length) (acc++[i])))) {rest:List UInt8} {acc:List Nat} {r:Option (List Nat)} (h:Sets cs rest acc r) :
  ∀at_,at_≤w.length→acc.length≤at_→rest=w.drop at_→Runs body (st at_ acc) (fin r):=by
 induction h with
 | nil =>
  intro at_ h1 h2 h3;have:=congrArg List.length h3;rw [Hx,List.length_nil] at this;have:at_=w.length:=by omega
  subst this;exact Runs.one (h0 _ h2) (hfin _)
 | fail hw hN =>
  intro at_ h1 h2 h3;subst h3;have:at_<w.length:=by
   rcases Hr at_ w.length with h | h
   ·exact h
   ·exact absurd (HV h) hw
  exact Runs.one (hf at_ _ this h2 hN) (hfin _)
 | step hw hb _ ih =>
  rename_i w' acc i r _;intro at_ h1 h2 h3;subst h3;have hlt:at_<w.length:=by
   rcases Hr at_ w.length with h | h
   ·exact h
   ·exact absurd (HV h) hw
  have hl:=hb.2.1.len;rw [Hx] at hl;have h1':=hc.len i hb.1;rw [rV hb.1] at ih;refine .nrm (hs at_ acc i hb hlt h2 (by omega)) (ih _ (by omega) (by rw [Ih,Hu];omega) ?_)
  rw [Io]
set_option maxRecDepth 100000
abbrev so (σ:ByteArray→Int) (c:ByteArray):D:=.agg [T c,I (σ c)]
abbrev fD (σ:ByteArray→Int) (cs:List ByteArray):D:=.arr 2 (cs.map (so σ))
abbrev fy (l:List Nat):D:=.arr 1 (l.map fun(i:Nat)=>I (i:Int))
theorem xe (l:List Nat) (i:Nat) (h:l.length≤1048576):gi 1 8 (fy l) (.arr 1 [I (i:Int)])=some (fy (l++[i])):=by
 rw [jC,if_pos (by simp only [HF,Hu];omega)];simp
theorem yc (i:Nat):aA 1 [I (i:Int)]=some (.arr 1 [I (i:Int)]):=by simp [aA,gu]
theorem xu (i:Nat):jM (.arr 1 [I (i:Int)])=some (.arr 1 [I (i:Int)]):=by simp [jM,D.isV]
theorem sR {β:Type} {p:β→Bool}:∀{l:List β} {i j:Nat},kr p i l=some j→i≤j∧∃h:j - i<l.length,p l[j - i]=true
 | [],i,j,h=>by simp [kr] at h
 | x::l,i,j,h=>by
  simp only [kr] at h;split at h
  ·rename_i hp
   cases h;exact⟨Hy _,by simp,by simpa using hp⟩
  ·obtain⟨h1,h2,h3⟩:=sR h
   refine⟨by omega,by simp;omega,?_⟩
   have:j - i=(j - (i+1))+1:=by omega
   simp only [this,List.getElem_cons_succ];exact h3
theorem sD {β:Type} {p:β→Bool}:∀{l:List β} {i:Nat},kr p i l=none→∀(j:Nat) (hj:j<l.length),p l[j]=false
 | [],i,_,j,hj=>by simp at hj
 | x::l,i,h,j,hj=>by
  simp only [kr] at h;split at h
  ·cases h
  ·rename_i hp
   cases j with
   | zero=>simpa using hp
   | succ j=>exact sD h j (by simpa using hj)
def fC (cs:List ByteArray) (c:ByteArray):Int:=(kr (fun b:ByteArray=>decide (b=c)) 0 cs).elim (-1) fun j=>(j:Int)
theorem BE (σ:ByteArray→Int) (cs:List ByteArray) (c:ByteArray) (h:cs.length≤1048576):eX [fD σ cs,T c]=some (.ret [I (fC cs c)] []):=by
 rw [uo];simp only [jo,HF,Hl];refine aG _ (BW cs (fun i=>[T c,fD σ cs,I cs.length,I i]) (fun b:ByteArray=>decide (b=c)) (fun j=>.ret [I j] []) (.ext 0 []) (fun i hi=>?_) ?_ (fun _=>rfl) rfl rfl) ?_
 ·have hw:Hk.wrap ((i:Int)+1)=(i:Int)+1:=wrap_id (by omega) (by omega)
  by_cases hc:cs[i]=c<;>simp -implicitDefEqProofs [hi,hw,hc]
 ·simp
 ·unfold fC
  cases kr (fun b:ByteArray=>decide (b=c)) 0 cs<;>simp -implicitDefEqProofs
theorem GE {cs:List ByteArray} {c:ByteArray}:(fC cs c = -1∧∀(j:Nat) (hj:j<cs.length),cs[j]≠c)∨∃(j:Nat) (hj:j<cs.length),fC cs c=j∧cs[j]=c:=by
 unfold fC;cases h:kr (fun b:ByteArray=>decide (b=c)) 0 cs with
 | none=>exact .inl ⟨rfl,fun j hj=>by simpa using sD h j hj⟩
 | some j =>
  obtain⟨_,h1,h2⟩:=sR h;exact .inr ⟨j,by simpa using h1,rfl,by simpa using h2⟩
theorem tO (a b:Int):eI [I a,I b]=some (.ret [I (if a<b then a else b)] []):=by
 rw [tI];by_cases h:a<b<;>simp -implicitDefEqProofs [h]
def rG (r:Option (List Nat)):Out:=match r with
 | some l=>.ext 0 [fy l]
 | none=>.ret [fy [],B false] []
def nA (r:Option (List Nat)):Option Out:=some (.ret [fy (r.getD []),B r.isSome] [])
theorem qS (σ:ByteArray→Int) {cs:List ByteArray} (hc:Codes cs) (hl:cs.length≤1048576) (s:ByteArray) (hs:s.size≤1000) (at_:Nat) (acc:List Nat) (hlt':at_<s.size):∃m:Nat,eI [I 3,I ((s.size - at_:Nat):Int)]=some (.ret [I m] []) ∧
  ∀(R:Option Out→Prop) (body:List D→Option Out) (K:Out→Option Out),(∀(b:Int) (n:Nat),body [fD σ cs,T s,fy acc,I at_,I b,I n]=if 0<n∧b<0 then(((some (Hk.wrap ((at_:Int)+n)):Option Int).bind fun e=>fZ true 0 (T s) (I at_) (I e)).bind fun z=>ai (eX [fD σ cs,z]) fun rs _=>some (.nrm [fD σ cs,T s,fy acc,I at_,sl rs 0,I (Hk.wrap ((n:Int) - 1))])) else some (.ext 2 [fD σ cs,T s,fy acc,I at_,I b])) →
    (∀b,BN cs ((aj s).drop at_) b→R (K (.ext 2 [fD σ cs,T s,fy acc,I at_,I b])))→R ((aI body [fD σ cs,T s,fy acc,I at_,I (-1),I m]).bind K):=by
 have hsz:s.size=(aj s).length:=rfl;obtain⟨m,hm1,hm2,hm3⟩:∃m:Nat,(if (3:Int)<((s.size - at_:Nat):Int) then(3:Int) else((s.size - at_:Nat):Int))=m∧m≤3∧(at_+m≤s.size∧(m=3∨at_+m=s.size)):=by
  by_cases h3:(3:Int)<((s.size - at_:Nat):Int)
  ·exact⟨3,by rw [if_pos h3];rfl,by omega,by omega,.inl rfl⟩
  ·exact⟨s.size - at_,by rw [if_neg h3],by omega,by omega,.inr (by omega)⟩
 have el:=tO 3 ((s.size - at_:Nat):Int);rw [hm1] at el;refine⟨m,el,?_⟩
 intro R body K hbody hK;refine cT R (fun a:Int × Nat=>[fD σ cs,T s,fy acc,I at_,I a.1,I a.2]) (fun a=>a.2≤3∧at_+a.2≤s.size∧((a.1 = -1∧∀(j:Nat) (hj:j<cs.length),Pre cs[j] ((aj s).drop at_)→(aj cs[j]).length≤a.2)∨∃k:Nat,a.1=k∧wd cs ((aj s).drop at_) k)) (fun a=>a.2)
  (fun o=>∃b,o = .ext 2 [fD σ cs,T s,fy acc,I at_,I b]∧BN cs ((aj s).drop at_) b) (fun a hI=>?_) (-1,m) ⟨hm2,hm3.1,.inl ⟨rfl,fun j hj hp=>?_⟩⟩ rfl (fun o ho=>?_)
 ·obtain⟨b,n⟩:=a
  obtain⟨i1,i2,i3⟩:=hI;simp only at i1 i2 i3;rw [hbody];by_cases hcond:0<n∧b<0
  ·rw [if_pos hcond]
   have hwn:Hk.wrap ((at_:Int)+n)=((at_+n:Nat):Int):=by rw [wrap_id (by omega) (by omega)];omega
   have hwm:Hk.wrap ((n:Int) - 1)=((n - 1:Nat):Int):=by rw [wrap_id (by omega) (by omega)];omega
   have hsl:=zx (s:=s) (z:=0) (i:=at_) (j:=at_+n) (by omega) (by omega);have hch:aj (s.extract at_ (at_+n))=((aj s).drop at_).take n:=by
    rw [ec,List.drop_take];congr 1
    omega
   simp only [Hl,hwn,hwm,hsl,BE σ cs _ hl,dC,dc];rcases i3 with ⟨rfl,hmax⟩ | ⟨k,rfl,_⟩
   ·refine .inl ⟨(fC cs (s.extract at_ (at_+n)),n - 1),rfl,⟨by simp only;omega,by simp only;omega,?_⟩,by simp only;omega⟩
    simp only;rcases GE (cs:=cs) (c:=s.extract at_ (at_+n)) with ⟨e1,e2⟩ | ⟨j,hj,e1,e2⟩
    ·refine .inl ⟨e1,fun j hj hp=>?_⟩
     have h1:=hmax j hj hp;rcases Hr (aj cs[j]).length n with h' | h'
     ·omega
     ·exfalso
      have:(aj cs[j]).length=n:=by omega
      refine e2 j hj (gp ?_)
      rw [hch,←hp,this]
    ·have hln:(aj cs[j]).length=n:=by
      rw [e2,hch,Ij,Hx];omega
     refine .inr ⟨j,e1,hj,?_,fun j' hj' hp'=>by rw [hln];exact hmax j' hj' hp'⟩
     unfold Pre;rw [hln,e2,hch]
   ·omega
  ·rw [if_neg hcond]
   refine .inr ⟨_,rfl,rfl,b,rfl,?_⟩
   rcases i3 with ⟨rfl,hmax⟩ | ⟨k,rfl,hk⟩
   ·refine .inl ⟨rfl,fun j hj hp=>?_⟩
    have h1:=hmax j hj hp;have h2:=(hc.len j hj).1;omega
   ·exact .inr ⟨k,rfl,hk⟩
 ·have h1:=(hc.len j hj).2
  have h2:=hp.len;rw [Hx] at h2;simp only;omega
 ·obtain⟨b,rfl,hb⟩:=ho
  exact hK b hb
theorem wM (σ:ByteArray→Int) {cs:List ByteArray} (hc:Codes cs) (hl:cs.length≤1048576) (s:ByteArray) (hs:s.size≤1000) {r:Option (List Nat)} (h:Sets cs (aj s) [] r):fJ [fD σ cs,T s]=nA r:=by
 rw [wt];have hsz:s.size=(aj s).length:=rfl;refine aG (rG r) (Runs.loop (vl hc (aj s) (fun at_ acc=>[fD σ cs,T s,fy acc,I at_]) rG (fun r=>by cases r<;>rfl) (fun acc ha=>?_) (fun at_ acc hlt ha hN=>?_) (fun at_ acc i hb hlt ha hle=>?_) h 0 (HU _) (by simp) (by simp))) ?_
 ·simp -implicitDefEqProofs [hsz,rG]
 ·have hw0:Hk.wrap ((s.size:Int) - at_)=((s.size - at_:Nat):Int):=by rw [wrap_id (by omega) (by omega)];omega
  have hlt':at_<s.size:=by omega
  obtain⟨m,el,inner⟩:=qS σ hc hl s hs at_ acc hlt';simp -implicitDefEqProofs [hlt',hw0,el];refine inner (fun X=>X=some (rG none)) _ _ (fun b n=>?_) (fun b hb=>?_)
  ·by_cases h1:0<n<;>by_cases h2:b<0<;>simp -implicitDefEqProofs [h1,h2]
  ·have:=hb.none hN
   subst this;simp -implicitDefEqProofs [rG]
 ·have hw0:Hk.wrap ((s.size:Int) - at_)=((s.size - at_:Nat):Int):=by rw [wrap_id (by omega) (by omega)];omega
  have hlt':at_<s.size:=by omega
  obtain⟨m,el,inner⟩:=qS σ hc hl s hs at_ acc hlt';simp -implicitDefEqProofs [hlt',hw0,el];refine inner (fun X=>X=some (.nrm [fD σ cs,T s,fy (acc++[i]),I ((at_+(aj (cs[i]'hb.1)).length:Nat):Int)])) _ _ (fun b n=>?_) (fun b hb'=>?_)
  ·by_cases h1:0<n<;>by_cases h2:b<0<;>simp -implicitDefEqProofs [h1,h2]
  ·have:=hb'.best hc hb
   subst this;have hi:=hb.1;have hsl:(cs[i]).size=(aj cs[i]).length:=rfl;have hwa:Hk.wrap ((at_:Int)+(aj cs[i]).length)=(at_:Int)+(aj cs[i]).length:=wrap_id (by omega) (by omega);simp -implicitDefEqProofs [yc,xu,xe acc i (by omega),hi,hsl,hwa,-jC]
 ·cases r<;>simp -implicitDefEqProofs [rG,nA]
set_option maxRecDepth 100000
def qX (cs:List ByteArray) (w:List UInt8) (i:Nat) (b:Int) (c:ByteArray):Int:=if Pre c w∧(b<0∨(aj (cs.getD b.toNat HI)).length<(aj c).length) then i else b
theorem nu (σ:ByteArray→Int) {cs:List ByteArray} (rest:ByteArray) (acc:List Nat) (hl:cs.length≤1048576):∀(R:Option Out→Prop) (body:List D→Option Out) (K:Out→Option Out),
  (∀(i:Nat) (hi:i<cs.length) (b:Int),(b<0∨∃k:Nat,b=k∧k<cs.length)→Hk.wrap ((i:Int)+1)=(i:Int)+1→body [fD σ cs,T rest,fy acc,I b,fD σ cs,I cs.length,I i]=some (.nrm [fD σ cs,T rest,fy acc,I (qX cs (aj rest) i b cs[i]),fD σ cs,I cs.length,I ((i:Int)+1)])) →
  (∀b,body [fD σ cs,T rest,fy acc,I b,fD σ cs,I cs.length,I cs.length]=some (.ext 2 [fD σ cs,T rest,fy acc,I b])) →
  (∀b,BN cs (aj rest) b→R (K (.ext 2 [fD σ cs,T rest,fy acc,I b])))→R ((aI body [fD σ cs,T rest,fy acc,I (-1),fD σ cs,I cs.length,I 0]).bind K):=by
 intro R body K h1 h2 h3;have inv:∀(i:Nat) (b:Int) (hi:i<cs.length),((b = -1∧∀(j:Nat) (hj:j<cs.length),j<i→¬Pre cs[j] (aj rest))∨∃(k:Nat) (hk:k<cs.length),b=k∧Pre cs[k] (aj rest)∧∀(j:Nat) (hj:j<cs.length),j<i→Pre cs[j] (aj rest)→(aj cs[j]).length≤(aj cs[k]).length) →
   ((qX cs (aj rest) i b cs[i] = -1∧∀(j:Nat) (hj:j<cs.length),j<i+1→¬Pre cs[j] (aj rest))∨∃(k:Nat) (hk:k<cs.length),qX cs (aj rest) i b cs[i]=k∧Pre cs[k] (aj rest)∧∀(j:Nat) (hj:j<cs.length),j<i+1→Pre cs[j] (aj rest)→(aj cs[j]).length≤(aj cs[k]).length):=by
  intro i b hi hI;unfold qX;rcases hI with ⟨rfl,hN⟩ | ⟨k,hk,rfl,hp,hmax⟩
  ·by_cases hpi:Pre cs[i] (aj rest)
   ·rw [if_pos ⟨hpi,.inl (by omega)⟩]
    refine .inr ⟨i,hi,rfl,hpi,fun j hj hji hpj=>?_⟩
    rcases Hr j i with h | h
    ·exact absurd hpj (hN j hj h)
    ·have:j=i:=by omega
     subst this;exact Hy _
   ·rw [if_neg (fun h=>hpi h.1)]
    refine .inl ⟨rfl,fun j hj hji hpj=>?_⟩
    rcases Hr j i with h | h
    ·exact hN j hj h hpj
    ·have:j=i:=by omega
     subst this;exact hpi hpj
  ·rw [HN,rV hk]
   by_cases hc:Pre cs[i] (aj rest)∧((k:Int)<0∨(aj cs[k]).length<(aj cs[i]).length)
   ·rw [if_pos hc]
    refine .inr ⟨i,hi,rfl,hc.1,fun j hj hji hpj=>?_⟩
    rcases Hr j i with h | h
    ·have:=hmax j hj h hpj
     omega
    ·have:j=i:=by omega
     subst this;exact Hy _
   ·rw [if_neg hc]
    refine .inr ⟨k,hk,rfl,hp,fun j hj hji hpj=>?_⟩
    rcases Hr j i with h | h
    ·exact hmax j hj h hpj
    ·have:j=i:=by omega
     subst this;rcases Hr (aj cs[k]).length (aj cs[j]).length with h' | h'
     ·exact absurd ⟨hpj,.inr h'⟩ hc
     ·exact h'
 rw [jd (body:=body) (s0:=[fD σ cs,T rest,fy acc,I (-1),fD σ cs,I cs.length,I 0]) cs (fun i b=>[fD σ cs,T rest,fy acc,I b,fD σ cs,I cs.length,I i]) (fun i b=>(b = -1∧∀(j:Nat) (hj:j<cs.length),j<i→¬Pre cs[j] (aj rest))∨∃(k:Nat) (hk:k<cs.length),b=k∧Pre cs[k] (aj rest)∧∀(j:Nat) (hj:j<cs.length),j<i→Pre cs[j] (aj rest)→(aj cs[j]).length≤(aj cs[k]).length)
  (fun i b c=>qX cs (aj rest) i b c) (fun b=>.ext 2 [fD σ cs,T rest,fy acc,I b]) (-1) (fun i b hi hI=>⟨h1 i hi b (by
   rcases hI with ⟨rfl,_⟩ | ⟨k,hk,rfl,_⟩
   ·exact .inl (by omega)
   ·exact .inr ⟨k,rfl,hk⟩) (wrap_id (by omega) (by omega)),inv i b hi hI⟩) (fun b _=>h2 b) (fun _=>rfl) (.inl ⟨rfl,fun j _ hj=>absurd hj (by omega)⟩) rfl]
 have hfin:=BI (fun i b c=>qX cs (aj rest) i b c) cs (fun i b=>(b = -1∧∀(j:Nat) (hj:j<cs.length),j<i→¬Pre cs[j] (aj rest))∨∃(k:Nat) (hk:k<cs.length),b=k∧Pre cs[k] (aj rest)∧∀(j:Nat) (hj:j<cs.length),j<i→Pre cs[j] (aj rest)→(aj cs[j]).length≤(aj cs[k]).length)
  (fun i b hi hI=>inv i b hi hI) (-1) (.inl ⟨rfl,fun j _ hj=>absurd hj (by omega)⟩)
 refine h3 _ ?_
 rcases hfin with ⟨e,hN⟩ | ⟨k,hk,e,hp,hmax⟩
 ·exact .inl ⟨e,fun j hj=>hN j hj hj⟩
 ·exact .inr ⟨k,e,hk,hp,fun j hj=>hmax j hj hj⟩
theorem xA (s:ByteArray):s.extract 0 s.size=s:=by
 refine gp ?_
 rw [ec,HY];exact Ik
theorem gq (s:ByteArray) (at_:Nat):aj (s.extract at_ s.size)=(aj s).drop at_:=by
 rw [ec];congr 1
 exact Ik
theorem pZ (s:ByteArray) (at_:Nat):(s.extract at_ s.size).size=s.size - at_:=by
 show(aj (s.extract at_ s.size)).length=(aj s).length - at_
 rw [gq,Hx]
theorem Bl (s:ByteArray) (at_ n:Nat):(s.extract at_ s.size).extract n (s.extract at_ s.size).size=s.extract (at_+n) s.size:=by
 refine gp ?_
 rw [gq,gq,gq,Io]
theorem sd (σ:ByteArray→Int) {cs:List ByteArray} (hc:Codes cs) (hl:cs.length≤1048576) (s:ByteArray) (hs:s.size≤1000) {r:Option (List Nat)} (h:Sets cs (aj s) [] r):eB [fD σ cs,T s]=nA r:=by
 rw [tJ];have hsz:s.size=(aj s).length:=rfl;simp only [mB,Hl];refine aG (rG r) (Runs.loop (vl hc (aj s) (fun at_ acc=>[fD σ cs,T (s.extract at_ s.size),fy acc]) rG (fun r=>by cases r<;>rfl) (fun acc ha=>?_) (fun at_ acc hlt ha hN=>?_) (fun at_ acc i hb hlt ha hle=>?_) h 0 (HU _) (by simp) (by simp)) |> fun e=>by rw [xA] at e;exact e) ?_
 ·have h0:(s.extract (aj s).length s.size).size=0:=by rw [pZ,hsz];omega
  simp -implicitDefEqProofs [h0,rG]
 ·have h0:=pZ s at_
  have h0':0<s.size - at_:=by omega
  simp -implicitDefEqProofs [h0'];refine nu σ (s.extract at_ s.size) acc hl (fun X=>X=some (rG none)) _ _ (fun i hi b hb hwi=>?_) (fun b=>?_) (fun b hb=>?_)
  ·unfold qX
   by_cases hp:Pre cs[i] (aj (s.extract at_ s.size))
   ·rcases hb with hb | ⟨k,rfl,hk⟩
    ·simp -implicitDefEqProofs [hi,hwi,fo,hp,hb]
    ·have hk':¬(k:Int)<0:=by omega
     have z1:cs[i].size=(aj cs[i]).length:=rfl;have z2:cs[k].size=(aj cs[k]).length:=rfl;by_cases hlt2:(aj cs[k]).length<(aj cs[i]).length<;>simp -implicitDefEqProofs [hi,hwi,fo,hp,hk,hk',z1,z2,hlt2]
   ·simp -implicitDefEqProofs [hi,hwi,fo,hp]
  ·simp -implicitDefEqProofs
  ·rw [gq] at hb
   have:=hb.none hN;subst this;simp -implicitDefEqProofs [rG,mB]
 ·have h0:=pZ s at_
  have h0':0<s.size - at_:=by omega
  simp -implicitDefEqProofs [h0'];refine nu σ (s.extract at_ s.size) acc hl (fun X=>X=some (.nrm [fD σ cs,T (s.extract (at_+(aj (cs[i]'hb.1)).length) s.size),fy (acc++[i])])) _ _ (fun i hi b hb hwi=>?_) (fun b=>?_) (fun b hb'=>?_)
  ·unfold qX
   by_cases hp:Pre cs[i] (aj (s.extract at_ s.size))
   ·rcases hb with hb | ⟨k,rfl,hk⟩
    ·simp -implicitDefEqProofs [hi,hwi,fo,hp,hb]
    ·have hk':¬(k:Int)<0:=by omega
     have z1:cs[i].size=(aj cs[i]).length:=rfl;have z2:cs[k].size=(aj cs[k]).length:=rfl;by_cases hlt2:(aj cs[k]).length<(aj cs[i]).length<;>simp -implicitDefEqProofs [hi,hwi,fo,hp,hk,hk',z1,z2,hlt2]
   ·simp -implicitDefEqProofs [hi,hwi,fo,hp]
  ·simp -implicitDefEqProofs
  ·rw [gq] at hb'
   have:=hb'.best hc hb;subst this;have hi:=hb.1;have hz:(cs[i]).size=(aj cs[i]).length:=rfl;have hsl:=DY (s:=s.extract at_ s.size) (z:=0) (i:=(aj cs[i]).length) (by omega);rw [Bl s at_ _] at hsl;simp -implicitDefEqProofs [yc,xu,xe acc i (by omega),hi,hz,hsl,-jC]
 ·cases r<;>simp -implicitDefEqProofs [rG,nA]
end Go.Proofs.YtepkkkphfmckdaaGreatDoor

namespace Go.Proofs.YtepkkkphfmckdaaGreatDoor
open Go Go.Proofs Go.Shelf Go.RowKit Go.Lib Go.Sort
set_option maxRecDepth 100000
section
variable {P:Program} {α:Type} [Inhabited α] {enc:α→Value} {w0 w1 W:World} {blk off:Nat} {d dk:Array α}
theorem cy (h:SW enc w0 blk off d w1) (hblk:blk<w0.heap.size) (h2:SW enc w1 blk off dk W) (hs:dk.size=d.size):SW enc w0 blk off dk W:=by
 obtain⟨m,os,rfl⟩:=h2;exact h.on hblk m dk os hs
theorem dy (h:SW enc w0 blk off dk W) {a:Addr} (hb:a.block≠blk) (hl:a.block<w0.heap.size):W.cell? a=w0.cell? a:=by
 obtain⟨n,os,rfl⟩:=h;unfold sortWorld;rw [cell?_grow _ _ _ (by rw [size_putRow];exact hl),cell?_putRow_other enc _ blk off dk _ (Or.inl hb)];rfl
def swR (d:Array α) (a b:Nat):Nat→Array α
 | 0=>d
 | n+1=>swp (swR d a b n) (a+n) (b+n)
theorem cd (d:Array α) (a b:Nat):∀n,(swR d a b n).size=d.size
 | 0=>rfl
 | n+1=>by rw [swR,size_swp,cd d a b n]
end
set_option maxHeartbeats 2000000 in
theorem jc {α:Type} [Inhabited α] (enc:α→Value) (lf:Value) (sf:Nat) (sb:Array Value) (blk off a b n:Nat) (d:Array α) (w:World) (hblk:blk<w.heap.size)
  (hswap:SwapSwaps Tryz.prog sf sb enc blk off d.size) (hH:Holds enc w blk off d) (hsz:d.size<1000) (ha:a+n≤d.size) (hb:b+n≤d.size) :
  Calls Tryz.prog 161 #[.agg #[lf,.func (.func sf) #[] sb],.int .i64 (a:Int),.int .i64 (b:Int),.int .i64 (n:Int)] w fun e w' =>
   e = .returned (.tuple #[])∧SW enc w blk off (swR d a b n) w':=by
 have hw1:SW enc w blk off d (w.alloc (.cells #[lf,.func (.func sf) #[] sb] 112)):=(Il hH).alloc _
 go_enter Tryz.func161,Tryz.ntmps161
 go_wp2
 have k1:(w.alloc (.cells #[lf,.func (.func sf) #[] sb] 112)).cell? ⟨w.heap.size,1,none⟩=some (.func (.func sf) #[] sb):=by simp
 have hl1:w.heap.size<(w.alloc (.cells #[lf,.func (.func sf) #[] sb] 112)).heap.size:=by rw [alloc_eq_grow,size_grow];simp
 have hH1:=hw1.holds hblk hH rfl;generalize w.alloc (.cells #[lf,.func (.func sf) #[] sb] 112)=W1 at *;have hb1:blk<W1.heap.size:=Nat.lt_trans hblk hl1;have start1:SW enc W1 blk off d W1:=Il hH1;have kk1:∀dk wr,SW enc W1 blk off dk wr→wr.cell? ⟨w.heap.size,1,none⟩=some (.func (.func sf) #[] sb):=fun dk wr h=>(dy h (show w.heap.size≠blk by omega) hl1).trans k1
 have hold:∀dk wr,dk.size=d.size→SW enc W1 blk off dk wr→Holds enc wr blk off dk:=fun dk wr hs h=>h.holds hb1 hH1 hs
 have toW:∀dk wr,dk.size=d.size→SW enc W1 blk off dk wr→SW enc w blk off dk wr:=fun dk wr hs h=>cy hw1 hblk h hs
 clear k1 hH hH1 hw1
 go_loopw [8] (fun vi wr=>∃(i:Nat),vi = .int .i64 i∧i≤n∧SW enc W1 blk off (swR d a b i) wr) (fun vi _=>n - (intOf vi).toNat)
 case atStart=>exact⟨0,rfl,HU _,start1⟩
 case round =>
  obtain⟨i,rfl,hi,hwr⟩:=hrel;have hsz2:=cd d a b i;have c1:=kk1 _ _ hwr;by_cases hp:i<n
  ·have hpi:(i:Int)<(n:Int):=by omega
   have hs:=hswap wr (swR d a b i) (hold _ _ hsz2 hwr) hsz2 (a+i) (b+i) (by omega) (by omega);rw [show((a+i:Nat):Int)=(a:Int)+i by omega,show((b+i:Nat):Int)=(b:Int)+i by omega] at hs;have hsw:=hwr.swap hb1 (a+i) (b+i) (by omega) (by omega)
   go_wp2
   refine⟨⟨i+1,congrArg (Ho .i64) (by omega),by omega,hsw⟩,?_⟩
   show n - ((i:Int)+1).toNat<n - (i:Int).toNat
   omega
  ·have hpi:¬(i:Int)<(n:Int):=by omega
   have hin:i=n:=by omega
   subst hin
   go_wp2
   go_end0
   exact⟨rfl,toW _ _ hsz2 hwr⟩
end Go.Proofs.YtepkkkphfmckdaaGreatDoor

namespace Go.Proofs.YtepkkkphfmckdaaGreatDoor
open Go Go.Proofs Go.Shelf Go.RowKit Go.Lib Go.Sort
set_option maxRecDepth 100000
def lY {α:Type} [Inhabited α] (m:Nat):Nat→Nat→Nat→Array α→Array α
 | 0,_,_,d=>d
 | k+1,i,j,d=>if i=j then swR d (m - i) m i else if j<i then lY m k (i - j) j (swR d (m - i) m j) else lY m k i (j - i) (swR d (m - i) (m+j - i) i)
set_option maxHeartbeats 2000000 in
theorem xB {α:Type} [Inhabited α] (enc:α→Value) (lf:Value) (sf:Nat) (sb:Array Value) (blk off a m b:Nat) (d:Array α) (w:World) (hblk:blk<w.heap.size)
  (hswap:SwapSwaps Tryz.prog sf sb enc blk off d.size) (hH:Holds enc w blk off d) (hsz:d.size<1000) (h1:a<m) (h2:m<b) (h3:b≤d.size) :
  Calls Tryz.prog 145 #[.agg #[lf,.func (.func sf) #[] sb],.int .i64 (a:Int),.int .i64 (m:Int),.int .i64 (b:Int)] w fun e w' =>
   e = .returned (.tuple #[])∧∃k,b - a≤k∧SW enc w blk off (lY m k (m - a) (b - m) d) w':=by
 have hw1:SW enc w blk off d (w.alloc (.cells #[lf,.func (.func sf) #[] sb] 112)):=(Il hH).alloc _
 go_enter Tryz.func145,Tryz.ntmps145
 go_wp2
 have k0:(w.alloc (.cells #[lf,.func (.func sf) #[] sb] 112)).cell? ⟨w.heap.size,0,none⟩=some lf:=by simp
 have k1:(w.alloc (.cells #[lf,.func (.func sf) #[] sb] 112)).cell? ⟨w.heap.size,1,none⟩=some (.func (.func sf) #[] sb):=by simp
 have hl1:w.heap.size<(w.alloc (.cells #[lf,.func (.func sf) #[] sb] 112)).heap.size:=by rw [alloc_eq_grow,size_grow];simp
 have hH1:=hw1.holds hblk hH rfl;generalize w.alloc (.cells #[lf,.func (.func sf) #[] sb] 112)=W1 at *;have hb1:blk<W1.heap.size:=Nat.lt_trans hblk hl1;have start1:SW enc W1 blk off d W1:=Il hH1;have kk0:∀dk wr,SW enc W1 blk off dk wr→wr.cell? ⟨w.heap.size,0,none⟩=some lf:=fun dk wr h=>(dy h (show w.heap.size≠blk by omega) hl1).trans k0
 have kk1:∀dk wr,SW enc W1 blk off dk wr→wr.cell? ⟨w.heap.size,1,none⟩=some (.func (.func sf) #[] sb):=fun dk wr h=>(dy h (show w.heap.size≠blk by omega) hl1).trans k1
 have hold:∀dk wr,dk.size=d.size→SW enc W1 blk off dk wr→Holds enc wr blk off dk:=fun dk wr hs h=>h.holds hb1 hH1 hs
 have toW:∀dk wr,dk.size=d.size→SW enc W1 blk off dk wr→SW enc w blk off dk wr:=fun dk wr hs h=>cy hw1 hblk h hs
 clear k0 k1 hH hH1 hw1
 go_loopw [8,9] (fun vi vj wr=>∃(i j k:Nat) (dk:Array α),vi = .int .i64 i∧vj = .int .i64 j∧0<i∧0<j∧a+i≤m∧m+j≤b∧i+j≤k∧dk.size=d.size∧SW enc W1 blk off dk wr∧∃k0,b - a≤k0∧lY m k i j dk=lY m k0 (m - a) (b - m) d) (fun vi vj _=>(intOf vi).toNat+(intOf vj).toNat)
 case atStart=>exact⟨m - a,b - m,b - a,d,congrArg (Ho .i64) (by omega),congrArg (Ho .i64) (by omega),by omega,by omega,by omega,by omega,by omega,rfl,start1,b - a,Hy _,rfl⟩
 case round =>
  obtain⟨i,j,k,dk,rfl,rfl,hi,hj,hai,hjb,hk,hs,hwr,hrot⟩:=hrel;have c0:=kk0 _ _ hwr;have c1:=kk1 _ _ hwr;have hsw:=hs ▸ hswap;have hbw:blk<wr.heap.size:=Nat.lt_of_lt_of_le hb1 hwr.le;have hho:=hold _ _ hs hwr;obtain⟨k0,hk0,hrot⟩:=hrot;obtain⟨k,rfl⟩:∃k',k=k'+1:=⟨k - 1,by omega⟩
  have HR:Hid (lY m (k+1) i j dk=lY m k0 (m - a) (b - m) d):=hrot;clear hrot;by_cases he:i=j
  ·subst he
   have hc:=jc enc lf sf sb blk off (m - i) m i dk wr hbw hsw hho (by omega) (by omega) (by omega);rw [show((m - i:Nat):Int)=(m:Int) - i by omega] at hc
   go_wp2_with (go_at_call 161;refine hc.mono ?_;rintro e w' ⟨rfl,hx⟩)
   go_end0
   refine⟨rfl,k0,hk0,?_⟩
   rw [←HR.out,lY,if_pos rfl];exact toW _ _ (by rw [cd];exact hs) (cy hwr hb1 hx (by rw [cd]))
  ·have hei:¬(i:Int)=(j:Int):=by omega
   by_cases hl:j<i
   ·have hli:(j:Int)<(i:Int):=by omega
    have hc:=jc enc lf sf sb blk off (m - i) m j dk wr hbw hsw hho (by omega) (by omega) (by omega);rw [show((m - i:Nat):Int)=(m:Int) - i by omega] at hc
    go_wp2_with (go_at_call 161;refine hc.mono ?_;rintro e w' ⟨rfl,hx⟩)
    refine⟨⟨i - j,j,k,swR dk (m - i) m j,congrArg (Ho .i64) (by omega),rfl,by omega,by omega,by omega,by omega,by omega,by rw [cd];exact hs,cy hwr hb1 hx (by rw [cd]),k0,hk0,?_⟩,?_⟩
    ·rw [←HR.out,lY,if_neg he,if_pos hl]
    ·show((i:Int) - j).toNat+(j:Int).toNat<(i:Int).toNat+(j:Int).toNat
     omega
   ·have hli:¬(j:Int)<(i:Int):=by omega
    have hc:=jc enc lf sf sb blk off (m - i) (m+j - i) i dk wr hbw hsw hho (by omega) (by omega) (by omega);rw [show((m - i:Nat):Int)=(m:Int) - i by omega,show((m+j - i:Nat):Int)=(m:Int)+j - i by omega] at hc
    go_wp2_with (go_at_call 161;refine hc.mono ?_;rintro e w' ⟨rfl,hx⟩)
    refine⟨⟨i,j - i,k,swR dk (m - i) (m+j - i) i,rfl,congrArg (Ho .i64) (by omega),by omega,by omega,by omega,by omega,by omega,by rw [cd];exact hs,cy hwr hb1 hx (by rw [cd]),k0,hk0,?_⟩,?_⟩
    ·rw [←HR.out,lY,if_neg he,if_neg hl]
    ·show(i:Int).toNat+((j:Int) - i).toNat<(i:Int).toNat+(j:Int).toNat
     omega
end Go.Proofs.YtepkkkphfmckdaaGreatDoor

end
