/-
  A part of the proof: contracts and plain forms of functions beneath the statement, made small by a program (names shortened, what is not needed left out).
-/
import Derived.Test.YtidhhpakdogiaaaGreatDoorRows
import Derived.Test.YtidhhpakdogiaaaGreatDoorTie
import Derived.Test.YtidhhpakdogiaaaGreatDoorCards
import Derived.Test.YtidhhpakdogiaaaGreatDoorM4
import Derived.Lib.IndexBytes
import Derived.Laws.RangeString
import Derived.Laws.Bits64b
import Derived.Shelf.GgSortFunc.SmallK
import Derived.Deep.QuietTactic
import Derived.BigCall
import Derived.BigQuiet
import Derived.WalkKit
import Derived.Deep.RegionHeld
open Option renaming map → GK, bind_some → GN, map_some → GP, map_none → Hw
open Go.Value renaming int → GL
open Go.Lib renaming decDigits → GM, parseUint10 → GW, decDigits_one → GY, goFieldsP → Ha, spansFromP → Hf, closeSpans → Hk, atoiAll → Hm
open Go.IntKind renaming u64 → GO, i64 → GQ, u8 → GS, bits → HN
open Bool renaming false_eq_true → GR
open List renaming cons_append → GT, map_append → GX, map_cons → GZ, length_take → Hb, getElem_mem → Hc, drop_eq_nil_of_le → Hd, getElem?_eq_getElem → Hg, take_succ_eq_append_getElem → Hh, drop_append_of_le_length → Hi, map_nil → Hj, length_pos_iff → Hp, mem_singleton → Hq, mem_cons → Hr, drop_eq_getElem_cons → Hs, getElem?_eq_some_iff → Ht, all_eq_true → Hu, nil_append → Hv, length_append → HB, take_length → HE, mem_append → HG, foldl_cons → HH, length_map → HJ, length_nil → HK
open Go.Sort renaming insertionSort → GU, ahead → HL
open Int renaming eq_ofNat_of_zero_le → GV, toNat_natCast → HC
open UInt8 renaming ofNat → He, toNat_inj → HF
open Nat renaming le_refl → Hl, le_trans → Ho, zero_le → Hx, mod_lt → Hy, pow_succ → HA
open List.cons renaming injEq → Hn, inj → Hz
open Go.Utf8 renaming decode → HD
open Go.BinOp renaming neq → HM
set_option maxRecDepth 100000
set_option linter.unusedSimpArgs false
set_option linter.unusedVariables false
noncomputable section
namespace Go.Proofs.YtidhhpakdogiaaaGreatDoor
open Go Go.V
set_option maxRecDepth 100000
theorem uG (x0 x1:D):dY [x0,x1]=((GK D.ptr (aH 4 x0 x1)).bind fun z=>((ldD true 4 z).bind bg).bind fun z=>(stD 4 (.agg [I 0,I 0,I 0,.v (.string ⟨⟨[]⟩⟩)]) (.ref 0 0) z).bind fun b=>(bin .add false [] x1 (I 1)).bind fun z=>(bR false 4 x0 z).bind fun z=>(lenD false z).bind fun c=>(aY (fun s=>(bin .lss false [] (sl s 3) (sl s 2)).bind fun z=>ifD z ((GK D.ptr (aH 4 (sl s 1) (sl s 3))).bind fun z=>((ldD true 4 z).bind bg).bind fun z=>(stD 4 (.agg [I 0,I 0,I 0,.v (.string ⟨⟨[]⟩⟩)]) (.ref 0 0) z).bind fun b=>(aa b (.ref 0 2)).bind fun z=>((atD b z).bind (ao false 1)).bind fun z=>(bin .eql false [] z (I 4)).bind fun z=>(ab D.bad z true (aa b (.ref 0 0))).bind fun d=>(ab (.tup []) z true ((atD b d).bind (ao false 1))).bind fun e=>(ab D.bad z true (aa (sl s 0) (.ref 0 0))).bind fun f=>(ab (.tup []) z true ((atD (sl s 0) f).bind (ao false 1))).bind fun g=>(ab (.tup []) z true (bin .eql false [] e g)).bind fun h=>(aE z h (B false)).bind fun z=>(ab D.bad z true (aa b (.ref 0 1))).bind fun j=>(ab (.tup []) z true ((atD b j).bind (ao false 1))).bind fun k=>(ab D.bad z true (aa (sl s 0) (.ref 0 1))).bind fun l=>(ab (.tup []) z true ((atD (sl s 0) l).bind (ao false 1))).bind fun m=>(ab (.tup []) z true (bin .eql false [] k m)).bind fun n=>(aE z n (B false)).bind fun z=>ifD z (some (.ret [B false] [])) ((bin .add false [] (sl s 3) (I 1)).bind fun z=>some (.nrm [sl s 0,sl s 1,sl s 2,z]))) (some (.ext 0 [sl s 0]))) [b,z,c,I 0]).bind fun o=>cH o (fun i s=>ifN (i.beq 0) ((aa (sl s 0) (.ref 0 2)).bind fun z=>((atD (sl s 0) z).bind (ao false 1)).bind fun z=>(bin .neq false [] z (I 4)).bind fun z=>some (.ret [z] [])) none) fun a b=>some (.ret a b)):=by kernel_rfl
theorem uq (x0 x1 x2:D):fI [x0,x1,x2]=((aY (fun s=>(lenD true (sl s 0)).bind fun z=>(bin .leq false [] (sl s 4) z).bind fun z=>ifD z ((lenD true (sl s 0)).bind fun z=>(bin .lss false [] (sl s 4) z).bind fun z=>ifD z ((bin .add false [] (sl s 4) (I 1)).bind fun z=>(cY true 0 (sl s 0) (sl s 4) z).bind fun z=>(lenD false (sl s 2)).bind fun c=>(aY (fun s=>(bin .lss false [] (sl s 9) (sl s 8)).bind fun z=>ifD z ((GK D.ptr (aH 4 (sl s 7) (sl s 9))).bind fun z=>((ldD true 4 z).bind bg).bind fun z=>(stD 4 (.agg [I 0,I 0,I 0,.v (.string ⟨⟨[]⟩⟩)]) (.ref 0 0) z).bind fun b=>(aa b (.ref 0 0)).bind fun z=>((atD b z).bind (ao false 1)).bind fun z=>(bin .neq false [] z (sl s 1)).bind fun z=>(ab D.bad z false (aa b (.ref 0 1))).bind fun d=>(ab (.tup []) z false ((atD b d).bind (ao false 1))).bind fun f=>(ab (.tup []) z false (some (sl s 4))).bind fun g=>(ab (.tup []) z false (bin .neq false [] f g)).bind fun e=>(aE z (B true) e).bind fun z=>ifD z ((bin .add false [] (sl s 9) (I 1)).bind fun z=>some (.nrm [sl s 0,sl s 1,sl s 2,sl s 3,sl s 4,sl s 5,sl s 6,sl s 7,sl s 8,z])) ((aa b (.ref 0 2)).bind fun z=>((atD b z).bind (ao false 1)).bind fun z=>(bin .eql false [] z (I 2)).bind fun z=>ifD z ((aa b (.ref 0 3)).bind fun z=>((atD b z).bind (ao false 1)).bind fun z=>(bin .add false [] (sl s 9) (I 1)).bind fun h=>some (.nrm [sl s 0,sl s 1,sl s 2,sl s 3,sl s 4,sl s 5,z,sl s 7,sl s 8,h])) ((aa b (.ref 0 3)).bind fun z=>((atD b z).bind (ao false 1)).bind fun z=>(bin .add false [] (sl s 9) (I 1)).bind fun h=>some (.nrm [sl s 0,sl s 1,sl s 2,sl s 3,sl s 4,z,sl s 6,sl s 7,sl s 8,h])))) (some (.ext 2 [sl s 0,sl s 1,sl s 2,sl s 3,sl s 4,sl s 5,sl s 6]))) [sl s 0,sl s 1,sl s 2,sl s 3,sl s 4,z,.v (.string ⟨⟨[]⟩⟩),sl s 2,c,I 0]).bind fun o=>cH o (fun i s=>ifN (i.beq 2) ((bin .add false [] (sl s 6) (sl s 5)).bind fun z=>(bin .add false [] (sl s 3) z).bind fun z=>(bin .add false [] (sl s 4) (I 1)).bind fun d=>some (.nrm [sl s 0,sl s 1,sl s 2,z,d])) (ifN (i.beq 1) ((bin .add false [] (sl s 4) (I 1)).bind fun z=>some (.nrm [sl s 0,sl s 1,sl s 2,sl s 3,z])) (some (.ext i [sl s 3])))) fun a b=>some (.ret a b)) ((lenD false (sl s 2)).bind fun z=>(aY (fun s=>(bin .lss false [] (sl s 9) (sl s 8)).bind fun z=>ifD z ((GK D.ptr (aH 4 (sl s 7) (sl s 9))).bind fun z=>((ldD true 4 z).bind bg).bind fun z=>(stD 4 (.agg [I 0,I 0,I 0,.v (.string ⟨⟨[]⟩⟩)]) (.ref 0 0) z).bind fun b=>(aa b (.ref 0 0)).bind fun z=>((atD b z).bind (ao false 1)).bind fun z=>(bin .neq false [] z (sl s 1)).bind fun z=>(ab D.bad z false (aa b (.ref 0 1))).bind fun c=>(ab (.tup []) z false ((atD b c).bind (ao false 1))).bind fun d=>(ab (.tup []) z false (some (sl s 4))).bind fun f=>(ab (.tup []) z false (bin .neq false [] d f)).bind fun g=>(aE z (B true) g).bind fun z=>ifD z ((bin .add false [] (sl s 9) (I 1)).bind fun z=>some (.nrm [sl s 0,sl s 1,sl s 2,sl s 3,sl s 4,sl s 5,sl s 6,sl s 7,sl s 8,z])) ((aa b (.ref 0 2)).bind fun z=>((atD b z).bind (ao false 1)).bind fun z=>(bin .eql false [] z (I 2)).bind fun z=>ifD z ((aa b (.ref 0 3)).bind fun z=>((atD b z).bind (ao false 1)).bind fun z=>(bin .add false [] (sl s 9) (I 1)).bind fun e=>some (.nrm [sl s 0,sl s 1,sl s 2,sl s 3,sl s 4,sl s 5,z,sl s 7,sl s 8,e])) ((aa b (.ref 0 3)).bind fun z=>((atD b z).bind (ao false 1)).bind fun z=>(bin .add false [] (sl s 9) (I 1)).bind fun e=>some (.nrm [sl s 0,sl s 1,sl s 2,sl s 3,sl s 4,z,sl s 6,sl s 7,sl s 8,e])))) (some (.ext 2 [sl s 0,sl s 1,sl s 2,sl s 3,sl s 4,sl s 5,sl s 6]))) [sl s 0,sl s 1,sl s 2,sl s 3,sl s 4,.v (.string ⟨⟨[]⟩⟩),.v (.string ⟨⟨[]⟩⟩),sl s 2,z,I 0]).bind fun o=>cH o (fun i s=>ifN (i.beq 2) ((bin .add false [] (sl s 6) (sl s 5)).bind fun z=>(bin .add false [] (sl s 3) z).bind fun z=>(bin .add false [] (sl s 4) (I 1)).bind fun c=>some (.nrm [sl s 0,sl s 1,sl s 2,z,c])) (ifN (i.beq 1) ((bin .add false [] (sl s 4) (I 1)).bind fun z=>some (.nrm [sl s 0,sl s 1,sl s 2,sl s 3,z])) (some (.ext i [sl s 3])))) fun a b=>some (.ret a b))) (some (.ext 0 [sl s 3]))) [x0,x1,x2,.v (.string ⟨⟨[]⟩⟩),I 0]).bind fun o=>cH o (fun i s=>ifN (i.beq 0) (some (.ret [sl s 0] [])) none) fun a b=>some (.ret a b)):=by kernel_rfl
theorem uI (x0 x1 x2:D):cZ [x0,x1,x2]=((bin .geq false [] x0 x1).bind fun z=>(ab (.tup []) z true (some x0)).bind fun c=>(ab (.tup []) z true (some x2)).bind fun d=>(ab (.tup []) z true (bin .leq false [] c d)).bind fun e=>(aE z e (B false)).bind fun z=>some (.ret [z] [])):=by kernel_rfl
theorem oS (x0 x1 x2:D):bv [x0,x1,x2]=((aY (fun s=>(lenD true (sl s 0)).bind fun z=>(bin .lss false [] (sl s 3) z).bind fun z=>ifD z ((du (sl s 0) (sl s 3)).bind fun z=>(bin .neq false [] z (.v (GL GS 32))).bind fun z=>(ab (.tup []) z true (some (sl s 0))).bind fun d=>(ab (.tup []) z true (some (sl s 3))).bind fun e=>(ab (.tup []) z true (du d e)).bind fun f=>(ab (.tup []) z true (bin .lss false [] f (.v (GL GS 97)))).bind fun g=>(ab (.tup []) z true (some g)).bind fun c=>(ab (.tup []) c false (some (sl s 0))).bind fun h=>(ab (.tup []) c false (some (sl s 3))).bind fun j=>(ab (.tup []) c false (du h j)).bind fun k=>(ab (.tup []) c false (bin .gtr false [] k (.v (GL GS 122)))).bind fun l=>(ab (.tup []) z true (aE c (B true) l)).bind fun m=>(aE z m (B false)).bind fun z=>ifD z (some (.ret [B false] [])) ((bin .add false [] (sl s 3) (I 1)).bind fun z=>some (.nrm [sl s 0,sl s 1,sl s 2,z]))) (some (.ext 0 [sl s 0,sl s 1,sl s 2]))) [x0,x1,x2,I 0]).bind fun o=>cH o (fun i s=>ifN (i.beq 0) ((lenD true (sl s 0)).bind fun z=>aj (cZ [z,sl s 1,sl s 2]) fun n _=>some (.ret [sl n 0] [])) none) fun a b=>some (.ret a b)):=by kernel_rfl
theorem oM (x0:D):bY [x0]=((iS 4 x0).bind fun y=>(aa y (.ref 0 0)).bind fun z=>((atD y z).bind (ao false 1)).bind fun z=>aj (cZ [z,I 0,I 11]) fun c _=>(un .not (sl c 0)).bind fun z=>(ab D.bad z false (aa y (.ref 0 1))).bind fun g=>(ab (.tup []) z false ((atD y g).bind (ao false 1))).bind fun h=>dE z false (aj (cZ [h,I 0,I 40]) fun c _=>some (.nrm [sl c 0])) [.tup []] fun j=>(ab (.tup []) z false (un .not (sl j 0))).bind fun k=>(aE z (B true) k).bind fun z=>ifD z (some (.ret [B false] [])) ((aa y (.ref 0 2)).bind fun z=>((atD y z).bind (ao false 1)).bind fun z=>(bin .eql false [] z (I 1)).bind fun e=>ifD e (ifD e ((aa y (.ref 0 3)).bind fun z=>((atD y z).bind (ao false 1)).bind fun z=>(bin .eql false [] z (.v (.string ⟨⟨[]⟩⟩))).bind fun z=>some (.ret [z] [])) ((bin .eql false [] z (I 2)).bind fun d=>ifD d (ifD d ((aa y (.ref 0 3)).bind fun z=>((atD y z).bind (ao false 1)).bind fun z=>aj (bv [z,I 1,I 10]) fun c _=>some (.ret [sl c 0] [])) (some (.ret [B false] []))) ((bin .eql false [] z (I 3)).bind fun z=>ifD z ((aa y (.ref 0 3)).bind fun z=>((atD y z).bind (ao false 1)).bind fun z=>aj (bv [z,I 1,I 10]) fun c _=>some (.ret [sl c 0] [])) (some (.ret [B false] []))))) ((bin .eql false [] z (I 4)).bind fun d=>ifD d ((aa y (.ref 0 3)).bind fun z=>((atD y z).bind (ao false 1)).bind fun z=>(bin .eql false [] z (.v (.string ⟨⟨[]⟩⟩))).bind fun z=>some (.ret [z] [])) ((bin .eql false [] z (I 2)).bind fun f=>ifD f (ifD f ((aa y (.ref 0 3)).bind fun z=>((atD y z).bind (ao false 1)).bind fun z=>aj (bv [z,I 1,I 10]) fun c _=>some (.ret [sl c 0] [])) (some (.ret [B false] []))) ((bin .eql false [] z (I 3)).bind fun z=>ifD z ((aa y (.ref 0 3)).bind fun z=>((atD y z).bind (ao false 1)).bind fun z=>aj (bv [z,I 1,I 10]) fun c _=>some (.ret [sl c 0] [])) (some (.ret [B false] []))))))):=by kernel_rfl
theorem oz (x0:D):dM [x0]=(aj (bv [x0,I 0,I 40]) fun c _=>some (.ret [sl c 0] [])):=by kernel_rfl
theorem sO (x0:D):cd [x0]=((lenD false x0).bind fun z=>(aY (fun s=>(bin .lss false [] (sl s 3) (sl s 2)).bind fun z=>ifD z ((GK D.ptr (aH 1 (sl s 1) (sl s 3))).bind fun z=>((ldD false 1 z).bind bg).bind fun z=>aj (dM [z]) fun c _=>(un .not (sl c 0)).bind fun z=>ifD z (some (.ret [B false] [])) ((bin .add false [] (sl s 3) (I 1)).bind fun z=>some (.nrm [sl s 0,sl s 1,sl s 2,z]))) (some (.ext 0 [sl s 0]))) [x0,x0,z,I 0]).bind fun o=>cH o (fun i s=>ifN (i.beq 0) ((lenD false (sl s 0)).bind fun z=>aj (cZ [z,I 1,I 12]) fun c _=>some (.ret [sl c 0] [])) none) fun a b=>some (.ret a b)):=by kernel_rfl
theorem se (x0 x1:D):cL [x0,x1]=((lenD false x1).bind fun z=>(aY (fun s=>(bin .lss false [] (sl s 4) (sl s 3)).bind fun z=>ifD z ((GK D.ptr (aH 4 (sl s 2) (sl s 4))).bind fun z=>((ldD true 4 z).bind bg).bind fun z=>(stD 4 (.agg [I 0,I 0,I 0,.v (.string ⟨⟨[]⟩⟩)]) (.ref 0 0) z).bind fun b=>(aX true 4 0 b).bind fun z=>aj (bY [z]) fun d _=>(un .not (sl d 0)).bind fun z=>(ab D.bad z false (aa b (.ref 0 0))).bind fun f=>(ab (.tup []) z false ((atD b f).bind (ao false 1))).bind fun g=>(ab (.tup []) z false (some (sl s 0))).bind fun h=>(ab (.tup []) z false (lenD false h)).bind fun j=>(ab (.tup []) z false (bin .geq false [] g j)).bind fun k=>(aE z (B true) k).bind fun z=>ifD z (some (.ret [B false] [])) ((aa b (.ref 0 0)).bind fun z=>((atD b z).bind (ao false 1)).bind fun z=>(GK D.ptr (aH 1 (sl s 0) z)).bind fun z=>((ldD false 1 z).bind bg).bind fun z=>(lenD true z).bind fun z=>(aa b (.ref 0 1)).bind fun l=>((atD b l).bind (ao false 1)).bind fun m=>(bin .gtr false [] m z).bind fun c=>(ab D.bad c false (aa b (.ref 0 1))).bind fun n=>(ab (.tup []) c false ((atD b n).bind (ao false 1))).bind fun p=>(ab (.tup []) c false (some z)).bind fun z=>(ab (.tup []) c false (bin .eql false [] p z)).bind fun z=>(ab (.tup []) c false (some z)).bind fun z=>(ab D.bad z true (aa b (.ref 0 2))).bind fun q=>(ab (.tup []) z true ((atD b q).bind (ao false 1))).bind fun r=>(ab (.tup []) z true (bin .eql false [] r (I 1))).bind fun t=>(ab (.tup []) z true (some t)).bind fun e=>(ab D.bad e false (aa b (.ref 0 2))).bind fun u=>(ab (.tup []) e false ((atD b u).bind (ao false 1))).bind fun v=>(ab (.tup []) e false (bin .eql false [] v (I 3))).bind fun w=>(ab (.tup []) z true (aE e (B true) w)).bind fun za=>(ab (.tup []) c false (aE z za (B false))).bind fun z=>(aE c (B true) z).bind fun z=>ifD z (some (.ret [B false] [])) ((bin .add false [] (sl s 4) (I 1)).bind fun z=>some (.nrm [sl s 0,sl s 1,sl s 2,sl s 3,z])))) (some (.ext 0 [sl s 0,sl s 1]))) [x0,x1,x1,z,I 0]).bind fun o=>cH o (fun i s=>ifN (i.beq 0) (aj (cd [sl s 0]) fun d _=>(ab (.tup []) (sl d 0) true (some (sl s 1))).bind fun z=>(ab (.tup []) (sl d 0) true (lenD false z)).bind fun z=>(ab (.tup []) (sl d 0) true (bin .leq false [] z (I 20))).bind fun z=>(aE (sl d 0) z (B false)).bind fun z=>some (.ret [z] [])) none) fun a b=>some (.ret a b)):=by kernel_rfl
theorem wD (x0 x1:D):iB [x0,x1]=((iS 4 x0).bind fun y=>(iS 4 x1).bind fun c=>(aa y (.ref 0 0)).bind fun z=>((atD y z).bind (ao false 1)).bind fun z=>(aa c (.ref 0 0)).bind fun d=>((atD c d).bind (ao false 1)).bind fun e=>(bin .eql false [] z e).bind fun z=>(ab D.bad z true (aa y (.ref 0 1))).bind fun f=>(ab (.tup []) z true ((atD y f).bind (ao false 1))).bind fun g=>(ab D.bad z true (aa c (.ref 0 1))).bind fun h=>(ab (.tup []) z true ((atD c h).bind (ao false 1))).bind fun j=>(ab (.tup []) z true (bin .eql false [] g j)).bind fun k=>(aE z k (B false)).bind fun z=>(ab D.bad z true (aa y (.ref 0 2))).bind fun l=>(ab (.tup []) z true ((atD y l).bind (ao false 1))).bind fun m=>(ab (.tup []) z true (bin .eql false [] m (I 2))).bind fun n=>(ab D.bad z true (aa c (.ref 0 2))).bind fun p=>(ab (.tup []) z true ((atD c p).bind (ao false 1))).bind fun q=>(ab (.tup []) z true (bin .eql false [] q (I 2))).bind fun r=>(ab (.tup []) z true (bin .eql true [] n r)).bind fun t=>(aE z t (B false)).bind fun z=>some (.ret [z] [])):=by kernel_rfl
theorem qu (x0:D):dp [x0]=((aC 1 []).bind fun a=>(lenD false x0).bind fun z=>(aY (fun s=>(bin .lss false [] (sl s 3) (sl s 2)).bind fun z=>ifD z ((bin .add false [] (sl s 3) (I 1)).bind fun z=>(aY (fun s=>(lenD false (sl s 0)).bind fun z=>(bin .lss false [] (sl s 3) z).bind fun z=>ifD z (aj (dY [sl s 0,sl s 2]) fun c _=>(ab (.tup []) (sl c 0) true (some (sl s 0))).bind fun z=>(ab (.tup []) (sl c 0) true (some (sl s 3))).bind fun e=>dE (sl c 0) true (aj (dY [z,e]) fun c _=>some (.nrm [sl c 0])) [.tup []] fun d=>(aE (sl c 0) (sl d 0) (B false)).bind fun z=>(ab (.tup []) z true (some (sl s 0))).bind fun f=>(ab (.tup []) z true (some (sl s 2))).bind fun g=>(ab (.tup []) z true (GK D.ptr (aH 4 f g))).bind fun h=>(ab (.tup []) z true ((ldD true 4 h).bind bg)).bind fun j=>(ab (.tup []) z true (some (sl s 0))).bind fun k=>(ab (.tup []) z true (some (sl s 3))).bind fun l=>(ab (.tup []) z true (GK D.ptr (aH 4 k l))).bind fun m=>(ab (.tup []) z true ((ldD true 4 m).bind bg)).bind fun n=>dE z true (aj (iB [j,n]) fun c _=>some (.nrm [sl c 0])) [.tup []] fun d=>(aE z (sl d 0) (B false)).bind fun z=>ifD z ((aC 1 [sl s 2,sl s 3]).bind fun a=>(aC 1 [a]).bind fun a=>(fT 1 24 (sl s 1) a).bind fun y=>(bin .add false [] (sl s 3) (I 1)).bind fun z=>some (.nrm [sl s 0,y,sl s 2,z,sl s 4,sl s 5])) ((bin .add false [] (sl s 3) (I 1)).bind fun z=>some (.nrm [sl s 0,sl s 1,sl s 2,z,sl s 4,sl s 5]))) (some (.ext 2 [sl s 0,sl s 1,sl s 4,sl s 5]))) [sl s 0,sl s 1,sl s 3,z,sl s 2,sl s 3]).bind fun o=>cH o (fun i s=>ifN (i.beq 2) ((bin .add false [] (sl s 3) (I 1)).bind fun z=>some (.nrm [sl s 0,sl s 1,sl s 2,z])) (ifN (i.beq 1) ((bin .add false [] (sl s 3) (I 1)).bind fun z=>some (.nrm [sl s 0,sl s 1,sl s 2,z])) (some (.ext i [sl s 1])))) fun a b=>some (.ret a b)) (some (.ext 0 [sl s 1]))) [x0,a,z,I 0]).bind fun o=>cH o (fun i s=>ifN (i.beq 0) (some (.ret [sl s 0] [])) none) fun a b=>some (.ret a b)):=by kernel_rfl
theorem lW (x0 x1:D):cS [x0,x1]=(aj (cL [x0,x1]) fun c _=>(un .not (sl c 0)).bind fun z=>ifD z ((aC 1 []).bind fun a=>some (.ret [a,B false] [])) (aj (dp [x1]) fun c _=>some (.ret [sl c 0,B true] []))):=by kernel_rfl
theorem xz (x0 x1 x2:D):cD [x0,x1,x2]=((bin .geq false [] x0 x1).bind fun z=>(ab (.tup []) z true (some x0)).bind fun c=>(ab (.tup []) z true (some x2)).bind fun d=>(ab (.tup []) z true (bin .leq false [] c d)).bind fun e=>(aE z e (B false)).bind fun z=>some (.ret [z] [])):=by kernel_rfl
theorem qN (x0 x1 x2:D):bL [x0,x1,x2]=((aY (fun s=>(lenD true (sl s 0)).bind fun z=>(bin .lss false [] (sl s 3) z).bind fun z=>ifD z ((du (sl s 0) (sl s 3)).bind fun z=>(bin .neq false [] z (.v (GL GS 32))).bind fun z=>(ab (.tup []) z true (some (sl s 0))).bind fun d=>(ab (.tup []) z true (some (sl s 3))).bind fun e=>(ab (.tup []) z true (du d e)).bind fun f=>(ab (.tup []) z true (bin .lss false [] f (.v (GL GS 97)))).bind fun g=>(ab (.tup []) z true (some g)).bind fun c=>(ab (.tup []) c false (some (sl s 0))).bind fun h=>(ab (.tup []) c false (some (sl s 3))).bind fun j=>(ab (.tup []) c false (du h j)).bind fun k=>(ab (.tup []) c false (bin .gtr false [] k (.v (GL GS 122)))).bind fun l=>(ab (.tup []) z true (aE c (B true) l)).bind fun m=>(aE z m (B false)).bind fun z=>ifD z (some (.ret [B false] [])) ((bin .add false [] (sl s 3) (I 1)).bind fun z=>some (.nrm [sl s 0,sl s 1,sl s 2,z]))) (some (.ext 0 [sl s 0,sl s 1,sl s 2]))) [x0,x1,x2,I 0]).bind fun o=>cH o (fun i s=>ifN (i.beq 0) ((lenD true (sl s 0)).bind fun z=>aj (cD [z,sl s 1,sl s 2]) fun n _=>some (.ret [sl n 0] [])) none) fun a b=>some (.ret a b)):=by kernel_rfl
theorem uC (x0:D):cV [x0]=((iS 4 x0).bind fun y=>(aa y (.ref 0 0)).bind fun z=>((atD y z).bind (ao false 1)).bind fun z=>aj (cD [z,I 0,I 11]) fun c _=>(un .not (sl c 0)).bind fun z=>(ab D.bad z false (aa y (.ref 0 1))).bind fun g=>(ab (.tup []) z false ((atD y g).bind (ao false 1))).bind fun h=>dE z false (aj (cD [h,I 0,I 40]) fun c _=>some (.nrm [sl c 0])) [.tup []] fun j=>(ab (.tup []) z false (un .not (sl j 0))).bind fun k=>(aE z (B true) k).bind fun z=>ifD z (some (.ret [B false] [])) ((aa y (.ref 0 2)).bind fun z=>((atD y z).bind (ao false 1)).bind fun z=>(bin .eql false [] z (I 1)).bind fun e=>ifD e (ifD e ((aa y (.ref 0 3)).bind fun z=>((atD y z).bind (ao false 1)).bind fun z=>(bin .eql false [] z (.v (.string ⟨⟨[]⟩⟩))).bind fun z=>some (.ret [z] [])) ((bin .eql false [] z (I 2)).bind fun d=>ifD d (ifD d ((aa y (.ref 0 3)).bind fun z=>((atD y z).bind (ao false 1)).bind fun z=>aj (bL [z,I 1,I 10]) fun c _=>some (.ret [sl c 0] [])) (some (.ret [B false] []))) ((bin .eql false [] z (I 3)).bind fun z=>ifD z ((aa y (.ref 0 3)).bind fun z=>((atD y z).bind (ao false 1)).bind fun z=>aj (bL [z,I 1,I 10]) fun c _=>some (.ret [sl c 0] [])) (some (.ret [B false] []))))) ((bin .eql false [] z (I 4)).bind fun d=>ifD d ((aa y (.ref 0 3)).bind fun z=>((atD y z).bind (ao false 1)).bind fun z=>(bin .eql false [] z (.v (.string ⟨⟨[]⟩⟩))).bind fun z=>some (.ret [z] [])) ((bin .eql false [] z (I 2)).bind fun f=>ifD f (ifD f ((aa y (.ref 0 3)).bind fun z=>((atD y z).bind (ao false 1)).bind fun z=>aj (bL [z,I 1,I 10]) fun c _=>some (.ret [sl c 0] [])) (some (.ret [B false] []))) ((bin .eql false [] z (I 3)).bind fun z=>ifD z ((aa y (.ref 0 3)).bind fun z=>((atD y z).bind (ao false 1)).bind fun z=>aj (bL [z,I 1,I 10]) fun c _=>some (.ret [sl c 0] [])) (some (.ret [B false] []))))))):=by kernel_rfl
theorem uK (x0:D):ef [x0]=((lenD false x0).bind fun z=>(aY (fun s=>(bin .lss false [] (sl s 3) (sl s 2)).bind fun z=>ifD z ((GK D.ptr (aH 1 (sl s 1) (sl s 3))).bind fun z=>((ldD false 1 z).bind bg).bind fun z=>aj (bL [z,I 0,I 40]) fun c _=>(un .not (sl c 0)).bind fun z=>ifD z (some (.ret [B false] [])) ((bin .add false [] (sl s 3) (I 1)).bind fun z=>some (.nrm [sl s 0,sl s 1,sl s 2,z]))) (some (.ext 0 [sl s 0]))) [x0,x0,z,I 0]).bind fun o=>cH o (fun i s=>ifN (i.beq 0) ((lenD false (sl s 0)).bind fun z=>aj (cD [z,I 1,I 12]) fun c _=>some (.ret [sl c 0] [])) none) fun a b=>some (.ret a b)):=by kernel_rfl
theorem tR (x0 x1:D):dq [x0,x1]=((lenD false x1).bind fun z=>(aY (fun s=>(bin .lss false [] (sl s 4) (sl s 3)).bind fun z=>ifD z ((GK D.ptr (aH 4 (sl s 2) (sl s 4))).bind fun z=>((ldD true 4 z).bind bg).bind fun z=>(stD 4 (.agg [I 0,I 0,I 0,.v (.string ⟨⟨[]⟩⟩)]) (.ref 0 0) z).bind fun b=>(aX true 4 0 b).bind fun z=>aj (cV [z]) fun c _=>(un .not (sl c 0)).bind fun z=>(ab D.bad z false (aa b (.ref 0 0))).bind fun e=>(ab (.tup []) z false ((atD b e).bind (ao false 1))).bind fun f=>(ab (.tup []) z false (some (sl s 0))).bind fun g=>(ab (.tup []) z false (lenD false g)).bind fun h=>(ab (.tup []) z false (bin .geq false [] f h)).bind fun j=>(aE z (B true) j).bind fun z=>(ab D.bad z false (aa b (.ref 0 1))).bind fun k=>(ab (.tup []) z false ((atD b k).bind (ao false 1))).bind fun l=>(ab (.tup []) z false (some (sl s 0))).bind fun m=>(ab D.bad z false (aa b (.ref 0 0))).bind fun n=>(ab (.tup []) z false ((atD b n).bind (ao false 1))).bind fun p=>(ab (.tup []) z false (GK D.ptr (aH 1 m p))).bind fun q=>(ab (.tup []) z false ((ldD false 1 q).bind bg)).bind fun r=>(ab (.tup []) z false (lenD true r)).bind fun t=>(ab (.tup []) z false (bin .gtr false [] l t)).bind fun u=>(aE z (B true) u).bind fun z=>ifD z (some (.ret [B false] [])) ((aa b (.ref 0 1)).bind fun z=>((atD b z).bind (ao false 1)).bind fun z=>(aa b (.ref 0 0)).bind fun v=>((atD b v).bind (ao false 1)).bind fun w=>(GK D.ptr (aH 1 (sl s 0) w)).bind fun za=>((ldD false 1 za).bind bg).bind fun zb=>(lenD true zb).bind fun zc=>(bin .eql false [] z zc).bind fun z=>(ab D.bad z true (aa b (.ref 0 2))).bind fun zd=>(ab (.tup []) z true ((atD b zd).bind (ao false 1))).bind fun ze=>(ab (.tup []) z true (bin .eql false [] ze (I 1))).bind fun zf=>(ab (.tup []) z true (some zf)).bind fun d=>(ab D.bad d false (aa b (.ref 0 2))).bind fun zg=>(ab (.tup []) d false ((atD b zg).bind (ao false 1))).bind fun zh=>(ab (.tup []) d false (bin .eql false [] zh (I 3))).bind fun zi=>(ab (.tup []) z true (aE d (B true) zi)).bind fun zj=>(aE z zj (B false)).bind fun z=>ifD z (some (.ret [B false] [])) ((bin .add false [] (sl s 4) (I 1)).bind fun z=>some (.nrm [sl s 0,sl s 1,sl s 2,sl s 3,z])))) (some (.ext 0 [sl s 0,sl s 1]))) [x0,x1,x1,z,I 0]).bind fun o=>cH o (fun i s=>ifN (i.beq 0) (aj (ef [sl s 0]) fun c _=>(ab (.tup []) (sl c 0) true (some (sl s 1))).bind fun z=>(ab (.tup []) (sl c 0) true (lenD false z)).bind fun z=>(ab (.tup []) (sl c 0) true (bin .leq false [] z (I 20))).bind fun z=>(aE (sl c 0) z (B false)).bind fun z=>some (.ret [z] [])) none) fun a b=>some (.ret a b)):=by kernel_rfl
theorem ux (x0:D):ee [x0]=((lenD false x0).bind fun z=>(aY (fun s=>(bin .lss false [] (sl s 4) (sl s 3)).bind fun z=>ifD z ((GK D.ptr (aH 4 (sl s 2) (sl s 4))).bind fun z=>((ldD true 4 z).bind bg).bind fun z=>(stD 4 (.agg [I 0,I 0,I 0,.v (.string ⟨⟨[]⟩⟩)]) (.ref 0 0) z).bind fun b=>(aa b (.ref 0 2)).bind fun z=>((atD b z).bind (ao false 1)).bind fun z=>(bin .neq false [] z (I 4)).bind fun z=>(bin .add false [] (sl s 4) (I 1)).bind fun d=>(bR false 4 (sl s 0) d).bind fun c=>(lenD false c).bind fun e=>(aY (fun s=>(bin .lss false [] (sl s 10) (sl s 9)).bind fun z=>ifD z ((GK D.ptr (aH 4 (sl s 8) (sl s 10))).bind fun z=>((ldD true 4 z).bind bg).bind fun z=>(stD 4 (.agg [I 0,I 0,I 0,.v (.string ⟨⟨[]⟩⟩)]) (.ref 0 0) z).bind fun b=>(aa b (.ref 0 2)).bind fun z=>((atD b z).bind (ao false 1)).bind fun z=>(bin .eql false [] z (I 4)).bind fun z=>(ab D.bad z true (aa b (.ref 0 0))).bind fun f=>(ab (.tup []) z true ((atD b f).bind (ao false 1))).bind fun g=>(ab D.bad z true (aa (sl s 3) (.ref 0 0))).bind fun h=>(ab (.tup []) z true ((atD (sl s 3) h).bind (ao false 1))).bind fun j=>(ab (.tup []) z true (bin .eql false [] g j)).bind fun k=>(aE z k (B false)).bind fun z=>(ab D.bad z true (aa b (.ref 0 1))).bind fun l=>(ab (.tup []) z true ((atD b l).bind (ao false 1))).bind fun m=>(ab D.bad z true (aa (sl s 3) (.ref 0 1))).bind fun n=>(ab (.tup []) z true ((atD (sl s 3) n).bind (ao false 1))).bind fun p=>(ab (.tup []) z true (bin .eql false [] m p)).bind fun q=>(aE z q (B false)).bind fun z=>ifD z ((bin .add false [] (sl s 10) (I 1)).bind fun z=>some (.nrm [sl s 0,sl s 1,sl s 2,sl s 3,B false,sl s 5,sl s 6,sl s 7,sl s 8,sl s 9,z])) ((bin .add false [] (sl s 10) (I 1)).bind fun z=>some (.nrm [sl s 0,sl s 1,sl s 2,sl s 3,sl s 4,sl s 5,sl s 6,sl s 7,sl s 8,sl s 9,z]))) (some (.ext 2 [sl s 0,sl s 1,sl s 2,sl s 4,sl s 5,sl s 6,sl s 7]))) [sl s 0,sl s 1,sl s 4,b,z,sl s 2,sl s 3,sl s 4,c,e,I 0]).bind fun o=>cH o (fun i s=>ifN (i.beq 2) (ifD (sl s 3) ((aC 1 [sl s 2]).bind fun a=>(iu a).bind fun b=>(fT 1 8 (sl s 1) b).bind fun y=>(bin .add false [] (sl s 6) (I 1)).bind fun z=>some (.nrm [sl s 0,y,sl s 4,sl s 5,z])) ((bin .add false [] (sl s 6) (I 1)).bind fun z=>some (.nrm [sl s 0,sl s 1,sl s 4,sl s 5,z]))) (ifN (i.beq 1) ((bin .add false [] (sl s 6) (I 1)).bind fun z=>some (.nrm [sl s 0,sl s 1,sl s 4,sl s 5,z])) (some (.ext i [sl s 1])))) fun a b=>some (.ret a b)) (some (.ext 0 [sl s 1]))) [x0,.arr 1 [],x0,z,I 0]).bind fun o=>cH o (fun i s=>ifN (i.beq 0) (some (.ret [sl s 0] [])) none) fun a b=>some (.ret a b)):=by kernel_rfl
theorem uf (x0 x1:D):fF [x0,x1]=((iS 4 x0).bind fun y=>(iS 4 x1).bind fun c=>(aa y (.ref 0 0)).bind fun z=>((atD y z).bind (ao false 1)).bind fun z=>(aa c (.ref 0 0)).bind fun d=>((atD c d).bind (ao false 1)).bind fun e=>(bin .eql false [] z e).bind fun z=>(ab D.bad z true (aa y (.ref 0 1))).bind fun f=>(ab (.tup []) z true ((atD y f).bind (ao false 1))).bind fun g=>(ab D.bad z true (aa c (.ref 0 1))).bind fun h=>(ab (.tup []) z true ((atD c h).bind (ao false 1))).bind fun j=>(ab (.tup []) z true (bin .eql false [] g j)).bind fun k=>(aE z k (B false)).bind fun z=>(ab D.bad z true (aa y (.ref 0 2))).bind fun l=>(ab (.tup []) z true ((atD y l).bind (ao false 1))).bind fun m=>(ab (.tup []) z true (bin .eql false [] m (I 2))).bind fun n=>(ab D.bad z true (aa c (.ref 0 2))).bind fun p=>(ab (.tup []) z true ((atD c p).bind (ao false 1))).bind fun q=>(ab (.tup []) z true (bin .eql false [] q (I 2))).bind fun r=>(ab (.tup []) z true (bin .eql true [] n r)).bind fun t=>(aE z t (B false)).bind fun z=>some (.ret [z] [])):=by kernel_rfl
theorem qT (x0:D):dw [x0]=(aj (ee [x0]) fun c _=>(lenD false (sl c 0)).bind fun z=>(aY (fun s=>(bin .lss false [] (sl s 5) (sl s 4)).bind fun z=>ifD z ((GK D.ptr (aH 1 (sl s 3) (sl s 5))).bind fun z=>((ldD false 1 z).bind bg).bind fun z=>(bin .add false [] (sl s 5) (I 1)).bind fun e=>(bR false 1 (sl s 2) e).bind fun d=>(lenD false d).bind fun f=>(aY (fun s=>(bin .lss false [] (sl s 9) (sl s 8)).bind fun z=>ifD z ((GK D.ptr (aH 1 (sl s 7) (sl s 9))).bind fun z=>((ldD false 1 z).bind bg).bind fun z=>(GK D.ptr (aH 4 (sl s 0) (sl s 3))).bind fun g=>((ldD true 4 g).bind bg).bind fun h=>(GK D.ptr (aH 4 (sl s 0) z)).bind fun j=>((ldD true 4 j).bind bg).bind fun k=>aj (fF [h,k]) fun c _=>ifD (sl c 0) ((aC 1 [sl s 3,z]).bind fun a=>(aC 1 [a]).bind fun a=>(fT 1 24 (sl s 1) a).bind fun y=>(bin .add false [] (sl s 9) (I 1)).bind fun z=>some (.nrm [sl s 0,y,sl s 2,sl s 3,sl s 4,sl s 5,sl s 6,sl s 7,sl s 8,z])) ((bin .add false [] (sl s 9) (I 1)).bind fun z=>some (.nrm [sl s 0,sl s 1,sl s 2,sl s 3,sl s 4,sl s 5,sl s 6,sl s 7,sl s 8,z]))) (some (.ext 2 [sl s 0,sl s 1,sl s 2,sl s 4,sl s 5,sl s 6]))) [sl s 0,sl s 1,sl s 2,z,sl s 3,sl s 4,sl s 5,d,f,I 0]).bind fun o=>cH o (fun i s=>ifN (i.beq 2) ((bin .add false [] (sl s 5) (I 1)).bind fun z=>some (.nrm [sl s 0,sl s 1,sl s 2,sl s 3,sl s 4,z])) (ifN (i.beq 1) ((bin .add false [] (sl s 5) (I 1)).bind fun z=>some (.nrm [sl s 0,sl s 1,sl s 2,sl s 3,sl s 4,z])) (some (.ext i [sl s 1])))) fun a b=>some (.ret a b)) (some (.ext 0 [sl s 1]))) [x0,.arr 1 [],sl c 0,sl c 0,z,I 0]).bind fun o=>cH o (fun i s=>ifN (i.beq 0) (some (.ret [sl s 0] [])) none) fun a b=>some (.ret a b)):=by kernel_rfl
theorem mN (x0 x1:D):cP [x0,x1]=(aj (dq [x0,x1]) fun c _=>(un .not (sl c 0)).bind fun z=>ifD z (some (.ret [.arr 1 [],B false] [])) (aj (dw [x1]) fun c _=>some (.ret [sl c 0,B true] []))):=by kernel_rfl
theorem qK (x0 x1 x2:D):eI [x0,x1,x2]=((aY (fun s=>(lenD true (sl s 0)).bind fun z=>(bin .leq false [] (sl s 4) z).bind fun z=>ifD z ((lenD true (sl s 0)).bind fun z=>(bin .lss false [] (sl s 4) z).bind fun z=>ifD z ((bin .add false [] (sl s 4) (I 1)).bind fun z=>(cY true 0 (sl s 0) (sl s 4) z).bind fun z=>aj (ee [sl s 2]) fun c _=>(lenD false (sl c 0)).bind fun d=>(aY (fun s=>(bin .lss false [] (sl s 8) (sl s 7)).bind fun z=>ifD z ((GK D.ptr (aH 1 (sl s 6) (sl s 8))).bind fun z=>((ldD false 1 z).bind bg).bind fun z=>(GK D.ptr (aH 4 (sl s 2) z)).bind fun z=>((ldD true 4 z).bind bg).bind fun z=>(stD 4 (.agg [I 0,I 0,I 0,.v (.string ⟨⟨[]⟩⟩)]) (.ref 0 0) z).bind fun b=>(aa b (.ref 0 0)).bind fun z=>((atD b z).bind (ao false 1)).bind fun z=>(bin .neq false [] z (sl s 1)).bind fun z=>(ab D.bad z false (aa b (.ref 0 1))).bind fun e=>(ab (.tup []) z false ((atD b e).bind (ao false 1))).bind fun g=>(ab (.tup []) z false (some (sl s 4))).bind fun h=>(ab (.tup []) z false (bin .neq false [] g h)).bind fun f=>(aE z (B true) f).bind fun z=>ifD z ((bin .add false [] (sl s 8) (I 1)).bind fun z=>some (.nrm [sl s 0,sl s 1,sl s 2,sl s 3,sl s 4,sl s 5,sl s 6,sl s 7,z])) ((aa b (.ref 0 2)).bind fun z=>((atD b z).bind (ao false 1)).bind fun z=>(bin .eql false [] z (I 2)).bind fun z=>ifD z ((aa b (.ref 0 3)).bind fun z=>((atD b z).bind (ao false 1)).bind fun z=>(bin .add false [] (sl s 3) z).bind fun z=>(bin .add false [] (sl s 8) (I 1)).bind fun j=>some (.nrm [sl s 0,sl s 1,sl s 2,z,sl s 4,sl s 5,sl s 6,sl s 7,j])) ((aa b (.ref 0 3)).bind fun z=>((atD b z).bind (ao false 1)).bind fun z=>(bin .add false [] (sl s 8) (I 1)).bind fun j=>some (.nrm [sl s 0,sl s 1,sl s 2,sl s 3,sl s 4,z,sl s 6,sl s 7,j])))) (some (.ext 2 [sl s 0,sl s 1,sl s 2,sl s 3,sl s 4,sl s 5]))) [sl s 0,sl s 1,sl s 2,sl s 3,sl s 4,z,sl c 0,d,I 0]).bind fun o=>cH o (fun i s=>ifN (i.beq 2) ((bin .add false [] (sl s 3) (sl s 5)).bind fun z=>(bin .add false [] (sl s 4) (I 1)).bind fun e=>some (.nrm [sl s 0,sl s 1,sl s 2,z,e])) (ifN (i.beq 1) ((bin .add false [] (sl s 4) (I 1)).bind fun z=>some (.nrm [sl s 0,sl s 1,sl s 2,sl s 3,z])) (some (.ext i [sl s 3])))) fun a b=>some (.ret a b)) (aj (ee [sl s 2]) fun c _=>(lenD false (sl c 0)).bind fun z=>(aY (fun s=>(bin .lss false [] (sl s 8) (sl s 7)).bind fun z=>ifD z ((GK D.ptr (aH 1 (sl s 6) (sl s 8))).bind fun z=>((ldD false 1 z).bind bg).bind fun z=>(GK D.ptr (aH 4 (sl s 2) z)).bind fun z=>((ldD true 4 z).bind bg).bind fun z=>(stD 4 (.agg [I 0,I 0,I 0,.v (.string ⟨⟨[]⟩⟩)]) (.ref 0 0) z).bind fun b=>(aa b (.ref 0 0)).bind fun z=>((atD b z).bind (ao false 1)).bind fun z=>(bin .neq false [] z (sl s 1)).bind fun z=>(ab D.bad z false (aa b (.ref 0 1))).bind fun d=>(ab (.tup []) z false ((atD b d).bind (ao false 1))).bind fun e=>(ab (.tup []) z false (some (sl s 4))).bind fun g=>(ab (.tup []) z false (bin .neq false [] e g)).bind fun h=>(aE z (B true) h).bind fun z=>ifD z ((bin .add false [] (sl s 8) (I 1)).bind fun z=>some (.nrm [sl s 0,sl s 1,sl s 2,sl s 3,sl s 4,sl s 5,sl s 6,sl s 7,z])) ((aa b (.ref 0 2)).bind fun z=>((atD b z).bind (ao false 1)).bind fun z=>(bin .eql false [] z (I 2)).bind fun z=>ifD z ((aa b (.ref 0 3)).bind fun z=>((atD b z).bind (ao false 1)).bind fun z=>(bin .add false [] (sl s 3) z).bind fun z=>(bin .add false [] (sl s 8) (I 1)).bind fun f=>some (.nrm [sl s 0,sl s 1,sl s 2,z,sl s 4,sl s 5,sl s 6,sl s 7,f])) ((aa b (.ref 0 3)).bind fun z=>((atD b z).bind (ao false 1)).bind fun z=>(bin .add false [] (sl s 8) (I 1)).bind fun f=>some (.nrm [sl s 0,sl s 1,sl s 2,sl s 3,sl s 4,z,sl s 6,sl s 7,f])))) (some (.ext 2 [sl s 0,sl s 1,sl s 2,sl s 3,sl s 4,sl s 5]))) [sl s 0,sl s 1,sl s 2,sl s 3,sl s 4,.v (.string ⟨⟨[]⟩⟩),sl c 0,z,I 0]).bind fun o=>cH o (fun i s=>ifN (i.beq 2) ((bin .add false [] (sl s 3) (sl s 5)).bind fun z=>(bin .add false [] (sl s 4) (I 1)).bind fun d=>some (.nrm [sl s 0,sl s 1,sl s 2,z,d])) (ifN (i.beq 1) ((bin .add false [] (sl s 4) (I 1)).bind fun z=>some (.nrm [sl s 0,sl s 1,sl s 2,sl s 3,z])) (some (.ext i [sl s 3])))) fun a b=>some (.ret a b))) (some (.ext 0 [sl s 3]))) [x0,x1,x2,.v (.string ⟨⟨[]⟩⟩),I 0]).bind fun o=>cH o (fun i s=>ifN (i.beq 0) (some (.ret [sl s 0] [])) none) fun a b=>some (.ret a b)):=by kernel_rfl
theorem nr (x0 x1:D):dm [x0,x1]=(aj (dq [x0,x1]) fun c _=>(un .not (sl c 0)).bind fun z=>(ab (.tup []) z false (some x1)).bind fun d=>dE z false (aj (dw [d]) fun c _=>some (.nrm [sl c 0])) [.tup []] fun e=>(ab (.tup []) z false (lenD false (sl e 0))).bind fun f=>(ab (.tup []) z false (bin .gtr false [] f (I 0))).bind fun g=>(aE z (B true) g).bind fun z=>ifD z (some (.ret [.arr 1 [],B false] [])) ((lenD false x0).bind fun z=>(aY (fun s=>(bin .lss false [] (sl s 4) (sl s 3)).bind fun z=>ifD z ((GK D.ptr (aH 1 (sl s 2) (sl s 4))).bind fun z=>((ldD false 1 z).bind bg).bind fun z=>aj (eI [z,sl s 4,sl s 0]) fun c _=>(aC 1 [sl c 0]).bind fun a=>(iu a).bind fun b=>(fT 1 16 (sl s 1) b).bind fun y=>(bin .add false [] (sl s 4) (I 1)).bind fun z=>some (.nrm [sl s 0,y,sl s 2,sl s 3,z])) (some (.ext 0 [sl s 1]))) [x1,.arr 1 [],x0,z,I 0]).bind fun o=>cH o (fun i s=>ifN (i.beq 0) ((aa (sl s 0) (.ref 0 0)).bind fun z=>(aa z (sl s 0)).bind fun i=>aj (ef [i]) fun c _=>(un .not (sl c 0)).bind fun z=>ifD z (some (.ret [.arr 1 [],B false] [])) (some (.ret [sl s 0,B true] []))) none) fun a b=>some (.ret a b))):=by kernel_rfl
theorem ju (x0:D):bS [x0]=((aa x0 (.ref 0 0)).bind fun z=>(aa z z).bind fun z=>(dc 1 z).bind fun z=>(((atD x0 z).bind (ao false 1)).bind bg).bind fun z=>(aa x0 (.ref 0 0)).bind fun w=>(aa w w).bind fun zc=>(dc 0 zc).bind fun zd=>((atD x0 zd).bind (ao false 1)).bind fun ze=>(lenD false ze).bind fun zf=>(bin .lss false [] z zf).bind fun z=>ifD z ((aa x0 (.ref 0 0)).bind fun z=>(aa z z).bind fun z=>(dc 0 z).bind fun z=>((atD x0 z).bind (ao false 1)).bind fun z=>(aa x0 (.ref 0 0)).bind fun e=>(aa e e).bind fun g=>(dc 1 g).bind fun h=>(((atD x0 h).bind (ao false 1)).bind bg).bind fun j=>(GK D.ptr (aH 1 z j)).bind fun z=>((ldD false 1 z).bind bg).bind fun z=>(ib (some .i64) false z).bind fun z=>(aa x0 (.ref 0 0)).bind fun c=>(aa c c).bind fun k=>(dc 1 k).bind fun l=>(((atD x0 l).bind (ao false 1)).bind bg).bind fun m=>(bin .add false [] m (I 1)).bind fun n=>(aa c c).bind fun p=>(dc 1 p).bind fun q=>(stD 1 x0 q n).bind fun b=>(aa b (.ref 0 0)).bind fun f=>(aa b (.ref 0 0)).bind fun d=>(aa d d).bind fun r=>(dc 2 r).bind fun t=>(((atD b t).bind (ao false 1)).bind bg).bind fun u=>(bin .mul false [] u (.v (GL GO 6364136223846793005))).bind fun v=>(ib (some .u64) false z).bind fun zg=>(bin .add false [] v zg).bind fun zh=>(bin .add false [] zh (.v (GL GO 1442695040888963407))).bind fun zi=>(aa f f).bind fun zj=>(dc 2 zj).bind fun zk=>(stD 1 b zk zi).bind fun b=>(aa b (.ref 0 0)).bind fun za=>(aa za za).bind fun zl=>(dc 1 zl).bind fun zm=>(((atD b zm).bind (ao false 1)).bind bg).bind fun zn=>(aa b (.ref 0 0)).bind fun zb=>(aa zb zb).bind fun zo=>(dc 0 zo).bind fun zp=>((atD b zp).bind (ao false 1)).bind fun zq=>(lenD false zq).bind fun zr=>(bin .leq false [] zn zr).bind fun zs=>ifD zs ((aa b b).bind fun _=>some (.ret [z] [b])) ((aa b (.ref 0 0)).bind fun z=>(aa z z).bind fun z=>(dc 2 z).bind fun z=>(((atD b z).bind (ao false 1)).bind bg).bind fun z=>(bin .shr false [] z (.v (GL GO 40))).bind fun z=>(bin .and false [] z (.v (GL GO 255))).bind fun z=>(ib (some .i64) false z).bind fun z=>(aa b b).bind fun _=>some (.ret [z] [b]))) ((aa x0 (.ref 0 0)).bind fun z=>(aa z z).bind fun e=>(dc 1 e).bind fun g=>(((atD x0 g).bind (ao false 1)).bind bg).bind fun h=>(bin .add false [] h (I 1)).bind fun j=>(aa z z).bind fun z=>(dc 1 z).bind fun z=>(stD 1 x0 z j).bind fun b=>(aa b (.ref 0 0)).bind fun z=>(aa b (.ref 0 0)).bind fun c=>(aa c c).bind fun k=>(dc 2 k).bind fun l=>(((atD b l).bind (ao false 1)).bind bg).bind fun m=>(bin .mul false [] m (.v (GL GO 6364136223846793005))).bind fun n=>(ib (some .u64) false (I 0)).bind fun p=>(bin .add false [] n p).bind fun q=>(bin .add false [] q (.v (GL GO 1442695040888963407))).bind fun f=>(aa z z).bind fun z=>(dc 2 z).bind fun z=>(stD 1 b z f).bind fun b=>(aa b (.ref 0 0)).bind fun z=>(aa z z).bind fun z=>(dc 1 z).bind fun z=>(((atD b z).bind (ao false 1)).bind bg).bind fun z=>(aa b (.ref 0 0)).bind fun d=>(aa d d).bind fun r=>(dc 0 r).bind fun t=>((atD b t).bind (ao false 1)).bind fun u=>(lenD false u).bind fun v=>(bin .leq false [] z v).bind fun z=>ifD z ((aa b b).bind fun _=>some (.ret [I 0] [b])) ((aa b (.ref 0 0)).bind fun z=>(aa z z).bind fun z=>(dc 2 z).bind fun z=>(((atD b z).bind (ao false 1)).bind bg).bind fun z=>(bin .shr false [] z (.v (GL GO 40))).bind fun z=>(bin .and false [] z (.v (GL GO 255))).bind fun z=>(ib (some .i64) false z).bind fun z=>(aa b b).bind fun _=>some (.ret [z] [b])))):=by kernel_rfl
theorem ql (x0 x1:D):al [x0,x1]=((bin .leq false [] x1 (I 1)).bind fun z=>ifD z ((aa x0 x0).bind fun _=>some (.ret [I 0] [x0])) ((aa x0 (.ref 0 0)).bind fun z=>(bp z x0).bind fun i=>(aa i i).bind fun i=>aj (bS [i]) fun d c=>(bin .gtr false [] x1 (I 200)).bind fun z=>ifD z ((bin .mul false [] (sl d 0) (I 256)).bind fun z=>(aa (sl c 0) (.ref 0 0)).bind fun e=>(bp e (sl c 0)).bind fun i=>(aa i i).bind fun i=>aj (bS [i]) fun d c=>(bin .add false [] z (sl d 0)).bind fun z=>(bin .rem false [] z x1).bind fun z=>(aa (sl c 0) (sl c 0)).bind fun _=>some (.ret [z] [sl c 0])) ((bin .rem false [] (sl d 0) x1).bind fun z=>(aa (sl c 0) (sl c 0)).bind fun _=>some (.ret [z] [sl c 0])))):=by kernel_rfl
theorem rg (x0 x1:D):bn [x0,x1]=((aa x0 (.ref 0 0)).bind fun z=>(bp z x0).bind fun i=>(aa i i).bind fun i=>aj (al [i,x1]) fun d c=>(bin .eql false [] (sl d 0) (I 0)).bind fun z=>(aa (sl c 0) (sl c 0)).bind fun _=>some (.ret [z] [sl c 0])):=by kernel_rfl
theorem oW (x0 x1:D):au [x0,x1]=((aa x0 (.ref 0 0)).bind fun z=>(lenD false x1).bind fun d=>(bp z x0).bind fun i=>(aa i i).bind fun i=>aj (al [i,d]) fun e c=>(GK D.ptr (aH 1 x1 (sl e 0))).bind fun z=>((ldD false 1 z).bind bg).bind fun z=>(aa (sl c 0) (sl c 0)).bind fun _=>some (.ret [z] [sl c 0])):=by kernel_rfl
theorem rU (x0 x1:D):aF [x0,x1]=((aa x0 (.ref 0 0)).bind fun z=>(lenD false x1).bind fun d=>(bp z x0).bind fun i=>(aa i i).bind fun i=>aj (al [i,d]) fun e c=>(GK D.ptr (aH 1 x1 (sl e 0))).bind fun z=>((ldD false 1 z).bind bg).bind fun z=>(aa (sl c 0) (sl c 0)).bind fun _=>some (.ret [z] [sl c 0])):=by kernel_rfl
theorem mf (x0:D):bK [x0]=((aa x0 (.ref 0 0)).bind fun z=>(bp z x0).bind fun i=>(aa i i).bind fun i=>aj (al [i,I 12]) fun c d=>(aY (fun s=>(lenD true (sl s 1)).bind fun z=>(bin .lss false [] z (sl s 2)).bind fun z=>ifD z ((aa (sl s 0) (.ref 0 0)).bind fun z=>(aC 1 [.v (.string ⟨⟨[97]⟩⟩),.v (.string ⟨⟨[98]⟩⟩),.v (.string ⟨⟨[116,104,101]⟩⟩),.v (.string ⟨⟨[32]⟩⟩),.v (.string ⟨⟨[99,97,116]⟩⟩),.v (.string ⟨⟨[111,110]⟩⟩),.v (.string ⟨⟨[101]⟩⟩)]).bind fun a=>(bp z (sl s 0)).bind fun i=>(aa i i).bind fun i=>aj (aF [i,a]) fun c d=>(bin .add false [] (sl s 1) (sl c 0)).bind fun z=>some (.nrm [sl d 0,z,sl s 2])) (some (.ext 0 [sl s 0,sl s 1]))) [sl d 0,.v (.string ⟨⟨[]⟩⟩),sl c 0]).bind fun o=>cH o (fun i s=>ifN (i.beq 0) ((aa (sl s 0) (sl s 0)).bind fun _=>some (.ret [sl s 1] [sl s 0])) none) fun a b=>some (.ret a b)):=by kernel_rfl
theorem oL (x0:D):bX [x0]=((aa x0 (.ref 0 0)).bind fun z=>(bp z x0).bind fun i=>(aa i i).bind fun i=>aj (al [i,I 3]) fun d c=>(bin .add false [] (I 1) (sl d 0)).bind fun z=>(aa (sl c 0) (.ref 0 0)).bind fun k=>(bp k (sl c 0)).bind fun i=>(aa i i).bind fun i=>aj (bn [i,I 16]) fun d c=>ifD (sl d 0) ((aa (sl c 0) (.ref 0 0)).bind fun z=>(aC 1 [I 0,I 12,I 13]).bind fun a=>(bp z (sl c 0)).bind fun i=>(aa i i).bind fun i=>aj (au [i,a]) fun d c=>(aY (fun s=>(aa (sl s 1) (.ref 0 0)).bind fun z=>((aa z (sl s 1)).bind (lenD false)).bind fun z=>(bin .lss false [] z (sl s 2)).bind fun z=>ifD z ((aa (sl s 0) (.ref 0 0)).bind fun z=>(bp z (sl s 0)).bind fun i=>(aa i i).bind fun i=>aj (bK [i]) fun d c=>(aC 1 [sl d 0]).bind fun a=>(iu a).bind fun b=>(fT 1 16 (sl s 1) b).bind fun y=>some (.nrm [sl c 0,y,sl s 2])) (some (.ext 0 [sl s 0,sl s 1,sl s 2]))) [sl c 0,.arr 1 [],sl d 0]).bind fun o=>cH o (fun i s=>ifN (i.beq 0) ((bin .gtr false [] (sl s 2) (I 0)).bind fun z=>(ab D.bad z true (aa (sl s 0) (.ref 0 0))).bind fun f=>dE z true ((bp f (sl s 0)).bind fun i=>(aa i i).bind fun i=>aj (bn [i,I 24]) fun d c=>some (.nrm [sl d 0,sl c 0])) [.tup [],sl s 0] fun e=>(aE z (sl e 0) (B false)).bind fun z=>ifD z ((aa (sl e 1) (.ref 0 0)).bind fun z=>(bp z (sl e 1)).bind fun i=>(aa i i).bind fun i=>aj (al [i,I 2]) fun d c=>(bin .add false [] (I 40) (sl d 0)).bind fun z=>(aY (fun s=>(lenD true (sl s 3)).bind fun z=>(bin .lss false [] z (sl s 4)).bind fun z=>ifD z ((bin .add false [] (sl s 3) (.v (.string ⟨⟨[120]⟩⟩))).bind fun z=>some (.nrm [sl s 0,sl s 1,sl s 2,z,sl s 4])) (some (.ext 2 [sl s 0,sl s 1,sl s 2,sl s 3]))) [sl c 0,sl s 1,sl s 2,.v (.string ⟨⟨[]⟩⟩),z]).bind fun o=>cH o (fun i s=>ifN (i.beq 2) ((aa (sl s 1) (.ref 0 0)).bind fun z=>(aa (sl s 0) (.ref 0 0)).bind fun g=>(bp g (sl s 0)).bind fun i=>(aa i i).bind fun i=>aj (al [i,sl s 2]) fun d c=>(aa (sl c 0) (.ref 0 0)).bind fun h=>(aC 1 [sl s 3,.v (.string ⟨⟨[65]⟩⟩),.v (.string ⟨⟨[97,46,98]⟩⟩)]).bind fun a=>(bp h (sl c 0)).bind fun i=>(aa i i).bind fun i=>aj (aF [i,a]) fun j c=>((aa z (sl s 1)).bind fun b=>uZ 1 b (sl d 0)).bind fun z=>(stD 1 (sl s 1) z (sl j 0)).bind fun b=>(aa (sl c 0) (sl c 0)).bind fun _=>some (.ret [b] [sl c 0])) none) fun a b=>some (.ret a b)) ((aa (sl e 1) (sl e 1)).bind fun _=>some (.ret [sl s 1] [sl e 1]))) none) fun a b=>some (.ret a b)) ((aY (fun s=>(aa (sl s 1) (.ref 0 0)).bind fun z=>((aa z (sl s 1)).bind (lenD false)).bind fun z=>(bin .lss false [] z (sl s 2)).bind fun z=>ifD z ((aa (sl s 0) (.ref 0 0)).bind fun z=>(bp z (sl s 0)).bind fun i=>(aa i i).bind fun i=>aj (bK [i]) fun d c=>(aC 1 [sl d 0]).bind fun a=>(iu a).bind fun b=>(fT 1 16 (sl s 1) b).bind fun y=>some (.nrm [sl c 0,y,sl s 2])) (some (.ext 0 [sl s 0,sl s 1,sl s 2]))) [sl c 0,.arr 1 [],z]).bind fun o=>cH o (fun i s=>ifN (i.beq 0) ((bin .gtr false [] (sl s 2) (I 0)).bind fun z=>(ab D.bad z true (aa (sl s 0) (.ref 0 0))).bind fun f=>dE z true ((bp f (sl s 0)).bind fun i=>(aa i i).bind fun i=>aj (bn [i,I 24]) fun d c=>some (.nrm [sl d 0,sl c 0])) [.tup [],sl s 0] fun e=>(aE z (sl e 0) (B false)).bind fun z=>ifD z ((aa (sl e 1) (.ref 0 0)).bind fun z=>(bp z (sl e 1)).bind fun i=>(aa i i).bind fun i=>aj (al [i,I 2]) fun d c=>(bin .add false [] (I 40) (sl d 0)).bind fun z=>(aY (fun s=>(lenD true (sl s 3)).bind fun z=>(bin .lss false [] z (sl s 4)).bind fun z=>ifD z ((bin .add false [] (sl s 3) (.v (.string ⟨⟨[120]⟩⟩))).bind fun z=>some (.nrm [sl s 0,sl s 1,sl s 2,z,sl s 4])) (some (.ext 2 [sl s 0,sl s 1,sl s 2,sl s 3]))) [sl c 0,sl s 1,sl s 2,.v (.string ⟨⟨[]⟩⟩),z]).bind fun o=>cH o (fun i s=>ifN (i.beq 2) ((aa (sl s 1) (.ref 0 0)).bind fun z=>(aa (sl s 0) (.ref 0 0)).bind fun g=>(bp g (sl s 0)).bind fun i=>(aa i i).bind fun i=>aj (al [i,sl s 2]) fun d c=>(aa (sl c 0) (.ref 0 0)).bind fun h=>(aC 1 [sl s 3,.v (.string ⟨⟨[65]⟩⟩),.v (.string ⟨⟨[97,46,98]⟩⟩)]).bind fun a=>(bp h (sl c 0)).bind fun i=>(aa i i).bind fun i=>aj (aF [i,a]) fun j c=>((aa z (sl s 1)).bind fun b=>uZ 1 b (sl d 0)).bind fun z=>(stD 1 (sl s 1) z (sl j 0)).bind fun b=>(aa (sl c 0) (sl c 0)).bind fun _=>some (.ret [b] [sl c 0])) none) fun a b=>some (.ret a b)) ((aa (sl e 1) (sl e 1)).bind fun _=>some (.ret [sl s 1] [sl e 1]))) none) fun a b=>some (.ret a b))):=by kernel_rfl
theorem qc (x0 x1:D):bQ [x0,x1]=((aa x0 (.ref 0 0)).bind fun z=>(aC 1 [I 1,I 1,I 2,I 2,I 3,I 3,I 4]).bind fun a=>(bp z x0).bind fun i=>(aa i i).bind fun i=>aj (au [i,a]) fun d c=>(gk [(2,1)] [I 0,I 0,I 0,.v (.string ⟨⟨[]⟩⟩)] [sl d 0]).bind fun z=>(stD 4 (.agg [I 0,I 0,I 0,.v (.string ⟨⟨[]⟩⟩)]) (.ref 0 0) z).bind fun b=>(lenD false x1).bind fun z=>(bin .gtr false [] z (I 0)).bind fun h=>ifD h ((aa (sl c 0) (.ref 0 0)).bind fun e=>(bp e (sl c 0)).bind fun i=>(aa i i).bind fun i=>aj (al [i,z]) fun d c=>(aa b (.ref 0 0)).bind fun z=>(stD 1 b z (sl d 0)).bind fun b=>(aa (sl c 0) (.ref 0 0)).bind fun z=>(aa b (.ref 0 0)).bind fun f=>((atD b f).bind (ao false 1)).bind fun g=>(GK D.ptr (aH 1 x1 g)).bind fun j=>((ldD false 1 j).bind bg).bind fun k=>(lenD true k).bind fun l=>(bin .add false [] l (I 1)).bind fun m=>(bp z (sl c 0)).bind fun i=>(aa i i).bind fun i=>aj (al [i,m]) fun d c=>(aa b (.ref 0 1)).bind fun z=>(stD 1 b z (sl d 0)).bind fun b=>(aa b (.ref 0 2)).bind fun z=>((atD b z).bind (ao false 1)).bind fun z=>(bin .eql false [] z (I 2)).bind fun z=>(ab D.bad z false (aa b (.ref 0 2))).bind fun n=>(ab (.tup []) z false ((atD b n).bind (ao false 1))).bind fun p=>(ab (.tup []) z false (bin .eql false [] p (I 3))).bind fun q=>(aE z (B true) q).bind fun z=>ifD z ((aa (sl c 0) (.ref 0 0)).bind fun z=>(aC 1 [.v (.string ⟨⟨[97]⟩⟩),.v (.string ⟨⟨[98]⟩⟩),.v (.string ⟨⟨[120,121]⟩⟩),.v (.string ⟨⟨[32]⟩⟩),.v (.string ⟨⟨[116,104,101,32]⟩⟩)]).bind fun a=>(bp z (sl c 0)).bind fun i=>(aa i i).bind fun i=>aj (aF [i,a]) fun d c=>(aa b (.ref 0 3)).bind fun z=>(stD 1 b z (sl d 0)).bind fun b=>(aa (sl c 0) (.ref 0 0)).bind fun z=>(bp z (sl c 0)).bind fun i=>(aa i i).bind fun i=>aj (al [i,I 40]) fun d c=>(bin .eql false [] (sl d 0) (I 0)).bind fun z=>ifD z ((aa (sl c 0) (.ref 0 0)).bind fun z=>(aC 1 [I 11,I 12,I (-1)]).bind fun a=>(bp z (sl c 0)).bind fun i=>(aa i i).bind fun i=>aj (au [i,a]) fun d c=>(aa b (.ref 0 0)).bind fun z=>(stD 1 b z (sl d 0)).bind fun b=>(aX true 4 0 b).bind fun z=>(stD 4 (.agg [I 0,I 0,I 0,.v (.string ⟨⟨[]⟩⟩)]) (.ref 0 0) z).bind fun b=>(aX true 4 0 b).bind fun y=>(aa (sl c 0) (sl c 0)).bind fun _=>some (.ret [y] [sl c 0])) ((bin .eql false [] (sl d 0) (I 1)).bind fun z=>ifD z ((aa (sl c 0) (.ref 0 0)).bind fun z=>(aC 1 [I 40,I 41,I (-1)]).bind fun a=>(bp z (sl c 0)).bind fun i=>(aa i i).bind fun i=>aj (au [i,a]) fun d c=>(aa b (.ref 0 1)).bind fun z=>(stD 1 b z (sl d 0)).bind fun b=>(aX true 4 0 b).bind fun z=>(stD 4 (.agg [I 0,I 0,I 0,.v (.string ⟨⟨[]⟩⟩)]) (.ref 0 0) z).bind fun b=>(aX true 4 0 b).bind fun y=>(aa (sl c 0) (sl c 0)).bind fun _=>some (.ret [y] [sl c 0])) ((bin .eql false [] (sl d 0) (I 2)).bind fun z=>ifD z ((aa (sl c 0) (.ref 0 0)).bind fun z=>(aC 1 [I 0,I 5]).bind fun a=>(bp z (sl c 0)).bind fun i=>(aa i i).bind fun i=>aj (au [i,a]) fun d c=>(aa b (.ref 0 2)).bind fun z=>(stD 1 b z (sl d 0)).bind fun b=>(aX true 4 0 b).bind fun z=>(stD 4 (.agg [I 0,I 0,I 0,.v (.string ⟨⟨[]⟩⟩)]) (.ref 0 0) z).bind fun b=>(aX true 4 0 b).bind fun y=>(aa (sl c 0) (sl c 0)).bind fun _=>some (.ret [y] [sl c 0])) ((bin .eql false [] (sl d 0) (I 3)).bind fun z=>ifD z ((aa (sl c 0) (.ref 0 0)).bind fun z=>(aC 1 [.v (.string ⟨⟨[]⟩⟩),.v (.string ⟨⟨[65]⟩⟩),.v (.string ⟨⟨[97,98,99,100,101,102,103,104,105,106]⟩⟩),.v (.string ⟨⟨[97,98,99,100,101,102,103,104,105,106,107]⟩⟩)]).bind fun a=>(bp z (sl c 0)).bind fun i=>(aa i i).bind fun i=>aj (aF [i,a]) fun d c=>(aa b (.ref 0 3)).bind fun z=>(stD 1 b z (sl d 0)).bind fun b=>(aX true 4 0 b).bind fun z=>(stD 4 (.agg [I 0,I 0,I 0,.v (.string ⟨⟨[]⟩⟩)]) (.ref 0 0) z).bind fun b=>(aX true 4 0 b).bind fun y=>(aa (sl c 0) (sl c 0)).bind fun _=>some (.ret [y] [sl c 0])) ((aX true 4 0 b).bind fun z=>(stD 4 (.agg [I 0,I 0,I 0,.v (.string ⟨⟨[]⟩⟩)]) (.ref 0 0) z).bind fun b=>(aX true 4 0 b).bind fun y=>(aa (sl c 0) (sl c 0)).bind fun _=>some (.ret [y] [sl c 0])))))) ((aa (sl c 0) (.ref 0 0)).bind fun z=>(bp z (sl c 0)).bind fun i=>(aa i i).bind fun i=>aj (al [i,I 40]) fun d c=>(bin .eql false [] (sl d 0) (I 0)).bind fun z=>ifD z ((aa (sl c 0) (.ref 0 0)).bind fun z=>(aC 1 [I 11,I 12,I (-1)]).bind fun a=>(bp z (sl c 0)).bind fun i=>(aa i i).bind fun i=>aj (au [i,a]) fun d c=>(aa b (.ref 0 0)).bind fun z=>(stD 1 b z (sl d 0)).bind fun b=>(aX true 4 0 b).bind fun z=>(stD 4 (.agg [I 0,I 0,I 0,.v (.string ⟨⟨[]⟩⟩)]) (.ref 0 0) z).bind fun b=>(aX true 4 0 b).bind fun y=>(aa (sl c 0) (sl c 0)).bind fun _=>some (.ret [y] [sl c 0])) ((bin .eql false [] (sl d 0) (I 1)).bind fun z=>ifD z ((aa (sl c 0) (.ref 0 0)).bind fun z=>(aC 1 [I 40,I 41,I (-1)]).bind fun a=>(bp z (sl c 0)).bind fun i=>(aa i i).bind fun i=>aj (au [i,a]) fun d c=>(aa b (.ref 0 1)).bind fun z=>(stD 1 b z (sl d 0)).bind fun b=>(aX true 4 0 b).bind fun z=>(stD 4 (.agg [I 0,I 0,I 0,.v (.string ⟨⟨[]⟩⟩)]) (.ref 0 0) z).bind fun b=>(aX true 4 0 b).bind fun y=>(aa (sl c 0) (sl c 0)).bind fun _=>some (.ret [y] [sl c 0])) ((bin .eql false [] (sl d 0) (I 2)).bind fun z=>ifD z ((aa (sl c 0) (.ref 0 0)).bind fun z=>(aC 1 [I 0,I 5]).bind fun a=>(bp z (sl c 0)).bind fun i=>(aa i i).bind fun i=>aj (au [i,a]) fun d c=>(aa b (.ref 0 2)).bind fun z=>(stD 1 b z (sl d 0)).bind fun b=>(aX true 4 0 b).bind fun z=>(stD 4 (.agg [I 0,I 0,I 0,.v (.string ⟨⟨[]⟩⟩)]) (.ref 0 0) z).bind fun b=>(aX true 4 0 b).bind fun y=>(aa (sl c 0) (sl c 0)).bind fun _=>some (.ret [y] [sl c 0])) ((bin .eql false [] (sl d 0) (I 3)).bind fun z=>ifD z ((aa (sl c 0) (.ref 0 0)).bind fun z=>(aC 1 [.v (.string ⟨⟨[]⟩⟩),.v (.string ⟨⟨[65]⟩⟩),.v (.string ⟨⟨[97,98,99,100,101,102,103,104,105,106]⟩⟩),.v (.string ⟨⟨[97,98,99,100,101,102,103,104,105,106,107]⟩⟩)]).bind fun a=>(bp z (sl c 0)).bind fun i=>(aa i i).bind fun i=>aj (aF [i,a]) fun d c=>(aa b (.ref 0 3)).bind fun z=>(stD 1 b z (sl d 0)).bind fun b=>(aX true 4 0 b).bind fun z=>(stD 4 (.agg [I 0,I 0,I 0,.v (.string ⟨⟨[]⟩⟩)]) (.ref 0 0) z).bind fun b=>(aX true 4 0 b).bind fun y=>(aa (sl c 0) (sl c 0)).bind fun _=>some (.ret [y] [sl c 0])) ((aX true 4 0 b).bind fun z=>(stD 4 (.agg [I 0,I 0,I 0,.v (.string ⟨⟨[]⟩⟩)]) (.ref 0 0) z).bind fun b=>(aX true 4 0 b).bind fun y=>(aa (sl c 0) (sl c 0)).bind fun _=>some (.ret [y] [sl c 0]))))))) ((aa b (.ref 0 2)).bind fun z=>((atD b z).bind (ao false 1)).bind fun z=>(bin .eql false [] z (I 2)).bind fun z=>(ab D.bad z false (aa b (.ref 0 2))).bind fun e=>(ab (.tup []) z false ((atD b e).bind (ao false 1))).bind fun f=>(ab (.tup []) z false (bin .eql false [] f (I 3))).bind fun g=>(aE z (B true) g).bind fun z=>ifD z ((aa (sl c 0) (.ref 0 0)).bind fun z=>(aC 1 [.v (.string ⟨⟨[97]⟩⟩),.v (.string ⟨⟨[98]⟩⟩),.v (.string ⟨⟨[120,121]⟩⟩),.v (.string ⟨⟨[32]⟩⟩),.v (.string ⟨⟨[116,104,101,32]⟩⟩)]).bind fun a=>(bp z (sl c 0)).bind fun i=>(aa i i).bind fun i=>aj (aF [i,a]) fun d c=>(aa b (.ref 0 3)).bind fun z=>(stD 1 b z (sl d 0)).bind fun b=>(aa (sl c 0) (.ref 0 0)).bind fun z=>(bp z (sl c 0)).bind fun i=>(aa i i).bind fun i=>aj (al [i,I 40]) fun d c=>(bin .eql false [] (sl d 0) (I 0)).bind fun z=>ifD z ((aa (sl c 0) (.ref 0 0)).bind fun z=>(aC 1 [I 11,I 12,I (-1)]).bind fun a=>(bp z (sl c 0)).bind fun i=>(aa i i).bind fun i=>aj (au [i,a]) fun d c=>(aa b (.ref 0 0)).bind fun z=>(stD 1 b z (sl d 0)).bind fun b=>(aX true 4 0 b).bind fun z=>(stD 4 (.agg [I 0,I 0,I 0,.v (.string ⟨⟨[]⟩⟩)]) (.ref 0 0) z).bind fun b=>(aX true 4 0 b).bind fun y=>(aa (sl c 0) (sl c 0)).bind fun _=>some (.ret [y] [sl c 0])) ((bin .eql false [] (sl d 0) (I 1)).bind fun z=>ifD z ((aa (sl c 0) (.ref 0 0)).bind fun z=>(aC 1 [I 40,I 41,I (-1)]).bind fun a=>(bp z (sl c 0)).bind fun i=>(aa i i).bind fun i=>aj (au [i,a]) fun d c=>(aa b (.ref 0 1)).bind fun z=>(stD 1 b z (sl d 0)).bind fun b=>(aX true 4 0 b).bind fun z=>(stD 4 (.agg [I 0,I 0,I 0,.v (.string ⟨⟨[]⟩⟩)]) (.ref 0 0) z).bind fun b=>(aX true 4 0 b).bind fun y=>(aa (sl c 0) (sl c 0)).bind fun _=>some (.ret [y] [sl c 0])) ((bin .eql false [] (sl d 0) (I 2)).bind fun z=>ifD z ((aa (sl c 0) (.ref 0 0)).bind fun z=>(aC 1 [I 0,I 5]).bind fun a=>(bp z (sl c 0)).bind fun i=>(aa i i).bind fun i=>aj (au [i,a]) fun d c=>(aa b (.ref 0 2)).bind fun z=>(stD 1 b z (sl d 0)).bind fun b=>(aX true 4 0 b).bind fun z=>(stD 4 (.agg [I 0,I 0,I 0,.v (.string ⟨⟨[]⟩⟩)]) (.ref 0 0) z).bind fun b=>(aX true 4 0 b).bind fun y=>(aa (sl c 0) (sl c 0)).bind fun _=>some (.ret [y] [sl c 0])) ((bin .eql false [] (sl d 0) (I 3)).bind fun z=>ifD z ((aa (sl c 0) (.ref 0 0)).bind fun z=>(aC 1 [.v (.string ⟨⟨[]⟩⟩),.v (.string ⟨⟨[65]⟩⟩),.v (.string ⟨⟨[97,98,99,100,101,102,103,104,105,106]⟩⟩),.v (.string ⟨⟨[97,98,99,100,101,102,103,104,105,106,107]⟩⟩)]).bind fun a=>(bp z (sl c 0)).bind fun i=>(aa i i).bind fun i=>aj (aF [i,a]) fun d c=>(aa b (.ref 0 3)).bind fun z=>(stD 1 b z (sl d 0)).bind fun b=>(aX true 4 0 b).bind fun z=>(stD 4 (.agg [I 0,I 0,I 0,.v (.string ⟨⟨[]⟩⟩)]) (.ref 0 0) z).bind fun b=>(aX true 4 0 b).bind fun y=>(aa (sl c 0) (sl c 0)).bind fun _=>some (.ret [y] [sl c 0])) ((aX true 4 0 b).bind fun z=>(stD 4 (.agg [I 0,I 0,I 0,.v (.string ⟨⟨[]⟩⟩)]) (.ref 0 0) z).bind fun b=>(aX true 4 0 b).bind fun y=>(aa (sl c 0) (sl c 0)).bind fun _=>some (.ret [y] [sl c 0])))))) ((aa (sl c 0) (.ref 0 0)).bind fun z=>(bp z (sl c 0)).bind fun i=>(aa i i).bind fun i=>aj (al [i,I 40]) fun d c=>(bin .eql false [] (sl d 0) (I 0)).bind fun z=>ifD z ((aa (sl c 0) (.ref 0 0)).bind fun z=>(aC 1 [I 11,I 12,I (-1)]).bind fun a=>(bp z (sl c 0)).bind fun i=>(aa i i).bind fun i=>aj (au [i,a]) fun d c=>(aa b (.ref 0 0)).bind fun z=>(stD 1 b z (sl d 0)).bind fun b=>(aX true 4 0 b).bind fun z=>(stD 4 (.agg [I 0,I 0,I 0,.v (.string ⟨⟨[]⟩⟩)]) (.ref 0 0) z).bind fun b=>(aX true 4 0 b).bind fun y=>(aa (sl c 0) (sl c 0)).bind fun _=>some (.ret [y] [sl c 0])) ((bin .eql false [] (sl d 0) (I 1)).bind fun z=>ifD z ((aa (sl c 0) (.ref 0 0)).bind fun z=>(aC 1 [I 40,I 41,I (-1)]).bind fun a=>(bp z (sl c 0)).bind fun i=>(aa i i).bind fun i=>aj (au [i,a]) fun d c=>(aa b (.ref 0 1)).bind fun z=>(stD 1 b z (sl d 0)).bind fun b=>(aX true 4 0 b).bind fun z=>(stD 4 (.agg [I 0,I 0,I 0,.v (.string ⟨⟨[]⟩⟩)]) (.ref 0 0) z).bind fun b=>(aX true 4 0 b).bind fun y=>(aa (sl c 0) (sl c 0)).bind fun _=>some (.ret [y] [sl c 0])) ((bin .eql false [] (sl d 0) (I 2)).bind fun z=>ifD z ((aa (sl c 0) (.ref 0 0)).bind fun z=>(aC 1 [I 0,I 5]).bind fun a=>(bp z (sl c 0)).bind fun i=>(aa i i).bind fun i=>aj (au [i,a]) fun d c=>(aa b (.ref 0 2)).bind fun z=>(stD 1 b z (sl d 0)).bind fun b=>(aX true 4 0 b).bind fun z=>(stD 4 (.agg [I 0,I 0,I 0,.v (.string ⟨⟨[]⟩⟩)]) (.ref 0 0) z).bind fun b=>(aX true 4 0 b).bind fun y=>(aa (sl c 0) (sl c 0)).bind fun _=>some (.ret [y] [sl c 0])) ((bin .eql false [] (sl d 0) (I 3)).bind fun z=>ifD z ((aa (sl c 0) (.ref 0 0)).bind fun z=>(aC 1 [.v (.string ⟨⟨[]⟩⟩),.v (.string ⟨⟨[65]⟩⟩),.v (.string ⟨⟨[97,98,99,100,101,102,103,104,105,106]⟩⟩),.v (.string ⟨⟨[97,98,99,100,101,102,103,104,105,106,107]⟩⟩)]).bind fun a=>(bp z (sl c 0)).bind fun i=>(aa i i).bind fun i=>aj (aF [i,a]) fun d c=>(aa b (.ref 0 3)).bind fun z=>(stD 1 b z (sl d 0)).bind fun b=>(aX true 4 0 b).bind fun z=>(stD 4 (.agg [I 0,I 0,I 0,.v (.string ⟨⟨[]⟩⟩)]) (.ref 0 0) z).bind fun b=>(aX true 4 0 b).bind fun y=>(aa (sl c 0) (sl c 0)).bind fun _=>some (.ret [y] [sl c 0])) ((aX true 4 0 b).bind fun z=>(stD 4 (.agg [I 0,I 0,I 0,.v (.string ⟨⟨[]⟩⟩)]) (.ref 0 0) z).bind fun b=>(aX true 4 0 b).bind fun y=>(aa (sl c 0) (sl c 0)).bind fun _=>some (.ret [y] [sl c 0])))))))):=by kernel_rfl
theorem oB (x0 x1:D):dK [x0,x1]=((aa x0 (.ref 0 0)).bind fun z=>(bp z x0).bind fun i=>(aa i i).bind fun i=>aj (al [i,I 6]) fun d c=>(aa (sl c 0) (.ref 0 0)).bind fun z=>(bp z (sl c 0)).bind fun i=>(aa i i).bind fun i=>aj (bn [i,I 16]) fun zc c=>ifD (sl zc 0) ((aa (sl c 0) (.ref 0 0)).bind fun z=>(bp z (sl c 0)).bind fun i=>(aa i i).bind fun i=>aj (al [i,I 2]) fun d c=>(bin .add false [] (I 20) (sl d 0)).bind fun z=>(aY (fun s=>(aa (sl s 2) (.ref 0 0)).bind fun z=>((aa z (sl s 2)).bind (lenD false)).bind fun z=>(bin .lss false [] z (sl s 3)).bind fun z=>ifD z ((aa (sl s 0) (.ref 0 0)).bind fun z=>(bp z (sl s 0)).bind fun i=>(aa i i).bind fun i=>aj (bQ [i,sl s 1]) fun d c=>(stD 4 (.agg [I 0,I 0,I 0,.v (.string ⟨⟨[]⟩⟩)]) (.ref 0 0) (sl d 0)).bind fun b=>(aa (sl c 0) (.ref 0 0)).bind fun z=>(bp z (sl c 0)).bind fun i=>(aa i i).bind fun i=>aj (bn [i,I 4]) fun d c=>(un .not (sl d 0)).bind fun z=>(ab D.bad z true (aa b (.ref 0 0))).bind fun e=>(ab (.tup []) z true ((atD b e).bind (ao false 1))).bind fun f=>(ab (.tup []) z true (some (sl s 1))).bind fun g=>(ab (.tup []) z true (lenD false g)).bind fun h=>(ab (.tup []) z true (bin .sub false [] h (I 1))).bind fun j=>dE z true (aj (cD [f,I 0,j]) fun d _=>some (.nrm [sl d 0])) [.tup []] fun k=>(aE z (sl k 0) (B false)).bind fun z=>(ab D.bad z true (aa b (.ref 0 1))).bind fun l=>(ab (.tup []) z true ((atD b l).bind (ao false 1))).bind fun m=>(ab (.tup []) z true (some (sl s 1))).bind fun n=>(ab D.bad z true (aa b (.ref 0 0))).bind fun p=>(ab (.tup []) z true ((atD b p).bind (ao false 1))).bind fun q=>(ab (.tup []) z true (GK D.ptr (aH 1 n q))).bind fun r=>(ab (.tup []) z true ((ldD false 1 r).bind bg)).bind fun t=>(ab (.tup []) z true (lenD true t)).bind fun u=>(ab (.tup []) z true (bin .eql false [] m u)).bind fun v=>(aE z v (B false)).bind fun z=>(ab D.bad z true (aa b (.ref 0 2))).bind fun w=>(ab (.tup []) z true ((atD b w).bind (ao false 1))).bind fun za=>(ab (.tup []) z true (bin .neq false [] za (I 4))).bind fun zb=>(aE z zb (B false)).bind fun z=>ifD z ((aa b (.ref 0 2)).bind fun z=>(stD 1 b z (I 2)).bind fun b=>(aa b (.ref 0 3)).bind fun z=>(stD 1 b z (.v (.string ⟨⟨[122]⟩⟩))).bind fun b=>(aX true 4 0 b).bind fun z=>(aC 4 [z]).bind fun a=>(iu a).bind fun b=>(fT 4 40 (sl s 2) b).bind fun y=>some (.nrm [sl c 0,sl s 1,y,sl s 3])) ((aX true 4 0 b).bind fun z=>(aC 4 [z]).bind fun a=>(iu a).bind fun b=>(fT 4 40 (sl s 2) b).bind fun y=>some (.nrm [sl c 0,sl s 1,y,sl s 3]))) (some (.ext 0 [sl s 0,sl s 2]))) [sl c 0,x1,.arr 4 [],z]).bind fun o=>cH o (fun i s=>ifN (i.beq 0) ((aa (sl s 0) (sl s 0)).bind fun _=>some (.ret [sl s 1] [sl s 0])) none) fun a b=>some (.ret a b)) ((aY (fun s=>(aa (sl s 2) (.ref 0 0)).bind fun z=>((aa z (sl s 2)).bind (lenD false)).bind fun z=>(bin .lss false [] z (sl s 3)).bind fun z=>ifD z ((aa (sl s 0) (.ref 0 0)).bind fun z=>(bp z (sl s 0)).bind fun i=>(aa i i).bind fun i=>aj (bQ [i,sl s 1]) fun d c=>(stD 4 (.agg [I 0,I 0,I 0,.v (.string ⟨⟨[]⟩⟩)]) (.ref 0 0) (sl d 0)).bind fun b=>(aa (sl c 0) (.ref 0 0)).bind fun z=>(bp z (sl c 0)).bind fun i=>(aa i i).bind fun i=>aj (bn [i,I 4]) fun d c=>(un .not (sl d 0)).bind fun z=>(ab D.bad z true (aa b (.ref 0 0))).bind fun e=>(ab (.tup []) z true ((atD b e).bind (ao false 1))).bind fun f=>(ab (.tup []) z true (some (sl s 1))).bind fun g=>(ab (.tup []) z true (lenD false g)).bind fun h=>(ab (.tup []) z true (bin .sub false [] h (I 1))).bind fun j=>dE z true (aj (cD [f,I 0,j]) fun d _=>some (.nrm [sl d 0])) [.tup []] fun k=>(aE z (sl k 0) (B false)).bind fun z=>(ab D.bad z true (aa b (.ref 0 1))).bind fun l=>(ab (.tup []) z true ((atD b l).bind (ao false 1))).bind fun m=>(ab (.tup []) z true (some (sl s 1))).bind fun n=>(ab D.bad z true (aa b (.ref 0 0))).bind fun p=>(ab (.tup []) z true ((atD b p).bind (ao false 1))).bind fun q=>(ab (.tup []) z true (GK D.ptr (aH 1 n q))).bind fun r=>(ab (.tup []) z true ((ldD false 1 r).bind bg)).bind fun t=>(ab (.tup []) z true (lenD true t)).bind fun u=>(ab (.tup []) z true (bin .eql false [] m u)).bind fun v=>(aE z v (B false)).bind fun z=>(ab D.bad z true (aa b (.ref 0 2))).bind fun w=>(ab (.tup []) z true ((atD b w).bind (ao false 1))).bind fun za=>(ab (.tup []) z true (bin .neq false [] za (I 4))).bind fun zb=>(aE z zb (B false)).bind fun z=>ifD z ((aa b (.ref 0 2)).bind fun z=>(stD 1 b z (I 2)).bind fun b=>(aa b (.ref 0 3)).bind fun z=>(stD 1 b z (.v (.string ⟨⟨[122]⟩⟩))).bind fun b=>(aX true 4 0 b).bind fun z=>(aC 4 [z]).bind fun a=>(iu a).bind fun b=>(fT 4 40 (sl s 2) b).bind fun y=>some (.nrm [sl c 0,sl s 1,y,sl s 3])) ((aX true 4 0 b).bind fun z=>(aC 4 [z]).bind fun a=>(iu a).bind fun b=>(fT 4 40 (sl s 2) b).bind fun y=>some (.nrm [sl c 0,sl s 1,y,sl s 3]))) (some (.ext 0 [sl s 0,sl s 2]))) [sl c 0,x1,.arr 4 [],sl d 0]).bind fun o=>cH o (fun i s=>ifN (i.beq 0) ((aa (sl s 0) (sl s 0)).bind fun _=>some (.ret [sl s 1] [sl s 0])) none) fun a b=>some (.ret a b))):=by kernel_rfl
theorem nA (x0:D):cA [x0]=((gk [(0,1)] [.arr 1 [],I 0,.v (GL GO 0)] [x0]).bind fun z=>(iS 3 z).bind fun y=>(aa y (.ref 0 0)).bind fun z=>(aa z z).bind fun d=>(bp d y).bind fun i=>(aa i i).bind fun i=>aj (bX [i]) fun c e=>(aa z z).bind fun z=>(bp z (sl e 0)).bind fun i=>(aa i i).bind fun i=>aj (dK [i,sl c 0]) fun f _=>some (.ret [sl c 0,sl f 0] [])):=by kernel_rfl
theorem kj (x0:D):ck [x0]=(aj (cA [x0]) fun c _=>(bB (.tup c) 0).bind fun z=>(bB (.tup c) 1).bind fun y=>some (.ret [z,y] [])):=by kernel_rfl
theorem uJ (x0 x1:D):gp [x0,x1]=((lenD false x0).bind fun z=>(lenD false x1).bind fun c=>(bin .neq false [] z c).bind fun z=>ifD z (some (.ret [B false] [])) ((lenD false x0).bind fun z=>(aY (fun s=>(bin .lss false [] (sl s 3) (sl s 2)).bind fun z=>ifD z ((GK D.ptr (aH 1 (sl s 0) (sl s 3))).bind fun z=>((ldD false 1 z).bind bg).bind fun z=>(GK D.ptr (aH 1 (sl s 1) (sl s 3))).bind fun d=>((ldD false 1 d).bind bg).bind fun e=>(bin .neq false [] z e).bind fun z=>ifD z (some (.ret [B false] [])) ((bin .add false [] (sl s 3) (I 1)).bind fun z=>some (.nrm [sl s 0,sl s 1,sl s 2,z]))) (some (.ext 0 []))) [x0,x1,z,I 0]).bind fun o=>cH o (fun i _=>ifN (i.beq 0) (some (.ret [B true] [])) none) fun a b=>some (.ret a b))):=by kernel_rfl
theorem wm (x0 x1:D):fP [x0,x1]=((lenD false x0).bind fun z=>(lenD false x1).bind fun c=>(bin .neq false [] z c).bind fun z=>ifD z (some (.ret [B false] [])) ((lenD false x0).bind fun z=>(aY (fun s=>(bin .lss false [] (sl s 3) (sl s 2)).bind fun z=>ifD z ((GK D.ptr (aH 1 (sl s 0) (sl s 3))).bind fun z=>((ldD false 1 z).bind bg).bind fun z=>(GK D.ptr (aH 1 (sl s 1) (sl s 3))).bind fun d=>((ldD false 1 d).bind bg).bind fun e=>(bin .neq false [] z e).bind fun z=>ifD z (some (.ret [B false] [])) ((bin .add false [] (sl s 3) (I 1)).bind fun z=>some (.nrm [sl s 0,sl s 1,sl s 2,z]))) (some (.ext 0 []))) [x0,x1,z,I 0]).bind fun o=>cH o (fun i _=>ifN (i.beq 0) (some (.ret [B true] [])) none) fun a b=>some (.ret a b))):=by kernel_rfl
theorem uP (x0 x1:D):gu [x0,x1]=((lenD false x0).bind fun z=>(lenD false x1).bind fun c=>(bin .neq false [] z c).bind fun z=>ifD z (some (.ret [B false] [])) ((lenD false x0).bind fun z=>(aY (fun s=>(bin .lss false [] (sl s 3) (sl s 2)).bind fun z=>ifD z ((GK D.ptr (aH 1 (sl s 0) (sl s 3))).bind fun z=>(ldD false 1 z).bind fun z=>(GK D.ptr (aH 1 (sl s 1) (sl s 3))).bind fun d=>(ldD false 1 d).bind fun e=>aj (fP [z,e]) fun f _=>(un .not (sl f 0)).bind fun z=>ifD z (some (.ret [B false] [])) ((bin .add false [] (sl s 3) (I 1)).bind fun z=>some (.nrm [sl s 0,sl s 1,sl s 2,z]))) (some (.ext 0 []))) [x0,x1,z,I 0]).bind fun o=>cH o (fun i _=>ifN (i.beq 0) (some (.ret [B true] [])) none) fun a b=>some (.ret a b))):=by kernel_rfl
theorem nE (x0:D):dn [x0]=((gk [(0,1)] [.arr 1 [],I 0,.v (GL GO 0)] [x0]).bind fun z=>(iS 3 z).bind fun y=>(aa y (.ref 0 0)).bind fun z=>(aa z z).bind fun d=>(aa z z).bind fun z=>(bp z y).bind fun i=>(aa i i).bind fun i=>aj (bX [i]) fun c e=>(bp d (sl e 0)).bind fun i=>(aa i i).bind fun i=>aj (bQ [i,sl c 0]) fun c _=>(stD 4 (.agg [I 0,I 0,I 0,.v (.string ⟨⟨[]⟩⟩)]) (.ref 0 0) (sl c 0)).bind fun b=>(aX true 4 0 b).bind fun y=>some (.ret [y] [])):=by kernel_rfl
theorem rP (x0:D):dR [x0]=((iS 4 x0).bind fun y=>(aa y (.ref 0 0)).bind fun z=>((atD y z).bind (ao false 1)).bind fun z=>aj (ua [z]) fun c _=>(bin .add false [] (sl c 0) (.v (.string ⟨⟨[58]⟩⟩))).bind fun z=>(aa y (.ref 0 1)).bind fun d=>((atD y d).bind (ao false 1)).bind fun e=>aj (ua [e]) fun c _=>(bin .add false [] z (sl c 0)).bind fun z=>(aC 1 [.v (.string ⟨⟨[]⟩⟩),.v (.string ⟨⟨[100]⟩⟩),.v (.string ⟨⟨[105]⟩⟩),.v (.string ⟨⟨[114]⟩⟩),.v (.string ⟨⟨[115]⟩⟩)]).bind fun a=>(aa y (.ref 0 2)).bind fun f=>((atD y f).bind (ao false 1)).bind fun g=>(GK D.ptr (aH 1 a g)).bind fun h=>((ldD false 1 h).bind bg).bind fun j=>(bin .add false [] z j).bind fun z=>(aa y (.ref 0 3)).bind fun k=>((atD y k).bind (ao false 1)).bind fun l=>(bin .add false [] z l).bind fun z=>some (.ret [z] [])):=by kernel_rfl
theorem rM (x0:D):dQ [x0]=((iS 4 x0).bind fun y=>(aX true 4 0 y).bind fun z=>aj (bY [z]) fun c _=>(un .not (sl c 0)).bind fun z=>ifD z (some (.ret [.v (.string ⟨⟨[]⟩⟩),B false] [])) ((aX true 4 0 y).bind fun z=>aj (dR [z]) fun c _=>some (.ret [sl c 0,B true] []))):=by kernel_rfl
theorem wn (n:Nat) (x0:D):br (n+1) [x0]=((bin .lss false [] x0 (I 10)).bind fun z=>ifD z ((bin .add false [] (I 48) x0).bind fun z=>(ib (some .u8) false z).bind fun z=>(aC 1 [z]).bind fun a=>(qL a).bind fun z=>some (.ret [z] [])) ((bin .quo false [] x0 (I 10)).bind fun z=>aj (br n [z]) fun c _=>(bin .rem false [] x0 (I 10)).bind fun z=>(bin .add false [] (I 48) z).bind fun z=>(ib (some .u8) false z).bind fun z=>(aC 1 [z]).bind fun a=>(qL a).bind fun z=>(bin .add false [] (sl c 0) z).bind fun z=>some (.ret [z] []))):=by kernel_rfl
theorem va (x0:D):ed [x0]=((iS 4 x0).bind fun y=>(aa y (.ref 0 0)).bind fun z=>((atD y z).bind (ao false 1)).bind fun z=>aj (ir [z]) fun c _=>(bin .add false [] (sl c 0) (.v (.string ⟨⟨[58]⟩⟩))).bind fun z=>(aa y (.ref 0 1)).bind fun d=>((atD y d).bind (ao false 1)).bind fun e=>aj (ir [e]) fun c _=>(bin .add false [] z (sl c 0)).bind fun z=>(aa y (.ref 0 2)).bind fun f=>((atD y f).bind (ao false 1)).bind fun g=>(aa y (.ref 0 2)).bind fun h=>((atD y h).bind (ao false 1)).bind fun j=>(bin .add false [] j (I 1)).bind fun k=>(cY true 0 (.v (.string ⟨⟨[63,100,105,114,115]⟩⟩)) g k).bind fun l=>(bin .add false [] z l).bind fun z=>(aa y (.ref 0 3)).bind fun m=>((atD y m).bind (ao false 1)).bind fun n=>(bin .add false [] z n).bind fun z=>some (.ret [z] [])):=by kernel_rfl
theorem rO (x0:D):eY [x0]=((iS 4 x0).bind fun y=>(aX true 4 0 y).bind fun z=>aj (cV [z]) fun c _=>(un .not (sl c 0)).bind fun z=>ifD z (some (.ret [.v (.string ⟨⟨[]⟩⟩),B false] [])) ((aX true 4 0 y).bind fun z=>aj (ed [z]) fun c _=>some (.ret [sl c 0,B true] []))):=by kernel_rfl
theorem nq (x0 x1 x2:D):cz [x0,x1,x2]=((aa x0 (.ref 0 0)).bind fun z=>(bp z x0).bind fun i=>(aa i i).bind fun i=>aj (al [i,I 2]) fun d c=>(bin .add false [] (I 1) (sl d 0)).bind fun z=>(aY (fun s=>(bin .gtr false [] (sl s 3) (I 0)).bind fun z=>(ab (.tup []) z true (some (sl s 1))).bind fun k=>(ab (.tup []) z true (lenD true k)).bind fun l=>(ab (.tup []) z true (bin .gtr false [] l (I 0))).bind fun m=>(aE z m (B false)).bind fun z=>ifD z ((aa (sl s 0) (.ref 0 0)).bind fun z=>(lenD true (sl s 1)).bind fun n=>(bp z (sl s 0)).bind fun i=>(aa i i).bind fun i=>aj (al [i,n]) fun d c=>(aa (sl c 0) (.ref 0 0)).bind fun z=>(lenD true (sl s 2)).bind fun p=>(bp z (sl c 0)).bind fun i=>(aa i i).bind fun i=>aj (al [i,p]) fun q c=>(du (sl s 2) (sl q 0)).bind fun z=>(aC 1 [z]).bind fun a=>(qL a).bind fun z=>(aa (sl c 0) (.ref 0 0)).bind fun r=>(bp r (sl c 0)).bind fun i=>(aa i i).bind fun i=>aj (al [i,I 3]) fun j c=>(bin .eql false [] (sl j 0) (I 0)).bind fun t=>ifD t ((cY true 0 (sl s 1) (I 0) (sl d 0)).bind fun g=>(bin .add false [] g z).bind fun z=>(bR true 0 (sl s 1) (sl d 0)).bind fun e=>(bin .add false [] z e).bind fun z=>(bin .sub false [] (sl s 3) (I 1)).bind fun f=>some (.nrm [sl c 0,z,sl s 2,f])) ((bin .eql false [] (sl j 0) (I 1)).bind fun g=>ifD g ((cY true 0 (sl s 1) (I 0) (sl d 0)).bind fun e=>(bin .add false [] e z).bind fun z=>(bin .add false [] (sl d 0) (I 1)).bind fun f=>(bR true 0 (sl s 1) f).bind fun h=>(bin .add false [] z h).bind fun z=>(bin .sub false [] (sl s 3) (I 1)).bind fun u=>some (.nrm [sl c 0,z,sl s 2,u])) ((cY true 0 (sl s 1) (I 0) (sl d 0)).bind fun z=>(bin .add false [] (sl d 0) (I 1)).bind fun e=>(bR true 0 (sl s 1) e).bind fun f=>(bin .add false [] z f).bind fun z=>(bin .sub false [] (sl s 3) (I 1)).bind fun h=>some (.nrm [sl c 0,z,sl s 2,h])))) (some (.ext 0 [sl s 0,sl s 1]))) [sl c 0,x1,x2,z]).bind fun o=>cH o (fun i s=>ifN (i.beq 0) ((aa (sl s 0) (sl s 0)).bind fun _=>some (.ret [sl s 1] [sl s 0])) none) fun a b=>some (.ret a b)):=by kernel_rfl
theorem my (x0:D):cO [x0]=((gk [(0,1)] [.arr 1 [],I 0,.v (GL GO 0)] [x0]).bind fun z=>(iS 3 z).bind fun y=>(aa y (.ref 0 0)).bind fun z=>(aa z z).bind fun j=>(aC 1 [.v (.string ⟨⟨[116,104,101,32,99,97,116]⟩⟩),.v (.string ⟨⟨[111,110]⟩⟩)]).bind fun a=>(bp j y).bind fun i=>(aa i i).bind fun i=>aj (bQ [i,a]) fun c d=>(stD 4 (.agg [I 0,I 0,I 0,.v (.string ⟨⟨[]⟩⟩)]) (.ref 0 0) (sl c 0)).bind fun b=>(aX true 4 0 b).bind fun k=>aj (cV [k]) fun c _=>ifD (sl c 0) ((aX true 4 0 b).bind fun e=>aj (ed [e]) fun c _=>(aa z z).bind fun f=>(bp f (sl d 0)).bind fun i=>(aa i i).bind fun i=>aj (al [i,I 4]) fun h d=>(bin .eql false [] (sl h 0) (I 0)).bind fun g=>ifD g ((aa z z).bind fun z=>(bp z (sl d 0)).bind fun i=>(aa i i).bind fun i=>aj (cz [i,sl c 0,.v (.string ⟨⟨[58,100,105,114,115,97,48,49]⟩⟩)]) fun c _=>some (.ret [sl c 0] [])) ((bin .eql false [] (sl h 0) (I 1)).bind fun l=>ifD l ((aa z z).bind fun z=>(aC 1 [.v (.string ⟨⟨[]⟩⟩),.v (.string ⟨⟨[48,58,48]⟩⟩),.v (.string ⟨⟨[48,58,48,120]⟩⟩),.v (.string ⟨⟨[48,58,48,100,97]⟩⟩),.v (.string ⟨⟨[48,58,48,105]⟩⟩),.v (.string ⟨⟨[48,48,58,48,100]⟩⟩),.v (.string ⟨⟨[48,58,52,49,100]⟩⟩),.v (.string ⟨⟨[49,49,58,52,48,115]⟩⟩),.v (.string ⟨⟨[48,58,48,58,100]⟩⟩),.v (.string ⟨⟨[58,100]⟩⟩)]).bind fun a=>(bp z (sl d 0)).bind fun i=>(aa i i).bind fun i=>aj (aF [i,a]) fun c _=>some (.ret [sl c 0] [])) (some (.ret [sl c 0] [])))) ((aa z z).bind fun e=>(bp e (sl d 0)).bind fun i=>(aa i i).bind fun i=>aj (al [i,I 4]) fun c d=>(bin .eql false [] (sl c 0) (I 0)).bind fun f=>ifD f ((aa z z).bind fun z=>(bp z (sl d 0)).bind fun i=>(aa i i).bind fun i=>aj (cz [i,.v (.string ⟨⟨[48,58,48,100]⟩⟩),.v (.string ⟨⟨[58,100,105,114,115,97,48,49]⟩⟩)]) fun c _=>some (.ret [sl c 0] [])) ((bin .eql false [] (sl c 0) (I 1)).bind fun g=>ifD g ((aa z z).bind fun z=>(aC 1 [.v (.string ⟨⟨[]⟩⟩),.v (.string ⟨⟨[48,58,48]⟩⟩),.v (.string ⟨⟨[48,58,48,120]⟩⟩),.v (.string ⟨⟨[48,58,48,100,97]⟩⟩),.v (.string ⟨⟨[48,58,48,105]⟩⟩),.v (.string ⟨⟨[48,48,58,48,100]⟩⟩),.v (.string ⟨⟨[48,58,52,49,100]⟩⟩),.v (.string ⟨⟨[49,49,58,52,48,115]⟩⟩),.v (.string ⟨⟨[48,58,48,58,100]⟩⟩),.v (.string ⟨⟨[58,100]⟩⟩)]).bind fun a=>(bp z (sl d 0)).bind fun i=>(aa i i).bind fun i=>aj (aF [i,a]) fun c _=>some (.ret [sl c 0] [])) (some (.ret [.v (.string ⟨⟨[48,58,48,100]⟩⟩)] []))))):=by kernel_rfl
theorem qm (x0:D):eG [x0]=((aC 1 []).bind fun a=>aj (fq 97 kA [x0,.clo 97 []]) fun c _=>(lenD false (sl c 0)).bind fun z=>(aY (fun s=>(bin .lss false [] (sl s 3) (sl s 2)).bind fun z=>ifD z ((GK D.ptr (aH 1 (sl s 1) (sl s 3))).bind fun z=>((ldD false 1 z).bind bg).bind fun z=>aj (vD [z]) fun c _=>(bB (.tup c) 0).bind fun z=>(bB (.tup c) 1).bind fun d=>(yY true .neq d (.v Value.nilIface)).bind fun e=>ifD e ((aC 1 []).bind fun a=>some (.ret [a] [])) ((aC 1 [z]).bind fun a=>(iu a).bind fun b=>(fT 1 8 (sl s 0) b).bind fun y=>(bin .add false [] (sl s 3) (I 1)).bind fun z=>some (.nrm [y,sl s 1,sl s 2,z]))) (some (.ext 0 [sl s 0]))) [a,sl c 0,z,I 0]).bind fun o=>cH o (fun i s=>ifN (i.beq 0) (some (.ret [sl s 0] [])) none) fun a b=>some (.ret a b)):=by kernel_rfl
theorem qO (x0:D):dv [x0]=(aj (iF [x0,.v (.string ⟨⟨[100,105,114,115]⟩⟩)]) fun c _=>(bin .lss false [] (sl c 0) (I 0)).bind fun z=>ifD z ((gk [] [I 0,I 0,I 0,.v (.string ⟨⟨[]⟩⟩)] []).bind fun z=>(stD 4 (.agg [I 0,I 0,I 0,.v (.string ⟨⟨[]⟩⟩)]) (.ref 0 0) z).bind fun b=>(aX true 4 0 b).bind fun y=>some (.ret [y,B false] [])) ((cY true 0 x0 (I 0) (sl c 0)).bind fun z=>aj (eG [z]) fun d _=>(lenD false (sl d 0)).bind fun z=>(bin .neq false [] z (I 2)).bind fun z=>ifD z ((gk [] [I 0,I 0,I 0,.v (.string ⟨⟨[]⟩⟩)] []).bind fun z=>(stD 4 (.agg [I 0,I 0,I 0,.v (.string ⟨⟨[]⟩⟩)]) (.ref 0 0) z).bind fun b=>(aX true 4 0 b).bind fun y=>some (.ret [y,B false] [])) ((GK D.ptr (aH 1 (sl d 0) (I 0))).bind fun z=>((ldD false 1 z).bind bg).bind fun z=>(GK D.ptr (aH 1 (sl d 0) (I 1))).bind fun e=>((ldD false 1 e).bind bg).bind fun f=>(du x0 (sl c 0)).bind fun g=>aj (fV [.v (.string ⟨⟨[100,105,114,115]⟩⟩),g]) fun h _=>(bin .add false [] (sl h 0) (I 1)).bind fun j=>(bin .add false [] (sl c 0) (I 1)).bind fun k=>(bR true 0 x0 k).bind fun l=>(gk [(0,1),(1,1),(2,1),(3,1)] [I 0,I 0,I 0,.v (.string ⟨⟨[]⟩⟩)] [z,f,j,l]).bind fun z=>(stD 4 (.agg [I 0,I 0,I 0,.v (.string ⟨⟨[]⟩⟩)]) (.ref 0 0) z).bind fun b=>(aX true 4 0 b).bind fun z=>aj (bY [z]) fun c _=>(un .not (sl c 0)).bind fun z=>(ab (.tup []) z false (aX true 4 0 b)).bind fun m=>dE z false (aj (dR [m]) fun c _=>some (.nrm [sl c 0])) [.tup []] fun n=>(ab (.tup []) z false (some x0)).bind fun p=>(ab (.tup []) z false (bin .neq false [] (sl n 0) p)).bind fun q=>(aE z (B true) q).bind fun z=>ifD z ((gk [] [I 0,I 0,I 0,.v (.string ⟨⟨[]⟩⟩)] []).bind fun z=>(stD 4 (.agg [I 0,I 0,I 0,.v (.string ⟨⟨[]⟩⟩)]) (.ref 0 0) z).bind fun b=>(aX true 4 0 b).bind fun y=>some (.ret [y,B false] [])) ((aX true 4 0 b).bind fun z=>(stD 4 (.agg [I 0,I 0,I 0,.v (.string ⟨⟨[]⟩⟩)]) (.ref 0 0) z).bind fun b=>(aX true 4 0 b).bind fun y=>some (.ret [y,B true] []))))):=by kernel_rfl
theorem sF (x0 x1:D):fR [x0,x1]=((aY (fun s=>(lenD true (sl s 0)).bind fun z=>(bin .lss false [] (sl s 4) z).bind fun z=>ifD z ((du (sl s 0) (sl s 4)).bind fun z=>(bin .eql false [] z (sl s 1)).bind fun z=>ifD z ((cY true 0 (sl s 0) (sl s 3) (sl s 4)).bind fun z=>(aC 1 [z]).bind fun a=>(iu a).bind fun b=>(fT 1 16 (sl s 2) b).bind fun y=>(bin .add false [] (sl s 4) (I 1)).bind fun z=>(bin .add false [] (sl s 4) (I 1)).bind fun c=>some (.nrm [sl s 0,sl s 1,y,z,c])) ((bin .add false [] (sl s 4) (I 1)).bind fun z=>some (.nrm [sl s 0,sl s 1,sl s 2,sl s 3,z]))) (some (.ext 0 [sl s 0,sl s 2,sl s 3]))) [x0,x1,.arr 1 [],I 0,I 0]).bind fun o=>cH o (fun i s=>ifN (i.beq 0) ((bR true 0 (sl s 0) (sl s 2)).bind fun z=>(aC 1 [z]).bind fun a=>(iu a).bind fun b=>(fT 1 16 (sl s 1) b).bind fun y=>some (.ret [y] [])) none) fun a b=>some (.ret a b)):=by kernel_rfl
theorem uR (x0:D):eO [x0]=((lenD true x0).bind fun z=>aj (cD [z,I 1,I 6]) fun d _=>(un .not (sl d 0)).bind fun z=>(ab (.tup []) z false (some x0)).bind fun e=>(ab (.tup []) z false (du e (I 0))).bind fun f=>(ab (.tup []) z false (bin .eql false [] f (.v (GL GS 48)))).bind fun g=>(ab (.tup []) z false (some g)).bind fun c=>(ab (.tup []) c true (some x0)).bind fun h=>(ab (.tup []) c true (lenD true h)).bind fun j=>(ab (.tup []) c true (bin .gtr false [] j (I 1))).bind fun k=>(ab (.tup []) z false (aE c k (B false))).bind fun l=>(aE z (B true) l).bind fun z=>ifD z (some (.ret [I (-1)] [])) ((aY (fun s=>(lenD true (sl s 0)).bind fun z=>(bin .lss false [] (sl s 2) z).bind fun z=>ifD z ((du (sl s 0) (sl s 2)).bind fun z=>(bin .lss false [] z (.v (GL GS 48))).bind fun z=>(ab (.tup []) z false (some (sl s 0))).bind fun m=>(ab (.tup []) z false (some (sl s 2))).bind fun n=>(ab (.tup []) z false (du m n)).bind fun p=>(ab (.tup []) z false (bin .gtr false [] p (.v (GL GS 57)))).bind fun q=>(aE z (B true) q).bind fun z=>ifD z (some (.ret [I (-1)] [])) ((bin .mul false [] (I 10) (sl s 1)).bind fun z=>(du (sl s 0) (sl s 2)).bind fun r=>(bin .sub false [] r (.v (GL GS 48))).bind fun t=>(ib (some .i64) false t).bind fun u=>(bin .add false [] z u).bind fun z=>(bin .add false [] (sl s 2) (I 1)).bind fun v=>some (.nrm [sl s 0,z,v]))) (some (.ext 0 [sl s 1]))) [x0,I 0,I 0]).bind fun o=>cH o (fun i s=>ifN (i.beq 0) (some (.ret [sl s 0] [])) none) fun a b=>some (.ret a b))):=by kernel_rfl
theorem qX (x0:D):eE [x0]=(aj (fR [x0,.v (GL GS 58)]) fun c _=>(lenD false (sl c 0)).bind fun z=>(bin .neq false [] z (I 2)).bind fun z=>ifD z ((gk [] [I 0,I 0,I 0,.v (.string ⟨⟨[]⟩⟩)] []).bind fun z=>(stD 4 (.agg [I 0,I 0,I 0,.v (.string ⟨⟨[]⟩⟩)]) (.ref 0 0) z).bind fun b=>(aX true 4 0 b).bind fun y=>some (.ret [y,B false] [])) ((aY (fun s=>(GK D.ptr (aH 1 (sl s 2) (I 1))).bind fun z=>((ldD false 1 z).bind bg).bind fun z=>(lenD true z).bind fun z=>(bin .lss false [] (sl s 3) z).bind fun z=>(ab (.tup []) z true (some (sl s 2))).bind fun e=>(ab (.tup []) z true (GK D.ptr (aH 1 e (I 1)))).bind fun d=>(ab (.tup []) z true ((ldD false 1 d).bind bg)).bind fun f=>(ab (.tup []) z true (some (sl s 3))).bind fun g=>(ab (.tup []) z true (du f g)).bind fun h=>(ab (.tup []) z true (bin .geq false [] h (.v (GL GS 48)))).bind fun j=>(aE z j (B false)).bind fun z=>(ab (.tup []) z true (some (sl s 2))).bind fun k=>(ab (.tup []) z true (GK D.ptr (aH 1 k (I 1)))).bind fun l=>(ab (.tup []) z true ((ldD false 1 l).bind bg)).bind fun m=>(ab (.tup []) z true (some (sl s 3))).bind fun n=>(ab (.tup []) z true (du m n)).bind fun p=>(ab (.tup []) z true (bin .leq false [] p (.v (GL GS 57)))).bind fun q=>(aE z q (B false)).bind fun z=>ifD z ((bin .add false [] (sl s 3) (I 1)).bind fun z=>some (.nrm [sl s 0,sl s 1,sl s 2,z])) (some (.ext 0 [sl s 0,sl s 1,sl s 2,sl s 3]))) [x0,.agg [I 0,I 0,I 0,.v (.string ⟨⟨[]⟩⟩)],sl c 0,I 0]).bind fun o=>cH o (fun i s=>ifN (i.beq 0) ((GK D.ptr (aH 1 (sl s 2) (I 1))).bind fun z=>((ldD false 1 z).bind bg).bind fun z=>(lenD true z).bind fun z=>(bin .eql false [] (sl s 3) z).bind fun z=>ifD z ((gk [] [I 0,I 0,I 0,.v (.string ⟨⟨[]⟩⟩)] []).bind fun z=>(stD 4 (sl s 1) (.ref 0 0) z).bind fun b=>(aX true 4 0 b).bind fun y=>some (.ret [y,B false] [])) ((GK D.ptr (aH 1 (sl s 2) (I 0))).bind fun z=>((ldD false 1 z).bind bg).bind fun z=>aj (eO [z]) fun c _=>(GK D.ptr (aH 1 (sl s 2) (I 1))).bind fun z=>((ldD false 1 z).bind bg).bind fun z=>(cY true 0 z (I 0) (sl s 3)).bind fun z=>aj (eO [z]) fun r _=>(GK D.ptr (aH 1 (sl s 2) (I 1))).bind fun z=>((ldD false 1 z).bind bg).bind fun z=>(bin .add false [] (sl s 3) (I 1)).bind fun e=>(bR true 0 z e).bind fun z=>(gk [(0,1),(1,1),(3,1)] [I 0,I 0,I 0,.v (.string ⟨⟨[]⟩⟩)] [sl c 0,sl r 0,z]).bind fun z=>(stD 4 (.agg [I 0,I 0,I 0,.v (.string ⟨⟨[]⟩⟩)]) (.ref 0 0) z).bind fun b=>(aY (fun s=>(bin .leq false [] (sl s 5) (I 4)).bind fun z=>ifD z ((GK D.ptr (aH 1 (sl s 2) (I 1))).bind fun z=>((ldD false 1 z).bind bg).bind fun z=>(du z (sl s 3)).bind fun z=>(du (.v (.string ⟨⟨[63,100,105,114,115]⟩⟩)) (sl s 5)).bind fun d=>(bin .eql false [] z d).bind fun z=>ifD z ((aa (sl s 4) (.ref 0 2)).bind fun z=>(stD 1 (sl s 4) z (sl s 5)).bind fun b=>(bin .add false [] (sl s 5) (I 1)).bind fun z=>some (.nrm [sl s 0,sl s 1,sl s 2,sl s 3,b,z])) ((bin .add false [] (sl s 5) (I 1)).bind fun z=>some (.nrm [sl s 0,sl s 1,sl s 2,sl s 3,sl s 4,z]))) (some (.ext 2 [sl s 0,sl s 1,sl s 4]))) [sl s 0,sl s 1,sl s 2,sl s 3,b,I 1]).bind fun o=>cH o (fun i s=>ifN (i.beq 2) ((aX true 4 0 (sl s 2)).bind fun z=>aj (cV [z]) fun c _=>(un .not (sl c 0)).bind fun z=>(ab (.tup []) z false (aX true 4 0 (sl s 2))).bind fun d=>dE z false (aj (ed [d]) fun c _=>some (.nrm [sl c 0])) [.tup []] fun t=>(ab (.tup []) z false (some (sl s 0))).bind fun f=>(ab (.tup []) z false (bin .neq false [] (sl t 0) f)).bind fun g=>(aE z (B true) g).bind fun z=>ifD z ((gk [] [I 0,I 0,I 0,.v (.string ⟨⟨[]⟩⟩)] []).bind fun z=>(stD 4 (sl s 1) (.ref 0 0) z).bind fun b=>(aX true 4 0 b).bind fun y=>some (.ret [y,B false] [])) ((aX true 4 0 (sl s 2)).bind fun z=>(stD 4 (sl s 1) (.ref 0 0) z).bind fun b=>(aX true 4 0 b).bind fun y=>some (.ret [y,B true] []))) none) fun a b=>some (.ret a b))) none) fun a b=>some (.ret a b))):=by kernel_rfl
theorem oH (x0:D):dN [x0]=((gk [(0,1)] [.arr 1 [],I 0,.v (GL GO 0)] [x0]).bind fun z=>(iS 3 z).bind fun y=>(aa y (.ref 0 0)).bind fun z=>(aa z z).bind fun z=>(bp z y).bind fun i=>(aa i i).bind fun i=>aj (bX [i]) fun c _=>some (.ret [sl c 0] [])):=by kernel_rfl
theorem sc (x0 x1:D):eT [x0,x1]=(aj (dq [x0,x1]) fun c _=>some (.ret [sl c 0] [])):=by kernel_rfl
theorem tH (x0:D):fy [x0]=(aj (ef [x0]) fun c _=>some (.ret [sl c 0] [])):=by kernel_rfl
set_option maxRecDepth 100000
def qW (u:Nat):ByteArray:=⟨(GM u).toArray⟩
def eu (n:Int):ByteArray:=⟨(Lib.itoa n).toArray⟩
theorem tj (u:Nat):eu (u:Int)=qW u:=by
 unfold eu qW;rw [Lib.itoa_nonneg]
theorem oU {u:Nat} (h:u<10):qW u=⟨#[He (48+u)]⟩:=by
 unfold qW;rw [GY h]
theorem wU {u:Nat} (h:¬u<10):qW u=qW (u / 10)++⟨#[He (48+u % 10)]⟩:=by
 unfold qW;rw [GM,dif_neg h];apply ByteArray.ext;simp
theorem mP:∀(k u:Nat),u<10 ^ (k+1)→(qW u).size≤k+1
 | 0,u,h=>by
  rw [oU (by simpa using h)];exact Hl _
 | k+1,u,h=>by
  by_cases hu:u<10
  ·rw [oU hu]
   show 1≤k+1+1
   omega
  ·rw [wU hu,ByteArray.size_append]
   have h1:=mP k (u / 10) (by rw [HA] at h;exact Nat.div_lt_of_lt_mul (by rw [Nat.mul_comm];exact h));have h2:(⟨#[He (48+u % 10)]⟩:ByteArray).size=1:=rfl;omega
theorem iH (k:Nat) {n:Int} (h0:0≤n) (h1:n<10 ^ (k+1)):(eu n).size≤k+1:=by
 obtain⟨u,rfl⟩:=GV h0;rw [tj];exact mP k u (by exact_mod_cast h1)
theorem zK (u:Nat) (h:u<10):gw [.v (.int .u8 (48+(u:Int)))]=some [He (48+u)]:=by
 have e:(48+(u:Int)).toNat=48+u:=by omega
 simp only [gw,e,GP]
theorem CI (a:Int) (h0:0≤a) (h1:a<256):GS.wrap a=a:=by
 have:=Int.emod_eq_of_lt h0 h1;simpa [IntKind.wrap,HN,IntKind.signed] using this
theorem wM (a:Int):aC 1 [.v (.int .u8 a)]=some (.arr 1 [.v (.int .u8 a)]):=by simp [aC,gc]
theorem sH (k u:Nat) (hu:u<10 ^ 18) (ih:br k [I ((u / 10:Nat):Int)]=none∨br k [I ((u / 10:Nat):Int)]=some (.ret [T (qW (u / 10))] [])) :
  (br (k+1) [I (u:Int)]=none∧br k [I ((u / 10:Nat):Int)]=none∧¬u<10)∨br (k+1) [I (u:Int)]=some (.ret [T (qW u)] []):=by
 rw [wn];by_cases h:u<10
 ·right
  have h1:(u:Int)<10:=by omega
  have hw:GQ.wrap (48+(u:Int))=48+(u:Int):=aA (by omega) (by omega);have hw8:=CI (48+(u:Int)) (by omega) (by omega);simp only [dL,h1,decide_true,GN,ep,if_true,eX,hw,ib,hw8,wM,qL,zK u h,GP,oU h]
 ·have h1:¬(u:Int)<10:=by omega
  have hq:GQ.wrap ((u:Int).tdiv 10)=((u / 10:Nat):Int):=by
   rw [Int.tdiv_eq_ediv_of_nonneg (by omega),aA (by omega) (by omega)];omega
  have hr:(u:Int).tmod 10=((u % 10:Nat):Int):=by
   rw [Int.tmod_eq_emod_of_nonneg (by omega)];omega
  have hm:u % 10<10:=Hy _ (by decide);have hw:GQ.wrap (48+((u % 10:Nat):Int))=48+((u % 10:Nat):Int):=aA (by omega) (by omega);have hw8:=CI (48+((u % 10:Nat):Int)) (by omega) (by omega);have hs:(qW (u / 10)).size+(⟨#[He (48+u % 10)]⟩:ByteArray).size≤1152921504606846976:=by
   have:=mP 17 (u / 10) (by omega);have h2:(⟨#[He (48+u % 10)]⟩:ByteArray).size=1:=rfl;omega
  rcases ih with e | e
  ·left
   refine⟨?_,e,h⟩
   simp only [dL,h1,decide_false,GN,ep,GR,if_false,Al,show ¬(10:Int)=0 by decide,hq,e,aj]
  ·right
   simp only [dL,h1,decide_false,GN,ep,GR,if_false,Al,show ¬(10:Int)=0 by decide,hq,e,bW,DA,hr,eX,hw,ib,hw8,wM,qL,
    zK _ hm,GP,bA,qf,hs,if_true,wU h]
theorem wF:∀(k u:Nat),u<10 ^ 18→br k [I (u:Int)]=none∨br k [I (u:Int)]=some (.ret [T (qW u)] [])
 | 0,_,_=>.inl rfl
 | k+1,u,hu=>(sH k u hu (wF k (u / 10) (by omega))).imp (fun h=>h.1) id
theorem zL:∀(k u:Nat),u<10 ^ 18→u<10 ^ (k+1)→br (k+1) [I (u:Int)]=some (.ret [T (qW u)] [])
 | 0,u,hu,h=>by
  rcases sH 0 u hu (wF 0 _ (by omega)) with ⟨_,_,h1⟩ | h1
  ·exact absurd (by simpa using h) h1
  ·exact h1
 | k+1,u,hu,h=>by
  rcases sH (k+1) u hu (wF (k+1) _ (by omega)) with ⟨_,h1,_⟩ | h1
  ·rw [zL k (u / 10) (by omega) (by rw [HA] at h;exact Nat.div_lt_of_lt_mul (by rw [Nat.mul_comm];exact h))] at h1
   cases h1
  ·exact h1
theorem pW {n:Int} (h0:0≤n) (h1:n<1000000000000000000):ir [I n]=some (.ret [T (eu n)] []):=by
 obtain⟨u,rfl⟩:=GV h0;have hu:u<10 ^ 18:=by omega
 rw [tj];refine DP (fun k o ho=>?_) 18 (zL 17 u hu hu)
 rcases wF k u hu with e | e
 ·rw [e] at ho;cases ho
 ·rw [e] at ho;cases ho;rfl
theorem De {n:Int} (h0 : -9223372036854775808≤n) (h1:n≤9223372036854775807):ua [I n]=some (.ret [T (eu n)] []):=by
 simp only [ua,h0,h1,and_self,if_true];rfl
theorem nl {a b:ByteArray} {bl:Bool} {eq:List Nat} (h:a.size+b.size≤1152921504606846976):bin .add bl eq (T a) (T b)=some (T (a++b)):=by rw [qf,if_pos h]
theorem sz1 (a:UInt8):(⟨#[a]⟩:ByteArray).size=1:=rfl
set_option maxRecDepth 100000
def ah (s:ByteArray):List UInt8:=s.data.toList
theorem cK {s:ByteArray} {k:IntKind} {i:Nat}:du (T s) (.v (.int k (i:Int)))=((ah s)[i]?).map fun b=>U b.toNat:=by simp [du,ah]
theorem aL (s:ByteArray):s.size=(ah s).length:=rfl
theorem ga {a b:ByteArray} (h:ah a=ah b):a=b:=by
 cases a with | mk a=>cases b with | mk b =>
  cases a with | mk a=>cases b with | mk b =>
   simp [ah] at h;rw [h]
theorem bH (s:ByteArray) (i j:Nat):ah (s.extract i j)=((ah s).take j).drop i:=by
 simp [ah,List.drop_take]
theorem qb (l:List UInt8):ah ⟨l.toArray⟩=l:=by simp [ah]
theorem cU (a b:ByteArray):ah (a++b)=ah a++ah b:=by simp [ah]
theorem qB {s:ByteArray} {z i j:Nat} (h1:i≤j) (h2:j≤s.size):cY true z (T s) (I (i:Int)) (I (j:Int))=some (T (s.extract i j)):=by
 simp only [cY,HC];rw [if_pos (by omega)]
theorem mJ {s:ByteArray} {z i:Nat} (h:i≤s.size):bR true z (T s) (I (i:Int))=some (T (s.extract i s.size)):=by
 simp only [bR,HC];rw [if_pos (by omega)]
def vE (x:UInt8):List (List UInt8)→List (List UInt8)
 | []=>[[x]]
 | h::t=>(x::h)::t
def cb (c:UInt8):List UInt8→List (List UInt8)
 | []=>[[]]
 | x::l=>if x=c then []::cb c l else vE x (cb c l)
theorem qz (c:UInt8) (l:List UInt8):cb c l≠[]:=by
 cases l with
 | nil=>simp [cb]
 | cons x l =>
  simp only [cb];split
  ·simp
  ·cases cb c l<;>simp [vE]
theorem rE {c:UInt8}:∀{l:List UInt8},c∉l→cb c l=[l]
 | [],_=>rfl
 | x::l,h=>by
  simp only [Hr,not_or] at h;simp only [cb];rw [if_neg (Ne.symm h.1),rE h.2];rfl
theorem tf {c:UInt8} {b:List UInt8}:∀{a:List UInt8},c∉a→cb c (a++c::b)=a::cb c b
 | [],_=>by simp [cb]
 | x::a,h=>by
  simp only [Hr,not_or] at h;rw [GT];simp only [cb];rw [if_neg (Ne.symm h.1),tf h.2];rfl
theorem gH (c x:UInt8):∀(l:List UInt8) (o:List (List UInt8)) (p:List UInt8),cb c l=o++[p]→cb c (l++[x])=if x=c then(o++[p])++[[]] else o++[p++[x]]
 | [],o,p,h=>by
  have h:[[]]=o++[p]:=h;have:o=[]∧p=[]:=by
   cases o with
   | nil=>simpa using h.symm
   | cons y o=>cases o<;>simp at h
  obtain⟨rfl,rfl⟩:=this;simp only [Hv,cb];split<;>rfl
 | y::l,o,p,h=>by
  simp only [cb] at h;rw [GT];simp only [cb];by_cases hy:y=c
  ·rw [if_pos hy] at h ⊢
   cases o with
   | nil=>exact absurd (Hz h).2 (qz c l)
   | cons z o =>
    rw [GT,Hn] at h;obtain⟨rfl,h⟩:=h;rw [gH c x l o p h];split<;>rfl
  ·rw [if_neg hy] at h ⊢
   generalize hs:cb c l=s at h;cases s with
   | nil=>exact absurd hs (qz c l)
   | cons z s =>
    simp only [vE] at h;cases o with
    | nil =>
     have:s=[]∧p=y::z:=by
      rw [Hv,Hn] at h;exact⟨h.2,h.1.symm⟩
     obtain⟨rfl,rfl⟩:=this;rw [gH c x l [] z hs];split<;>simp [vE]
    | cons w o =>
     rw [GT,Hn] at h;obtain⟨rfl,h⟩:=h;rw [gH c x l (z::o) p (by rw [hs,h];rfl)];split<;>simp [vE]
def iP (c:UInt8) (s:ByteArray):List ByteArray:=(cb c (ah s)).map fun l=>⟨l.toArray⟩
theorem wV (s:ByteArray):aC 1 [T s]=some (.arr 1 [T s]):=by simp [aC,gc]
theorem uj (l:List ByteArray):iu (.arr 1 (l.map T))=some (.arr 1 (l.map T)):=ko fun _=>rfl
theorem uh (s:ByteArray) (c:UInt8) (h:s.size≤4294967296):fR [T s,U c.toNat]=some (.ret [.arr 1 ((iP c s).map T)] []):=by
 rw [sF]
 let mk:List UInt8→ByteArray:=fun l=>⟨l.toArray⟩
 refine cB (fun r=>r=_) (fun(a:List (List UInt8) × Nat × Nat)=>[T s,U c.toNat,.arr 1 ((a.1.map mk).map T),I (a.2.1:Int),I (a.2.2:Int)])
  (fun a=>a.2.2≤s.size∧a.2.1≤a.2.2∧a.1.length≤a.2.2∧cb c ((ah s).take a.2.2)=a.1++[((ah s).take a.2.2).drop a.2.1])
  (fun a=>s.size - a.2.2) (fun o=>∃(outs:List (List UInt8)) (fr:Nat),o = .ext 0 [T s,.arr 1 ((outs.map mk).map T),I (fr:Int)]∧fr≤s.size∧outs.length≤s.size∧cb c (ah s)=outs++[(ah s).drop fr])
  ?_ ([],0,0) ⟨Hx _,Hl _,Hl _,by simp [cb]⟩ rfl ?_
 ·rintro⟨outs,fr,i⟩ ⟨h1,h2,h3,h4⟩
  simp only at h1 h2 h3 h4;by_cases hi:i<s.size
  ·left
   have hl:i<(ah s).length:=by rw [←aL];exact hi
   have hi':(i:Int)<(s.size:Int):=by omega
   have hw:GQ.wrap ((i:Int)+1)=((i+1:Nat):Int):=by rw [aA (by omega) (by omega)];omega
   have hch:du (T s) (I (i:Int))=some (U ((ah s)[i].toNat:Int)):=by
    rw [cK,Hg hl];rfl
   have htk:(ah s).take (i+1)=(ah s).take i++[(ah s)[i]]:=Hh hl;have hdr:((ah s).take i++[(ah s)[i]]).drop fr=((ah s).take i).drop fr++[(ah s)[i]]:=by
    rw [Hi (by rw [Hb];omega)]
   by_cases hc:(ah s)[i]=c
   ·refine⟨(outs++[((ah s).take i).drop fr],i+1,i+1),?_,⟨by simp only;omega,Hl _,by simp;omega,?_⟩,by simp only;omega⟩
    ·have hsl:=qB (s:=s) (z:=0) (i:=fr) (j:=i) h2 (by omega)
     have hmk:mk (((ah s).take i).drop fr)=s.extract fr i:=ga (by rw [bH];exact qb _);have hap:(outs.length+1)*16≤140737488355328∧outs.length+1≤1152921504606846976:=by omega
     have e2:(outs++[((ah s).take i).drop fr]).map mk=outs.map mk++[s.extract fr i]:=by rw [GX,GZ,Hj,hmk]
     have e1:((outs.map mk).map T).length+[T (s.extract fr i)].length=outs.length+1:=by simp
     have hck:iu (.arr 1 [T (s.extract fr i)])=some (.arr 1 [T (s.extract fr i)]):=uj [s.extract fr i];simp only [bA,cn,dz,GN,dL,hi',decide_true,ep,if_true,hch,lh,hc,hsl,wV,hck,jz,e1,hap,and_self,eX,hw,e2,GX,GZ,Hj]
    ·have:=gH c (ah s)[i] _ _ _ h4
     rw [if_pos hc,←htk] at this;simp only;have hz:((ah s).take (i+1)).drop (i+1)=[]:=Hd (by rw [Hb];omega);rw [this,hz]
   ·refine⟨(outs,fr,i+1),?_,⟨by simp only;omega,by simp only;omega,by simp only;omega,?_⟩,by simp only;omega⟩
    ·have hne:¬((ah s)[i].toNat:Int)=(c.toNat:Int):=fun e=>hc (HF.1 (by omega))
     simp only [bA,cn,dz,GN,dL,hi',decide_true,ep,if_true,hch,lh,hne,decide_false,GR,if_false,eX,hw]
    ·have:=gH c (ah s)[i] _ _ _ h4
     rw [if_neg hc,←htk] at this;simp only;rw [this,htk,hdr]
  ·right
   have hi':¬(i:Int)<(s.size:Int):=by omega
   have hie:i=s.size:=by omega
   refine⟨_,?_,rfl,outs,fr,rfl,by omega,by omega,?_⟩
   ·simp only [bA,cn,dz,GN,dL,hi',decide_false,ep,GR,if_false]
   ·rw [hie,aL,HE] at h4
    exact h4
 ·rintro o ⟨outs,fr,rfl,h1,h2,h3⟩
  have hsl:=mJ (s:=s) (z:=0) (i:=fr) h1;have hmk:mk ((ah s).drop fr)=s.extract fr s.size:=ga (by rw [bH,aL,HE];exact qb _);have hap:(outs.length+1)*16≤140737488355328∧outs.length+1≤1152921504606846976:=by omega
  have e1:((outs.map mk).map T).length+[T (s.extract fr s.size)].length=outs.length+1:=by simp
  have hck:iu (.arr 1 [T (s.extract fr s.size)])=some (.arr 1 [T (s.extract fr s.size)]):=uj [s.extract fr s.size];have e2:iP c s=outs.map mk++[s.extract fr s.size]:=by rw [iP,h3,GX,GZ,Hj];exact congrArg _ (congrArg (fun x=>[x]) hmk)
  simp only [kC,Nat.beq_refl,vn,if_true,bA,cn,hsl,GN,wV,hck,jz,e1,hap,and_self,e2,GX,GZ,Hj]
set_option maxRecDepth 100000
def dig (b:UInt8):Bool:=decide (48≤b.toNat)&&decide (b.toNat≤57)
theorem mZ {b:UInt8}:dig b=true↔48≤b.toNat∧b.toNat≤57:=by simp [dig]
theorem fp {u:Nat} (h:u<10):(He (48+u)).toNat=48+u:=by
 simp;omega
theorem vG {u:Nat} (h:u<10):dig (He (48+u))=true:=by
 rw [mZ,fp h];omega
theorem ex {u:Nat} (h:¬u<10):GM u=GM (u / 10)++[He (48+u % 10)]:=by rw [GM,dif_neg h]
theorem eM {P:Nat→Prop} (h0:∀u,u<10→P u) (h1:∀u,¬u<10→P (u / 10)→P u):∀u,P u:=by
 intro u;induction u using Nat.strongRecOn with
 | _ u ih =>
  by_cases h:u<10
  ·exact h0 u h
  ·exact h1 u h (ih (u / 10) (by omega))
theorem jT:∀u,∀b∈GM u,dig b=true:=by
 refine eM (fun u h b hb=>?_) (fun u h ih b hb=>?_)
 ·rw [GY h] at hb
  rw [Hq.1 hb];exact vG h
 ·rw [ex h] at hb
  rcases HG.1 hb with hb | hb
  ·exact ih b hb
  ·rw [Hq.1 hb]
   exact vG (Hy u (show 10>0 by decide))
theorem iC:∀u,GM u≠[]:=by
 refine eM (fun u h=>?_) (fun u h ih=>?_)
 ·rw [GY h];simp
 ·rw [ex h];simp
theorem tS:∀u,0<u→∀b t,GM u=b::t→b≠48:=by
 refine eM (fun u h h0 b t e=>?_) (fun u h ih h0 b t e=>?_)
 ·rw [GY h] at e
  obtain⟨rfl,_⟩:=Hz e;intro e2;have:=congrArg UInt8.toNat e2;rw [fp h] at this;have h48:(48:UInt8).toNat=48:=rfl;omega
 ·rw [ex h] at e
  cases hd:GM (u / 10) with
  | nil=>exact absurd hd (iC _)
  | cons b' t' =>
   rw [hd,GT] at e;obtain⟨rfl,_⟩:=Hz e;exact ih (by omega) _ _ hd
def sD (a:Nat) (l:List UInt8):Nat:=l.foldl (fun a b=>a*10+(b.toNat - 48)) a
theorem Dj:∀u,sD 0 (GM u)=u:=by
 refine eM (fun u h=>?_) (fun u h ih=>?_)
 ·rw [GY h]
  simp only [sD,HH,List.foldl_nil,fp h];omega
 ·rw [ex h]
  simp only [sD] at ih ⊢;rw [List.foldl_append,ih];simp only [HH,List.foldl_nil,fp (Hy u (show 10>0 by decide))];omega
theorem po:∀(l r:List UInt8) (a b:Nat),GW a l = .ok b→GW a (l++r)=GW b r
 | [],r,a,b,h=>by
  simp only [GW] at h;injection h with h;subst h;rfl
 | c::l,r,a,b,h=>by
  simp only [GW] at h;rw [GT];simp only [GW];split at h
  ·rename_i h1
   rw [if_pos h1];split at h
   ·cases h
   ·rename_i h2
    rw [if_neg h2];split at h
    ·cases h
    ·rename_i h3
     rw [if_neg h3];exact po l r _ b h
  ·cases h
theorem AG:∀u,u<1844674407370955162→GW 0 (GM u) = .ok u:=by
 refine eM (fun u h hu=>?_) (fun u h ih hu=>?_)
 ·rw [GY h]
  simp only [GW,fp h];rw [if_pos (by omega),if_neg (by omega),if_neg (by omega)];congr 1
  omega
 ·have h10:=fp (Hy u (show 10>0 by decide))
  rw [ex h,po _ _ _ _ (ih (by omega))];simp only [GW,h10];rw [if_pos (by omega),if_neg (by omega),if_neg (by omega)];congr 1
  omega
theorem CC {u:Nat} (h:u<1844674407370955162):Hm (GM u) = .ok (u:Int):=by
 have hp:=AG u h;cases hd:GM u with
 | nil=>exact absurd hd (iC u)
 | cons c r =>
  have hc:=mZ.1 (jT u c (by rw [hd];simp));rw [hd] at hp;unfold Hm;simp only;rw [if_neg (by omega)];unfold Lib.parseMag;rw [if_neg (by simp),hp];simp only;have h45:¬c.toNat=45:=by omega
  rw [if_neg (by omega),if_neg (by simp [h45]),if_neg h45]
def xf (b:UInt8):Bool:=kA b.toNat
theorem pu (b:UInt8):xf b = !dig b:=by
 simp only [xf,kA,dig];by_cases h1:b.toNat<48<;>by_cases h2:57<b.toNat<;>simp [h1,h2]<;>omega
def iq:Option (List UInt8)→List UInt8→List (List UInt8)
 | none,[]=>[]
 | some c,[]=>[c]
 | none,b::l=>if xf b=true then iq none l else iq (some [b]) l
 | some c,b::l=>if xf b=true then c::iq none l else iq (some (c++[b])) l
theorem tD:∀{w:List UInt8} (c l:List UInt8),(∀b∈w,dig b=true)→iq (some c) (w++l)=iq (some (c++w)) l
 | [],c,l,_=>by simp
 | x::w,c,l,h=>by
  rw [GT];simp only [iq];rw [if_neg (by rw [pu,h x (by simp)];simp),tD (c++[x]) l fun b hb=>h b (by simp [hb])];simp
theorem Bj {w:List UInt8} (hn:w≠[]) (h:∀b∈w,dig b=true) {x:UInt8} (hx:dig x=false) (l:List UInt8):iq none (w++x::l)=w::iq none l:=by
 cases w with
 | nil=>exact absurd rfl hn
 | cons y w =>
  rw [GT];simp only [iq];rw [if_neg (by rw [pu,h y (by simp)];simp),tD [y] _ fun b hb=>h b (by simp [hb])];simp only [iq];rw [if_pos (by rw [pu,hx];rfl)];rfl
theorem Bu {w:List UInt8} (hn:w≠[]) (h:∀b∈w,dig b=true):iq none w=[w]:=by
 cases w with
 | nil=>exact absurd rfl hn
 | cons y w =>
  simp only [iq];rw [if_neg (by rw [pu,h y (by simp)];simp)];have:=tD (w:=w) [y] [] fun b hb=>h b (by simp [hb])
  rw [List.append_nil] at this;rw [this];rfl
theorem vV (s:ByteArray) (hs:∀b∈ah s,b.toNat<128):∀(f pos:Nat) (st:Option Nat) (acc:List (Nat × Nat)),s.size≤pos+f→pos≤s.size→(∀a,st=some a→a<pos) →
  (Hk s (Hf kA s f pos st acc)).map (fun x=>ah (s.extract x.1 x.2))=acc.map (fun x=>ah (s.extract x.1 x.2))++iq (st.map fun a=>((ah s).take pos).drop a) ((ah s).drop pos):=by
 intro f;induction f with
 | zero =>
  intro pos st acc h1 h2 h3;have hp:pos=s.size:=by omega
  have hd:(ah s).drop pos=[]:=Hd (by rw [←aL];omega);rw [hd];cases st with
  | none=>simp [Hf,Hk,iq]
  | some a=>simp only [Hf,Hk,iq,GP,GX,GZ,Hj,bH,hp]
 | succ f ih =>
  intro pos st acc h1 h2 h3;by_cases hp:pos<s.size
  case neg =>
   have hpe:pos=s.size:=by omega
   have hd:(ah s).drop pos=[]:=Hd (by rw [←aL];omega);rw [hd,Lib.spansFromP_end _ _ _ _ _ _ hp];cases st with
   | none=>simp [Hk,iq]
   | some a=>simp only [Hk,iq,GP,GX,GZ,Hj,bH,hpe]
  have hl:pos<(ah s).length:=by rw [←aL];exact hp
  have hb:(ah s)[pos].toNat<128:=hs _ (Hc hl);have hdec:HD s pos=((ah s)[pos].toNat,1):=decode_ascii s pos hp hb;have hcons:(ah s).drop pos=(ah s)[pos]::(ah s).drop (pos+1):=Hs hl;have htk:(ah s).take (pos+1)=(ah s).take pos++[(ah s)[pos]]:=Hh hl;rw [hcons];unfold Hf;rw [if_pos hp,hdec];simp only;by_cases hsep:kA (ah s)[pos].toNat=true
  ·rw [if_pos hsep]
   cases st with
   | none =>
    simp only [Hw,iq];rw [if_pos (show xf _=true from hsep)];exact ih (pos+1) none acc (by omega) (by omega) (by simp)
   | some a =>
    simp only [GP,iq];rw [if_pos (show xf _=true from hsep),ih (pos+1) none (acc++[(a,pos)]) (by omega) (by omega) (by simp)];simp only [GX,GZ,Hj,List.append_assoc,bH,Hw,GT,Hv]
  ·rw [if_neg hsep]
   cases st with
   | none =>
    simp only [Hw,iq];rw [if_neg (show ¬xf _=true from hsep),ih (pos+1) (some pos) acc (by omega) (by omega) (by intro a ha;cases ha;omega)];simp only [GP];rw [htk,Hi (by rw [Hb];omega),Hd (by rw [Hb];omega)];rfl
   | some a =>
    have ha:=h3 a rfl;simp only [GP,iq];rw [if_neg (show ¬xf _=true from hsep),ih (pos+1) (some a) acc (by omega) (by omega) (by intro a' ha';cases ha';omega)];simp only [GP];rw [htk,Hi (by rw [Hb];omega)]
theorem wk (s:ByteArray) (hs:∀b∈ah s,b.toNat<128):(Ha kA s).map ah=iq none (ah s):=by
 have:=vV s hs s.size 0 none [] (by omega) (Hx _) (by simp);simpa [Ha,Lib.spansOfP,List.map_map,Function.comp_def] using this
def mH:List ByteArray→List Int→List Int
 | [],acc=>acc
 | w::l,acc=>match Hm (ah w) with
  | .ok v=>mH l (acc++[v])
  | _=>[]
def eP (s:ByteArray):List Int:=mH (Ha kA s) []
abbrev nz (l:List Int):D:=.arr 1 (l.map I)
theorem fH (p:Nat→Bool) (s:ByteArray):∀(f pos:Nat) (st:Option Nat) (acc:List (Nat × Nat)),(Hf p s f pos st acc).1.length≤acc.length+f
 | 0,pos,st,acc=>by simp [Hf]
 | f+1,pos,st,acc=>by
  unfold Hf;by_cases hp:pos<s.size
  case neg =>
   rw [if_neg hp];exact Nat.le_add_right _ _
  rw [if_pos hp];by_cases hq:p (HD s pos).1=true
  ·rw [if_pos hq]
   cases st with
   | none=>exact Ho (fH p s f _ none acc) (by omega)
   | some a =>
    have h:=fH p s f (pos+(HD s pos).2) none (acc++[(a,pos)]);rw [HB,List.length_singleton] at h;exact Ho h (by omega)
  ·rw [if_neg hq]
   cases st with
   | none=>exact Ho (fH p s f _ _ acc) (by omega)
   | some a=>exact Ho (fH p s f _ _ acc) (by omega)
theorem uH (p:Nat→Bool) (s:ByteArray):(Ha p s).length≤s.size+1:=by
 unfold Ha Lib.spansOfP;rw [HJ];have:=fH p s s.size 0 none [];unfold Hk;split
 ·simp only [HB,List.length_cons,HK] at this ⊢;omega
 ·simp only [HK] at this;omega
theorem wY (p:Nat→Bool) (s:ByteArray):∀w∈Ha p s,w.size≤s.size:=by
 intro w hw;unfold Ha at hw;obtain⟨x,_,rfl⟩:=List.mem_map.1 hw;rw [aL,bH,List.length_drop,Hb,←aL];omega
theorem wc (s:ByteArray) (k:Nat) (p:Nat→Bool) (h:s.size≤4294967296):fq k p [T s,.clo k []]=some (.ret [.arr 1 ((Ha p s).map T)] []):=by
 simp only [fq,h,and_self,if_true]
theorem DO (a:Int):aC 1 [I a]=some (nz [a]):=by simp [aC,gc]
theorem Au (l:List Int):iu (nz l)=some (nz l):=ko fun _=>rfl
theorem FF (w:ByteArray) (h:w.size≤4294967296):vD [T w]=some (match Hm (ah w) with
  | .ok v=>Out.ret [I v,.v .nilIface] []
  | .range=>Out.ret [I (Lib.atoiSat (ah w)),.ifc] []
  | _=>Out.ret [I 0,.ifc] []):=by
 have h2:w.size≤281474976710656:=by omega
 simp only [vD,h2,if_true];rw [show w.data.toList=ah w from rfl];cases Hm (ah w)<;>rfl
theorem qQ (s:ByteArray) (h:s.size≤1048576):eG [T s]=some (.ret [nz (eP s)] []):=by
 rw [qm];have hl:=uH kA s;have hz:=wY kA s;rw [wc s _ kA (by omega)];simp only [jX,GN,bW,bA,kN,HJ];generalize hw:Ha kA s=ws at hl hz;have hnum:eP s=mH ws []:=by rw [eP,hw]
 rw [hnum];refine cB (fun r=>r=_) (fun(a:List Int × Nat)=>[nz a.1,.arr 1 (ws.map T),I ws.length,I (a.2:Int)]) (fun a=>a.2≤ws.length∧a.1.length≤a.2∧mH (ws.drop a.2) a.1=mH ws [])
  (fun a=>ws.length - a.2) (fun o=>o = .ext 0 [nz (mH ws [])]∨o = .ret [nz (mH ws [])] []) ?_ ([],0) ⟨Hx _,Hl _,rfl⟩ rfl ?_
 ·rintro⟨acc,i⟩ ⟨h1,h2,h3⟩
  simp only at h1 h2 h3;by_cases hi:i<ws.length
  ·have hi':(i:Int)<(ws.length:Int):=by omega
   have hw:GQ.wrap ((i:Int)+1)=((i+1:Nat):Int):=by rw [aA (by omega) (by omega)];omega
   have hat:=FF ws[i] (by have:=hz ws[i] (Hc hi);omega);have hel:aH 1 (.arr 1 (ws.map T)) (I (i:Int))=some [T ws[i]]:=by simp [hi]
   rw [Hs hi] at h3;simp only [mH] at h3;cases ha:Hm (ah ws[i]) with
   | ok v =>
    rw [ha] at h3 hat
    left
    refine⟨(acc++[v],i+1),?_,⟨by simp only;omega,by simp;omega,h3⟩,by simp only;omega⟩
    have e1:(acc.map I).length+([v].map I).length=acc.length+1:=by simp
    have hap:(acc.length+1)*8≤140737488355328∧acc.length+1≤1152921504606846976:=by omega
    simp only [bA,cn,GN,dL,hi',decide_true,ep,if_true,hel,GP,qi,pL,sP,hat,bW,show bB (.tup [I v,.v .nilIface]) 0=some (I v) from rfl,
     show bB (.tup [I v,.v .nilIface]) 1=some (.v .nilIface) from rfl,show yY true HM (.v .nilIface) (.v .nilIface)=some (B false) from rfl,GR,if_false,DO,Au,jz,e1,hap,and_self,eX,hw]
    rw [←GX]
   | range =>
    rw [ha] at h3 hat
    right
    refine⟨.ret [nz []] [],?_,rfl,.inr (by rw [←h3])⟩
    simp only [bA,cn,GN,dL,hi',decide_true,ep,if_true,hel,GP,qi,pL,sP,hat,bW,show ∀n:Int,bB (.tup [I n,.ifc]) 0=some (I n) from fun _=>rfl,
     show ∀n:Int,bB (.tup [I n,.ifc]) 1=some .ifc from fun _=>rfl,show yY true HM .ifc (.v .nilIface)=some (B true) from rfl,jX]
    rfl
   | _ =>
    rw [ha] at h3 hat
    right
    refine⟨.ret [nz []] [],?_,rfl,.inr (by rw [←h3])⟩
    simp only [bA,cn,GN,dL,hi',decide_true,ep,if_true,hel,GP,qi,pL,sP,hat,bW,show bB (.tup [I 0,.ifc]) 0=some (I 0) from rfl,
     show bB (.tup [I 0,.ifc]) 1=some .ifc from rfl,show yY true HM .ifc (.v .nilIface)=some (B true) from rfl,jX]
    rfl
  ·right
   have hi':¬(i:Int)<(ws.length:Int):=by omega
   refine⟨.ext 0 [nz acc],?_,rfl,.inl ?_⟩
   ·simp only [bA,cn,GN,dL,hi',decide_false,ep,GR,if_false]
   ·rw [Hd (by omega)] at h3
    rw [←h3];rfl
 ·rintro o (rfl | rfl)
  ·simp only [kC,Nat.beq_refl,vn,if_true,bA]
  ·rfl
set_option maxRecDepth 100000
theorem cN (a b c:Int):cD [I a,I b,I c]=some (.ret [B (decide (b≤a∧a≤c))] []):=by
 rw [xz];by_cases h:b≤a<;>simp [h]
theorem gz (a b c:Int):cZ [I a,I b,I c]=some (.ret [B (decide (b≤a∧a≤c))] []):=by
 rw [uI];by_cases h:b≤a<;>simp [h]
set_option maxRecDepth 100000
def tc (l:List UInt8):Int :=
 if (1≤l.length∧l.length≤6)∧¬(l.head?=some 48∧1<l.length)∧l.all dig=true then(sD 0 l:Int) else -1
def fQ (s:ByteArray):Int:=tc (ah s)
theorem vy (l:List UInt8) (x:UInt8) (a:Nat):sD a (l++[x])=sD a l*10+(x.toNat - 48):=by simp [sD,List.foldl_append]
theorem DC:∀(n:Nat) (l:List UInt8),l.length=n→(∀b∈l,dig b=true)→sD 0 l<10 ^ n:=by
 intro n;induction n with
 | zero =>
  intro l hl _;rw [List.eq_nil_of_length_eq_zero hl];decide
 | succ n ih =>
  intro l hl hd;have hne:l≠[]:=fun e=>by rw [e] at hl;simp at hl
  have hsp:=List.dropLast_concat_getLast hne;have h1:=ih l.dropLast (by rw [List.length_dropLast];omega) fun b hb=>hd b ((List.dropLast_sublist l).subset hb)
  have h2:=mZ.1 (hd _ (List.getLast_mem hne));rw [←hsp,vy,HA];omega
theorem nZ (s:ByteArray) (h:s.size≤4294967296):eO [T s]=some (.ret [I (fQ s)] []):=by
 rw [uR];have hsz:s.size=(ah s).length:=rfl;by_cases h1:1≤(s.size:Int)∧(s.size:Int)≤6
 case neg =>
  have hr:fQ s = -1:=by
   unfold fQ tc;rw [if_neg (by rintro⟨⟨g1,g2⟩,_⟩;exact h1 (by omega))]
  rw [hr];simp -implicitDefEqProofs [cN,h1]
 have hpos:0<(ah s).length:=by omega
 have hch0:du (T s) (I 0)=some (U ((ah s)[0].toNat:Int)):=by
  have:=cK (s:=s) (k:=.i64) (i:=0);rw [Hg hpos] at this;exact this
 have hhead:(ah s).head?=some (ah s)[0]:=by rw [List.head?_eq_getElem?,Hg hpos]
 have h48:(48:UInt8).toNat=48:=rfl;have hc48:((ah s)[0].toNat:Int)=48↔(ah s)[0]=48:=⟨fun e=>HF.1 (by omega),fun e=>by rw [e];rfl⟩
 by_cases h2:(ah s)[0]=48∧1<(ah s).length
 ·have hr:fQ s = -1:=by
   unfold fQ tc;rw [if_neg (by rintro⟨_,g,_⟩;exact g ⟨by rw [hhead,h2.1],h2.2⟩)]
  have hl:(1:Int)<(s.size:Int):=by omega
  have hc:=hc48.2 h2.1;rw [hr];simp -implicitDefEqProofs [cN,h1,hch0,hc,hl]
 have hgo:∀(K:D→Option Out),((bin BinOp.eql false [] (U ((ah s)[0].toNat:Int)) (D.v (GL GS 48))).bind fun z_3=>(ab (D.tup []) (B false) false (some z_3)).bind fun z_4=>(ab (D.tup []) z_4 true (some (T s))).bind fun z_5 =>
   (ab (D.tup []) z_4 true (lenD true z_5)).bind fun z_6=>(ab (D.tup []) z_4 true (bin BinOp.gtr false [] z_6 (D.v (GL GQ 1)))).bind fun z_7=>(ab (D.tup []) (B false) false (aE z_4 z_7 (D.v (Value.bool false)))).bind K)=K (B false):=by
  intro K;by_cases e:((ah s)[0].toNat:Int)=48
  ·have:¬(1:Int)<(s.size:Int):=fun hl=>h2 ⟨hc48.1 e,by omega⟩
   simp -implicitDefEqProofs [e,this]
  ·simp -implicitDefEqProofs [e]
 simp only [dz,GN,cN,h1,and_self,decide_true,bW,bA,wb,Bool.not_true,qo,GR,if_false,hch0];have hgo':=hgo;simp only [qo,GR,if_false,GN] at hgo';rw [hgo'];simp only [gx,GR,if_false,GN,ep];refine cB (fun r=>r=_) (fun(a:Nat × Nat)=>[T s,I (a.1:Int),I (a.2:Int)]) (fun a=>a.2≤s.size∧a.1=sD 0 ((ah s).take a.2)∧∀b∈(ah s).take a.2,dig b=true) (fun a=>s.size - a.2)
  (fun o=>o=if (ah s).all dig=true then .ext 0 [I (sD 0 (ah s):Int)] else .ret [I (-1)] []) ?_ (0,0) ⟨Hx _,rfl,by simp⟩ rfl ?_
 ·rintro⟨n,i⟩ ⟨g1,g2,g3⟩
  simp only at g1 g2 g3;by_cases hi:i<s.size
  ·have hl:i<(ah s).length:=by rw [←hsz];exact hi
   have hi':(i:Int)<(s.size:Int):=by omega
   have hch:du (T s) (I (i:Int))=some (U ((ah s)[i].toNat:Int)):=by
    rw [cK,Hg hl];rfl
   have htk:(ah s).take (i+1)=(ah s).take i++[(ah s)[i]]:=Hh hl;by_cases hd:dig (ah s)[i]=true
   ·left
    have hd':=mZ.1 hd;have hn:n<10 ^ i:=by
     rw [g2];exact DC i _ (by rw [Hb];omega) g3
    have h10:10 ^ i≤10 ^ 6:=Nat.pow_le_pow_right (by decide) (by omega);have hw:GQ.wrap ((i:Int)+1)=((i+1:Nat):Int):=by rw [aA (by omega) (by omega)];omega
    have hw1:GQ.wrap (10*(n:Int))=10*(n:Int):=aA (by omega) (by omega);have hw2:GS.wrap (((ah s)[i].toNat:Int) - 48)=((ah s)[i].toNat:Int) - 48:=CI _ (by omega) (by omega);have hw3:GQ.wrap (((ah s)[i].toNat:Int) - 48)=((ah s)[i].toNat:Int) - 48:=aA (by omega) (by omega);have hw4:GQ.wrap (10*(n:Int)+(((ah s)[i].toNat:Int) - 48))=((n*10+((ah s)[i].toNat - 48):Nat):Int):=by rw [aA (by omega) (by omega)];omega
    have c1:¬((ah s)[i].toNat:Int)<48:=by omega
    have c2:¬(57:Int)<((ah s)[i].toNat:Int):=by omega
    refine⟨(n*10+((ah s)[i].toNat - 48),i+1),?_,⟨by simp only;omega,?_,?_⟩,by simp only;omega⟩
    ·simp only [bA,cn,dz,GN,dL,hi',decide_true,ep,if_true,hch,c1,decide_false,qo,GR,if_false,iv,c2,gx,we,hw1,nh,hw2,ib,hw3,eX,hw4,hw]
    ·simp only
     rw [htk,vy,g2]
    ·simp only
     rw [htk];intro b hb;rcases HG.1 hb with hb | hb
     ·exact g3 b hb
     ·rw [Hq.1 hb];exact hd
   ·right
    refine⟨.ret [I (-1)] [],?_,rfl,?_⟩
    ·by_cases c1:((ah s)[i].toNat:Int)<48
     ·simp -implicitDefEqProofs [hi',hch,c1]
     ·have c2:(57:Int)<((ah s)[i].toNat:Int):=by
       have:¬(48≤(ah s)[i].toNat∧(ah s)[i].toNat≤57):=fun e=>hd (mZ.2 e)
       omega
      simp -implicitDefEqProofs [hi',hch,c1,c2]
    ·rw [if_neg]
     intro hall;exact hd (Hu.1 hall _ (Hc hl))
  ·right
   have hi':¬(i:Int)<(s.size:Int):=by omega
   have hie:(ah s).take i=ah s:=List.take_of_length_le (by omega);rw [hie] at g2 g3;refine⟨.ext 0 [I (n:Int)],?_,rfl,?_⟩
   ·simp -implicitDefEqProofs [hi']
   ·rw [if_pos (Hu.2 g3),g2]
 ·rintro o rfl
  by_cases ha:(ah s).all dig=true
  ·have hr:fQ s=(sD 0 (ah s):Int):=by
    unfold fQ tc;rw [if_pos ⟨⟨by omega,by omega⟩,fun g=>h2 ⟨by have:=g.1;rw [hhead] at this;exact Option.some.inj this,g.2⟩,ha⟩]
   rw [if_pos ha,hr];rfl
  ·have hr:fQ s = -1:=by
    unfold fQ tc;rw [if_neg (fun g=>ha g.2.2)]
   rw [if_neg ha,hr];rfl
theorem uO {u:Nat} (h:u<1000000):(GM u).length≤6:=mP 5 u (by omega)
theorem Bn {u:Nat} (h:u<1000000):tc (GM u)=(u:Int):=by
 have h1:=iC u;have h2:=uO h;have h3:1≤(GM u).length:=Hp.2 h1;have hno:¬((GM u).head?=some 48∧1<(GM u).length):=by
  rintro⟨g1,g2⟩;by_cases hu:0<u
  ·cases hd:GM u with
   | nil=>exact h1 hd
   | cons b t =>
    rw [hd] at g1;exact tS u hu b t hd (by simpa using g1)
  ·have:u=0:=by omega
   subst this;rw [GY (by decide)] at g2;simp at g2
 unfold tc;rw [if_pos ⟨⟨h3,h2⟩,hno,Hu.2 (jT u)⟩,Dj]
theorem oT (n:Int) (h:0≤n):ah (eu n)=GM n.toNat:=by
 obtain⟨u,rfl⟩:=GV h;rw [tj];exact qb _
theorem vw {n:Int} (h0:0≤n) (h1:n<1000000):fQ (eu n)=n:=by
 unfold fQ;rw [oT n h0,Bn (by omega)];omega
theorem BX {n:Int} (h0:0≤n) (h1:n<1000000):Hm (ah (eu n)) = .ok n:=by
 rw [oT n h0,CC (by omega)];congr 1
 omega
theorem iA {n:Int} (h0:0≤n):ah (eu n)≠[]∧∀b∈ah (eu n),dig b=true:=by
 rw [oT n h0];exact⟨iC _,jT _⟩
theorem wE {b:UInt8} (h:dig b=true):b.toNat<128:=by
 have:=mZ.1 h;omega
theorem Ck {s:ByteArray} (hs:∀b∈ah s,b.toNat<128) {ns:List Int} (hn:∀n∈ns,0≤n∧n<1000000) (h:iq none (ah s)=ns.map fun n=>ah (eu n)):eP s=ns:=by
 unfold eP;have hf:=wk s hs;rw [h] at hf;have key:∀(ws:List ByteArray) (ns:List Int) (acc:List Int),(∀n∈ns,0≤n∧n<1000000)→ws.map ah=ns.map (fun n=>ah (eu n))→mH ws acc=acc++ns:=by
  intro ws;induction ws with
  | nil =>
   intro ns acc _ e;cases ns with
   | nil=>simp [mH]
   | cons _ _=>simp at e
  | cons w ws ih =>
   intro ns acc hn e;cases ns with
   | nil=>simp at e
   | cons n ns =>
    rw [GZ,GZ,Hn] at e;have hr:=hn n (by simp);simp only [mH];rw [e.1,BX hr.1 hr.2];simp only;rw [ih ns (acc++[n]) (fun m hm=>hn m (by simp [hm])) e.2];simp
 simpa using key _ ns [] hn hf
theorem zQ {b:UInt8} {l:List UInt8} (h:∀x∈l,dig x=true) (hb:dig b=false):b∉l:=fun hm=>by rw [h b hm] at hb;cases hb
theorem xL (c:UInt8) (s:ByteArray):∀w∈iP c s,w.size≤s.size:=by
 intro w hw;unfold iP at hw;obtain⟨l,hl,rfl⟩:=List.mem_map.1 hw;have key:∀(m:List UInt8),∀l∈cb c m,l.length≤m.length:=by
  intro m;induction m with
  | nil=>intro l hl;simp [cb] at hl;simp [hl]
  | cons x m ih =>
   intro l hl;simp only [cb] at hl;split at hl
   ·rcases Hr.1 hl with rfl | hl
    ·simp
    ·have:=ih l hl
     simp;omega
   ·generalize hs:cb c m=t at hl ih
    cases t with
    | nil=>exact absurd hs (qz c m)
    | cons y t =>
     simp only [vE] at hl;rcases Hr.1 hl with rfl | hl
     ·have:=ih y (by simp)
      simp;omega
     ·have:=ih l (by simp [hl])
      simp;omega
 have:=key _ l hl;rw [aL,qb];exact this
set_option maxRecDepth 100000
structure Cur where
 code:List Int
 at_:Nat
 seed:Int
abbrev fN (l:List Int):D:=.arr 1 (l.map U)
abbrev bh (c:Cur):D:=.agg [fN c.code,I c.at_,.v (.int .u64 c.seed)]
structure Cur.ok (c:Cur) (B:Nat):Prop where
 by_:∀n∈c.code,0≤n∧n≤255
 len:c.code.length≤9223372036854775807
 at_:c.at_≤B
 lo:0≤c.seed
 hi:c.seed<18446744073709551616
theorem vQ {k:IntKind} {n:Int}:ib (some .i64) false (.v (.int k n))=some (I (GQ.wrap n)):=rfl
theorem vk {k:IntKind} {n:Int}:ib (some .u64) false (.v (.int k n))=some (.v (.int .u64 (GO.wrap n))):=rfl
theorem AK {n:Int} {bl:Bool} {eq:List Nat}:bin .shr bl eq (.v (.int .u64 n)) (.v (.int .u64 40))=some (.v (.int .u64 (n.fdiv 1099511627776))):=by
 simp [bin,HN]
theorem EL {a b:Int} {bl:Bool} {eq:List Nat}:bin .and bl eq (.v (.int .u64 a)) (.v (.int .u64 b))=some (.v (.int .u64 (bits .and .u64 a b))):=by simp [bin,fe]
theorem Fe {n:Int} (h0:0≤n) (h1:n<18446744073709551616):0≤bits .and .u64 n 255∧bits .and .u64 n 255≤255:=by
 obtain⟨m,rfl⟩:=GV h0;have:=bits_and_u64_nat m 255 (by omega) (by omega);rw [show((255:Int))=((255:Nat):Int) from rfl,this];have h2:m &&& 255≤255:=Nat.and_le_right;omega
theorem Fx (n:Int):0≤GO.wrap n∧GO.wrap n<18446744073709551616:=by
 rw [IntKind.wrap_u64];omega
def jO (s n:Int):Int:=GO.wrap (GO.wrap (GO.wrap (s*6364136223846793005)+GO.wrap n)+1442695040888963407)
def rB (s:Int):Int:=bits .and .u64 (s.fdiv 1099511627776) 255
theorem fm (s n:Int):0≤jO s n∧jO s n<18446744073709551616:=Fx _
theorem wK {s:Int} (h0:0≤s) (h1:s<18446744073709551616):0≤rB s∧rB s≤255:=by
 unfold rB;rw [Int.fdiv_eq_ediv_of_nonneg _ (by omega)];exact Fe (by omega) (by omega)
theorem Gh (c:Cur) (B:Nat) (h:c.ok B) (hB:B≤1000000000000) (hc:c.at_<c.code.length):bS [bh c]=some (.ret [I c.code[c.at_]] [bh ⟨c.code,c.at_+1,jO c.seed c.code[c.at_]⟩]):=by
 have hl:=h.len;have ha:=h.at_;have hw:GQ.wrap ((c.at_:Int)+1)=(c.at_:Int)+1:=aA (by omega) (by omega);have hn:=h.by_ c.code[c.at_] (Hc hc);have hv:GQ.wrap c.code[c.at_]=c.code[c.at_]:=aA (by omega) (by omega);have hle:(c.at_:Int)+1≤(c.code.length:Int):=by omega
 rw [ju];simp -implicitDefEqProofs [hc,hw,hv,hle,vQ,vk,jO]
theorem Gu (c:Cur) (B:Nat) (h:c.ok B) (hB:B≤1000000000000) (hc:¬c.at_<c.code.length):bS [bh c]=some (.ret [I (rB (jO c.seed 0))] [bh ⟨c.code,c.at_+1,jO c.seed 0⟩]):=by
 have hl:=h.len;have ha:=h.at_;have hw:GQ.wrap ((c.at_:Int)+1)=(c.at_:Int)+1:=aA (by omega) (by omega);have hle:¬(c.at_:Int)+1≤(c.code.length:Int):=by omega
 have hq:=wK (fm c.seed 0).1 (fm c.seed 0).2;have hv:GQ.wrap (rB (jO c.seed 0))=rB (jO c.seed 0):=aA (by omega) (by omega);unfold rB jO at hv;rw [ju];simp -implicitDefEqProofs [hc,hw,hle,vQ,vk,AK,EL,hv,jO,rB]
theorem Do (c:Cur) (B:Nat) (h:c.ok B) (hB:B≤1000000000000):∃v c',bS [bh c]=some (.ret [I v] [bh c'])∧0≤v∧v≤255∧c'.ok (B+1):=by
 have ha:=h.at_;by_cases hc:c.at_<c.code.length
 ·have hn:=h.by_ c.code[c.at_] (Hc hc)
  exact⟨_,_,Gh c B h hB hc,hn.1,hn.2,⟨h.by_,h.len,Nat.succ_le_succ ha,(fm _ _).1,(fm _ _).2⟩⟩
 ·have hq:=wK (fm c.seed 0).1 (fm c.seed 0).2
  exact⟨_,_,Gu c B h hB hc,hq.1,hq.2,⟨h.by_,h.len,Nat.succ_le_succ ha,(fm _ _).1,(fm _ _).2⟩⟩
theorem eA (c:Cur) (n:Int) (B:Nat) (h:c.ok B) (hB:B≤100000000000) (hn:n≤1000000000):∃v c',al [bh c,I n]=some (.ret [I v] [bh c'])∧0≤v∧(v<n∨v=0)∧c'.ok (B+2):=by
 rw [ql];by_cases h1:n≤1
 ·exact⟨0,c,by simp [h1],by omega,.inr rfl,⟨h.by_,h.len,by have:=h.at_;omega,h.lo,h.hi⟩⟩
 obtain⟨v,c1,e1,l1,u1,k1⟩:=Do c B h (by omega);have hn0:¬n=0:=by omega
 by_cases h2:200<n
 ·obtain⟨v2,c2,e2,l2,u2,k2⟩:=Do c1 (B+1) k1 (by omega)
  have w1:GQ.wrap (v*256)=v*256:=aA (by omega) (by omega);have w2:GQ.wrap (v*256+v2)=v*256+v2:=aA (by omega) (by omega);refine⟨(v*256+v2).tmod n,c2,by simp [h1,h2,e1,e2,w1,w2,hn0],Int.tmod_nonneg _ (by omega),.inl (Int.tmod_lt_of_pos _ (by omega)),k2⟩
 ·refine⟨v.tmod n,c1,by simp [h1,h2,e1,hn0],Int.tmod_nonneg _ l1,.inl (Int.tmod_lt_of_pos _ (by omega)),⟨k1.by_,k1.len,by have:=k1.at_;omega,k1.lo,k1.hi⟩⟩
theorem xj (c:Cur) (n:Int) (B:Nat) (h:c.ok B) (hB:B≤100000000000) (hn:n≤1000000000):∃(b:Bool) (c':Cur),bn [bh c,I n]=some (.ret [.v (.bool b)] [bh c'])∧c'.ok (B+2):=by
 rw [rg];obtain⟨v,c1,e1,l1,u1,k1⟩:=eA c n B h hB hn;exact⟨_,c1,by simp [e1];rfl,k1⟩
abbrev nQ (l:List Int):D:=.arr 1 (l.map I)
theorem pG (c:Cur) (l:List Int) (B:Nat) (h:c.ok B) (hB:B≤100000000000) (hl:l≠[]) (hn:l.length≤1000000000):∃v c',au [bh c,nQ l]=some (.ret [I v] [bh c'])∧v∈l∧c'.ok (B+2):=by
 rw [oW];have hp:0<l.length:=Hp.2 hl;obtain⟨v,c1,e1,l1,u1,k1⟩:=eA c l.length B h hB (by omega);obtain⟨i,rfl⟩:=GV l1;have hi:i<l.length:=by omega
 exact⟨l[i],c1,by simp [e1,hi],Hc hi,k1⟩
theorem Cur.ok.mono {c:Cur} {B C:Nat} (h:c.ok B) (hBC:B≤C):c.ok C:=⟨h.by_,h.len,Ho h.at_ hBC,h.lo,h.hi⟩
theorem ur {l:List Int}:aC 1 (l.map I)=some (nQ l):=by
 have:gc 1 (l.map I).length (l.map I)=true:=by
  unfold gc;simp
 simp only [aC,this,if_true]
theorem sJ (l:List Int):gk [(0,1)] [D.arr 1 [],I 0,D.v (.int .u64 0)] [fN l]=some (.agg [fN l,I 0,D.v (.int .u64 0)]):=by
 simp [gk,oc]
structure Bytes (l:List Int):Prop where
 by_:∀n∈l,0≤n∧n≤255
 len:l.length≤9223372036854775807
theorem EF {l:List Int} (h:Bytes l):Cur.ok ⟨l,0,0⟩ 0:=⟨h.by_,h.len,Hl _,Int.le_refl 0,show(0:Int)<18446744073709551616 by decide⟩
abbrev txs (l:List ByteArray):D:=.arr 1 (l.map T)
theorem vx {l:List ByteArray}:aC 1 (l.map T)=some (txs l):=by
 have:gc 1 (l.map T).length (l.map T)=true:=by
  unfold gc;simp
 simp only [aC,this,if_true]
theorem Cm (c:Cur) (l:List ByteArray) (B:Nat) (h:c.ok B) (hB:B≤100000000000) (hl:l≠[]) (hn:l.length≤1000000000):∃v c',aF [bh c,txs l]=some (.ret [T v] [bh c'])∧v∈l∧c'.ok (B+2):=by
 rw [rU];have hp:0<l.length:=Hp.2 hl;obtain⟨v,c1,e1,l1,u1,k1⟩:=eA c l.length B h hB (by omega);obtain⟨i,rfl⟩:=GV l1;have hi:i<l.length:=by omega
 exact⟨l[i],c1,by simp [e1,hi],Hc hi,k1⟩
theorem uw (b:UInt8):qL (.arr 1 [U (b.toNat:Int)])=some (T ⟨#[b]⟩):=by
 have:gw [U (b.toNat:Int)]=some [b]:=by simp [gw]
 simp only [qL,this,GP]
theorem mkU (n:Int):aC 1 [U n]=some (.arr 1 [U n]):=by simp [aC,gc]
theorem ni {a b:ByteArray} (h:a.size+b.size≤100000000):bin .add false [] (T a) (T b)=some (T (a++b)):=by
 rw [qf,if_pos (by omega)]
theorem ue (s:ByteArray) (i j:Nat):(s.extract i j).size=min j s.size - i:=by rw [ByteArray.size_extract]
set_option maxRecDepth 100000
def ky {β:Type} (p:β→Bool):Nat→List β→Option Nat
 | _,[]=>none
 | i,x::l=>if p x=true then some i else ky p (i+1) l
theorem Bp {β:Type} {body:List D→Option Out} (l:List β) (st:Nat→List D) (p:β→Bool) (o1:Nat→Out) (o2:Out) (hs:∀(i:Nat) (hi:i<l.length),body (st i)=some (if p l[i]=true then o1 i else .nrm (st (i+1)))) (he:body (st l.length)=some o2)
  (h1:∀i,(o1 i).ends=true) (h2:o2.ends=true) {s0:List D} (h:s0=st 0):aY body s0=some ((ky p 0 l).elim o2 o1):=by
 have e:∀(m:List β) (i:Nat),goL (fun i x (_:Unit)=>if p x=true then .inr (o1 i) else .inl ()) (fun _=>o2) i m ()=(ky p i m).elim o2 o1:=by
  intro m;induction m with
  | nil=>intro i;simp [goL,ky]
  | cons x m ih =>
   intro i;simp only [goL,ky];by_cases hp:p x=true
   ·simp [hp]
   ·simp [hp,ih]
 rw [←e];refine re l (fun i _=>st i) (fun _ _=>True) _ _ (fun i x a hx _=>?_) (fun _ _=>⟨he,h2⟩) () trivial h
 have hi:i<l.length:=(Ht.1 hx).1;have hxe:l[i]=x:=(Ht.1 hx).2;have:=hs i hi;rw [hxe] at this;by_cases hp:p x=true
 ·simpa [hp,h1] using this
 ·simpa [hp] using this
def az (b:UInt8):Bool:=decide (97≤(b.toNat:Int))&&decide ((b.toNat:Int)≤122)
end Go.Proofs.YtidhhpakdogiaaaGreatDoor

namespace Go.Proofs.YtidhhpakdogiaaaGreatDoor
open Go Go.Proofs Go.Shelf Go.RowKit Go.Lib Go.Sort
set_option maxRecDepth 100000
section
variable {P:Program} {α:Type} [Inhabited α] {enc:α→List Value} {k:Nat} {w0 w1 W:World} {blk off:Nat} {d dk:Array α}
def SWK (enc:α→List Value) (k:Nat) (w0:World) (blk off:Nat) (dk:Array α) (W:World):Prop:=SW id w0 blk off (flatK enc k dk) W
theorem SWK.start (h:HoldsK enc k w0 blk off dk):SWK enc k w0 blk off dk w0:=SW.start (enc:=id) h
theorem SWK.alloc (h:SWK enc k w0 blk off dk W) (o:Obj):SWK enc k w0 blk off dk (W.alloc o):=SW.alloc (enc:=id) h o
theorem SWK.le (h:SWK enc k w0 blk off dk W):w0.heap.size≤W.heap.size:=SW.le (enc:=id) h
theorem SWK.lt (h:SWK enc k w0 blk off dk W) (hblk:blk<w0.heap.size):blk<W.heap.size:=SW.lt (enc:=id) h hblk
theorem SWK.holds (h:SWK enc k w0 blk off dk W) (hblk:blk<w0.heap.size) {d0:Array α} (h0:HoldsK enc k w0 blk off d0) (hs:dk.size=d0.size):HoldsK enc k W blk off dk :=
 SW.holds (enc:=id) h hblk h0 (by rw [size_flatK,size_flatK,hs])
theorem vY (h:SWK enc k w0 blk off d w1) (hblk:blk<w0.heap.size) (h2:SWK enc k w1 blk off dk W) (hs:dk.size=d.size):SWK enc k w0 blk off dk W:=by
 obtain⟨m,os,rfl⟩:=h2;exact SW.on (enc:=id) h hblk m _ os (by rw [size_flatK,size_flatK,hs])
theorem pO (h:SWK enc k w0 blk off dk W) {a:Addr} (hb:a.block≠blk) (hl:a.block<w0.heap.size):W.cell? a=w0.cell? a:=by
 obtain⟨n,os,rfl⟩:=h;unfold sortWorld;rw [cell?_grow _ _ _ (by rw [size_putRow];exact hl),cell?_putRow_other id _ blk off _ _ (Or.inl hb)];rfl
theorem DT (h:SWK enc k w0 blk off dk W) (q:Nat) (os:Array Obj):SWK enc k w0 blk off dk (grow (W.drewN q) os):=by
 obtain⟨n,os',h⟩:=SW.drewN (enc:=id) h q;rw [h];exact⟨n,os'++os,by unfold sortWorld;rw [grow_grow]⟩
theorem SWK.swap (hk:∀x,(enc x).length=k) (h:SWK enc k w0 blk off dk W) (hblk:blk<w0.heap.size) (i j:Nat) (hi:i<dk.size) (hj:j<dk.size) :
  SWK enc k w0 blk off (swp dk i j) ((W.setCells blk (off+i*k) (enc dk[j]!)).setCells blk (off+j*k) (enc dk[i]!)):=by
 obtain⟨n,os,rfl⟩:=h;refine⟨n,os,?_⟩
 unfold sortWorld;have h1:=swap_worldK enc k hk (Sort.grow w0 os) n 0 blk off dk i j hi hj;have e:∀d':Array α,putRowK enc k (HL (Sort.grow w0 os) n) blk off d'=grow (putRow id (HL w0 n) blk off (flatK enc k d')) os:=fun d'=>by
  rw [ahead_grow];exact putRowK_grow enc k (HL w0 n) os blk off d' hblk
 rw [e,Nat.add_zero,e] at h1;exact h1
def vF (P:Program) (g:Nat) (lb:Array Value) (enc:α→List Value) (k:Nat) (lt:α→α→Bool) (blk off size:Nat) (w0:World):Prop :=
 ∀(dk:Array α) (W:World),dk.size=size→SWK enc k w0 blk off dk W→∀i j:Nat,i<size→j<size →
  Calls P g (#[.int .i64 i,.int .i64 j]++lb) W fun e w'=>e = .returned (.bool (lt dk[i]! dk[j]!))∧∃q os,w'=grow (W.drewN q) os
end
set_option maxHeartbeats 2000000 in
theorem xG {α:Type} [Inhabited α] (enc:α→List Value) (k:Nat) (hk:∀x,(enc x).length=k) (lt:α→α→Bool) (g:Nat) (lb:Array Value) (sf:Nat) (sb:Array Value) (blk off:Nat) (d:Array α) (w00 w:World) (h00:SWK enc k w00 blk off d w) (hblk0:blk<w00.heap.size)
  (eg:∀args w,(callFunc g args).run Tryz.prog w = .ok (.enter g args) w) (hless:vF Tryz.prog g lb enc k lt blk off d.size w00) (hswap:SwapSwapsK Tryz.prog sf sb enc k blk off d.size)
  (hH:HoldsK enc k w blk off d) (hsz:d.size<1000) :
  Calls Tryz.prog 131 #[.agg #[.func (.func g) #[] lb,.func (.func sf) #[] sb],.int .i64 0,.int .i64 d.size] w fun e w' =>
   e = .returned (.tuple #[])∧SWK enc k w00 blk off (GU lt d 0 d.size) w':=by
 have hblk:blk<w.heap.size:=h00.lt hblk0;have hw1:SWK enc k w blk off d (w.alloc (.cells #[.func (.func g) #[] lb,.func (.func sf) #[] sb] 129)):=(SWK.start hH).alloc _;have hw0:=h00.alloc (.cells #[.func (.func g) #[] lb,.func (.func sf) #[] sb] 129);have k0:(w.alloc (.cells #[.func (.func g) #[] lb,.func (.func sf) #[] sb] 129)).cell? ⟨w.heap.size,0,none⟩=some (.func (.func g) #[] lb):=by simp
 have k1:(w.alloc (.cells #[.func (.func g) #[] lb,.func (.func sf) #[] sb] 129)).cell? ⟨w.heap.size,1,none⟩=some (.func (.func sf) #[] sb):=by simp
 have hl1:w.heap.size<(w.alloc (.cells #[.func (.func g) #[] lb,.func (.func sf) #[] sb] 129)).heap.size:=by rw [alloc_eq_grow,size_grow];simp
 have hH1:=hw1.holds hblk hH rfl
 go_enter Tryz.func131,Tryz.ntmps131
 go_wp2
 generalize w.alloc (.cells #[.func (.func g) #[] lb,.func (.func sf) #[] sb] 129)=W1 at *;have hb1:blk<W1.heap.size:=Nat.lt_trans hblk hl1;have start1:SWK enc k W1 blk off d W1:=SWK.start hH1;have kk0:∀dk wr,SWK enc k W1 blk off dk wr→wr.cell? ⟨w.heap.size,0,none⟩=some (.func (.func g) #[] lb):=fun dk wr h=>(pO h (show w.heap.size≠blk by omega) hl1).trans k0
 have kk1:∀dk wr,SWK enc k W1 blk off dk wr→wr.cell? ⟨w.heap.size,1,none⟩=some (.func (.func sf) #[] sb):=fun dk wr h=>(pO h (show w.heap.size≠blk by omega) hl1).trans k1
 have hold:∀dk wr,dk.size=d.size→SWK enc k W1 blk off dk wr→HoldsK enc k wr blk off dk:=fun dk wr hs h=>h.holds hb1 hH1 hs
 have toW:∀dk wr,dk.size=d.size→SWK enc k W1 blk off dk wr→SWK enc k w00 blk off dk wr:=fun dk wr hs h=>vY hw0 hblk0 h hs
 clear k0 k1 hH hH1 hw0 hw1 h00
 go_loopw [6] (fun vi wr=>∃(i:Nat) (dk:Array α),vi = .int .i64 i∧0<i∧i≤d.size+1∧dk.size=d.size∧SWK enc k W1 blk off dk wr ∧
   insOuter lt 0 d.size i dk=insOuter lt 0 d.size 1 d) (fun vi _=>d.size+1 - (intOf vi).toNat)
 case atStart=>exact⟨1,d,by rfl,by omega,by omega,rfl,start1,rfl⟩
 case round =>
  obtain⟨i,dk,rfl,hai,hib,hsk,hwr,hO⟩:=hrel;have HO:Hid (insOuter lt 0 d.size i dk=insOuter lt 0 d.size 1 d):=hO;clear hO
  go_wp2
  · -- i<b: the inner loop
   go_loopw [7] (fun vj wr2=>∃(j:Nat) (dj:Array α),vj = .int .i64 j∧j≤i∧dj.size=d.size∧SWK enc k W1 blk off dj wr2 ∧
     insInner lt 0 j dj=insInner lt 0 i dk) (fun vj _=>(intOf vj).toNat)
   case atStart=>exact⟨i,dk,rfl,Hl _,hsk,hwr,rfl⟩
   case round =>
    obtain⟨j,dj,rfl,hji,hsj,hw2,hI⟩:=hrel;have hlt:i<d.size:=by assumption
    have c0:=kk0 dj _ hw2;have c1:=kk1 dj _ hw2;have HW:Hid (SWK enc k W1 blk off dj wr):=hw2;have HI:Hid (insInner lt 0 j dj=insInner lt 0 i dk):=hI;clear hw2 hI hwr;have out:(j≤0∨lt dj[j]! dj[j - 1]! = false)→∀wx,SWK enc k W1 blk off dj wx→∃(i':Nat) (dk':Array α),GL .i64 ((i:Int)+1) = .int .i64 (i':Nat)∧0<i'∧i'≤d.size+1∧dk'.size=d.size ∧
      SWK enc k W1 blk off dk' wx∧insOuter lt 0 d.size i' dk'=insOuter lt 0 d.size 1 d:=fun hs wx hx =>
     ⟨i+1,dj,congrArg (GL .i64) (by omega),by omega,by omega,hsj,hx,
      by rw [←HO.out,insOuter_go _ _ _ _ _ hlt,←HI.out,insInner_stop _ _ _ _ hs]⟩
    have OUT:Hid _:=out;clear out;by_cases hja:0<j
    ·have hl:=hless dj wr hsj (toW dj wr hsj HW.out) j (j - 1) (by omega) (by omega)
     rw [show(((j - 1:Nat):Int))=(j:Int) - 1 by omega] at hl;replace hl:=hl.mono (R':=fun e w'=>e = .returned (.bool (lt dj[j]! dj[j - 1]!))∧SWK enc k W1 blk off dj w') (fun e w' h=>⟨h.1,by obtain⟨_,q,os,hx⟩:=h;rw [hx];exact DT HW.out q os⟩);cases hlv:lt dj[j]! dj[j - 1]! with
     | true =>
      rw [hlv] at hl
      go_wp2_with (go_at_fn g;refine hl.mono ?_;rintro e w' ⟨rfl,hx'⟩;have c1':=kk1 dj _ hx')
      have hs:=hswap w' dj (hold dj w' hsj hx') hsj j (j - 1) (by omega) (by omega);rw [show(((j - 1:Nat):Int))=(j:Int) - 1 by omega] at hs;rw [hs,Oper.upon_value]
      go_wp2
      go_roundw
      case rel =>
       (repeat apply Exists.intro)
       refine⟨⟨j - 1,swp dj j (j - 1),by congr 1<;>omega,by omega,by rw [size_swp];exact hsj,?_,?_⟩,by rw [decide_eq_true hlt,show((j - 1:Nat):Int)=(j:Int) - 1 by omega]⟩
       ·exact hx'.swap hk hb1 j (j - 1) (by omega) (by omega)
       ·rw [←HI.out,insInner_go lt 0 j dj hja hlv]
      case measure=>simp [intOf];omega
     | false =>
      rw [hlv] at hl
      go_wp2_with (go_at_fn g;refine hl.mono ?_;rintro e w' ⟨rfl,hx'⟩)
      go_roundw
      case rel=>exact OUT.out (Or.inr hlv) _ hx'
      case measure=>simp [intOf];omega
    ·go_wp2
     go_roundw
     case rel=>exact OUT.out (Or.inl (by omega)) _ HW.out
     case measure=>simp [intOf];omega
  · -- the outer loop is at its end
   have hge:¬i<d.size:=by assumption
   go_end0
   exact⟨rfl,by unfold GU;rw [←HO.out,insOuter_stop _ _ _ _ _ hge];exact toW _ _ hsk hwr⟩
set_option maxHeartbeats 2000000 in
set_option maxRecDepth 1000000 in
theorem xU {α:Type} [Inhabited α] (enc:α→List Value) (k:Nat) (hk:∀x,(enc x).length=k) (lt:α→α→Bool) (g:Nat) (lb:Array Value) (sf:Nat) (sb:Array Value) (blk off:Nat) (d:Array α) (w00 w:World) (h00:SWK enc k w00 blk off d w) (hblk0:blk<w00.heap.size)
  (eg:∀args w,(callFunc g args).run Tryz.prog w = .ok (.enter g args) w) (hless:vF Tryz.prog g lb enc k lt blk off d.size w00) (hswap:SwapSwapsK Tryz.prog sf sb enc k blk off d.size)
  (hH:HoldsK enc k w blk off d) (hsz:d.size<20) :
  Calls Tryz.prog 102 #[.agg #[.func (.func g) #[] lb,.func (.func sf) #[] sb],.int .i64 d.size] w fun e w' =>
   e = .returned (.tuple #[])∧SWK enc k w00 blk off (GU lt d 0 d.size) w':=by
 have hc:=xG enc k hk lt g lb sf sb blk off d w00 _ (h00.alloc (.cells #[.func (.func g) #[] lb,.func (.func sf) #[] sb] 129)) hblk0 eg hless hswap (by rw [alloc_eq_grow];exact holdsK_grow enc k w _ blk off d (h00.lt hblk0) hH) (by omega);clear hless hswap hH h00
 go_enter Tryz.func102,Tryz.ntmps102
 go_wp2
 refine wp_loop_rounds 1 ?_
 rw [rounds_succ]
 go_wp2_with (go_at_call 131;refine hc.mono ?_;rintro e w1 ⟨rfl,h1⟩)
 refine wp_loop_rounds 1 ?_
 rw [rounds_succ]
 go_wp2
 all_goals first | (exfalso;omega) | (go_end0;exact⟨rfl,h1⟩)
theorem jH {α:Type} [Inhabited α] (lt:α→α→Bool) (a:Nat):∀(j:Nat) (d:Array α),(insInner lt a j d).size=d.size
 | 0,d=>by rw [insInner]
 | j+1,d=>by
  rw [insInner];split
  ·rw [jH lt a j,size_swp]
  ·rfl
theorem nR {α:Type} [Inhabited α] (lt:α→α→Bool) (a b:Nat):∀(k i:Nat) (d:Array α),b - i=k→(insOuter lt a b i d).size=d.size
 | 0,i,d,h=>by rw [insOuter_stop lt a b i d (by omega)]
 | k+1,i,d,h=>by rw [insOuter_go lt a b i d (by omega),nR lt a b k (i+1) _ (by omega),jH]
theorem BB (g:Nat) (lb:Array Value) (sf:Nat) (sb:Array Value) (w1:World) :
  Calls Tryz.prog 131 #[.agg #[.func (.func g) #[] lb,.func (.func sf) #[] sb],.int .i64 (20:Nat),.int .i64 (20:Nat)] w1 fun e w'=>e = .returned (.tuple #[])∧w'=w1.alloc (.cells #[.func (.func g) #[] lb,.func (.func sf) #[] sb] 129):=by
 have LI:LaysGg.n26 Tryz.prog Tryz.laysGt8_ren.viaGt:=({Tryz.laysGt8 with}:LaysGt.n29 Tryz.prog Tryz.laysGt8_ren).elder;exact Any.insertionSort_func_none LI (.func g) #[] lb sf sb 20 20 (by omega) (by omega) w1
set_option maxHeartbeats 2000000 in
set_option maxRecDepth 1000000 in
theorem uS {α:Type} [Inhabited α] (enc:α→List Value) (k:Nat) (hk:∀x,(enc x).length=k) (lt:α→α→Bool) (g:Nat) (lb:Array Value) (sf:Nat) (sb:Array Value) (blk off:Nat) (d:Array α) (w00 w:World) (h00:SWK enc k w00 blk off d w) (hblk0:blk<w00.heap.size)
  (eg:∀args w,(callFunc g args).run Tryz.prog w = .ok (.enter g args) w) (hless:vF Tryz.prog g lb enc k lt blk off d.size w00) (hswap:SwapSwapsK Tryz.prog sf sb enc k blk off d.size)
  (hH:HoldsK enc k w blk off d) (hsz:d.size=20) :
  Calls Tryz.prog 102 #[.agg #[.func (.func g) #[] lb,.func (.func sf) #[] sb],.int .i64 (20:Nat)] w fun e w' =>
   e = .returned (.tuple #[])∧SWK enc k w00 blk off (GU lt d 0 d.size) w':=by
 have hwb:=h00.lt hblk0;have hw1:SWK enc k w blk off d (w.alloc (.cells #[.func (.func g) #[] lb,.func (.func sf) #[] sb] 129)):=(SWK.start hH).alloc _;have hH1:=hw1.holds hwb hH rfl;have hless1:vF Tryz.prog g lb enc k lt blk off d.size (w.alloc (.cells #[.func (.func g) #[] lb,.func (.func sf) #[] sb] 129)):=fun dk W hs hW i j hi hj=>hless dk W hs (vY (h00.alloc _) hblk0 hW (by rw [hs])) i j hi hj
 have hc:=xG enc k hk lt g lb sf sb blk off d (w.alloc (.cells #[.func (.func g) #[] lb,.func (.func sf) #[] sb] 129)) _ (SWK.start hH1) (hw1.lt hwb) eg hless1 hswap hH1 (by omega);have hn:=BB g lb sf sb;have bx:∀(q:Nat) (v:Value),(w.alloc (.cells #[.func (.func g) #[] lb,.func (.func sf) #[] sb] 129)).cell? ⟨w.heap.size,q,none⟩=some v→∀X w',SWK enc k (w.alloc (.cells #[.func (.func g) #[] lb,.func (.func sf) #[] sb] 129)) blk off X w'→w'.cell? ⟨w.heap.size,q,none⟩=some v:=fun q v h X w' hX =>
  (pO hX (show w.heap.size≠blk by omega) (by show w.heap.size<(w.alloc _).heap.size;simp)).trans h
 have bx0:=bx 0 (.func (.func g) #[] lb) (by simp);have bx1:=bx 1 (.func (.func sf) #[] sb) (by simp);have fin:∀w1,SWK enc k (w.alloc (.cells #[.func (.func g) #[] lb,.func (.func sf) #[] sb] 129)) blk off (GU lt d 0 20) w1→SWK enc k w00 blk off (GU lt d 0 20) (w1.alloc (.cells #[.func (.func g) #[] lb,.func (.func sf) #[] sb] 129)):=fun w1 h1 =>
  (vY (h00.alloc _) hblk0 h1 (by rw [←hsz];unfold GU;exact nR lt 0 d.size _ _ d rfl)).alloc _
 have FIN:Hid _:=fin;rw [hsz] at hc ⊢;clear hless hswap hH h00 bx hw1 hH1 hless1 fin
 go_enter Tryz.func102,Tryz.ntmps102
 go_wp2
 refine wp_loop_rounds 2 ?_
 rw [rounds_succ]
 go_wp2_with (go_at_call 131;refine hc.mono ?_;rintro e w1 ⟨rfl,h1⟩;have b0:=bx0 _ _ h1;have b1:=bx1 _ _ h1)
 rw [rounds_succ]
 go_wp2_with (go_at_call 131;refine(hn _).mono ?_;rintro e w2 ⟨rfl,rfl⟩)
 refine wp_loop_rounds 1 ?_
 rw [rounds_succ]
 go_wp2
 go_end0
 exact⟨rfl,FIN.out _ h1⟩
def siT:TypeInfo:=(Tryz.prog.info? 24).get (by kernel_rfl)
def siE:TypeInfo:=(Tryz.prog.info? 37).get (by kernel_rfl)
theorem siK (n:Nat) (h2:2≤n):Lib.swapperK n siE 25=9:=by
 have a:siE.hasPointers=true:=by kernel_rfl
 have b:(siE.bytes==8)=false:=by kernel_rfl
 have c:(n==0)=false:=by simp;omega
 have d:(n==1)=false:=by simp;omega
 simp [Lib.swapperK,a,b,c,d]
set_option maxRecDepth 1000000 in
theorem yO {α:Type} [Inhabited α] (enc:α→List Value) (hk:∀x,(enc x).length=4) (h1:∀x,∀v∈enc x,v.oneCell'=true) (lt:α→α→Bool) (g:Nat) (lb:Array Value) (blk off c:Nat) (d:Array α) (w:World) (hblk:blk<w.heap.size)
  (eg:∀args w,(callFunc g args).run Tryz.prog w = .ok (.enter g args) w) (hless:vF Tryz.prog g lb enc 4 lt blk off d.size w)
  (hH:HoldsK enc 4 w blk off d) (h2:2≤d.size) (hsz:d.size≤20) :
  Calls Tryz.prog 66 #[.iface 24 (.slice (some ⟨blk,off,none⟩) d.size c),.func (.func g) #[] lb] w fun e w' =>
   e = .returned (.tuple #[])∧SWK enc 4 w blk off (GU lt d 0 d.size) w':=by
 refine Any.sort_SliceStable_of_stable Tryz.laysGt8 24 37 siT siE (by kernel_rfl) (by kernel_rfl) (by kernel_rfl) (by kernel_rfl) 25 (fun _=>by kernel_rfl) (some ⟨blk,off,none⟩) d.size c (by omega) 130 (by rw [siK _ h2];kernel_rfl) (.func g) #[] lb w _ ?_
 have hB:sliceBound Tryz.prog 37 siE 25 (some ⟨blk,off,none⟩) d.size c=#[.slice (some ⟨blk,off,none⟩) d.size c,typeHandle Tryz.prog 37]:=by
  unfold sliceBound;rw [if_neg (swapperK_gt _ _ _ h2)]
 rw [hB];have h00:SWK enc 4 w blk off d (stableWorld Tryz.prog Tryz.laysGt8_ren 24 (some ⟨blk,off,none⟩) d.size c w):=((SWK.start hH).alloc _).alloc _;have hsw:=swapSwapsK_of_literal false 130 (fun args W=>run_callFunc_extern Tryz.func130 (by kernel_rfl) (by kernel_rfl) (by kernel_rfl) (e:=Extern.ReflectliteSwapper.swap false) (by kernel_rfl) args W) 37 siE (by kernel_rfl) enc 4 hk (by kernel_rfl) (fun _=>by kernel_rfl) h1 blk off d.size c;by_cases h20:d.size=20
 ·have:=uS enc 4 hk lt g lb 130 #[.slice (some ⟨blk,off,none⟩) d.size c,typeHandle Tryz.prog 37] blk off d w _ h00 hblk eg hless hsw (h00.holds hblk hH rfl) h20
  rw [h20] at this ⊢;exact this
 ·exact xU enc 4 hk lt g lb 130 _ blk off d w _ h00 hblk eg hless hsw (h00.holds hblk hH rfl) (by omega)
set_option maxRecDepth 1000000 in
theorem yB (g:Nat) (lb:Array Value) (p:Option Addr) (n c:Nat) (hn:n≤1) (w:World) :
  Calls Tryz.prog 66 #[.iface 24 (.slice p n c),.func (.func g) #[] lb] w fun e w'=>e = .returned (.tuple #[])∧∃os,w'=grow w os:=by
 have hn2:n=0∨n=1:=by omega
 rcases hn2 with rfl | rfl
 ·exact Any.sort_SliceStable_tiny Tryz.laysGt8 24 37 siT siE (by kernel_rfl) (by kernel_rfl) (by kernel_rfl) (by kernel_rfl) 25 (fun _=>by kernel_rfl) p 0 c hn 122 (by kernel_rfl) (.func g) #[] lb w
 ·exact Any.sort_SliceStable_tiny Tryz.laysGt8 24 37 siT siE (by kernel_rfl) (by kernel_rfl) (by kernel_rfl) (by kernel_rfl) 25 (fun _=>by kernel_rfl) p 1 c hn 123 (by kernel_rfl) (.func g) #[] lb w
end Go.Proofs.YtidhhpakdogiaaaGreatDoor

namespace Go.Proofs.YtidhhpakdogiaaaGreatDoor
open Go Go.Proofs Go.V Go.RowKit Go.Sort
set_option maxRecDepth 100000
abbrev Mk:=Int × Int × Int × ByteArray
def dD (x:Mk):List Value:=[.int .i64 x.1,.int .i64 x.2.1,.int .i64 x.2.2.1,.string x.2.2.2]
def Aq (a b:Mk):Bool:=if a.1≠b.1 then decide (a.1<b.1) else if a.2.1≠b.2.1 then decide (a.2.1<b.2.1) else decide (a.2.2.1<b.2.2.1)
theorem Gr (W:World) (a b:Obj):((W.alloc a).alloc b).drew=grow (W.drewN 1) #[a,b]:=by
 rw [alloc_eq_grow,alloc_eq_grow,grow_grow];rfl
set_option maxHeartbeats 2000000 in
set_option maxRecDepth 1000000 in
theorem AB (i j:Nat) (a b:Mk) (Bl g og cg ng:Nat) (W:World)
  (h1:W.cell? ⟨Bl,0,none⟩=some (.slice (some ⟨g,og,none⟩) ng cg)) (hi:i<ng) (hj:j<ng)
  (d0:W.cell? ⟨g,og+i*4,none⟩=some (.int .i64 a.1)) (d1:W.cell? ⟨g,og+i*4+1,none⟩=some (.int .i64 a.2.1)) (d2:W.cell? ⟨g,og+i*4+2,none⟩=some (.int .i64 a.2.2.1)) (d3:W.cell? ⟨g,og+i*4+3,none⟩=some (.string a.2.2.2))
  (e0:W.cell? ⟨g,og+j*4,none⟩=some (.int .i64 b.1)) (e1:W.cell? ⟨g,og+j*4+1,none⟩=some (.int .i64 b.2.1)) (e2:W.cell? ⟨g,og+j*4+2,none⟩=some (.int .i64 b.2.2.1)) (e3:W.cell? ⟨g,og+j*4+3,none⟩=some (.string b.2.2.2)) :
  Calls Tryz.prog 85 (#[.int .i64 i,.int .i64 j]++#[.pointer (some ⟨Bl,0,none⟩)]) W fun e w'=>e = .returned (.bool (Aq a b))∧∃q os,w'=grow (W.drewN q) os:=by
 go_enter Tryz.func85,Tryz.ntmps85
 go_upto_region 1 with fail
 go_region_held (fun w'=>w'.cell? ⟨Bl,0,none⟩=some (.slice (some ⟨g,og,none⟩) ng cg)∧(w'.cell? ⟨g,og+i*4,none⟩=some (.int .i64 a.1)∧w'.cell? ⟨g,og+i*4+1,none⟩=some (.int .i64 a.2.1)∧w'.cell? ⟨g,og+i*4+2,none⟩=some (.int .i64 a.2.2.1)∧w'.cell? ⟨g,og+i*4+3,none⟩=some (.string a.2.2.2)) ∧
   (w'.cell? ⟨g,og+j*4,none⟩=some (.int .i64 b.1)∧w'.cell? ⟨g,og+j*4+1,none⟩=some (.int .i64 b.2.1)∧w'.cell? ⟨g,og+j*4+2,none⟩=some (.int .i64 b.2.2.1)∧w'.cell? ⟨g,og+j*4+3,none⟩=some (.string b.2.2.2))) (go_keep) (fail)
 all_goals go_wp2
 all_goals
  go_ret
  refine⟨congrArg (fun b=>Ending.returned (.bool b)) ?_,1,_,Gr W _ _⟩
  unfold Aq
  simp_all
end Go.Proofs.YtidhhpakdogiaaaGreatDoor

end
