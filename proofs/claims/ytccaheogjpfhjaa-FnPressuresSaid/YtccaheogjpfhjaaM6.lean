/-
  A part of the proof: contracts and plain forms of functions beneath the statement, made small by a program (names shortened, what is not needed left out).
-/
import Derived.Test.YtccaheogjpfhjaaRows
import Derived.Test.YtccaheogjpfhjaaM5
import Derived.Shelf.Abstract
import Derived.Shelf.Slices.In.SortNone2
import Derived.Shelf.Sort.Plain
import Derived.Maps.RangeWalk
open Option renaming map → Ix, map_some → Jz
open Go.Value renaming int → Iy, ownBlock → Js, bool → JA
open List renaming length_map → Iz, mem_map → IC, length_append → IF, range → II, getElem?_eq_getElem → IJ, append_assoc → IP, getElem?_eq_some_iff → IQ, mem_singleton → IW, getElem?_map → IY, getD_eq_getElem?_getD → Jc, getElem?_append_right → Jd, mem_range → Je, map_append → Jg, append_nil → Jh, length_range → Jl, getElem?_append_left → Jn, pairwise_mergeSort → Jp, getElem?_eq_none → Jq, getElem?_range → Jt, map_eq_nil_iff → Ju, map_congr_left → Jv, mergeSort_perm → Jw, nil_append → JB, mem_append → JD
open Nat renaming le_refl → IA, le_trans → IK, zero_add → IU, zero_le → IX, add_assoc → Jj, lt_of_lt_of_le → Jx
open Classical renaming choose → IB, propDecidable → Jf, choose_spec → Jr
open Go.Proofs renaming enters_of → ID
open Go.World renaming grownBy_alloc → IE
open Go.ChangeMaps renaming setBlock → IG
open List.cons renaming injEq → IH
open Go.IntKind renaming u64 → IL, i64 → Ji
open Array renaming getElem?_eq_some_iff → IM, getElem?_setIfInBounds_ne → IV
open Option.some renaming injEq → IZ, inj → JC
open Go.Result renaming andThen → Ja
open Go.Lib renaming cell_of_heap → Jb
open Int renaming toNat_natCast → Jk
open Go.RowKit.Below renaming refl → Jm
open Go.Sort renaming putCells → Jo
open Bool renaming and_eq_true → Jy
open Go.Oper renaming wp → JE
open Prod.mk renaming injEq → JF
set_option maxRecDepth 100000
set_option linter.unusedSimpArgs false
set_option linter.unusedVariables false
noncomputable section
namespace Go.Proofs.Ytccaheogjpfhjaa
open Go Go.V
set_option maxRecDepth 100000
theorem vX (x0 x1 x2:D):eS [x0,x1,x2]=((bin .geq false [] x0 x1).bind fun z=>(aj (.tup []) z true (some x0)).bind fun c=>(aj (.tup []) z true (some x2)).bind fun d=>(aj (.tup []) z true (bin .leq false [] c d)).bind fun e=>(aJ z e (B false)).bind fun z=>some (.ret [z] [])):=by kernel_rfl
theorem qj (x0:D):cz [x0]=(callK (eS [x0,I 1,I 8]) fun c _=>some (.ret [sl c 0] [])):=by kernel_rfl
theorem rR (x0:D):fv [x0]=((lenD false x0).bind fun z=>(aI (fun s=>(bin .lss false [] (sl s 3) (sl s 2)).bind fun z=>ifD z ((Ix D.ptr (aF 2 (sl s 1) (sl s 3))).bind fun z=>((ldD true 2 z).bind bE).bind fun z=>(stD 2 (.agg [I 0,I 0]) (.ref 0 0) z).bind fun b=>(ab b (.ref 0 0)).bind fun z=>((atD b z).bind (aD false 1)).bind fun z=>callK (cz [z]) fun c _=>(un .not (sl c 0)).bind fun z=>(aj D.bad z false (ab b (.ref 0 1))).bind fun d=>(aj (.tup []) z false ((atD b d).bind (aD false 1))).bind fun e=>cd z false (callK (cz [e]) fun c _=>some (.nrm [sl c 0])) [.tup []] fun f=>(aj (.tup []) z false (un .not (sl f 0))).bind fun g=>(aJ z (B true) g).bind fun z=>ifD z (some (.ret [B false] [])) ((bin .add false [] (sl s 3) (I 1)).bind fun z=>some (.nrm [sl s 0,sl s 1,sl s 2,z]))) (some (.ext 0 [sl s 0]))) [x0,x0,z,I 0]).bind fun o=>outK o (fun i s=>ifN (i.beq 0) ((lenD false (sl s 0)).bind fun z=>(bin .leq false [] z (I 8)).bind fun z=>some (.ret [z] [])) none) fun a b=>some (.ret a b)):=by kernel_rfl
theorem vO (x0 x1:D):je [x0,x1]=((qp 4 x1).bind fun y=>(ab y (.ref 0 0)).bind fun z=>((atD y z).bind (aD false 1)).bind fun z=>(Ix D.ptr (aF 2 x0 z)).bind fun z=>((ldD true 2 z).bind bE).bind fun z=>(stD 2 (.agg [I 0,I 0]) (.ref 0 0) z).bind fun b=>(ab y (.ref 0 3)).bind fun z=>((atD y z).bind (aD false 1)).bind fun z=>ifD z ((ab b (.ref 0 1)).bind fun z=>((atD b z).bind (aD false 1)).bind fun z=>(ab b (.ref 0 0)).bind fun c=>((atD b c).bind (aD false 1)).bind fun d=>some (.ret [z,d] [])) ((ab b (.ref 0 0)).bind fun z=>((atD b z).bind (aD false 1)).bind fun z=>(ab b (.ref 0 1)).bind fun c=>((atD b c).bind (aD false 1)).bind fun d=>some (.ret [z,d] []))):=by kernel_rfl
theorem vM (x0 x1 x2:D):jd [x0,x1,x2]=((qp 4 x2).bind fun y=>(mQ true 4 0 y).bind fun z=>callK (je [x1,z]) fun f _=>(al (.tup f) 0).bind fun z=>(al (.tup f) 1).bind fun g=>(ab y (.ref 0 1)).bind fun h=>((atD y h).bind (aD false 1)).bind fun j=>(bin .lss false [] j (I 0)).bind fun e=>(aj D.bad e false (ab y (.ref 0 2))).bind fun k=>(aj (.tup []) e false ((atD y k).bind (aD false 1))).bind fun l=>(aj (.tup []) e false (bin .lss false [] l (I 0))).bind fun m=>(aJ e (B true) m).bind fun c=>(aj D.bad c false (ab y (.ref 0 1))).bind fun n=>(aj (.tup []) c false ((atD y n).bind (aD false 1))).bind fun p=>(aj (.tup []) c false (some z)).bind fun q=>(aj (.tup []) c false (bin .add false [] p q)).bind fun r=>(aj (.tup []) c false (some x0)).bind fun t=>(aj (.tup []) c false (Ix D.ptr (aF 1 t (I 0)))).bind fun u=>(aj (.tup []) c false (ldD false 1 u)).bind fun v=>(aj (.tup []) c false (lenD false v)).bind fun w=>(aj (.tup []) c false (bin .gtr false [] r w)).bind fun za=>(aJ c (B true) za).bind fun d=>(aj D.bad d false (ab y (.ref 0 2))).bind fun zb=>(aj (.tup []) d false ((atD y zb).bind (aD false 1))).bind fun zc=>(aj (.tup []) d false (some g)).bind fun zd=>(aj (.tup []) d false (bin .add false [] zc zd)).bind fun ze=>(aj (.tup []) d false (some x0)).bind fun zf=>(aj (.tup []) d false (lenD false zf)).bind fun zg=>(aj (.tup []) d false (bin .gtr false [] ze zg)).bind fun zh=>(aJ d (B true) zh).bind fun zi=>ifD zi (some (.ret [B false] [])) ((ab y (.ref 0 2)).bind fun zj=>((atD y zj).bind (aD false 1)).bind fun zk=>(aI (fun s=>(ab (sl s 1) (.ref 0 2)).bind fun z=>((atD (sl s 1) z).bind (aD false 1)).bind fun z=>(bin .add false [] z (sl s 3)).bind fun z=>(bin .lss false [] (sl s 4) z).bind fun z=>ifD z ((ab (sl s 1) (.ref 0 1)).bind fun z=>((atD (sl s 1) z).bind (aD false 1)).bind fun z=>(aI (fun s=>(ab (sl s 1) (.ref 0 1)).bind fun z=>((atD (sl s 1) z).bind (aD false 1)).bind fun z=>(bin .add false [] z (sl s 2)).bind fun z=>(bin .lss false [] (sl s 5) z).bind fun z=>ifD z ((Ix D.ptr (aF 1 (sl s 0) (sl s 4))).bind fun z=>(ldD false 1 z).bind fun z=>(Ix D.ptr (aF 1 z (sl s 5))).bind fun z=>((ldD false 1 z).bind bE).bind fun z=>(bin .neq false [] z (I (-1))).bind fun z=>ifD z (some (.ret [B false] [])) ((bin .add false [] (sl s 5) (I 1)).bind fun z=>some (.nrm [sl s 0,sl s 1,sl s 2,sl s 3,sl s 4,z]))) (some (.ext 2 [sl s 0,sl s 1,sl s 2,sl s 3,sl s 4]))) [sl s 0,sl s 1,sl s 2,sl s 3,sl s 4,z]).bind fun o=>outK o (fun i s=>ifN (i.beq 2) ((bin .add false [] (sl s 4) (I 1)).bind fun z=>some (.nrm [sl s 0,sl s 1,sl s 2,sl s 3,z])) (ifN (i.beq 1) ((bin .add false [] (sl s 4) (I 1)).bind fun z=>some (.nrm [sl s 0,sl s 1,sl s 2,sl s 3,z])) (some (.ext i [])))) fun a b=>some (.ret a b)) (some (.ext 0 []))) [x0,y,z,g,zk]).bind fun o=>outK o (fun i _=>ifN (i.beq 0) (some (.ret [B true] [])) none) fun a b=>some (.ret a b))):=by kernel_rfl
theorem rO (x0 x1 x2:D):cA [x0,x1,x2]=((lenD false x0).bind fun z=>(aI (fun s=>(bin .lss false [] (sl s 5) (sl s 4)).bind fun z=>ifD z ((Ix D.ptr (aF 1 (sl s 3) (sl s 5))).bind fun z=>((ldD false 1 z).bind bE).bind fun z=>callK (eS [z,sl s 1,sl s 2]) fun e _=>(un .not (sl e 0)).bind fun d=>(aj (.tup []) d false (some (sl s 5))).bind fun f=>(aj (.tup []) d false (bin .gtr false [] f (I 0))).bind fun g=>(aj (.tup []) d false (some g)).bind fun c=>(aj (.tup []) c true (some (sl s 0))).bind fun h=>(aj (.tup []) c true (some (sl s 5))).bind fun j=>(aj (.tup []) c true (bin .sub false [] j (I 1))).bind fun k=>(aj (.tup []) c true (Ix D.ptr (aF 1 h k))).bind fun l=>(aj (.tup []) c true ((ldD false 1 l).bind bE)).bind fun m=>(aj (.tup []) c true (some z)).bind fun z=>(aj (.tup []) c true (bin .geq false [] m z)).bind fun z=>(aj (.tup []) d false (aJ c z (B false))).bind fun z=>(aJ d (B true) z).bind fun z=>ifD z (some (.ret [B false] [])) ((bin .add false [] (sl s 5) (I 1)).bind fun z=>some (.nrm [sl s 0,sl s 1,sl s 2,sl s 3,sl s 4,z]))) (some (.ext 0 []))) [x0,x1,x2,x0,z,I 0]).bind fun o=>outK o (fun i _=>ifN (i.beq 0) (some (.ret [B true] [])) none) fun a b=>some (.ret a b)):=by kernel_rfl
theorem rP (x0 x1:D):ee [x0,x1]=((lenD false x0).bind fun z=>(aI (fun s=>(bin .lss false [] (sl s 3) (sl s 2)).bind fun z=>ifD z ((Ix D.ptr (aF 4 (sl s 1) (sl s 3))).bind fun z=>((ldD true 4 z).bind bE).bind fun z=>(stD 4 (.agg [I 0,I 0,I 0,B false]) (.ref 0 0) z).bind fun b=>(ab b (.ref 0 0)).bind fun z=>((atD b z).bind (aD false 1)).bind fun z=>(bin .eql false [] z (sl s 0)).bind fun z=>ifD z (some (.ret [B true] [])) ((bin .add false [] (sl s 3) (I 1)).bind fun z=>some (.nrm [sl s 0,sl s 1,sl s 2,z]))) (some (.ext 0 []))) [x1,x0,z,I 0]).bind fun o=>outK o (fun i _=>ifN (i.beq 0) (some (.ret [B false] [])) none) fun a b=>some (.ret a b)):=by kernel_rfl
theorem ue (x0 x1:D):fh [x0,x1]=((lenD false x0).bind fun z=>(aI (fun s=>(bin .lss false [] (sl s 4) (sl s 3)).bind fun z=>ifD z ((Ix D.ptr (aF 1 (sl s 2) (sl s 4))).bind fun z=>(ldD false 1 z).bind fun z=>(aI (fun s=>(bin .add false [] (sl s 3) (I 1)).bind fun z=>(lenD false (sl s 2)).bind fun e=>(bin .lss false [] z e).bind fun z=>ifD z ((bin .add false [] (sl s 3) (I 1)).bind fun z=>(Ix D.ptr (aF 1 (sl s 2) z)).bind fun z=>((ldD false 1 z).bind bE).bind fun z=>(Ix D.ptr (aF 1 (sl s 2) (sl s 3))).bind fun f=>((ldD false 1 f).bind bE).bind fun g=>(bin .eql false [] g (sl s 0)).bind fun c=>(aj (.tup []) c true (some z)).bind fun h=>(aj (.tup []) c true (some (sl s 0))).bind fun j=>(aj (.tup []) c true (bin .neq false [] h j)).bind fun k=>(aJ c k (B false)).bind fun d=>(aj (.tup []) d true (some z)).bind fun l=>(aj (.tup []) d true (bin .neq false [] l (I (-1)))).bind fun m=>(aJ d m (B false)).bind fun n=>ifD n ((ab (sl s 1) (.ref 0 0)).bind fun p=>(ab p (sl s 1)).bind fun b=>(upM b [z,B true]).bind fun y=>(bin .add false [] (sl s 3) (I 1)).bind fun z=>some (.nrm [sl s 0,y,sl s 2,z,sl s 4,sl s 5,sl s 6])) ((bin .add false [] (sl s 3) (I 1)).bind fun z=>some (.nrm [sl s 0,sl s 1,sl s 2,z,sl s 4,sl s 5,sl s 6]))) (some (.ext 2 [sl s 0,sl s 1,sl s 4,sl s 5,sl s 6]))) [sl s 0,sl s 1,z,I 0,sl s 2,sl s 3,sl s 4]).bind fun o=>outK o (fun i s=>ifN (i.beq 2) ((bin .add false [] (sl s 4) (I 1)).bind fun z=>some (.nrm [sl s 0,sl s 1,sl s 2,sl s 3,z])) (ifN (i.beq 1) ((bin .add false [] (sl s 4) (I 1)).bind fun z=>some (.nrm [sl s 0,sl s 1,sl s 2,sl s 3,z])) (some (.ext i [sl s 1])))) fun a b=>some (.ret a b)) (some (.ext 0 [sl s 1]))) [x1,D.mp [],x0,z,I 0]).bind fun o=>outK o (fun i s=>ifN (i.beq 0) ((ab (sl s 0) (.ref 0 0)).bind fun z=>(ab z (sl s 0)).bind fun y=>some (.ret [y] [])) none) fun a b=>some (.ret a b)):=by kernel_rfl
theorem ve (x0 x1:D):cE [x0,x1]=((lenD false x1).bind fun z=>(aI (fun s=>(bin .lss false [] (sl s 4) (sl s 3)).bind fun z=>ifD z ((Ix D.ptr (aF 1 (sl s 2) (sl s 4))).bind fun z=>((ldD false 1 z).bind bE).bind fun z=>(Ix D.ptr (aF 1 (sl s 0) z)).bind fun c=>(ldD false 1 c).bind fun d=>(Ix D.ptr (aF 1 (sl s 0) z)).bind fun z=>(ldD false 1 z).bind fun z=>(lenD false z).bind fun z=>(bin .sub false [] z (I 1)).bind fun z=>(Ix D.ptr (aF 1 d z)).bind fun z=>((ldD false 1 z).bind bE).bind fun z=>(bin .neq false [] z (I (-1))).bind fun e=>ifD e ((ab (sl s 1) (.ref 0 0)).bind fun f=>(ab f (sl s 1)).bind fun b=>(upM b [z,B true]).bind fun y=>(bin .add false [] (sl s 4) (I 1)).bind fun z=>some (.nrm [sl s 0,y,sl s 2,sl s 3,z])) ((bin .add false [] (sl s 4) (I 1)).bind fun z=>some (.nrm [sl s 0,sl s 1,sl s 2,sl s 3,z]))) (some (.ext 0 [sl s 0,sl s 1]))) [x0,D.mp [],x1,z,I 0]).bind fun o=>outK o (fun i s=>ifN (i.beq 0) ((aI (fun s=>ifD (sl s 2) ((lenD false (sl s 0)).bind fun z=>(aI (fun s=>(bin .lss false [] (sl s 5) (sl s 4)).bind fun z=>ifD z ((Ix D.ptr (aF 1 (sl s 3) (sl s 5))).bind fun z=>(ldD false 1 z).bind fun z=>(aI (fun s=>(bin .add false [] (sl s 4) (I 1)).bind fun z=>(lenD false (sl s 3)).bind fun c=>(bin .lss false [] z c).bind fun z=>ifD z ((Ix D.ptr (aF 1 (sl s 3) (sl s 4))).bind fun z=>((ldD false 1 z).bind bE).bind fun z=>(bin .neq false [] z (I (-1))).bind fun z=>(aj D.bad z true (ab (sl s 1) (.ref 0 0))).bind fun d=>(aj (.tup []) z true (some (sl s 3))).bind fun e=>(aj (.tup []) z true (some (sl s 4))).bind fun f=>(aj (.tup []) z true (bin .add false [] f (I 1))).bind fun g=>(aj (.tup []) z true (Ix D.ptr (aF 1 e g))).bind fun h=>(aj (.tup []) z true ((ldD false 1 h).bind bE)).bind fun j=>(aj (.tup []) z true ((ab d (sl s 1)).bind fun b=>lkD b j)).bind fun k=>(aJ z k (B false)).bind fun z=>(aj D.bad z true (ab (sl s 1) (.ref 0 0))).bind fun l=>(aj (.tup []) z true (some (sl s 3))).bind fun m=>(aj (.tup []) z true (some (sl s 4))).bind fun n=>(aj (.tup []) z true (Ix D.ptr (aF 1 m n))).bind fun p=>(aj (.tup []) z true ((ldD false 1 p).bind bE)).bind fun q=>(aj (.tup []) z true ((ab l (sl s 1)).bind fun b=>lkD b q)).bind fun r=>(aj (.tup []) z true (un .not r)).bind fun t=>(aJ z t (B false)).bind fun z=>ifD z ((ab (sl s 1) (.ref 0 0)).bind fun z=>(Ix D.ptr (aF 1 (sl s 3) (sl s 4))).bind fun u=>((ldD false 1 u).bind bE).bind fun v=>(ab z (sl s 1)).bind fun b=>(upM b [v,B true]).bind fun y=>(bin .add false [] (sl s 4) (I 1)).bind fun z=>some (.nrm [sl s 0,y,B true,sl s 3,z,sl s 5,sl s 6,sl s 7])) ((bin .add false [] (sl s 4) (I 1)).bind fun z=>some (.nrm [sl s 0,sl s 1,sl s 2,sl s 3,z,sl s 5,sl s 6,sl s 7]))) (some (.ext 6 [sl s 0,sl s 1,sl s 2,sl s 5,sl s 6,sl s 7]))) [sl s 0,sl s 1,sl s 2,z,I 0,sl s 3,sl s 4,sl s 5]).bind fun o=>outK o (fun i s=>ifN (i.beq 6) ((bin .add false [] (sl s 5) (I 1)).bind fun z=>some (.nrm [sl s 0,sl s 1,sl s 2,sl s 3,sl s 4,z])) (ifN (i.beq 5) ((bin .add false [] (sl s 5) (I 1)).bind fun z=>some (.nrm [sl s 0,sl s 1,sl s 2,sl s 3,sl s 4,z])) (some (.ext i [sl s 0,sl s 1,sl s 2])))) fun a b=>some (.ret a b)) (some (.ext 4 [sl s 0,sl s 1,sl s 2]))) [sl s 0,sl s 1,B false,sl s 0,z,I 0]).bind fun o=>outK o (fun i s=>ifN (i.beq 4) (some (.nrm [sl s 0,sl s 1,sl s 2])) (ifN (i.beq 3) (some (.nrm [sl s 0,sl s 1,sl s 2])) (some (.ext i [sl s 1])))) fun a b=>some (.ret a b)) (some (.ext 2 [sl s 1]))) [sl s 0,sl s 1,B true]).bind fun o=>outK o (fun i s=>ifN (i.beq 2) ((ab (sl s 0) (.ref 0 0)).bind fun z=>(ab z (sl s 0)).bind fun y=>some (.ret [y] [])) none) fun a b=>some (.ret a b)) none) fun a b=>some (.ret a b)):=by kernel_rfl
theorem zG (x0 x1 x2:D):fq [x0,x1,x2]=((bin .geq false [] x0 x1).bind fun z=>(aj (.tup []) z true (some x0)).bind fun c=>(aj (.tup []) z true (some x2)).bind fun d=>(aj (.tup []) z true (bin .leq false [] c d)).bind fun e=>(aJ z e (B false)).bind fun z=>some (.ret [z] [])):=by kernel_rfl
theorem vY (x0:D):cC [x0]=(callK (fq [x0,I 1,I 8]) fun c _=>some (.ret [sl c 0] [])):=by kernel_rfl
theorem tr (x0:D):fZ [x0]=((lenD false x0).bind fun z=>(aI (fun s=>(bin .lss false [] (sl s 3) (sl s 2)).bind fun z=>ifD z ((Ix D.ptr (aF 2 (sl s 1) (sl s 3))).bind fun z=>((ldD true 2 z).bind bE).bind fun z=>(stD 2 (.agg [I 0,I 0]) (.ref 0 0) z).bind fun b=>(ab b (.ref 0 0)).bind fun z=>((atD b z).bind (aD false 1)).bind fun z=>callK (cC [z]) fun c _=>(un .not (sl c 0)).bind fun z=>(aj D.bad z false (ab b (.ref 0 1))).bind fun d=>(aj (.tup []) z false ((atD b d).bind (aD false 1))).bind fun e=>cd z false (callK (cC [e]) fun c _=>some (.nrm [sl c 0])) [.tup []] fun f=>(aj (.tup []) z false (un .not (sl f 0))).bind fun g=>(aJ z (B true) g).bind fun z=>ifD z (some (.ret [B false] [])) ((bin .add false [] (sl s 3) (I 1)).bind fun z=>some (.nrm [sl s 0,sl s 1,sl s 2,z]))) (some (.ext 0 [sl s 0]))) [x0,x0,z,I 0]).bind fun o=>outK o (fun i s=>ifN (i.beq 0) ((lenD false (sl s 0)).bind fun z=>(bin .leq false [] z (I 8)).bind fun z=>some (.ret [z] [])) none) fun a b=>some (.ret a b)):=by kernel_rfl
theorem vB (x0 x1 x2:D):fm [x0,x1,x2]=(callK (cC [x0]) fun c _=>(aj (.tup []) (sl c 0) true (some x1)).bind fun z=>cd (sl c 0) true (callK (cC [z]) fun c _=>some (.nrm [sl c 0])) [.tup []] fun d=>(aJ (sl c 0) (sl d 0) (B false)).bind fun z=>(aj (.tup []) z true (some x2)).bind fun e=>cd z true (callK (fZ [e]) fun c _=>some (.nrm [sl c 0])) [.tup []] fun d=>(aJ z (sl d 0) (B false)).bind fun z=>some (.ret [z] [])):=by kernel_rfl
theorem va (x0 x1:D):fo [x0,x1]=((qp 2 x0).bind fun y=>ifD x1 ((ab y (.ref 0 1)).bind fun z=>((atD y z).bind (aD false 1)).bind fun z=>(ab y (.ref 0 0)).bind fun c=>((atD y c).bind (aD false 1)).bind fun d=>some (.ret [z,d] [])) ((ab y (.ref 0 0)).bind fun z=>((atD y z).bind (aD false 1)).bind fun z=>(ab y (.ref 0 1)).bind fun c=>((atD y c).bind (aD false 1)).bind fun d=>some (.ret [z,d] []))):=by kernel_rfl
theorem wm (x0 x1 x2 x3:D):bM [x0,x1,x2,x3]=((bin .mul false [] x0 x1).bind fun z=>(yF 1 8 (I 0) z z).bind fun y=>(ab y (.ref 0 0)).bind fun z=>((ab z y).bind (lenD false)).bind fun z=>(aI (fun s=>(bin .lss false [] (sl s 6) (sl s 5)).bind fun z=>ifD z ((ab (sl s 4) (.ref 0 0)).bind fun z=>((ab z (sl s 4)).bind fun b=>fR 1 b (sl s 6)).bind fun z=>(stD 1 (sl s 4) z (I (-1))).bind fun b=>(bin .add false [] (sl s 6) (I 1)).bind fun z=>some (.nrm [sl s 0,sl s 1,sl s 2,sl s 3,b,sl s 5,z])) (some (.ext 0 [sl s 0,sl s 1,sl s 2,sl s 3,sl s 4]))) [x0,x1,x2,x3,y,z,I 0]).bind fun o=>outK o (fun i s=>ifN (i.beq 0) ((lenD false (sl s 3)).bind fun z=>(aI (fun s=>(bin .lss false [] (sl s 7) (sl s 6)).bind fun z=>ifD z ((Ix D.ptr (aF 4 (sl s 5) (sl s 7))).bind fun z=>((ldD true 4 z).bind bE).bind fun z=>(stD 4 (.agg [I 0,I 0,I 0,B false]) (.ref 0 0) z).bind fun b=>(ab b (.ref 0 0)).bind fun z=>((atD b z).bind (aD false 1)).bind fun z=>(bin .leq false [] z (sl s 4)).bind fun z=>(aj D.bad z false (ab b (.ref 0 0))).bind fun h=>(aj (.tup []) z false ((atD b h).bind (aD false 1))).bind fun j=>(aj (.tup []) z false (some (sl s 2))).bind fun k=>(aj (.tup []) z false (lenD false k)).bind fun l=>(aj (.tup []) z false (bin .geq false [] j l)).bind fun m=>(aJ z (B true) m).bind fun z=>(aj D.bad z false (ab b (.ref 0 1))).bind fun n=>(aj (.tup []) z false ((atD b n).bind (aD false 1))).bind fun p=>(aj (.tup []) z false (some (sl s 0))).bind fun q=>(aj (.tup []) z false (bin .sub false [] q (I 1))).bind fun r=>cd z false (callK (fq [p,I 0,r]) fun d _=>some (.nrm [sl d 0])) [.tup []] fun e=>(aj (.tup []) z false (un .not (sl e 0))).bind fun t=>(aJ z (B true) t).bind fun z=>(aj D.bad z false (ab b (.ref 0 2))).bind fun u=>(aj (.tup []) z false ((atD b u).bind (aD false 1))).bind fun v=>(aj (.tup []) z false (some (sl s 1))).bind fun w=>(aj (.tup []) z false (bin .sub false [] w (I 1))).bind fun za=>cd z false (callK (fq [v,I 0,za]) fun d _=>some (.nrm [sl d 0])) [.tup []] fun e=>(aj (.tup []) z false (un .not (sl e 0))).bind fun zb=>(aJ z (B true) zb).bind fun z=>ifD z (some (.ret [.arr 1 [],B false] [])) ((ab b (.ref 0 0)).bind fun z=>((atD b z).bind (aD false 1)).bind fun z=>(ab b (.ref 0 0)).bind fun zc=>((atD b zc).bind (aD false 1)).bind fun zd=>(Ix D.ptr (aF 2 (sl s 2) zd)).bind fun ze=>((ldD true 2 ze).bind bE).bind fun zf=>(ab b (.ref 0 3)).bind fun zg=>((atD b zg).bind (aD false 1)).bind fun zh=>callK (fo [zf,zh]) fun d _=>(al (.tup d) 0).bind fun f=>(al (.tup d) 1).bind fun g=>(ab b (.ref 0 1)).bind fun zi=>((atD b zi).bind (aD false 1)).bind fun zj=>(bin .add false [] zj f).bind fun zk=>(bin .gtr false [] zk (sl s 0)).bind fun c=>(aj D.bad c false (ab b (.ref 0 2))).bind fun zl=>(aj (.tup []) c false ((atD b zl).bind (aD false 1))).bind fun zm=>(aj (.tup []) c false (some g)).bind fun zn=>(aj (.tup []) c false (bin .add false [] zm zn)).bind fun zo=>(aj (.tup []) c false (some (sl s 1))).bind fun zp=>(aj (.tup []) c false (bin .gtr false [] zo zp)).bind fun zq=>(aJ c (B true) zq).bind fun zr=>ifD zr (some (.ret [.arr 1 [],B false] [])) ((aI (fun s=>(bin .lss false [] (sl s 8) (sl s 7)).bind fun z=>ifD z ((aI (fun s=>(bin .lss false [] (sl s 9) (sl s 6)).bind fun z=>ifD z ((ab (sl s 5) (.ref 0 2)).bind fun z=>((atD (sl s 5) z).bind (aD false 1)).bind fun z=>(bin .add false [] z (sl s 8)).bind fun z=>(bin .mul false [] z (sl s 0)).bind fun z=>(ab (sl s 5) (.ref 0 1)).bind fun zs=>((atD (sl s 5) zs).bind (aD false 1)).bind fun zt=>(bin .add false [] z zt).bind fun z=>(bin .add false [] z (sl s 9)).bind fun z=>(ab (sl s 3) (.ref 0 0)).bind fun zu=>((ab zu (sl s 3)).bind fun b=>fR 1 b z).bind fun zv=>((atD (sl s 3) zv).bind (aD false 1)).bind fun zw=>(bin .geq false [] zw (I 0)).bind fun z_40=>ifD z_40 (some (.ret [.arr 1 [],B false] [])) ((ab (sl s 3) (.ref 0 0)).bind fun z_41=>(ab (sl s 5) (.ref 0 0)).bind fun z_42=>((atD (sl s 5) z_42).bind (aD false 1)).bind fun z_43=>((ab z_41 (sl s 3)).bind fun b=>fR 1 b z).bind fun z=>(stD 1 (sl s 3) z z_43).bind fun b=>(bin .add false [] (sl s 9) (I 1)).bind fun z=>some (.nrm [sl s 0,sl s 1,sl s 2,b,sl s 4,sl s 5,sl s 6,sl s 7,sl s 8,z,sl s 10,sl s 11,sl s 12]))) (some (.ext 6 [sl s 0,sl s 1,sl s 2,sl s 3,sl s 4,sl s 5,sl s 6,sl s 7,sl s 8,sl s 10,sl s 11,sl s 12]))) [sl s 0,sl s 1,sl s 2,sl s 3,sl s 4,sl s 5,sl s 6,sl s 7,sl s 8,I 0,sl s 9,sl s 10,sl s 11]).bind fun o=>outK o (fun i s=>ifN (i.beq 6) ((bin .add false [] (sl s 8) (I 1)).bind fun z=>some (.nrm [sl s 0,sl s 1,sl s 2,sl s 3,sl s 4,sl s 5,sl s 6,sl s 7,z,sl s 9,sl s 10,sl s 11])) (ifN (i.beq 5) ((bin .add false [] (sl s 8) (I 1)).bind fun z=>some (.nrm [sl s 0,sl s 1,sl s 2,sl s 3,sl s 4,sl s 5,sl s 6,sl s 7,z,sl s 9,sl s 10,sl s 11])) (some (.ext i [sl s 0,sl s 1,sl s 2,sl s 3,sl s 4,sl s 9,sl s 10,sl s 11])))) fun a b=>some (.ret a b)) (some (.ext 4 [sl s 0,sl s 1,sl s 2,sl s 3,sl s 4,sl s 9,sl s 10,sl s 11]))) [sl s 0,sl s 1,sl s 2,sl s 3,z,b,f,g,I 0,sl s 5,sl s 6,sl s 7]).bind fun o=>outK o (fun i s=>ifN (i.beq 4) ((bin .add false [] (sl s 7) (I 1)).bind fun z=>some (.nrm [sl s 0,sl s 1,sl s 2,sl s 3,sl s 4,sl s 5,sl s 6,z])) (ifN (i.beq 3) ((bin .add false [] (sl s 7) (I 1)).bind fun z=>some (.nrm [sl s 0,sl s 1,sl s 2,sl s 3,sl s 4,sl s 5,sl s 6,z])) (some (.ext i [sl s 3])))) fun a b=>some (.ret a b)))) (some (.ext 2 [sl s 3]))) [sl s 0,sl s 1,sl s 2,sl s 4,I (-1),sl s 3,z,I 0]).bind fun o=>outK o (fun i s=>ifN (i.beq 2) (some (.ret [sl s 0,B true] [])) none) fun a b=>some (.ret a b)) none) fun a b=>some (.ret a b)):=by kernel_rfl
theorem uk (x0 x1 x2 x3:D):bB [x0,x1,x2,x3]=(callK (fm [x0,x1,x2]) fun c _=>(un .not (sl c 0)).bind fun z=>ifD z (some (.ret [B false] [])) (callK (bM [x0,x1,x2,x3]) fun c _=>(al (.tup c) 0).bind fun _=>(al (bS (.tup c) 0) 1).bind fun z=>some (.ret [z] []))):=by kernel_rfl
theorem xJ (x0 x1:D):dI [x0,x1]=((aI (fun s=>(lenD false (sl s 0)).bind fun z=>(bin .lss false [] (sl s 2) z).bind fun z=>(aj (.tup []) z true (some (sl s 0))).bind fun c=>(aj (.tup []) z true (some (sl s 2))).bind fun d=>(aj (.tup []) z true (Ix D.ptr (aF 1 c d))).bind fun e=>(aj (.tup []) z true ((ldD false 1 e).bind bE)).bind fun f=>(aj (.tup []) z true (some (sl s 1))).bind fun g=>(aj (.tup []) z true (bin .lss false [] f g)).bind fun h=>(aJ z h (B false)).bind fun z=>ifD z ((bin .add false [] (sl s 2) (I 1)).bind fun z=>some (.nrm [sl s 0,sl s 1,z])) (some (.ext 0 [sl s 0,sl s 1,sl s 2]))) [x0,x1,I 0]).bind fun o=>outK o (fun i s=>ifN (i.beq 0) ((lenD false (sl s 0)).bind fun z=>(bin .lss false [] (sl s 2) z).bind fun z=>(aj (.tup []) z true (some (sl s 0))).bind fun c=>(aj (.tup []) z true (some (sl s 2))).bind fun d=>(aj (.tup []) z true (Ix D.ptr (aF 1 c d))).bind fun e=>(aj (.tup []) z true ((ldD false 1 e).bind bE)).bind fun f=>(aj (.tup []) z true (some (sl s 1))).bind fun g=>(aj (.tup []) z true (bin .eql false [] f g)).bind fun h=>(aJ z h (B false)).bind fun z=>ifD z (some (.ret [sl s 0] [])) ((aW 1 []).bind fun a=>(iC false 1 (sl s 0) (I 0) (sl s 2)).bind fun z=>(gT z).bind fun b=>(ew 1 8 a b).bind fun y=>(aW 1 [sl s 1]).bind fun a=>(gT a).bind fun b=>(ew 1 8 y b).bind fun y=>(eW false 1 (sl s 0) (sl s 2)).bind fun z=>(ew 1 8 y z).bind fun y=>some (.ret [y] []))) none) fun a b=>some (.ret a b)):=by kernel_rfl
theorem rI (x0 x1:D):bP [x0,x1]=((lenD false x0).bind fun z=>(aI (fun s=>(bin .lss false [] (sl s 3) (sl s 2)).bind fun z=>ifD z ((Ix D.ptr (aF 1 (sl s 1) (sl s 3))).bind fun z=>((ldD false 1 z).bind bE).bind fun z=>(bin .eql false [] z (sl s 0)).bind fun z=>ifD z (some (.ret [B true] [])) ((bin .add false [] (sl s 3) (I 1)).bind fun z=>some (.nrm [sl s 0,sl s 1,sl s 2,z]))) (some (.ext 0 []))) [x1,x0,z,I 0]).bind fun o=>outK o (fun i _=>ifN (i.beq 0) (some (.ret [B false] [])) none) fun a b=>some (.ret a b)):=by kernel_rfl
theorem tv (x0 x1 x2 x3 x4 x5:D):cN [x0,x1,x2,x3,x4,x5]=((aI (fun s=>(bin .add false [] (sl s 7) (sl s 5)).bind fun z=>(bin .lss false [] z (sl s 2)).bind fun z=>ifD z ((aI (fun s=>(bin .add false [] (sl s 8) (sl s 4)).bind fun z=>(bin .lss false [] z (sl s 1)).bind fun z=>ifD z ((bin .add false [] (sl s 7) (sl s 5)).bind fun z=>(bin .mul false [] z (sl s 1)).bind fun z=>(bin .add false [] z (sl s 8)).bind fun z=>(bin .add false [] z (sl s 4)).bind fun z=>(Ix D.ptr (aF 1 (sl s 0) z)).bind fun z=>((ldD false 1 z).bind bE).bind fun z=>(bin .mul false [] (sl s 7) (sl s 1)).bind fun e=>(bin .add false [] e (sl s 8)).bind fun f=>(Ix D.ptr (aF 1 (sl s 0) f)).bind fun g=>((ldD false 1 g).bind bE).bind fun h=>(bin .eql false [] h (sl s 3)).bind fun d=>(aj (.tup []) d true (some z)).bind fun j=>(aj (.tup []) d true (bin .geq false [] j (I 0))).bind fun k=>(aJ d k (B false)).bind fun c=>(aj (.tup []) c true (some z)).bind fun l=>(aj (.tup []) c true (some (sl s 3))).bind fun m=>(aj (.tup []) c true (bin .neq false [] l m)).bind fun n=>(aJ c n (B false)).bind fun p=>ifD p (callK (dI [sl s 6,z]) fun q _=>(bin .add false [] (sl s 8) (I 1)).bind fun z=>some (.nrm [sl s 0,sl s 1,sl s 2,sl s 3,sl s 4,sl s 5,sl q 0,sl s 7,z])) ((bin .add false [] (sl s 8) (I 1)).bind fun z=>some (.nrm [sl s 0,sl s 1,sl s 2,sl s 3,sl s 4,sl s 5,sl s 6,sl s 7,z]))) (some (.ext 2 [sl s 0,sl s 1,sl s 2,sl s 3,sl s 4,sl s 5,sl s 6,sl s 7]))) [sl s 0,sl s 1,sl s 2,sl s 3,sl s 4,sl s 5,sl s 6,sl s 7,I 0]).bind fun o=>outK o (fun i s=>ifN (i.beq 2) ((bin .add false [] (sl s 7) (I 1)).bind fun z=>some (.nrm [sl s 0,sl s 1,sl s 2,sl s 3,sl s 4,sl s 5,sl s 6,z])) (ifN (i.beq 1) ((bin .add false [] (sl s 7) (I 1)).bind fun z=>some (.nrm [sl s 0,sl s 1,sl s 2,sl s 3,sl s 4,sl s 5,sl s 6,z])) (some (.ext i [sl s 6])))) fun a b=>some (.ret a b)) (some (.ext 0 [sl s 6]))) [x0,x1,x2,x3,x4,x5,.arr 1 [],I 0]).bind fun o=>outK o (fun i s=>ifN (i.beq 0) (some (.ret [sl s 0] [])) none) fun a b=>some (.ret a b)):=by kernel_rfl
theorem tn (x0 x1 x2 x3 x4 x5:D):eH [x0,x1,x2,x3,x4,x5]=((aI (fun s=>ifD (sl s 6) ((lenD false (sl s 0)).bind fun z=>(aI (fun s=>(bin .lss false [] (sl s 9) (sl s 8)).bind fun z=>ifD z ((Ix D.ptr (aF 1 (sl s 7) (sl s 9))).bind fun z=>((ldD false 1 z).bind bE).bind fun z=>(bin .lss false [] z (I 0)).bind fun d=>(aj (.tup []) d false (some (sl s 3))).bind fun e=>(aj (.tup []) d false (some z)).bind fun f=>cd d false (callK (bP [e,f]) fun c _=>some (.nrm [sl c 0])) [.tup []] fun g=>(aJ d (B true) (sl g 0)).bind fun h=>ifD h ((bin .add false [] (sl s 9) (I 1)).bind fun z=>some (.nrm [sl s 0,sl s 1,sl s 2,sl s 3,sl s 4,sl s 5,sl s 6,sl s 7,sl s 8,z])) (callK (cN [sl s 0,sl s 1,sl s 2,z,sl s 4,sl s 5]) fun c _=>(lenD false (sl c 0)).bind fun j=>(aI (fun s=>(bin .lss false [] (sl s 13) (sl s 12)).bind fun z=>ifD z ((Ix D.ptr (aF 1 (sl s 11) (sl s 13))).bind fun z=>((ldD false 1 z).bind bE).bind fun z=>callK (bP [sl s 3,z]) fun c _=>ifD (sl c 0) (callK (dI [sl s 3,sl s 7]) fun c _=>(bin .add false [] (sl s 13) (I 1)).bind fun z=>some (.nrm [sl s 0,sl s 1,sl s 2,sl c 0,sl s 4,sl s 5,B true,sl s 7,sl s 8,sl s 9,sl s 10,sl s 11,sl s 12,z])) ((bin .add false [] (sl s 13) (I 1)).bind fun z=>some (.nrm [sl s 0,sl s 1,sl s 2,sl s 3,sl s 4,sl s 5,sl s 6,sl s 7,sl s 8,sl s 9,sl s 10,sl s 11,sl s 12,z]))) (some (.ext 4 [sl s 0,sl s 1,sl s 2,sl s 3,sl s 4,sl s 5,sl s 6,sl s 8,sl s 9,sl s 10]))) [sl s 0,sl s 1,sl s 2,sl s 3,sl s 4,sl s 5,sl s 6,z,sl s 7,sl s 8,sl s 9,sl c 0,j,I 0]).bind fun o=>outK o (fun i s=>ifN (i.beq 4) ((bin .add false [] (sl s 9) (I 1)).bind fun z=>some (.nrm [sl s 0,sl s 1,sl s 2,sl s 3,sl s 4,sl s 5,sl s 6,sl s 7,sl s 8,z])) (ifN (i.beq 3) ((bin .add false [] (sl s 9) (I 1)).bind fun z=>some (.nrm [sl s 0,sl s 1,sl s 2,sl s 3,sl s 4,sl s 5,sl s 6,sl s 7,sl s 8,z])) (some (.ext i [sl s 0,sl s 1,sl s 2,sl s 3,sl s 4,sl s 5,sl s 6])))) fun a b=>some (.ret a b))) (some (.ext 2 [sl s 0,sl s 1,sl s 2,sl s 3,sl s 4,sl s 5,sl s 6]))) [sl s 0,sl s 1,sl s 2,sl s 3,sl s 4,sl s 5,B false,sl s 0,z,I 0]).bind fun o=>outK o (fun i s=>ifN (i.beq 2) (some (.nrm [sl s 0,sl s 1,sl s 2,sl s 3,sl s 4,sl s 5,sl s 6])) (ifN (i.beq 1) (some (.nrm [sl s 0,sl s 1,sl s 2,sl s 3,sl s 4,sl s 5,sl s 6])) (some (.ext i [sl s 3])))) fun a b=>some (.ret a b)) (some (.ext 0 [sl s 3]))) [x0,x1,x2,x3,x4,x5,B true]).bind fun o=>outK o (fun i s=>ifN (i.beq 0) (some (.ret [sl s 0] [])) none) fun a b=>some (.ret a b)):=by kernel_rfl
theorem ut (x0 x1 x2 x3:D):dr [x0,x1,x2,x3]=((lenD false x3).bind fun z=>(aI (fun s=>(bin .lss false [] (sl s 6) (sl s 5)).bind fun z=>ifD z ((Ix D.ptr (aF 1 (sl s 4) (sl s 6))).bind fun z=>((ldD false 1 z).bind bE).bind fun z=>(bin .mul false [] z (sl s 1)).bind fun z=>(bin .add false [] z (sl s 1)).bind fun z=>(bin .sub false [] z (I 1)).bind fun z=>(Ix D.ptr (aF 1 (sl s 0) z)).bind fun z=>((ldD false 1 z).bind bE).bind fun z=>(bin .geq false [] z (I 0)).bind fun d=>ifD d (callK (dI [sl s 3,z]) fun c _=>(bin .add false [] (sl s 6) (I 1)).bind fun z=>some (.nrm [sl s 0,sl s 1,sl s 2,sl c 0,sl s 4,sl s 5,z])) ((bin .add false [] (sl s 6) (I 1)).bind fun z=>some (.nrm [sl s 0,sl s 1,sl s 2,sl s 3,sl s 4,sl s 5,z]))) (some (.ext 0 [sl s 0,sl s 1,sl s 2,sl s 3]))) [x0,x1,x2,.arr 1 [],x3,z,I 0]).bind fun o=>outK o (fun i s=>ifN (i.beq 0) (callK (eH [sl s 0,sl s 1,sl s 2,sl s 3,I 1,I 0]) fun c _=>some (.ret [sl c 0] [])) none) fun a b=>some (.ret a b)):=by kernel_rfl
theorem uy (x0 x1 x2 x3:D):dl [x0,x1,x2,x3]=((lenD false x3).bind fun z=>(aI (fun s=>(bin .lss false [] (sl s 6) (sl s 5)).bind fun z=>ifD z ((Ix D.ptr (aF 1 (sl s 4) (sl s 6))).bind fun z=>((ldD false 1 z).bind bE).bind fun z=>(bin .sub false [] (sl s 2) (I 1)).bind fun d=>(bin .mul false [] d (sl s 1)).bind fun e=>(bin .add false [] e z).bind fun z=>(Ix D.ptr (aF 1 (sl s 0) z)).bind fun z=>((ldD false 1 z).bind bE).bind fun z=>(bin .geq false [] z (I 0)).bind fun f=>ifD f (callK (dI [sl s 3,z]) fun c _=>(bin .add false [] (sl s 6) (I 1)).bind fun z=>some (.nrm [sl s 0,sl s 1,sl s 2,sl c 0,sl s 4,sl s 5,z])) ((bin .add false [] (sl s 6) (I 1)).bind fun z=>some (.nrm [sl s 0,sl s 1,sl s 2,sl s 3,sl s 4,sl s 5,z]))) (some (.ext 0 [sl s 0,sl s 1,sl s 2,sl s 3]))) [x0,x1,x2,.arr 1 [],x3,z,I 0]).bind fun o=>outK o (fun i s=>ifN (i.beq 0) (callK (eH [sl s 0,sl s 1,sl s 2,sl s 3,I 0,I 1]) fun c _=>some (.ret [sl c 0] [])) none) fun a b=>some (.ret a b)):=by kernel_rfl
theorem qZ (x0:D):cD [x0]=((aW 1 []).bind fun a=>(gT x0).bind fun b=>(ew 1 8 a b).bind fun y=>some (.ret [y] [])):=by kernel_rfl
theorem kO (x0 x1 x2 x3 x4:D):fi [x0,x1,x2,x3,x4]=(callK (bB [x0,x1,x2,x3]) fun c _=>(un .not (sl c 0)).bind fun z=>ifD z (some (.ret [.arr 1 [],B false] [])) (callK (bM [x0,x1,x2,x3]) fun c _=>(al (.tup c) 0).bind fun y=>(al (bS (.tup c) 0) 1).bind fun _=>ifD x4 ((aI (fun s=>(bin .leq false [] (sl s 6) (sl s 5)).bind fun z=>ifD z ((lenD false (sl s 2)).bind fun z=>callK (eK [sl s 4,sl s 0,sl s 1,sl s 5,z,.arr 0 [],sl s 6,sl s 3]) fun c _=>(al (.tup c) 0).bind fun z=>(al (.tup c) 1).bind fun d=>ifD d (some (.ret [z,B true] [])) ((bin .add false [] (sl s 6) (I 1)).bind fun z=>some (.nrm [sl s 0,sl s 1,sl s 2,sl s 3,sl s 4,sl s 5,z]))) (some (.ext 0 []))) [x0,x1,x3,x4,y,x1,I 0]).bind fun o=>outK o (fun i _=>ifN (i.beq 0) (some (.ret [.arr 1 [],B false] [])) none) fun a b=>some (.ret a b)) ((aI (fun s=>(bin .leq false [] (sl s 6) (sl s 5)).bind fun z=>ifD z ((lenD false (sl s 2)).bind fun z=>callK (eK [sl s 4,sl s 0,sl s 1,sl s 5,z,.arr 0 [],sl s 6,sl s 3]) fun c _=>(al (.tup c) 0).bind fun z=>(al (.tup c) 1).bind fun d=>ifD d (some (.ret [z,B true] [])) ((bin .add false [] (sl s 6) (I 1)).bind fun z=>some (.nrm [sl s 0,sl s 1,sl s 2,sl s 3,sl s 4,sl s 5,z]))) (some (.ext 0 []))) [x0,x1,x3,x4,y,x0,I 0]).bind fun o=>outK o (fun i _=>ifN (i.beq 0) (some (.ret [.arr 1 [],B false] [])) none) fun a b=>some (.ret a b)))):=by kernel_rfl
theorem fG (x0 x1 x2 x3:D):aZ [x0,x1,x2,x3]=(callK (fi [x0,x1,x2,x3,B false]) fun c _=>(al (.tup c) 0).bind fun z=>(al (.tup c) 1).bind fun d=>some (.ret [z,d] [])):=by kernel_rfl
theorem lz (x0 x1 x2 x3:D):cf [x0,x1,x2,x3]=(callK (fi [x0,x1,x2,x3,B true]) fun c _=>(al (.tup c) 0).bind fun z=>(al (.tup c) 1).bind fun d=>some (.ret [z,d] [])):=by kernel_rfl
theorem tm (x0 x1 x2:D):cQ [x0,x1,x2]=((lenD false x0).bind fun z=>(aI (fun s=>(bin .lss false [] (sl s 5) (sl s 4)).bind fun z=>ifD z ((Ix D.ptr (aF 1 (sl s 3) (sl s 5))).bind fun z=>((ldD false 1 z).bind bE).bind fun z=>callK (fq [z,sl s 1,sl s 2]) fun e _=>(un .not (sl e 0)).bind fun d=>(aj (.tup []) d false (some (sl s 5))).bind fun f=>(aj (.tup []) d false (bin .gtr false [] f (I 0))).bind fun g=>(aj (.tup []) d false (some g)).bind fun c=>(aj (.tup []) c true (some (sl s 0))).bind fun h=>(aj (.tup []) c true (some (sl s 5))).bind fun j=>(aj (.tup []) c true (bin .sub false [] j (I 1))).bind fun k=>(aj (.tup []) c true (Ix D.ptr (aF 1 h k))).bind fun l=>(aj (.tup []) c true ((ldD false 1 l).bind bE)).bind fun m=>(aj (.tup []) c true (some z)).bind fun z=>(aj (.tup []) c true (bin .geq false [] m z)).bind fun z=>(aj (.tup []) d false (aJ c z (B false))).bind fun z=>(aJ d (B true) z).bind fun z=>ifD z (some (.ret [B false] [])) ((bin .add false [] (sl s 5) (I 1)).bind fun z=>some (.nrm [sl s 0,sl s 1,sl s 2,sl s 3,sl s 4,z]))) (some (.ext 0 []))) [x0,x1,x2,x0,z,I 0]).bind fun o=>outK o (fun i _=>ifN (i.beq 0) (some (.ret [B true] [])) none) fun a b=>some (.ret a b)):=by kernel_rfl
theorem oe (x0 x1 x2 x3 x4 x5:D):gW [x0,x1,x2,x3,x4,x5]=(callK (bB [x0,x1,x2,x3]) fun c _=>(aj (.tup []) (sl c 0) true (some x4)).bind fun z=>(aj (.tup []) (sl c 0) true (some x1)).bind fun e=>(aj (.tup []) (sl c 0) true (bin .sub false [] e (I 1))).bind fun f=>cd (sl c 0) true (callK (cQ [z,I 0,f]) fun c _=>some (.nrm [sl c 0])) [.tup []] fun d=>(aJ (sl c 0) (sl d 0) (B false)).bind fun z=>(aj (.tup []) z true (some x5)).bind fun g=>(aj (.tup []) z true (some x0)).bind fun h=>(aj (.tup []) z true (bin .sub false [] h (I 1))).bind fun j=>cd z true (callK (cQ [g,I 0,j]) fun c _=>some (.nrm [sl c 0])) [.tup []] fun d=>(aJ z (sl d 0) (B false)).bind fun z=>some (.ret [z] [])):=by kernel_rfl
theorem vw (x0 x1 x2 x3 x4 x5:D):gU [x0,x1,x2,x3,x4,x5]=(callK (bM [x0,x1,x2,x3]) fun c _=>(al (.tup c) 0).bind fun y=>(al (bS (.tup c) 0) 1).bind fun _=>callK (dr [y,x0,x1,x4]) fun c _=>callK (dl [y,x0,x1,x5]) fun d _=>(lenD false x3).bind fun z=>(aI (fun s=>(bin .lss false [] (sl s 5) (sl s 4)).bind fun z=>ifD z ((Ix D.ptr (aF 4 (sl s 3) (sl s 5))).bind fun z=>((ldD true 4 z).bind bE).bind fun z=>(stD 4 (.agg [I 0,I 0,I 0,B false]) (.ref 0 0) z).bind fun b=>(ab b (.ref 0 0)).bind fun z=>((atD b z).bind (aD false 1)).bind fun z=>callK (bP [sl s 0,z]) fun c _=>(un .not (sl c 0)).bind fun z=>(aj (.tup []) z false (some (sl s 1))).bind fun e=>(aj D.bad z false (ab b (.ref 0 0))).bind fun f=>(aj (.tup []) z false ((atD b f).bind (aD false 1))).bind fun g=>cd z false (callK (bP [e,g]) fun c _=>some (.nrm [sl c 0])) [.tup []] fun h=>(aj (.tup []) z false (un .not (sl h 0))).bind fun j=>(aJ z (B true) j).bind fun z=>ifD z ((ab b (.ref 0 0)).bind fun z=>((atD b z).bind (aD false 1)).bind fun z=>(aW 1 [z]).bind fun a=>(gT a).bind fun b=>(ew 1 8 (sl s 2) b).bind fun y=>(bin .add false [] (sl s 5) (I 1)).bind fun z=>some (.nrm [sl s 0,sl s 1,y,sl s 3,sl s 4,z])) ((bin .add false [] (sl s 5) (I 1)).bind fun z=>some (.nrm [sl s 0,sl s 1,sl s 2,sl s 3,sl s 4,z]))) (some (.ext 0 [sl s 2]))) [sl c 0,sl d 0,.arr 1 [],x3,z,I 0]).bind fun o=>outK o (fun i s=>ifN (i.beq 0) (some (.ret [sl s 0] [])) none) fun a b=>some (.ret a b)):=by kernel_rfl
theorem gu (x0 x1 x2 x3 x4 x5:D):dq [x0,x1,x2,x3,x4,x5]=(callK (gW [x0,x1,x2,x3,x4,x5]) fun c _=>(un .not (sl c 0)).bind fun z=>ifD z (some (.ret [.arr 1 [],B false] [])) (callK (gU [x0,x1,x2,x3,x4,x5]) fun c _=>some (.ret [sl c 0,B true] []))):=by kernel_rfl
theorem vI (x0 x1:D):fW [x0,x1]=((bin .geq false [] x1 (I 0)).bind fun z=>(aj (.tup []) z true (some x0)).bind fun c=>(aj (.tup []) z true (some x1)).bind fun d=>cd z true (callK (bP [c,d]) fun e _=>some (.nrm [sl e 0])) [.tup []] fun f=>(aJ z (sl f 0) (B false)).bind fun z=>some (.ret [z] [])):=by kernel_rfl
theorem oA (x0 x1 x2 x3 x4:D):dC [x0,x1,x2,x3,x4]=(callK (bB [x0,x1,x2,x3]) fun c _=>(un .not (sl c 0)).bind fun z=>ifD z (some (.ret [.arr 1 [],B false] [])) (callK (bM [x0,x1,x2,x3]) fun c _=>(al (.tup c) 0).bind fun y=>(al (bS (.tup c) 0) 1).bind fun _=>callK (fW [y,x4]) fun c _=>(un .not (sl c 0)).bind fun z=>ifD z (some (.ret [.arr 1 [],B false] [])) (callK (cN [y,x0,x1,x4,I 1,I 0]) fun c _=>some (.ret [sl c 0,B true] [])))):=by kernel_rfl
theorem qw (x0 x1 x2 x3 x4:D):eF [x0,x1,x2,x3,x4]=(callK (bB [x0,x1,x2,x3]) fun c _=>(un .not (sl c 0)).bind fun z=>ifD z (some (.ret [.arr 1 [],B false] [])) (callK (bM [x0,x1,x2,x3]) fun c _=>(al (.tup c) 0).bind fun y=>(al (bS (.tup c) 0) 1).bind fun _=>callK (fW [y,x4]) fun c _=>(un .not (sl c 0)).bind fun z=>ifD z (some (.ret [.arr 1 [],B false] [])) (callK (cN [y,x0,x1,x4,I 0,I 1]) fun c _=>some (.ret [sl c 0,B true] [])))):=by kernel_rfl
theorem ec (x0 x1 x2 x3 x4:D):bZ [x0,x1,x2,x3,x4]=(callK (bB [x0,x1,x2,x3]) fun c _=>(un .not (sl c 0)).bind fun z=>(aj (.tup []) z false (some x4)).bind fun d=>(aj (.tup []) z false (some x0)).bind fun e=>(aj (.tup []) z false (bin .sub false [] e (I 1))).bind fun f=>cd z false (callK (cQ [d,I 0,f]) fun c _=>some (.nrm [sl c 0])) [.tup []] fun g=>(aj (.tup []) z false (un .not (sl g 0))).bind fun h=>(aJ z (B true) h).bind fun z=>ifD z (some (.ret [.arr 1 [],B false] [])) (callK (bM [x0,x1,x2,x3]) fun c _=>(al (.tup c) 0).bind fun y=>(al (bS (.tup c) 0) 1).bind fun _=>callK (dl [y,x0,x1,x4]) fun c _=>some (.ret [sl c 0,B true] []))):=by kernel_rfl
theorem er (x0 x1 x2 x3 x4:D):bT [x0,x1,x2,x3,x4]=(callK (bB [x0,x1,x2,x3]) fun c _=>(un .not (sl c 0)).bind fun z=>(aj (.tup []) z false (some x4)).bind fun d=>(aj (.tup []) z false (some x1)).bind fun e=>(aj (.tup []) z false (bin .sub false [] e (I 1))).bind fun f=>cd z false (callK (cQ [d,I 0,f]) fun c _=>some (.nrm [sl c 0])) [.tup []] fun g=>(aj (.tup []) z false (un .not (sl g 0))).bind fun h=>(aJ z (B true) h).bind fun z=>ifD z (some (.ret [.arr 1 [],B false] [])) (callK (bM [x0,x1,x2,x3]) fun c _=>(al (.tup c) 0).bind fun y=>(al (bS (.tup c) 0) 1).bind fun _=>callK (dr [y,x0,x1,x4]) fun c _=>some (.ret [sl c 0,B true] []))):=by kernel_rfl
theorem lk (x0:D):ci [x0]=((ab x0 (.ref 0 0)).bind fun z=>(ab z z).bind fun z=>(bF 1 z).bind fun z=>(((atD x0 z).bind (aD false 1)).bind bE).bind fun z=>(ab x0 (.ref 0 0)).bind fun w=>(ab w w).bind fun zc=>(bF 0 zc).bind fun zd=>((atD x0 zd).bind (aD false 1)).bind fun ze=>(lenD false ze).bind fun zf=>(bin .lss false [] z zf).bind fun z=>ifD z ((ab x0 (.ref 0 0)).bind fun z=>(ab z z).bind fun z=>(bF 0 z).bind fun z=>((atD x0 z).bind (aD false 1)).bind fun z=>(ab x0 (.ref 0 0)).bind fun e=>(ab e e).bind fun g=>(bF 1 g).bind fun h=>(((atD x0 h).bind (aD false 1)).bind bE).bind fun j=>(Ix D.ptr (aF 1 z j)).bind fun z=>((ldD false 1 z).bind bE).bind fun z=>(pS (some .i64) false z).bind fun z=>(ab x0 (.ref 0 0)).bind fun c=>(ab c c).bind fun k=>(bF 1 k).bind fun l=>(((atD x0 l).bind (aD false 1)).bind bE).bind fun m=>(bin .add false [] m (I 1)).bind fun n=>(ab c c).bind fun p=>(bF 1 p).bind fun q=>(stD 1 x0 q n).bind fun b=>(ab b (.ref 0 0)).bind fun f=>(ab b (.ref 0 0)).bind fun d=>(ab d d).bind fun r=>(bF 2 r).bind fun t=>(((atD b t).bind (aD false 1)).bind bE).bind fun u=>(bin .mul false [] u (.v (Iy IL 6364136223846793005))).bind fun v=>(pS (some .u64) false z).bind fun zg=>(bin .add false [] v zg).bind fun zh=>(bin .add false [] zh (.v (Iy IL 1442695040888963407))).bind fun zi=>(ab f f).bind fun zj=>(bF 2 zj).bind fun zk=>(stD 1 b zk zi).bind fun b=>(ab b (.ref 0 0)).bind fun za=>(ab za za).bind fun zl=>(bF 1 zl).bind fun zm=>(((atD b zm).bind (aD false 1)).bind bE).bind fun zn=>(ab b (.ref 0 0)).bind fun zb=>(ab zb zb).bind fun zo=>(bF 0 zo).bind fun zp=>((atD b zp).bind (aD false 1)).bind fun zq=>(lenD false zq).bind fun zr=>(bin .leq false [] zn zr).bind fun zs=>ifD zs ((ab b b).bind fun _=>some (.ret [z] [b])) ((ab b (.ref 0 0)).bind fun z=>(ab z z).bind fun z=>(bF 2 z).bind fun z=>(((atD b z).bind (aD false 1)).bind bE).bind fun z=>(bin .shr false [] z (.v (Iy IL 40))).bind fun z=>(bin .and false [] z (.v (Iy IL 255))).bind fun z=>(pS (some .i64) false z).bind fun z=>(ab b b).bind fun _=>some (.ret [z] [b]))) ((ab x0 (.ref 0 0)).bind fun z=>(ab z z).bind fun e=>(bF 1 e).bind fun g=>(((atD x0 g).bind (aD false 1)).bind bE).bind fun h=>(bin .add false [] h (I 1)).bind fun j=>(ab z z).bind fun z=>(bF 1 z).bind fun z=>(stD 1 x0 z j).bind fun b=>(ab b (.ref 0 0)).bind fun z=>(ab b (.ref 0 0)).bind fun c=>(ab c c).bind fun k=>(bF 2 k).bind fun l=>(((atD b l).bind (aD false 1)).bind bE).bind fun m=>(bin .mul false [] m (.v (Iy IL 6364136223846793005))).bind fun n=>(pS (some .u64) false (I 0)).bind fun p=>(bin .add false [] n p).bind fun q=>(bin .add false [] q (.v (Iy IL 1442695040888963407))).bind fun f=>(ab z z).bind fun z=>(bF 2 z).bind fun z=>(stD 1 b z f).bind fun b=>(ab b (.ref 0 0)).bind fun z=>(ab z z).bind fun z=>(bF 1 z).bind fun z=>(((atD b z).bind (aD false 1)).bind bE).bind fun z=>(ab b (.ref 0 0)).bind fun d=>(ab d d).bind fun r=>(bF 0 r).bind fun t=>((atD b t).bind (aD false 1)).bind fun u=>(lenD false u).bind fun v=>(bin .leq false [] z v).bind fun z=>ifD z ((ab b b).bind fun _=>some (.ret [I 0] [b])) ((ab b (.ref 0 0)).bind fun z=>(ab z z).bind fun z=>(bF 2 z).bind fun z=>(((atD b z).bind (aD false 1)).bind bE).bind fun z=>(bin .shr false [] z (.v (Iy IL 40))).bind fun z=>(bin .and false [] z (.v (Iy IL 255))).bind fun z=>(pS (some .i64) false z).bind fun z=>(ab b b).bind fun _=>some (.ret [z] [b])))):=by kernel_rfl
theorem rN (x0 x1:D):aC [x0,x1]=((bin .leq false [] x1 (I 1)).bind fun z=>ifD z ((ab x0 x0).bind fun _=>some (.ret [I 0] [x0])) ((ab x0 (.ref 0 0)).bind fun z=>(dB z x0).bind fun i=>(ab i i).bind fun i=>callK (ci [i]) fun d c=>(bin .gtr false [] x1 (I 200)).bind fun z=>ifD z ((bin .mul false [] (sl d 0) (I 256)).bind fun z=>(ab (sl c 0) (.ref 0 0)).bind fun e=>(dB e (sl c 0)).bind fun i=>(ab i i).bind fun i=>callK (ci [i]) fun d c=>(bin .add false [] z (sl d 0)).bind fun z=>(bin .rem false [] z x1).bind fun z=>(ab (sl c 0) (sl c 0)).bind fun _=>some (.ret [z] [sl c 0])) ((bin .rem false [] (sl d 0) x1).bind fun z=>(ab (sl c 0) (sl c 0)).bind fun _=>some (.ret [z] [sl c 0])))):=by kernel_rfl
theorem qy (x0 x1:D):aR [x0,x1]=((ab x0 (.ref 0 0)).bind fun z=>(lenD false x1).bind fun d=>(dB z x0).bind fun i=>(ab i i).bind fun i=>callK (aC [i,d]) fun e c=>(Ix D.ptr (aF 1 x1 (sl e 0))).bind fun z=>((ldD false 1 z).bind bE).bind fun z=>(ab (sl c 0) (sl c 0)).bind fun _=>some (.ret [z] [sl c 0])):=by kernel_rfl
theorem qH (x0:D):dD [x0]=((ab x0 (.ref 0 0)).bind fun z=>(ab x0 (.ref 0 0)).bind fun e=>(aW 1 [I 1,I 0,I 9,I 3]).bind fun a=>(dB e x0).bind fun i=>(ab i i).bind fun i=>callK (aR [i,a]) fun d c=>(aW 1 [I 2,I 3,I 4,I 5,I 6,I 3,I 4,I 8,sl d 0]).bind fun a=>(dB z (sl c 0)).bind fun i=>(ab i i).bind fun i=>callK (aR [i,a]) fun d c=>(ab (sl c 0) (sl c 0)).bind fun _=>some (.ret [sl d 0] [sl c 0])):=by kernel_rfl
theorem sH (x0 x1:D):bH [x0,x1]=((ab x0 (.ref 0 0)).bind fun z=>(dB z x0).bind fun i=>(ab i i).bind fun i=>callK (aC [i,x1]) fun d c=>(bin .eql false [] (sl d 0) (I 0)).bind fun z=>(ab (sl c 0) (sl c 0)).bind fun _=>some (.ret [z] [sl c 0])):=by kernel_rfl
theorem qt (x0 x1 x2:D):eA [x0,x1,x2]=((lX [(0,1),(1,1)] [I 0,I 0] [x1,x2]).bind fun z=>(aW 2 [z]).bind fun a=>(ab x0 (.ref 0 0)).bind fun z=>(dB z x0).bind fun i=>(ab i i).bind fun i=>callK (aC [i,I 6]) fun d c=>(aI (fun s=>(bin .gtr false [] (sl s 2) (I 0)).bind fun z=>(aj D.bad z true (ab (sl s 1) (.ref 0 0))).bind fun k=>(aj (.tup []) z true ((ab k (sl s 1)).bind (lenD false))).bind fun l=>(aj (.tup []) z true (bin .lss false [] l (I 8))).bind fun m=>(aJ z m (B false)).bind fun z=>ifD z ((ab (sl s 0) (.ref 0 0)).bind fun z=>(ab (sl s 1) (.ref 0 0)).bind fun n=>((ab n (sl s 1)).bind (lenD false)).bind fun p=>(dB z (sl s 0)).bind fun i=>(ab i i).bind fun i=>callK (aC [i,p]) fun d c=>(ab (sl s 1) (.ref 0 0)).bind fun z=>((ab z (sl s 1)).bind fun b=>fR 2 b (sl d 0)).bind fun z=>((atD (sl s 1) z).bind (aD true 2)).bind fun z=>(stD 2 (.agg [I 0,I 0]) (.ref 0 0) z).bind fun b=>(ab (sl c 0) (.ref 0 0)).bind fun z=>(dB z (sl c 0)).bind fun i=>(ab i i).bind fun i=>callK (bH [i,I 2]) fun j c=>(aj D.bad (sl j 0) true (ab b (.ref 0 0))).bind fun z=>(aj (.tup []) (sl j 0) true ((atD b z).bind (aD false 1))).bind fun z=>(aj (.tup []) (sl j 0) true (bin .gtr false [] z (I 1))).bind fun z=>(aJ (sl j 0) z (B false)).bind fun z=>ifD z ((ab (sl c 0) (.ref 0 0)).bind fun z=>(ab b (.ref 0 0)).bind fun e=>((atD b e).bind (aD false 1)).bind fun f=>(bin .sub false [] f (I 1)).bind fun g=>(dB z (sl c 0)).bind fun i=>(ab i i).bind fun i=>callK (aC [i,g]) fun q c=>(bin .add false [] (I 1) (sl q 0)).bind fun z=>(ab (sl s 1) (.ref 0 0)).bind fun h=>((ab h (sl s 1)).bind fun b=>fR 2 b (sl d 0)).bind fun r=>(bF 0 r).bind fun t=>(stD 1 (sl s 1) t z).bind fun u=>(ab b (.ref 0 0)).bind fun v=>((atD b v).bind (aD false 1)).bind fun w=>(bin .sub false [] w z).bind fun z=>(ab b (.ref 0 0)).bind fun za=>(stD 1 b za z).bind fun b=>(mQ true 2 0 b).bind fun z=>(aW 2 [z]).bind fun a=>(gT a).bind fun b=>(ew 2 16 u b).bind fun y=>(bin .sub false [] (sl s 2) (I 1)).bind fun z=>some (.nrm [sl c 0,y,z])) ((ab b (.ref 0 1)).bind fun z=>((atD b z).bind (aD false 1)).bind fun z=>(bin .gtr false [] z (I 1)).bind fun z=>ifD z ((ab (sl c 0) (.ref 0 0)).bind fun z=>(ab b (.ref 0 1)).bind fun e=>((atD b e).bind (aD false 1)).bind fun f=>(bin .sub false [] f (I 1)).bind fun g=>(dB z (sl c 0)).bind fun i=>(ab i i).bind fun i=>callK (aC [i,g]) fun q c=>(bin .add false [] (I 1) (sl q 0)).bind fun z=>(ab (sl s 1) (.ref 0 0)).bind fun h=>((ab h (sl s 1)).bind fun b=>fR 2 b (sl d 0)).bind fun r=>(bF 1 r).bind fun t=>(stD 1 (sl s 1) t z).bind fun u=>(ab b (.ref 0 1)).bind fun v=>((atD b v).bind (aD false 1)).bind fun w=>(bin .sub false [] w z).bind fun z=>(ab b (.ref 0 1)).bind fun za=>(stD 1 b za z).bind fun b=>(mQ true 2 0 b).bind fun z=>(aW 2 [z]).bind fun a=>(gT a).bind fun b=>(ew 2 16 u b).bind fun y=>(bin .sub false [] (sl s 2) (I 1)).bind fun z=>some (.nrm [sl c 0,y,z])) ((bin .sub false [] (sl s 2) (I 1)).bind fun z=>some (.nrm [sl c 0,sl s 1,z])))) (some (.ext 0 [sl s 0,sl s 1]))) [sl c 0,a,sl d 0]).bind fun o=>outK o (fun i s=>ifN (i.beq 0) ((ab (sl s 1) (.ref 0 0)).bind fun z=>((ab z (sl s 1)).bind (lenD false)).bind fun z=>(aI (fun s=>(bin .lss false [] (sl s 3) (sl s 2)).bind fun z=>ifD z ((ab (sl s 0) (.ref 0 0)).bind fun z=>(dB z (sl s 0)).bind fun i=>(ab i i).bind fun i=>callK (bH [i,I 3]) fun d c=>ifD (sl d 0) ((ab (sl s 1) (.ref 0 0)).bind fun z=>(ab (sl s 1) (.ref 0 0)).bind fun k=>((ab k (sl s 1)).bind fun b=>fR 2 b (sl s 3)).bind fun l=>(bF 1 l).bind fun m=>((atD (sl s 1) m).bind (aD false 1)).bind fun n=>(ab (sl s 1) (.ref 0 0)).bind fun p=>((ab p (sl s 1)).bind fun b=>fR 2 b (sl s 3)).bind fun e=>(bF 0 e).bind fun f=>((atD (sl s 1) f).bind (aD false 1)).bind fun g=>(lX [(0,1),(1,1)] [I 0,I 0] [n,g]).bind fun h=>((ab z (sl s 1)).bind fun b=>fR 2 b (sl s 3)).bind fun z=>(stD 2 (sl s 1) z h).bind fun b=>(bin .add false [] (sl s 3) (I 1)).bind fun z=>some (.nrm [sl c 0,b,sl s 2,z])) ((bin .add false [] (sl s 3) (I 1)).bind fun z=>some (.nrm [sl c 0,sl s 1,sl s 2,z]))) (some (.ext 3 [sl s 0,sl s 1]))) [sl s 0,sl s 1,z,I 0]).bind fun o=>outK o (fun i s=>ifN (i.beq 3) ((ab (sl s 0) (sl s 0)).bind fun _=>some (.ret [sl s 1] [sl s 0])) none) fun a b=>some (.ret a b)) none) fun a b=>some (.ret a b)):=by kernel_rfl
theorem pB (x0 x1 x2:D):dX [x0,x1,x2]=(callK (cC [x1]) fun d _=>(un .not (sl d 0)).bind fun z=>(aj (.tup []) z false (some x2)).bind fun k=>cd z false (callK (cC [k]) fun d _=>some (.nrm [sl d 0])) [.tup []] fun e=>(aj (.tup []) z false (un .not (sl e 0))).bind fun l=>(aJ z (B true) l).bind fun z=>(aj D.bad z false (ab x0 (.ref 0 0))).bind fun m=>cd z false ((dB m x0).bind fun i=>(ab i i).bind fun i=>callK (bH [i,I 12]) fun d c=>some (.nrm [sl d 0,sl c 0])) [.tup [],x0] fun e=>(aJ z (B true) (sl e 0)).bind fun z=>ifD z ((lX [(0,1),(1,1)] [I 0,I 0] [I 1,I 2]).bind fun z=>(lX [(0,1),(1,1)] [I 0,I 0] [I 2,I 2]).bind fun g=>(aW 2 [z,g]).bind fun a=>(ab (sl e 1) (sl e 1)).bind fun _=>some (.ret [a] [sl e 1])) ((ab (sl e 1) (.ref 0 0)).bind fun z=>(dB z (sl e 1)).bind fun i=>(ab i i).bind fun i=>callK (eA [i,x1,x2]) fun d c=>(ab (sl c 0) (.ref 0 0)).bind fun z=>(ab (sl d 0) (.ref 0 0)).bind fun g=>((ab g (sl d 0)).bind (lenD false)).bind fun n=>(dB z (sl c 0)).bind fun i=>(ab i i).bind fun i=>callK (aC [i,n]) fun p c=>(ab (sl c 0) (.ref 0 0)).bind fun z=>(dB z (sl c 0)).bind fun i=>(ab i i).bind fun i=>callK (aC [i,I 16]) fun f c=>(bin .eql false [] (sl f 0) (I 0)).bind fun z=>ifD z ((ab (sl d 0) (.ref 0 0)).bind fun z=>(ab (sl c 0) (.ref 0 0)).bind fun h=>(aW 1 [I 0,I 8,I 9,I 1]).bind fun a=>(dB h (sl c 0)).bind fun i=>(ab i i).bind fun i=>callK (aR [i,a]) fun j c=>((ab z (sl d 0)).bind fun b=>fR 2 b (sl p 0)).bind fun z=>(bF 0 z).bind fun z=>(stD 1 (sl d 0) z (sl j 0)).bind fun b=>(ab (sl c 0) (sl c 0)).bind fun _=>some (.ret [b] [sl c 0])) ((bin .eql false [] (sl f 0) (I 1)).bind fun z=>ifD z ((lX [(0,1),(1,1)] [I 0,I 0] [I 1,I 1]).bind fun z=>(aW 2 [z]).bind fun a=>(gT a).bind fun b=>(ew 2 16 (sl d 0) b).bind fun y=>(ab (sl c 0) (sl c 0)).bind fun _=>some (.ret [y] [sl c 0])) ((bin .eql false [] (sl f 0) (I 2)).bind fun z=>ifD z ((ab (sl c 0) (.ref 0 0)).bind fun z=>(dB z (sl c 0)).bind fun i=>(ab i i).bind fun i=>callK (aC [i,I 2]) fun j c=>(bin .add false [] (I 8) (sl j 0)).bind fun z=>(aI (fun s=>(ab (sl s 1) (.ref 0 0)).bind fun z=>((ab z (sl s 1)).bind (lenD false)).bind fun z=>(bin .lss false [] z (sl s 2)).bind fun z=>ifD z ((lX [(0,1),(1,1)] [I 0,I 0] [I 1,I 1]).bind fun z=>(aW 2 [z]).bind fun a=>(gT a).bind fun b=>(ew 2 16 (sl s 1) b).bind fun y=>some (.nrm [sl s 0,y,sl s 2])) (some (.ext 1 [sl s 0,sl s 1]))) [sl c 0,sl d 0,z]).bind fun o=>outK o (fun i s=>ifN (i.beq 1) ((ab (sl s 0) (sl s 0)).bind fun _=>some (.ret [sl s 1] [sl s 0])) (ifN (i.beq 0) ((ab (sl s 0) (sl s 0)).bind fun _=>some (.ret [sl s 1] [sl s 0])) none)) fun a b=>some (.ret a b)) ((bin .eql false [] (sl f 0) (I 3)).bind fun z=>ifD z ((lX [(0,1),(1,1)] [I 0,I 0] [I 2,I 2]).bind fun z=>(lX [(0,1),(1,1)] [I 0,I 0] [I 5,I 1]).bind fun h=>(aW 2 [z,h]).bind fun a=>(ab (sl c 0) (sl c 0)).bind fun _=>some (.ret [a] [sl c 0])) ((ab (sl c 0) (sl c 0)).bind fun _=>some (.ret [sl d 0] [sl c 0]))))))):=by kernel_rfl
theorem wg (x0:D):jg [x0]=((lenD false x0).bind fun z=>(aI (fun s=>(bin .lss false [] (sl s 3) (sl s 2)).bind fun z=>ifD z ((Ix D.ptr (aF 2 (sl s 1) (sl s 3))).bind fun z=>((ldD true 2 z).bind bE).bind fun z=>(stD 2 (.agg [I 0,I 0]) (.ref 0 0) z).bind fun b=>(ab b (.ref 0 0)).bind fun z=>((atD b z).bind (aD false 1)).bind fun z=>(ab b (.ref 0 1)).bind fun c=>((atD b c).bind (aD false 1)).bind fun d=>(bin .mul false [] z d).bind fun z=>(bin .add false [] (sl s 0) z).bind fun z=>(bin .add false [] (sl s 3) (I 1)).bind fun e=>some (.nrm [z,sl s 1,sl s 2,e])) (some (.ext 0 [sl s 0]))) [I 0,x0,z,I 0]).bind fun o=>outK o (fun i s=>ifN (i.beq 0) (some (.ret [sl s 0] [])) none) fun a b=>some (.ret a b)):=by kernel_rfl
theorem yd (x0 x1 x2 x3 x4 x5 x6:D):jT [x0,x1,x2,x3,x4,x5,x6]=((qp 2 x3).bind fun y=>(mQ true 2 0 y).bind fun z=>callK (fo [z,x4]) fun d _=>(al (.tup d) 0).bind fun z=>(al (.tup d) 1).bind fun e=>(bin .rem false [] x5 x1).bind fun f=>(bin .quo false [] x5 x1).bind fun g=>(bin .add false [] f z).bind fun h=>(bin .gtr false [] h x1).bind fun c=>(aj (.tup []) c false (some g)).bind fun j=>(aj (.tup []) c false (some e)).bind fun k=>(aj (.tup []) c false (bin .add false [] j k)).bind fun l=>(aj (.tup []) c false (some x2)).bind fun m=>(aj (.tup []) c false (bin .gtr false [] l m)).bind fun n=>(aJ c (B true) n).bind fun p=>ifD p (some (.ret [.arr 1 [],B false] [])) (callK (cD [x0]) fun d _=>(aI (fun s=>(bin .lss false [] (sl s 6) (sl s 4)).bind fun z=>ifD z ((aI (fun s=>(bin .lss false [] (sl s 7) (sl s 3)).bind fun z=>ifD z ((ab (sl s 5) (.ref 0 0)).bind fun z=>(bin .mul false [] (sl s 6) (sl s 0)).bind fun q=>(bin .add false [] (sl s 1) q).bind fun r=>(bin .add false [] r (sl s 7)).bind fun t=>((ab z (sl s 5)).bind fun b=>fR 1 b t).bind fun z=>((atD (sl s 5) z).bind (aD false 1)).bind fun z=>(bin .geq false [] z (I 0)).bind fun z=>ifD z (some (.ret [.arr 1 [],B false] [])) ((ab (sl s 5) (.ref 0 0)).bind fun z=>(bin .mul false [] (sl s 6) (sl s 0)).bind fun u=>(bin .add false [] (sl s 1) u).bind fun v=>(bin .add false [] v (sl s 7)).bind fun w=>((ab z (sl s 5)).bind fun b=>fR 1 b w).bind fun z=>(stD 1 (sl s 5) z (sl s 2)).bind fun b=>(bin .add false [] (sl s 7) (I 1)).bind fun z=>some (.nrm [sl s 0,sl s 1,sl s 2,sl s 3,sl s 4,b,sl s 6,z]))) (some (.ext 2 [sl s 0,sl s 1,sl s 2,sl s 3,sl s 4,sl s 5,sl s 6]))) [sl s 0,sl s 1,sl s 2,sl s 3,sl s 4,sl s 5,sl s 6,I 0]).bind fun o=>outK o (fun i s=>ifN (i.beq 2) ((bin .add false [] (sl s 6) (I 1)).bind fun z=>some (.nrm [sl s 0,sl s 1,sl s 2,sl s 3,sl s 4,sl s 5,z])) (ifN (i.beq 1) ((bin .add false [] (sl s 6) (I 1)).bind fun z=>some (.nrm [sl s 0,sl s 1,sl s 2,sl s 3,sl s 4,sl s 5,z])) (some (.ext i [sl s 5])))) fun a b=>some (.ret a b)) (some (.ext 0 [sl s 5]))) [x1,x5,x6,z,e,sl d 0,I 0]).bind fun o=>outK o (fun i s=>ifN (i.beq 0) (some (.ret [sl s 0,B true] [])) none) fun a b=>some (.ret a b))):=by kernel_rfl
theorem ux (x0 x1 x2:D):ib [x0,x1,x2]=(callK (jg [x2]) fun c _=>(bin .mul false [] x0 x1).bind fun z=>(bin .neq false [] (sl c 0) z).bind fun z=>ifD z (some (.ret [.arr 4 [],B false] [])) ((bin .mul false [] x0 x1).bind fun z=>(yF 1 8 (I 0) z z).bind fun y=>(ab y (.ref 0 0)).bind fun z=>(ab z (.ref 0 0)).bind fun d=>((ab d y).bind (lenD false)).bind fun e=>(aI (fun s=>(bin .lss false [] (sl s 6) (sl s 5)).bind fun z=>ifD z ((ab (sl s 3) (.ref 0 0)).bind fun z=>((ab z (sl s 4)).bind fun b=>fR 1 b (sl s 6)).bind fun z=>(stD 1 (sl s 4) z (I (-1))).bind fun b=>(bin .add false [] (sl s 6) (I 1)).bind fun z=>some (.nrm [sl s 0,sl s 1,sl s 2,sl s 3,b,sl s 5,z])) (some (.ext 0 [sl s 0,sl s 1,sl s 2,sl s 3,sl s 4]))) [x0,x1,x2,z,y,e,I 0]).bind fun o=>outK o (fun i s=>ifN (i.beq 0) ((ab (sl s 3) (.ref 0 0)).bind fun z=>(ab z (sl s 4)).bind fun i=>callK (lW [i,sl s 0,sl s 1,sl s 2,.arr 0 []]) fun c _=>(al (.tup c) 0).bind fun y=>(al (bS (.tup c) 0) 1).bind fun z=>(un .not z).bind fun z=>ifD z (some (.ret [.arr 4 [],B false] [])) ((lenD false (sl s 2)).bind fun z=>(aI (fun s=>(bin .lss false [] (sl s 3) (sl s 2)).bind fun z=>ifD z ((lenD false (sl s 0)).bind fun z=>(aI (fun s=>(bin .lss false [] (sl s 7) (sl s 6)).bind fun z=>ifD z ((Ix D.ptr (aF 4 (sl s 5) (sl s 7))).bind fun z=>((ldD true 4 z).bind bE).bind fun z=>(stD 4 (.agg [I 0,I 0,I 0,B false]) (.ref 0 0) z).bind fun b=>(ab b (.ref 0 0)).bind fun z=>((atD b z).bind (aD false 1)).bind fun z=>(bin .eql false [] z (sl s 2)).bind fun z=>ifD z ((mQ true 4 0 b).bind fun z=>(aW 4 [z]).bind fun a=>(gT a).bind fun b=>(ew 4 32 (sl s 1) b).bind fun y=>(bin .add false [] (sl s 7) (I 1)).bind fun z=>some (.nrm [sl s 0,y,sl s 2,sl s 3,sl s 4,sl s 5,sl s 6,z])) ((bin .add false [] (sl s 7) (I 1)).bind fun z=>some (.nrm [sl s 0,sl s 1,sl s 2,sl s 3,sl s 4,sl s 5,sl s 6,z]))) (some (.ext 4 [sl s 0,sl s 1,sl s 3,sl s 4]))) [sl s 0,sl s 1,sl s 3,sl s 2,sl s 3,sl s 0,z,I 0]).bind fun o=>outK o (fun i s=>ifN (i.beq 4) ((bin .add false [] (sl s 3) (I 1)).bind fun z=>some (.nrm [sl s 0,sl s 1,sl s 2,z])) (ifN (i.beq 3) ((bin .add false [] (sl s 3) (I 1)).bind fun z=>some (.nrm [sl s 0,sl s 1,sl s 2,z])) (some (.ext i [sl s 1])))) fun a b=>some (.ret a b)) (some (.ext 2 [sl s 1]))) [y,.arr 4 [],z,I 0]).bind fun o=>outK o (fun i s=>ifN (i.beq 2) (some (.ret [sl s 0,B true] [])) none) fun a b=>some (.ret a b))) none) fun a b=>some (.ret a b))):=by kernel_rfl
theorem px (x0:D):cS [x0]=((lX [(0,1)] [.arr 1 [],I 0,.v (Iy IL 0)] [x0]).bind fun z=>(qp 3 z).bind fun y=>(ab y (.ref 0 0)).bind fun z=>(ab z z).bind fun zd=>(dB zd y).bind fun i=>(ab i i).bind fun i=>callK (dD [i]) fun c d=>(ab z z).bind fun ze=>(dB ze (sl d 0)).bind fun i=>(ab i i).bind fun i=>callK (dD [i]) fun f d=>(ab z z).bind fun zf=>(dB zf (sl d 0)).bind fun i=>(ab i i).bind fun i=>callK (dX [i,sl c 0,sl f 0]) fun e d=>(ab (sl e 0) (.ref 0 0)).bind fun zg=>(ab zg (sl e 0)).bind fun i=>callK (fm [sl c 0,sl f 0,i]) fun zh _=>ifD (sl zh 0) ((ab (sl e 0) (.ref 0 0)).bind fun r=>(ab r (sl e 0)).bind fun i=>callK (ib [sl c 0,sl f 0,i]) fun h _=>(al (.tup h) 0).bind fun y=>(al (bS (.tup h) 0) 1).bind fun _=>(ab y (.ref 0 0)).bind fun m=>((ab m y).bind (lenD false)).bind fun n=>(bin .gtr false [] n (I 0)).bind fun t=>ifD t ((ab z z).bind fun u=>(dB u (sl d 0)).bind fun i=>(ab i i).bind fun i=>callK (aC [i,n]) fun g d=>(ab z z).bind fun v=>(dB v (sl d 0)).bind fun i=>(ab i i).bind fun i=>callK (aC [i,I 8]) fun j d=>(bin .eql false [] (sl j 0) (I 0)).bind fun w=>ifD w ((aW 4 []).bind fun a=>(iC false 4 y (I 0) (sl g 0)).bind fun z=>(gT z).bind fun b=>(ew 4 32 a b).bind fun zi=>(bin .add false [] (sl g 0) (I 1)).bind fun z=>(eW false 4 y z).bind fun z=>(gT z).bind fun b=>(ew 4 32 zi b).bind fun y=>some (.ret [sl c 0,sl f 0,sl e 0,y] [])) ((bin .eql false [] (sl j 0) (I 1)).bind fun p=>ifD p ((ab y (.ref 0 0)).bind fun k=>(ab z z).bind fun z=>(aW 1 [I 0,I 1,sl c 0,I (-1)]).bind fun a=>(dB z (sl d 0)).bind fun i=>(ab i i).bind fun i=>callK (aR [i,a]) fun za _=>((ab k y).bind fun b=>fR 4 b (sl g 0)).bind fun z=>(bF 1 z).bind fun z=>(stD 1 y z (sl za 0)).bind fun b=>some (.ret [sl c 0,sl f 0,sl e 0,b] [])) ((bin .eql false [] (sl j 0) (I 2)).bind fun k=>ifD k ((ab y (.ref 0 0)).bind fun z=>(ab y (.ref 0 0)).bind fun l=>((ab l y).bind fun b=>fR 4 b (sl g 0)).bind fun q=>(bF 3 q).bind fun zb=>((atD y zb).bind (aD false 1)).bind fun zc=>(un .not zc).bind fun zj=>((ab z y).bind fun b=>fR 4 b (sl g 0)).bind fun z=>(bF 3 z).bind fun z=>(stD 1 y z zj).bind fun b=>some (.ret [sl c 0,sl f 0,sl e 0,b] [])) ((bin .eql false [] (sl j 0) (I 3)).bind fun l=>ifD l ((ab y (.ref 0 0)).bind fun q=>(ab z z).bind fun z=>(aW 1 [I 0,n,I (-1)]).bind fun a=>(dB z (sl d 0)).bind fun i=>(ab i i).bind fun i=>callK (aR [i,a]) fun za _=>((ab q y).bind fun b=>fR 4 b (sl g 0)).bind fun z=>(bF 0 z).bind fun z=>(stD 1 y z (sl za 0)).bind fun b=>some (.ret [sl c 0,sl f 0,sl e 0,b] [])) (some (.ret [sl c 0,sl f 0,sl e 0,y] [])))))) (some (.ret [sl c 0,sl f 0,sl e 0,y] []))) ((ab (.arr 4 []) (.ref 0 0)).bind fun r=>((ab r (.arr 4 [])).bind (lenD false)).bind fun m=>(bin .gtr false [] m (I 0)).bind fun n=>ifD n ((ab z z).bind fun t=>(dB t (sl d 0)).bind fun i=>(ab i i).bind fun i=>callK (aC [i,m]) fun h d=>(ab z z).bind fun u=>(dB u (sl d 0)).bind fun i=>(ab i i).bind fun i=>callK (aC [i,I 8]) fun g d=>(bin .eql false [] (sl g 0) (I 0)).bind fun v=>ifD v ((aW 4 []).bind fun a=>(iC false 4 (.arr 4 []) (I 0) (sl h 0)).bind fun z=>(gT z).bind fun b=>(ew 4 32 a b).bind fun y=>(bin .add false [] (sl h 0) (I 1)).bind fun z=>(eW false 4 (.arr 4 []) z).bind fun z=>(gT z).bind fun b=>(ew 4 32 y b).bind fun y=>some (.ret [sl c 0,sl f 0,sl e 0,y] [])) ((bin .eql false [] (sl g 0) (I 1)).bind fun w=>ifD w ((ab (.arr 4 []) (.ref 0 0)).bind fun p=>(ab z z).bind fun z=>(aW 1 [I 0,I 1,sl c 0,I (-1)]).bind fun a=>(dB z (sl d 0)).bind fun i=>(ab i i).bind fun i=>callK (aR [i,a]) fun j _=>((ab p (.arr 4 [])).bind fun b=>fR 4 b (sl h 0)).bind fun z=>(bF 1 z).bind fun z=>(stD 1 (.arr 4 []) z (sl j 0)).bind fun b=>some (.ret [sl c 0,sl f 0,sl e 0,b] [])) ((bin .eql false [] (sl g 0) (I 2)).bind fun p=>ifD p ((ab (.arr 4 []) (.ref 0 0)).bind fun z=>(ab (.arr 4 []) (.ref 0 0)).bind fun k=>((ab k (.arr 4 [])).bind fun b=>fR 4 b (sl h 0)).bind fun l=>(bF 3 l).bind fun q=>((atD (.arr 4 []) q).bind (aD false 1)).bind fun zb=>(un .not zb).bind fun zc=>((ab z (.arr 4 [])).bind fun b=>fR 4 b (sl h 0)).bind fun z=>(bF 3 z).bind fun z=>(stD 1 (.arr 4 []) z zc).bind fun b=>some (.ret [sl c 0,sl f 0,sl e 0,b] [])) ((bin .eql false [] (sl g 0) (I 3)).bind fun k=>ifD k ((ab (.arr 4 []) (.ref 0 0)).bind fun l=>(ab z z).bind fun z=>(aW 1 [I 0,m,I (-1)]).bind fun a=>(dB z (sl d 0)).bind fun i=>(ab i i).bind fun i=>callK (aR [i,a]) fun j _=>((ab l (.arr 4 [])).bind fun b=>fR 4 b (sl h 0)).bind fun z=>(bF 0 z).bind fun z=>(stD 1 (.arr 4 []) z (sl j 0)).bind fun b=>some (.ret [sl c 0,sl f 0,sl e 0,b] [])) (some (.ret [sl c 0,sl f 0,sl e 0,.arr 4 []] [])))))) (some (.ret [sl c 0,sl f 0,sl e 0,.arr 4 []] [])))):=by kernel_rfl
theorem ny (x0:D):cv [x0]=(callK (cS [x0]) fun c _=>(al (.tup c) 0).bind fun z=>(al (.tup c) 1).bind fun d=>(al (.tup c) 2).bind fun y=>(al (bS (.tup c) 2) 3).bind fun e=>some (.ret [z,d,y,e] [])):=by kernel_rfl
theorem py (x0 x1:D):be [x0,x1]=((aI (fun s=>(bin .lss false [] (sl s 3) (sl s 1)).bind fun z=>(aj (.tup []) z true (some (sl s 3))).bind fun e=>(aj (.tup []) z true (bin .lss false [] e (I 12))).bind fun f=>(aJ z f (B false)).bind fun z=>ifD z ((ab (sl s 0) (.ref 0 0)).bind fun z=>(dB z (sl s 0)).bind fun i=>(ab i i).bind fun i=>callK (bH [i,I 2]) fun d c=>ifD (sl d 0) ((aW 1 [sl s 3]).bind fun a=>(gT a).bind fun b=>(ew 1 8 (sl s 2) b).bind fun y=>(bin .add false [] (sl s 3) (I 1)).bind fun z=>some (.nrm [sl c 0,sl s 1,y,z])) ((bin .add false [] (sl s 3) (I 1)).bind fun z=>some (.nrm [sl c 0,sl s 1,sl s 2,z]))) (some (.ext 0 [sl s 0,sl s 1,sl s 2]))) [x0,x1,.arr 1 [],I 0]).bind fun o=>outK o (fun i s=>ifN (i.beq 0) ((ab (sl s 0) (.ref 0 0)).bind fun z=>(dB z (sl s 0)).bind fun i=>(ab i i).bind fun i=>callK (bH [i,I 16]) fun d c=>ifD (sl d 0) ((ab (sl c 0) (.ref 0 0)).bind fun z=>(bin .sub false [] (sl s 1) (I 1)).bind fun e=>(aW 1 [sl s 1,e,I (-1)]).bind fun a=>(dB z (sl c 0)).bind fun i=>(ab i i).bind fun i=>callK (aR [i,a]) fun d c=>(aW 1 [sl d 0]).bind fun a=>(gT a).bind fun b=>(ew 1 8 (sl s 2) b).bind fun y=>(ab (sl c 0) (sl c 0)).bind fun _=>some (.ret [y] [sl c 0])) ((ab (sl c 0) (sl c 0)).bind fun _=>some (.ret [sl s 2] [sl c 0]))) none) fun a b=>some (.ret a b)):=by kernel_rfl
theorem mU (x0:D):cW [x0]=((lX [(0,1)] [.arr 1 [],I 0,.v (Iy IL 0)] [x0]).bind fun z=>(qp 3 z).bind fun y=>(ab y (.ref 0 0)).bind fun z=>callK (cS [x0]) fun c _=>(al (.tup c) 0).bind fun d=>(al (.tup c) 1).bind fun e=>(al (.tup c) 2).bind fun f=>(al (bS (.tup c) 2) 3).bind fun g=>(ab z z).bind fun n=>(ab n n).bind fun p=>(bF 1 p).bind fun q=>(stD 1 y q (I 9)).bind fun b=>callK (cf [d,e,f,g]) fun c _=>(al (.tup c) 0).bind fun r=>(al (.tup c) 1).bind fun j=>(aj D.bad j true (ab z z)).bind fun t=>cd j true ((dB t b).bind fun i=>(ab i i).bind fun i=>callK (bH [i,I 2]) fun c h=>some (.nrm [sl c 0,sl h 0])) [.tup [],b] fun k=>(aJ j (sl k 0) (B false)).bind fun u=>ifD u (callK (aZ [d,e,f,g]) fun c _=>(al (.tup c) 0).bind fun l=>(al (.tup c) 1).bind fun v=>ifD v (some (.ret [d,e,f,g,r,l] [])) ((ab z z).bind fun w=>(dB w (sl k 1)).bind fun i=>(ab i i).bind fun i=>callK (be [i,e]) fun c h=>(ab z z).bind fun z=>(dB z (sl h 0)).bind fun i=>(ab i i).bind fun i=>callK (be [i,d]) fun m _=>some (.ret [d,e,f,g,sl c 0,sl m 0] []))) ((ab z z).bind fun l=>(dB l (sl k 1)).bind fun i=>(ab i i).bind fun i=>callK (be [i,e]) fun c h=>(ab z z).bind fun z=>(dB z (sl h 0)).bind fun i=>(ab i i).bind fun i=>callK (be [i,d]) fun m _=>some (.ret [d,e,f,g,sl c 0,sl m 0] []))):=by kernel_rfl
theorem Bs (x0 x1:D):dS [x0,x1]=((lenD false x0).bind fun z=>(aI (fun s=>(bin .lss false [] (sl s 3) (sl s 2)).bind fun z=>ifD z ((Ix D.ptr (aF 1 (sl s 1) (sl s 3))).bind fun z=>((ldD false 1 z).bind bE).bind fun z=>(bin .eql false [] z (sl s 0)).bind fun z=>ifD z (some (.ret [B true] [])) ((bin .add false [] (sl s 3) (I 1)).bind fun z=>some (.nrm [sl s 0,sl s 1,sl s 2,z]))) (some (.ext 0 []))) [x1,x0,z,I 0]).bind fun o=>outK o (fun i _=>ifN (i.beq 0) (some (.ret [B false] [])) none) fun a b=>some (.ret a b)):=by kernel_rfl
theorem tG (x0 x1:D):bd [x0,x1]=((lenD false x0).bind fun z=>(lenD false x1).bind fun c=>(bin .neq false [] z c).bind fun z=>ifD z (some (.ret [B false] [])) ((lenD false x0).bind fun z=>(aI (fun s=>(bin .lss false [] (sl s 3) (sl s 2)).bind fun z=>ifD z ((Ix D.ptr (aF 1 (sl s 0) (sl s 3))).bind fun z=>((ldD false 1 z).bind bE).bind fun z=>(Ix D.ptr (aF 1 (sl s 1) (sl s 3))).bind fun d=>((ldD false 1 d).bind bE).bind fun e=>(bin .neq false [] z e).bind fun z=>ifD z (some (.ret [B false] [])) ((bin .add false [] (sl s 3) (I 1)).bind fun z=>some (.nrm [sl s 0,sl s 1,sl s 2,z]))) (some (.ext 0 []))) [x0,x1,z,I 0]).bind fun o=>outK o (fun i _=>ifN (i.beq 0) (some (.ret [B true] [])) none) fun a b=>some (.ret a b))):=by kernel_rfl
theorem AR (x0 x1:D):nb [x0,x1]=((lenD false x0).bind fun z=>(bin .gtr false [] z (I 1048576)).bind fun z=>(aj (.tup []) z false (some x1)).bind fun c=>(aj (.tup []) z false (lenD false c)).bind fun d=>(aj (.tup []) z false (some x0)).bind fun e=>(aj (.tup []) z false (lenD false e)).bind fun f=>(aj (.tup []) z false (bin .sub false [] (I 1048576) f)).bind fun g=>(aj (.tup []) z false (bin .gtr false [] d g)).bind fun h=>(aJ z (B true) h).bind fun z=>some (.ret [z] [])):=by kernel_rfl
theorem gb (n:Nat) (x0 x1 x2 x3 x4 x5 x6 x7:D):bq (n+1) [x0,x1,x2,x3,x4,x5,x6,x7]=((lenD false x5).bind fun z=>(bin .eql false [] z x6).bind fun z=>ifD z (ifD x7 (callK (dr [x0,x1,x2,x5]) fun c _=>(lenD false (sl c 0)).bind fun z=>(bin .eql false [] z x4).bind fun z=>some (.ret [x5,z] [])) (callK (dl [x0,x1,x2,x5]) fun c _=>(lenD false (sl c 0)).bind fun z=>(bin .eql false [] z x4).bind fun z=>some (.ret [x5,z] []))) ((lenD false x5).bind fun z=>(bin .gtr false [] z (I 0)).bind fun z=>ifD z ((lenD false x5).bind fun z=>(bin .sub false [] z (I 1)).bind fun z=>(Ix D.ptr (aF 1 x5 z)).bind fun z=>((ldD false 1 z).bind bE).bind fun z=>(bin .add false [] z (I 1)).bind fun z=>(aI (fun s=>(bin .lss false [] (sl s 8) (sl s 3)).bind fun z=>ifD z (callK (cD [sl s 5]) fun c _=>(aW 1 [sl s 8]).bind fun a=>(ew 1 8 (sl c 0) a).bind fun y=>callK (bq n [sl s 0,sl s 1,sl s 2,sl s 3,sl s 4,y,sl s 6,sl s 7]) fun c _=>(al (.tup c) 0).bind fun z=>(al (.tup c) 1).bind fun d=>ifD d (some (.ret [z,B true] [])) ((bin .add false [] (sl s 8) (I 1)).bind fun z=>some (.nrm [sl s 0,sl s 1,sl s 2,sl s 3,sl s 4,sl s 5,sl s 6,sl s 7,z]))) (some (.ext 0 []))) [x0,x1,x2,x3,x4,x5,x6,x7,z]).bind fun o=>outK o (fun i _=>ifN (i.beq 0) (some (.ret [.arr 1 [],B false] [])) none) fun a b=>some (.ret a b)) ((aI (fun s=>(bin .lss false [] (sl s 8) (sl s 3)).bind fun z=>ifD z (callK (cD [sl s 5]) fun c _=>(aW 1 [sl s 8]).bind fun a=>(ew 1 8 (sl c 0) a).bind fun y=>callK (bq n [sl s 0,sl s 1,sl s 2,sl s 3,sl s 4,y,sl s 6,sl s 7]) fun c _=>(al (.tup c) 0).bind fun z=>(al (.tup c) 1).bind fun d=>ifD d (some (.ret [z,B true] [])) ((bin .add false [] (sl s 8) (I 1)).bind fun z=>some (.nrm [sl s 0,sl s 1,sl s 2,sl s 3,sl s 4,sl s 5,sl s 6,sl s 7,z]))) (some (.ext 0 []))) [x0,x1,x2,x3,x4,x5,x6,x7,I 0]).bind fun o=>outK o (fun i _=>ifN (i.beq 0) (some (.ret [.arr 1 [],B false] [])) none) fun a b=>some (.ret a b)))):=by kernel_rfl
theorem jc (n:Nat) (x0 x1 x2 x3 x4:D):ce (n+1) [x0,x1,x2,x3,x4]=((aI (fun s=>(lenD false (sl s 0)).bind fun z=>(bin .lss false [] (sl s 5) z).bind fun z=>(aj (.tup []) z true (some (sl s 0))).bind fun d=>(aj (.tup []) z true (some (sl s 5))).bind fun e=>(aj (.tup []) z true (Ix D.ptr (aF 1 d e))).bind fun f=>(aj (.tup []) z true ((ldD false 1 f).bind bE)).bind fun g=>(aj (.tup []) z true (bin .geq false [] g (I 0))).bind fun h=>(aJ z h (B false)).bind fun z=>ifD z ((bin .add false [] (sl s 5) (I 1)).bind fun z=>some (.nrm [sl s 0,sl s 1,sl s 2,sl s 3,sl s 4,z])) (some (.ext 0 [sl s 0,sl s 1,sl s 2,sl s 3,sl s 4,sl s 5]))) [x0,x1,x2,x3,x4,I 0]).bind fun o=>outK o (fun i s=>ifN (i.beq 0) ((lenD false (sl s 0)).bind fun z=>(bin .eql false [] (sl s 5) z).bind fun z=>ifD z ((lenD false (sl s 4)).bind fun z=>(lenD false (sl s 3)).bind fun d=>(bin .eql false [] z d).bind fun z=>some (.ret [.arr 4 [],z] [])) ((lenD false (sl s 3)).bind fun z=>(aI (fun s=>(bin .lss false [] (sl s 8) (sl s 7)).bind fun z=>ifD z ((Ix D.ptr (aF 2 (sl s 6) (sl s 8))).bind fun z=>((ldD true 2 z).bind bE).bind fun z=>(stD 2 (.agg [I 0,I 0]) (.ref 0 0) z).bind fun b=>callK (bP [sl s 4,sl s 8]) fun c _=>ifD (sl c 0) ((bin .add false [] (sl s 8) (I 1)).bind fun z=>some (.nrm [sl s 0,sl s 1,sl s 2,sl s 3,sl s 4,sl s 5,sl s 6,sl s 7,z])) ((aW 1 [B false,B true]).bind fun a=>(lenD false a).bind fun z=>(aI (fun s=>(bin .lss false [] (sl s 13) (sl s 12)).bind fun z=>ifD z ((Ix D.ptr (aF 1 (sl s 11) (sl s 13))).bind fun z=>((ldD false 1 z).bind bE).bind fun z=>(aj D.bad z true (ab (sl s 7) (.ref 0 0))).bind fun d=>(aj (.tup []) z true ((atD (sl s 7) d).bind (aD false 1))).bind fun e=>(aj D.bad z true (ab (sl s 7) (.ref 0 1))).bind fun f=>(aj (.tup []) z true ((atD (sl s 7) f).bind (aD false 1))).bind fun g=>(aj (.tup []) z true (bin .eql false [] e g)).bind fun h=>(aJ z h (B false)).bind fun j=>ifD j ((bin .add false [] (sl s 13) (I 1)).bind fun z=>some (.nrm [sl s 0,sl s 1,sl s 2,sl s 3,sl s 4,sl s 5,sl s 6,sl s 7,sl s 8,sl s 9,sl s 10,sl s 11,sl s 12,z])) ((mQ true 2 0 (sl s 7)).bind fun k=>callK (jT [sl s 0,sl s 1,sl s 2,k,z,sl s 5,sl s 6]) fun c _=>(al (.tup c) 0).bind fun y=>(al (bS (.tup c) 0) 1).bind fun l=>(un .not l).bind fun m=>ifD m ((bin .add false [] (sl s 13) (I 1)).bind fun z=>some (.nrm [sl s 0,sl s 1,sl s 2,sl s 3,sl s 4,sl s 5,sl s 6,sl s 7,sl s 8,sl s 9,sl s 10,sl s 11,sl s 12,z])) (callK (cD [sl s 4]) fun c _=>(aW 1 [sl s 6]).bind fun a=>(ew 1 8 (sl c 0) a).bind fun p=>callK (ce n [y,sl s 1,sl s 2,sl s 3,p]) fun c _=>(al (.tup c) 0).bind fun y=>(al (bS (.tup c) 0) 1).bind fun q=>ifD q ((bin .rem false [] (sl s 5) (sl s 1)).bind fun r=>(bin .quo false [] (sl s 5) (sl s 1)).bind fun t=>(lX [(0,1),(1,1),(2,1),(3,1)] [I 0,I 0,I 0,B false] [sl s 6,r,t,z]).bind fun z=>(aW 4 [z]).bind fun a=>(gT y).bind fun b=>(ew 4 32 a b).bind fun y=>some (.ret [y,B true] [])) ((bin .add false [] (sl s 13) (I 1)).bind fun z=>some (.nrm [sl s 0,sl s 1,sl s 2,sl s 3,sl s 4,sl s 5,sl s 6,sl s 7,sl s 8,sl s 9,sl s 10,sl s 11,sl s 12,z]))))) (some (.ext 4 [sl s 0,sl s 1,sl s 2,sl s 3,sl s 4,sl s 5,sl s 8,sl s 9,sl s 10]))) [sl s 0,sl s 1,sl s 2,sl s 3,sl s 4,sl s 5,sl s 8,b,sl s 6,sl s 7,sl s 8,a,z,I 0]).bind fun o=>outK o (fun i s=>ifN (i.beq 4) ((bin .add false [] (sl s 8) (I 1)).bind fun z=>some (.nrm [sl s 0,sl s 1,sl s 2,sl s 3,sl s 4,sl s 5,sl s 6,sl s 7,z])) (ifN (i.beq 3) ((bin .add false [] (sl s 8) (I 1)).bind fun z=>some (.nrm [sl s 0,sl s 1,sl s 2,sl s 3,sl s 4,sl s 5,sl s 6,sl s 7,z])) (some (.ext i [])))) fun a b=>some (.ret a b))) (some (.ext 2 []))) [sl s 0,sl s 1,sl s 2,sl s 3,sl s 4,sl s 5,sl s 3,z,I 0]).bind fun o=>outK o (fun i _=>ifN (i.beq 2) (some (.ret [.arr 4 [],B false] [])) none) fun a b=>some (.ret a b))) none) fun a b=>some (.ret a b)):=by kernel_rfl
set_option maxRecDepth 100000
theorem lp (a b c:Int):fq [I a,I b,I c]=some (.ret [B (decide (b≤a∧a≤c))] []):=by
 rw [zG];by_cases h:b≤a<;>simp [h]
theorem lU (a b c:Int):eS [I a,I b,I c]=some (.ret [B (decide (b≤a∧a≤c))] []):=by
 rw [vX];by_cases h:b≤a<;>simp [h]
set_option maxRecDepth 100000
abbrev pce (x:Int × Int):D:=.agg [I x.1,I x.2]
abbrev pcs (l:Ps):D:=.arr 2 (l.map pce)
abbrev plD (p:Pl):D:=.agg [I p.1,I p.2.1,I p.2.2.1,B p.2.2.2]
abbrev pls (l:List Pl):D:=.arr 4 (l.map plD)
abbrev ints (l:List Int):D:=.arr 1 (l.map I)
abbrev bg (G:List (List Int)):D:=.arr 1 (G.map ints)
def aM (wd ht:Nat) (f:Gr):List (List Int):=(II ht).map fun y=>(II wd).map fun x=>f y x
theorem gh (n:Int):cz [I n]=some (.ret [B (aX n)] []):=by
 rw [qj];simp -implicitDefEqProofs only [Hn,Int.reduceLT,Int.reduceLE,Int.reduceEq,lU,aX]
theorem tM {l:Ps} {i:Nat} (h:i<l.length):aF 2 (pcs l) (I (i:Int))=some [I l[i].1,I l[i].2]:=by simp [h]
theorem sr (l:Ps) (h:l.length≤1048576):fv [pcs l]=some (.ret [B (eT l)] []):=by
 rw [rR];simp only [ca,Iz,Option.bind_some];refine aE _ (ju l (fun i=>[pcs l,pcs l,I l.length,I i]) (fun _ p=>aX p.1&&aX p.2) (.ret [B false] []) (.ext 0 [pcs l]) (fun i hi=>?_) ?_ rfl rfl rfl) ?_
 ·have hw:Ji.wrap ((i:Int)+1)=(i:Int)+1:=ai (by omega) (by omega)
  cases h1:aX l[i].1
  ·simp -implicitDefEqProofs [hi,gh,h1]
  ·cases h2:aX l[i].2<;>simp -implicitDefEqProofs [hi,gh,h1,h2,hw]
 ·simp
 ·have e:kJ (fun _ (p:Int × Int)=>aX p.1&&aX p.2) 0 l=l.all (fun p=>aX p.1&&aX p.2):=by
   have key:∀(l:Ps) (i:Nat),kJ (fun _ (p:Int × Int)=>aX p.1&&aX p.2) i l=l.all (fun p=>aX p.1&&aX p.2):=by
    intro l;induction l with
    | nil=>intro i;rfl
    | cons x l ih=>intro i;simp [kJ,ih]
   exact key l 0
  rw [e];unfold eT;cases l.all (fun p=>aX p.1&&aX p.2)
  ·simp
  ·simp
   omega
theorem pQ (l:Ps) (p:Pl) (h0:0≤p.1) (h1:p.1≤(l.length:Int) - 1):je [pcs l,plD p]=some (.ret [I (szI l p).1,I (szI l p).2] []):=by
 rw [vO];obtain⟨n,X,Y,t⟩:=p;simp only at h0 h1;obtain⟨i,rfl⟩:∃i:Nat,n=i:=⟨n.toNat,by omega⟩
 have hi:i<l.length:=by omega
 have he:l.getD i (0,0)=l[i]:=by rw [Jc,IJ hi];rfl
 unfold szI;rw [Jk,he];cases t<;>simp -implicitDefEqProofs [hi]
theorem rH (wd ht:Nat) (f:Gr):(aM wd ht f).length=ht:=by simp [aM]
theorem rD {wd ht:Nat} (f:Gr) {y:Nat} (hy:y<ht):aF 1 (bg (aM wd ht f)) (I (y:Int))=some [ints ((II wd).map fun x=>f y x)]:=by
 simp [aM,hy]
theorem rW {wd:Nat} (g:Nat→Int) {x:Nat} (hx:x<wd):aF 1 (ints ((II wd).map fun x=>g x)) (I (x:Int))=some [I (g x)]:=by
 simp [hx]
set_option maxHeartbeats 1000000 in
theorem vQ (wd ht:Nat) (f:Gr) (l:Ps) (p:Pl) (hl:eT l=true) (h0:0≤p.1) (h1:p.1≤(l.length:Int) - 1) (hw1:1≤wd) (hh1:1≤ht) (hw8:wd≤8) (hh8:ht≤8)
  (hX : -1000000≤p.2.1∧p.2.1≤1000000) (hY : -1000000≤p.2.2.1∧p.2.2.1≤1000000):jd [bg (aM wd ht f),pcs l,plD p]=some (.ret [B (jR wd ht f l p)] []):=by
 rw [vM];have hs:=pQ l p h0 h1;obtain⟨s1,s2,s3,s4,s5,s6⟩:=wO hl h0 h1;rw [←s1,←s2] at hs;have hroom:jR wd ht f l p=@decide _ (Jf (jk wd ht f l p)):=rfl;have hno:¬jk wd ht f l p→jR wd ht f l p=false:=fun h=>by rw [hroom];exact @decide_eq_false _ (Jf _) h
 have hyes:jk wd ht f l p→jR wd ht f l p=true:=fun h=>by rw [hroom];exact @decide_eq_true _ (Jf _) h
 clear hroom;unfold jk at hno hyes;generalize jR wd ht f l p=r at *;generalize (szN l p).1=a at *;generalize (szN l p).2=b at *;obtain⟨n,X,Y,t⟩:=p;simp only at hX hY hno hyes;clear s1 s2 h0 h1;have hr0:aF 1 (bg (aM wd ht f)) (I 0)=some [ints ((II wd).map fun x=>f 0 x)]:=rD f (y:=0) (by omega);have hl0:(((II wd).map fun x=>f 0 x).map I).length=wd:=by simp
 have hl1:((aM wd ht f).map ints).length=ht:=by simp [rH]
 have hwX:Ji.wrap (X+(a:Int))=X+a:=ai (by omega) (by omega);have hwY:Ji.wrap (Y+(b:Int))=Y+b:=ai (by omega) (by omega);by_cases c1:X<0
 ·rw [hno (fun h=>by omega)]
  simp -implicitDefEqProofs [hs,c1]
 by_cases c2:Y<0
 ·rw [hno (fun h=>by omega)]
  simp -implicitDefEqProofs [hs,c1,c2]
 by_cases c3:X+(a:Int)>(wd:Int)
 ·rw [hno (fun h=>by omega)]
  simp -implicitDefEqProofs [hs,c1,c2,c3,hr0,hl0,hwX]
 by_cases c4:Y+(b:Int)>(ht:Int)
 ·rw [hno (fun h=>by omega)]
  simp -implicitDefEqProofs [hs,c1,c2,c3,c4,hr0,hl0,hl1,hwX,hwY]
 obtain⟨X,rfl⟩:∃m:Nat,X=m:=⟨X.toNat,by omega⟩
 obtain⟨Y,rfl⟩:∃m:Nat,Y=m:=⟨Y.toNat,by omega⟩
 simp -implicitDefEqProofs [hs,c1,c2,c3,c4,hr0,hl0,hl1,hwX,hwY];refine bo (fun r'=>r'=some (.ret [B r] [])) (fun y:Nat=>[bg (aM wd ht f),plD (n,(X:Int),(Y:Int),t),I (a:Int),I (b:Int),I (y:Int)]) (fun y=>Y≤y∧y≤Y+b∧∀y' x:Nat,Y≤y'→y'<y→X≤x→x<X+a→f y' x = -1) (fun y=>Y+b - y)
  (fun o=>(o = .ret [B false] []∧r=false)∨(o = .ext 0 []∧r=true)) (fun y hy=>?_) Y ⟨IA _,by omega,fun y' x h1 h2=>by omega⟩ rfl (fun o ho=>?_)
 ·obtain⟨y1,y2,y3⟩:=hy
  have hwy:Ji.wrap ((y:Int)+1)=((y+1:Nat):Int):=by rw [ai (by omega) (by omega)];omega
  by_cases d1:y<Y+b
  ·have d1':(y:Int)<(Y:Int)+(b:Int):=by omega
   have hry:=rD (wd:=wd) f (y:=y) (ht:=ht) (by omega);simp -implicitDefEqProofs [d1',hwY];refine bo (fun r'=>(∃a':Nat,r'=some (.nrm [bg (aM wd ht f),plD (n,(X:Int),(Y:Int),t),I (a:Int),I (b:Int),I (a':Int)])∧(Y≤a'∧a'≤Y+b∧∀y' x:Nat,Y≤y'→y'<a'→X≤x→x<X+a→f y' x = -1)∧Y+b - a'<Y+b - y)∨∃o,r'=some o∧o.ends=true∧((o = .ret [B false] []∧r=false)∨(o = .ext 0 []∧r=true)))
    (fun x:Nat=>[bg (aM wd ht f),plD (n,(X:Int),(Y:Int),t),I (a:Int),I (b:Int),I (y:Int),I (x:Int)]) (fun x=>X≤x∧x≤X+a∧∀x':Nat,X≤x'→x'<x→f y x' = -1) (fun x=>X+a - x)
    (fun o=>(o = .ret [B false] []∧r=false)∨(o = .ext 2 [bg (aM wd ht f),plD (n,(X:Int),(Y:Int),t),I (a:Int),I (b:Int),I (y:Int)]∧∀x':Nat,X≤x'→x'<X+a→f y x' = -1)) (fun x hx=>?_) X ⟨IA _,by omega,fun x' h1 h2=>by omega⟩ rfl (fun o ho2=>?_)
   ·obtain⟨x1,x2,x3⟩:=hx
    have hwx:Ji.wrap ((x:Int)+1)=((x+1:Nat):Int):=by rw [ai (by omega) (by omega)];omega
    by_cases e1:x<X+a
    ·have e1':(x:Int)<(X:Int)+(a:Int):=by omega
     have hrx:=rW (wd:=wd) (fun x=>f y x) (x:=x) (by omega);by_cases e2:f y x = -1
     ·refine .inl ⟨x+1,?_,⟨by omega,by omega,fun x' h1 h2=>?_⟩,by omega⟩
      ·simp -implicitDefEqProofs [e1',hwX,hry,hrx,e2,hwx,eq_self]
      ·by_cases e3:x'=x
       ·rw [e3];exact e2
       ·exact x3 x' h1 (by omega)
     ·refine .inr ⟨_,?_,rfl,.inl ⟨rfl,hno fun h=>e2 (h.2.2.2.2 y x (by omega) (by omega) (by omega) (by omega))⟩⟩
      simp -implicitDefEqProofs [e1',hwX,hry,hrx,e2]
    ·have e1':¬(x:Int)<(X:Int)+(a:Int):=by omega
     refine .inr ⟨_,?_,?_,.inr ⟨rfl,fun x' h1 h2=>x3 x' h1 (by omega)⟩⟩
     ·simp -implicitDefEqProofs [e1',hwX]
     ·rfl
   ·rcases ho2 with ⟨rfl,h2⟩ | ⟨rfl,h2⟩
    ·refine .inr ⟨_,?_,rfl,.inl ⟨rfl,h2⟩⟩
     simp -implicitDefEqProofs
    ·refine .inl ⟨y+1,?_,⟨by omega,by omega,fun y' x g1 g2 g3 g4=>?_⟩,by omega⟩
     ·simp -implicitDefEqProofs [hwy]
     ·by_cases e3:y'=y
      ·rw [e3];exact h2 x g3 g4
      ·exact y3 y' x g1 (by omega) g3 g4
  ·have d1':¬(y:Int)<(Y:Int)+(b:Int):=by omega
   refine .inr ⟨.ext 0 [],?_,rfl,.inr ⟨rfl,hyes ⟨by omega,by omega,by omega,by omega,fun y' x g1 g2 g3 g4=>y3 y' x (by omega) (by omega) (by omega) (by omega)⟩⟩⟩
   simp -implicitDefEqProofs [d1',hwY]
 ·rcases ho with ⟨rfl,h2⟩ | ⟨rfl,h2⟩
  ·rw [h2];rfl
  ·rw [h2];rfl
open Go Go.Proofs Go.V Go.RowKit
set_option maxRecDepth 100000
theorem ng {P:Program} {G:List (Nat × (Obj→Prop))} {f:FuncId} {S:FS} (he:∀args w,(callFunc f args).run P w = .ok (.enter f args) w) (hm:ay G P f S) {ds rs us:List D} (hd:S.f ds=some (.ret rs us)) {args:Array Value} {w:World} {F:Nat→Prop} {ow:Nat→Option Nat}
  (hgl:gOk G w F) (ha:dN w F ow 0 S.pm ds args.toList) (hF:∀b,F b→b<w.heap.size∧ow b=none) (hO:∀b i,ow b=some i→b<w.heap.size) :
  Calls P f args w fun e w'=>∃v,e = .returned v∧∃F' R vs,v=gP vs∧CallPost S args rs us w F ow F' R vs w':=by
 have h2:=hm ds rs us hd args w F ow hgl ha hF hO {(default:Oper) with dst:=some 0} {tmps:=#[undef],defers:=[]} (fun a w'=>∃F' R vs,a.tmps.getD 0 undef=gP vs∧CallPost S args rs us w F ow F' R vs w') (fun _ _ _=>False) (fun v w' h=>by
  obtain⟨F',R,vs,rfl,h⟩:=h;exact⟨F',R,vs,by simp [Act.put],h⟩)
 rw [he,Oper.upon_enter] at h2;refine Calls.mono h2 fun e w' he=>?_
 cases e with
 | returned v =>
  obtain⟨F',R,vs,h3,h4⟩:=he;exact⟨v,rfl,F',R,vs,by simpa [Act.put] using h3,h4⟩
 | panicked c=>exact he.elim
 | outgrown=>obtain⟨_,_,h⟩:=he;exact h.elim
theorem lC {P:Program} {G:List (Nat × (Obj→Prop))} {f:FuncId} {S:FS} (he:∀args w,(callFunc f args).run P w = .ok (.enter f args) w) (hm:ay G P f S) {ds:List D} {y:Value} (f':List D→Option Out) (hf':S.f=f') (hd:f' ds=some (.ret [.v y] [])) (hrm:S.rm=[.dat 0]) {args:Array Value} {w:World} {F:Nat→Prop}
  (hgl:gOk G w F) (ha:dN w F (fun _=>none) 0 S.pm ds args.toList) (hF:∀b,F b→b<w.heap.size):Calls P f args w fun e w'=>e = .returned y∧Below w.heap.size w w':=by
 refine(ng he hm (hf' ▸ hd) hgl ha (fun b hb=>⟨hF b hb,rfl⟩) (fun b i h=>by cases h)).mono ?_
 rintro e w' ⟨v,rfl,F',R,vs,rfl,hpost⟩;have hl:=hpost.len;rw [hrm] at hl;obtain⟨u,rfl⟩:=List.length_eq_one_iff.1 hl;have h0:=hpost.res 0;rw [hrm] at h0;simp only [ah,nth,List.getD_cons_zero] at h0;rcases h0 with h0 | h0
 ·cases h0
 exact⟨by rw [gP,(fd.1 h0).1],⟨hpost.os,hpost.tape,hpost.output,hpost.size,fun b hb=>hpost.keep b hb rfl⟩⟩
theorem FT {vs:List Value} (h:vs.length=2):∃a b,vs=[a,b]:=match vs,h with
 | [a,b],_=>⟨a,b,rfl⟩
theorem Ap {f:Nat} {pm:List Kd} {ff:List D→Option Out} {ds:List D} {a b:Value} {args:Array Value} (he:∀args w,(callFunc f args).run Try.prog w = .ok (.enter f args) w) (hm:ay gl0 Try.prog f {pm:=pm,rm:=[.dat 0,.dat 0],f:=ff}) (hd:ff ds=some (.ret [.v a,.v b] [])) {w:World} {F:Nat→Prop}
  (ha:dN w F (fun _=>none) 0 pm ds args.toList) (hF:∀b,F b→b<w.heap.size):Calls Try.prog f args w fun e w'=>e = .returned (.tuple #[a,b])∧Below w.heap.size w w':=by
 refine(ng (ow:=fun _=>none) (F:=F) (ds:=ds) (rs:=[.v a,.v b]) (us:=[]) (args:=args) he hm hd oU ha (fun b hb=>⟨hF b hb,rfl⟩) (fun b i h=>by cases h)).mono ?_
 rintro e w' ⟨v,rfl,F',R,vs,rfl,hp⟩;have hl:=hp.len;obtain⟨u,u2,rfl⟩:=FT (hl.trans rfl);have h0:=hp.res 0;have h1:=hp.res 1;rcases h0 with h0 | h0
 ·cases h0
 rcases h1 with h1 | h1
 ·cases h1
 obtain⟨hu,_⟩:=fd.1 h0;obtain⟨hu2,_⟩:=fd.1 h1;have hu':u=a:=hu;have hu2':u2=b:=hu2;subst hu' hu2';exact⟨rfl,hp.os,hp.tape,hp.output,hp.size,fun b hb=>hp.keep b hb rfl⟩
theorem sB {w:World} {F:Nat→Prop}:∀(l:List Int),bh w F (l.map I) (l.map (Iy .i64))
 | []=>aL.2 rfl
 | x::l=>ax.2 ⟨[.int .i64 x],l.map (Iy .i64),rfl,by simp only [RepC];exact⟨trivial,rfl⟩,sB l⟩
theorem EX {w:World} {F:Nat→Prop} {z:Nat} {l:List D} {y:Value} (h:bj w F (.arr z l) y):∃A c,y = .slice A l.length c:=by
 obtain⟨A,c,us,e,_⟩:=h;simp only [IH,and_true] at e;exact⟨A,c,e⟩
theorem pt {S:FS} {args:Array Value} {d:D} {K:Nat→Prop} {fl:List Value} {v:Value} {w w':World} {F:Nat→Prop} {ow:Nat→Option Nat} (hr:bj w' K d v) (hK:∀b,K b→w.heap.size≤b∧b<w'.heap.size) (hB:Below w.heap.size w w') (hF:∀b,F b→b<w.heap.size∧ow b=none)
  (hio:(S.pm.all fun k=>!lT k)=true) (hl:S.pm.length=args.size) (hrm:S.rm = .dat 1::fl.map fun _=>.dat 0) (hfl:∀x∈fl,flat x=true):∃F' R,CallPost S args (d::fl.map D.v) [] w F ow F' R (v::fl) w':=by
 refine⟨fun b=>K b∨F b,fun _=>none,hB.os,hB.tape,hB.output,hB.size,fun b hb _=>hB.block b hb,fun b hb=>.inr hb,fun b hb=>⟨?_,?_,rfl⟩,(fun b j h=>by cases h),by rw [hrm];simp,by rw [hrm];simp,fun j=>?_,so _ _ hio (by simpa using hl)⟩
 ·rcases hb with hb | hb
  ·exact .inr (hK b hb).1
  ·exact .inl hb
 ·rcases hb with hb | hb
  ·exact(hK b hb).2
  ·exact Jx (hF b hb).1 hB.size
 ·rw [hrm]
  match j with
  | 0=>exact .inr (aO (fun b hb=>⟨.inl hb,(hK b hb).1⟩) (fun _ _=>rfl) hr)
  | j+1 =>
   have key:∀(p:Nat→Prop) (fl:List Value) (j:Nat),(∀x∈fl,flat x=true)→xh w' (fun b=>K b∨F b) w.heap.size p (ah (fl.map fun _=>Kd.dat 0) j) (nth (fl.map D.v) j) (fl.getD j undef):=by
    intro p fl;induction fl with
    | nil=>exact fun j _=>.inl (by cases j<;>rfl)
    | cons x fl ih =>
     intro j hx;cases j with
     | zero=>exact .inr (fd.2 ⟨rfl,hx x (by simp)⟩)
     | succ j=>exact ih j fun y hy=>hx y (by simp [hy])
   exact key _ fl j hfl
theorem xk {α:Type} {w:World} {F:Nat→Prop} (d:α→D) (u:α→Value):∀(l:List α),(∀x∈l,RepC w F (d x) [u x])→bh w F (l.map d) (l.map u)
 | [],_=>aL.2 rfl
 | x::l,h=>ax.2 ⟨[u x],l.map u,rfl,h x (by simp),xk d u l fun y hy=>h y (by simp [hy])⟩
theorem wG {w:World} {F:Nat→Prop} {b c:Nat} {l:List Int} {cur:Array Value} {t:Nat} (hF:F b) (hc:l.length≤c) (hg:w.heap[b]?=some (.cells cur t (0,0))) (hcur:∀(i:Nat) (u:Value),(l.map (Iy .i64))[i]?=some u→cur[i]?=some u):RepC w F (ints l) [.slice (some ⟨b,0,none⟩) l.length c]:=by
 simp only [RepC];refine⟨some ⟨b,0,none⟩,c,l.map (Iy .i64),by rw [Iz],by rw [Iz];exact hc,sB l,fun d hd=>?_,fun _=>⟨b,0,rfl,hF,fun i u hu=>?_⟩⟩
 ·obtain⟨x,_,rfl⟩:=IC.1 hd
  rfl
 ·rw [IU,Jb hg]
  exact hcur i u hu
def EN (g:Nat) (bs:Nat→Nat) (ht:Nat) (b:Nat):Prop:=b=g∨∃y,y<ht∧b=bs y
theorem Grd.rep {W:World} {B g cap wd ht:Nat} {bs cs:Nat→Nat} {f:Gr} (h:Grd W B g cap bs cs wd ht f):bj W (EN g bs ht) (bg (aM wd ht f)) (.slice (some ⟨g,0,none⟩) ht cap):=by
 show RepC W _ (bg (aM wd ht f)) [.slice (some ⟨g,0,none⟩) ht cap]
 simp only [RepC];have hl:((aM wd ht f).map ints).length=ht:=by simp [aM]
 refine⟨some ⟨g,0,none⟩,cap,(II ht).map fun y=>.slice (some ⟨bs y,0,none⟩) wd (cs y),by rw [hl],by rw [hl];exact h.hcap,?_,fun d hd=>?_,fun _=>⟨g,0,rfl,.inl rfl,fun i u hu=>?_⟩⟩
 ·unfold aM
  rw [List.map_map];refine xk _ _ _ fun y hy=>?_
  have hy:=Je.1 hy;obtain⟨_,h2,cur,h3,h4,h5⟩:=h.row y hy;have:=wG (w:=W) (F:=EN g bs ht) (b:=bs y) (c:=cs y) (l:=(II wd).map fun x=>f y x) (.inr ⟨y,hy,rfl⟩) (by simpa using h2) h3 (fun i u hu=>by
   rw [IY,IY] at hu;by_cases hi:i<wd
   ·rw [Jt hi] at hu
    simp only [Jz,IZ] at hu;rw [←hu];exact h5 i hi
   ·rw [Jq (by simp;omega)] at hu
    cases hu)
  rw [Iz,Jl] at this;exact this
 ·obtain⟨x,_,rfl⟩:=IC.1 hd
  rfl
 ·rw [IU]
  by_cases hi:i<ht
  ·rw [IY,Jt hi] at hu
   simp only [Jz,IZ] at hu;rw [←hu];exact h.cell hi
  ·rw [Jq (by simp;omega)] at hu
   cases hu
theorem Grd.blk {W:World} {B g cap wd ht:Nat} {bs cs:Nat→Nat} {f:Gr} (h:Grd W B g cap bs cs wd ht f):∀b,EN g bs ht b→B≤b∧b<W.heap.size:=fun b hb=>by
 rcases hb with rfl | ⟨y,hy,rfl⟩
 ·exact⟨h.hB,h.ltg⟩
 ·exact⟨(h.row y hy).1,h.ltb hy⟩
theorem DP {w:World} {F:Nat→Prop} {l:List Pl} {us:List Value} (h:bh w F (l.map plD) us) {i:Nat} (hi:i<l.length) :
  us[i*4]?=some (.int .i64 l[i].1)∧us[i*4+1]?=some (.int .i64 l[i].2.1)∧us[i*4+2]?=some (.int .i64 l[i].2.2.1)∧us[i*4+3]?=some (.bool l[i].2.2.2):=by
 obtain⟨p,m,q,rfl,hp,hm,hc,_⟩:=mw (z:=4) _ _ h (fun d hd=>by obtain⟨x,_,rfl⟩:=IC.1 hd;rfl) i (plD l[i]) (by simp [hi]);simp only [RepC,ax,aL] at hc;obtain⟨⟨v1,v2,rfl,⟨rfl,_⟩,v3,v4,rfl,⟨rfl,_⟩,v5,v6,rfl,⟨rfl,_⟩,v7,v8,rfl,⟨rfl,_⟩,rfl⟩,_⟩:=hc;refine⟨?_,?_,?_,?_⟩<;>rw [IP,Jd (by omega),hp]<;>simp [show ∀k,i*4+k - i*4=k from fun k=>by omega]
theorem rz {α β:Type} {f:α→β} (hf:∀x y,f x=f y→x=y):∀{a b:List α},a.map f=b.map f→a=b
 | [],[],_=>rfl
 | x::a,y::b,h=>by
  simp only [List.map_cons,IH] at h;rw [hf x y h.1,rz hf h.2]
 | [],_::_,h=>by simp at h
 | _::_,[],h=>by simp at h
theorem Hf:∀{a b:List Pl},pls a=pls b→a=b:=by
 intro a b h;have h1:a.map plD=b.map plD:=(D.arr.inj h).2;refine rz (fun x y e=>?_) h1
 obtain⟨x1,x2,x3,x4⟩:=x;obtain⟨y1,y2,y3,y4⟩:=y;simp only [D.agg.injEq,IH,D.v.injEq,Iy.injEq,JA.injEq,true_and,and_true] at e;obtain⟨rfl,rfl,rfl,rfl⟩:=e;rfl
theorem He:∀{a b:Ps},pcs a=pcs b→a=b:=by
 intro a b h;have h1:a.map pce=b.map pce:=(D.arr.inj h).2;refine rz (fun x y e=>?_) h1
 obtain⟨x1,x2⟩:=x;obtain⟨y1,y2⟩:=y;simp only [D.agg.injEq,IH,D.v.injEq,Iy.injEq,true_and,and_true] at e;obtain⟨rfl,rfl⟩:=e;rfl
theorem Dr {W:World} {F:Nat→Prop} (p:Pl):bj W F (plD p) (DK p):=by
 refine⟨[.int .i64 p.1,.int .i64 p.2.1,.int .i64 p.2.2.1,.bool p.2.2.2],rfl,?_⟩
 simp only [RepC];refine⟨?_,rfl⟩
 exact ax.2 ⟨[_],_,rfl,(by simp only [RepC];exact⟨trivial,rfl⟩),ax.2 ⟨[_],_,rfl,(by simp only [RepC];exact⟨trivial,rfl⟩),ax.2 ⟨[_],_,rfl,(by simp only [RepC];exact⟨trivial,rfl⟩),ax.2 ⟨[_],[],rfl,(by simp only [RepC];exact⟨trivial,rfl⟩),aL.2 rfl⟩⟩⟩⟩
def qv (ps:List Pl):Prop:=ps.length≤1048576∧∀p∈ps,(-1000000≤p.2.1∧p.2.1≤1000000)∧(-1000000≤p.2.2.1∧p.2.2.1≤1000000)
def oO (w h:Int) (l:Ps) (ps:List Pl):D:=match cG w h l ps with
 | none=>.arr 1 []
 | some f=>bg (aM w.toNat h.toNat f)
def gZ (w h:Int) (l:Ps) (ps:List Pl):Bool:=(cG w h l ps).isSome
open Classical in
def gY (ds:List D):Option Out:=if h:∃(x:Int × Int × Ps × List Pl),ds=[I x.1,I x.2.1,pcs x.2.2.1,pls x.2.2.2]∧x.2.2.1.length≤1048576∧qv x.2.2.2 then some (.ret [oO (IB h).1 (IB h).2.1 (IB h).2.2.1 (IB h).2.2.2,B (gZ (IB h).1 (IB h).2.1 (IB h).2.2.1 (IB h).2.2.2)] []) else none
theorem kP (w h:Int) (l:Ps) (ps:List Pl) (hl:l.length≤1048576) (hp:qv ps):gY [I w,I h,pcs l,pls ps]=some (.ret [oO w h l ps,B (gZ w h l ps)] []):=by
 have hh:∃(x:Int × Int × Ps × List Pl),[I w,I h,pcs l,pls ps]=[I x.1,I x.2.1,pcs x.2.2.1,pls x.2.2.2]∧x.2.2.1.length≤1048576∧qv x.2.2.2:=⟨(w,h,l,ps),rfl,hl,hp⟩
 unfold gY;rw [dif_pos hh];have h2:=(Jr hh).1;generalize IB hh=x at *;obtain⟨w',h',l',ps'⟩:=x;simp only [IH,and_true] at h2;obtain⟨e1,e2,e3,e4⟩:=h2;have e1':w=w':=by simpa using e1
 have e2':h=h':=by simpa using e2
 have e3':=He (a:=l) (b:=l') e3;have e4':=Hf (a:=ps) (b:=ps') e4;subst e1' e2' e3' e4';rfl
@[reducible] def bL:FS:={pm:=[.dat 0,.dat 0,.dat 2,.dat 2],rm:=[.dat 1,.dat 0],f:=gY}
theorem CL {w:World} {F:Nat→Prop} {ow:Nat→Option Nat} {k1 k2 k3 k4:Nat} {d1 d2 d3 d4:D} {args:Array Value} (h:dN w F ow 0 [.dat k1,.dat k2,.dat k3,.dat k4] [d1,d2,d3,d4] args.toList) (h1:d1 ≠ .bad) (h2:d2 ≠ .bad) (h3:d3 ≠ .bad) (h4:d4 ≠ .bad) :
  ∃y1 y2 y3 y4,args=#[y1,y2,y3,y4]∧bj w (FB F 0 k1) d1 y1∧bj w (FB F 0 k2) d2 y2∧bj w (FB F 0 k3) d3 y3∧bj w (FB F 0 k4) d4 y4:=by
 obtain⟨l⟩:=args
 match l,h with
 | [y1,y2,y3,y4],⟨ha,hb,hc,hd,_⟩=>exact⟨y1,y2,y3,y4,rfl,ha.resolve_left h1,hb.resolve_left h2,hc.resolve_left h3,hd.resolve_left h4⟩
theorem dg:ay gl0 Try.prog 30 bL:=by
 have he:∀args w,(callFunc 30 args).run Try.prog w = .ok (.enter 30 args) w:=ID Try.func30 (by kernel_rfl) rfl;refine iu he fun ds rs us hd args w F ow hg ha hF _=>?_
 have hd0:gY ds=some (.ret rs us):=hd;have hh:∃(x:Int × Int × Ps × List Pl),ds=[I x.1,I x.2.1,pcs x.2.2.1,pls x.2.2.2]∧x.2.2.1.length≤1048576∧qv x.2.2.2:=by
  unfold gY at hd0;split at hd0
  ·assumption
  ·cases hd0
 obtain⟨⟨wi,hi,l,ps⟩,rfl,hl,hp⟩:=hh;simp only at hl hp hd0 ha;rw [kP wi hi l ps hl hp] at hd0;simp only [IZ,Out.ret.injEq] at hd0;obtain⟨rfl,rfl⟩:=hd0;obtain⟨y1,y2,y3,y4,rfl,r1,r2,r3,r4⟩:=CL ha (by simp) (by simp) (by simp) (by simp);obtain⟨rfl,_⟩:=fd.1 r1;obtain⟨rfl,_⟩:=fd.1 r2;replace r3:bj w F (pcs l) y3:=r3;replace r4:bj w F (pls ps) y4:=r4;obtain⟨pA,pc,rfl⟩:=EX r3;obtain⟨A,c,rfl⟩:=EX r4;rw [Iz] at r3 r4 ⊢;rw [Iz];have hp3:∀W,Below w.heap.size w W→bj W (fun b=>b<W.heap.size) (pcs l) (.slice pA l.length pc):=fun W hW=>aO (fun b hb=>Jx (hF b hb).1 hW.size) (fun b hb=>hW.block b (hF b hb).1) r3
 refine(Aw w wi hi l ps pA pc A c hp.1 (fun i hi=>?_) (fun W n hW=>?_) (fun W hW=>?_) (fun W x lo hi hW=>?_) (fun hok W p hpm h0 h1 hW=>?_) (fun hok W p wd ht g cap bs cs f hpm h0 h1 hw1 hh1 hw8 hh8 hW hG=>?_)).mono ?_
 ·obtain⟨A',c',us',e,hc,hr,_,hA⟩:=r4
  simp only [IH,and_true,Value.slice.injEq] at e;obtain⟨rfl,_,rfl⟩:=e;obtain⟨b,o,e,hb,hcell⟩:=hA (fun e=>by rw [Ju] at e;subst e;simp at hi);refine⟨b,o,e,(hF b hb).1,fun j p hj=>?_⟩
  have hjl:=(IQ.1 hj).1;obtain⟨q1,q2,q3,q4⟩:=DP hr hjl;rw [(IQ.1 hj).2] at q1 q2 q3 q4;exact⟨hcell _ _ q1,by rw [Jj];exact hcell _ _ q2,by rw [Jj];exact hcell _ _ q3,by rw [Jj];exact hcell _ _ q4⟩
 ·exact lC (ID Try.func53 (by kernel_rfl) rfl) kY cz rfl (gh n) rfl (F:=fun _=>False) oU
   (show gF W _ _ (.dat 0) (I n) (.int .i64 n)∧True from⟨.inr (fd.2 ⟨rfl,rfl⟩),trivial⟩) (fun b hb=>hb.elim)
 ·exact lC (ID Try.func54 (by kernel_rfl) rfl) sj fv rfl (sr l hl) rfl (F:=fun b=>b<W.heap.size) oU
   (show gF W _ _ (.dat 2) (pcs l) (.slice pA l.length pc)∧True from⟨.inr (hp3 W hW),trivial⟩) (fun b hb=>hb)
 ·exact lC (ID Try.func56 (by kernel_rfl) rfl) lN eS rfl (lU x lo hi) rfl (F:=fun _=>False) oU
   (show gF W _ _ (.dat 0) (I x) (.int .i64 x)∧gF W _ _ (.dat 0) (I lo) (.int .i64 lo)∧gF W _ _ (.dat 0) (I hi) (.int .i64 hi)∧True from⟨.inr (fd.2 ⟨rfl,rfl⟩),.inr (fd.2 ⟨rfl,rfl⟩),.inr (fd.2 ⟨rfl,rfl⟩),trivial⟩) (fun b hb=>hb.elim)
 ·have hs:=pQ l p h0 h1
  obtain⟨s1,s2,_⟩:=wO hok h0 h1;rw [←s1,←s2] at hs;exact Ap (ds:=[pcs l,plD p]) (F:=fun b=>b<W.heap.size) (ID Try.func72 (by kernel_rfl) rfl) qa hs
   (show gF W _ _ (.dat 2) (pcs l) (.slice pA l.length pc)∧gF W _ _ (.dat 0) (plD p) (DK p)∧True from⟨.inr (hp3 W hW),.inr (Dr p),trivial⟩) (fun b hb=>hb)
 ·have hb:=hp.2 p hpm
  exact lC (ID Try.func57 (by kernel_rfl) rfl) wl jd rfl (vQ wd ht f l p hok h0 h1 hw1 hh1 hw8 hh8 hb.1 hb.2) rfl (F:=fun b=>b<W.heap.size) oU
   (show gF W _ _ (.dat 2) (bg (aM wd ht f)) (.slice (some ⟨g,0,none⟩) ht cap)∧gF W _ _ (.dat 2) (pcs l) (.slice pA l.length pc)∧gF W _ _ (.dat 0) (plD p) (DK p)∧True from⟨.inr (aO (fun b hb=>(hG.blk b hb).2) (fun _ _=>rfl) hG.rep),.inr (hp3 W hW),.inr (Dr p),trivial⟩) (fun b hb=>hb)
 ·rintro e w' ⟨hB,⟨hno,rfl⟩ | ⟨f,g,cap,bs,cs,hyes,rfl,hG⟩⟩
  ·refine⟨_,rfl,?_⟩
   obtain⟨F',R,hpost⟩:=pt (S:=bL) (args:=#[.int .i64 wi,.int .i64 hi,.slice pA l.length pc,.slice A ps.length c]) (d:=oO wi hi l ps) (K:=fun _=>False) (fl:=[.bool (gZ wi hi l ps)]) (v:=.slice none 0 0) (w':=w') (by
    unfold oO;rw [hno];show RepC _ _ (.arr 1 []) [.slice none 0 0]
    exact qJ) (fun b hb=>hb.elim) hB hF rfl rfl rfl (fun x hx=>by rw [IW.1 hx];rfl)
   exact⟨F',R,_,by unfold gZ;rw [hno];rfl,hpost⟩
  ·refine⟨_,rfl,?_⟩
   obtain⟨F',R,hpost⟩:=pt (S:=bL) (args:=#[.int .i64 wi,.int .i64 hi,.slice pA l.length pc,.slice A ps.length c]) (d:=oO wi hi l ps) (K:=EN g bs hi.toNat) (fl:=[.bool (gZ wi hi l ps)]) (v:=.slice (some ⟨g,0,none⟩) hi.toNat cap) (w':=w') (by
    unfold oO;rw [hyes];exact hG.rep) hG.blk hB hF rfl rfl rfl (fun x hx=>by rw [IW.1 hx];rfl)
   exact⟨F',R,_,by unfold gZ;rw [hyes];rfl,hpost⟩
open Go Go.Proofs Go.V Go.RowKit Go.Lib
set_option maxRecDepth 100000
def tnP (f:Gr) (y x:Nat):Gr:=fun r c=>if c<y∨(c=y∧r<x) then f c r else -1
set_option maxHeartbeats 4000000 in
set_option maxRecDepth 1000000 in
theorem yo (w:World) (wd ht:Nat) (f:Gr) (hw:1≤wd) (hh:1≤ht) (hw8:wd≤8) (hh8:ht≤8) (b o c:Nat) (hb:b<w.heap.size)
  (hA:∀y,y<ht→∃b' o' c',w.cell? ⟨b,o+y,none⟩=some (.slice (some ⟨b',o',none⟩) wd c')∧b'<w.heap.size∧∀x,x<wd→w.cell? ⟨b',o'+x,none⟩=some (.int .i64 (f y x))) :
  Calls Try.prog 38 #[.slice (some ⟨b,o,none⟩) ht c] w fun e w'=>∃g cap bs cs,e = .returned (.slice (some ⟨g,0,none⟩) wd cap)∧Grd w' w.heap.size g cap bs cs ht wd (fun y x=>f x y)∧Below w.heap.size w w':=by
 have hem:=vA ht wd hh8 hw8 w;obtain⟨b0,o0,c0,k0,_⟩:=hA 0 (by omega);have hhi:(0:Int)<(ht:Int):=by omega
 rw [Nat.add_zero] at k0
 go_enter Try.func38,Try.ntmps38
 go_wp2_with (go_at_call 55;refine hem.mono ?_;rintro e w2 ⟨g,cap,bs,cs,rfl,hG,hB⟩)
 have hsB:∀{W:World},Grd W w.heap.size g cap bs cs ht wd (fun _ _=>-1)→∀y,y<wd→w.heap.size≤bs y:=fun h y hy=>(h.row y hy).1
 have hbs:=hsB hG;clear hsB k0 hem
 go_loopw [17] (fun vy wr=>∃y:Nat,vy = .int .i64 y∧y≤ht∧Grd wr w.heap.size g cap bs cs ht wd (tnP f y 0)∧Below w.heap.size w wr) (fun vy _=>ht - (intOf vy).toNat)
 case atStart =>
  refine⟨0,rfl,IX _,hG.congr fun y x _ _=>?_,hB⟩
  unfold tnP;rw [if_neg (by omega)]
 case round =>
  clear hG hB;obtain⟨y,rfl,hyl,hG,hB⟩:=hrel;by_cases hp:y<ht
  ·have hpi:(y:Int)<(ht:Int):=by omega
   obtain⟨b',o',c',k1,hb',k2⟩:=hA y hp;have q1:=(hB.cell hb).trans k1;clear k1;obtain⟨W1,rfl⟩:∃W1,W1=wr:=⟨_,rfl⟩
   go_wp2
   clear q1
   go_loopw [24] (fun vx wr=>∃x:Nat,vx = .int .i64 x∧x≤wd∧Grd wr w.heap.size g cap bs cs ht wd (tnP f y x)∧Below w.heap.size w wr) (fun vx _=>wd - (intOf vx).toNat)
   case atStart=>exact⟨0,rfl,IX _,hG,hB⟩
   case round =>
    clear hG hB;obtain⟨x,rfl,hxl,hG,hB⟩:=hrel;by_cases hq:x<wd
    ·have hqi:(x:Int)<(wd:Int):=by omega
     have e0:=(hB.cell hb').trans (k2 x hq);have e1:=hG.cell hq;have e2:=hG.num hq hp;have e3:=hG.fz hq y;have hS:=(hG.set hq hp (f y x)).congr (f':=tnP f y (x+1)) fun r c hr hc=>by
      unfold tnP;by_cases h1:r=x∧c=y
      ·obtain⟨rfl,rfl⟩:=h1
       rw [if_pos ⟨rfl,rfl⟩,if_pos (by omega)]
      ·rw [if_neg h1]
       by_cases h2:c<y∨(c=y∧r<x)
       ·rw [if_pos h2,if_pos (by omega)]
       ·rw [if_neg h2,if_neg (by omega)]
     have hBS:=hB.trans ((KeptG.set (W:=wr) (v:=.int .i64 (f y x)) (x:=y) (ht:=wd) hq).below hB.size hbs);generalize f y x=n at *
     go_wp2
     refine⟨⟨x+1,congrArg (Iy .i64) (by omega),by omega,hS,hBS⟩,?_⟩
     show wd - ((x:Int)+1).toNat<wd - (x:Int).toNat
     omega
    ·have hqi:¬(x:Int)<(wd:Int):=by omega
     go_wp2
     refine⟨⟨y+1,congrArg (Iy .i64) (by omega),by omega,hG.congr fun r c hr hc=>?_,hB⟩,?_⟩
     ·unfold tnP
      by_cases h1:c<y∨(c=y∧r<x)
      ·rw [if_pos h1,if_pos (by omega)]
      ·rw [if_neg h1,if_neg (by omega)]
     ·show ht - ((y:Int)+1).toNat<ht - (y:Int).toNat
      omega
  ·have hpi:¬(y:Int)<(ht:Int):=by omega
   have hGE:=hG.congr (f':=fun y x=>f x y) fun r c hr hc=>by
    unfold tnP;rw [if_pos (by omega)]
   go_wp2
   go_ret
   exact⟨g,cap,rfl,⟨bs,cs,hGE⟩,hB⟩
open Classical in
def ja (ds:List D):Option Out:=if h:∃(x:Nat × Nat × Gr),ds=[bg (aM x.1 x.2.1 x.2.2)]∧1≤x.1∧x.1≤8∧1≤x.2.1∧x.2.1≤8 then some (.ret [bg (aM (IB h).2.1 (IB h).1 fun y x=>(IB h).2.2 x y)] []) else none
theorem Em {a b:List Int} (h:ints a=ints b):a=b:=rz (fun x y e=>by simpa using e) (D.arr.inj h).2
theorem DI {a b:List (List Int)} (h:bg a=bg b):a=b:=rz (fun x y e=>Em e) (D.arr.inj h).2
theorem zF {wd ht:Nat} {f:Gr} {y:Nat} (hy:y<ht):(aM wd ht f)[y]?=some ((II wd).map fun x=>f y x):=by simp [aM,hy]
theorem ER {wd wd' ht ht':Nat} {f f':Gr} (h1:1≤ht) (h:aM wd ht f=aM wd' ht' f'):ht=ht'∧wd=wd'∧∀y x,y<ht→x<wd→f y x=f' y x:=by
 have e1:ht=ht':=by simpa [aM] using congrArg List.length h
 subst e1;have key:∀y,y<ht→(II wd).map (fun x=>f y x)=(II wd').map fun x=>f' y x:=fun y hy=>by
  have:=congrArg (fun l=>l[y]?) h;simp only [zF hy,IZ] at this;exact this
 have e2:wd=wd':=by simpa using congrArg List.length (key 0 (by omega))
 subst e2;refine⟨rfl,rfl,fun y x hy hx=>?_⟩
 have:=congrArg (fun l=>l[x]?) (key y hy);simpa [hx] using this
theorem Gx {wd ht:Nat} {f f':Gr} (h:∀y x,y<ht→x<wd→f y x=f' y x):aM wd ht f=aM wd ht f':=by
 unfold aM;refine Jv fun y hy=>Jv fun x hx=>h y x (Je.1 hy) (Je.1 hx)
theorem pJ (wd ht:Nat) (f:Gr) (h1:1≤wd) (h2:wd≤8) (h3:1≤ht) (h4:ht≤8):ja [bg (aM wd ht f)]=some (.ret [bg (aM ht wd fun y x=>f x y)] []):=by
 have hh:∃(x:Nat × Nat × Gr),[bg (aM wd ht f)]=[bg (aM x.1 x.2.1 x.2.2)]∧1≤x.1∧x.1≤8∧1≤x.2.1∧x.2.1≤8:=⟨(wd,ht,f),rfl,h1,h2,h3,h4⟩
 unfold ja;rw [dif_pos hh];have h5:=(Jr hh).1;generalize IB hh=x at *;obtain⟨wd',ht',f'⟩:=x;simp only [IH,and_true] at h5;obtain⟨rfl,rfl,h6⟩:=ER h3 (DI h5);simp only;rw [Gx (f:=fun y x=>f' x y) (f':=fun y x=>f x y) fun y x hy hx=>(h6 x y hx hy).symm]
@[reducible] def eR:FS:={pm:=[.dat 2],rm:=[.dat 1],f:=ja}
theorem EQ {w:World} {F:Nat→Prop} {ow:Nat→Option Nat} {k1:Nat} {d1:D} {args:Array Value} (h:dN w F ow 0 [.dat k1] [d1] args.toList) (h1:d1 ≠ .bad):∃y1,args=#[y1]∧bj w (FB F 0 k1) d1 y1:=by
 obtain⟨l⟩:=args
 match l,h with
 | [y1],⟨ha,_⟩=>exact⟨y1,rfl,ha.resolve_left h1⟩
theorem Cq {w:World} {F:Nat→Prop} {l:List Int} {us:List Value} (h:bh w F (l.map I) us) {i:Nat} {x:Int} (hi:l[i]?=some x):us[i]?=some (.int .i64 x):=by
 obtain⟨p,m,q,rfl,hp,hm,hc,_⟩:=mw (z:=1) _ _ h (fun d hd=>by obtain⟨x,_,rfl⟩:=IC.1 hd;rfl) i (I x) (by simp [hi]);simp only [RepC] at hc;obtain⟨rfl,_⟩:=hc;rw [IP,Jd (by omega),hp];simp
theorem AE {w:World} {F:Nat→Prop} {L:List (List Int)} {us:List Value} (h:bh w F (L.map ints) us) {i:Nat} {l:List Int} (hi:L[i]?=some l):∃A c,us[i]?=some (.slice A l.length c)∧l.length≤c∧(l≠[]→∃b o,A=some ⟨b,o,none⟩∧F b∧∀(j:Nat) (x:Int),l[j]?=some x→w.cell? ⟨b,o+j,none⟩=some (.int .i64 x)):=by
 obtain⟨p,m,q,rfl,hp,hm,hc,_⟩:=mw (z:=1) _ _ h (fun d hd=>by obtain⟨x,_,rfl⟩:=IC.1 hd;rfl) i (ints l) (by simp [hi]);simp only [RepC] at hc;obtain⟨A,c,vs,rfl,h1,h2,_,h4⟩:=hc;rw [Iz] at h1;refine⟨A,c,?_,h1,fun hl=>?_⟩
 ·rw [IP,Jd (by omega),hp]
  simp
 ·obtain⟨b,o,e,hF,hcell⟩:=h4 (by simpa using hl)
  exact⟨b,o,e,hF,fun j x hj=>hcell j _ (Cq h2 hj)⟩
theorem iZ:ay gl0 Try.prog 38 eR:=by
 have he:∀args w,(callFunc 38 args).run Try.prog w = .ok (.enter 38 args) w:=ID Try.func38 (by kernel_rfl) rfl;refine iu he fun ds rs us hd args w F ow hg ha hF _=>?_
 have hd0:ja ds=some (.ret rs us):=hd;have hh:∃(x:Nat × Nat × Gr),ds=[bg (aM x.1 x.2.1 x.2.2)]∧1≤x.1∧x.1≤8∧1≤x.2.1∧x.2.1≤8:=by
  unfold ja at hd0;split at hd0
  ·assumption
  ·cases hd0
 obtain⟨⟨wd,ht,f⟩,rfl,h1,h2,h3,h4⟩:=hh;simp only at h1 h2 h3 h4 hd0 ha;rw [pJ wd ht f h1 h2 h3 h4] at hd0;simp only [IZ,Out.ret.injEq] at hd0;obtain⟨rfl,rfl⟩:=hd0;obtain⟨y1,rfl,r1⟩:=EQ ha (by simp);replace r1:RepC w F (bg (aM wd ht f)) [y1]:=r1;simp only [RepC] at r1;obtain⟨A,c,us,e,hc,hr,_,hA⟩:=r1;simp only [IH,and_true] at e;subst e;have hl:((aM wd ht f).map ints).length=ht:=by simp [aM]
 rw [hl] at hc ⊢;obtain⟨b,o,rfl,hb,hcell⟩:=hA (fun e=>by rw [e] at hl;simp at hl;omega);refine(yo w wd ht f h1 h3 h2 h4 b o c (hF b hb).1 fun y hy=>?_).mono ?_
 ·obtain⟨A',c',q1,q2,q3⟩:=AE hr (zF hy)
  obtain⟨b',o',rfl,hb',hx⟩:=q3 (by simp;omega);rw [Iz,Jl] at q1;exact⟨b',o',c',hcell _ _ q1,(hF b' hb').1,fun x hx'=>hx x _ (by simp [hx'])⟩
 ·rintro e w' ⟨g,cap,bs,cs,rfl,hG,hB⟩
  refine⟨_,rfl,?_⟩
  obtain⟨F',R,hpost⟩:=pt (S:=eR) (args:=#[.slice (some ⟨b,o,none⟩) ht c]) (K:=EN g bs wd) (fl:=[]) (v:=.slice (some ⟨g,0,none⟩) wd cap) (w':=w') hG.rep hG.blk hB hF rfl rfl rfl (fun x hx=>by cases hx);exact⟨F',R,_,rfl,hpost⟩
end Go.Proofs.Ytccaheogjpfhjaa

namespace Go.Proofs.Ytccaheogjpfhjaa
open Go Go.Proofs Go.V Go.RowKit
set_option maxRecDepth 100000
def HR:List Int→List Int→Bool
 | x::a,y::b=>if x=y then HR a b else decide (x<y)
 | a,b=>decide (a.length<b.length)
def nxI (s:List Int):Int:=match s.getLast? with
 | none=>0
 | some x=>x+1
def exP (s:List Int) (j:Nat):List (List Int):=((II j).filter fun(k:Nat)=>decide (nxI s≤(k:Int))).map fun(k:Nat)=>s++[(k:Int)]
def stL (n:Nat):Nat→List (List Int)
 | 0=>[[]]
 | i+1=>stL n i++exP ((stL n i).getD i []) n
def chL (n:Nat):Nat→Nat→List (List Int)→Bool
 | 0,i,L=>decide (L.length=i)
 | f+1,i,L=>decide (i<L.length)&&chL n f (i+1) (L++exP (L.getD i []) n)
def dU (n:Nat):List (List Int):=stL n (2 ^ n)
theorem EF (n:Nat):∀(f i:Nat),chL n f i (stL n i)=true→(∀j,i≤j→j<i+f→j<(stL n j).length)∧(stL n (i+f)).length=i+f
 | 0,i,h=>⟨fun j h1 h2=>by omega,by simpa [chL] using h⟩
 | f+1,i,h=>by
  simp only [chL,Jy,decide_eq_true_eq] at h;obtain⟨h1,h2⟩:=EF n f (i+1) h.2;refine⟨fun j h3 h4=>?_,by rw [show i+(f+1)=i+1+f by omega];exact h2⟩
  rcases Nat.eq_or_lt_of_le h3 with rfl | h5
  ·exact h.1
  ·exact h1 j h5 (by omega)
def FK (n m:Nat):List Int:=((II n).filter fun k=>m.testBit k).map fun(k:Nat)=>(k:Int)
def BE (s:List Int):Nat:=(s.map fun k=>2 ^ k.toNat).sum
def Ij (s t:List Int):Bool:=decide (s.length<t.length)||(decide (s.length=t.length)&&HR s t)
def Ef:List (List Int)→Bool
 | []=>true
 | s::l=>l.all (Ij s)&&Ef l
def HQ (n:Nat):Bool:=chL n (2 ^ n) 0 [[]]&&Ef (dU n)&&(dU n).all (fun s=>s.all (fun k=>decide (0≤k∧k<n))&&decide (s.length≤n)&&decide (FK n (BE s)=s)&&decide (BE s<2 ^ n))&&(II (2 ^ n)).all (fun m=>(dU n).contains (FK n m))
theorem Hb:∀n:Nat,n<9→HQ n=true:=by decide +kernel
theorem mA {n:Nat} (hn:n<9):(chL n (2 ^ n) 0 [[]]=true∧Ef (dU n)=true)∧(∀s∈dU n,(∀k∈s,0≤k∧k<n)∧s.length≤n∧FK n (BE s)=s∧BE s<2 ^ n)∧∀m,m<2 ^ n→FK n m∈dU n:=by
 have h:=Hb n hn;simp only [HQ,Jy,List.all_eq_true,decide_eq_true_eq,Je,List.contains_iff_mem] at h;obtain⟨⟨⟨h1,h2⟩,h3⟩,h4⟩:=h;exact⟨⟨h1,h2⟩,fun s hs=>⟨(h3 s hs).1.1.1,(h3 s hs).1.1.2,(h3 s hs).1.2,(h3 s hs).2⟩,h4⟩
theorem Cd {n:Nat} (hn:n<9):(∀j,j<2 ^ n→j<(stL n j).length)∧(dU n).length=2 ^ n:=by
 obtain⟨h1,h2⟩:=EF n (2 ^ n) 0 (mA hn).1.1;exact⟨fun j hj=>h1 j (IX _) (by omega),by simpa [dU] using h2⟩
theorem yM (s:List Int) (j:Nat):exP s (j+1)=exP s j++if nxI s≤(j:Int) then [s++[(j:Int)]] else []:=by
 unfold exP;rw [List.range_succ,List.filter_append,Jg];congr 1
 by_cases h:nxI s≤(j:Int)<;>simp [h]
theorem qG (s:List Int) (j:Nat) (h:(j:Int)≤nxI s):exP s j=[]:=by
 unfold exP;rw [Ju,List.filter_eq_nil_iff];intro k hk;have:=Je.1 hk;simp;omega
theorem AS (n:Nat):∀(d i:Nat),∃r,stL n (i+d)=stL n i++r
 | 0,i=>⟨[],by simp⟩
 | d+1,i=>by
  obtain⟨r,hr⟩:=AS n d i;exact⟨_,by rw [←Jj,stL,hr,IP]⟩
theorem HI {n i:Nat} (hn:n<9) (hi:i<2 ^ n):∃s,(stL n i)[i]?=some s∧s∈dU n:=by
 have h1:=(Cd hn).1 i hi;refine⟨(stL n i)[i],by rw [IJ h1],?_⟩
 obtain⟨r,hr⟩:=AS n (2 ^ n - i) i;rw [show i+(2 ^ n - i)=2 ^ n by omega] at hr;unfold dU;rw [hr];exact List.mem_append_left _ (List.getElem_mem h1)
theorem HE {n:Nat} (hn:n<9) {s:List Int} (hs:s∈dU n):0≤nxI s∧nxI s≤n:=by
 have h:=((mA hn).2.1 s hs).1;unfold nxI;cases hl:s.getLast? with
 | none=>simp
 | some x =>
  have:=h x (List.mem_of_getLast? hl);simp;omega
theorem Bx (s:List Int) (j:Nat) (h:j≤9):(exP s j).length≤9:=by
 unfold exP;rw [Iz];refine IK (List.length_filter_le _ _) ?_
 rw [Jl];exact h
theorem Ht {n i:Nat} (hn:n<9) (hi:i≤2 ^ n):(stL n i).length≤256:=by
 obtain⟨r,hr⟩:=AS n (2 ^ n - i) i;rw [show i+(2 ^ n - i)=2 ^ n by omega] at hr;have h1:=(Cd hn).2;have h2:2 ^ n≤256:=Nat.pow_le_pow_right (by omega) (show n≤8 by omega);unfold dU at h1;rw [hr,IF] at h1;omega
set_option maxHeartbeats 8000000 in
set_option maxRecDepth 1000000 in
theorem xy (n:Nat) (hn:n<9) (w:World):Calls Try.prog 64 #[.int .i64 n] w fun e w'=>∃g cap vs,e = .returned (.slice (some ⟨g,0,none⟩) (dU n).length cap)∧LstO w' w.heap.size (.slice (some ⟨g,0,none⟩) (dU n).length cap) (dU n) vs∧Below w.heap.size w w':=by
 obtain⟨i0,hi,hz0,hz1,hz2⟩:=info_parts DW;obtain⟨i5,hi5,hy0,hy1,hy2⟩:=info_parts EP
 go_enter Try.func64,Try.ntmps64
 go_wp2
 go_loopw [3,4] (fun vL vi wr=>∃(i g cap:Nat) (vs:List Value),vi = .int .i64 i∧i≤2 ^ n∧vL = .slice (some ⟨g,0,none⟩) (stL n i).length cap∧LstO wr w.heap.size vL (stL n i) vs∧Below w.heap.size w wr) (fun _ vi _=>2 ^ n - (intOf vi).toNat)
 case atStart =>
  refine⟨0,w.heap.size+1,1,[.slice (some ⟨w.heap.size,0,none⟩) 0 0],rfl,IX _,rfl,⟨⟨rfl,.inr ⟨_,1,#[.slice (some ⟨w.heap.size,0,none⟩) 0 0],rfl,by omega,eJ _ (by simp),IA _,by unfold maxLen;omega,rfl,rfl⟩⟩,fun i s hi=>?_⟩,(((Jm _ w).alloc (IA _) _).alloc (by simp) _)⟩
  have h0:i=0:=by
   have:=(IQ.1 hi).1;simp [stL] at this;exact this
  subst h0;simp [stL] at hi;subst hi;exact⟨_,rfl,w.heap.size,0,#[],rfl,IA _,ck _ (eJ _ rfl),IA _,IA _,fun i u hu=>by simp at hu⟩
 case round =>
  obtain⟨i,g,cap,vs,rfl,hin,rfl,hL,hbw⟩:=hrel;obtain⟨stlt,stlen⟩:=Cd hn;have hlen:(stL n i).length≤256:=Ht hn hin;by_cases hp:i<2 ^ n
  ·have hpl:i<(stL n i).length:=stlt i hp
   have hpi:(i:Int)<((stL n i).length:Int):=by omega
   obtain⟨s,hs,hsub⟩:=HI hn hp;obtain⟨y,hy,hrow⟩:=hL.cell hs;obtain⟨g1,cap1,cur1,rfl,q1,q2,q3,q4,q5⟩:=hrow;obtain⟨x0,x1⟩:=HE hn hsub;have hsl:=((mA hn).2.1 s hsub).2.1;rcases Nat.eq_zero_or_pos s.length with hs0 | hs0
   ·have hnx:nxI s=0:=by
     rw [List.length_eq_zero_iff.1 hs0];rfl
    rw [hs0] at hy
    go_wp2
    go_loopw [3,5] (fun vL vj wq=>∃(j g cap:Nat) (vs:List Value),vj = .int .i64 j∧nxI s≤j∧j≤n∧vL = .slice (some ⟨g,0,none⟩) (stL n i++exP s j).length cap∧LstO wq w.heap.size vL (stL n i++exP s j) vs∧Below w.heap.size w wq) (fun _ vj _=>n - (intOf vj).toNat)
    case atStart =>
     refine⟨(nxI s).toNat,g,cap,vs,congrArg (Iy .i64) (by omega),by omega,by omega,?_,?_,hbw⟩
     ·rw [qG s _ (by omega),Jh]
     ·rw [qG s _ (by omega),Jh]
      exact hL
    case round =>
     clear hs0;obtain⟨j,g',cap',vs',rfl,j0,j1,rfl,hLj,hbj⟩:=hrel;have hxl:(exP s j).length≤9:=Bx s j (by omega);have hLlen:(stL n i++exP s j).length≤300:=by rw [IF];omega
     have hpl2:i<(stL n i++exP s j).length:=by rw [IF];omega
     have hs2:(stL n i++exP s j)[i]?=some s:=by rw [Jn hpl];exact hs
     have hex:exP s (j+1)=exP s j++[s++[(j:Int)]]:=by rw [yM,if_pos j0]
     have est:j=n→stL n (i+1)=stL n i++exP s j:=fun e=>by rw [e,stL,Jc,hs];rfl
     have hsx:stL n i++exP s (j+1)=(stL n i++exP s j)++[s++[(j:Int)]]:=by rw [hex,IP]
     generalize stL n i++exP s j=L at *;by_cases hjn:j<n
     ·have hjn':(j:Int)<(n:Int):=by omega
      obtain⟨y',hy',hrow2⟩:=hLj.cell hs2;obtain⟨g3,cap3,cur3,rfl,r1,r2,r3,r4,r5⟩:=hrow2;have hpi2:(i:Int)<(L.length:Int):=by omega
      have hg3:g3<wr.heap.size:=(IM.1 r2).1;have hlen2:(s++[(j:Int)]).length=s.length+1:=by simp
      have hn1:∀(k:Nat) (u:Value),(s.map (Iy .i64))[k]?=some u→(wr.alloc (.cells #[] 3)).cell? ((⟨g3,0,none⟩:Addr).add k)=some u:=fun k u hu=>by
       rw [lG,Jb (ck _ r2)];exact r5 k u hu
      have hn2:∀u∈s.map (Iy .i64),u.oneCell'=true:=fun u hu=>by
       obtain⟨x,_,rfl⟩:=IC.1 hu;rfl
      have hmx:s.length+1≤maxLen:=by unfold maxLen;omega
      have hmx3:L.length+1≤maxLen:=by unfold maxLen;omega
      have hyc:=(sw (o:=.cells #[] 3) hy')
      go_wp2_with (first
       | (at_builtin;refine wpList_append_own _ rfl _ _ 26 rfl wr.heap.size 3 i0 (.int .i64 0) 1 8 Try.underlying26 hi hz0 hz1 hz2 rfl (by decide) (.slice (some ⟨wr.heap.size,0,none⟩) 0 0) 0 [] rfl ⟨rfl,.inr ⟨_,0,#[],rfl,IA _,eJ _ rfl,IA _,IX _,rfl,rfl⟩⟩ ⟨g3,0,none⟩ s.length cap3 (s.map (Iy .i64)) rfl (by rw [Iz,Nat.mul_one]) hn1 hn2 (by omega) (by omega) (IE wr _ none).size ?_;intro v1 w3 hown1 hgrow1 hnil1;rw [IU,JB] at hown1;have bw3:Below wr.heap.size wr w3:=((Jm _ wr).alloc (IA _) _).grown hgrow1 (IE wr _ none).size (fun k hk=>by have:wr.heap.size=k:=JC hk;omega);have hne1:v1 ≠ .slice none 0 0:=fun e=>by simpa using (hnil1.1 e).1)
       | (at_builtin;refine wpList_append_own _ rfl _ _ 26 rfl wr.heap.size 3 i0 (.int .i64 0) 1 8 Try.underlying26 hi hz0 hz1 hz2 rfl (by decide) v1 _ _ rfl (hown1.alloc _) ⟨w3.heap.size,0,none⟩ 1 1 [.int .i64 j] rfl rfl (cell_one_new _ _ _) (by intro u hu;simp at hu;subst hu;rfl) hmx (by omega) (IK bw3.size (IE w3 _ none).size) ?_;intro v2 w4 hown2 hgrow2 hnil2;have bw4:Below wr.heap.size wr w4:=(bw3.alloc bw3.size _).grown hgrow2 (IK bw3.size (IE w3 _ none).size) (fun k hk=>(hown1.lt k hk).1);have hne2:v2 ≠ .slice none 0 0:=fun e=>hne1 (hnil2.1 e).1;have hr4:iX w4 w.heap.size v2 (s++[(j:Int)]):=iX.of (b:=wr.heap.size) (by rw [hlen2,Jg];exact hown2) hbj.size hne2;obtain⟨g5,cap5,cur5,ev,t1,t2,t3,t4,t5⟩:=hr4;rw [hlen2] at ev;subst ev;have bw5:Below wr.heap.size wr (w4.alloc (.cells #[.slice (some ⟨g5,0,none⟩) (s.length+1) cap5] 26)):=bw4.alloc bw4.size _;have hL5:=hLj.below bw5;have hr5:iX (w4.alloc (.cells #[.slice (some ⟨g5,0,none⟩) (s.length+1) cap5] 26)) w.heap.size (.slice (some ⟨g5,0,none⟩) (s.length+1) cap5) (s++[(j:Int)]):=⟨g5,cap5,cur5,by rw [hlen2],t1,ck _ t2,t3,t4,t5⟩)
       | (at_builtin;refine wpList_append_own _ rfl _ _ 46 rfl w.heap.size 26 i5 (.slice none 0 0) 1 24 Try.underlying46 hi5 hy0 hy1 hy2 rfl (by decide) (.slice (some ⟨g',0,none⟩) L.length cap') _ _ rfl hL5.own ⟨w4.heap.size,0,none⟩ 1 1 [.slice (some ⟨g5,0,none⟩) (s.length+1) cap5] rfl rfl (cell_one_new _ _ _) (by intro u hu;simp at hu;subst hu;rfl) hmx3 (by omega) (IK hbj.size bw5.size) ?_;intro v6 w6 hown6 hgrow6 hnil6;have hL6:=hL5.grow hr5 hown6 hgrow6;have hb6:=(hbj.trans (bw5.mono hbj.size)).grown hgrow6 (IK hbj.size bw5.size) (fun k hk=>(hL5.own.lt k hk).1);obtain⟨g6,cap6,rfl⟩:=mv hown6))
      rw [←hsx] at hL6;refine⟨⟨j+1,g6,cap6,_,congrArg (Iy .i64) (by omega),by omega,by omega,?_,hL6,hb6⟩,?_⟩
      ·rw [hsx,IF]
       rfl
      ·show n - ((j:Int)+1).toNat<n - (j:Int).toNat
       omega
     ·have hjn':¬(j:Int)<(n:Int):=by omega
      have ej:j=n:=by omega
      subst ej;have est:=est rfl
      go_wp2
      refine⟨⟨i+1,g',cap',vs',congrArg (Iy .i64) (by omega),by omega,?_,?_,hbj⟩,?_⟩
      ·rw [est]
      ·rw [est]
       exact hLj
      ·show 2 ^ j - ((i:Int)+1).toNat<2 ^ j - (i:Int).toNat
       omega
   ·obtain⟨m,hm⟩:∃m,s.length=m+1:=⟨s.length - 1,by omega⟩
    obtain⟨x,hx⟩:∃x,s[m]?=some x:=⟨s[m],by rw [IJ]⟩
    have hnx:nxI s=x+1:=by
     unfold nxI;rw [List.getLast?_eq_getElem?,show s.length - 1=m by omega,hx]
    have hcx:wr.cell? ⟨g1,m,none⟩=some (.int .i64 x):=by
     rw [Jb q2];exact q5 m _ (by rw [IY,hx];rfl)
    rw [hm] at hy;have hm1:(0:Int)<((m+1:Nat):Int):=by omega
    have hw:x+1≤9:=by omega
    have hw0:0≤x+1:=by omega
    go_wp2
    go_loopw [3,5] (fun vL vj wq=>∃(j g cap:Nat) (vs:List Value),vj = .int .i64 j∧nxI s≤j∧j≤n∧vL = .slice (some ⟨g,0,none⟩) (stL n i++exP s j).length cap∧LstO wq w.heap.size vL (stL n i++exP s j) vs∧Below w.heap.size w wq) (fun _ vj _=>n - (intOf vj).toNat)
    case atStart =>
     refine⟨(nxI s).toNat,g,cap,vs,congrArg (Iy .i64) (by omega),by omega,by omega,?_,?_,hbw⟩
     ·rw [qG s _ (by omega),Jh]
     ·rw [qG s _ (by omega),Jh]
      exact hL
    case round =>
     clear hm;obtain⟨j,g',cap',vs',rfl,j0,j1,rfl,hLj,hbj⟩:=hrel;have hxl:(exP s j).length≤9:=Bx s j (by omega);have hLlen:(stL n i++exP s j).length≤300:=by rw [IF];omega
     have hpl2:i<(stL n i++exP s j).length:=by rw [IF];omega
     have hs2:(stL n i++exP s j)[i]?=some s:=by rw [Jn hpl];exact hs
     have hex:exP s (j+1)=exP s j++[s++[(j:Int)]]:=by rw [yM,if_pos j0]
     have est:j=n→stL n (i+1)=stL n i++exP s j:=fun e=>by rw [e,stL,Jc,hs];rfl
     have hsx:stL n i++exP s (j+1)=(stL n i++exP s j)++[s++[(j:Int)]]:=by rw [hex,IP]
     generalize stL n i++exP s j=L at *;by_cases hjn:j<n
     ·have hjn':(j:Int)<(n:Int):=by omega
      obtain⟨y',hy',hrow2⟩:=hLj.cell hs2;obtain⟨g3,cap3,cur3,rfl,r1,r2,r3,r4,r5⟩:=hrow2;have hpi2:(i:Int)<(L.length:Int):=by omega
      have hg3:g3<wr.heap.size:=(IM.1 r2).1;have hlen2:(s++[(j:Int)]).length=s.length+1:=by simp
      have hn1:∀(k:Nat) (u:Value),(s.map (Iy .i64))[k]?=some u→(wr.alloc (.cells #[] 3)).cell? ((⟨g3,0,none⟩:Addr).add k)=some u:=fun k u hu=>by
       rw [lG,Jb (ck _ r2)];exact r5 k u hu
      have hn2:∀u∈s.map (Iy .i64),u.oneCell'=true:=fun u hu=>by
       obtain⟨x,_,rfl⟩:=IC.1 hu;rfl
      have hmx:s.length+1≤maxLen:=by unfold maxLen;omega
      have hmx3:L.length+1≤maxLen:=by unfold maxLen;omega
      have hyc:=(sw (o:=.cells #[] 3) hy')
      go_wp2_with (first
       | (at_builtin;refine wpList_append_own _ rfl _ _ 26 rfl wr.heap.size 3 i0 (.int .i64 0) 1 8 Try.underlying26 hi hz0 hz1 hz2 rfl (by decide) (.slice (some ⟨wr.heap.size,0,none⟩) 0 0) 0 [] rfl ⟨rfl,.inr ⟨_,0,#[],rfl,IA _,eJ _ rfl,IA _,IX _,rfl,rfl⟩⟩ ⟨g3,0,none⟩ s.length cap3 (s.map (Iy .i64)) rfl (by rw [Iz,Nat.mul_one]) hn1 hn2 (by omega) (by omega) (IE wr _ none).size ?_;intro v1 w3 hown1 hgrow1 hnil1;rw [IU,JB] at hown1;have bw3:Below wr.heap.size wr w3:=((Jm _ wr).alloc (IA _) _).grown hgrow1 (IE wr _ none).size (fun k hk=>by have:wr.heap.size=k:=JC hk;omega);have hne1:v1 ≠ .slice none 0 0:=fun e=>by simpa using (hnil1.1 e).1)
       | (at_builtin;refine wpList_append_own _ rfl _ _ 26 rfl wr.heap.size 3 i0 (.int .i64 0) 1 8 Try.underlying26 hi hz0 hz1 hz2 rfl (by decide) v1 _ _ rfl (hown1.alloc _) ⟨w3.heap.size,0,none⟩ 1 1 [.int .i64 j] rfl rfl (cell_one_new _ _ _) (by intro u hu;simp at hu;subst hu;rfl) hmx (by omega) (IK bw3.size (IE w3 _ none).size) ?_;intro v2 w4 hown2 hgrow2 hnil2;have bw4:Below wr.heap.size wr w4:=(bw3.alloc bw3.size _).grown hgrow2 (IK bw3.size (IE w3 _ none).size) (fun k hk=>(hown1.lt k hk).1);have hne2:v2 ≠ .slice none 0 0:=fun e=>hne1 (hnil2.1 e).1;have hr4:iX w4 w.heap.size v2 (s++[(j:Int)]):=iX.of (b:=wr.heap.size) (by rw [hlen2,Jg];exact hown2) hbj.size hne2;obtain⟨g5,cap5,cur5,ev,t1,t2,t3,t4,t5⟩:=hr4;rw [hlen2] at ev;subst ev;have bw5:Below wr.heap.size wr (w4.alloc (.cells #[.slice (some ⟨g5,0,none⟩) (s.length+1) cap5] 26)):=bw4.alloc bw4.size _;have hL5:=hLj.below bw5;have hr5:iX (w4.alloc (.cells #[.slice (some ⟨g5,0,none⟩) (s.length+1) cap5] 26)) w.heap.size (.slice (some ⟨g5,0,none⟩) (s.length+1) cap5) (s++[(j:Int)]):=⟨g5,cap5,cur5,by rw [hlen2],t1,ck _ t2,t3,t4,t5⟩)
       | (at_builtin;refine wpList_append_own _ rfl _ _ 46 rfl w.heap.size 26 i5 (.slice none 0 0) 1 24 Try.underlying46 hi5 hy0 hy1 hy2 rfl (by decide) (.slice (some ⟨g',0,none⟩) L.length cap') _ _ rfl hL5.own ⟨w4.heap.size,0,none⟩ 1 1 [.slice (some ⟨g5,0,none⟩) (s.length+1) cap5] rfl rfl (cell_one_new _ _ _) (by intro u hu;simp at hu;subst hu;rfl) hmx3 (by omega) (IK hbj.size bw5.size) ?_;intro v6 w6 hown6 hgrow6 hnil6;have hL6:=hL5.grow hr5 hown6 hgrow6;have hb6:=(hbj.trans (bw5.mono hbj.size)).grown hgrow6 (IK hbj.size bw5.size) (fun k hk=>(hL5.own.lt k hk).1);obtain⟨g6,cap6,rfl⟩:=mv hown6))
      rw [←hsx] at hL6;refine⟨⟨j+1,g6,cap6,_,congrArg (Iy .i64) (by omega),by omega,by omega,?_,hL6,hb6⟩,?_⟩
      ·rw [hsx,IF]
       rfl
      ·show n - ((j:Int)+1).toNat<n - (j:Int).toNat
       omega
     ·have hjn':¬(j:Int)<(n:Int):=by omega
      have ej:j=n:=by omega
      subst ej;have est:=est rfl
      go_wp2
      refine⟨⟨i+1,g',cap',vs',congrArg (Iy .i64) (by omega),by omega,?_,?_,hbj⟩,?_⟩
      ·rw [est]
      ·rw [est]
       exact hLj
      ·show 2 ^ j - ((i:Int)+1).toNat<2 ^ j - (i:Int).toNat
       omega
  ·have est:stL n i=dU n:=by
    have ei:i=2 ^ n:=by omega
    rw [ei];rfl
   have hpi:¬(i:Int)<((stL n i).length:Int):=by
    rw [est];omega
   rw [est] at hL hpi ⊢;clear stlen est hlen stlt
   go_wp2
   go_ret
   exact⟨g,cap,rfl,⟨vs,hL⟩,hbw⟩
set_option maxRecDepth 100000
theorem Au {w:World} {F:Nat→Prop} {z:Type} (d:z→D):∀(L:List z) (vs:List Value),vs.length=L.length→(∀(i:Nat) (x:z),L[i]?=some x→∃y,vs[i]?=some y∧RepC w F (d x) [y])→bh w F (L.map d) vs
 | [],vs,h,_=>aL.2 (List.length_eq_zero_iff.1 h)
 | x::L,[],h,_=>by cases h
 | x::L,v::vs,h,hx=>by
  obtain⟨y,h1,h2⟩:=hx 0 x rfl;cases h1;exact ax.2 ⟨[v],vs,rfl,h2,Au d L vs (by simpa using h) fun i a hi=>hx (i+1) a hi⟩
theorem iX.repC {W:World} {B:Nat} {v:Value} {l:List Int} (h:iX W B v l):RepC W (fun b=>B≤b∧b<W.heap.size) (ints l) [v]:=by
 obtain⟨g,cap,cur,rfl,h2,h3,h4,h5,h6⟩:=h;exact wG ⟨h2,cX h3⟩ h4 h3 h6
theorem LstO.rep {W:World} {B g cap:Nat} {L:List (List Int)} {vs:List Value} (h:LstO W B (.slice (some ⟨g,0,none⟩) L.length cap) L vs):bj W (fun b=>B≤b∧b<W.heap.size) (bg L) (.slice (some ⟨g,0,none⟩) L.length cap):=by
 show RepC W _ (bg L) [.slice (some ⟨g,0,none⟩) L.length cap]
 simp only [RepC];have hlen:vs.length=L.length:=by simpa using h.own.1
 obtain⟨hB,hg,hc⟩:B≤g∧g<W.heap.size∧L.length≤cap:=by
  obtain⟨_,⟨hv,_⟩ | ⟨g',cap',cur,hv,hge,hg,hcap,_⟩⟩:=h.own
  ·cases hv
  ·cases hv
   exact⟨hge,cX hg,hcap⟩
 refine⟨some ⟨g,0,none⟩,cap,vs,by rw [Iz],by rw [Iz];exact hc,Au _ _ _ hlen fun i x hi=>?_,fun d hd=>?_,fun _=>⟨g,0,rfl,⟨hB,hg⟩,fun i u hu=>?_⟩⟩
 ·obtain⟨y,h1,h2⟩:=h.row i x hi
  exact⟨y,h1,h2.repC⟩
 ·obtain⟨x,_,rfl⟩:=IC.1 hd
  rfl
 ·have hi:i<L.length:=by have:=(IQ.1 hu).1;omega
  obtain⟨y,h1,h2⟩:=h.cell (IJ hi);obtain⟨y',h3,_⟩:=h.row i _ (IJ hi);rw [IU];have h4:=h.own.cells (g:=g) rfl i u hu;rw [lG] at h4;exact h4
def mE:List D→Option Out
 | [.v (.int .i64 n)]=>if 0≤n∧n<9 then some (.ret [bg (dU n.toNat)] []) else none
 | _=>none
theorem uB (n:Nat) (h:n<9):mE [I (n:Int)]=some (.ret [bg (dU n)] []):=by
 simp -implicitDefEqProofs only [mE];rw [if_pos (by omega),Jk]
@[reducible] def lh:FS:={pm:=[.dat 0],rm:=[.dat 1],f:=mE}
theorem uV:ay gl0 Try.prog 64 lh:=by
 have he:∀args w,(callFunc 64 args).run Try.prog w = .ok (.enter 64 args) w:=ID Try.func64 (by kernel_rfl) rfl;refine iu he fun ds rs us hd args w F ow hg ha hF _=>?_
 obtain⟨d,y,rfl,h2,h3⟩:=yU ha;replace hd:mE [d]=some (.ret rs us):=hd;unfold mE at hd;split at hd
 case h_2=>cases hd
 rename_i n e;cases e;split at hd
 case isFalse=>cases hd
 rename_i hn;cases hd;obtain⟨rfl,_⟩:=Iq h3;obtain⟨k,rfl⟩:∃k:Nat,n=k:=⟨n.toNat,by omega⟩
 have hargs:args=#[.int .i64 (k:Int)]:=Array.ext' h2;subst hargs;rw [Jk];refine(xy k (by omega) w).mono ?_
 rintro e w' ⟨g,cap,vs,rfl,hL,hB⟩;refine⟨_,rfl,?_⟩
 obtain⟨F',R,hpost⟩:=pt (S:=lh) (args:=#[.int .i64 (k:Int)]) (K:=fun b=>w.heap.size≤b∧b<w'.heap.size) (fl:=[]) (v:=.slice (some ⟨g,0,none⟩) (dU k).length cap) (w':=w') hL.rep (fun b hb=>hb) hB hF rfl rfl rfl (fun x hx=>by cases hx);exact⟨F',R,_,rfl,hpost⟩
end Go.Proofs.Ytccaheogjpfhjaa

namespace Go.Proofs
open Go.Shelf
set_option maxRecDepth 100000
def Try.lays191_ren:Go.Shelf.Ren:=⟨fun | 191=>59 | 189=>73 | 125=>77 | 257=>76 | 128=>87 | 129=>88 | 294=>78 | 295=>79 | 296=>80 | 297=>81 | 298=>82 | 299=>83 | 216=>84 | 300=>85 | 301=>86 | 328=>89 | 329=>90 | 330=>91 | 331=>92 | 332=>93 | 215=>94 | 343=>95 | n=>n,fun | 28=>26 | 0=>0 | 3=>3 | 46=>92 | 51=>104 | 53=>41 | 4=>4 | 183=>97 | 182=>96 | 131=>101 | 5=>5 | 9=>9 | 218=>106 | 222=>110 | 228=>112 | 229=>78 | n=>n,fun | n=>n⟩
theorem Try.lays191:Go.Proofs.Lays.n191 Try.prog Try.lays191_ren:={
 mixed:=by kernel_rfl
 f125:=Try.func77.trans (congrArg some (by kernel_rfl))
 f128:=Try.func87.trans (congrArg some (by kernel_rfl))
 f129:=Try.func88.trans (congrArg some (by kernel_rfl))
 f189:=Try.func73.trans (congrArg some (by kernel_rfl))
 f191:=Try.func59.trans (congrArg some (by kernel_rfl))
 f215:=Try.func94.trans (congrArg some (by kernel_rfl))
 f216:=Try.func84.trans (congrArg some (by kernel_rfl))
 f257:=Try.func76.trans (congrArg some (by kernel_rfl))
 f294:=Try.func78.trans (congrArg some (by kernel_rfl))
 f295:=Try.func79.trans (congrArg some (by kernel_rfl))
 f296:=Try.func80.trans (congrArg some (by kernel_rfl))
 f297:=Try.func81.trans (congrArg some (by kernel_rfl))
 f298:=Try.func82.trans (congrArg some (by kernel_rfl))
 f299:=Try.func83.trans (congrArg some (by kernel_rfl))
 f300:=Try.func85.trans (congrArg some (by kernel_rfl))
 f301:=Try.func86.trans (congrArg some (by kernel_rfl))
 f328:=Try.func89.trans (congrArg some (by kernel_rfl))
 f329:=Try.func90.trans (congrArg some (by kernel_rfl))
 f330:=Try.func91.trans (congrArg some (by kernel_rfl))
 f331:=Try.func92.trans (congrArg some (by kernel_rfl))
 f332:=Try.func93.trans (congrArg some (by kernel_rfl))
 f343:=Try.func95.trans (congrArg some (by kernel_rfl))
 t0:=Try.underlying0
 a0:=Try.isAgg0
 z0:=Try.sizeOf0
 v0:=Try.zeroValue0
 t3:=Try.underlying3
 a3:=Try.isAgg3
 z3:=Try.sizeOf3
 v3:=Try.zeroValue3
 t4:=Try.underlying4
 a4:=Try.isAgg4
 z4:=Try.sizeOf4
 v4:=Try.zeroValue4
 t5:=Try.underlying5
 a5:=Try.isAgg5
 z5:=Try.sizeOf5
 v5:=Try.zeroValue5
 t9:=Try.underlying9
 a9:=Try.isAgg9
 z9:=Try.sizeOf9
 v9:=Try.zeroValue9
 t28:=Try.underlying26
 a28:=Try.isAgg26
 z28:=Try.sizeOf26
 v28:=Try.zeroValue26
 t46:=Try.underlying92
 a46:=Try.isAgg92
 z46:=Try.sizeOf92
 v46:=Try.zeroValue92
 t51:=Try.underlying104
 a51:=Try.isAgg104
 z51:=Try.sizeOf104
 v51:=Try.zeroValue104
 t53:=Try.underlying41
 a53:=Try.isAgg41
 z53:=Try.sizeOf41
 v53:=Try.zeroValue41
 t131:=Try.underlying101
 a131:=Try.isAgg101
 z131:=Try.sizeOf101
 v131:=Try.zeroValue101
 t182:=Try.underlying96
 a182:=Try.isAgg96
 z182:=Try.sizeOf96
 v182:=Try.zeroValue96
 t183:=Try.underlying97
 a183:=Try.isAgg97
 z183:=Try.sizeOf97
 v183:=Try.zeroValue97
 t218:=Try.underlying106
 a218:=Try.isAgg106
 z218:=Try.sizeOf106
 v218:=Try.zeroValue106
 t222:=Try.underlying110
 a222:=Try.isAgg110
 z222:=Try.sizeOf110
 v222:=Try.zeroValue110
 t228:=Try.underlying112
 a228:=Try.isAgg112
 z228:=Try.sizeOf112
 v228:=Try.zeroValue112
 t229:=Try.underlying78
 a229:=Try.isAgg78
 z229:=Try.sizeOf78
 v229:=Try.zeroValue78}
end Go.Proofs

namespace Go.Proofs.Ytccaheogjpfhjaa
open Go Go.Proofs Go.V Go.RowKit Go.Sort
set_option maxRecDepth 100000
def inI (x:Int):Prop:=-9223372036854775808≤x∧x≤9223372036854775807
instance (x:Int):Decidable (inI x):=by unfold inI;infer_instance
def AU (l:List Int):List Int:=l.mergeSort fun x y=>decide (x≤y)
theorem yT (l:List Int):(AU l).length=l.length:=List.length_mergeSort l
theorem xo {w:World} {g off n:Nat} {os:Array Obj} {dk:Array Int} {cur:Array Value} {t:Nat} (hg:w.heap[g]?=some (.cells cur t (0,0))) (hs:off+dk.size≤cur.size) :
  ∃cur',(grow (putRow (Iy .i64) (Go.Sort.ahead w n) g off dk) os).heap[g]?=some (.cells cur' t (0,0))∧cur'.size=cur.size∧∀(i:Nat) (u:Value),(dk.toList.map (Iy .i64))[i]?=some u→cur'[off+i]?=some u:=by
 have hb:g<w.heap.size:=(IM.1 hg).1;refine⟨Jo (Iy .i64) off dk cur,?_,by simp [Jo],fun i u hu=>?_⟩
 ·rw [heap_grow_old _ _ (by rw [size_putRow];exact hb)]
  unfold putRow mapBlock;show(w.heap.modify g _)[g]?=_
  rw [Array.getElem?_modify,if_pos rfl,hg];rfl
 ·simp only [IY,Option.map_eq_some_iff] at hu
  obtain⟨x,hx,rfl⟩:=hu;rw [Array.getElem?_toList] at hx;obtain⟨hi,hx⟩:=IM.1 hx;have hic:off+i<cur.size:=by omega
  unfold Jo;rw [Array.getElem?_mapIdx,Array.getElem?_eq_getElem hic];simp [hi,hx]
theorem wA {w:World} {g off n:Nat} {os:Array Obj} {dk:Array Int} {k:Nat} (hk:k<w.heap.size) (hne:k≠g):(grow (putRow (Iy .i64) (Go.Sort.ahead w n) g off dk) os).heap[k]?=w.heap[k]?:=by
 rw [heap_grow_old _ _ (by rw [size_putRow];exact hk)];unfold putRow mapBlock;show(w.heap.modify g _)[k]?=_
 rw [Array.getElem?_modify,if_neg (fun e=>hne e.symm)]
set_option maxRecDepth 100000
section
variable {P:Program} (w:World) {ops:Array Oper} {rest:List Oper} {o:Oper} {a:Act} {Q:Exit→Act→World→Prop}
theorem tj (hg:o.guard=none) (m:Operand) (t:TypeId) (hop:o.op=Op.range t m) (k e:TypeId) (ht:P.underlying t=some (.map k e)) (b:Nat) (es:Array MapEntry) (clock:Nat)
  (hm:a.eval m = .map (some b)) (hb:w.heap[b]?=some (.map es clock)) (hK:wpList P ops Q rest (a.put o.dst (.pointer (some ⟨w.heap.size,0,none⟩))) (w.alloc (.mapIter (some b) clock #[] clock))):wpList P ops Q (o::rest) a w:=by
 refine wpList_plain hg fun K' hK'=>?_
 have hrun:=run_range_map (P:=P) w t k e b es clock ht hb;unfold JE;simp [execOp,hop,hm,hrun,Ja];exact hK' _ _ hK
theorem sk (hg:o.guard=none) (m:Operand) (t:TypeId) (hop:o.op=Op.range t m) (k e:TypeId) (ht:P.underlying t=some (.map k e))
  (hm:a.eval m = .map none) (hK:wpList P ops Q rest (a.put o.dst (.pointer (some ⟨w.heap.size,0,none⟩))) (w.alloc (.mapIter none 0 #[] 0))):wpList P ops Q (o::rest) a w:=by
 refine wpList_plain hg fun K' hK'=>?_
 have hrun:=run_range_nilMap (P:=P) w t k e ht;unfold JE;simp [execOp,hop,hm,hrun,Ja];exact hK' _ _ hK
theorem uW (hg:o.guard=none) (it:Operand) (hop:o.op=Op.next it false) (b r:Nat) (es:Array MapEntry) (clock:Nat) (seen:Array Nat) (hit:a.eval it = .pointer (some ⟨r,0,none⟩))
  (hr:w.heap[r]?=some (.mapIter (some b) clock seen clock)) (hb:w.heap[b]?=some (.map es clock)) (hs:Go.MapKept.Stamped es clock)
  (hDone:(leftOf es seen).size=0→wpList P ops Q rest (a.put o.dst (.tuple #[.bool false])) w)
  (hMore:∀(e:MapEntry) (w':World),e∈(leftOf es seen).toList→w'.heap[r]?=some (.mapIter (some b) clock (seen.push e.born) clock)→w'.heap[b]?=some (.map es clock)→w.grownBy w' (some r)→w'.heap.size=w.heap.size →
   (Instr.entry (.pointer (some ⟨r,0,none⟩))).run P w' = .ok (.tuple #[e.key,e.val]) w'→wpList P ops Q rest (a.put o.dst (.tuple #[.bool true,e.key,e.val])) w'):wpList P ops Q (o::rest) a w:=by
 refine wpList_plain hg fun K' hK'=>?_
 unfold JE;rcases Go.run_next_at (P:=P) w o.type r b clock clock seen es clock hr hb hs.1 (IA _) with ⟨h0,hrun⟩ | ⟨e,he,w1,hal,hrun⟩
 ·simp [execOp,hop,hit,hrun,Ja]
  exact hK' _ _ (hDone h0)
 ·simp [execOp,hop,hit,hrun,Ja]
  have hne:b≠r:=fun e=>by rw [e,hr] at hb;cases hb
  have hw1:w1.heap=w.heap:=by rcases hal with rfl | rfl<;>rfl
  have hrl:=cX hr;refine hK' _ _ (hMore e _ he ?_ ?_ ?_ ?_ ?_)
  ·simp [IG,hw1,hrl]
  ·simp [IG,IV hne.symm,hw1,hb]
  ·refine⟨?_,?_,?_,?_,fun i hi hn=>?_⟩
   ·rcases hal with rfl | rfl<;>rfl
   ·rcases hal with rfl | rfl<;>rfl
   ·rcases hal with rfl | rfl<;>rfl
   ·simp [IG,hw1]
   ·have hir:r≠i:=fun e=>hn (by rw [e])
    simp [IG,IV hir,hw1]
  ·simp [IG,hw1]
  ·refine run_entry_at (P:=P) _ r b clock seen es clock e ?_ ?_ ?_ hs.2.1
   ·simp [IG,hw1,hrl]
   ·simp [IG,IV hne.symm,hw1,hb]
   ·unfold leftOf at he
    simp at he;simpa using he.1
theorem tF (hg:o.guard=none) (it:Operand) (hop:o.op=Op.next it false) (r x y:Nat) (seen:Array Nat) (hit:a.eval it = .pointer (some ⟨r,0,none⟩)) (hr:w.heap[r]?=some (.mapIter none x seen y))
  (hK:wpList P ops Q rest (a.put o.dst (.tuple #[.bool false])) w):wpList P ops Q (o::rest) a w:=by
 refine wpList_plain hg fun K' hK'=>?_
 have hrun:(Instr.next (.pointer (some ⟨r,0,none⟩)) false o.type).run P w = .ok (.tuple #[.bool false]) w:=by
  simp only [Instr.next,getObj,Sem.run_bind,Sem.run,hr,Ja];rfl
 unfold JE;simp [execOp,hop,hit,hrun,Ja];exact hK' _ _ hK
end
structure KeyR (es:Array MapEntry) (l:List (Int × Bool)) (seen:Array Nat) (ss:List Int):Prop where
 nd:ss.Nodup
 sub:∀x∈ss,x∈l.map (·.1)
 iff:∀e∈es.toList,∀x,e.key = .int .i64 x→(seen.contains e.born=true↔x∈ss)
theorem Gn {es:Array MapEntry} {clock:Nat} {l:List (Int × Bool)} (he:nv es clock l) {e:MapEntry} (h:e∈es.toList):∃p∈l,e.key = .int .i64 p.1∧e.val = .bool p.2:=by
 have h1:(e.key,e.val)∈es.toList.map (fun e=>(e.key,e.val)):=IC.2 ⟨e,h,rfl⟩;rw [he.2] at h1;obtain⟨p,hp,e2⟩:=IC.1 h1;simp only [JF] at e2;exact⟨p,hp,e2.1.symm,e2.2.symm⟩
theorem FY {es:Array MapEntry} {clock:Nat} {l:List (Int × Bool)} (he:nv es clock l) {x:Int} (h:x∈l.map (·.1)):∃e∈es.toList,e.key = .int .i64 x:=by
 obtain⟨p,hp,rfl⟩:=IC.1 h;have h1:(Iy .i64 p.1,JA p.2)∈l.map fun p=>(Iy .i64 p.1,JA p.2):=IC.2 ⟨p,hp,rfl⟩
 rw [←he.2] at h1;obtain⟨e,h2,h3⟩:=IC.1 h1;simp only [JF] at h3;exact⟨e,h2,h3.1⟩
theorem Bb {es:Array MapEntry} {clock:Nat} {l:List (Int × Bool)} (he:nv es clock l):(l.map (·.1)).Nodup:=by
 have h1:=he.1.2.2;have e:es.toList.map (·.key)=(l.map (·.1)).map (Iy .i64):=by
  have:=congrArg (List.map Prod.fst) he.2;simpa [List.map_map,Function.comp_def] using this
 rw [e] at h1;exact(List.pairwise_map.1 h1).imp fun h e=>h (by rw [e])
theorem KeyR.start {es:Array MapEntry} {l:List (Int × Bool)}:KeyR es l #[] []:=⟨List.Pairwise.nil,(fun x hx=>by cases hx),fun e _ x _=>by simp⟩
theorem KeyR.step {es:Array MapEntry} {clock:Nat} {l:List (Int × Bool)} {seen:Array Nat} {ss:List Int} (he:nv es clock l) (h:KeyR es l seen ss) {e:MapEntry} (hl:e∈(leftOf es seen).toList) :
  ∃x v,e.key = .int .i64 x∧e.val = .bool v∧x∉ss∧KeyR es l (seen.push e.born) (ss++[x]):=by
 obtain⟨hem,hns⟩:=mem_left hl;obtain⟨p,hp,h1,h2⟩:=Gn he hem;have hx:p.1∉ss:=fun hx=>by
  have:=(h.iff e hem p.1 h1).2 hx;rw [this] at hns;cases hns
 refine⟨p.1,p.2,h1,h2,hx,List.nodup_append.2 ⟨h.nd,by simp,fun a ha b hb e=>hx (by rw [IW.1 hb] at e;exact e ▸ ha)⟩,fun y hy=>?_,fun e' he' y hy=>?_⟩
 ·rcases JD.1 hy with hy | hy
  ·exact h.sub y hy
  ·rw [IW.1 hy]
   exact IC.2 ⟨p,hp,rfl⟩
 ·rw [contains_push]
  have hst:=(Go.MapKept.stamped_iff es clock).1 he.1;have hk:e'.born=e.born↔y=p.1:=by
   constructor
   ·intro hb
    have:=born_inj hst.2.1 he' hem hb;rw [this,h1] at hy;exact(Iy.inj hy).2.symm
   ·intro e2
    have:=entry_eq_of_key hst.2.2 he' hem (by rw [hy,h1,e2]);rw [this]
  have hi:=h.iff e' he' y hy;simp only [Bool.or_eq_true,beq_iff_eq,JD,IW];constructor
  ·rintro(h3 | h3)
   ·exact .inl (hi.1 h3)
   ·exact .inr (hk.1 h3)
  ·rintro(h3 | h3)
   ·exact .inl (hi.2 h3)
   ·exact .inr (hk.2 h3)
theorem KeyR.perm {es:Array MapEntry} {clock:Nat} {l:List (Int × Bool)} {seen:Array Nat} {ss:List Int} (he:nv es clock l) (h:KeyR es l seen ss) (h0:(leftOf es seen).size=0):ss.Perm (l.map (·.1)):=by
 refine(List.perm_ext_iff_of_nodup h.nd (Bb he)).2 fun x=>⟨h.sub x,fun hx=>?_⟩
 obtain⟨e,h1,h2⟩:=FY he hx;exact(h.iff e h1 x h2).1 (all_seen es seen h0 e h1)
theorem Ci {a b:List Int} (h:a.Perm b):AU a=AU b:=by
 refine List.Perm.eq_of_pairwise (le:=(·≤·)) (fun a b _ _ h1 h2=>by omega) ?_ ?_ (((Jw a _).trans h).trans (Jw b _).symm)
 ·exact(Jp (fun a b c=>by simp;omega) (fun a b=>by simp;omega) a).imp fun h=>by simpa using h
 ·exact(Jp (fun a b c=>by simp;omega) (fun a b=>by simp;omega) b).imp fun h=>by simpa using h
def AV (es:Array MapEntry) (r:Nat) (w:World):Nat:=match w.heap[r]? with
 | some (.mapIter _ _ seen _)=>(leftOf es seen).size
 | _=>0
theorem wx {es:Array MapEntry} {r s c:Nat} {w:World} {m:Option Nat} {seen:Array Nat} (h:w.heap[r]?=some (.mapIter m s seen c)):AV es r w=(leftOf es seen).size:=by
 simp [AV,h]
set_option maxHeartbeats 4000000 in
set_option maxRecDepth 1000000 in
theorem CB (w:World) (g:Nat) (es:Array MapEntry) (clock:Nat) (l:List (Int × Bool)) (hg:w.heap[g]?=some (.map es clock)) (he:nv es clock l) (hl:l.length≤1000) :
  Calls Try.prog 32 #[.map (some g)] w fun e w'=>∃v,e = .returned v∧iX w' w.heap.size v (AU (l.map (·.1)))∧Below w.heap.size w w':=by
 obtain⟨i0,hi,hz0,hz1,hz2⟩:=info_parts DW;have hgl:=cX hg
 go_enter Try.func32,Try.ntmps32
 go_wp2_with (at_range;refine tj _ rfl _ _ rfl _ _ Try.underlying55 g es clock rfl (ck _ hg) ?_)
 have hr0:((w.alloc (.cells #[] 3)).alloc (.mapIter (some g) clock #[] clock)).heap[(w.alloc (.cells #[] 3)).heap.size]?=some (.mapIter (some g) clock #[] clock):=eJ _ rfl;have hg0:((w.alloc (.cells #[] 3)).alloc (.mapIter (some g) clock #[] clock)).heap[g]?=some (.map es clock):=ck _ (ck _ hg);have hrow0:((w.alloc (.cells #[] 3)).alloc (.mapIter (some g) clock #[] clock)).ownsRow w.heap.size 3 1 (.slice (some ⟨w.heap.size,0,none⟩) 0 0) 0 []:=⟨rfl,.inr ⟨_,0,#[],rfl,IA _,ck _ (eJ _ rfl),IA _,IX _,rfl,rfl⟩⟩
 have hB0:Below w.heap.size w ((w.alloc (.cells #[] 3)).alloc (.mapIter (some g) clock #[] clock)):=((Jm _ w).alloc (IA _) _).alloc (by simp) _;have hrge:w.heap.size≤(w.alloc (.cells #[] 3)).heap.size:=by simp
 generalize hW:(w.alloc (.cells #[] 3)).alloc (.mapIter (some g) clock #[] clock)=W0 at *;obtain⟨r,hr⟩:∃r,r=(w.alloc (.cells #[] 3)).heap.size:=⟨_,rfl⟩
 rw [←hr] at hr0 hrge ⊢;clear hr hW
 go_frame
 go_loopw [3] (fun v wr=>∃(seen:Array Nat) (ss:List Int) (b c:Nat),v = .slice (some ⟨b,0,none⟩) ss.length c∧KeyR es l seen ss∧wr.heap[r]?=some (.mapIter (some g) clock seen clock)∧wr.heap[g]?=some (.map es clock)∧wr.ownsRow w.heap.size 3 1 (.slice (some ⟨b,0,none⟩) ss.length c) ss.length (ss.map (Iy .i64))∧Below w.heap.size w wr) (fun _ wr=>AV es r wr)
 case atStart=>exact⟨#[],[],_,_,rfl,KeyR.start,hr0,hg0,hrow0,hB0⟩
 case round =>
  clear hr0 hg0 hrow0 hB0;obtain⟨seen,ss,b,c,rfl,hR,hir,hmg,hrow,hB⟩:=hrel;have hsl:ss.length≤1000:=by
   have:=hR.nd.length_le_of_subset (l₂:=l.map (·.1)) (fun x hx=>hR.sub x hx);rw [Iz] at this;omega
  go_wp2_with (at_next;refine uW _ rfl _ rfl g r es clock seen rfl hir hmg he.1 ?_ ?_)
  ·intro h0
   have hperm:=hR.perm he (by rw [h0];rfl);obtain⟨cur,hge,hgb,hcap,hcs,htk⟩:∃cur:Array Value,w.heap.size≤b∧wr.heap[b]?=some (.cells cur 3 (0,0))∧ss.length≤c∧c≤cur.size∧∀(i:Nat) (u:Value),(ss.map (Iy .i64))[i]?=some u→cur[i]?=some u:=by
    rcases hrow.2 with ⟨hv,_⟩ | ⟨g',cap',cur,hv,hge,hgb,hcap,_,hcs,htake⟩
    ·cases hv
    ·cases hv
     exact⟨cur,hge,hgb,hcap,by omega,uP htake⟩
   have hH:Go.Sort.Holds (Iy .i64) wr b 0 ss.toArray:=fun j hj=>by
    have hj':j<ss.length:=by simpa using hj
    refine⟨?_,Lib.frozen_of_heap hgb _⟩
    rw [Jb hgb,IU];refine(htk j (.int .i64 ss[j]) (by simp [hj'])).trans ?_
    simp [hj']
   have hbl:=cX hgb;have hc:=Any.sort_Ints Try.lays191 b 0 c ss wr hH hbl (by omega);have hlen:=yT ss;have hpe:=Ci hperm;clear h0 hrow hH hir hmg hR hperm
   go_wp2_with (go_at_call 59;refine hc.mono ?_;rintro e w' ⟨rfl,n,os,rfl⟩)
   go_ret
   obtain⟨cur',c1,c2,c3⟩:=xo (off:=0) (n:=n) (os:=os) (dk:=(AU ss).toArray) hgb (by simp;omega);refine⟨_,rfl,⟨b,c,cur',?_,hge,c1,?_,by omega,fun i u hu=>?_⟩,hB.trans ⟨rfl,rfl,rfl,?_,fun k hk=>wA (k:=k) (by have:=hB.size;omega) (by omega)⟩⟩
   ·rw [←hpe,hlen];rfl
   ·rw [←hpe,hlen];exact hcap
   ·rw [←hpe] at hu
    have:=c3 i u (by simpa using hu);rwa [IU] at this
   ·rw [size_grow,size_putRow]
    show wr.heap.size≤wr.heap.size+_
    omega
  ·intro e w2 hel hir2 hmg2 hgr2 hsz2 hen
   obtain⟨x,v,hk,hv,hx,hR2⟩:=hR.step he (by simpa using hel);rw [hk,hv] at hen ⊢;have hbr:b≠r:=by
    rcases hrow.2 with ⟨hv,_⟩ | ⟨g',cap',cur,hv,hge,hgb,_⟩
    ·cases hv
    ·cases hv
     intro e;rw [e,hir] at hgb;cases hgb
   have hbg:b≠g:=by
    have:=(hrow.lt b rfl).1;omega
   have hrow2:=hrow.kept hgr2 (.inr (by simp [Js];exact hbr));have hmx:ss.length+1≤maxLen:=by unfold maxLen;omega
   have hB2:Below w.heap.size w w2:=hB.grown hgr2 hB.size (fun j hj=>by cases hj;exact hrge);have hbs:w.heap.size≤(w2.alloc (.cells #[.int .i64 x] 3)).heap.size:=IK hB2.size (IE w2 _ none).size;clear hsz2 hk hv hrow
   go_wp2_with (at_builtin;refine wpList_append_own _ rfl _ _ 26 rfl w.heap.size 3 i0 (.int .i64 0) 1 8 Try.underlying26 hi hz0 hz1 hz2 rfl (by decide) (.slice (some ⟨b,0,none⟩) ss.length c) _ _ rfl (hrow2.alloc _) ⟨w2.heap.size,0,none⟩ 1 1 [.int .i64 x] rfl rfl (cell_one_new _ _ _) (by intro u hu;simp at hu;subst hu;rfl) hmx (by omega) hbs ?_;intro v3 w3 hown3 hgrow3 hnil3;obtain⟨b3,c3,rfl⟩:=mv hown3)
   have hir3:=(hgrow3.block r (cX (ck _ hir2)) (by simp [Js];exact fun e=>hbr e.symm)).trans (ck _ hir2);have hmg3:=(hgrow3.block g (cX (ck _ hmg2)) (by simp [Js];exact fun e=>hbg e.symm)).trans (ck _ hmg2);refine⟨⟨_,ss++[x],b3,c3,by rw [IF];rfl,hR2,hir3,hmg3,?_,(hB2.alloc hB2.size _).grown hgrow3 hbs (fun k hk=>(hrow2.lt k hk).1)⟩,?_⟩
   ·rw [IF,Jg]
    exact hown3
   ·rw [wx hir3,wx hir]
    exact left_shrinks es seen e (by simpa using hel)
set_option maxHeartbeats 4000000 in
set_option maxRecDepth 1000000 in
theorem Ei (w:World):Calls Try.prog 32 #[.map none] w fun e w'=>∃v,e = .returned v∧iX w' w.heap.size v []∧Below w.heap.size w w':=by
 go_enter Try.func32,Try.ntmps32
 go_wp2_with (at_range;refine sk _ rfl _ _ rfl _ _ Try.underlying55 rfl ?_)
 have hr0:((w.alloc (.cells #[] 3)).alloc (.mapIter none 0 #[] 0)).heap[(w.alloc (.cells #[] 3)).heap.size]?=some (.mapIter none 0 #[] 0):=eJ _ rfl;have hg0:((w.alloc (.cells #[] 3)).alloc (.mapIter none 0 #[] 0)).heap[w.heap.size]?=some (.cells #[] 3 (0,0)):=ck _ (eJ _ rfl);have hB0:Below w.heap.size w ((w.alloc (.cells #[] 3)).alloc (.mapIter none 0 #[] 0)):=((Jm _ w).alloc (IA _) _).alloc (by simp) _;generalize hW:(w.alloc (.cells #[] 3)).alloc (.mapIter none 0 #[] 0)=W0 at *;obtain⟨r,hr⟩:∃r,r=(w.alloc (.cells #[] 3)).heap.size:=⟨_,rfl⟩
 rw [←hr] at hr0 ⊢;clear hr hW
 go_frame
 go_loopw [3] (fun v wr=>v = .slice (some ⟨w.heap.size,0,none⟩) 0 0∧wr.heap[r]?=some (.mapIter none 0 #[] 0)∧wr.heap[w.heap.size]?=some (.cells #[] 3 (0,0))∧Below w.heap.size w wr) (fun _ wr=>0)
 case atStart=>exact⟨rfl,hr0,hg0,hB0⟩
 case round =>
  clear hr0 hg0 hB0;obtain⟨rfl,hir,hgb,hB⟩:=hrel;have hbl:=cX hgb;have hH:Go.Sort.Holds (Iy .i64) wr w.heap.size 0 ([]:List Int).toArray:=fun j hj=>by simp at hj
  have hc:=Any.sort_Ints Try.lays191 w.heap.size 0 0 [] wr hH hbl (by simp);clear hH
  go_wp2_with (first
   | (at_next;refine tF _ rfl _ rfl r 0 0 #[] rfl hir ?_)
   | (go_at_call 59;refine hc.mono ?_;rintro e w' ⟨rfl,n,os,rfl⟩))
  go_ret
  obtain⟨cur',c1,c2,c3⟩:=xo (off:=0) (n:=n) (os:=os) (dk:=#[]) hgb (by simp);refine⟨_,rfl,⟨w.heap.size,0,cur',rfl,IA _,c1,IA _,IX _,fun i u hu=>by simp at hu⟩,hB.trans ⟨rfl,rfl,rfl,?_,fun k hk=>wA (k:=k) (by have:=hB.size;omega) (by omega)⟩⟩
  rw [size_grow,size_putRow];show wr.heap.size≤wr.heap.size+_
  omega
def nE (l:List (Int × Bool)):List Int:=AU (l.map (·.1))
def pL:List D→Option Out
 | [.mp l]=>if l.length≤1000 then some (.ret [ints (nE l)] []) else none
 | _=>none
theorem ig (l:List (Int × Bool)) (h:l.length≤1000):pL [.mp l]=some (.ret [ints (nE l)] []):=by
 simp only [pL];rw [if_pos h]
@[reducible] def dM:FS:={pm:=[.dat 2],rm:=[.own 1 0 false],f:=pL}
theorem fa:ay gl0 Try.prog 32 dM:=by
 have he:∀args w,(callFunc 32 args).run Try.prog w = .ok (.enter 32 args) w:=ID Try.func32 (by kernel_rfl) rfl;refine iu he fun ds rs us hd args w F ow hg ha hF _=>?_
 obtain⟨d,y,rfl,h2,h3⟩:=yU ha;replace hd:pL [d]=some (.ret rs us):=hd;unfold pL at hd;split at hd
 case h_2=>cases hd
 rename_i l e;cases e;split at hd
 case isFalse=>cases hd
 rename_i hn;cases hd;have hargs:args=#[y]:=Array.ext' h2;subst hargs;have hw:Calls Try.prog 32 #[y] w fun e w'=>∃v,e = .returned v∧iX w' w.heap.size v (nE l)∧Below w.heap.size w w':=by
  rcases h3 with h3 | h3
  ·cases h3
  replace h3:RepC w F (.mp l) [y]:=h3;simp only [RepC] at h3;rcases h3 with ⟨h3,rfl⟩ | ⟨g,es,clock,h3,_,hmap,hes⟩
  ·simp only [IH,and_true] at h3
   subst h3;refine(Ei w).mono ?_
   rintro e w' ⟨v,rfl,hr,hB⟩;exact⟨v,rfl,by simpa [nE,AU] using hr,hB⟩
  ·simp only [IH,and_true] at h3
   subst h3;exact CB w g es clock l hmap hes hn
 refine hw.mono ?_
 rintro e w' ⟨v,rfl,⟨gg,cap,cur,rfl,hgg,hcell,hcap,hcs,hrow⟩,hB⟩;refine⟨_,rfl,F,fun b=>if b=gg then some 0 else none,[_],rfl,ET _ hB hF (fun b j hb=>?_) rfl rfl rfl rfl fun j=>?_⟩
 ·split at hb
  ·rename_i e
   subst e;exact⟨hgg,cX hcell⟩
  ·cases hb
 ·match j with
  | 0 =>
   refine .inr ⟨(nE l).map I,rfl,fun x hx=>?_,.inr ⟨gg,0,cap,(nE l).map (Iy .i64),cur,_,?_,?_,hcell,by omega,sB _,fun i u hu=>?_,by simp,hgg⟩⟩
   ·obtain⟨s,_,rfl⟩:=IC.1 hx
    rfl
   ·rw [Iz]
    rfl
   ·rw [Iz]
    exact hcap
   ·rw [IU]
    exact hrow i u hu
  | j+1=>exact .inl rfl
end Go.Proofs.Ytccaheogjpfhjaa

end
