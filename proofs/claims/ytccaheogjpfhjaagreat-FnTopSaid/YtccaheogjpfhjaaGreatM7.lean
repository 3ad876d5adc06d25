/-
  A part of the proof: contracts and plain forms of functions beneath the statement, made small by a program (names shortened, what is not needed left out).
-/
import Derived.Test.YtccaheogjpfhjaaGreatRows
import Derived.Test.YtccaheogjpfhjaaGreatM6
import Derived.Shelf.Abstract
open Option renaming map → ZE, map_some → ZR, bind_some → ZY
open List renaming length_map → ZF, mem_cons → ZI, range → ZJ, getElem?_map → ZK, mem_singleton → ZO, getElem?_range → ZQ, getElem?_eq_none → ZT, pairwise_cons → ZU, map_cons → ZV, getElem?_eq_some_iff → ZX, mem_map → ZZ, length_range → aai, nodup_cons → aam, foldl_cons → aan, mem_range → aao
open Go.Value renaming int → ZG
open Classical renaming choose → ZH, propDecidable → ZS
open Go.Proofs renaming enters_of → ZL
open Go.IntKind renaming u64 → ZM, i64 → ZP, u8 → aac
open List.cons renaming injEq → ZN
open Option.some renaming injEq → ZW
open Bool renaming and_eq_true → aaa
open Nat renaming not_lt_zero → aab, add_assoc → aad, lt_of_lt_of_le → aah, le_refl → aak
open Int renaming reduceLT → aae, reduceLE → aaf, reduceEq → aag
open List.Pairwise renaming nil → aaj
open Go.Value.int renaming injEq → aal
set_option maxRecDepth 100000
set_option linter.unusedSimpArgs false
set_option linter.unusedVariables false
noncomputable section
namespace Go.Proofs.YtccaheogjpfhjaaGreat
open Go Go.V
set_option maxRecDepth 100000
theorem GP (x0 x1:D):kD [x0,x1]=((lenD false x0).bind fun z=>(lenD false x1).bind fun c=>(bin .neq false [] z c).bind fun z=>ifD z (some (.ret [B false] [])) ((lenD false x0).bind fun z=>(aQ (fun s=>(bin .lss false [] (sl s 3) (sl s 2)).bind fun z=>ifD z ((ZE D.ptr (aI 4 (sl s 0) (sl s 3))).bind fun z=>((ldD true 4 z).bind bq).bind fun z=>(ZE D.ptr (aI 4 (sl s 1) (sl s 3))).bind fun d=>((ldD true 4 d).bind bq).bind fun e=>(bin .neq false [1,1,1,2] z e).bind fun z=>ifD z (some (.ret [B false] [])) ((bin .add false [] (sl s 3) (I 1)).bind fun z=>some (.nrm [sl s 0,sl s 1,sl s 2,z]))) (some (.ext 0 []))) [x0,x1,z,I 0]).bind fun o=>outK o (fun i _=>ifN (i.beq 0) (some (.ret [B true] [])) none) fun a b=>some (.ret a b))):=by kernel_rfl
theorem Jh (x0 x1:D):jy [x0,x1]=((lenD false x0).bind fun z=>(lenD false x1).bind fun c=>(bin .neq false [] z c).bind fun z=>ifD z (some (.ret [B false] [])) ((lenD false x0).bind fun z=>(aQ (fun s=>(bin .lss false [] (sl s 3) (sl s 2)).bind fun z=>ifD z ((ZE D.ptr (aI 4 (sl s 0) (sl s 3))).bind fun z=>((ldD true 4 z).bind bq).bind fun z=>(ZE D.ptr (aI 4 (sl s 1) (sl s 3))).bind fun d=>((ldD true 4 d).bind bq).bind fun e=>(bin .neq false [3,1,1,1] z e).bind fun z=>ifD z (some (.ret [B false] [])) ((bin .add false [] (sl s 3) (I 1)).bind fun z=>some (.nrm [sl s 0,sl s 1,sl s 2,z]))) (some (.ext 0 []))) [x0,x1,z,I 0]).bind fun o=>outK o (fun i _=>ifN (i.beq 0) (some (.ret [B true] [])) none) fun a b=>some (.ret a b))):=by kernel_rfl
theorem Jc (x0 x1:D):lX [x0,x1]=((lenD false x0).bind fun z=>(lenD false x1).bind fun c=>(bin .neq false [] z c).bind fun z=>ifD z (some (.ret [B false] [])) ((lenD false x0).bind fun z=>(aQ (fun s=>(bin .lss false [] (sl s 3) (sl s 2)).bind fun z=>ifD z ((ZE D.ptr (aI 1 (sl s 0) (sl s 3))).bind fun z=>((ldD false 1 z).bind bq).bind fun z=>(ZE D.ptr (aI 1 (sl s 1) (sl s 3))).bind fun d=>((ldD false 1 d).bind bq).bind fun e=>(bin .neq false [] z e).bind fun z=>ifD z (some (.ret [B false] [])) ((bin .add false [] (sl s 3) (I 1)).bind fun z=>some (.nrm [sl s 0,sl s 1,sl s 2,z]))) (some (.ext 0 []))) [x0,x1,z,I 0]).bind fun o=>outK o (fun i _=>ifN (i.beq 0) (some (.ret [B true] [])) none) fun a b=>some (.ret a b))):=by kernel_rfl
theorem DS (x0 x1:D):jO [x0,x1]=((bE 2 x0).bind fun y=>(bE 2 x1).bind fun d=>(aa y (.ref 0 0)).bind fun z=>((atD y z).bind (au false 1)).bind fun z=>(aa d (.ref 0 0)).bind fun e=>((atD d e).bind (au false 1)).bind fun f=>callK (jy [z,f]) fun c _=>(af D.bad (sl c 0) true (aa y (.ref 0 1))).bind fun z=>(af (.tup []) (sl c 0) true ((atD y z).bind (au false 1))).bind fun z=>(af D.bad (sl c 0) true (aa d (.ref 0 1))).bind fun g=>(af (.tup []) (sl c 0) true ((atD d g).bind (au false 1))).bind fun h=>bX (sl c 0) true (callK (lX [z,h]) fun c _=>some (.nrm [sl c 0])) [.tup []] fun j=>(aU (sl c 0) (sl j 0) (B false)).bind fun z=>some (.ret [z] [])):=by kernel_rfl
theorem pe (x0:D):dK [x0]=((aa x0 (.ref 0 0)).bind fun z=>(aa z z).bind fun z=>(cW 1 z).bind fun z=>(((atD x0 z).bind (au false 1)).bind bq).bind fun z=>(aa x0 (.ref 0 0)).bind fun w=>(aa w w).bind fun zc=>(cW 0 zc).bind fun zd=>((atD x0 zd).bind (au false 1)).bind fun ze=>(lenD false ze).bind fun zf=>(bin .lss false [] z zf).bind fun z=>ifD z ((aa x0 (.ref 0 0)).bind fun z=>(aa z z).bind fun z=>(cW 0 z).bind fun z=>((atD x0 z).bind (au false 1)).bind fun z=>(aa x0 (.ref 0 0)).bind fun e=>(aa e e).bind fun g=>(cW 1 g).bind fun h=>(((atD x0 h).bind (au false 1)).bind bq).bind fun j=>(ZE D.ptr (aI 1 z j)).bind fun z=>((ldD false 1 z).bind bq).bind fun z=>(pN (some .i64) false z).bind fun z=>(aa x0 (.ref 0 0)).bind fun c=>(aa c c).bind fun k=>(cW 1 k).bind fun l=>(((atD x0 l).bind (au false 1)).bind bq).bind fun m=>(bin .add false [] m (I 1)).bind fun n=>(aa c c).bind fun p=>(cW 1 p).bind fun q=>(stD 1 x0 q n).bind fun b=>(aa b (.ref 0 0)).bind fun f=>(aa b (.ref 0 0)).bind fun d=>(aa d d).bind fun r=>(cW 2 r).bind fun t=>(((atD b t).bind (au false 1)).bind bq).bind fun u=>(bin .mul false [] u (.v (ZG ZM 6364136223846793005))).bind fun v=>(pN (some .u64) false z).bind fun zg=>(bin .add false [] v zg).bind fun zh=>(bin .add false [] zh (.v (ZG ZM 1442695040888963407))).bind fun zi=>(aa f f).bind fun zj=>(cW 2 zj).bind fun zk=>(stD 1 b zk zi).bind fun b=>(aa b (.ref 0 0)).bind fun za=>(aa za za).bind fun zl=>(cW 1 zl).bind fun zm=>(((atD b zm).bind (au false 1)).bind bq).bind fun zn=>(aa b (.ref 0 0)).bind fun zb=>(aa zb zb).bind fun zo=>(cW 0 zo).bind fun zp=>((atD b zp).bind (au false 1)).bind fun zq=>(lenD false zq).bind fun zr=>(bin .leq false [] zn zr).bind fun zs=>ifD zs ((aa b b).bind fun _=>some (.ret [z] [b])) ((aa b (.ref 0 0)).bind fun z=>(aa z z).bind fun z=>(cW 2 z).bind fun z=>(((atD b z).bind (au false 1)).bind bq).bind fun z=>(bin .shr false [] z (.v (ZG ZM 40))).bind fun z=>(bin .and false [] z (.v (ZG ZM 255))).bind fun z=>(pN (some .i64) false z).bind fun z=>(aa b b).bind fun _=>some (.ret [z] [b]))) ((aa x0 (.ref 0 0)).bind fun z=>(aa z z).bind fun e=>(cW 1 e).bind fun g=>(((atD x0 g).bind (au false 1)).bind bq).bind fun h=>(bin .add false [] h (I 1)).bind fun j=>(aa z z).bind fun z=>(cW 1 z).bind fun z=>(stD 1 x0 z j).bind fun b=>(aa b (.ref 0 0)).bind fun z=>(aa b (.ref 0 0)).bind fun c=>(aa c c).bind fun k=>(cW 2 k).bind fun l=>(((atD b l).bind (au false 1)).bind bq).bind fun m=>(bin .mul false [] m (.v (ZG ZM 6364136223846793005))).bind fun n=>(pN (some .u64) false (I 0)).bind fun p=>(bin .add false [] n p).bind fun q=>(bin .add false [] q (.v (ZG ZM 1442695040888963407))).bind fun f=>(aa z z).bind fun z=>(cW 2 z).bind fun z=>(stD 1 b z f).bind fun b=>(aa b (.ref 0 0)).bind fun z=>(aa z z).bind fun z=>(cW 1 z).bind fun z=>(((atD b z).bind (au false 1)).bind bq).bind fun z=>(aa b (.ref 0 0)).bind fun d=>(aa d d).bind fun r=>(cW 0 r).bind fun t=>((atD b t).bind (au false 1)).bind fun u=>(lenD false u).bind fun v=>(bin .leq false [] z v).bind fun z=>ifD z ((aa b b).bind fun _=>some (.ret [I 0] [b])) ((aa b (.ref 0 0)).bind fun z=>(aa z z).bind fun z=>(cW 2 z).bind fun z=>(((atD b z).bind (au false 1)).bind bq).bind fun z=>(bin .shr false [] z (.v (ZG ZM 40))).bind fun z=>(bin .and false [] z (.v (ZG ZM 255))).bind fun z=>(pN (some .i64) false z).bind fun z=>(aa b b).bind fun _=>some (.ret [z] [b])))):=by kernel_rfl
theorem BH (x0 x1:D):ah [x0,x1]=((bin .leq false [] x1 (I 1)).bind fun z=>ifD z ((aa x0 x0).bind fun _=>some (.ret [I 0] [x0])) ((aa x0 (.ref 0 0)).bind fun z=>(bn z x0).bind fun i=>(aa i i).bind fun i=>callK (dK [i]) fun d c=>(aa (sl c 0) (sl c 0)).bind fun _=>(bin .gtr false [] x1 (I 200)).bind fun z=>ifD z ((bin .mul false [] (sl d 0) (I 256)).bind fun z=>(aa (sl c 0) (.ref 0 0)).bind fun e=>(bn e (sl c 0)).bind fun i=>(aa i i).bind fun i=>callK (dK [i]) fun d c=>(aa (sl c 0) (sl c 0)).bind fun _=>(bin .add false [] z (sl d 0)).bind fun z=>(bin .rem false [] z x1).bind fun z=>(aa (sl c 0) (sl c 0)).bind fun _=>some (.ret [z] [sl c 0])) ((bin .rem false [] (sl d 0) x1).bind fun z=>(aa (sl c 0) (sl c 0)).bind fun _=>some (.ret [z] [sl c 0])))):=by kernel_rfl
theorem yP (x0 x1:D):ak [x0,x1]=((aa x0 (.ref 0 0)).bind fun z=>(lenD false x1).bind fun d=>(bn z x0).bind fun i=>(aa i i).bind fun i=>callK (ah [i,d]) fun e c=>(aa (sl c 0) (sl c 0)).bind fun _=>(ZE D.ptr (aI 1 x1 (sl e 0))).bind fun z=>((ldD false 1 z).bind bq).bind fun z=>(aa (sl c 0) (sl c 0)).bind fun _=>some (.ret [z] [sl c 0])):=by kernel_rfl
theorem zT (x0:D):eG [x0]=((aa x0 (.ref 0 0)).bind fun z=>(aa x0 (.ref 0 0)).bind fun e=>(ay 1 [I 1,I 0,I 9,I 3]).bind fun a=>(bn e x0).bind fun i=>(aa i i).bind fun i=>callK (ak [i,a]) fun d c=>(aa (sl c 0) (sl c 0)).bind fun _=>(ay 1 [I 2,I 3,I 4,I 5,I 6,I 3,I 4,I 8,sl d 0]).bind fun a=>(bn z (sl c 0)).bind fun i=>(aa i i).bind fun i=>callK (ak [i,a]) fun d c=>(aa (sl c 0) (sl c 0)).bind fun _=>(aa (sl c 0) (sl c 0)).bind fun _=>some (.ret [sl d 0] [sl c 0])):=by kernel_rfl
theorem De (x0 x1:D):aP [x0,x1]=((aa x0 (.ref 0 0)).bind fun z=>(bn z x0).bind fun i=>(aa i i).bind fun i=>callK (ah [i,x1]) fun d c=>(aa (sl c 0) (sl c 0)).bind fun _=>(bin .eql false [] (sl d 0) (I 0)).bind fun z=>(aa (sl c 0) (sl c 0)).bind fun _=>some (.ret [z] [sl c 0])):=by kernel_rfl
theorem NP (x0 x1 x2:D):cV [x0,x1,x2]=((bin .geq false [] x0 x1).bind fun z=>(af (.tup []) z true (some x0)).bind fun c=>(af (.tup []) z true (some x2)).bind fun d=>(af (.tup []) z true (bin .leq false [] c d)).bind fun e=>(aU z e (B false)).bind fun z=>some (.ret [z] [])):=by kernel_rfl
theorem Je (x0:D):dZ [x0]=(callK (cV [x0,I 1,I 8]) fun c _=>some (.ret [sl c 0] [])):=by kernel_rfl
theorem yH (x0 x1 x2:D):gD [x0,x1,x2]=((cO [(0,1),(1,1)] [I 0,I 0] [x1,x2]).bind fun z=>(ay 2 [z]).bind fun a=>(aa x0 (.ref 0 0)).bind fun z=>(bn z x0).bind fun i=>(aa i i).bind fun i=>callK (ah [i,I 6]) fun d c=>(aa (sl c 0) (sl c 0)).bind fun _=>(aQ (fun s=>(bin .gtr false [] (sl s 2) (I 0)).bind fun z=>(af D.bad z true (aa (sl s 1) (.ref 0 0))).bind fun k=>(af (.tup []) z true ((aa k (sl s 1)).bind (lenD false))).bind fun l=>(af (.tup []) z true (bin .lss false [] l (I 8))).bind fun m=>(aU z m (B false)).bind fun z=>ifD z ((aa (sl s 0) (.ref 0 0)).bind fun z=>(aa (sl s 1) (.ref 0 0)).bind fun n=>((aa n (sl s 1)).bind (lenD false)).bind fun p=>(bn z (sl s 0)).bind fun i=>(aa i i).bind fun i=>callK (ah [i,p]) fun d c=>(aa (sl c 0) (sl c 0)).bind fun _=>(aa (sl s 1) (.ref 0 0)).bind fun z=>((aa z (sl s 1)).bind fun b=>dE 2 b (sl d 0)).bind fun z=>((atD (sl s 1) z).bind (au true 2)).bind fun z=>(stD 2 (.agg [I 0,I 0]) (.ref 0 0) z).bind fun b=>(aa (sl c 0) (.ref 0 0)).bind fun z=>(bn z (sl c 0)).bind fun i=>(aa i i).bind fun i=>callK (aP [i,I 2]) fun j c=>(aa (sl c 0) (sl c 0)).bind fun _=>(af D.bad (sl j 0) true (aa b (.ref 0 0))).bind fun z=>(af (.tup []) (sl j 0) true ((atD b z).bind (au false 1))).bind fun z=>(af (.tup []) (sl j 0) true (bin .gtr false [] z (I 1))).bind fun z=>(aU (sl j 0) z (B false)).bind fun z=>ifD z ((aa (sl c 0) (.ref 0 0)).bind fun z=>(aa b (.ref 0 0)).bind fun e=>((atD b e).bind (au false 1)).bind fun f=>(bin .sub false [] f (I 1)).bind fun g=>(bn z (sl c 0)).bind fun i=>(aa i i).bind fun i=>callK (ah [i,g]) fun q c=>(aa (sl c 0) (sl c 0)).bind fun _=>(bin .add false [] (I 1) (sl q 0)).bind fun z=>(aa (sl s 1) (.ref 0 0)).bind fun h=>((aa h (sl s 1)).bind fun b=>dE 2 b (sl d 0)).bind fun r=>(cW 0 r).bind fun t=>(stD 1 (sl s 1) t z).bind fun u=>(aa b (.ref 0 0)).bind fun v=>((atD b v).bind (au false 1)).bind fun w=>(bin .sub false [] w z).bind fun z=>(aa b (.ref 0 0)).bind fun za=>(stD 1 b za z).bind fun b=>(ba true 2 0 b).bind fun z=>(ay 2 [z]).bind fun a=>(dq a).bind fun b=>(bY 2 16 u b).bind fun y=>(bin .sub false [] (sl s 2) (I 1)).bind fun z=>some (.nrm [sl c 0,y,z])) ((aa b (.ref 0 1)).bind fun z=>((atD b z).bind (au false 1)).bind fun z=>(bin .gtr false [] z (I 1)).bind fun z=>ifD z ((aa (sl c 0) (.ref 0 0)).bind fun z=>(aa b (.ref 0 1)).bind fun e=>((atD b e).bind (au false 1)).bind fun f=>(bin .sub false [] f (I 1)).bind fun g=>(bn z (sl c 0)).bind fun i=>(aa i i).bind fun i=>callK (ah [i,g]) fun q c=>(aa (sl c 0) (sl c 0)).bind fun _=>(bin .add false [] (I 1) (sl q 0)).bind fun z=>(aa (sl s 1) (.ref 0 0)).bind fun h=>((aa h (sl s 1)).bind fun b=>dE 2 b (sl d 0)).bind fun r=>(cW 1 r).bind fun t=>(stD 1 (sl s 1) t z).bind fun u=>(aa b (.ref 0 1)).bind fun v=>((atD b v).bind (au false 1)).bind fun w=>(bin .sub false [] w z).bind fun z=>(aa b (.ref 0 1)).bind fun za=>(stD 1 b za z).bind fun b=>(ba true 2 0 b).bind fun z=>(ay 2 [z]).bind fun a=>(dq a).bind fun b=>(bY 2 16 u b).bind fun y=>(bin .sub false [] (sl s 2) (I 1)).bind fun z=>some (.nrm [sl c 0,y,z])) ((bin .sub false [] (sl s 2) (I 1)).bind fun z=>some (.nrm [sl c 0,sl s 1,z])))) (some (.ext 0 [sl s 0,sl s 1]))) [sl c 0,a,sl d 0]).bind fun o=>outK o (fun i s=>ifN (i.beq 0) ((aa (sl s 1) (.ref 0 0)).bind fun z=>((aa z (sl s 1)).bind (lenD false)).bind fun z=>(aQ (fun s=>(bin .lss false [] (sl s 3) (sl s 2)).bind fun z=>ifD z ((aa (sl s 0) (.ref 0 0)).bind fun z=>(bn z (sl s 0)).bind fun i=>(aa i i).bind fun i=>callK (aP [i,I 3]) fun d c=>(aa (sl c 0) (sl c 0)).bind fun _=>ifD (sl d 0) ((aa (sl s 1) (.ref 0 0)).bind fun z=>(aa (sl s 1) (.ref 0 0)).bind fun k=>((aa k (sl s 1)).bind fun b=>dE 2 b (sl s 3)).bind fun l=>(cW 1 l).bind fun m=>((atD (sl s 1) m).bind (au false 1)).bind fun n=>(aa (sl s 1) (.ref 0 0)).bind fun p=>((aa p (sl s 1)).bind fun b=>dE 2 b (sl s 3)).bind fun e=>(cW 0 e).bind fun f=>((atD (sl s 1) f).bind (au false 1)).bind fun g=>(cO [(0,1),(1,1)] [I 0,I 0] [n,g]).bind fun h=>((aa z (sl s 1)).bind fun b=>dE 2 b (sl s 3)).bind fun z=>(stD 2 (sl s 1) z h).bind fun b=>(bin .add false [] (sl s 3) (I 1)).bind fun z=>some (.nrm [sl c 0,b,sl s 2,z])) ((bin .add false [] (sl s 3) (I 1)).bind fun z=>some (.nrm [sl c 0,sl s 1,sl s 2,z]))) (some (.ext 3 [sl s 0,sl s 1]))) [sl s 0,sl s 1,z,I 0]).bind fun o=>outK o (fun i s=>ifN (i.beq 3) ((aa (sl s 0) (sl s 0)).bind fun _=>some (.ret [sl s 1] [sl s 0])) none) fun a b=>some (.ret a b)) none) fun a b=>some (.ret a b)):=by kernel_rfl
theorem vX (x0 x1 x2:D):fZ [x0,x1,x2]=(callK (dZ [x1]) fun d _=>(un .not (sl d 0)).bind fun z=>(af (.tup []) z false (some x2)).bind fun k=>bX z false (callK (dZ [k]) fun d _=>some (.nrm [sl d 0])) [.tup []] fun e=>(af (.tup []) z false (un .not (sl e 0))).bind fun l=>(aU z (B true) l).bind fun z=>(af D.bad z false (aa x0 (.ref 0 0))).bind fun m=>bX z false ((bn m x0).bind fun i=>(aa i i).bind fun i=>callK (aP [i,I 12]) fun d c=>(aa (sl c 0) (sl c 0)).bind fun _=>some (.nrm [sl d 0,sl c 0])) [.tup [],x0] fun e=>(aU z (B true) (sl e 0)).bind fun z=>ifD z ((cO [(0,1),(1,1)] [I 0,I 0] [I 1,I 2]).bind fun z=>(cO [(0,1),(1,1)] [I 0,I 0] [I 2,I 2]).bind fun g=>(ay 2 [z,g]).bind fun a=>(aa (sl e 1) (sl e 1)).bind fun _=>some (.ret [a] [sl e 1])) ((aa (sl e 1) (.ref 0 0)).bind fun z=>(bn z (sl e 1)).bind fun i=>(aa i i).bind fun i=>callK (gD [i,x1,x2]) fun d c=>(aa (sl c 0) (sl c 0)).bind fun _=>(aa (sl c 0) (.ref 0 0)).bind fun z=>(aa (sl d 0) (.ref 0 0)).bind fun g=>((aa g (sl d 0)).bind (lenD false)).bind fun n=>(bn z (sl c 0)).bind fun i=>(aa i i).bind fun i=>callK (ah [i,n]) fun p c=>(aa (sl c 0) (sl c 0)).bind fun _=>(aa (sl c 0) (.ref 0 0)).bind fun z=>(bn z (sl c 0)).bind fun i=>(aa i i).bind fun i=>callK (ah [i,I 16]) fun f c=>(aa (sl c 0) (sl c 0)).bind fun _=>(bin .eql false [] (sl f 0) (I 0)).bind fun z=>ifD z ((aa (sl d 0) (.ref 0 0)).bind fun z=>(aa (sl c 0) (.ref 0 0)).bind fun h=>(ay 1 [I 0,I 8,I 9,I 1]).bind fun a=>(bn h (sl c 0)).bind fun i=>(aa i i).bind fun i=>callK (ak [i,a]) fun j c=>(aa (sl c 0) (sl c 0)).bind fun _=>((aa z (sl d 0)).bind fun b=>dE 2 b (sl p 0)).bind fun z=>(cW 0 z).bind fun z=>(stD 1 (sl d 0) z (sl j 0)).bind fun b=>(aa (sl c 0) (sl c 0)).bind fun _=>some (.ret [b] [sl c 0])) ((bin .eql false [] (sl f 0) (I 1)).bind fun z=>ifD z ((cO [(0,1),(1,1)] [I 0,I 0] [I 1,I 1]).bind fun z=>(ay 2 [z]).bind fun a=>(dq a).bind fun b=>(bY 2 16 (sl d 0) b).bind fun y=>(aa (sl c 0) (sl c 0)).bind fun _=>some (.ret [y] [sl c 0])) ((bin .eql false [] (sl f 0) (I 2)).bind fun z=>ifD z ((aa (sl c 0) (.ref 0 0)).bind fun z=>(bn z (sl c 0)).bind fun i=>(aa i i).bind fun i=>callK (ah [i,I 2]) fun j c=>(aa (sl c 0) (sl c 0)).bind fun _=>(bin .add false [] (I 8) (sl j 0)).bind fun z=>(aQ (fun s=>(aa (sl s 1) (.ref 0 0)).bind fun z=>((aa z (sl s 1)).bind (lenD false)).bind fun z=>(bin .lss false [] z (sl s 2)).bind fun z=>ifD z ((cO [(0,1),(1,1)] [I 0,I 0] [I 1,I 1]).bind fun z=>(ay 2 [z]).bind fun a=>(dq a).bind fun b=>(bY 2 16 (sl s 1) b).bind fun y=>some (.nrm [sl s 0,y,sl s 2])) (some (.ext 1 [sl s 0,sl s 1]))) [sl c 0,sl d 0,z]).bind fun o=>outK o (fun i s=>ifN (i.beq 1) ((aa (sl s 0) (sl s 0)).bind fun _=>some (.ret [sl s 1] [sl s 0])) (ifN (i.beq 0) ((aa (sl s 0) (sl s 0)).bind fun _=>some (.ret [sl s 1] [sl s 0])) none)) fun a b=>some (.ret a b)) ((bin .eql false [] (sl f 0) (I 3)).bind fun z=>ifD z ((cO [(0,1),(1,1)] [I 0,I 0] [I 2,I 2]).bind fun z=>(cO [(0,1),(1,1)] [I 0,I 0] [I 5,I 1]).bind fun h=>(ay 2 [z,h]).bind fun a=>(aa (sl c 0) (sl c 0)).bind fun _=>some (.ret [a] [sl c 0])) ((aa (sl c 0) (sl c 0)).bind fun _=>some (.ret [sl d 0] [sl c 0]))))))):=by kernel_rfl
theorem ue (x0:D):fK [x0]=((cO [(0,1)] [.arr 1 [],I 0,.v (ZG ZM 0)] [x0]).bind fun z=>(bE 3 z).bind fun y=>(aa y (.ref 0 0)).bind fun z=>(aa z z).bind fun f=>(bn f y).bind fun i=>(aa i i).bind fun i=>callK (eG [i]) fun d c=>(aa (sl c 0) (sl c 0)).bind fun _=>(aa z z).bind fun g=>(bn g (sl c 0)).bind fun i=>(aa i i).bind fun i=>callK (eG [i]) fun e c=>(aa (sl c 0) (sl c 0)).bind fun _=>(aa z z).bind fun h=>(bn h (sl c 0)).bind fun i=>(aa i i).bind fun i=>callK (aP [i,I 12]) fun j c=>(aa (sl c 0) (sl c 0)).bind fun _=>ifD (sl j 0) ((cO [(0,1),(1,1)] [I 0,I 0] [I 2,I 2]).bind fun z=>(cO [(0,1),(1,1)] [I 0,I 0] [I 5,I 1]).bind fun k=>(ay 2 [z,k]).bind fun a=>some (.ret [I 3,I 3,a] [])) ((aa z z).bind fun z=>(bn z (sl c 0)).bind fun i=>(aa i i).bind fun i=>callK (fZ [i,sl d 0,sl e 0]) fun l c=>(aa (sl c 0) (sl c 0)).bind fun _=>some (.ret [sl d 0,sl e 0,sl l 0] []))):=by kernel_rfl
theorem DY (x0:D):jJ [x0]=((lenD false x0).bind fun z=>(aQ (fun s=>(bin .lss false [] (sl s 3) (sl s 2)).bind fun z=>ifD z ((ZE D.ptr (aI 2 (sl s 1) (sl s 3))).bind fun z=>((ldD true 2 z).bind bq).bind fun z=>(stD 2 (.agg [I 0,I 0]) (.ref 0 0) z).bind fun b=>(aa b (.ref 0 0)).bind fun z=>((atD b z).bind (au false 1)).bind fun z=>callK (dZ [z]) fun c _=>(un .not (sl c 0)).bind fun z=>(af D.bad z false (aa b (.ref 0 1))).bind fun d=>(af (.tup []) z false ((atD b d).bind (au false 1))).bind fun e=>bX z false (callK (dZ [e]) fun c _=>some (.nrm [sl c 0])) [.tup []] fun f=>(af (.tup []) z false (un .not (sl f 0))).bind fun g=>(aU z (B true) g).bind fun z=>ifD z (some (.ret [B false] [])) ((bin .add false [] (sl s 3) (I 1)).bind fun z=>some (.nrm [sl s 0,sl s 1,sl s 2,z]))) (some (.ext 0 [sl s 0]))) [x0,x0,z,I 0]).bind fun o=>outK o (fun i s=>ifN (i.beq 0) ((lenD false (sl s 0)).bind fun z=>(bin .leq false [] z (I 8)).bind fun z=>some (.ret [z] [])) none) fun a b=>some (.ret a b)):=by kernel_rfl
theorem Hy (x0 x1 x2:D):kU [x0,x1,x2]=(callK (dZ [x0]) fun c _=>(af (.tup []) (sl c 0) true (some x1)).bind fun z=>bX (sl c 0) true (callK (dZ [z]) fun c _=>some (.nrm [sl c 0])) [.tup []] fun d=>(aU (sl c 0) (sl d 0) (B false)).bind fun z=>(af (.tup []) z true (some x2)).bind fun e=>bX z true (callK (jJ [e]) fun c _=>some (.nrm [sl c 0])) [.tup []] fun d=>(aU z (sl d 0) (B false)).bind fun z=>some (.ret [z] [])):=by kernel_rfl
theorem JB (x0:D):mE [x0]=((lenD false x0).bind fun z=>(aQ (fun s=>(bin .lss false [] (sl s 3) (sl s 2)).bind fun z=>ifD z ((ZE D.ptr (aI 2 (sl s 1) (sl s 3))).bind fun z=>((ldD true 2 z).bind bq).bind fun z=>(stD 2 (.agg [I 0,I 0]) (.ref 0 0) z).bind fun b=>(aa b (.ref 0 0)).bind fun z=>((atD b z).bind (au false 1)).bind fun z=>(aa b (.ref 0 1)).bind fun c=>((atD b c).bind (au false 1)).bind fun d=>(bin .mul false [] z d).bind fun z=>(bin .add false [] (sl s 0) z).bind fun z=>(bin .add false [] (sl s 3) (I 1)).bind fun e=>some (.nrm [z,sl s 1,sl s 2,e])) (some (.ext 0 [sl s 0]))) [I 0,x0,z,I 0]).bind fun o=>outK o (fun i s=>ifN (i.beq 0) (some (.ret [sl s 0] [])) none) fun a b=>some (.ret a b)):=by kernel_rfl
theorem Bz (x0 x1:D):gK [x0,x1]=((lenD false x0).bind fun z=>(aQ (fun s=>(bin .lss false [] (sl s 3) (sl s 2)).bind fun z=>ifD z ((ZE D.ptr (aI 1 (sl s 1) (sl s 3))).bind fun z=>((ldD false 1 z).bind bq).bind fun z=>(bin .eql false [] z (sl s 0)).bind fun z=>ifD z (some (.ret [B true] [])) ((bin .add false [] (sl s 3) (I 1)).bind fun z=>some (.nrm [sl s 0,sl s 1,sl s 2,z]))) (some (.ext 0 []))) [x1,x0,z,I 0]).bind fun o=>outK o (fun i _=>ifN (i.beq 0) (some (.ret [B false] [])) none) fun a b=>some (.ret a b)):=by kernel_rfl
theorem GI (x0 x1:D):kW [x0,x1]=((bE 2 x0).bind fun y=>ifD x1 ((aa y (.ref 0 1)).bind fun z=>((atD y z).bind (au false 1)).bind fun z=>(aa y (.ref 0 0)).bind fun c=>((atD y c).bind (au false 1)).bind fun d=>some (.ret [z,d] [])) ((aa y (.ref 0 0)).bind fun z=>((atD y z).bind (au false 1)).bind fun z=>(aa y (.ref 0 1)).bind fun c=>((atD y c).bind (au false 1)).bind fun d=>some (.ret [z,d] []))):=by kernel_rfl
theorem AF (x0:D):eW [x0]=((ay 1 []).bind fun a=>(dq x0).bind fun b=>(bY 1 8 a b).bind fun y=>some (.ret [y] [])):=by kernel_rfl
theorem MF (x0 x1 x2 x3 x4 x5 x6:D):nE [x0,x1,x2,x3,x4,x5,x6]=((bE 2 x3).bind fun y=>(ba true 2 0 y).bind fun z=>callK (kW [z,x4]) fun d _=>(aF (.tup d) 0).bind fun z=>(aF (.tup d) 1).bind fun e=>(bin .rem false [] x5 x1).bind fun f=>(bin .quo false [] x5 x1).bind fun g=>(bin .add false [] f z).bind fun h=>(bin .gtr false [] h x1).bind fun c=>(af (.tup []) c false (some g)).bind fun j=>(af (.tup []) c false (some e)).bind fun k=>(af (.tup []) c false (bin .add false [] j k)).bind fun l=>(af (.tup []) c false (some x2)).bind fun m=>(af (.tup []) c false (bin .gtr false [] l m)).bind fun n=>(aU c (B true) n).bind fun p=>ifD p (some (.ret [.arr 1 [],B false] [])) (callK (eW [x0]) fun d _=>(aQ (fun s=>(bin .lss false [] (sl s 6) (sl s 4)).bind fun z=>ifD z ((aQ (fun s=>(bin .lss false [] (sl s 7) (sl s 3)).bind fun z=>ifD z ((aa (sl s 5) (.ref 0 0)).bind fun z=>(bin .mul false [] (sl s 6) (sl s 0)).bind fun q=>(bin .add false [] (sl s 1) q).bind fun r=>(bin .add false [] r (sl s 7)).bind fun t=>((aa z (sl s 5)).bind fun b=>dE 1 b t).bind fun z=>((atD (sl s 5) z).bind (au false 1)).bind fun z=>(bin .geq false [] z (I 0)).bind fun z=>ifD z (some (.ret [.arr 1 [],B false] [])) ((aa (sl s 5) (.ref 0 0)).bind fun z=>(bin .mul false [] (sl s 6) (sl s 0)).bind fun u=>(bin .add false [] (sl s 1) u).bind fun v=>(bin .add false [] v (sl s 7)).bind fun w=>((aa z (sl s 5)).bind fun b=>dE 1 b w).bind fun z=>(stD 1 (sl s 5) z (sl s 2)).bind fun b=>(bin .add false [] (sl s 7) (I 1)).bind fun z=>some (.nrm [sl s 0,sl s 1,sl s 2,sl s 3,sl s 4,b,sl s 6,z]))) (some (.ext 2 [sl s 0,sl s 1,sl s 2,sl s 3,sl s 4,sl s 5,sl s 6]))) [sl s 0,sl s 1,sl s 2,sl s 3,sl s 4,sl s 5,sl s 6,I 0]).bind fun o=>outK o (fun i s=>ifN (i.beq 2) ((bin .add false [] (sl s 6) (I 1)).bind fun z=>some (.nrm [sl s 0,sl s 1,sl s 2,sl s 3,sl s 4,sl s 5,z])) (ifN (i.beq 1) ((bin .add false [] (sl s 6) (I 1)).bind fun z=>some (.nrm [sl s 0,sl s 1,sl s 2,sl s 3,sl s 4,sl s 5,z])) (some (.ext i [sl s 5])))) fun a b=>some (.ret a b)) (some (.ext 0 [sl s 5]))) [x1,x5,x6,z,e,sl d 0,I 0]).bind fun o=>outK o (fun i s=>ifN (i.beq 0) (some (.ret [sl s 0,B true] [])) none) fun a b=>some (.ret a b))):=by kernel_rfl
theorem me (n:Nat) (x0 x1 x2 x3 x4:D):dH (n+1) [x0,x1,x2,x3,x4]=((aQ (fun s=>(lenD false (sl s 0)).bind fun z=>(bin .lss false [] (sl s 5) z).bind fun z=>(af (.tup []) z true (some (sl s 0))).bind fun d=>(af (.tup []) z true (some (sl s 5))).bind fun e=>(af (.tup []) z true (ZE D.ptr (aI 1 d e))).bind fun f=>(af (.tup []) z true ((ldD false 1 f).bind bq)).bind fun g=>(af (.tup []) z true (bin .geq false [] g (I 0))).bind fun h=>(aU z h (B false)).bind fun z=>ifD z ((bin .add false [] (sl s 5) (I 1)).bind fun z=>some (.nrm [sl s 0,sl s 1,sl s 2,sl s 3,sl s 4,z])) (some (.ext 0 [sl s 0,sl s 1,sl s 2,sl s 3,sl s 4,sl s 5]))) [x0,x1,x2,x3,x4,I 0]).bind fun o=>outK o (fun i s=>ifN (i.beq 0) ((lenD false (sl s 0)).bind fun z=>(bin .eql false [] (sl s 5) z).bind fun z=>ifD z ((lenD false (sl s 4)).bind fun z=>(lenD false (sl s 3)).bind fun d=>(bin .eql false [] z d).bind fun z=>some (.ret [.arr 4 [],z] [])) ((lenD false (sl s 3)).bind fun z=>(aQ (fun s=>(bin .lss false [] (sl s 8) (sl s 7)).bind fun z=>ifD z ((ZE D.ptr (aI 2 (sl s 6) (sl s 8))).bind fun z=>((ldD true 2 z).bind bq).bind fun z=>(stD 2 (.agg [I 0,I 0]) (.ref 0 0) z).bind fun b=>callK (gK [sl s 4,sl s 8]) fun c _=>ifD (sl c 0) ((bin .add false [] (sl s 8) (I 1)).bind fun z=>some (.nrm [sl s 0,sl s 1,sl s 2,sl s 3,sl s 4,sl s 5,sl s 6,sl s 7,z])) ((ay 1 [B false,B true]).bind fun a=>(lenD false a).bind fun z=>(aQ (fun s=>(bin .lss false [] (sl s 13) (sl s 12)).bind fun z=>ifD z ((ZE D.ptr (aI 1 (sl s 11) (sl s 13))).bind fun z=>((ldD false 1 z).bind bq).bind fun z=>(af D.bad z true (aa (sl s 7) (.ref 0 0))).bind fun d=>(af (.tup []) z true ((atD (sl s 7) d).bind (au false 1))).bind fun e=>(af D.bad z true (aa (sl s 7) (.ref 0 1))).bind fun f=>(af (.tup []) z true ((atD (sl s 7) f).bind (au false 1))).bind fun g=>(af (.tup []) z true (bin .eql false [] e g)).bind fun h=>(aU z h (B false)).bind fun j=>ifD j ((bin .add false [] (sl s 13) (I 1)).bind fun z=>some (.nrm [sl s 0,sl s 1,sl s 2,sl s 3,sl s 4,sl s 5,sl s 6,sl s 7,sl s 8,sl s 9,sl s 10,sl s 11,sl s 12,z])) ((ba true 2 0 (sl s 7)).bind fun k=>callK (nE [sl s 0,sl s 1,sl s 2,k,z,sl s 5,sl s 6]) fun c _=>(aF (.tup c) 0).bind fun y=>(aF (cv (.tup c) 0) 1).bind fun l=>(un .not l).bind fun m=>ifD m ((bin .add false [] (sl s 13) (I 1)).bind fun z=>some (.nrm [sl s 0,sl s 1,sl s 2,sl s 3,sl s 4,sl s 5,sl s 6,sl s 7,sl s 8,sl s 9,sl s 10,sl s 11,sl s 12,z])) (callK (eW [sl s 4]) fun c _=>(ay 1 [sl s 6]).bind fun a=>(bY 1 8 (sl c 0) a).bind fun p=>callK (dH n [y,sl s 1,sl s 2,sl s 3,p]) fun c _=>(aF (.tup c) 0).bind fun y=>(aF (cv (.tup c) 0) 1).bind fun q=>ifD q ((bin .rem false [] (sl s 5) (sl s 1)).bind fun r=>(bin .quo false [] (sl s 5) (sl s 1)).bind fun t=>(cO [(0,1),(1,1),(2,1),(3,1)] [I 0,I 0,I 0,B false] [sl s 6,r,t,z]).bind fun z=>(ay 4 [z]).bind fun a=>(dq y).bind fun b=>(bY 4 32 a b).bind fun y=>some (.ret [y,B true] [])) ((bin .add false [] (sl s 13) (I 1)).bind fun z=>some (.nrm [sl s 0,sl s 1,sl s 2,sl s 3,sl s 4,sl s 5,sl s 6,sl s 7,sl s 8,sl s 9,sl s 10,sl s 11,sl s 12,z]))))) (some (.ext 4 [sl s 0,sl s 1,sl s 2,sl s 3,sl s 4,sl s 5,sl s 8,sl s 9,sl s 10]))) [sl s 0,sl s 1,sl s 2,sl s 3,sl s 4,sl s 5,sl s 8,b,sl s 6,sl s 7,sl s 8,a,z,I 0]).bind fun o=>outK o (fun i s=>ifN (i.beq 4) ((bin .add false [] (sl s 8) (I 1)).bind fun z=>some (.nrm [sl s 0,sl s 1,sl s 2,sl s 3,sl s 4,sl s 5,sl s 6,sl s 7,z])) (ifN (i.beq 3) ((bin .add false [] (sl s 8) (I 1)).bind fun z=>some (.nrm [sl s 0,sl s 1,sl s 2,sl s 3,sl s 4,sl s 5,sl s 6,sl s 7,z])) (some (.ext i [])))) fun a b=>some (.ret a b))) (some (.ext 2 []))) [sl s 0,sl s 1,sl s 2,sl s 3,sl s 4,sl s 5,sl s 3,z,I 0]).bind fun o=>outK o (fun i _=>ifN (i.beq 2) (some (.ret [.arr 4 [],B false] [])) none) fun a b=>some (.ret a b))) none) fun a b=>some (.ret a b)):=by kernel_rfl
theorem FW (x0 x1 x2:D):kH [x0,x1,x2]=(callK (mE [x2]) fun c _=>(bin .mul false [] x0 x1).bind fun z=>(bin .neq false [] (sl c 0) z).bind fun z=>ifD z (some (.ret [.arr 4 [],B false] [])) ((bin .mul false [] x0 x1).bind fun z=>(Nj 1 8 (I 0) z z).bind fun y=>(aa y (.ref 0 0)).bind fun z=>(aa z (.ref 0 0)).bind fun d=>((aa d y).bind (lenD false)).bind fun e=>(aQ (fun s=>(bin .lss false [] (sl s 6) (sl s 5)).bind fun z=>ifD z ((aa (sl s 3) (.ref 0 0)).bind fun z=>((aa z (sl s 4)).bind fun b=>dE 1 b (sl s 6)).bind fun z=>(stD 1 (sl s 4) z (I (-1))).bind fun b=>(bin .add false [] (sl s 6) (I 1)).bind fun z=>some (.nrm [sl s 0,sl s 1,sl s 2,sl s 3,b,sl s 5,z])) (some (.ext 0 [sl s 0,sl s 1,sl s 2,sl s 3,sl s 4]))) [x0,x1,x2,z,y,e,I 0]).bind fun o=>outK o (fun i s=>ifN (i.beq 0) ((aa (sl s 3) (.ref 0 0)).bind fun z=>(aa z (sl s 4)).bind fun i=>callK (qF [i,sl s 0,sl s 1,sl s 2,.arr 0 []]) fun c _=>(aF (.tup c) 0).bind fun y=>(aF (cv (.tup c) 0) 1).bind fun z=>(un .not z).bind fun z=>ifD z (some (.ret [.arr 4 [],B false] [])) ((lenD false (sl s 2)).bind fun z=>(aQ (fun s=>(bin .lss false [] (sl s 3) (sl s 2)).bind fun z=>ifD z ((lenD false (sl s 0)).bind fun z=>(aQ (fun s=>(bin .lss false [] (sl s 7) (sl s 6)).bind fun z=>ifD z ((ZE D.ptr (aI 4 (sl s 5) (sl s 7))).bind fun z=>((ldD true 4 z).bind bq).bind fun z=>(stD 4 (.agg [I 0,I 0,I 0,B false]) (.ref 0 0) z).bind fun b=>(aa b (.ref 0 0)).bind fun z=>((atD b z).bind (au false 1)).bind fun z=>(bin .eql false [] z (sl s 2)).bind fun z=>ifD z ((ba true 4 0 b).bind fun z=>(ay 4 [z]).bind fun a=>(dq a).bind fun b=>(bY 4 32 (sl s 1) b).bind fun y=>(bin .add false [] (sl s 7) (I 1)).bind fun z=>some (.nrm [sl s 0,y,sl s 2,sl s 3,sl s 4,sl s 5,sl s 6,z])) ((bin .add false [] (sl s 7) (I 1)).bind fun z=>some (.nrm [sl s 0,sl s 1,sl s 2,sl s 3,sl s 4,sl s 5,sl s 6,z]))) (some (.ext 4 [sl s 0,sl s 1,sl s 3,sl s 4]))) [sl s 0,sl s 1,sl s 3,sl s 2,sl s 3,sl s 0,z,I 0]).bind fun o=>outK o (fun i s=>ifN (i.beq 4) ((bin .add false [] (sl s 3) (I 1)).bind fun z=>some (.nrm [sl s 0,sl s 1,sl s 2,z])) (ifN (i.beq 3) ((bin .add false [] (sl s 3) (I 1)).bind fun z=>some (.nrm [sl s 0,sl s 1,sl s 2,z])) (some (.ext i [sl s 1])))) fun a b=>some (.ret a b)) (some (.ext 2 [sl s 1]))) [y,.arr 4 [],z,I 0]).bind fun o=>outK o (fun i s=>ifN (i.beq 2) (some (.ret [sl s 0,B true] [])) none) fun a b=>some (.ret a b))) none) fun a b=>some (.ret a b))):=by kernel_rfl
theorem BT (x0 x1 x2:D):jk [x0,x1,x2]=(callK (kU [x0,x1,x2]) fun c _=>(un .not (sl c 0)).bind fun z=>ifD z (some (.ret [.arr 4 [],B false] [])) (callK (kH [x0,x1,x2]) fun c _=>(aF (.tup c) 0).bind fun y=>(aF (cv (.tup c) 0) 1).bind fun z=>some (.ret [y,z] []))):=by kernel_rfl
theorem AC (x0:D):iI [x0]=((lenD false x0).bind fun z=>(aQ (fun s=>(bin .lss false [] (sl s 3) (sl s 2)).bind fun z=>ifD z ((ZE D.ptr (aI 1 (sl s 1) (sl s 3))).bind fun z=>(ldD false 1 z).bind fun z=>(lenD false z).bind fun c=>(aQ (fun s=>(bin .lss false [] (sl s 6) (sl s 5)).bind fun z=>ifD z ((ZE D.ptr (aI 1 (sl s 4) (sl s 6))).bind fun z=>((ldD false 1 z).bind bq).bind fun z=>(bin .eql false [] z (I (-1))).bind fun z=>ifD z ((bin .add false [] (sl s 0) (I 1)).bind fun z=>(bin .add false [] (sl s 6) (I 1)).bind fun d=>some (.nrm [z,sl s 1,sl s 2,sl s 3,sl s 4,sl s 5,d])) ((bin .add false [] (sl s 6) (I 1)).bind fun z=>some (.nrm [sl s 0,sl s 1,sl s 2,sl s 3,sl s 4,sl s 5,z]))) (some (.ext 2 [sl s 0,sl s 1,sl s 2,sl s 3]))) [sl s 0,sl s 1,sl s 2,sl s 3,z,c,I 0]).bind fun o=>outK o (fun i s=>ifN (i.beq 2) ((bin .add false [] (sl s 3) (I 1)).bind fun z=>some (.nrm [sl s 0,sl s 1,sl s 2,z])) (ifN (i.beq 1) ((bin .add false [] (sl s 3) (I 1)).bind fun z=>some (.nrm [sl s 0,sl s 1,sl s 2,z])) (some (.ext i [sl s 0])))) fun a b=>some (.ret a b)) (some (.ext 0 [sl s 0]))) [I 0,x0,z,I 0]).bind fun o=>outK o (fun i s=>ifN (i.beq 0) (some (.ret [sl s 0] [])) none) fun a b=>some (.ret a b)):=by kernel_rfl
theorem IW (x0 x1 x2:D):bK [x0,x1,x2]=((bin .geq false [] x0 x1).bind fun z=>(af (.tup []) z true (some x0)).bind fun c=>(af (.tup []) z true (some x2)).bind fun d=>(af (.tup []) z true (bin .leq false [] c d)).bind fun e=>(aU z e (B false)).bind fun z=>some (.ret [z] [])):=by kernel_rfl
theorem yn (x0:D):cT [x0]=(callK (bK [x0,I 1,I 8]) fun c _=>some (.ret [sl c 0] [])):=by kernel_rfl
theorem BR (x0:D):gj [x0]=((lenD false x0).bind fun z=>(aQ (fun s=>(bin .lss false [] (sl s 3) (sl s 2)).bind fun z=>ifD z ((ZE D.ptr (aI 2 (sl s 1) (sl s 3))).bind fun z=>((ldD true 2 z).bind bq).bind fun z=>(stD 2 (.agg [I 0,I 0]) (.ref 0 0) z).bind fun b=>(aa b (.ref 0 0)).bind fun z=>((atD b z).bind (au false 1)).bind fun z=>callK (cT [z]) fun c _=>(un .not (sl c 0)).bind fun z=>(af D.bad z false (aa b (.ref 0 1))).bind fun d=>(af (.tup []) z false ((atD b d).bind (au false 1))).bind fun e=>bX z false (callK (cT [e]) fun c _=>some (.nrm [sl c 0])) [.tup []] fun f=>(af (.tup []) z false (un .not (sl f 0))).bind fun g=>(aU z (B true) g).bind fun z=>ifD z (some (.ret [B false] [])) ((bin .add false [] (sl s 3) (I 1)).bind fun z=>some (.nrm [sl s 0,sl s 1,sl s 2,z]))) (some (.ext 0 [sl s 0]))) [x0,x0,z,I 0]).bind fun o=>outK o (fun i s=>ifN (i.beq 0) ((lenD false (sl s 0)).bind fun z=>(bin .leq false [] z (I 8)).bind fun z=>some (.ret [z] [])) none) fun a b=>some (.ret a b)):=by kernel_rfl
theorem FR (x0 x1 x2:D):kK [x0,x1,x2]=(callK (cT [x0]) fun c _=>(af (.tup []) (sl c 0) true (some x1)).bind fun z=>bX (sl c 0) true (callK (cT [z]) fun c _=>some (.nrm [sl c 0])) [.tup []] fun d=>(aU (sl c 0) (sl d 0) (B false)).bind fun z=>(af (.tup []) z true (some x2)).bind fun e=>bX z true (callK (gj [e]) fun c _=>some (.nrm [sl c 0])) [.tup []] fun d=>(aU z (sl d 0) (B false)).bind fun z=>some (.ret [z] [])):=by kernel_rfl
theorem MT (x0:D):pM [x0]=((lenD false x0).bind fun z=>(aQ (fun s=>(bin .lss false [] (sl s 3) (sl s 2)).bind fun z=>ifD z ((ZE D.ptr (aI 2 (sl s 1) (sl s 3))).bind fun z=>((ldD true 2 z).bind bq).bind fun z=>(stD 2 (.agg [I 0,I 0]) (.ref 0 0) z).bind fun b=>(aa b (.ref 0 0)).bind fun z=>((atD b z).bind (au false 1)).bind fun z=>(aa b (.ref 0 1)).bind fun c=>((atD b c).bind (au false 1)).bind fun d=>(bin .mul false [] z d).bind fun z=>(bin .add false [] (sl s 0) z).bind fun z=>(bin .add false [] (sl s 3) (I 1)).bind fun e=>some (.nrm [z,sl s 1,sl s 2,e])) (some (.ext 0 [sl s 0]))) [I 0,x0,z,I 0]).bind fun o=>outK o (fun i s=>ifN (i.beq 0) (some (.ret [sl s 0] [])) none) fun a b=>some (.ret a b)):=by kernel_rfl
theorem Iw (x0 x1:D):mx [x0,x1]=((bE 4 x1).bind fun y=>(aa y (.ref 0 0)).bind fun z=>((atD y z).bind (au false 1)).bind fun z=>(ZE D.ptr (aI 2 x0 z)).bind fun z=>((ldD true 2 z).bind bq).bind fun z=>(stD 2 (.agg [I 0,I 0]) (.ref 0 0) z).bind fun b=>(aa y (.ref 0 3)).bind fun z=>((atD y z).bind (au false 1)).bind fun z=>ifD z ((aa b (.ref 0 1)).bind fun z=>((atD b z).bind (au false 1)).bind fun z=>(aa b (.ref 0 0)).bind fun c=>((atD b c).bind (au false 1)).bind fun d=>some (.ret [z,d] [])) ((aa b (.ref 0 0)).bind fun z=>((atD b z).bind (au false 1)).bind fun z=>(aa b (.ref 0 1)).bind fun c=>((atD b c).bind (au false 1)).bind fun d=>some (.ret [z,d] []))):=by kernel_rfl
theorem Iq (x0 x1 x2:D):jE [x0,x1,x2]=((bE 4 x2).bind fun y=>(ba true 4 0 y).bind fun z=>callK (mx [x1,z]) fun f _=>(aF (.tup f) 0).bind fun z=>(aF (.tup f) 1).bind fun g=>(aa y (.ref 0 1)).bind fun h=>((atD y h).bind (au false 1)).bind fun j=>(bin .lss false [] j (I 0)).bind fun e=>(af D.bad e false (aa y (.ref 0 2))).bind fun k=>(af (.tup []) e false ((atD y k).bind (au false 1))).bind fun l=>(af (.tup []) e false (bin .lss false [] l (I 0))).bind fun m=>(aU e (B true) m).bind fun c=>(af D.bad c false (aa y (.ref 0 1))).bind fun n=>(af (.tup []) c false ((atD y n).bind (au false 1))).bind fun p=>(af (.tup []) c false (some z)).bind fun q=>(af (.tup []) c false (bin .add false [] p q)).bind fun r=>(af (.tup []) c false (some x0)).bind fun t=>(af (.tup []) c false (ZE D.ptr (aI 1 t (I 0)))).bind fun u=>(af (.tup []) c false (ldD false 1 u)).bind fun v=>(af (.tup []) c false (lenD false v)).bind fun w=>(af (.tup []) c false (bin .gtr false [] r w)).bind fun za=>(aU c (B true) za).bind fun d=>(af D.bad d false (aa y (.ref 0 2))).bind fun zb=>(af (.tup []) d false ((atD y zb).bind (au false 1))).bind fun zc=>(af (.tup []) d false (some g)).bind fun zd=>(af (.tup []) d false (bin .add false [] zc zd)).bind fun ze=>(af (.tup []) d false (some x0)).bind fun zf=>(af (.tup []) d false (lenD false zf)).bind fun zg=>(af (.tup []) d false (bin .gtr false [] ze zg)).bind fun zh=>(aU d (B true) zh).bind fun zi=>ifD zi (some (.ret [B false] [])) ((aa y (.ref 0 2)).bind fun zj=>((atD y zj).bind (au false 1)).bind fun zk=>(aQ (fun s=>(aa (sl s 1) (.ref 0 2)).bind fun z=>((atD (sl s 1) z).bind (au false 1)).bind fun z=>(bin .add false [] z (sl s 3)).bind fun z=>(bin .lss false [] (sl s 4) z).bind fun z=>ifD z ((aa (sl s 1) (.ref 0 1)).bind fun z=>((atD (sl s 1) z).bind (au false 1)).bind fun z=>(aQ (fun s=>(aa (sl s 1) (.ref 0 1)).bind fun z=>((atD (sl s 1) z).bind (au false 1)).bind fun z=>(bin .add false [] z (sl s 2)).bind fun z=>(bin .lss false [] (sl s 5) z).bind fun z=>ifD z ((ZE D.ptr (aI 1 (sl s 0) (sl s 4))).bind fun z=>(ldD false 1 z).bind fun z=>(ZE D.ptr (aI 1 z (sl s 5))).bind fun z=>((ldD false 1 z).bind bq).bind fun z=>(bin .neq false [] z (I (-1))).bind fun z=>ifD z (some (.ret [B false] [])) ((bin .add false [] (sl s 5) (I 1)).bind fun z=>some (.nrm [sl s 0,sl s 1,sl s 2,sl s 3,sl s 4,z]))) (some (.ext 2 [sl s 0,sl s 1,sl s 2,sl s 3,sl s 4]))) [sl s 0,sl s 1,sl s 2,sl s 3,sl s 4,z]).bind fun o=>outK o (fun i s=>ifN (i.beq 2) ((bin .add false [] (sl s 4) (I 1)).bind fun z=>some (.nrm [sl s 0,sl s 1,sl s 2,sl s 3,z])) (ifN (i.beq 1) ((bin .add false [] (sl s 4) (I 1)).bind fun z=>some (.nrm [sl s 0,sl s 1,sl s 2,sl s 3,z])) (some (.ext i [])))) fun a b=>some (.ret a b)) (some (.ext 0 []))) [x0,y,z,g,zk]).bind fun o=>outK o (fun i _=>ifN (i.beq 0) (some (.ret [B true] [])) none) fun a b=>some (.ret a b))):=by kernel_rfl
theorem Db (x0:D):lQ [x0]=((lenD false x0).bind fun z=>(aQ (fun s=>(bin .lss false [] (sl s 2) (sl s 1)).bind fun z=>ifD z ((ZE D.ptr (aI 1 (sl s 0) (sl s 2))).bind fun z=>(ldD false 1 z).bind fun z=>(lenD false z).bind fun c=>(aQ (fun s=>(bin .lss false [] (sl s 6) (sl s 5)).bind fun z=>ifD z ((ZE D.ptr (aI 1 (sl s 4) (sl s 6))).bind fun z=>((ldD false 1 z).bind bq).bind fun z=>(bin .eql false [] z (I (-1))).bind fun z=>ifD z (some (.ret [sl s 6,sl s 0,B true] [])) ((bin .add false [] (sl s 6) (I 1)).bind fun z=>some (.nrm [sl s 0,sl s 1,sl s 2,sl s 3,sl s 4,sl s 5,z]))) (some (.ext 2 [sl s 1,sl s 2,sl s 3]))) [sl s 2,sl s 0,sl s 1,sl s 2,z,c,I 0]).bind fun o=>outK o (fun i s=>ifN (i.beq 2) ((bin .add false [] (sl s 2) (I 1)).bind fun z=>some (.nrm [sl s 0,sl s 1,z])) (ifN (i.beq 1) ((bin .add false [] (sl s 2) (I 1)).bind fun z=>some (.nrm [sl s 0,sl s 1,z])) (some (.ext i [])))) fun a b=>some (.ret a b)) (some (.ext 0 []))) [x0,z,I 0]).bind fun o=>outK o (fun i _=>ifN (i.beq 0) (some (.ret [I 0,I 0,B false] [])) none) fun a b=>some (.ret a b)):=by kernel_rfl
theorem BB (x0 x1 x2:D):fP [x0,x1,x2]=((aQ (fun s=>(lenD true (sl s 0)).bind fun z=>(bin .lss false [] (sl s 3) z).bind fun z=>ifD z ((Ay (sl s 0) (sl s 3)).bind fun z=>(bin .lss false [] z (.v (ZG aac 97))).bind fun z=>(af (.tup []) z false (some (sl s 0))).bind fun c=>(af (.tup []) z false (some (sl s 3))).bind fun d=>(af (.tup []) z false (Ay c d)).bind fun e=>(af (.tup []) z false (bin .gtr false [] e (.v (ZG aac 122)))).bind fun f=>(aU z (B true) f).bind fun z=>ifD z (some (.ret [B false] [])) ((bin .add false [] (sl s 3) (I 1)).bind fun z=>some (.nrm [sl s 0,sl s 1,sl s 2,z]))) (some (.ext 0 [sl s 0,sl s 1,sl s 2]))) [x0,x1,x2,I 0]).bind fun o=>outK o (fun i s=>ifN (i.beq 0) ((lenD true (sl s 0)).bind fun z=>callK (bK [z,sl s 1,sl s 2]) fun g _=>some (.ret [sl g 0] [])) none) fun a b=>some (.ret a b)):=by kernel_rfl
theorem Ij (x0:D):jw [x0]=(callK (fP [x0,I 1,I 3]) fun c _=>some (.ret [sl c 0] [])):=by kernel_rfl
theorem IZ (x0:D):ma [x0]=((bE 2 x0).bind fun y=>(aa y (.ref 0 0)).bind fun z=>((atD y z).bind (au false 1)).bind fun z=>callK (jw [z]) fun c _=>(af D.bad (sl c 0) true (aa y (.ref 0 1))).bind fun z=>(af (.tup []) (sl c 0) true ((atD y z).bind (au false 1))).bind fun z=>bX (sl c 0) true (callK (bK [z,I 1,I 54]) fun c _=>some (.nrm [sl c 0])) [.tup []] fun d=>(aU (sl c 0) (sl d 0) (B false)).bind fun z=>some (.ret [z] [])):=by kernel_rfl
theorem Ih (x0:D):mD [x0]=((lenD false x0).bind fun z=>(aQ (fun s=>(bin .lss false [] (sl s 3) (sl s 2)).bind fun z=>ifD z ((ZE D.ptr (aI 2 (sl s 1) (sl s 3))).bind fun z=>((ldD true 2 z).bind bq).bind fun z=>(stD 2 (.agg [.v (.string ⟨⟨[]⟩⟩),I 0]) (.ref 0 0) z).bind fun b=>(ba true 2 0 b).bind fun z=>callK (ma [z]) fun d _=>(un .not (sl d 0)).bind fun z=>(af (.tup []) z false (some (sl s 3))).bind fun e=>(af (.tup []) z false (bin .gtr false [] e (I 0))).bind fun f=>(af (.tup []) z false (some f)).bind fun c=>(af (.tup []) c true (some (sl s 0))).bind fun g=>(af (.tup []) c true (some (sl s 3))).bind fun h=>(af (.tup []) c true (bin .sub false [] h (I 1))).bind fun j=>(af (.tup []) c true (ZE D.ptr (aI 2 g j))).bind fun k=>(af (.tup []) c true (vW 0 k)).bind fun l=>(af (.tup []) c true ((ldD false 1 l).bind bq)).bind fun m=>(af D.bad c true (aa b (.ref 0 0))).bind fun n=>(af (.tup []) c true ((atD b n).bind (au false 1))).bind fun p=>(af (.tup []) c true (bin .geq false [] m p)).bind fun q=>(af (.tup []) z false (aU c q (B false))).bind fun r=>(aU z (B true) r).bind fun z=>ifD z (some (.ret [B false] [])) ((bin .add false [] (sl s 3) (I 1)).bind fun z=>some (.nrm [sl s 0,sl s 1,sl s 2,z]))) (some (.ext 0 [sl s 0]))) [x0,x0,z,I 0]).bind fun o=>outK o (fun i s=>ifN (i.beq 0) ((lenD false (sl s 0)).bind fun z=>callK (bK [z,I 1,I 32]) fun d _=>some (.ret [sl d 0] [])) none) fun a b=>some (.ret a b)):=by kernel_rfl
theorem Ls (x0 x1:D):kB [x0,x1]=((lenD false x0).bind fun z=>(aQ (fun s=>(bin .lss false [] (sl s 3) (sl s 2)).bind fun z=>ifD z ((ZE D.ptr (aI 4 (sl s 1) (sl s 3))).bind fun z=>((ldD true 4 z).bind bq).bind fun z=>(stD 4 (.agg [.v (.string ⟨⟨[]⟩⟩),I 0,I 0,I 0]) (.ref 0 0) z).bind fun b=>(aa b (.ref 0 0)).bind fun z=>((atD b z).bind (au false 1)).bind fun z=>(bin .eql false [] z (sl s 0)).bind fun z=>ifD z (some (.ret [sl s 3] [])) ((bin .add false [] (sl s 3) (I 1)).bind fun z=>some (.nrm [sl s 0,sl s 1,sl s 2,z]))) (some (.ext 0 []))) [x1,x0,z,I 0]).bind fun o=>outK o (fun i _=>ifN (i.beq 0) (some (.ret [I (-1)] [])) none) fun a b=>some (.ret a b)):=by kernel_rfl
theorem Ht (x0:D):iK [x0]=(callK (bK [x0,I 0,I 9]) fun c _=>some (.ret [sl c 0] [])):=by kernel_rfl
theorem Mc (x0:D):nR [x0]=((bE 4 x0).bind fun y=>(aa y (.ref 0 0)).bind fun z=>((atD y z).bind (au false 1)).bind fun z=>callK (jw [z]) fun c _=>(af D.bad (sl c 0) true (aa y (.ref 0 1))).bind fun z=>(af (.tup []) (sl c 0) true ((atD y z).bind (au false 1))).bind fun z=>bX (sl c 0) true (callK (iK [z]) fun c _=>some (.nrm [sl c 0])) [.tup []] fun d=>(aU (sl c 0) (sl d 0) (B false)).bind fun z=>(af D.bad z true (aa y (.ref 0 2))).bind fun e=>(af (.tup []) z true ((atD y e).bind (au false 1))).bind fun f=>bX z true (callK (iK [f]) fun c _=>some (.nrm [sl c 0])) [.tup []] fun d=>(aU z (sl d 0) (B false)).bind fun z=>(af D.bad z true (aa y (.ref 0 3))).bind fun g=>(af (.tup []) z true ((atD y g).bind (au false 1))).bind fun h=>bX z true (callK (bK [h,I 0,I 9999]) fun c _=>some (.nrm [sl c 0])) [.tup []] fun d=>(aU z (sl d 0) (B false)).bind fun z=>some (.ret [z] [])):=by kernel_rfl
theorem FE (x0 x1 x2:D):lp [x0,x1,x2]=((lenD false x0).bind fun z=>(aQ (fun s=>(bin .lss false [] (sl s 4) (sl s 3)).bind fun z=>ifD z ((ZE D.ptr (aI 4 (sl s 2) (sl s 4))).bind fun z=>((ldD true 4 z).bind bq).bind fun z=>(stD 4 (.agg [.v (.string ⟨⟨[]⟩⟩),I 0,I 0,I 0]) (.ref 0 0) z).bind fun b=>(aa b (.ref 0 1)).bind fun z=>((atD b z).bind (au false 1)).bind fun z=>(bin .eql false [] z (sl s 0)).bind fun z=>(af D.bad z true (aa b (.ref 0 2))).bind fun c=>(af (.tup []) z true ((atD b c).bind (au false 1))).bind fun d=>(af (.tup []) z true (some (sl s 1))).bind fun e=>(af (.tup []) z true (bin .eql false [] d e)).bind fun f=>(aU z f (B false)).bind fun z=>ifD z (some (.ret [B true] [])) ((bin .add false [] (sl s 4) (I 1)).bind fun z=>some (.nrm [sl s 0,sl s 1,sl s 2,sl s 3,z]))) (some (.ext 0 []))) [x1,x2,x0,z,I 0]).bind fun o=>outK o (fun i _=>ifN (i.beq 0) (some (.ret [B false] [])) none) fun a b=>some (.ret a b)):=by kernel_rfl
theorem II (x0:D):jH [x0]=((lenD false x0).bind fun z=>(aQ (fun s=>(bin .lss false [] (sl s 3) (sl s 2)).bind fun z=>ifD z ((ZE D.ptr (aI 4 (sl s 1) (sl s 3))).bind fun z=>((ldD true 4 z).bind bq).bind fun z=>(stD 4 (.agg [.v (.string ⟨⟨[]⟩⟩),I 0,I 0,I 0]) (.ref 0 0) z).bind fun b=>(ba true 4 0 b).bind fun z=>callK (nR [z]) fun d _=>(un .not (sl d 0)).bind fun z=>(af (.tup []) z false (some (sl s 3))).bind fun e=>(af (.tup []) z false (bin .gtr false [] e (I 0))).bind fun f=>(af (.tup []) z false (some f)).bind fun c=>(af (.tup []) c true (some (sl s 0))).bind fun g=>(af (.tup []) c true (some (sl s 3))).bind fun h=>(af (.tup []) c true (bin .sub false [] h (I 1))).bind fun j=>(af (.tup []) c true (ZE D.ptr (aI 4 g j))).bind fun k=>(af (.tup []) c true (vW 0 k)).bind fun l=>(af (.tup []) c true ((ldD false 1 l).bind bq)).bind fun m=>(af D.bad c true (aa b (.ref 0 0))).bind fun n=>(af (.tup []) c true ((atD b n).bind (au false 1))).bind fun p=>(af (.tup []) c true (bin .geq false [] m p)).bind fun q=>(af (.tup []) z false (aU c q (B false))).bind fun r=>(aU z (B true) r).bind fun z=>(af (.tup []) z false (some (sl s 0))).bind fun t=>(af (.tup []) z false (some (sl s 3))).bind fun u=>(af (.tup []) z false (eT false 4 t (I 0) u)).bind fun v=>(af D.bad z false (aa b (.ref 0 1))).bind fun w=>(af (.tup []) z false ((atD b w).bind (au false 1))).bind fun za=>(af D.bad z false (aa b (.ref 0 2))).bind fun zb=>(af (.tup []) z false ((atD b zb).bind (au false 1))).bind fun zc=>bX z false (callK (lp [v,za,zc]) fun d _=>some (.nrm [sl d 0])) [.tup []] fun zd=>(aU z (B true) (sl zd 0)).bind fun z=>ifD z (some (.ret [B false] [])) ((bin .add false [] (sl s 3) (I 1)).bind fun z=>some (.nrm [sl s 0,sl s 1,sl s 2,z]))) (some (.ext 0 [sl s 0]))) [x0,x0,z,I 0]).bind fun o=>outK o (fun i s=>ifN (i.beq 0) ((lenD false (sl s 0)).bind fun z=>callK (bK [z,I 1,I 32]) fun d _=>some (.ret [sl d 0] [])) none) fun a b=>some (.ret a b)):=by kernel_rfl
theorem El (x0 x1:D):gQ [x0,x1]=((lenD false x1).bind fun z=>(aQ (fun s=>(bin .lss false [] (sl s 4) (sl s 3)).bind fun z=>ifD z ((ZE D.ptr (aI 1 (sl s 2) (sl s 4))).bind fun z=>((ldD false 1 z).bind bq).bind fun z=>callK (kB [sl s 0,z]) fun c _=>(bin .lss false [] (sl c 0) (I 0)).bind fun z=>ifD z (some (.ret [B false] [])) ((bin .add false [] (sl s 4) (I 1)).bind fun z=>some (.nrm [sl s 0,sl s 1,sl s 2,sl s 3,z]))) (some (.ext 0 [sl s 0,sl s 1]))) [x0,x1,x1,z,I 0]).bind fun o=>outK o (fun i s=>ifN (i.beq 0) (callK (jH [sl s 0]) fun c _=>(af (.tup []) (sl c 0) true (some (sl s 1))).bind fun z=>(af (.tup []) (sl c 0) true (lenD false z)).bind fun z=>(af (.tup []) (sl c 0) true (bin .leq false [] z (I 60))).bind fun z=>(aU (sl c 0) z (B false)).bind fun z=>some (.ret [z] [])) none) fun a b=>some (.ret a b)):=by kernel_rfl
theorem CB (x0:D):gr [x0]=((bE 2 x0).bind fun y=>(aa y (.ref 0 0)).bind fun z=>((atD y z).bind (au false 1)).bind fun z=>(aa y (.ref 0 1)).bind fun c=>((atD y c).bind (au false 1)).bind fun d=>callK (gQ [z,d]) fun e _=>some (.ret [sl e 0] [])):=by kernel_rfl
theorem IA (x0:D):mu [x0]=(callK (fP [x0,I 1,I 16]) fun c _=>some (.ret [sl c 0] [])):=by kernel_rfl
theorem kO (x0 x1:D):cL [x0,x1]=((lenD true x0).bind fun z=>(lenD true x1).bind fun c=>(bin .geq false [] z c).bind fun z=>(af (.tup []) z true (some x0)).bind fun d=>(af (.tup []) z true (some x1)).bind fun e=>(af (.tup []) z true (lenD true e)).bind fun f=>(af (.tup []) z true (eT true 0 d (I 0) f)).bind fun g=>(af (.tup []) z true (some x1)).bind fun h=>(af (.tup []) z true (bin .eql false [] g h)).bind fun j=>(aU z j (B false)).bind fun z=>some (.ret [z] [])):=by kernel_rfl
theorem vQ (x0 x1:D):gf [x0,x1]=(callK (cL [x0,x1]) fun c _=>some (.ret [sl c 0] [])):=by kernel_rfl
theorem GZ (x0 x1:D):iM [x0,x1]=((ay 1 []).bind fun a=>(aQ (fun s=>(lenD true (sl s 1)).bind fun z=>(bin .gtr false [] z (I 0)).bind fun z=>ifD z ((lenD false (sl s 0)).bind fun z=>(aQ (fun s=>(bin .lss false [] (sl s 6) (sl s 5)).bind fun z=>ifD z ((ZE D.ptr (aI 2 (sl s 4) (sl s 6))).bind fun z=>((ldD true 2 z).bind bq).bind fun z=>(stD 2 (.agg [.v (.string ⟨⟨[]⟩⟩),I 0]) (.ref 0 0) z).bind fun b=>(aa b (.ref 0 0)).bind fun z=>((atD b z).bind (au false 1)).bind fun z=>callK (gf [sl s 1,z]) fun c _=>(af (.tup []) (sl c 0) true (some (sl s 3))).bind fun z=>(af (.tup []) (sl c 0) true (bin .lss false [] z (I 0))).bind fun z=>(af (.tup []) (sl c 0) true (some z)).bind fun z=>(af D.bad z false (aa b (.ref 0 0))).bind fun d=>(af (.tup []) z false ((atD b d).bind (au false 1))).bind fun e=>(af (.tup []) z false (lenD true e)).bind fun f=>(af (.tup []) z false (some (sl s 0))).bind fun g=>(af (.tup []) z false (some (sl s 3))).bind fun h=>(af (.tup []) z false (ZE D.ptr (aI 2 g h))).bind fun j=>(af (.tup []) z false (vW 0 j)).bind fun k=>(af (.tup []) z false ((ldD false 1 k).bind bq)).bind fun l=>(af (.tup []) z false (lenD true l)).bind fun m=>(af (.tup []) z false (bin .gtr false [] f m)).bind fun n=>(af (.tup []) (sl c 0) true (aU z (B true) n)).bind fun z=>(aU (sl c 0) z (B false)).bind fun z=>ifD z ((bin .add false [] (sl s 6) (I 1)).bind fun z=>some (.nrm [sl s 0,sl s 1,sl s 2,sl s 6,sl s 4,sl s 5,z])) ((bin .add false [] (sl s 6) (I 1)).bind fun z=>some (.nrm [sl s 0,sl s 1,sl s 2,sl s 3,sl s 4,sl s 5,z]))) (some (.ext 2 [sl s 0,sl s 1,sl s 2,sl s 3]))) [sl s 0,sl s 1,sl s 2,I (-1),sl s 0,z,I 0]).bind fun o=>outK o (fun i s=>ifN (i.beq 2) ((bin .lss false [] (sl s 3) (I 0)).bind fun z=>ifD z ((ay 1 []).bind fun a=>some (.ret [a,B false] [])) ((ay 1 [sl s 3]).bind fun a=>(dq a).bind fun b=>(bY 1 8 (sl s 2) b).bind fun y=>(ZE D.ptr (aI 2 (sl s 0) (sl s 3))).bind fun z=>(vW 0 z).bind fun z=>((ldD false 1 z).bind bq).bind fun z=>(lenD true z).bind fun z=>(fw true 0 (sl s 1) z).bind fun z=>some (.nrm [sl s 0,z,y]))) (ifN (i.beq 1) (some (.nrm [sl s 0,sl s 1,sl s 2])) (some (.ext i [sl s 2])))) fun a b=>some (.ret a b)) (some (.ext 0 [sl s 2]))) [x0,x1,a]).bind fun o=>outK o (fun i s=>ifN (i.beq 0) (some (.ret [sl s 0,B true] [])) none) fun a b=>some (.ret a b)):=by kernel_rfl
theorem tT (x0 x1 x2:D):gn [x0,x1,x2]=(callK (gQ [x0,x1]) fun c _=>(un .not (sl c 0)).bind fun z=>ifD z ((ay 4 []).bind fun a=>some (.ret [a,B false] [])) ((ay 4 []).bind fun a=>(dq x0).bind fun b=>(bY 4 40 a b).bind fun y=>(lenD false x1).bind fun z=>(aQ (fun s=>(bin .lss false [] (sl s 5) (sl s 4)).bind fun z=>ifD z ((ZE D.ptr (aI 1 (sl s 3) (sl s 5))).bind fun z=>((ldD false 1 z).bind bq).bind fun z=>(aa (sl s 2) (.ref 0 0)).bind fun d=>callK (kB [sl s 0,z]) fun c _=>((aa d (sl s 2)).bind fun b=>dE 4 b (sl c 0)).bind fun z=>(cW 3 z).bind fun z=>((atD (sl s 2) z).bind (au false 1)).bind fun z=>(bin .add false [] z (sl s 1)).bind fun z=>((aa d (sl s 2)).bind fun b=>dE 4 b (sl c 0)).bind fun e=>(cW 3 e).bind fun f=>(stD 1 (sl s 2) f z).bind fun b=>(bin .add false [] (sl s 5) (I 1)).bind fun z=>some (.nrm [sl s 0,sl s 1,b,sl s 3,sl s 4,z])) (some (.ext 0 [sl s 2]))) [x0,x2,y,x1,z,I 0]).bind fun o=>outK o (fun i s=>ifN (i.beq 0) ((aa (sl s 0) (.ref 0 0)).bind fun z=>(aa z (sl s 0)).bind fun i=>callK (jH [i]) fun c _=>(un .not (sl c 0)).bind fun z=>ifD z ((ay 4 []).bind fun a=>some (.ret [a,B false] [])) (some (.ret [sl s 0,B true] []))) none) fun a b=>some (.ret a b))):=by kernel_rfl
theorem CG (x0 x1:D):iX [x0,x1]=(callK (gn [x0,x1,I (-1)]) fun c _=>(aF (.tup c) 0).bind fun y=>(aF (cv (.tup c) 0) 1).bind fun z=>some (.ret [y,z] [])):=by kernel_rfl
theorem Hg (x0 x1 x2:D):lk [x0,x1,x2]=((bE 2 x1).bind fun y=>callK (iM [x0,x2]) fun c _=>(aF (.tup c) 0).bind fun d=>(aF (cv (.tup c) 0) 1).bind fun z=>(ay 1 []).bind fun a=>(lenD false d).bind fun e=>(aQ (fun s=>(bin .lss false [] (sl s 7) (sl s 6)).bind fun z=>ifD z ((ZE D.ptr (aI 1 (sl s 5) (sl s 7))).bind fun z=>((ldD false 1 z).bind bq).bind fun z=>(ZE D.ptr (aI 2 (sl s 0) z)).bind fun z=>(vW 0 z).bind fun z=>((ldD false 1 z).bind bq).bind fun z=>(ay 1 [z]).bind fun a=>(dq a).bind fun b=>(bY 1 16 (sl s 4) b).bind fun y=>(bin .add false [] (sl s 7) (I 1)).bind fun z=>some (.nrm [sl s 0,sl s 1,sl s 2,sl s 3,y,sl s 5,sl s 6,z])) (some (.ext 0 [sl s 1,sl s 2,sl s 3,sl s 4]))) [x0,y,.agg [.arr 4 [],.arr 1 []],z,a,d,e,I 0]).bind fun o=>outK o (fun i s=>ifN (i.beq 0) ((un .not (sl s 2)).bind fun z=>ifD z ((cO [] [.arr 4 [],.arr 1 []] []).bind fun z=>(stD 2 (sl s 1) (.ref 0 0) z).bind fun b=>(ba true 2 0 b).bind fun y=>some (.ret [y,B false] [])) ((aa (sl s 0) (.ref 0 0)).bind fun z=>((atD (sl s 0) z).bind (au false 1)).bind fun z=>(aa (sl s 3) (.ref 0 0)).bind fun f=>(aa f (sl s 3)).bind fun i=>callK (iX [z,i]) fun c _=>(aF (.tup c) 0).bind fun y=>(aF (cv (.tup c) 0) 1).bind fun z=>(ay 1 []).bind fun a=>(aa (sl s 0) (.ref 0 1)).bind fun g=>((atD (sl s 0) g).bind (au false 1)).bind fun h=>(dq h).bind fun b=>(bY 1 16 a b).bind fun j=>(aa (sl s 3) (.ref 0 0)).bind fun k=>(aa k (sl s 3)).bind fun b=>(bY 1 16 j b).bind fun l=>(cO [(0,1),(1,1)] [.arr 4 [],.arr 1 []] [y,l]).bind fun m=>(stD 2 (.agg [.arr 4 [],.arr 1 []]) (.ref 0 0) m).bind fun b=>(un .not z).bind fun z=>(af (.tup []) z false (ba true 2 0 b)).bind fun n=>bX z false (callK (gr [n]) fun c _=>some (.nrm [sl c 0])) [.tup []] fun p=>(af (.tup []) z false (un .not (sl p 0))).bind fun q=>(aU z (B true) q).bind fun z=>ifD z ((cO [] [.arr 4 [],.arr 1 []] []).bind fun z=>(stD 2 (sl s 1) (.ref 0 0) z).bind fun b=>(ba true 2 0 b).bind fun y=>some (.ret [y,B false] [])) ((ba true 2 0 b).bind fun z=>(stD 2 (sl s 1) (.ref 0 0) z).bind fun b=>(ba true 2 0 b).bind fun y=>some (.ret [y,B true] [])))) none) fun a b=>some (.ret a b)):=by kernel_rfl
theorem GN (x0 x1 x2:D):li [x0,x1,x2]=((bE 2 x1).bind fun y=>callK (mD [x0]) fun c _=>(un .not (sl c 0)).bind fun z=>(af (.tup []) z false (ba true 2 0 y)).bind fun e=>bX z false (callK (gr [e]) fun c _=>some (.nrm [sl c 0])) [.tup []] fun d=>(af (.tup []) z false (un .not (sl d 0))).bind fun f=>(aU z (B true) f).bind fun z=>(af (.tup []) z false (some x2)).bind fun g=>bX z false (callK (mu [g]) fun c _=>some (.nrm [sl c 0])) [.tup []] fun d=>(af (.tup []) z false (un .not (sl d 0))).bind fun h=>(aU z (B true) h).bind fun z=>ifD z ((cO [] [.arr 4 [],.arr 1 []] []).bind fun z=>(stD 2 (.agg [.arr 4 [],.arr 1 []]) (.ref 0 0) z).bind fun b=>(ba true 2 0 b).bind fun y=>some (.ret [y,B false] [])) ((ba true 2 0 y).bind fun z=>callK (lk [x0,z,x2]) fun c _=>(aF (.tup c) 0).bind fun z=>(aF (.tup c) 1).bind fun j=>(stD 2 (.agg [.arr 4 [],.arr 1 []]) (.ref 0 0) z).bind fun b=>(ba true 2 0 b).bind fun y=>some (.ret [y,j] []))):=by kernel_rfl
theorem Dc (x0 x1:D):fg [x0,x1]=((aQ (fun s=>(lenD true (sl s 0)).bind fun z=>(bin .lss false [] (sl s 2) z).bind fun z=>ifD z ((Ay (sl s 0) (sl s 2)).bind fun z=>(bin .lss false [] z (.v (ZG aac 97))).bind fun z=>(af (.tup []) z false (some (sl s 0))).bind fun c=>(af (.tup []) z false (some (sl s 2))).bind fun d=>(af (.tup []) z false (Ay c d)).bind fun e=>(af (.tup []) z false (bin .gtr false [] e (.v (ZG aac 122)))).bind fun f=>(aU z (B true) f).bind fun z=>ifD z (some (.ret [B false] [])) ((bin .add false [] (sl s 2) (I 1)).bind fun z=>some (.nrm [sl s 0,sl s 1,z]))) (some (.ext 0 [sl s 0,sl s 1]))) [x0,x1,I 0]).bind fun o=>outK o (fun i s=>ifN (i.beq 0) ((lenD true (sl s 0)).bind fun z=>callK (cV [z,I 1,sl s 1]) fun g _=>some (.ret [sl g 0] [])) none) fun a b=>some (.ret a b)):=by kernel_rfl
theorem Ii (x0:D):mC [x0]=((bE 2 x0).bind fun y=>(aa y (.ref 0 0)).bind fun z=>((atD y z).bind (au false 1)).bind fun z=>callK (fg [z,I 3]) fun c _=>(af D.bad (sl c 0) true (aa y (.ref 0 1))).bind fun z=>(af (.tup []) (sl c 0) true ((atD y z).bind (au false 1))).bind fun z=>bX (sl c 0) true (callK (cV [z,I 1,I 54]) fun c _=>some (.nrm [sl c 0])) [.tup []] fun d=>(aU (sl c 0) (sl d 0) (B false)).bind fun z=>some (.ret [z] [])):=by kernel_rfl
theorem JX (x0:D):mz [x0]=((lenD false x0).bind fun z=>(aQ (fun s=>(bin .lss false [] (sl s 3) (sl s 2)).bind fun z=>ifD z ((ZE D.ptr (aI 2 (sl s 1) (sl s 3))).bind fun z=>((ldD true 2 z).bind bq).bind fun z=>(stD 2 (.agg [.v (.string ⟨⟨[]⟩⟩),I 0]) (.ref 0 0) z).bind fun b=>(ba true 2 0 b).bind fun z=>callK (mC [z]) fun d _=>(un .not (sl d 0)).bind fun z=>(af (.tup []) z false (some (sl s 3))).bind fun e=>(af (.tup []) z false (bin .gtr false [] e (I 0))).bind fun f=>(af (.tup []) z false (some f)).bind fun c=>(af (.tup []) c true (some (sl s 0))).bind fun g=>(af (.tup []) c true (some (sl s 3))).bind fun h=>(af (.tup []) c true (bin .sub false [] h (I 1))).bind fun j=>(af (.tup []) c true (ZE D.ptr (aI 2 g j))).bind fun k=>(af (.tup []) c true (vW 0 k)).bind fun l=>(af (.tup []) c true ((ldD false 1 l).bind bq)).bind fun m=>(af D.bad c true (aa b (.ref 0 0))).bind fun n=>(af (.tup []) c true ((atD b n).bind (au false 1))).bind fun p=>(af (.tup []) c true (bin .geq false [] m p)).bind fun q=>(af (.tup []) z false (aU c q (B false))).bind fun r=>(aU z (B true) r).bind fun z=>ifD z (some (.ret [B false] [])) ((bin .add false [] (sl s 3) (I 1)).bind fun z=>some (.nrm [sl s 0,sl s 1,sl s 2,z]))) (some (.ext 0 [sl s 0]))) [x0,x0,z,I 0]).bind fun o=>outK o (fun i s=>ifN (i.beq 0) ((lenD false (sl s 0)).bind fun z=>callK (cV [z,I 1,I 32]) fun d _=>some (.ret [sl d 0] [])) none) fun a b=>some (.ret a b)):=by kernel_rfl
theorem Iz (x0 x1:D):jA [x0,x1]=((lenD false x0).bind fun z=>(aQ (fun s=>(bin .lss false [] (sl s 3) (sl s 2)).bind fun z=>ifD z ((ZE D.ptr (aI 4 (sl s 1) (sl s 3))).bind fun z=>((ldD true 4 z).bind bq).bind fun z=>(stD 4 (.agg [.v (.string ⟨⟨[]⟩⟩),I 0,I 0,I 0]) (.ref 0 0) z).bind fun b=>(aa b (.ref 0 0)).bind fun z=>((atD b z).bind (au false 1)).bind fun z=>(bin .eql false [] z (sl s 0)).bind fun z=>ifD z (some (.ret [sl s 3] [])) ((bin .add false [] (sl s 3) (I 1)).bind fun z=>some (.nrm [sl s 0,sl s 1,sl s 2,z]))) (some (.ext 0 []))) [x1,x0,z,I 0]).bind fun o=>outK o (fun i _=>ifN (i.beq 0) (some (.ret [I (-1)] [])) none) fun a b=>some (.ret a b)):=by kernel_rfl
theorem MA (x0:D):nO [x0]=((bE 4 x0).bind fun y=>(aa y (.ref 0 0)).bind fun z=>((atD y z).bind (au false 1)).bind fun z=>callK (fg [z,I 3]) fun c _=>(af D.bad (sl c 0) true (aa y (.ref 0 1))).bind fun z=>(af (.tup []) (sl c 0) true ((atD y z).bind (au false 1))).bind fun z=>bX (sl c 0) true (callK (cV [z,I 0,I 9]) fun c _=>some (.nrm [sl c 0])) [.tup []] fun d=>(aU (sl c 0) (sl d 0) (B false)).bind fun z=>(af D.bad z true (aa y (.ref 0 2))).bind fun e=>(af (.tup []) z true ((atD y e).bind (au false 1))).bind fun f=>bX z true (callK (cV [f,I 0,I 9]) fun c _=>some (.nrm [sl c 0])) [.tup []] fun d=>(aU z (sl d 0) (B false)).bind fun z=>(af D.bad z true (aa y (.ref 0 3))).bind fun g=>(af (.tup []) z true ((atD y g).bind (au false 1))).bind fun h=>bX z true (callK (cV [h,I 0,I 9999]) fun c _=>some (.nrm [sl c 0])) [.tup []] fun d=>(aU z (sl d 0) (B false)).bind fun z=>some (.ret [z] [])):=by kernel_rfl
theorem JR (x0:D):jB [x0]=((lenD false x0).bind fun z=>(aQ (fun s=>(bin .lss false [] (sl s 3) (sl s 2)).bind fun z=>ifD z ((ZE D.ptr (aI 4 (sl s 1) (sl s 3))).bind fun z=>((ldD true 4 z).bind bq).bind fun z=>(stD 4 (.agg [.v (.string ⟨⟨[]⟩⟩),I 0,I 0,I 0]) (.ref 0 0) z).bind fun b=>(ba true 4 0 b).bind fun z=>callK (nO [z]) fun d _=>(un .not (sl d 0)).bind fun z=>(af (.tup []) z false (some (sl s 3))).bind fun e=>(af (.tup []) z false (bin .gtr false [] e (I 0))).bind fun f=>(af (.tup []) z false (some f)).bind fun c=>(af (.tup []) c true (some (sl s 0))).bind fun g=>(af (.tup []) c true (some (sl s 3))).bind fun h=>(af (.tup []) c true (bin .sub false [] h (I 1))).bind fun j=>(af (.tup []) c true (ZE D.ptr (aI 4 g j))).bind fun k=>(af (.tup []) c true (vW 0 k)).bind fun l=>(af (.tup []) c true ((ldD false 1 l).bind bq)).bind fun m=>(af D.bad c true (aa b (.ref 0 0))).bind fun n=>(af (.tup []) c true ((atD b n).bind (au false 1))).bind fun p=>(af (.tup []) c true (bin .geq false [] m p)).bind fun q=>(af (.tup []) z false (aU c q (B false))).bind fun r=>(aU z (B true) r).bind fun z=>ifD z (some (.ret [B false] [])) ((eT false 4 (sl s 0) (I 0) (sl s 3)).bind fun z=>(lenD false z).bind fun t=>(aQ (fun s=>(bin .lss false [] (sl s 7) (sl s 6)).bind fun z=>ifD z ((ZE D.ptr (aI 4 (sl s 5) (sl s 7))).bind fun z=>((ldD true 4 z).bind bq).bind fun z=>(stD 4 (.agg [.v (.string ⟨⟨[]⟩⟩),I 0,I 0,I 0]) (.ref 0 0) z).bind fun b=>(aa b (.ref 0 1)).bind fun z=>((atD b z).bind (au false 1)).bind fun z=>(aa (sl s 1) (.ref 0 1)).bind fun u=>((atD (sl s 1) u).bind (au false 1)).bind fun v=>(bin .eql false [] z v).bind fun z=>(af D.bad z true (aa b (.ref 0 2))).bind fun w=>(af (.tup []) z true ((atD b w).bind (au false 1))).bind fun za=>(af D.bad z true (aa (sl s 1) (.ref 0 2))).bind fun zb=>(af (.tup []) z true ((atD (sl s 1) zb).bind (au false 1))).bind fun zc=>(af (.tup []) z true (bin .eql false [] za zc)).bind fun zd=>(aU z zd (B false)).bind fun z=>ifD z (some (.ret [B false] [])) ((bin .add false [] (sl s 7) (I 1)).bind fun z=>some (.nrm [sl s 0,sl s 1,sl s 2,sl s 3,sl s 4,sl s 5,sl s 6,z]))) (some (.ext 2 [sl s 0,sl s 2,sl s 3,sl s 4]))) [sl s 0,b,sl s 1,sl s 2,sl s 3,z,t,I 0]).bind fun o=>outK o (fun i s=>ifN (i.beq 2) ((bin .add false [] (sl s 3) (I 1)).bind fun z=>some (.nrm [sl s 0,sl s 1,sl s 2,z])) (ifN (i.beq 1) ((bin .add false [] (sl s 3) (I 1)).bind fun z=>some (.nrm [sl s 0,sl s 1,sl s 2,z])) (some (.ext i [sl s 0])))) fun a b=>some (.ret a b))) (some (.ext 0 [sl s 0]))) [x0,x0,z,I 0]).bind fun o=>outK o (fun i s=>ifN (i.beq 0) ((lenD false (sl s 0)).bind fun z=>callK (cV [z,I 1,I 32]) fun d _=>some (.ret [sl d 0] [])) none) fun a b=>some (.ret a b)):=by kernel_rfl
theorem Hh (x0 x1:D):fu [x0,x1]=((lenD false x1).bind fun z=>(aQ (fun s=>(bin .lss false [] (sl s 4) (sl s 3)).bind fun z=>ifD z ((ZE D.ptr (aI 1 (sl s 2) (sl s 4))).bind fun z=>((ldD false 1 z).bind bq).bind fun z=>callK (jA [sl s 0,z]) fun c _=>(bin .lss false [] (sl c 0) (I 0)).bind fun z=>ifD z (some (.ret [B false] [])) ((bin .add false [] (sl s 4) (I 1)).bind fun z=>some (.nrm [sl s 0,sl s 1,sl s 2,sl s 3,z]))) (some (.ext 0 [sl s 0,sl s 1]))) [x0,x1,x1,z,I 0]).bind fun o=>outK o (fun i s=>ifN (i.beq 0) (callK (jB [sl s 0]) fun c _=>(af (.tup []) (sl c 0) true (some (sl s 1))).bind fun z=>(af (.tup []) (sl c 0) true (lenD false z)).bind fun z=>(af (.tup []) (sl c 0) true (bin .leq false [] z (I 60))).bind fun z=>(aU (sl c 0) z (B false)).bind fun z=>some (.ret [z] [])) none) fun a b=>some (.ret a b)):=by kernel_rfl
theorem Ia (x0:D):gZ [x0]=((bE 2 x0).bind fun y=>(aa y (.ref 0 0)).bind fun z=>((atD y z).bind (au false 1)).bind fun z=>(aa y (.ref 0 1)).bind fun c=>((atD y c).bind (au false 1)).bind fun d=>callK (fu [z,d]) fun e _=>some (.ret [sl e 0] [])):=by kernel_rfl
theorem JE (x0:D):lU [x0]=(callK (fg [x0,I 16]) fun c _=>some (.ret [sl c 0] [])):=by kernel_rfl
theorem GW (x0 x1:D):iR [x0,x1]=((bin .lss false [] x0 x1).bind fun z=>ifD z (some (.ret [x0] [])) (some (.ret [x1] []))):=by kernel_rfl
theorem Ir (x0 x1:D):jD [x0,x1]=((lenD false x0).bind fun z=>(aQ (fun s=>(bin .lss false [] (sl s 3) (sl s 2)).bind fun z=>ifD z ((ZE D.ptr (aI 2 (sl s 1) (sl s 3))).bind fun z=>((ldD true 2 z).bind bq).bind fun z=>(stD 2 (.agg [.v (.string ⟨⟨[]⟩⟩),I 0]) (.ref 0 0) z).bind fun b=>(aa b (.ref 0 0)).bind fun z=>((atD b z).bind (au false 1)).bind fun z=>(bin .eql false [] z (sl s 0)).bind fun z=>ifD z (some (.ret [sl s 3] [])) ((bin .add false [] (sl s 3) (I 1)).bind fun z=>some (.nrm [sl s 0,sl s 1,sl s 2,z]))) (some (.ext 0 []))) [x1,x0,z,I 0]).bind fun o=>outK o (fun i _=>ifN (i.beq 0) (some (.ret [I (-1)] [])) none) fun a b=>some (.ret a b)):=by kernel_rfl
theorem LX (x0 x1:D):kG [x0,x1]=((aQ (fun s=>(lenD true (sl s 1)).bind fun z=>(bin .lss false [] (sl s 3) z).bind fun z=>ifD z ((lenD true (sl s 1)).bind fun z=>(bin .sub false [] z (sl s 3)).bind fun z=>callK (iR [I 3,z]) fun c _=>(aQ (fun s=>(bin .gtr false [] (sl s 5) (I 0)).bind fun z=>(af (.tup []) z true (some (sl s 4))).bind fun d=>(af (.tup []) z true (bin .lss false [] d (I 0))).bind fun e=>(aU z e (B false)).bind fun z=>ifD z ((bin .add false [] (sl s 3) (sl s 5)).bind fun z=>(eT true 0 (sl s 1) (sl s 3) z).bind fun z=>callK (jD [sl s 0,z]) fun c _=>(bin .sub false [] (sl s 5) (I 1)).bind fun z=>some (.nrm [sl s 0,sl s 1,sl s 2,sl s 3,sl c 0,z])) (some (.ext 2 [sl s 0,sl s 1,sl s 2,sl s 3,sl s 4]))) [sl s 0,sl s 1,sl s 2,sl s 3,I (-1),sl c 0]).bind fun o=>outK o (fun i s=>ifN (i.beq 2) ((bin .lss false [] (sl s 4) (I 0)).bind fun z=>ifD z (some (.ret [.arr 1 [],B false] [])) ((ay 1 [sl s 4]).bind fun a=>(dq a).bind fun b=>(bY 1 8 (sl s 2) b).bind fun y=>(ZE D.ptr (aI 2 (sl s 0) (sl s 4))).bind fun z=>(vW 0 z).bind fun z=>((ldD false 1 z).bind bq).bind fun z=>(lenD true z).bind fun z=>(bin .add false [] (sl s 3) z).bind fun z=>some (.nrm [sl s 0,sl s 1,y,z]))) (ifN (i.beq 1) (some (.nrm [sl s 0,sl s 1,sl s 2,sl s 3])) (some (.ext i [sl s 2])))) fun a b=>some (.ret a b)) (some (.ext 0 [sl s 2]))) [x0,x1,.arr 1 [],I 0]).bind fun o=>outK o (fun i s=>ifN (i.beq 0) (some (.ret [sl s 0,B true] [])) none) fun a b=>some (.ret a b)):=by kernel_rfl
theorem Iu (x0 x1 x2:D):jv [x0,x1,x2]=((ay 4 []).bind fun a=>(dq x0).bind fun b=>(bY 4 40 a b).bind fun y=>(lenD false x1).bind fun z=>(aQ (fun s=>(bin .lss false [] (sl s 4) (sl s 3)).bind fun z=>ifD z ((ZE D.ptr (aI 1 (sl s 2) (sl s 4))).bind fun z=>((ldD false 1 z).bind bq).bind fun z=>(aa (sl s 1) (.ref 0 0)).bind fun d=>(aa (sl s 1) (.ref 0 0)).bind fun e=>(aa e (sl s 1)).bind fun i=>callK (jA [i,z]) fun c _=>((aa d (sl s 1)).bind fun b=>dE 4 b (sl c 0)).bind fun z=>(cW 3 z).bind fun z=>((atD (sl s 1) z).bind (au false 1)).bind fun z=>(bin .add false [] z (sl s 0)).bind fun z=>((aa d (sl s 1)).bind fun b=>dE 4 b (sl c 0)).bind fun f=>(cW 3 f).bind fun g=>(stD 1 (sl s 1) g z).bind fun b=>(bin .add false [] (sl s 4) (I 1)).bind fun z=>some (.nrm [sl s 0,b,sl s 2,sl s 3,z])) (some (.ext 0 [sl s 1]))) [x2,y,x1,z,I 0]).bind fun o=>outK o (fun i s=>ifN (i.beq 0) ((aa (sl s 0) (.ref 0 0)).bind fun z=>(aa z (sl s 0)).bind fun i=>callK (jB [i]) fun c _=>(un .not (sl c 0)).bind fun z=>ifD z (some (.ret [.arr 4 [],B false] [])) (some (.ret [sl s 0,B true] []))) none) fun a b=>some (.ret a b)):=by kernel_rfl
theorem IY (x0:D):mv [x0]=((ay 1 []).bind fun a=>(dq x0).bind fun b=>(bY 1 16 a b).bind fun y=>some (.ret [y] [])):=by kernel_rfl
theorem Lr (x0 x1 x2:D):nP [x0,x1,x2]=((bE 2 x1).bind fun y=>callK (kG [x0,x2]) fun c _=>(aF (.tup c) 0).bind fun d=>(aF (cv (.tup c) 0) 1).bind fun z=>(un .not z).bind fun z=>ifD z ((cO [] [.arr 4 [],.arr 1 []] []).bind fun z=>(stD 2 (.agg [.arr 4 [],.arr 1 []]) (.ref 0 0) z).bind fun b=>(ba true 2 0 b).bind fun y=>some (.ret [y,B false] [])) ((lenD false d).bind fun z=>(aQ (fun s=>(bin .lss false [] (sl s 6) (sl s 5)).bind fun z=>ifD z ((ZE D.ptr (aI 1 (sl s 4) (sl s 6))).bind fun z=>((ldD false 1 z).bind bq).bind fun z=>(ZE D.ptr (aI 2 (sl s 0) z)).bind fun z=>(vW 0 z).bind fun z=>((ldD false 1 z).bind bq).bind fun z=>(ay 1 [z]).bind fun a=>(dq a).bind fun b=>(bY 1 16 (sl s 3) b).bind fun y=>(bin .add false [] (sl s 6) (I 1)).bind fun z=>some (.nrm [sl s 0,sl s 1,sl s 2,y,sl s 4,sl s 5,z])) (some (.ext 0 [sl s 1,sl s 2,sl s 3]))) [x0,y,.agg [.arr 4 [],.arr 1 []],.arr 1 [],d,z,I 0]).bind fun o=>outK o (fun i s=>ifN (i.beq 0) ((aa (sl s 0) (.ref 0 0)).bind fun z=>((atD (sl s 0) z).bind (au false 1)).bind fun z=>(aa (sl s 2) (.ref 0 0)).bind fun e=>(aa e (sl s 2)).bind fun i=>callK (fu [z,i]) fun c _=>(un .not (sl c 0)).bind fun z=>ifD z ((cO [] [.arr 4 [],.arr 1 []] []).bind fun z=>(stD 2 (sl s 1) (.ref 0 0) z).bind fun b=>(ba true 2 0 b).bind fun y=>some (.ret [y,B false] [])) ((aa (sl s 0) (.ref 0 0)).bind fun z=>((atD (sl s 0) z).bind (au false 1)).bind fun z=>(aa (sl s 2) (.ref 0 0)).bind fun f=>(aa f (sl s 2)).bind fun i=>callK (jv [z,i,I (-1)]) fun c _=>(aF (.tup c) 0).bind fun y=>(aF (cv (.tup c) 0) 1).bind fun z=>(aa (sl s 0) (.ref 0 1)).bind fun g=>((atD (sl s 0) g).bind (au false 1)).bind fun h=>callK (mv [h]) fun c _=>(aa (sl s 2) (.ref 0 0)).bind fun j=>(aa j (sl s 2)).bind fun b=>(bY 1 16 (sl c 0) b).bind fun k=>(cO [(0,1),(1,1)] [.arr 4 [],.arr 1 []] [y,k]).bind fun l=>(stD 2 (.agg [.arr 4 [],.arr 1 []]) (.ref 0 0) l).bind fun b=>(un .not z).bind fun z=>(af (.tup []) z false (ba true 2 0 b)).bind fun m=>bX z false (callK (gZ [m]) fun c _=>some (.nrm [sl c 0])) [.tup []] fun n=>(af (.tup []) z false (un .not (sl n 0))).bind fun p=>(aU z (B true) p).bind fun z=>ifD z ((cO [] [.arr 4 [],.arr 1 []] []).bind fun z=>(stD 2 (sl s 1) (.ref 0 0) z).bind fun b=>(ba true 2 0 b).bind fun y=>some (.ret [y,B false] [])) ((ba true 2 0 b).bind fun z=>(stD 2 (sl s 1) (.ref 0 0) z).bind fun b=>(ba true 2 0 b).bind fun y=>some (.ret [y,B true] [])))) none) fun a b=>some (.ret a b))):=by kernel_rfl
theorem FD (x0 x1 x2:D):kN [x0,x1,x2]=((bE 2 x1).bind fun y=>callK (mz [x0]) fun c _=>(un .not (sl c 0)).bind fun z=>(af (.tup []) z false (ba true 2 0 y)).bind fun e=>bX z false (callK (gZ [e]) fun c _=>some (.nrm [sl c 0])) [.tup []] fun d=>(af (.tup []) z false (un .not (sl d 0))).bind fun f=>(aU z (B true) f).bind fun z=>(af (.tup []) z false (some x2)).bind fun g=>bX z false (callK (lU [g]) fun c _=>some (.nrm [sl c 0])) [.tup []] fun d=>(af (.tup []) z false (un .not (sl d 0))).bind fun h=>(aU z (B true) h).bind fun z=>ifD z ((cO [] [.arr 4 [],.arr 1 []] []).bind fun z=>(stD 2 (.agg [.arr 4 [],.arr 1 []]) (.ref 0 0) z).bind fun b=>(ba true 2 0 b).bind fun y=>some (.ret [y,B false] [])) ((ba true 2 0 y).bind fun z=>callK (nP [x0,z,x2]) fun c _=>(aF (.tup c) 0).bind fun z=>(aF (.tup c) 1).bind fun j=>(stD 2 (.agg [.arr 4 [],.arr 1 []]) (.ref 0 0) z).bind fun b=>(ba true 2 0 b).bind fun y=>some (.ret [y,j] []))):=by kernel_rfl
theorem Ed (x0 x1:D):jN [x0,x1]=(callK (gn [x0,x1,I 1]) fun c _=>(aF (.tup c) 0).bind fun y=>(aF (cv (.tup c) 0) 1).bind fun z=>some (.ret [y,z] [])):=by kernel_rfl
theorem tS (x0:D):er [x0]=((bE 2 x0).bind fun y=>(aa y (.ref 0 0)).bind fun z=>((atD y z).bind (au false 1)).bind fun z=>(aa y (.ref 0 1)).bind fun d=>((atD y d).bind (au false 1)).bind fun e=>callK (jN [z,e]) fun c _=>(aF (.tup c) 0).bind fun y=>(aF (cv (.tup c) 0) 1).bind fun z=>(un .not z).bind fun z=>ifD z ((cO [] [.arr 4 [],.arr 1 []] []).bind fun z=>(stD 2 (.agg [.arr 4 [],.arr 1 []]) (.ref 0 0) z).bind fun b=>(ba true 2 0 b).bind fun y=>some (.ret [y,B false] [])) ((ay 1 []).bind fun a=>(cO [(0,1),(1,1)] [.arr 4 [],.arr 1 []] [y,a]).bind fun z=>(stD 2 (.agg [.arr 4 [],.arr 1 []]) (.ref 0 0) z).bind fun b=>(ba true 2 0 b).bind fun y=>some (.ret [y,B true] []))):=by kernel_rfl
theorem pz (x0:D):dk [x0]=((ay 1 [.v (.string ⟨⟨[97]⟩⟩),.v (.string ⟨⟨[97,98]⟩⟩),.v (.string ⟨⟨[97,98,99]⟩⟩),.v (.string ⟨⟨[98]⟩⟩),.v (.string ⟨⟨[98,98]⟩⟩),.v (.string ⟨⟨[99]⟩⟩),.v (.string ⟨⟨[100]⟩⟩),.v (.string ⟨⟨[101]⟩⟩),.v (.string ⟨⟨[102]⟩⟩),.v (.string ⟨⟨[102,102]⟩⟩),.v (.string ⟨⟨[102,105]⟩⟩),.v (.string ⟨⟨[105]⟩⟩)]).bind fun a=>(lenD false a).bind fun z=>(aQ (fun s=>(bin .lss false [] (sl s 4) (sl s 3)).bind fun z=>ifD z ((ZE D.ptr (aI 1 (sl s 2) (sl s 4))).bind fun z=>((ldD false 1 z).bind bq).bind fun z=>(lenD true z).bind fun j=>(bin .eql false [] j (I 1)).bind fun g=>(af D.bad g true (aa (sl s 0) (.ref 0 0))).bind fun k=>bX g true ((bn k (sl s 0)).bind fun i=>(aa i i).bind fun i=>callK (aP [i,I 12]) fun f c=>(aa (sl c 0) (sl c 0)).bind fun _=>some (.nrm [sl f 0,sl c 0])) [.tup [],sl s 0] fun d=>(af (.tup []) g true (un .not (sl d 0))).bind fun l=>(aU g l (B false)).bind fun e=>(af (.tup []) e false (some z)).bind fun m=>(af (.tup []) e false (lenD true m)).bind fun n=>(af (.tup []) e false (bin .gtr false [] n (I 1))).bind fun p=>(af (.tup []) e false (some p)).bind fun h=>(af D.bad h true (aa (sl d 1) (.ref 0 0))).bind fun q=>bX h true ((bn q (sl d 1)).bind fun i=>(aa i i).bind fun i=>callK (aP [i,I 3]) fun f c=>(aa (sl c 0) (sl c 0)).bind fun _=>some (.nrm [sl f 0,sl c 0])) [.tup [],sl d 1] fun d=>(af (.tup []) e false (aU h (sl d 0) (B false))).bind fun r=>(aU e (B true) r).bind fun t=>ifD t ((lenD true z).bind fun u=>(aa (sl d 1) (.ref 0 0)).bind fun v=>(bn v (sl d 1)).bind fun i=>(aa i i).bind fun i=>callK (ah [i,I 4]) fun f c=>(aa (sl c 0) (sl c 0)).bind fun _=>(bin .add false [] (I 2) (sl f 0)).bind fun w=>(bin .mul false [] u w).bind fun za=>(bin .add false [] (I 4) za).bind fun zb=>(cO [(0,1),(1,1)] [.v (.string ⟨⟨[]⟩⟩),I 0] [z,zb]).bind fun z=>(ay 2 [z]).bind fun a=>(dq a).bind fun b=>(bY 2 24 (sl s 1) b).bind fun y=>(bin .add false [] (sl s 4) (I 1)).bind fun z=>some (.nrm [sl c 0,y,sl s 2,sl s 3,z])) ((bin .add false [] (sl s 4) (I 1)).bind fun z=>some (.nrm [sl d 1,sl s 1,sl s 2,sl s 3,z]))) (some (.ext 0 [sl s 0,sl s 1]))) [x0,.arr 2 [],a,z,I 0]).bind fun o=>outK o (fun i s=>ifN (i.beq 0) ((aa (sl s 1) (.ref 0 0)).bind fun z=>((aa z (sl s 1)).bind (lenD false)).bind fun z=>(bin .eql false [] z (I 0)).bind fun z=>ifD z ((cO [(0,1),(1,1)] [.v (.string ⟨⟨[]⟩⟩),I 0] [.v (.string ⟨⟨[97]⟩⟩),I 9]).bind fun z=>(ay 2 [z]).bind fun a=>(aa (sl s 0) (sl s 0)).bind fun _=>some (.ret [a] [sl s 0])) ((aa (sl s 0) (sl s 0)).bind fun _=>some (.ret [sl s 1] [sl s 0]))) none) fun a b=>some (.ret a b)):=by kernel_rfl
theorem DW (x0 x1:D):dp [x0,x1]=((aa x0 (.ref 0 0)).bind fun z=>(lenD false x1).bind fun d=>(bn z x0).bind fun i=>(aa i i).bind fun i=>callK (ah [i,d]) fun e c=>(aa (sl c 0) (sl c 0)).bind fun _=>(ZE D.ptr (aI 1 x1 (sl e 0))).bind fun z=>((ldD false 1 z).bind bq).bind fun z=>(aa (sl c 0) (sl c 0)).bind fun _=>some (.ret [z] [sl c 0])):=by kernel_rfl
theorem ux (x0:D):fR [x0]=((aa x0 (.ref 0 0)).bind fun z=>(bn z x0).bind fun i=>(aa i i).bind fun i=>callK (dk [i]) fun d c=>(aa (sl c 0) (sl c 0)).bind fun _=>(aa (sl c 0) (.ref 0 0)).bind fun z=>(aa (sl d 0) (.ref 0 0)).bind fun j=>((aa j (sl d 0)).bind (lenD false)).bind fun k=>(bn z (sl c 0)).bind fun i=>(aa i i).bind fun i=>callK (ah [i,k]) fun h c=>(aa (sl c 0) (sl c 0)).bind fun _=>(aa (sl c 0) (.ref 0 0)).bind fun z=>(bn z (sl c 0)).bind fun i=>(aa i i).bind fun i=>callK (ah [i,I 30]) fun f c=>(aa (sl c 0) (sl c 0)).bind fun _=>(bin .eql false [] (sl f 0) (I 0)).bind fun z=>ifD z ((aa (sl d 0) (.ref 0 0)).bind fun z=>(aa (sl c 0) (.ref 0 0)).bind fun e=>(ay 1 [.v (.string ⟨⟨[]⟩⟩),.v (.string ⟨⟨[65]⟩⟩),.v (.string ⟨⟨[97,98,99,100]⟩⟩),.v (.string ⟨⟨[97]⟩⟩),.v (.string ⟨⟨[122,122,122]⟩⟩)]).bind fun a=>(bn e (sl c 0)).bind fun i=>(aa i i).bind fun i=>callK (dp [i,a]) fun g c=>(aa (sl c 0) (sl c 0)).bind fun _=>((aa z (sl d 0)).bind fun b=>dE 2 b (sl h 0)).bind fun z=>(cW 0 z).bind fun z=>(stD 1 (sl d 0) z (sl g 0)).bind fun b=>(aa (sl c 0) (sl c 0)).bind fun _=>some (.ret [b] [sl c 0])) ((bin .eql false [] (sl f 0) (I 1)).bind fun z=>ifD z ((aa (sl d 0) (.ref 0 0)).bind fun z=>(aa (sl c 0) (.ref 0 0)).bind fun e=>(ay 1 [I 0,I 1,I 54,I 55,I (-1)]).bind fun a=>(bn e (sl c 0)).bind fun i=>(aa i i).bind fun i=>callK (ak [i,a]) fun g c=>(aa (sl c 0) (sl c 0)).bind fun _=>((aa z (sl d 0)).bind fun b=>dE 2 b (sl h 0)).bind fun z=>(cW 1 z).bind fun z=>(stD 1 (sl d 0) z (sl g 0)).bind fun b=>(aa (sl c 0) (sl c 0)).bind fun _=>some (.ret [b] [sl c 0])) ((bin .eql false [] (sl f 0) (I 2)).bind fun z=>ifD z ((aa (sl c 0) (sl c 0)).bind fun _=>some (.ret [.arr 2 []] [sl c 0])) ((bin .eql false [] (sl f 0) (I 3)).bind fun z=>ifD z ((aa (sl c 0) (.ref 0 0)).bind fun z=>(bn z (sl c 0)).bind fun i=>(aa i i).bind fun i=>callK (ah [i,I 2]) fun d c=>(aa (sl c 0) (sl c 0)).bind fun _=>(bin .add false [] (I 32) (sl d 0)).bind fun z=>(aQ (fun s=>(aa (sl s 1) (.ref 0 0)).bind fun z=>((aa z (sl s 1)).bind (lenD false)).bind fun z=>(bin .lss false [] z (sl s 2)).bind fun z=>ifD z ((aa (sl s 1) (.ref 0 0)).bind fun z=>(aa (sl s 1) (.ref 0 0)).bind fun e=>((aa e (sl s 1)).bind (lenD false)).bind fun l=>(bin .quo false [] l (I 6)).bind fun m=>(bin .add false [] (I 97) m).bind fun n=>(pN (some .u8) false n).bind fun p=>(aa (sl s 1) (.ref 0 0)).bind fun q=>((aa q (sl s 1)).bind (lenD false)).bind fun r=>(bin .rem false [] r (I 6)).bind fun t=>(bin .add false [] (I 97) t).bind fun u=>(pN (some .u8) false u).bind fun v=>(ay 1 [p,v]).bind fun a=>(LN a).bind fun w=>(cO [(0,1),(1,1)] [.v (.string ⟨⟨[]⟩⟩),I 0] [w,I 9]).bind fun za=>(ay 2 [za]).bind fun a=>(aa z (sl s 1)).bind fun zb=>(dq a).bind fun b=>(bY 2 24 zb b).bind fun y=>some (.nrm [sl s 0,y,sl s 2])) (some (.ext 1 [sl s 0,sl s 1]))) [sl c 0,.arr 2 [],z]).bind fun o=>outK o (fun i s=>ifN (i.beq 1) ((aa (sl s 0) (sl s 0)).bind fun _=>some (.ret [sl s 1] [sl s 0])) (ifN (i.beq 0) ((aa (sl s 0) (sl s 0)).bind fun _=>some (.ret [sl s 1] [sl s 0])) none)) fun a b=>some (.ret a b)) ((aa (sl c 0) (sl c 0)).bind fun _=>some (.ret [sl d 0] [sl c 0])))))):=by kernel_rfl
theorem Af (x0:D):cM [x0]=((aa x0 (.ref 0 0)).bind fun z=>(bn z x0).bind fun i=>(aa i i).bind fun i=>callK (ah [i,I 6]) fun d c=>(aa (sl c 0) (sl c 0)).bind fun _=>(bin .add false [] (I 1) (sl d 0)).bind fun z=>(aQ (fun s=>(lenD true (sl s 1)).bind fun z=>(bin .lss false [] z (sl s 2)).bind fun z=>ifD z ((aa (sl s 0) (.ref 0 0)).bind fun z=>(ay 1 [.v (.string ⟨⟨[97]⟩⟩),.v (.string ⟨⟨[98]⟩⟩),.v (.string ⟨⟨[99]⟩⟩),.v (.string ⟨⟨[97,98]⟩⟩),.v (.string ⟨⟨[98,98]⟩⟩),.v (.string ⟨⟨[97,98,99]⟩⟩),.v (.string ⟨⟨[100]⟩⟩),.v (.string ⟨⟨[101]⟩⟩),.v (.string ⟨⟨[102]⟩⟩),.v (.string ⟨⟨[102,105]⟩⟩)]).bind fun a=>(bn z (sl s 0)).bind fun i=>(aa i i).bind fun i=>callK (dp [i,a]) fun d c=>(aa (sl c 0) (sl c 0)).bind fun _=>(bin .add false [] (sl s 1) (sl d 0)).bind fun z=>some (.nrm [sl c 0,z,sl s 2])) (some (.ext 0 [sl s 0,sl s 1]))) [sl c 0,.v (.string ⟨⟨[]⟩⟩),z]).bind fun o=>outK o (fun i s=>ifN (i.beq 0) ((aa (sl s 0) (sl s 0)).bind fun _=>some (.ret [sl s 1] [sl s 0])) none) fun a b=>some (.ret a b)):=by kernel_rfl
theorem uY (x0:D):en [x0]=((aa x0 (.ref 0 0)).bind fun z=>(bn z x0).bind fun i=>(aa i i).bind fun i=>callK (ah [i,I 30]) fun d c=>(aa (sl c 0) (sl c 0)).bind fun _=>(bin .eql false [] (sl d 0) (I 0)).bind fun z=>ifD z ((aa (sl c 0) (.ref 0 0)).bind fun z=>(ay 1 [.v (.string ⟨⟨[]⟩⟩),.v (.string ⟨⟨[65]⟩⟩),.v (.string ⟨⟨[97,32,98]⟩⟩),.v (.string ⟨⟨[97,45,98]⟩⟩)]).bind fun a=>(bn z (sl c 0)).bind fun i=>(aa i i).bind fun i=>callK (dp [i,a]) fun d c=>(aa (sl c 0) (sl c 0)).bind fun _=>(aa (sl c 0) (sl c 0)).bind fun _=>some (.ret [sl d 0] [sl c 0])) ((bin .eql false [] (sl d 0) (I 1)).bind fun z=>ifD z ((aa (sl c 0) (.ref 0 0)).bind fun z=>(bn z (sl c 0)).bind fun i=>(aa i i).bind fun i=>callK (ah [i,I 2]) fun d c=>(aa (sl c 0) (sl c 0)).bind fun _=>(bin .add false [] (I 16) (sl d 0)).bind fun z=>(aQ (fun s=>(lenD true (sl s 1)).bind fun z=>(bin .lss false [] z (sl s 2)).bind fun z=>ifD z ((bin .add false [] (sl s 1) (.v (.string ⟨⟨[97]⟩⟩))).bind fun z=>some (.nrm [sl s 0,z,sl s 2])) (some (.ext 1 [sl s 0,sl s 1]))) [sl c 0,.v (.string ⟨⟨[]⟩⟩),z]).bind fun o=>outK o (fun i s=>ifN (i.beq 1) ((aa (sl s 0) (sl s 0)).bind fun _=>some (.ret [sl s 1] [sl s 0])) (ifN (i.beq 0) ((aa (sl s 0) (.ref 0 0)).bind fun z=>(bn z (sl s 0)).bind fun i=>(aa i i).bind fun i=>callK (cM [i]) fun d c=>(aa (sl c 0) (sl c 0)).bind fun _=>(aa (sl c 0) (sl c 0)).bind fun _=>some (.ret [sl d 0] [sl c 0])) none)) fun a b=>some (.ret a b)) ((bin .eql false [] (sl d 0) (I 2)).bind fun z=>ifD z ((aa (sl c 0) (.ref 0 0)).bind fun z=>(bn z (sl c 0)).bind fun i=>(aa i i).bind fun i=>callK (cM [i]) fun d c=>(aa (sl c 0) (sl c 0)).bind fun _=>(bin .add false [] (sl d 0) (.v (.string ⟨⟨[122]⟩⟩))).bind fun z=>(aa (sl c 0) (sl c 0)).bind fun _=>some (.ret [z] [sl c 0])) ((aa (sl c 0) (.ref 0 0)).bind fun z=>(bn z (sl c 0)).bind fun i=>(aa i i).bind fun i=>callK (cM [i]) fun d c=>(aa (sl c 0) (sl c 0)).bind fun _=>(aa (sl c 0) (sl c 0)).bind fun _=>some (.ret [sl d 0] [sl c 0]))))):=by kernel_rfl
theorem yX (x0 x1:D):dW [x0,x1]=((aa x0 (.ref 0 0)).bind fun z=>(bn z x0).bind fun i=>(aa i i).bind fun i=>callK (ah [i,I 20]) fun d c=>(aa (sl c 0) (sl c 0)).bind fun _=>(lenD false x1).bind fun z=>(aQ (fun s=>(bin .lss false [] (sl s 5) (sl s 4)).bind fun z=>ifD z ((ZE D.ptr (aI 2 (sl s 3) (sl s 5))).bind fun z=>((ldD true 2 z).bind bq).bind fun z=>(stD 2 (.agg [.v (.string ⟨⟨[]⟩⟩),I 0]) (.ref 0 0) z).bind fun b=>(aa b (.ref 0 0)).bind fun z=>((atD b z).bind (au false 1)).bind fun z=>(bin .quo false [] (sl s 2) (I 10)).bind fun e=>(bin .rem false [] e (I 10)).bind fun f=>(bin .rem false [] (sl s 2) (I 10)).bind fun g=>(aa (sl s 0) (.ref 0 0)).bind fun h=>(ay 1 [I 0,I 1,I 2,I 5,I 20]).bind fun a=>(bn h (sl s 0)).bind fun i=>(aa i i).bind fun i=>callK (ak [i,a]) fun d c=>(aa (sl c 0) (sl c 0)).bind fun _=>(cO [(0,1),(1,1),(2,1),(3,1)] [.v (.string ⟨⟨[]⟩⟩),I 0,I 0,I 0] [z,f,g,sl d 0]).bind fun z=>(ay 4 [z]).bind fun a=>(dq a).bind fun b=>(bY 4 40 (sl s 1) b).bind fun y=>(aa (sl c 0) (.ref 0 0)).bind fun z=>(bn z (sl c 0)).bind fun i=>(aa i i).bind fun i=>callK (ah [i,I 2]) fun d c=>(aa (sl c 0) (sl c 0)).bind fun _=>(bin .add false [] (I 1) (sl d 0)).bind fun z=>(bin .add false [] (sl s 2) z).bind fun z=>(bin .add false [] (sl s 5) (I 1)).bind fun j=>some (.nrm [sl c 0,y,z,sl s 3,sl s 4,j])) (some (.ext 0 [sl s 0,sl s 1]))) [sl c 0,.arr 4 [],sl d 0,x1,z,I 0]).bind fun o=>outK o (fun i s=>ifN (i.beq 0) ((aa (sl s 0) (sl s 0)).bind fun _=>some (.ret [sl s 1] [sl s 0])) none) fun a b=>some (.ret a b)):=by kernel_rfl
theorem Bp (x0:D):eL [x0]=((aa x0 (.ref 0 0)).bind fun z=>(bn z x0).bind fun i=>(aa i i).bind fun i=>callK (ah [i,I 4]) fun d c=>(aa (sl c 0) (sl c 0)).bind fun _=>(bin .add false [] (I 1) (sl d 0)).bind fun z=>(aa (sl c 0) (.ref 0 0)).bind fun e=>(bn e (sl c 0)).bind fun i=>(aa i i).bind fun i=>callK (ah [i,I 4]) fun d c=>(aa (sl c 0) (sl c 0)).bind fun _=>(bin .add false [] z (sl d 0)).bind fun f=>(cO [(0,1),(1,1)] [I 0,I 0,I 0] [z,f]).bind fun z=>(stD 3 (.agg [I 0,I 0,I 0]) (.ref 0 0) z).bind fun b=>(aa b (.ref 0 1)).bind fun z=>((atD b z).bind (au false 1)).bind fun z=>(aa (sl c 0) (.ref 0 0)).bind fun g=>(bn g (sl c 0)).bind fun i=>(aa i i).bind fun i=>callK (ah [i,I 5]) fun d c=>(aa (sl c 0) (sl c 0)).bind fun _=>(bin .add false [] z (sl d 0)).bind fun z=>(aa b (.ref 0 2)).bind fun h=>(stD 1 b h z).bind fun b=>(aa (sl c 0) (.ref 0 0)).bind fun z=>(bn z (sl c 0)).bind fun i=>(aa i i).bind fun i=>callK (ah [i,I 24]) fun d c=>(aa (sl c 0) (sl c 0)).bind fun _=>(bin .eql false [] (sl d 0) (I 0)).bind fun z=>ifD z ((aa (sl c 0) (.ref 0 0)).bind fun z=>(ay 1 [I 54,I 55,I 0]).bind fun a=>(bn z (sl c 0)).bind fun i=>(aa i i).bind fun i=>callK (ak [i,a]) fun d c=>(aa (sl c 0) (sl c 0)).bind fun _=>(aa b (.ref 0 2)).bind fun z=>(stD 1 b z (sl d 0)).bind fun b=>(ba true 3 0 b).bind fun z=>(stD 3 (.agg [I 0,I 0,I 0]) (.ref 0 0) z).bind fun b=>(ba true 3 0 b).bind fun y=>(aa (sl c 0) (sl c 0)).bind fun _=>some (.ret [y] [sl c 0])) ((bin .eql false [] (sl d 0) (I 1)).bind fun z=>ifD z ((aa (sl c 0) (.ref 0 0)).bind fun z=>(aa b (.ref 0 1)).bind fun j=>((atD b j).bind (au false 1)).bind fun k=>(aa b (.ref 0 1)).bind fun l=>((atD b l).bind (au false 1)).bind fun m=>(bin .add false [] m (I 1)).bind fun n=>(ay 1 [I 0,I (-1),k,n]).bind fun a=>(bn z (sl c 0)).bind fun i=>(aa i i).bind fun i=>callK (ak [i,a]) fun d c=>(aa (sl c 0) (sl c 0)).bind fun _=>(aa b (.ref 0 0)).bind fun z=>(stD 1 b z (sl d 0)).bind fun b=>(ba true 3 0 b).bind fun z=>(stD 3 (.agg [I 0,I 0,I 0]) (.ref 0 0) z).bind fun b=>(ba true 3 0 b).bind fun y=>(aa (sl c 0) (sl c 0)).bind fun _=>some (.ret [y] [sl c 0])) ((ba true 3 0 b).bind fun z=>(stD 3 (.agg [I 0,I 0,I 0]) (.ref 0 0) z).bind fun b=>(ba true 3 0 b).bind fun y=>(aa (sl c 0) (sl c 0)).bind fun _=>some (.ret [y] [sl c 0])))):=by kernel_rfl
theorem LF (x0 x1 x2:D):nF [x0,x1,x2]=((lenD false x0).bind fun z=>(aQ (fun s=>(bin .lss false [] (sl s 4) (sl s 3)).bind fun z=>ifD z ((ZE D.ptr (aI 1 (sl s 2) (sl s 4))).bind fun z=>((ldD false 1 z).bind bq).bind fun z=>callK (cV [z,sl s 0,sl s 1]) fun c _=>(un .not (sl c 0)).bind fun z=>ifD z (some (.ret [B false] [])) ((bin .add false [] (sl s 4) (I 1)).bind fun z=>some (.nrm [sl s 0,sl s 1,sl s 2,sl s 3,z]))) (some (.ext 0 []))) [x1,x2,x0,z,I 0]).bind fun o=>outK o (fun i _=>ifN (i.beq 0) (some (.ret [B true] [])) none) fun a b=>some (.ret a b)):=by kernel_rfl
theorem GY (x0:D):kT [x0]=((lenD false x0).bind fun z=>callK (cV [z,I 1,I 24]) fun c _=>(af (.tup []) (sl c 0) true (some x0)).bind fun z=>bX (sl c 0) true (callK (nF [z,I 1,I 600]) fun c _=>some (.nrm [sl c 0])) [.tup []] fun d=>(aU (sl c 0) (sl d 0) (B false)).bind fun z=>some (.ret [z] [])):=by kernel_rfl
theorem JC (x0:D):mj [x0]=((bE 3 x0).bind fun y=>(aa y (.ref 0 0)).bind fun z=>((atD y z).bind (au false 1)).bind fun z=>(bin .geq false [] z (I 1)).bind fun z=>(af D.bad z true (aa y (.ref 0 0))).bind fun c=>(af (.tup []) z true ((atD y c).bind (au false 1))).bind fun d=>(af D.bad z true (aa y (.ref 0 1))).bind fun e=>(af (.tup []) z true ((atD y e).bind (au false 1))).bind fun f=>(af (.tup []) z true (bin .leq false [] d f)).bind fun g=>(aU z g (B false)).bind fun z=>(af D.bad z true (aa y (.ref 0 1))).bind fun h=>(af (.tup []) z true ((atD y h).bind (au false 1))).bind fun j=>(af D.bad z true (aa y (.ref 0 2))).bind fun k=>(af (.tup []) z true ((atD y k).bind (au false 1))).bind fun l=>(af (.tup []) z true (bin .leq false [] j l)).bind fun m=>(aU z m (B false)).bind fun z=>(af D.bad z true (aa y (.ref 0 2))).bind fun n=>(af (.tup []) z true ((atD y n).bind (au false 1))).bind fun p=>(af (.tup []) z true (bin .leq false [] p (I 54))).bind fun q=>(aU z q (B false)).bind fun z=>some (.ret [z] [])):=by kernel_rfl
theorem Dg (x0:D):iZ [x0]=(callK (cV [x0,I 1,I 2000]) fun c _=>some (.ret [sl c 0] [])):=by kernel_rfl
theorem Gf (x0 x1 x2:D):iU [x0,x1,x2]=((bE 3 x1).bind fun y=>callK (kT [x0]) fun c _=>(af (.tup []) (sl c 0) true (ba true 3 0 y)).bind fun z=>bX (sl c 0) true (callK (mj [z]) fun c _=>some (.nrm [sl c 0])) [.tup []] fun d=>(aU (sl c 0) (sl d 0) (B false)).bind fun z=>(af (.tup []) z true (some x2)).bind fun e=>bX z true (callK (iZ [e]) fun c _=>some (.nrm [sl c 0])) [.tup []] fun d=>(aU z (sl d 0) (B false)).bind fun z=>some (.ret [z] [])):=by kernel_rfl
theorem tn (x0 x1:D):dl [x0,x1]=((aQ (fun s=>(lenD false (sl s 1)).bind fun z=>(bin .lss false [] (sl s 3) z).bind fun z=>ifD z ((aa (sl s 0) (.ref 0 0)).bind fun z=>(bn z (sl s 0)).bind fun i=>(aa i i).bind fun i=>callK (aP [i,I 3]) fun d c=>(aa (sl c 0) (sl c 0)).bind fun _=>ifD (sl d 0) ((ay 1 [sl s 3]).bind fun a=>(dq a).bind fun b=>(bY 1 8 (sl s 2) b).bind fun y=>(bin .add false [] (sl s 3) (I 1)).bind fun z=>some (.nrm [sl c 0,sl s 1,y,z])) ((bin .add false [] (sl s 3) (I 1)).bind fun z=>some (.nrm [sl c 0,sl s 1,sl s 2,z]))) (some (.ext 0 [sl s 0,sl s 1,sl s 2]))) [x0,x1,.arr 1 [],I 1]).bind fun o=>outK o (fun i s=>ifN (i.beq 0) ((aa (sl s 0) (.ref 0 0)).bind fun z=>(bn z (sl s 0)).bind fun i=>(aa i i).bind fun i=>callK (aP [i,I 16]) fun d c=>(aa (sl c 0) (sl c 0)).bind fun _=>ifD (sl d 0) ((aa (sl c 0) (.ref 0 0)).bind fun z=>(lenD false (sl s 1)).bind fun e=>(ay 1 [I 0,I 1,e,I (-1)]).bind fun a=>(bn z (sl c 0)).bind fun i=>(aa i i).bind fun i=>callK (ak [i,a]) fun d c=>(aa (sl c 0) (sl c 0)).bind fun _=>(ay 1 [sl d 0]).bind fun a=>(dq a).bind fun b=>(bY 1 8 (sl s 2) b).bind fun y=>(aa (sl c 0) (sl c 0)).bind fun _=>some (.ret [y] [sl c 0])) ((aa (sl c 0) (sl c 0)).bind fun _=>some (.ret [sl s 2] [sl c 0]))) none) fun a b=>some (.ret a b)):=by kernel_rfl
theorem yV (x0:D):gO [x0]=((lenD false x0).bind fun z=>(aQ (fun s=>(bin .lss false [] (sl s 3) (sl s 2)).bind fun z=>ifD z ((ZE D.ptr (aI 1 (sl s 1) (sl s 3))).bind fun z=>((ldD false 1 z).bind bq).bind fun z=>callK (bK [z,I 1,I 600]) fun c _=>(un .not (sl c 0)).bind fun z=>ifD z (some (.ret [B false] [])) ((bin .add false [] (sl s 3) (I 1)).bind fun z=>some (.nrm [sl s 0,sl s 1,sl s 2,z]))) (some (.ext 0 [sl s 0]))) [x0,x0,z,I 0]).bind fun o=>outK o (fun i s=>ifN (i.beq 0) ((lenD false (sl s 0)).bind fun z=>callK (bK [z,I 1,I 24]) fun c _=>some (.ret [sl c 0] [])) none) fun a b=>some (.ret a b)):=by kernel_rfl
theorem Ic (x0:D):lW [x0]=((bE 3 x0).bind fun y=>(aa y (.ref 0 0)).bind fun z=>((atD y z).bind (au false 1)).bind fun z=>(bin .geq false [] z (I 1)).bind fun z=>(af D.bad z true (aa y (.ref 0 0))).bind fun c=>(af (.tup []) z true ((atD y c).bind (au false 1))).bind fun d=>(af D.bad z true (aa y (.ref 0 1))).bind fun e=>(af (.tup []) z true ((atD y e).bind (au false 1))).bind fun f=>(af (.tup []) z true (bin .leq false [] d f)).bind fun g=>(aU z g (B false)).bind fun z=>(af D.bad z true (aa y (.ref 0 1))).bind fun h=>(af (.tup []) z true ((atD y h).bind (au false 1))).bind fun j=>(af D.bad z true (aa y (.ref 0 2))).bind fun k=>(af (.tup []) z true ((atD y k).bind (au false 1))).bind fun l=>(af (.tup []) z true (bin .leq false [] j l)).bind fun m=>(aU z m (B false)).bind fun z=>(af D.bad z true (aa y (.ref 0 2))).bind fun n=>(af (.tup []) z true ((atD y n).bind (au false 1))).bind fun p=>(af (.tup []) z true (bin .leq false [] p (I 54))).bind fun q=>(aU z q (B false)).bind fun z=>some (.ret [z] [])):=by kernel_rfl
theorem BK (x0:D):jc [x0]=(callK (bK [x0,I 1,I 2000]) fun c _=>some (.ret [sl c 0] [])):=by kernel_rfl
theorem tv (x0 x1 x2:D):dS [x0,x1,x2]=((bE 3 x1).bind fun y=>callK (gO [x0]) fun c _=>(af (.tup []) (sl c 0) true (ba true 3 0 y)).bind fun z=>bX (sl c 0) true (callK (lW [z]) fun c _=>some (.nrm [sl c 0])) [.tup []] fun d=>(aU (sl c 0) (sl d 0) (B false)).bind fun z=>(af (.tup []) z true (some x2)).bind fun e=>bX z true (callK (jc [e]) fun c _=>some (.nrm [sl c 0])) [.tup []] fun d=>(aU z (sl d 0) (B false)).bind fun z=>some (.ret [z] [])):=by kernel_rfl
theorem BP (x0 x1 x2:D):jm [x0,x1,x2]=((lenD false x0).bind fun z=>(aQ (fun s=>(bin .lss false [] (sl s 5) (sl s 4)).bind fun z=>ifD z ((ZE D.ptr (aI 1 (sl s 3) (sl s 5))).bind fun z=>((ldD false 1 z).bind bq).bind fun z=>callK (bK [z,sl s 1,sl s 2]) fun e _=>(un .not (sl e 0)).bind fun d=>(af (.tup []) d false (some (sl s 5))).bind fun f=>(af (.tup []) d false (bin .gtr false [] f (I 0))).bind fun g=>(af (.tup []) d false (some g)).bind fun c=>(af (.tup []) c true (some (sl s 0))).bind fun h=>(af (.tup []) c true (some (sl s 5))).bind fun j=>(af (.tup []) c true (bin .sub false [] j (I 1))).bind fun k=>(af (.tup []) c true (ZE D.ptr (aI 1 h k))).bind fun l=>(af (.tup []) c true ((ldD false 1 l).bind bq)).bind fun m=>(af (.tup []) c true (some z)).bind fun z=>(af (.tup []) c true (bin .geq false [] m z)).bind fun z=>(af (.tup []) d false (aU c z (B false))).bind fun z=>(aU d (B true) z).bind fun z=>ifD z (some (.ret [B false] [])) ((bin .add false [] (sl s 5) (I 1)).bind fun z=>some (.nrm [sl s 0,sl s 1,sl s 2,sl s 3,sl s 4,z]))) (some (.ext 0 []))) [x0,x1,x2,x0,z,I 0]).bind fun o=>outK o (fun i _=>ifN (i.beq 0) (some (.ret [B true] [])) none) fun a b=>some (.ret a b)):=by kernel_rfl
theorem BJ (x0 x1:D):iW [x0,x1]=((lenD false x0).bind fun z=>(bin .sub false [] z (I 1)).bind fun z=>callK (jm [x1,I 1,z]) fun c _=>some (.ret [sl c 0] [])):=by kernel_rfl
theorem Pf (x0:D):oD [x0]=((lenD false x0).bind fun z=>(aQ (fun s=>(bin .lss false [] (sl s 3) (sl s 2)).bind fun z=>ifD z ((ZE D.ptr (aI 1 (sl s 1) (sl s 3))).bind fun z=>((ldD false 1 z).bind bq).bind fun z=>(bin .add false [] (sl s 0) z).bind fun z=>(bin .add false [] (sl s 3) (I 1)).bind fun c=>some (.nrm [z,sl s 1,sl s 2,c])) (some (.ext 0 [sl s 0]))) [I 0,x0,z,I 0]).bind fun o=>outK o (fun i s=>ifN (i.beq 0) (some (.ret [sl s 0] [])) none) fun a b=>some (.ret a b)):=by kernel_rfl
theorem Gt (x0 x1 x2:D):lh [x0,x1,x2]=((bE 3 x1).bind fun y=>(lenD false x0).bind fun z=>(bin .sub false [] z (I 1)).bind fun z=>callK (oD [x0]) fun c _=>(bin .sub false [] x2 (sl c 0)).bind fun d=>(ay 1 []).bind fun a=>(aa y (.ref 0 0)).bind fun e=>((atD y e).bind (au false 1)).bind fun f=>(bin .mul false [] z f).bind fun g=>(aa y (.ref 0 2)).bind fun h=>((atD y h).bind (au false 1)).bind fun j=>(bin .mul false [] z j).bind fun k=>callK (bK [d,g,k]) fun c _=>(un .not (sl c 0)).bind fun l=>ifD l (some (.ret [a,B false] [])) ((aQ (fun s=>(bin .lss false [] (sl s 3) (sl s 0)).bind fun z=>ifD z ((bin .quo false [] (sl s 1) (sl s 0)).bind fun z=>(bin .rem false [] (sl s 1) (sl s 0)).bind fun m=>(bin .lss false [] (sl s 3) m).bind fun n=>ifD n ((bin .add false [] z (I 1)).bind fun z=>(ay 1 [z]).bind fun a=>(dq a).bind fun b=>(bY 1 8 (sl s 2) b).bind fun y=>(bin .add false [] (sl s 3) (I 1)).bind fun z=>some (.nrm [sl s 0,sl s 1,y,z])) ((ay 1 [z]).bind fun a=>(dq a).bind fun b=>(bY 1 8 (sl s 2) b).bind fun y=>(bin .add false [] (sl s 3) (I 1)).bind fun z=>some (.nrm [sl s 0,sl s 1,y,z]))) (some (.ext 0 [sl s 2]))) [z,d,a,I 0]).bind fun o=>outK o (fun i s=>ifN (i.beq 0) (some (.ret [sl s 0,B true] [])) none) fun a b=>some (.ret a b))):=by kernel_rfl
theorem IF (x0 x1:D):mF [x0,x1]=((bE 3 x1).bind fun y=>(lenD false x0).bind fun z=>(aQ (fun s=>(bin .lss false [] (sl s 4) (sl s 3)).bind fun z=>ifD z ((ZE D.ptr (aI 1 (sl s 2) (sl s 4))).bind fun z=>((ldD false 1 z).bind bq).bind fun z=>(aa (sl s 0) (.ref 0 1)).bind fun c=>((atD (sl s 0) c).bind (au false 1)).bind fun d=>(bin .sub false [] z d).bind fun e=>(aa (sl s 0) (.ref 0 1)).bind fun f=>((atD (sl s 0) f).bind (au false 1)).bind fun g=>(bin .sub false [] z g).bind fun z=>(bin .mul false [] e z).bind fun z=>(bin .add false [] (sl s 1) z).bind fun z=>(bin .add false [] (sl s 4) (I 1)).bind fun h=>some (.nrm [sl s 0,z,sl s 2,sl s 3,h])) (some (.ext 0 [sl s 1]))) [y,I 0,x0,z,I 0]).bind fun o=>outK o (fun i s=>ifN (i.beq 0) (some (.ret [sl s 0] [])) none) fun a b=>some (.ret a b)):=by kernel_rfl
theorem Eh (x0 x1 x2:D):ct [x0,x1,x2]=((bE 3 x1).bind fun y=>(lenD false x0).bind fun z=>(bin .gtr false [] z (I 20)).bind fun z=>ifD z (some (.ret [I 0,B false] [])) ((ba true 3 0 y).bind fun z=>callK (lh [x0,z,x2]) fun c _=>(aF (.tup c) 0).bind fun d=>(aF (cv (.tup c) 0) 1).bind fun z=>(ba true 3 0 y).bind fun e=>callK (mF [d,e]) fun c _=>some (.ret [sl c 0,z] []))):=by kernel_rfl
theorem Jz (x0 x1 x2:D):dG [x0,x1,x2]=((bE 3 x1).bind fun y=>(lenD false x0).bind fun z=>(bin .leq false [] z (I 20)).bind fun z=>(af (.tup []) z true (some x0)).bind fun c=>bX z true (callK (oD [c]) fun d _=>some (.nrm [sl d 0])) [.tup []] fun e=>(af (.tup []) z true (some x0)).bind fun f=>(af (.tup []) z true (lenD false f)).bind fun g=>(af (.tup []) z true (bin .sub false [] g (I 1))).bind fun h=>(af D.bad z true (aa y (.ref 0 1))).bind fun j=>(af (.tup []) z true ((atD y j).bind (au false 1))).bind fun k=>(af (.tup []) z true (bin .mul false [] h k)).bind fun l=>(af (.tup []) z true (bin .add false [] (sl e 0) l)).bind fun m=>(af (.tup []) z true (some x2)).bind fun n=>(af (.tup []) z true (bin .leq false [] m n)).bind fun p=>(aU z p (B false)).bind fun z=>some (.ret [z] [])):=by kernel_rfl
theorem vP (x0 x1 x2 x3:D):gc [x0,x1,x2,x3]=((bE 3 x1).bind fun y=>(ba true 3 0 y).bind fun z=>callK (dS [x0,z,x2]) fun c _=>(un .not (sl c 0)).bind fun z=>(af (.tup []) z false (some x0)).bind fun e=>(af (.tup []) z false (some x3)).bind fun f=>bX z false (callK (iW [e,f]) fun c _=>some (.nrm [sl c 0])) [.tup []] fun g=>(af (.tup []) z false (un .not (sl g 0))).bind fun h=>(aU z (B true) h).bind fun z=>ifD z (some (.ret [I 0,B false] [])) ((lenD false x3).bind fun z=>(aQ (fun s=>(bin .lss false [] (sl s 7) (sl s 6)).bind fun z=>ifD z ((ZE D.ptr (aI 1 (sl s 5) (sl s 7))).bind fun z=>((ldD false 1 z).bind bq).bind fun z=>(eT false 1 (sl s 0) (sl s 4) z).bind fun d=>(ba true 3 0 (sl s 2)).bind fun j=>callK (ct [d,j,sl s 1]) fun c _=>(aF (.tup c) 0).bind fun k=>(aF (.tup c) 1).bind fun l=>(un .not l).bind fun m=>ifD m (some (.ret [I 0,B false] [])) ((bin .add false [] (sl s 3) k).bind fun n=>(bin .add false [] (sl s 7) (I 1)).bind fun p=>some (.nrm [sl s 0,sl s 1,sl s 2,n,z,sl s 5,sl s 6,p]))) (some (.ext 0 [sl s 0,sl s 1,sl s 2,sl s 3,sl s 4]))) [x0,x2,y,I 0,I 0,x3,z,I 0]).bind fun o=>outK o (fun i s=>ifN (i.beq 0) ((fw false 1 (sl s 0) (sl s 4)).bind fun z=>(ba true 3 0 (sl s 2)).bind fun d=>callK (dG [z,d,sl s 1]) fun c _=>(un .not (sl c 0)).bind fun z=>ifD z (some (.ret [I 0,B false] [])) (some (.ret [sl s 3,B true] []))) none) fun a b=>some (.ret a b))):=by kernel_rfl
theorem Ik (x0 x1:D):mo [x0,x1]=((aQ (fun s=>(lenD false (sl s 0)).bind fun z=>(bin .lss false [] (sl s 2) z).bind fun z=>(af (.tup []) z true (some (sl s 2))).bind fun c=>(af (.tup []) z true (some (sl s 1))).bind fun d=>(af (.tup []) z true (lenD false d)).bind fun e=>(af (.tup []) z true (bin .lss false [] c e)).bind fun f=>(aU z f (B false)).bind fun z=>ifD z ((ZE D.ptr (aI 1 (sl s 0) (sl s 2))).bind fun z=>((ldD false 1 z).bind bq).bind fun z=>(ZE D.ptr (aI 1 (sl s 1) (sl s 2))).bind fun g=>((ldD false 1 g).bind bq).bind fun h=>(bin .neq false [] z h).bind fun z=>ifD z ((ZE D.ptr (aI 1 (sl s 0) (sl s 2))).bind fun z=>((ldD false 1 z).bind bq).bind fun z=>(ZE D.ptr (aI 1 (sl s 1) (sl s 2))).bind fun j=>((ldD false 1 j).bind bq).bind fun k=>(bin .lss false [] z k).bind fun z=>some (.ret [z] [])) ((bin .add false [] (sl s 2) (I 1)).bind fun z=>some (.nrm [sl s 0,sl s 1,z]))) (some (.ext 0 [sl s 0,sl s 1]))) [x0,x1,I 0]).bind fun o=>outK o (fun i s=>ifN (i.beq 0) ((lenD false (sl s 0)).bind fun z=>(lenD false (sl s 1)).bind fun c=>(bin .lss false [] z c).bind fun z=>some (.ret [z] [])) none) fun a b=>some (.ret a b)):=by kernel_rfl
theorem Ll (x0:D):jf [x0]=((lenD false x0).bind fun z=>(aQ (fun s=>(bin .lss false [] (sl s 3) (sl s 2)).bind fun z=>ifD z ((ZE D.ptr (aI 1 (sl s 1) (sl s 3))).bind fun z=>((ldD false 1 z).bind bq).bind fun z=>(bin .add false [] (sl s 0) z).bind fun z=>(bin .add false [] (sl s 3) (I 1)).bind fun c=>some (.nrm [z,sl s 1,sl s 2,c])) (some (.ext 0 [sl s 0]))) [I 0,x0,z,I 0]).bind fun o=>outK o (fun i s=>ifN (i.beq 0) (some (.ret [sl s 0] [])) none) fun a b=>some (.ret a b)):=by kernel_rfl
theorem Lz (x0 x1 x2:D):nL [x0,x1,x2]=((bE 3 x1).bind fun y=>callK (jf [x0]) fun e _=>(bin .sub false [] x2 (sl e 0)).bind fun z=>(lenD false x0).bind fun f=>(bin .sub false [] f (I 1)).bind fun d=>(aa y (.ref 0 0)).bind fun g=>((atD y g).bind (au false 1)).bind fun h=>(bin .mul false [] d h).bind fun j=>(bin .geq false [] z j).bind fun c=>(af (.tup []) c true (some z)).bind fun k=>(af (.tup []) c true (some d)).bind fun l=>(af D.bad c true (aa y (.ref 0 2))).bind fun m=>(af (.tup []) c true ((atD y m).bind (au false 1))).bind fun n=>(af (.tup []) c true (bin .mul false [] l n)).bind fun p=>(af (.tup []) c true (bin .leq false [] k p)).bind fun q=>(aU c q (B false)).bind fun r=>ifD r (some (.ret [I 0] [])) ((bin .eql false [] d (I 0)).bind fun t=>ifD t (some (.ret [I 3] [])) ((aa y (.ref 0 0)).bind fun u=>((atD y u).bind (au false 1)).bind fun v=>(bin .mul false [] d v).bind fun w=>(bin .lss false [] z w).bind fun z=>ifD z (some (.ret [I 1] [])) (some (.ret [I 2] []))))):=by kernel_rfl
theorem Et (x0 x1:D):jI [x0,x1]=(callK (jf [x0]) fun c _=>(bin .sub false [] x1 (sl c 0)).bind fun z=>(lenD false x0).bind fun d=>(bin .sub false [] d (I 1)).bind fun e=>(aQ (fun s=>(bin .lss false [] (sl s 3) (sl s 1)).bind fun z=>ifD z ((bin .quo false [] (sl s 0) (sl s 1)).bind fun z=>(bin .rem false [] (sl s 0) (sl s 1)).bind fun f=>(bin .lss false [] (sl s 3) f).bind fun g=>ifD g ((bin .add false [] z (I 1)).bind fun z=>(ay 1 [z]).bind fun a=>(dq a).bind fun b=>(bY 1 8 (sl s 2) b).bind fun y=>(bin .add false [] (sl s 3) (I 1)).bind fun z=>some (.nrm [sl s 0,sl s 1,y,z])) ((ay 1 [z]).bind fun a=>(dq a).bind fun b=>(bY 1 8 (sl s 2) b).bind fun y=>(bin .add false [] (sl s 3) (I 1)).bind fun z=>some (.nrm [sl s 0,sl s 1,y,z]))) (some (.ext 0 [sl s 2]))) [z,e,.arr 1 [],I 0]).bind fun o=>outK o (fun i s=>ifN (i.beq 0) (some (.ret [sl s 0] [])) none) fun a b=>some (.ret a b)):=by kernel_rfl
theorem Ie (x0 x1 x2:D):mg [x0,x1,x2]=((bE 3 x1).bind fun y=>callK (jI [x0,x2]) fun c _=>(lenD false (sl c 0)).bind fun z=>(aQ (fun s=>(bin .lss false [] (sl s 4) (sl s 3)).bind fun z=>ifD z ((ZE D.ptr (aI 1 (sl s 2) (sl s 4))).bind fun z=>((ldD false 1 z).bind bq).bind fun z=>(aa (sl s 0) (.ref 0 1)).bind fun d=>((atD (sl s 0) d).bind (au false 1)).bind fun e=>(bin .sub false [] z e).bind fun f=>(aa (sl s 0) (.ref 0 1)).bind fun g=>((atD (sl s 0) g).bind (au false 1)).bind fun h=>(bin .sub false [] z h).bind fun z=>(bin .mul false [] f z).bind fun z=>(bin .add false [] (sl s 1) z).bind fun z=>(bin .add false [] (sl s 4) (I 1)).bind fun j=>some (.nrm [sl s 0,z,sl s 2,sl s 3,j])) (some (.ext 0 [sl s 1]))) [y,I 0,sl c 0,z,I 0]).bind fun o=>outK o (fun i s=>ifN (i.beq 0) (some (.ret [sl s 0] [])) none) fun a b=>some (.ret a b)):=by kernel_rfl
theorem ww (x0 x1 x2 x3:D):lY [x0,x1,x2,x3]=((bE 3 x1).bind fun y=>(lenD false x0).bind fun z=>(bin .gtr false [] z (I 20)).bind fun z=>ifD z (some (.ret [I 0,B false] [])) (ifD x3 (callK (jf [x0]) fun c _=>(lenD false x0).bind fun z=>(bin .sub false [] z (I 1)).bind fun z=>(aa y (.ref 0 1)).bind fun d=>((atD y d).bind (au false 1)).bind fun e=>(bin .mul false [] z e).bind fun z=>(bin .add false [] (sl c 0) z).bind fun z=>(bin .leq false [] z x2).bind fun z=>some (.ret [I 0,z] [])) ((ba true 3 0 y).bind fun z=>callK (nL [x0,z,x2]) fun c _=>(bin .neq false [] (sl c 0) (I 0)).bind fun z=>ifD z (some (.ret [I 0,B false] [])) ((ba true 3 0 y).bind fun z=>callK (mg [x0,z,x2]) fun c _=>some (.ret [sl c 0,B true] []))))):=by kernel_rfl
theorem Ma (x0 x1:D):lj [x0,x1]=((lenD false x0).bind fun z=>(lenD false x1).bind fun c=>(bin .neq false [] z c).bind fun z=>ifD z (some (.ret [B false] [])) ((lenD false x0).bind fun z=>(aQ (fun s=>(bin .lss false [] (sl s 3) (sl s 2)).bind fun z=>ifD z ((ZE D.ptr (aI 1 (sl s 0) (sl s 3))).bind fun z=>((ldD false 1 z).bind bq).bind fun z=>(ZE D.ptr (aI 1 (sl s 1) (sl s 3))).bind fun d=>((ldD false 1 d).bind bq).bind fun e=>(bin .neq false [] z e).bind fun z=>ifD z (some (.ret [B false] [])) ((bin .add false [] (sl s 3) (I 1)).bind fun z=>some (.nrm [sl s 0,sl s 1,sl s 2,z]))) (some (.ext 0 []))) [x0,x1,z,I 0]).bind fun o=>outK o (fun i _=>ifN (i.beq 0) (some (.ret [B true] [])) none) fun a b=>some (.ret a b))):=by kernel_rfl
set_option maxRecDepth 100000
theorem eY (a b c:Int):cV [I a,I b,I c]=some (.ret [B (decide (b≤a∧a≤c))] []):=by
 rw [NP];by_cases h:b≤a<;>simp [h]
theorem cg (a b c:Int):bK [I a,I b,I c]=some (.ret [B (decide (b≤a∧a≤c))] []):=by
 rw [IW];by_cases h:b≤a<;>simp [h]
set_option maxRecDepth 100000
abbrev pce (x:Int × Int):D:=.agg [I x.1,I x.2]
abbrev pcs (l:Ps):D:=.arr 2 (l.map pce)
abbrev plD (p:Pl):D:=.agg [I p.1,I p.2.1,I p.2.2.1,B p.2.2.2]
abbrev pls (l:List Pl):D:=.arr 4 (l.map plD)
abbrev ints (l:List Int):D:=.arr 1 (l.map I)
abbrev iA (G:List (List Int)):D:=.arr 1 (G.map ints)
def eU (wd ht:Nat) (f:Gr):List (List Int):=(ZJ ht).map fun y=>(ZJ wd).map fun x=>f y x
theorem fi (n:Int):cT [I n]=some (.ret [B (bD n)] []):=by
 rw [yn];simp -implicitDefEqProofs only [gP,aae,aaf,aag,cg,bD]
theorem ED {l:Ps} {i:Nat} (h:i<l.length):aI 2 (pcs l) (I (i:Int))=some [I l[i].1,I l[i].2]:=by simp [h]
theorem rC (l:Ps) (h:l.length≤1048576):gj [pcs l]=some (.ret [B (ij l)] []):=by
 rw [BR];simp only [aS,ZF,ZY];refine ax _ (dJ l (fun i=>[pcs l,pcs l,I l.length,I i]) (fun _ p=>bD p.1&&bD p.2) (.ret [B false] []) (.ext 0 [pcs l]) (fun i hi=>?_) ?_ rfl rfl rfl) ?_
 ·have hw:ZP.wrap ((i:Int)+1)=(i:Int)+1:=ae (by omega) (by omega)
  cases h1:bD l[i].1
  ·simp -implicitDefEqProofs [hi,fi,h1]
  ·cases h2:bD l[i].2<;>simp -implicitDefEqProofs [hi,fi,h1,h2,hw]
 ·simp
 ·have e:du (fun _ (p:Int × Int)=>bD p.1&&bD p.2) 0 l=l.all (fun p=>bD p.1&&bD p.2):=by
   have key:∀(l:Ps) (i:Nat),du (fun _ (p:Int × Int)=>bD p.1&&bD p.2) i l=l.all (fun p=>bD p.1&&bD p.2):=by
    intro l;induction l with
    | nil=>intro i;rfl
    | cons x l ih=>intro i;simp [du,ih]
   exact key l 0
  rw [e];unfold ij;cases l.all (fun p=>bD p.1&&bD p.2)
  ·simp
  ·simp
   omega
theorem qp (l:Ps) (p:Pl) (h0:0≤p.1) (h1:p.1≤(l.length:Int) - 1):mx [pcs l,plD p]=some (.ret [I (szI l p).1,I (szI l p).2] []):=by
 rw [Iw];obtain⟨n,X,Y,t⟩:=p;simp only at h0 h1;obtain⟨i,rfl⟩:∃i:Nat,n=i:=⟨n.toNat,by omega⟩
 have hi:i<l.length:=by omega
 have he:l.getD i (0,0)=l[i]:=by rw [List.getD_eq_getElem?_getD,List.getElem?_eq_getElem hi];rfl
 unfold szI;rw [Int.toNat_natCast,he];cases t<;>simp -implicitDefEqProofs [hi]
theorem HA (wd ht:Nat) (f:Gr):(eU wd ht f).length=ht:=by simp [eU]
theorem EN {wd ht:Nat} (f:Gr) {y:Nat} (hy:y<ht):aI 1 (iA (eU wd ht f)) (I (y:Int))=some [ints ((ZJ wd).map fun x=>f y x)]:=by
 simp [eU,hy]
theorem SM {wd:Nat} (g:Nat→Int) {x:Nat} (hx:x<wd):aI 1 (ints ((ZJ wd).map fun x=>g x)) (I (x:Int))=some [I (g x)]:=by
 simp [hx]
set_option maxHeartbeats 1000000 in
theorem wB (wd ht:Nat) (f:Gr) (l:Ps) (p:Pl) (hl:ij l=true) (h0:0≤p.1) (h1:p.1≤(l.length:Int) - 1) (hw1:1≤wd) (hh1:1≤ht) (hw8:wd≤8) (hh8:ht≤8)
  (hX : -1000000≤p.2.1∧p.2.1≤1000000) (hY : -1000000≤p.2.2.1∧p.2.2.1≤1000000):jE [iA (eU wd ht f),pcs l,plD p]=some (.ret [B (jo wd ht f l p)] []):=by
 rw [Iq];have hs:=qp l p h0 h1;obtain⟨s1,s2,s3,s4,s5,s6⟩:=NE hl h0 h1;rw [←s1,←s2] at hs;have hroom:jo wd ht f l p=@decide _ (ZS (nv wd ht f l p)):=rfl;have hno:¬nv wd ht f l p→jo wd ht f l p=false:=fun h=>by rw [hroom];exact @decide_eq_false _ (ZS _) h
 have hyes:nv wd ht f l p→jo wd ht f l p=true:=fun h=>by rw [hroom];exact @decide_eq_true _ (ZS _) h
 clear hroom;unfold nv at hno hyes;generalize jo wd ht f l p=r at *;generalize (szN l p).1=a at *;generalize (szN l p).2=b at *;obtain⟨n,X,Y,t⟩:=p;simp only at hX hY hno hyes;clear s1 s2 h0 h1;have hr0:aI 1 (iA (eU wd ht f)) (I 0)=some [ints ((ZJ wd).map fun x=>f 0 x)]:=EN f (y:=0) (by omega);have hl0:(((ZJ wd).map fun x=>f 0 x).map I).length=wd:=by simp
 have hl1:((eU wd ht f).map ints).length=ht:=by simp [HA]
 have hwX:ZP.wrap (X+(a:Int))=X+a:=ae (by omega) (by omega);have hwY:ZP.wrap (Y+(b:Int))=Y+b:=ae (by omega) (by omega);by_cases c1:X<0
 ·rw [hno (fun h=>by omega)]
  simp -implicitDefEqProofs [hs,c1]
 by_cases c2:Y<0
 ·rw [hno (fun h=>by omega)]
  simp -implicitDefEqProofs [hs,c1,c2]
 by_cases c3:X+(a:Int)>(wd:Int)
 ·rw [hno (fun h=>by omega)]
  simp -implicitDefEqProofs [hs,c1,c2,c3,hr0,hl0,hwX]
 by_cases c4:Y+(b:Int)>(ht:Int)
 ·rw [hno (fun h=>by omega)]
  simp -implicitDefEqProofs [hs,c1,c2,c3,c4,hr0,hl0,hl1,hwX,hwY]
 obtain⟨X,rfl⟩:∃m:Nat,X=m:=⟨X.toNat,by omega⟩
 obtain⟨Y,rfl⟩:∃m:Nat,Y=m:=⟨Y.toNat,by omega⟩
 simp -implicitDefEqProofs [hs,c1,c2,c3,c4,hr0,hl0,hl1,hwX,hwY];refine bu (fun r'=>r'=some (.ret [B r] [])) (fun y:Nat=>[iA (eU wd ht f),plD (n,(X:Int),(Y:Int),t),I (a:Int),I (b:Int),I (y:Int)]) (fun y=>Y≤y∧y≤Y+b∧∀y' x:Nat,Y≤y'→y'<y→X≤x→x<X+a→f y' x = -1) (fun y=>Y+b - y)
  (fun o=>(o = .ret [B false] []∧r=false)∨(o = .ext 0 []∧r=true)) (fun y hy=>?_) Y ⟨aak _,by omega,fun y' x h1 h2=>by omega⟩ rfl (fun o ho=>?_)
 ·obtain⟨y1,y2,y3⟩:=hy
  have hwy:ZP.wrap ((y:Int)+1)=((y+1:Nat):Int):=by rw [ae (by omega) (by omega)];omega
  by_cases d1:y<Y+b
  ·have d1':(y:Int)<(Y:Int)+(b:Int):=by omega
   have hry:=EN (wd:=wd) f (y:=y) (ht:=ht) (by omega);simp -implicitDefEqProofs [d1',hwY];refine bu (fun r'=>(∃a':Nat,r'=some (.nrm [iA (eU wd ht f),plD (n,(X:Int),(Y:Int),t),I (a:Int),I (b:Int),I (a':Int)])∧(Y≤a'∧a'≤Y+b∧∀y' x:Nat,Y≤y'→y'<a'→X≤x→x<X+a→f y' x = -1)∧Y+b - a'<Y+b - y)∨∃o,r'=some o∧o.ends=true∧((o = .ret [B false] []∧r=false)∨(o = .ext 0 []∧r=true)))
    (fun x:Nat=>[iA (eU wd ht f),plD (n,(X:Int),(Y:Int),t),I (a:Int),I (b:Int),I (y:Int),I (x:Int)]) (fun x=>X≤x∧x≤X+a∧∀x':Nat,X≤x'→x'<x→f y x' = -1) (fun x=>X+a - x)
    (fun o=>(o = .ret [B false] []∧r=false)∨(o = .ext 2 [iA (eU wd ht f),plD (n,(X:Int),(Y:Int),t),I (a:Int),I (b:Int),I (y:Int)]∧∀x':Nat,X≤x'→x'<X+a→f y x' = -1)) (fun x hx=>?_) X ⟨aak _,by omega,fun x' h1 h2=>by omega⟩ rfl (fun o ho2=>?_)
   ·obtain⟨x1,x2,x3⟩:=hx
    have hwx:ZP.wrap ((x:Int)+1)=((x+1:Nat):Int):=by rw [ae (by omega) (by omega)];omega
    by_cases e1:x<X+a
    ·have e1':(x:Int)<(X:Int)+(a:Int):=by omega
     have hrx:=SM (wd:=wd) (fun x=>f y x) (x:=x) (by omega);by_cases e2:f y x = -1
     ·refine .inl ⟨x+1,?_,⟨by omega,by omega,fun x' h1 h2=>?_⟩,by omega⟩
      ·simp -implicitDefEqProofs [e1',hwX,hry,hrx,e2,hwx,eq_self]
      ·by_cases e3:x'=x
       ·rw [e3];exact e2
       ·exact x3 x' h1 (by omega)
     ·refine .inr ⟨_,?_,rfl,.inl ⟨rfl,hno fun h=>e2 (h.2.2.2.2 y x (by omega) (by omega) (by omega) (by omega))⟩⟩
      simp -implicitDefEqProofs [e1',hwX,hry,hrx,e2]
    ·have e1':¬(x:Int)<(X:Int)+(a:Int):=by omega
     refine .inr ⟨_,?_,?_,.inr ⟨rfl,fun x' h1 h2=>x3 x' h1 (by omega)⟩⟩
     ·simp -implicitDefEqProofs [e1',hwX]
     ·rfl
   ·rcases ho2 with ⟨rfl,h2⟩ | ⟨rfl,h2⟩
    ·refine .inr ⟨_,?_,rfl,.inl ⟨rfl,h2⟩⟩
     simp -implicitDefEqProofs
    ·refine .inl ⟨y+1,?_,⟨by omega,by omega,fun y' x g1 g2 g3 g4=>?_⟩,by omega⟩
     ·simp -implicitDefEqProofs [hwy]
     ·by_cases e3:y'=y
      ·rw [e3];exact h2 x g3 g4
      ·exact y3 y' x g1 (by omega) g3 g4
  ·have d1':¬(y:Int)<(Y:Int)+(b:Int):=by omega
   refine .inr ⟨.ext 0 [],?_,rfl,.inr ⟨rfl,hyes ⟨by omega,by omega,by omega,by omega,fun y' x g1 g2 g3 g4=>y3 y' x (by omega) (by omega) (by omega) (by omega)⟩⟩⟩
   simp -implicitDefEqProofs [d1',hwY]
 ·rcases ho with ⟨rfl,h2⟩ | ⟨rfl,h2⟩
  ·rw [h2];rfl
  ·rw [h2];rfl
open Go Go.Proofs Go.V Go.RowKit
set_option maxRecDepth 100000
theorem fF {P:Program} {G:List (Nat × (Obj→Prop))} {f:FuncId} {S:FS} (he:∀args w,(callFunc f args).run P w = .ok (.enter f args) w) (hm:aw G P f S) {ds rs us:List D} (hd:S.f ds=some (.ret rs us)) {args:Array Value} {w:World} {F:Nat→Prop} {ow:Nat→Option Nat}
  (hgl:gOk G w F) (ha:dU w F ow 0 S.pm ds args.toList) (hF:∀b,F b→b<w.heap.size∧ow b=none) (hO:∀b i,ow b=some i→b<w.heap.size) :
  Calls P f args w fun e w'=>∃v,e = .returned v∧∃F' R vs,v=jW vs∧CallPost S args rs us w F ow F' R vs w':=by
 have h2:=hm ds rs us hd args w F ow hgl ha hF hO {(default:Oper) with dst:=some 0} {tmps:=#[undef],defers:=[]} (fun a w'=>∃F' R vs,a.tmps.getD 0 undef=jW vs∧CallPost S args rs us w F ow F' R vs w') (fun _ _ _=>False) (fun v w' h=>by
  obtain⟨F',R,vs,rfl,h⟩:=h;exact⟨F',R,vs,by simp [Act.put],h⟩)
 rw [he,Oper.upon_enter] at h2;refine Calls.mono h2 fun e w' he=>?_
 cases e with
 | returned v =>
  obtain⟨F',R,vs,h3,h4⟩:=he;exact⟨v,rfl,F',R,vs,by simpa [Act.put] using h3,h4⟩
 | panicked c=>exact he.elim
 | outgrown=>obtain⟨_,_,h⟩:=he;exact h.elim
theorem fd {P:Program} {G:List (Nat × (Obj→Prop))} {f:FuncId} {S:FS} (he:∀args w,(callFunc f args).run P w = .ok (.enter f args) w) (hm:aw G P f S) {ds:List D} {y:Value} (f':List D→Option Out) (hf':S.f=f') (hd:f' ds=some (.ret [.v y] [])) (hrm:S.rm=[.dat 0]) {args:Array Value} {w:World} {F:Nat→Prop}
  (hgl:gOk G w F) (ha:dU w F (fun _=>none) 0 S.pm ds args.toList) (hF:∀b,F b→b<w.heap.size):Calls P f args w fun e w'=>e = .returned y∧Below w.heap.size w w':=by
 refine(fF he hm (hf' ▸ hd) hgl ha (fun b hb=>⟨hF b hb,rfl⟩) (fun b i h=>by cases h)).mono ?_
 rintro e w' ⟨v,rfl,F',R,vs,rfl,hpost⟩;have hl:=hpost.len;rw [hrm] at hl;obtain⟨u,rfl⟩:=List.length_eq_one_iff.1 hl;have h0:=hpost.res 0;rw [hrm] at h0;simp only [aq,nth,List.getD_cons_zero] at h0;rcases h0 with h0 | h0
 ·cases h0
 exact⟨by rw [jW,(cX.1 h0).1],⟨hpost.os,hpost.tape,hpost.output,hpost.size,fun b hb=>hpost.keep b hb rfl⟩⟩
theorem Qp {vs:List Value} (h:vs.length=2):∃a b,vs=[a,b]:=match vs,h with
 | [a,b],_=>⟨a,b,rfl⟩
theorem qa {f:Nat} {pm:List Kd} {ff:List D→Option Out} {ds:List D} {a b:Value} {args:Array Value} (he:∀args w,(callFunc f args).run Tryz.prog w = .ok (.enter f args) w) (hm:aw gl0 Tryz.prog f {pm:=pm,rm:=[.dat 0,.dat 0],f:=ff}) (hd:ff ds=some (.ret [.v a,.v b] [])) {w:World} {F:Nat→Prop}
  (ha:dU w F (fun _=>none) 0 pm ds args.toList) (hF:∀b,F b→b<w.heap.size):Calls Tryz.prog f args w fun e w'=>e = .returned (.tuple #[a,b])∧Below w.heap.size w w':=by
 refine(fF (ow:=fun _=>none) (F:=F) (ds:=ds) (rs:=[.v a,.v b]) (us:=[]) (args:=args) he hm hd ga ha (fun b hb=>⟨hF b hb,rfl⟩) (fun b i h=>by cases h)).mono ?_
 rintro e w' ⟨v,rfl,F',R,vs,rfl,hp⟩;have hl:=hp.len;obtain⟨u,u2,rfl⟩:=Qp (hl.trans rfl);have h0:=hp.res 0;have h1:=hp.res 1;rcases h0 with h0 | h0
 ·cases h0
 rcases h1 with h1 | h1
 ·cases h1
 obtain⟨hu,_⟩:=cX.1 h0;obtain⟨hu2,_⟩:=cX.1 h1;have hu':u=a:=hu;have hu2':u2=b:=hu2;subst hu' hu2';exact⟨rfl,hp.os,hp.tape,hp.output,hp.size,fun b hb=>hp.keep b hb rfl⟩
theorem vH {w:World} {F:Nat→Prop}:∀(l:List Int),bW w F (l.map I) (l.map (ZG .i64))
 | []=>aW.2 rfl
 | x::l=>aA.2 ⟨[.int .i64 x],l.map (ZG .i64),rfl,by simp only [RepC];exact⟨trivial,rfl⟩,vH l⟩
theorem CZ {w:World} {F:Nat→Prop} {z:Nat} {l:List D} {y:Value} (h:bf w F (.arr z l) y):∃A c,y = .slice A l.length c:=by
 obtain⟨A,c,us,e,_⟩:=h;simp only [ZN,and_true] at e;exact⟨A,c,e⟩
theorem rU {S:FS} {args:Array Value} {d:D} {K:Nat→Prop} {fl:List Value} {v:Value} {w w':World} {F:Nat→Prop} {ow:Nat→Option Nat} (hr:bf w' K d v) (hK:∀b,K b→w.heap.size≤b∧b<w'.heap.size) (hB:Below w.heap.size w w') (hF:∀b,F b→b<w.heap.size∧ow b=none)
  (hio:(S.pm.all fun k=>!mW k)=true) (hl:S.pm.length=args.size) (hrm:S.rm = .dat 1::fl.map fun _=>.dat 0) (hfl:∀x∈fl,flat x=true):∃F' R,CallPost S args (d::fl.map D.v) [] w F ow F' R (v::fl) w':=by
 refine⟨fun b=>K b∨F b,fun _=>none,hB.os,hB.tape,hB.output,hB.size,fun b hb _=>hB.block b hb,fun b hb=>.inr hb,fun b hb=>⟨?_,?_,rfl⟩,(fun b j h=>by cases h),by rw [hrm];simp,by rw [hrm];simp,fun j=>?_,Ky _ _ hio (by simpa using hl)⟩
 ·rcases hb with hb | hb
  ·exact .inr (hK b hb).1
  ·exact .inl hb
 ·rcases hb with hb | hb
  ·exact(hK b hb).2
  ·exact aah (hF b hb).1 hB.size
 ·rw [hrm]
  match j with
  | 0=>exact .inr (aK (fun b hb=>⟨.inl hb,(hK b hb).1⟩) (fun _ _=>rfl) hr)
  | j+1 =>
   have key:∀(p:Nat→Prop) (fl:List Value) (j:Nat),(∀x∈fl,flat x=true)→KO w' (fun b=>K b∨F b) w.heap.size p (aq (fl.map fun _=>Kd.dat 0) j) (nth (fl.map D.v) j) (fl.getD j undef):=by
    intro p fl;induction fl with
    | nil=>exact fun j _=>.inl (by cases j<;>rfl)
    | cons x fl ih =>
     intro j hx;cases j with
     | zero=>exact .inr (cX.2 ⟨rfl,hx x (by simp)⟩)
     | succ j=>exact ih j fun y hy=>hx y (by simp [hy])
   exact key _ fl j hfl
theorem KU {α:Type} {w:World} {F:Nat→Prop} (d:α→D) (u:α→Value):∀(l:List α),(∀x∈l,RepC w F (d x) [u x])→bW w F (l.map d) (l.map u)
 | [],_=>aW.2 rfl
 | x::l,h=>aA.2 ⟨[u x],l.map u,rfl,h x (by simp),KU d u l fun y hy=>h y (by simp [hy])⟩
theorem Rf {w:World} {F:Nat→Prop} {b c:Nat} {l:List Int} {cur:Array Value} {t:Nat} (hF:F b) (hc:l.length≤c) (hg:w.heap[b]?=some (.cells cur t (0,0))) (hcur:∀(i:Nat) (u:Value),(l.map (ZG .i64))[i]?=some u→cur[i]?=some u):RepC w F (ints l) [.slice (some ⟨b,0,none⟩) l.length c]:=by
 simp only [RepC];refine⟨some ⟨b,0,none⟩,c,l.map (ZG .i64),by rw [ZF],by rw [ZF];exact hc,vH l,fun d hd=>?_,fun _=>⟨b,0,rfl,hF,fun i u hu=>?_⟩⟩
 ·obtain⟨x,_,rfl⟩:=ZZ.1 hd
  rfl
 ·rw [Nat.zero_add,Lib.cell_of_heap hg]
  exact hcur i u hu
def WE (g:Nat) (bs:Nat→Nat) (ht:Nat) (b:Nat):Prop:=b=g∨∃y,y<ht∧b=bs y
theorem Grd.rep {W:World} {B g cap wd ht:Nat} {bs cs:Nat→Nat} {f:Gr} (h:Grd W B g cap bs cs wd ht f):bf W (WE g bs ht) (iA (eU wd ht f)) (.slice (some ⟨g,0,none⟩) ht cap):=by
 show RepC W _ (iA (eU wd ht f)) [.slice (some ⟨g,0,none⟩) ht cap]
 simp only [RepC];have hl:((eU wd ht f).map ints).length=ht:=by simp [eU]
 refine⟨some ⟨g,0,none⟩,cap,(ZJ ht).map fun y=>.slice (some ⟨bs y,0,none⟩) wd (cs y),by rw [hl],by rw [hl];exact h.hcap,?_,fun d hd=>?_,fun _=>⟨g,0,rfl,.inl rfl,fun i u hu=>?_⟩⟩
 ·unfold eU
  rw [List.map_map];refine KU _ _ _ fun y hy=>?_
  have hy:=aao.1 hy;obtain⟨_,h2,cur,h3,h4,h5⟩:=h.row y hy;have:=Rf (w:=W) (F:=WE g bs ht) (b:=bs y) (c:=cs y) (l:=(ZJ wd).map fun x=>f y x) (.inr ⟨y,hy,rfl⟩) (by simpa using h2) h3 (fun i u hu=>by
   rw [ZK,ZK] at hu;by_cases hi:i<wd
   ·rw [ZQ hi] at hu
    simp only [ZR,ZW] at hu;rw [←hu];exact h5 i hi
   ·rw [ZT (by simp;omega)] at hu
    cases hu)
  rw [ZF,aai] at this;exact this
 ·obtain⟨x,_,rfl⟩:=ZZ.1 hd
  rfl
 ·rw [Nat.zero_add]
  by_cases hi:i<ht
  ·rw [ZK,ZQ hi] at hu
   simp only [ZR,ZW] at hu;rw [←hu];exact h.cell hi
  ·rw [ZT (by simp;omega)] at hu
   cases hu
theorem Grd.blk {W:World} {B g cap wd ht:Nat} {bs cs:Nat→Nat} {f:Gr} (h:Grd W B g cap bs cs wd ht f):∀b,WE g bs ht b→B≤b∧b<W.heap.size:=fun b hb=>by
 rcases hb with rfl | ⟨y,hy,rfl⟩
 ·exact⟨h.hB,h.ltg⟩
 ·exact⟨(h.row y hy).1,h.ltb hy⟩
theorem Th {w:World} {F:Nat→Prop} {l:List Pl} {us:List Value} (h:bW w F (l.map plD) us) {i:Nat} (hi:i<l.length) :
  us[i*4]?=some (.int .i64 l[i].1)∧us[i*4+1]?=some (.int .i64 l[i].2.1)∧us[i*4+2]?=some (.int .i64 l[i].2.2.1)∧us[i*4+3]?=some (.bool l[i].2.2.2):=by
 obtain⟨p,m,q,rfl,hp,hm,hc,_⟩:=uU (z:=4) _ _ h (fun d hd=>by obtain⟨x,_,rfl⟩:=ZZ.1 hd;rfl) i (plD l[i]) (by simp [hi]);simp only [RepC,aA,aW] at hc;obtain⟨⟨v1,v2,rfl,⟨rfl,_⟩,v3,v4,rfl,⟨rfl,_⟩,v5,v6,rfl,⟨rfl,_⟩,v7,v8,rfl,⟨rfl,_⟩,rfl⟩,_⟩:=hc;refine⟨?_,?_,?_,?_⟩<;>rw [List.append_assoc,List.getElem?_append_right (by omega),hp]<;>simp [show ∀k,i*4+k - i*4=k from fun k=>by omega]
theorem EK {α β:Type} {f:α→β} (hf:∀x y,f x=f y→x=y):∀{a b:List α},a.map f=b.map f→a=b
 | [],[],_=>rfl
 | x::a,y::b,h=>by
  simp only [ZV,ZN] at h;rw [hf x y h.1,EK hf h.2]
 | [],_::_,h=>by simp at h
 | _::_,[],h=>by simp at h
theorem Yg:∀{a b:List Pl},pls a=pls b→a=b:=by
 intro a b h;have h1:a.map plD=b.map plD:=(D.arr.inj h).2;refine EK (fun x y e=>?_) h1
 obtain⟨x1,x2,x3,x4⟩:=x;obtain⟨y1,y2,y3,y4⟩:=y;simp only [D.agg.injEq,ZN,D.v.injEq,aal,Value.bool.injEq,true_and,and_true] at e;obtain⟨rfl,rfl,rfl,rfl⟩:=e;rfl
theorem TW:∀{a b:Ps},pcs a=pcs b→a=b:=by
 intro a b h;have h1:a.map pce=b.map pce:=(D.arr.inj h).2;refine EK (fun x y e=>?_) h1
 obtain⟨x1,x2⟩:=x;obtain⟨y1,y2⟩:=y;simp only [D.agg.injEq,ZN,D.v.injEq,aal,true_and,and_true] at e;obtain⟨rfl,rfl⟩:=e;rfl
theorem Lm {W:World} {F:Nat→Prop} (p:Pl):bf W F (plD p) (FN p):=by
 refine⟨[.int .i64 p.1,.int .i64 p.2.1,.int .i64 p.2.2.1,.bool p.2.2.2],rfl,?_⟩
 simp only [RepC];refine⟨?_,rfl⟩
 exact aA.2 ⟨[_],_,rfl,(by simp only [RepC];exact⟨trivial,rfl⟩),aA.2 ⟨[_],_,rfl,(by simp only [RepC];exact⟨trivial,rfl⟩),aA.2 ⟨[_],_,rfl,(by simp only [RepC];exact⟨trivial,rfl⟩),aA.2 ⟨[_],[],rfl,(by simp only [RepC];exact⟨trivial,rfl⟩),aW.2 rfl⟩⟩⟩⟩
def RE (ps:List Pl):Prop:=ps.length≤1048576∧∀p∈ps,(-1000000≤p.2.1∧p.2.1≤1000000)∧(-1000000≤p.2.2.1∧p.2.2.1≤1000000)
def ve (w h:Int) (l:Ps) (ps:List Pl):D:=match js w h l ps with
 | none=>.arr 1 []
 | some f=>iA (eU w.toNat h.toNat f)
def qg (w h:Int) (l:Ps) (ps:List Pl):Bool:=(js w h l ps).isSome
open Classical in
def Cb (ds:List D):Option Out:=if h:∃(x:Int × Int × Ps × List Pl),ds=[I x.1,I x.2.1,pcs x.2.2.1,pls x.2.2.2]∧x.2.2.1.length≤1048576∧RE x.2.2.2 then some (.ret [ve (ZH h).1 (ZH h).2.1 (ZH h).2.2.1 (ZH h).2.2.2,B (qg (ZH h).1 (ZH h).2.1 (ZH h).2.2.1 (ZH h).2.2.2)] []) else none
theorem uK (w h:Int) (l:Ps) (ps:List Pl) (hl:l.length≤1048576) (hp:RE ps):Cb [I w,I h,pcs l,pls ps]=some (.ret [ve w h l ps,B (qg w h l ps)] []):=by
 have hh:∃(x:Int × Int × Ps × List Pl),[I w,I h,pcs l,pls ps]=[I x.1,I x.2.1,pcs x.2.2.1,pls x.2.2.2]∧x.2.2.1.length≤1048576∧RE x.2.2.2:=⟨(w,h,l,ps),rfl,hl,hp⟩
 unfold Cb;rw [dif_pos hh];have h2:=(Classical.choose_spec hh).1;generalize ZH hh=x at *;obtain⟨w',h',l',ps'⟩:=x;simp only [ZN,and_true] at h2;obtain⟨e1,e2,e3,e4⟩:=h2;have e1':w=w':=by simpa using e1
 have e2':h=h':=by simpa using e2
 have e3':=TW (a:=l) (b:=l') e3;have e4':=Yg (a:=ps) (b:=ps') e4;subst e1' e2' e3' e4';rfl
@[reducible] def kY:FS:={pm:=[.dat 0,.dat 0,.dat 2,.dat 2],rm:=[.dat 1,.dat 0],f:=Cb}
theorem KJ {w:World} {F:Nat→Prop} {ow:Nat→Option Nat} {k1 k2 k3 k4:Nat} {d1 d2 d3 d4:D} {args:Array Value} (h:dU w F ow 0 [.dat k1,.dat k2,.dat k3,.dat k4] [d1,d2,d3,d4] args.toList) (h1:d1 ≠ .bad) (h2:d2 ≠ .bad) (h3:d3 ≠ .bad) (h4:d4 ≠ .bad) :
  ∃y1 y2 y3 y4,args=#[y1,y2,y3,y4]∧bf w (FB F 0 k1) d1 y1∧bf w (FB F 0 k2) d2 y2∧bf w (FB F 0 k3) d3 y3∧bf w (FB F 0 k4) d4 y4:=by
 obtain⟨l⟩:=args
 match l,h with
 | [y1,y2,y3,y4],⟨ha,hb,hc,hd,_⟩=>exact⟨y1,y2,y3,y4,rfl,ha.resolve_left h1,hb.resolve_left h2,hc.resolve_left h3,hd.resolve_left h4⟩
theorem Fe:aw gl0 Tryz.prog 33 kY:=by
 have he:∀args w,(callFunc 33 args).run Tryz.prog w = .ok (.enter 33 args) w:=ZL Tryz.func33 (by kernel_rfl) rfl;refine kR he fun ds rs us hd args w F ow hg ha hF _=>?_
 have hd0:Cb ds=some (.ret rs us):=hd;have hh:∃(x:Int × Int × Ps × List Pl),ds=[I x.1,I x.2.1,pcs x.2.2.1,pls x.2.2.2]∧x.2.2.1.length≤1048576∧RE x.2.2.2:=by
  unfold Cb at hd0;split at hd0
  ·assumption
  ·cases hd0
 obtain⟨⟨wi,hi,l,ps⟩,rfl,hl,hp⟩:=hh;simp only at hl hp hd0 ha;rw [uK wi hi l ps hl hp] at hd0;simp only [ZW,Out.ret.injEq] at hd0;obtain⟨rfl,rfl⟩:=hd0;obtain⟨y1,y2,y3,y4,rfl,r1,r2,r3,r4⟩:=KJ ha (by simp) (by simp) (by simp) (by simp);obtain⟨rfl,_⟩:=cX.1 r1;obtain⟨rfl,_⟩:=cX.1 r2;replace r3:bf w F (pcs l) y3:=r3;replace r4:bf w F (pls ps) y4:=r4;obtain⟨pA,pc,rfl⟩:=CZ r3;obtain⟨A,c,rfl⟩:=CZ r4;rw [ZF] at r3 r4 ⊢;rw [ZF];have hp3:∀W,Below w.heap.size w W→bf W (fun b=>b<W.heap.size) (pcs l) (.slice pA l.length pc):=fun W hW=>aK (fun b hb=>aah (hF b hb).1 hW.size) (fun b hb=>hW.block b (hF b hb).1) r3
 refine(OY w wi hi l ps pA pc A c hp.1 (fun i hi=>?_) (fun W n hW=>?_) (fun W hW=>?_) (fun W x lo hi hW=>?_) (fun hok W p hpm h0 h1 hW=>?_) (fun hok W p wd ht g cap bs cs f hpm h0 h1 hw1 hh1 hw8 hh8 hW hG=>?_)).mono ?_
 ·obtain⟨A',c',us',e,hc,hr,_,hA⟩:=r4
  simp only [ZN,and_true,Value.slice.injEq] at e;obtain⟨rfl,_,rfl⟩:=e;obtain⟨b,o,e,hb,hcell⟩:=hA (fun e=>by rw [List.map_eq_nil_iff] at e;subst e;simp at hi);refine⟨b,o,e,(hF b hb).1,fun j p hj=>?_⟩
  have hjl:=(ZX.1 hj).1;obtain⟨q1,q2,q3,q4⟩:=Th hr hjl;rw [(ZX.1 hj).2] at q1 q2 q3 q4;exact⟨hcell _ _ q1,by rw [aad];exact hcell _ _ q2,by rw [aad];exact hcell _ _ q3,by rw [aad];exact hcell _ _ q4⟩
 ·exact fd (ZL Tryz.func68 (by kernel_rfl) rfl) ke cT rfl (fi n) rfl (F:=fun _=>False) ga
   (show cR W _ _ (.dat 0) (I n) (.int .i64 n)∧True from⟨.inr (cX.2 ⟨rfl,rfl⟩),trivial⟩) (fun b hb=>hb.elim)
 ·exact fd (ZL Tryz.func69 (by kernel_rfl) rfl) rh gj rfl (rC l hl) rfl (F:=fun b=>b<W.heap.size) ga
   (show cR W _ _ (.dat 2) (pcs l) (.slice pA l.length pc)∧True from⟨.inr (hp3 W hW),trivial⟩) (fun b hb=>hb)
 ·exact fd (ZL Tryz.func76 (by kernel_rfl) rfl) cE bK rfl (cg x lo hi) rfl (F:=fun _=>False) ga
   (show cR W _ _ (.dat 0) (I x) (.int .i64 x)∧cR W _ _ (.dat 0) (I lo) (.int .i64 lo)∧cR W _ _ (.dat 0) (I hi) (.int .i64 hi)∧True from⟨.inr (cX.2 ⟨rfl,rfl⟩),.inr (cX.2 ⟨rfl,rfl⟩),.inr (cX.2 ⟨rfl,rfl⟩),trivial⟩) (fun b hb=>hb.elim)
 ·have hs:=qp l p h0 h1
  obtain⟨s1,s2,_⟩:=NE hok h0 h1;rw [←s1,←s2] at hs;exact qa (ds:=[pcs l,plD p]) (F:=fun b=>b<W.heap.size) (ZL Tryz.func116 (by kernel_rfl) rfl) qE hs
   (show cR W _ _ (.dat 2) (pcs l) (.slice pA l.length pc)∧cR W _ _ (.dat 0) (plD p) (FN p)∧True from⟨.inr (hp3 W hW),.inr (Lm p),trivial⟩) (fun b hb=>hb)
 ·have hb:=hp.2 p hpm
  exact fd (ZL Tryz.func71 (by kernel_rfl) rfl) xS jE rfl (wB wd ht f l p hok h0 h1 hw1 hh1 hw8 hh8 hb.1 hb.2) rfl (F:=fun b=>b<W.heap.size) ga
   (show cR W _ _ (.dat 2) (iA (eU wd ht f)) (.slice (some ⟨g,0,none⟩) ht cap)∧cR W _ _ (.dat 2) (pcs l) (.slice pA l.length pc)∧cR W _ _ (.dat 0) (plD p) (FN p)∧True from⟨.inr (aK (fun b hb=>(hG.blk b hb).2) (fun _ _=>rfl) hG.rep),.inr (hp3 W hW),.inr (Lm p),trivial⟩) (fun b hb=>hb)
 ·rintro e w' ⟨hB,⟨hno,rfl⟩ | ⟨f,g,cap,bs,cs,hyes,rfl,hG⟩⟩
  ·refine⟨_,rfl,?_⟩
   obtain⟨F',R,hpost⟩:=rU (S:=kY) (args:=#[.int .i64 wi,.int .i64 hi,.slice pA l.length pc,.slice A ps.length c]) (d:=ve wi hi l ps) (K:=fun _=>False) (fl:=[.bool (qg wi hi l ps)]) (v:=.slice none 0 0) (w':=w') (by
    unfold ve;rw [hno];show RepC _ _ (.arr 1 []) [.slice none 0 0]
    exact zX) (fun b hb=>hb.elim) hB hF rfl rfl rfl (fun x hx=>by rw [ZO.1 hx];rfl)
   exact⟨F',R,_,by unfold qg;rw [hno];rfl,hpost⟩
  ·refine⟨_,rfl,?_⟩
   obtain⟨F',R,hpost⟩:=rU (S:=kY) (args:=#[.int .i64 wi,.int .i64 hi,.slice pA l.length pc,.slice A ps.length c]) (d:=ve wi hi l ps) (K:=WE g bs hi.toNat) (fl:=[.bool (qg wi hi l ps)]) (v:=.slice (some ⟨g,0,none⟩) hi.toNat cap) (w':=w') (by
    unfold ve;rw [hyes];exact hG.rep) hG.blk hB hF rfl rfl rfl (fun x hx=>by rw [ZO.1 hx];rfl)
   exact⟨F',R,_,by unfold qg;rw [hyes];rfl,hpost⟩
end Go.Proofs.YtccaheogjpfhjaaGreat

namespace Go.V
set_option maxRecDepth 100000
def LeO {α:Type} (a b:Option α):Prop:=∀o,a=some o→b=some o
theorem LeO.refl {α:Type} (a:Option α):LeO a a:=fun _ h=>h
theorem LeO.none {α:Type} (b:Option α):LeO none b:=fun _ h=>by cases h
theorem LeO.trans {α:Type} {a b c:Option α} (h:LeO a b) (h':LeO b c):LeO a c:=fun o e=>h' o (h o e)
theorem LeO.bind {α β:Type} {a b:Option α} {f g:α→Option β} (h:LeO a b) (hf:∀x,LeO (f x) (g x)):LeO (a.bind f) (b.bind g):=by
 intro o e;cases a with
 | none=>cases e
 | some x=>rw [h x rfl];exact hf x o e
theorem LeO.ifD {c:D} {a b a' b':Option Out} (h:LeO a a') (h':LeO b b'):LeO (ifD c a b) (ifD c a' b'):=by
 intro o e;unfold V.ifD at e ⊢;split at e<;>first | exact h o e | exact h' o e | cases e
theorem LeO.ifN {c:Bool} {a b a' b':Option Out} (h:LeO a a') (h':LeO b b'):LeO (ifN c a b) (ifN c a' b'):=by
 cases c
 ·exact h'
 ·exact h
theorem LeO.callK {r r':Option Out} {k k':List D→List D→Option Out} (h:LeO r r') (hk:∀a b,LeO (k a b) (k' a b)):LeO (callK r k) (callK r' k'):=by
 intro o e;cases r with
 | none=>cases e
 | some x =>
  rw [h x rfl];cases x with
  | ret a b=>exact hk a b o e
  | nrm _=>cases e
  | ext _ _=>cases e
theorem LeO.outK {o':Out} {x x':Nat→List D→Option Out} {r r':List D→List D→Option Out} (hx:∀i s,LeO (x i s) (x' i s)) (hr:∀a b,LeO (r a b) (r' a b)):LeO (outK o' x r) (outK o' x' r'):=by
 intro o e;cases o' with
 | ret a b=>exact hr a b o e
 | nrm _=>cases e
 | ext i s=>exact hx i s o e
theorem LeO.iter {b b':List D→Option Out} (h:∀s,LeO (b s) (b' s)):∀(n:Nat) (s:List D),LeO (V.iter b n s) (V.iter b' n s)
 | 0,_=>fun o e=>by simp [V.iter] at e
 | n+1,s=>fun o e=>by
  simp only [V.iter] at e ⊢;cases hb:b s with
  | none=>rw [hb] at e;cases e
  | some x =>
   rw [h s x hb];rw [hb] at e;cases x with
   | nrm l=>exact LeO.iter h n l o e
   | ret _ _=>exact e
   | ext _ _=>exact e
theorem LeO.loop {b b':List D→Option Out} (h:∀s,LeO (b s) (b' s)) (s:List D):LeO (aQ b s) (aQ b' s):=by
 intro o e;unfold aQ at e;split at e
 ·exact OR _ (LeO.iter h _ s o e)
 ·cases e
theorem VK {R:Nat→List D→Option Out} {ds:List D} (hm:∀n,LeO (R n ds) (R (n+1) ds)) (n:Nat) {r:Out} (hn:R n ds=some r):MS R ds=some r:=by
 have up:∀(k n:Nat),LeO (R n ds) (R (n+k) ds):=by
  intro k;induction k with
  | zero=>exact fun n=>LeO.refl _
  | succ k ih=>exact fun n=>(ih n).trans (hm (n+k))
 refine Qi (fun m o ho=>?_) n hn
 have h1:=up m n r hn;have h2:=up n m o ho;rw [Nat.add_comm] at h2;rw [h2] at h1;exact Option.some.inj h1
end Go.V

namespace Go.Proofs.YtccaheogjpfhjaaGreat
open Go Go.V
set_option maxRecDepth 100000
theorem Cz {l:List Int} (h:l.Pairwise (·<·)):l.Nodup:=h.imp fun h e=>by omega
structure SetS (l:List Int) (P:Int→Prop):Prop where
 srt:l.Pairwise (·<·)
 iff:∀n,n∈l↔P n
def In8 (P:Int→Prop):Prop:=∀n,P n→0≤n∧n<8
theorem SetS.nil:SetS [] fun _=>False:=⟨aaj,fun n=>by simp⟩
theorem FH {l:List Int} (h:l.Nodup) (h8:∀n∈l,0≤n∧n<8):l.length≤8:=by
 have:=h.length_le_of_subset (l₂:=(ZJ 8).map fun n:Nat=>(n:Int)) (fun n hn=>by
  have:=h8 n hn;exact ZZ.2 ⟨n.toNat,aao.2 (by omega),by omega⟩)
 simpa using this
theorem SetS.len {l:List Int} {P:Int→Prop} (h:SetS l P) (h8:In8 P):l.length≤8:=FH (Cz h.srt) fun n hn=>h8 n ((h.iff n).1 hn)
structure SetM (l:List (Int × Bool)) (P:Int→Prop):Prop where
 nd:(l.map (·.1)).Nodup
 tt:∀p∈l,p.2=true
 iff:∀n,n∈l.map (·.1)↔P n
theorem SetM.nil:SetM [] fun _=>False:=⟨List.nodup_nil,(fun p hp=>by cases hp),fun n=>by simp⟩
theorem Nd:∀{l:List (Int × Bool)} {n:Int},(∀p∈l,p.2=true)→(uN l n=true↔n∈l.map (·.1))
 | [],n,_=>by simp [uN]
 | (m,b)::l,n,h=>by
  have hb:b=true:=h (m,b) (by simp);unfold uN;by_cases e:m=n
  ·simp [e,hb]
  ·rw [if_neg e,Nd fun p hp=>h p (by simp [hp])]
   simp [Ne.symm e]
theorem SetM.get {l:List (Int × Bool)} {P:Int→Prop} (h:SetM l P) (n:Int):uN l n=true↔P n:=(Nd h.tt).trans (h.iff n)
theorem Cm:∀(l:List (Int × Bool)) (n:Int),(qk l n true).map (·.1)=if n∈l.map (·.1) then l.map (·.1) else l.map (·.1)++[n]
 | [],n=>by simp [qk]
 | (m,b)::l,n=>by
  unfold qk;by_cases e:m=n
  ·simp [e]
  ·rw [if_neg e,ZV,Cm l n]
   by_cases h:n∈l.map (·.1)
   ·rw [if_pos h,if_pos (by simp only [ZV,ZI];exact .inr h)]
    rfl
   ·have hno:¬n∈((m,b)::l).map (·.1):=fun h0=>by
     rcases ZI.1 h0 with h1 | h1
     ·exact e h1.symm
     ·exact h h1
    rw [if_neg h,if_neg hno,ZV,List.cons_append]
theorem Ka:∀{l:List (Int × Bool)} {n:Int},(∀p∈l,p.2=true)→∀p∈qk l n true,p.2=true
 | [],n,_,p,hp=>by
  simp only [qk,ZO] at hp;rw [hp]
 | (m,b)::l,n,h,p,hp=>by
  unfold qk at hp;split at hp
  ·rcases ZI.1 hp with rfl | hp
   ·rfl
   ·exact h p (by simp [hp])
  ·rcases ZI.1 hp with rfl | hp
   ·exact h _ (by simp)
   ·exact Ka (fun p hp=>h p (by simp [hp])) p hp
theorem SetM.put {l:List (Int × Bool)} {P:Int→Prop} (h:SetM l P) (n:Int):SetM (qk l n true) fun m=>P m∨m=n:=by
 have hk:=Cm l n;refine⟨?_,Ka h.tt,fun m=>?_⟩
 ·rw [hk]
  split
  ·exact h.nd
  ·rename_i hn
   exact List.nodup_append.2 ⟨h.nd,by simp,fun a ha b hb e=>hn (by rw [ZO.1 hb] at e;exact e ▸ ha)⟩
 ·rw [hk]
  split
  ·rename_i hn
   rw [h.iff];exact⟨.inl,fun h1=>h1.elim id fun h1=>by rw [h1];exact(h.iff n).1 hn⟩
  ·rw [List.mem_append,ZO,h.iff]
theorem SetM.put_len {l:List (Int × Bool)} {P:Int→Prop} (h:SetM l P) {n:Int} (hn:¬P n):(qk l n true).length=l.length+1:=by
 have hk:=congrArg List.length (Cm l n);rw [if_neg (fun h1=>hn ((h.iff n).1 h1))] at hk;simpa using hk
def Fu:List Int→Int→List Int
 | [],n=>[n]
 | x::l,n=>if x<n then x::Fu l n else if x=n then x::l else n::x::l
theorem vl {n m:Int}:∀{l:List Int},m∈Fu l n↔m∈l∨m=n
 | []=>by simp [Fu]
 | x::l=>by
  unfold Fu;split
  ·rw [ZI,vl,ZI,or_assoc]
  ·split
   ·rename_i h
    simp only [ZI];exact⟨.inl,fun h1=>h1.elim id fun h1=>.inl (h1.trans h.symm)⟩
   ·simp only [ZI]
    exact⟨fun h=>h.elim .inr .inl,fun h=>h.elim .inr .inl⟩
theorem Mb {n:Int}:∀{l:List Int},l.Pairwise (·<·)→(Fu l n).Pairwise (·<·)
 | [],_=>by simp [Fu]
 | x::l,h=>by
  obtain⟨h1,h2⟩:=ZU.1 h;unfold Fu;split
  ·rename_i hx
   refine ZU.2 ⟨fun m hm=>?_,Mb h2⟩
   rcases vl.1 hm with hm | rfl
   ·exact h1 m hm
   ·exact hx
  ·split
   ·exact h
   ·refine ZU.2 ⟨fun m hm=>?_,h⟩
    rcases ZI.1 hm with rfl | hm
    ·omega
    ·have:=h1 m hm
     omega
theorem SetS.put {l:List Int} {P:Int→Prop} (h:SetS l P) (n:Int):SetS (Fu l n) fun m=>P m∨m=n:=⟨Mb h.srt,fun m=>by rw [vl,h.iff]⟩
theorem SetS.put_len {l:List Int} {P:Int→Prop} (h:SetS l P) {n:Int} (hn:¬P n):l.length+1≤(Fu l n).length:=by
 have h1:(n::l).Nodup:=aam.2 ⟨fun h1=>hn ((h.iff n).1 h1),Cz h.srt⟩;have:=h1.length_le_of_subset (l₂:=Fu l n) (fun m hm=>by
  rcases ZI.1 hm with rfl | hm
  ·exact vl.2 (.inr rfl)
  ·exact vl.2 (.inl hm))
 simpa using this
def aV (wd ht:Nat) (f:Gr):List Int:=(ZJ (wd*ht)).map fun i=>f (i / wd) (i % wd)
theorem iN (wd ht:Nat) (f:Gr):(aV wd ht f).length=wd*ht:=by simp [aV]
theorem NQ {wd ht y x:Nat} (hy:y<ht) (hx:x<wd):y*wd+x<wd*ht:=by
 have h1:(y+1)*wd≤ht*wd:=Nat.mul_le_mul_right _ hy;rw [Nat.mul_comm wd ht];rw [Nat.add_mul,Nat.one_mul] at h1;omega
theorem Cf {wd y x:Nat} (hx:x<wd):(y*wd+x) / wd=y∧(y*wd+x) % wd=x:=by
 have h0:0<wd:=by omega
 rw [Nat.add_comm,Nat.add_mul_div_right _ _ h0,Nat.add_mul_mod_self_right];exact⟨by rw [Nat.div_eq_of_lt hx];omega,Nat.mod_eq_of_lt hx⟩
theorem Oy {wd ht y x:Nat} (f:Gr) (hy:y<ht) (hx:x<wd):(aV wd ht f)[y*wd+x]?=some (f y x):=by
 unfold aV;rw [ZK,ZQ (NQ hy hx)];obtain⟨h1,h2⟩:=Cf (y:=y) hx;rw [ZR,h1,h2]
theorem Sf {wd ht y x:Nat} (f:Gr) (n:Int) (hy:y<ht) (hx:x<wd):(aV wd ht f).set (y*wd+x) n=aV wd ht fun r c=>if r=y∧c=x then n else f r c:=by
 refine List.ext_getElem? fun i=>?_
 rw [List.getElem?_set];have h0:0<wd:=by omega
 unfold aV;rw [ZF,aai,ZK,ZK];by_cases hi:i<wd*ht
 ·rw [ZQ hi,ZR,ZR]
  by_cases e:y*wd+x=i
  ·subst e
   obtain⟨h1,h2⟩:=Cf (y:=y) hx;rw [if_pos rfl,if_pos hi,h1,h2];show some n=some (if y=y∧x=x then n else f y x)
   rw [if_pos ⟨rfl,rfl⟩]
  ·rw [if_neg e]
   show some (f (i / wd) (i % wd))=some (if i / wd=y∧i % wd=x then n else f (i / wd) (i % wd))
   rw [if_neg];rintro⟨h1,h2⟩;apply e;have:=Nat.div_add_mod i wd;rw [h1,h2,Nat.mul_comm] at this;exact this
 ·rw [ZT (by simp;omega)]
  split
  ·rename_i e
   subst e;exact absurd (NQ hy hx) hi
  ·rfl
def GOK (wd ht:Nat) (f:Gr):Prop:=∀y x,y<ht→x<wd → -1≤f y x∧f y x<8
inductive Prs (st:Int→Prop) (beh:Int→Int→Prop):Int→Prop where
 | base {n:Int}:st n→Prs st beh n
 | step {a b:Int}:0≤a→beh a b→Prs st beh b→Prs st beh a
theorem qP {α:Type} (g:α→Nat→α) (a:α) (n:Nat):(ZJ (n+1)).foldl g a=g ((ZJ n).foldl g a) n:=by
 rw [List.range_succ,List.foldl_append,aan,List.foldl_nil]
structure RowD (d:D) (l:List Int):Prop where
 len:lenD false d=some (I l.length)
 at_:∀(i:Nat) (h:i<l.length),aI 1 d (I (i:Int))=some [I l[i]]
 max:l.length≤1048576
theorem RowD.ints {l:List Int} (h:l.length≤1048576):RowD (Go.Proofs.YtccaheogjpfhjaaGreat.ints l) l:=⟨by simp,fun i hi=>by simp [hi],h⟩
theorem RowD.nil:RowD (.arr 0 []) []:=⟨rfl,fun i hi=>absurd hi (aab _),by simp⟩
def stB (f:Gr) (y:Nat) (s:List (Int × Bool) × Bool) (x:Nat):List (Int × Bool) × Bool:=if f y x ≠ -1∧uN s.1 (f y (x+1))=true∧uN s.1 (f y x)=false then(qk s.1 (f y x) true,true) else s
def LC (f:Gr) (l:List (Int × Bool)) (P Q:Int→Prop) (seen:Nat→Nat→Prop) (s:List (Int × Bool) × Bool):Prop :=
 ∃P',SetM s.1 P'∧(∀n,P n→P' n)∧(∀n,P' n→Q n)∧(s.2=false→s.1=l∧∀y x,seen y x→f y x ≠ -1→P' (f y (x+1))→P' (f y x))∧(s.2=true→l.length<s.1.length)
theorem LC.mono {f:Gr} {l:List (Int × Bool)} {P Q:Int→Prop} {seen seen':Nat→Nat→Prop} {s:List (Int × Bool) × Bool} (h:LC f l P Q seen s) (hs:∀y x,seen' y x→seen y x):LC f l P Q seen' s:=by
 obtain⟨P',h1,h2,h3,h4,h5⟩:=h;exact⟨P',h1,h2,h3,fun e=>⟨(h4 e).1,fun y x h=>(h4 e).2 y x (hs y x h)⟩,h5⟩
theorem LC.step {f:Gr} {l:List (Int × Bool)} {P Q:Int→Prop} {seen:Nat→Nat→Prop} {s:List (Int × Bool) × Bool} (h:LC f l P Q seen s) {y x:Nat} (hq:f y x ≠ -1→Q (f y (x+1))→f y (x+1)≠f y x→Q (f y x)) :
  LC f l P Q (fun y' x'=>seen y' x'∨(y'=y∧x'=x)) (stB f y s x):=by
 obtain⟨P',h1,h2,h3,h4,h5⟩:=h;have g1:=h1.get (f y (x+1));have g2:=h1.get (f y x);unfold stB;split
 ·rename_i hc
  obtain⟨c1,c2,c3⟩:=hc;have hn:¬P' (f y x):=fun hp=>by rw [g2.2 hp] at c3;cases c3
  have hlen:l.length≤s.1.length:=by
   cases e:s.2
   ·rw [(h4 e).1]
    exact aak _
   ·exact Nat.le_of_lt (h5 e)
  refine⟨_,h1.put _,fun n hn=>.inl (h2 n hn),?_,(fun e=>by cases e),fun _=>?_⟩
  ·rintro n (hp | rfl)
   ·exact h3 n hp
   ·exact hq c1 (h3 _ (g1.1 c2)) fun e=>by rw [e,c3] at c2;cases c2
  ·have:=h1.put_len hn
   show l.length<(qk s.1 (f y x) true).length
   omega
 ·rename_i hc
  refine⟨P',h1,h2,h3,fun e=>⟨(h4 e).1,?_⟩,h5⟩
  rintro y' x' (hs | ⟨rfl,rfl⟩) k1 k2
  ·exact(h4 e).2 y' x' hs k1 k2
  ·cases k3:uN s.1 (f y' x')
   ·exact absurd ⟨k1,g1.2 k2,k3⟩ hc
   ·exact g2.1 k3
theorem LC.row {f:Gr} {l:List (Int × Bool)} {P Q:Int→Prop} {seen:Nat→Nat→Prop} {s:List (Int × Bool) × Bool} {y:Nat} (h:LC f l P Q seen s):∀m:Nat,(∀x,x<m→f y x ≠ -1→Q (f y (x+1))→f y (x+1)≠f y x→Q (f y x)) →
  LC f l P Q (fun y' x'=>seen y' x'∨(y'=y∧x'<m)) ((ZJ m).foldl (stB f y) s)
 | 0,_=>h.mono fun y' x' h=>h.elim id fun h=>absurd h.2 (aab _)
 | m+1,hq=>by
  rw [qP];refine((h.row m fun x hx=>hq x (by omega)).step (hq m (by omega))).mono ?_
  rintro y' x' (h | ⟨h1,h2⟩)
  ·exact .inl (.inl h)
  ·by_cases e:x'=m
   ·exact .inr ⟨h1,e⟩
   ·exact .inl (.inr ⟨h1,by omega⟩)
theorem NO {n:Int}:∀(l:List Int) (i:Nat),du (fun _ x=>!decide (x=n)) i l = !decide (n∈l)
 | [],_=>by simp [du]
 | x::l,i=>by
  simp only [du,NO l];by_cases h:x=n
  ·simp [h]
  ·simp [h,Ne.symm h]
theorem zx (l:List Int) (n:Int) (h:l.length≤1048577):gK [ints l,I n]=some (.ret [B (decide (n∈l))] []):=by
 rw [Bz];simp only [aS,ZF,ZY];refine ax _ (dJ l (fun i=>[I n,ints l,I l.length,I i]) (fun _ x=>!decide (x=n)) (.ret [B true] []) (.ext 0 []) (fun i hi=>?_) ?_ rfl rfl rfl) ?_
 ·have hw:ZP.wrap ((i:Int)+1)=(i:Int)+1:=ae (by omega) (by omega)
  by_cases h1:l[i]=n<;>simp -implicitDefEqProofs [hi,hw,h1]
 ·simp
 ·rw [NO]
  by_cases hm:n∈l<;>simp [hm]
theorem EA (a:Int):ay 1 [I a]=some (ints [a]):=by simp [ay,eA]
theorem AK {l m:List Int} (h:l.length+m.length≤1048577):bY 1 8 (ints l) (ints m)=some (ints (l++m)):=by
 rw [bv,if_pos (by simp only [ZF];omega)];simp
theorem nQ (l:List Int) (h:l.length≤1048576):eW [ints l]=some (.ret [ints l] []):=by
 rw [AF];have hc:dq (ints l)=some (ints l):=fj fun _=>rfl
 have ha:=AK (l:=[]) (m:=l) (by simp;omega);rw [List.nil_append,show ints []=D.arr 1 [] from rfl] at ha;simp -implicitDefEqProofs only [gP,aae,aaf,aag,hc,ha]
theorem Js (n:Int):gK [D.arr 0 [],I n]=some (.ret [B false] []):=by
 rw [Bz];refine ax _ (dJ ([]:List Int) (fun i=>[I n,D.arr 0 [],I 0,I i]) (fun _ x=>!decide (x=n)) (.ret [B true] []) (.ext 0 []) (fun i hi=>absurd hi (aab _)) ?_ rfl rfl rfl) ?_
 ·simp
 ·simp [du]
theorem IK:eW [D.arr 0 []]=some (.ret [ints []] []):=by
 rw [AF];simp [ay,eA,dq,bY]
theorem eC {α β:Type} (f:α→β→α):∀(l:List β) (i:Nat) (a:α),iD (fun _ a x=>f a x) i l a=l.foldl f a
 | [],_,_=>rfl
 | x::l,i,a=>by simp only [iD,aan];exact eC f l (i+1) (f a x)
def Ok8 (l:List Int):Prop:=l.Pairwise (·<·)∧∀n∈l,0≤n∧n<8
theorem Ok8.len {l:List Int} (h:Ok8 l):l.length≤8:=FH (Cz h.1) h.2
theorem Ok8.put {l:List Int} (h:Ok8 l) {n:Int} (h0:0≤n) (h8:n<8):Ok8 (Fu l n):=⟨Mb h.1,fun m hm=>(vl.1 hm).elim (h.2 m) fun e=>by omega⟩
theorem Ok8.nil:Ok8 []:=⟨aaj,fun n hn=>by cases hn⟩
theorem Ok8.has {l:List Int} (h:Ok8 l) (n:Int):gK [ints l,I n]=some (.ret [B (decide (n∈l))] []):=zx l n (by have:=h.len;omega)
theorem MM {a b:Nat} (ha:a≤8) (hb:b≤8):a*b≤64:=Nat.mul_le_mul ha hb
def QD (z:D) (q:List Int):Prop:=z=ints q∨(z = .arr 0 []∧q=[])
theorem QD.row {z:D} {q:List Int} (h:QD z q) (hl:q.length≤1048576):RowD z q:=by
 rcases h with rfl | ⟨rfl,rfl⟩
 ·exact RowD.ints hl
 ·exact RowD.nil
theorem QD.own {z:D} {q:List Int} (h:QD z q) (hl:q.length≤1048576):eW [z]=some (.ret [ints q] []):=by
 rcases h with rfl | ⟨rfl,rfl⟩
 ·exact nQ q hl
 ·exact IK
theorem fT (n:Int):dZ [I n]=some (.ret [B (bD n)] []):=by
 rw [Je];simp -implicitDefEqProofs only [gP,aae,aaf,aag,eY,bD]
theorem Ek (l:Ps) (h:l.length≤1048576):jJ [pcs l]=some (.ret [B (ij l)] []):=by
 rw [DY];simp only [aS,ZF,ZY];refine ax _ (dJ l (fun i=>[pcs l,pcs l,I l.length,I i]) (fun _ p=>bD p.1&&bD p.2) (.ret [B false] []) (.ext 0 [pcs l]) (fun i hi=>?_) ?_ rfl rfl rfl) ?_
 ·have hw:ZP.wrap ((i:Int)+1)=(i:Int)+1:=ae (by omega) (by omega)
  cases h1:bD l[i].1
  ·simp -implicitDefEqProofs [hi,fT,h1]
  ·cases h2:bD l[i].2<;>simp -implicitDefEqProofs [hi,fT,h1,h2,hw]
 ·simp
 ·have e:du (fun _ (p:Int × Int)=>bD p.1&&bD p.2) 0 l=l.all (fun p=>bD p.1&&bD p.2):=by
   have key:∀(l:Ps) (i:Nat),du (fun _ (p:Int × Int)=>bD p.1&&bD p.2) i l=l.all (fun p=>bD p.1&&bD p.2):=by
    intro l;induction l with
    | nil=>intro i;rfl
    | cons x l ih=>intro i;simp [du,ih]
   exact key l 0
  rw [e];unfold ij;cases l.all (fun p=>bD p.1&&bD p.2)
  ·simp
  ·simp
   omega
theorem HJ (w h:Int) (l:Ps) (hl:l.length≤1048576):kU [I w,I h,pcs l]=some (.ret [B (bD w&&bD h&&ij l)] []):=by
 rw [Hy];cases h1:bD w
 ·simp -implicitDefEqProofs [fT,h1]
 ·cases h2:bD h
  ·simp -implicitDefEqProofs [fT,h1,h2]
  ·simp -implicitDefEqProofs [fT,h1,h2,Ek l hl]
theorem Hz (x:Int × Int) (t:Bool):kW [pce x,B t]=some (.ret [I (if t=true then x.2 else x.1),I (if t=true then x.1 else x.2)] []):=by
 rw [GI];cases t<;>simp -implicitDefEqProofs
theorem Tg {wd ht y x p:Nat} (g:Gr) (hy:y<ht) (hx:x<wd) (hp:p=y*wd+x):dE 1 (ints (aV wd ht g)) (I (p:Int))=some (.ref p 0):=by
 have h:=NQ hy hx;rw [←hp] at h;rw [dm,if_pos (by rw [ZF,iN];exact h)]
theorem Tt {wd ht y x p:Nat} (g:Gr) (hy:y<ht) (hx:x<wd) (hp:p=y*wd+x):atD (ints (aV wd ht g)) (.ref p 0)=some [I (g y x)]:=by
 have:=Oy g hy hx;rw [←hp] at this;simp [this]
theorem UD {wd ht y x p:Nat} (g:Gr) (n:Int) (hy:y<ht) (hx:x<wd) (hp:p=y*wd+x):stD 1 (ints (aV wd ht g)) (.ref p 0) (I n)=some (ints (aV wd ht fun r c=>if r=y∧c=x then n else g r c)):=by
 have h:=Oy g hy hx;rw [←hp] at h;have h2:=Sf g n hy hx;rw [←hp] at h2;have h3:((aV wd ht g).set p n).map I=((aV wd ht g).map I).set p (I n):=List.map_set;rw [AX (w:=.int .i64 (g y x)) (by rw [ZK,h];rfl),←h2];show some (D.arr 1 (((aV wd ht g).map I).set p (I n)))=some (.arr 1 (((aV wd ht g).set p n).map I))
 rw [h3]
theorem Xz {wd ht:Nat} {l:Ps} (hl:ij l=true) {f:Gr} (hf:GOK wd ht f) {p:Pl} {q:Option Int} (hn:Jy l q p=true):GOK wd ht (qf f l p):=by
 intro y x hy hx;have h8:l.length≤8:=by
  unfold ij at hl;simp only [aaa,decide_eq_true_eq] at hl;exact hl.2
 unfold Jy at hn;simp only [aaa,decide_eq_true_eq] at hn;unfold qf mkA;split
 ·omega
 ·exact hf y x hy hx
theorem GOK.free (wd ht:Nat):GOK wd ht fun _ _=>-1:=fun _ _ _ _=>⟨Int.le_refl (-1),(by decide:(-1:Int)<8)⟩
def tl (wd ht:Nat):Option Gr→List D
 | none=>[ints [],B false]
 | some f=>[ints (aV wd ht f),B true]
theorem UG {wd ht:Nat} {l:Ps} {ps:List Pl} (h1:1≤wd) (h2:wd≤8) (h3:1≤ht) (h4:ht≤8) (hl:ij l=true):js (wd:Int) (ht:Int) l ps=chG l wd ht none (fun _ _=>-1) ps:=by
 unfold js bD;rw [decide_eq_true (show(1:Int)≤(wd:Int)∧(wd:Int)≤8 by omega),decide_eq_true (show(1:Int)≤(ht:Int)∧(ht:Int)≤8 by omega),hl];simp
structure Ctx (wd ht:Nat) (l:Ps) (ps:List Pl) (f:Gr):Prop where
 w1:1≤wd
 w8:wd≤8
 h1:1≤ht
 h8:ht≤8
 ok:ij l=true
 pl:RE ps
 ch:chG l wd ht none (fun _ _=>-1) ps=some f
 g:GOK wd ht f
theorem oz {l:Ps} (h:ij l=true):l.length≤8:=by
 unfold ij at h;simp only [aaa,decide_eq_true_eq] at h;exact h.2
section
variable {wd ht:Nat} {l:Ps} {ps:List Pl} {f:Gr}
theorem Ctx.chase (C:Ctx wd ht l ps f):js (wd:Int) (ht:Int) l ps=some f:=by rw [UG C.w1 C.w8 C.h1 C.h8 C.ok];exact C.ch
theorem Ctx.b (C:Ctx wd ht l ps f):qg (wd:Int) (ht:Int) l ps=true:=by unfold qg;rw [C.chase];rfl
end
theorem OI (a:List Int) (b:Bool):aF (D.tup [ints a,B b]) 0=some (ints a)∧aF (D.tup [ints a,B b]) 1=some (B b)∧aF (cv (D.tup [ints a,B b]) 0) 1=some (B b):=⟨rfl,rfl,rfl⟩
section
variable {w h:Int} {l:Ps} {ps:List Pl}
end
section
variable {wd ht:Nat} {l:Ps} {ps:List Pl} {f:Gr}
end
theorem YX {ps:List Pl} {i:Nat} (h:i<ps.length):aI 4 (pls ps) (I (i:Int))=some [I ps[i].1,I ps[i].2.1,I ps[i].2.2.1,B ps[i].2.2.2]:=by simp [h]
section
variable {wd ht:Nat} {l:Ps} {ps:List Pl} {f:Gr}
end
section
variable {wd ht:Nat} {l:Ps} {ps:List Pl} {f:Gr}
end
section
variable {wd ht:Nat} {l:Ps} {ps:List Pl} {f:Gr}
theorem Fi {A N:List Int} (hA:A.Nodup) (hs:∀n∈A,n∈N) (he:A.length=N.length):∀n∈N,n∈A:=fun n hn=>by
 by_cases h:n∈A
 ·exact h
 ·have h1:(n::A).Nodup:=aam.2 ⟨h,hA⟩
  have:=h1.length_le_of_subset (l₂:=N) (fun m hm=>by
   rcases ZI.1 hm with rfl | hm
   ·exact hn
   ·exact hs m hm)
  simp at this;omega
end
end Go.Proofs.YtccaheogjpfhjaaGreat

end
