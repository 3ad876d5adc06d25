/-
  A part of the proof: contracts and plain forms of functions beneath the statement, made small by a program (names shortened, what is not needed left out).
-/
import Derived.Test.YtjafgdefcggjcaaGreatDoorRows
import Derived.Test.YtjafgdefcggjcaaGreatDoorTie
import Derived.Test.YtjafgdefcggjcaaGreatDoorCards
import Derived.Test.YtjafgdefcggjcaaGreatDoorM10
open ByteArray renaming size_append → aik, ext → ai2
open List renaming length_cons → ail, length_nil → aim, not_mem_nil → ait, mem_cons → aiu, length_eq_one_iff → aiw, length_append → aiz, eq_nil_of_length_eq_zero → aiA, getElem?_eq_getElem → aiB, length_map → aiE, mem_singleton → aiF, getElem?_map → aiH, mem_append → aiJ, append_assoc → aiK, length_take → aiL, take_succ_eq_append_getElem → aiM, pairwise_cons → aiP, take_length → aiR, mem_map → aiV, filter_append → aiW, getElem_mem → aiX, append_nil → aiY, foldl_cons → aiZ
open Int renaming reduceLT → ain, reduceLE → aio, reduceEq → aip
open Go.IntKind renaming i64 → aiq
open Option renaming bind_some → air, map → aiv
open Go.Value renaming int → ais, string → aix
open Go.Lib renaming trimSuffix → aiy
open Bool renaming false_eq_true → aiC, and_eq_true → aiI, not_false → aiO, not_true → aiS, true_eq_false → aiU
open Nat renaming le_refl → aiD, zero_le → aiG
open Prod renaming ext → aiN
open List.Pairwise renaming nil → aiQ
open Go.Proofs renaming enters_of → aiT
open List.Perm renaming refl → ai0
open Go.BinOp renaming add → ai1
set_option maxRecDepth 100000
set_option linter.unusedSimpArgs false
set_option linter.unusedVariables false
noncomputable section
namespace Go.Proofs.YtjafgdefcggjcaaGreatDoor
open Go Go.V
theorem yK (x0 x1:D):gk [x0,x1]=(ae (im [x1]) fun c _=>(ax (.tup c) 0).bind fun z=>(ax (.tup c) 1).bind fun e=>(stD 3 (.agg [I 0,I 0,I 0]) (.ref 0 0) z).bind fun b=>(un .not e).bind fun z=>ifD z ((aa x0 x0).bind fun _=>some (.ret [.v (.string ⟨⟨[110,111]⟩⟩)] [x0])) ((aa x0 (.ref 0 0)).bind fun z=>(aa x0 (.ref 0 0)).bind fun d=>(aa d d).bind fun f=>(aR 0 f).bind fun g=>(((atD x0 g).bind (an true 3)).bind aL).bind fun h=>(bh true 3 0 b).bind fun j=>(aB 3 [h,j]).bind fun a=>ae (kz [a]) fun c _=>(ax (.tup c) 0).bind fun k=>(ax (.tup c) 1).bind fun l=>(aa z z).bind fun z=>(aR 0 z).bind fun z=>(stD 3 x0 z k).bind fun b=>(un .not l).bind fun z=>ifD z ((aa b b).bind fun _=>some (.ret [.v (.string ⟨⟨[110,111]⟩⟩)] [b])) ((aa b (.ref 0 0)).bind fun z=>(aa z z).bind fun z=>(aR 0 z).bind fun z=>(((atD b z).bind (an true 3)).bind aL).bind fun z=>ae (gu [z]) fun c _=>(aa b b).bind fun _=>some (.ret [sl c 0] [b])))):=by kernel_rfl
theorem yS (x0 x1:D):gj [x0,x1]=((aa x0 (.ref 0 0)).bind fun z=>(aa z z).bind fun z=>(aR 0 z).bind fun z=>(((atD x0 z).bind (an true 3)).bind aL).bind fun z=>ae (ma [z,x1]) fun c _=>(ax (.tup c) 0).bind fun z=>(ax (.tup c) 1).bind fun e=>(ax (.tup c) 2).bind fun f=>(stD 3 (.agg [I 0,I 0,I 0]) (.ref 0 0) z).bind fun _=>(stD 3 (.agg [I 0,I 0,I 0]) (.ref 0 0) e).bind fun b=>(un .not f).bind fun z=>ifD z ((aa x0 x0).bind fun _=>some (.ret [.v (.string ⟨⟨[110,111]⟩⟩)] [x0])) ((aa x0 (.ref 0 0)).bind fun z=>(bh true 3 0 b).bind fun g=>(aa z z).bind fun z=>(aR 0 z).bind fun z=>(stD 3 x0 z g).bind fun d=>(bh true 3 0 b).bind fun z=>ae (gu [z]) fun c _=>(aa d d).bind fun _=>some (.ret [sl c 0] [d]))):=by kernel_rfl
theorem Hb (x0:D):jQ [x0]=((aB 2 []).bind fun a=>ae (fR [x0]) fun c _=>(aZ (fun s=>(lenD false (sl s 2)).bind fun z=>(bin .geq false [] z (I 2)).bind fun z=>ifD z ((aiv D.ptr (ao 1 (sl s 2) (I 1))).bind fun z=>((ldD false 1 z).bind aL).bind fun z=>(aiv D.ptr (ao 1 (sl s 2) (I 0))).bind fun d=>((ldD false 1 d).bind aL).bind fun e=>(dp [(0,1),(1,1)] [I 0,I 0] [z,e]).bind fun z=>(aB 2 [z]).bind fun a=>(cT a).bind fun b=>(bC 2 16 (sl s 1) b).bind fun y=>(cQ false 1 (sl s 2) (I 2)).bind fun z=>some (.nrm [sl s 0,y,z])) (some (.ext 0 [sl s 0,sl s 1]))) [x0,a,sl c 0]).bind fun o=>bS o (fun i s=>ifN (i.beq 0) ((aa (sl s 1) (.ref 0 0)).bind fun z=>(aa z (sl s 1)).bind fun i=>ae (fg [i]) fun c _=>(un .not (sl c 0)).bind fun z=>(aj D.bad z false (aa (sl s 1) (.ref 0 0))).bind fun d=>cU z false ((aa d (sl s 1)).bind fun i=>ae (FA [i]) fun c _=>some (.nrm [sl c 0])) [.tup []] fun f=>(aj (.tup []) z false (some (sl s 0))).bind fun e=>(aj (.tup []) z false (bin .neq false [] (sl f 0) e)).bind fun g=>(aV z (B true) g).bind fun z=>ifD z ((aB 2 []).bind fun a=>some (.ret [a,B false] [])) (some (.ret [sl s 1,B true] []))) none) fun a b=>some (.ret a b)):=by kernel_rfl
theorem yU (x0 x1:D):gh [x0,x1]=((aa x0 (.ref 0 0)).bind fun z=>(aa z z).bind fun z=>(aR 3 z).bind fun z=>((atD x0 z).bind (an false 1)).bind fun z=>ae (pj [z,x1]) fun c _=>(ax (.tup c) 0).bind fun z=>(ax (.tup c) 1).bind fun f=>(un .not f).bind fun g=>ifD g ((aa x0 x0).bind fun _=>some (.ret [.v (.string ⟨⟨[110,111]⟩⟩)] [x0])) ((aa x0 (.ref 0 0)).bind fun d=>(aa x0 (.ref 0 0)).bind fun e=>(aa e e).bind fun h=>(aR 3 h).bind fun j=>((atD x0 j).bind (an false 1)).bind fun k=>ae (ul [k,z]) fun c _=>(aa d d).bind fun l=>(aR 3 l).bind fun m=>(stD 1 x0 m (sl c 0)).bind fun b=>ae (dg [z,.v (.string ⟨⟨[32]⟩⟩)]) fun c _=>(aa b b).bind fun _=>some (.ret [sl c 0] [b]))):=by kernel_rfl
theorem JI (x0 x1 x2:D):kG [x0,x1,x2]=((aa x0 (.ref 0 0)).bind fun z=>(aa z z).bind fun z=>(aR 3 z).bind fun z=>((atD x0 z).bind (an false 1)).bind fun z=>ae (nf [z,x1,x2]) fun c _=>(ax (.tup c) 0).bind fun z=>(ax (.tup c) 1).bind fun e=>(un .not e).bind fun f=>ifD f ((aa x0 x0).bind fun _=>some (.ret [.v (.string ⟨⟨[110,111]⟩⟩)] [x0])) ((aa x0 (.ref 0 0)).bind fun d=>(aa d d).bind fun g=>(aR 3 g).bind fun h=>(stD 1 x0 h z).bind fun b=>ae (FA [z]) fun c _=>(aa b b).bind fun _=>some (.ret [sl c 0] [b]))):=by kernel_rfl
theorem IM (x0 x1:D):kx [x0,x1]=((aa x0 (.ref 0 0)).bind fun z=>(aB 1 []).bind fun a=>(aa x0 (.ref 0 0)).bind fun d=>(aa d d).bind fun f=>(aR 4 f).bind fun g=>((atD x0 g).bind (an false 1)).bind fun h=>(cT h).bind fun b=>(bC 1 8 a b).bind fun y=>(aB 1 [x1]).bind fun a=>(bC 1 8 y a).bind fun y=>(aa z z).bind fun z=>(aR 4 z).bind fun z=>(stD 1 x0 z y).bind fun b=>(aa b (.ref 0 0)).bind fun z=>(aa z z).bind fun z=>(aR 4 z).bind fun z=>((atD b z).bind (an false 1)).bind fun z=>(lenD false z).bind fun z=>(aa b (.ref 0 0)).bind fun e=>(aa e e).bind fun j=>(aR 4 j).bind fun k=>((atD b k).bind (an false 1)).bind fun l=>ae (ia [l]) fun c _=>ae (cu [z,sl c 0]) fun c _=>(aa b b).bind fun _=>some (.ret [sl c 0] [b])):=by kernel_rfl
theorem Fh (x0:D):iK [x0]=(ae (fq [x0]) fun c _=>(un .not (sl c 0)).bind fun z=>(aj (.tup []) z false (some x0)).bind fun d=>cU z false (ae (sQ [d]) fun c _=>some (.nrm [sl c 0])) [.tup []] fun e=>(aj (.tup []) z false (lenD true (sl e 0))).bind fun f=>(aj (.tup []) z false (bin .gtr false [] f (I 300))).bind fun g=>(aV z (B true) g).bind fun z=>ifD z (some (.ret [.v (.string ⟨⟨[]⟩⟩),B false] [])) (ae (sQ [x0]) fun c _=>some (.ret [sl c 0,B true] []))):=by kernel_rfl
theorem HR (x0 x1:D):jS [x0,x1]=((gq 3 x1).bind fun y=>ae (eU [x0]) fun c _=>(ax (.tup c) 0).bind fun d=>(ax (fe (.tup c) 0) 1).bind fun z=>(un .not z).bind fun z=>(aj (.tup []) z false (bh true 3 0 y)).bind fun e=>cU z false (ae (lj [e]) fun c _=>some (.nrm [sl c 0])) [.tup []] fun f=>(aj (.tup []) z false (un .not (sl f 0))).bind fun g=>(aV z (B true) g).bind fun z=>ifD z (some (.ret [.v (.string ⟨⟨[]⟩⟩),B false] [])) ((bh true 3 0 y).bind fun z=>(aB 3 [z]).bind fun a=>(bC 3 24 d a).bind fun y=>ae (iK [y]) fun c _=>(ax (.tup c) 0).bind fun z=>(ax (.tup c) 1).bind fun h=>some (.ret [z,h] []))):=by kernel_rfl
theorem Gr (x0 x1:D):jH [x0,x1]=((gq 3 x1).bind fun y=>(aa x0 (.ref 0 0)).bind fun z=>(aa z z).bind fun z=>(aR 5 z).bind fun z=>(((atD x0 z).bind (an false 1)).bind aL).bind fun z=>(bh true 3 0 y).bind fun e=>ae (jS [z,e]) fun c _=>(ax (.tup c) 0).bind fun z=>(ax (.tup c) 1).bind fun f=>(aa x0 (.ref 0 0)).bind fun d=>(aa d d).bind fun g=>(aR 5 g).bind fun h=>(stD 1 x0 h z).bind fun b=>ae (eU [z]) fun c _=>(ax (.tup c) 0).bind fun y=>(ax (fe (.tup c) 0) 1).bind fun _=>(lenD false y).bind fun z=>ae (cu [z,f]) fun c _=>(aa b b).bind fun _=>some (.ret [sl c 0] [b])):=by kernel_rfl
theorem GT (x0 x1:D):jA [x0,x1]=((aa x0 (.ref 0 0)).bind fun z=>(aB 2 []).bind fun a=>(aa x0 (.ref 0 0)).bind fun d=>(aa d d).bind fun f=>(aR 6 f).bind fun g=>((atD x0 g).bind (an false 1)).bind fun h=>(cT h).bind fun b=>(bC 2 16 a b).bind fun y=>(dp [(0,1),(1,1)] [I 0,B false] [x1,B true]).bind fun j=>(aB 2 [j]).bind fun a=>(bC 2 16 y a).bind fun y=>(aa z z).bind fun z=>(aR 6 z).bind fun z=>(stD 1 x0 z y).bind fun b=>(aa b (.ref 0 0)).bind fun z=>(aa z z).bind fun z=>(aR 6 z).bind fun z=>((atD b z).bind (an false 1)).bind fun z=>(lenD false z).bind fun z=>(aa b (.ref 0 0)).bind fun e=>(aa e e).bind fun k=>(aR 6 k).bind fun l=>((atD b l).bind (an false 1)).bind fun m=>ae (dN [m]) fun c _=>ae (cu [z,sl c 0]) fun c _=>(aa b b).bind fun _=>some (.ret [sl c 0] [b])):=by kernel_rfl
theorem QN (x0:D):oS [x0]=((aB 1 []).bind fun a=>(cT x0).bind fun b=>(bC 1 8 a b).bind fun y=>(aa y (.ref 0 0)).bind fun z=>(cP z y).bind fun i=>(aa i i).bind fun i=>ae (IG [i]) fun _ c=>some (.ret [sl c 0] [])):=by kernel_rfl
theorem JB (x0:D):kH [x0]=(ae (ia [x0]) fun c _=>(un .not (sl c 0)).bind fun z=>ifD z (some (.ret [I 0,B false] [])) (ae (oS [x0]) fun c _=>(lenD false x0).bind fun z=>(bin .sub false [] z (I 1)).bind fun z=>(bin .quo false [] z (I 2)).bind fun z=>(aiv D.ptr (ao 1 (sl c 0) z)).bind fun z=>((ldD false 1 z).bind aL).bind fun z=>some (.ret [z,B true] []))):=by kernel_rfl
theorem Jn (x0 x1:D):kD [x0,x1]=((gq 3 x1).bind fun y=>(aa x0 (.ref 0 0)).bind fun z=>(aa z z).bind fun z=>(aR 5 z).bind fun z=>(((atD x0 z).bind (an false 1)).bind aL).bind fun z=>ae (eU [z]) fun c _=>(ax (.tup c) 0).bind fun j=>(ax (fe (.tup c) 0) 1).bind fun _=>(aa y (.ref 0 0)).bind fun z=>(((atD y z).bind (an false 1)).bind aL).bind fun z=>(bin .eql false [] z (.v (.string ⟨⟨[115,104,97,114,101,115]⟩⟩))).bind fun k=>ifD k ((aa x0 (.ref 0 0)).bind fun z=>(aa z z).bind fun z=>(aR 0 z).bind fun z=>(((atD x0 z).bind (an true 3)).bind aL).bind fun z=>ae (lS [z]) fun c _=>(ax (.tup c) 0).bind fun y=>(ax (fe (.tup c) 0) 1).bind fun z=>(un .not z).bind fun z=>ifD z ((aa x0 x0).bind fun _=>some (.ret [.v (.string ⟨⟨[110,111]⟩⟩)] [x0])) (ae (dg [y,.v (.string ⟨⟨[32]⟩⟩)]) fun c _=>(aa x0 x0).bind fun _=>some (.ret [sl c 0] [x0]))) ((bin .eql false [] z (.v (.string ⟨⟨[109,105,115,115,105,110,103]⟩⟩))).bind fun l=>ifD l ((aa x0 (.ref 0 0)).bind fun z=>(aa z z).bind fun z=>(aR 3 z).bind fun z=>((atD x0 z).bind (an false 1)).bind fun z=>(aa y (.ref 0 2)).bind fun g=>((atD y g).bind (an false 1)).bind fun d=>(aiv D.ptr (ao 1 d (I 0))).bind fun e=>((ldD false 1 e).bind aL).bind fun f=>ae (jM [z,f]) fun c _=>(ax (.tup c) 0).bind fun z=>(ax (.tup c) 1).bind fun h=>ae (cu [z,h]) fun c _=>(aa x0 x0).bind fun _=>some (.ret [sl c 0] [x0])) ((bin .eql false [] z (.v (.string ⟨⟨[109,101,100,105,97,110]⟩⟩))).bind fun g=>ifD g ((aa x0 (.ref 0 0)).bind fun z=>(aa z z).bind fun z=>(aR 4 z).bind fun z=>((atD x0 z).bind (an false 1)).bind fun z=>ae (kH [z]) fun c _=>(ax (.tup c) 0).bind fun z=>(ax (.tup c) 1).bind fun d=>ae (cu [z,d]) fun c _=>(aa x0 x0).bind fun _=>some (.ret [sl c 0] [x0])) ((bin .eql false [] z (.v (.string ⟨⟨[100,114,105,102,116]⟩⟩))).bind fun d=>ifD d ((aa x0 (.ref 0 0)).bind fun z=>(aa z z).bind fun z=>(aR 4 z).bind fun z=>((atD x0 z).bind (an false 1)).bind fun z=>ae (gW [z]) fun c _=>(ax (.tup c) 0).bind fun z=>(ax (.tup c) 1).bind fun e=>(ax (.tup c) 2).bind fun _=>(aB 1 [z,e]).bind fun a=>ae (dg [a,.v (.string ⟨⟨[32]⟩⟩)]) fun c _=>(aa x0 x0).bind fun _=>some (.ret [sl c 0] [x0])) ((bin .eql false [] z (.v (.string ⟨⟨[109,101,116,97,108]⟩⟩))).bind fun e=>ifD e ((aa y (.ref 0 2)).bind fun z=>((atD y z).bind (an false 1)).bind fun z=>(aiv D.ptr (ao 1 z (I 0))).bind fun z=>((ldD false 1 z).bind aL).bind fun z=>(aa y (.ref 0 2)).bind fun f=>((atD y f).bind (an false 1)).bind fun h=>(aiv D.ptr (ao 1 h (I 1))).bind fun m=>((ldD false 1 m).bind aL).bind fun n=>ae (jD [j,z,n]) fun c _=>(ax (.tup c) 0).bind fun z=>(ax (.tup c) 1).bind fun p=>ae (cu [z,p]) fun c _=>(aa x0 x0).bind fun _=>some (.ret [sl c 0] [x0])) ((bin .eql false [] z (.v (.string ⟨⟨[108,101,97,115,116]⟩⟩))).bind fun z=>ifD z ((aa y (.ref 0 2)).bind fun z=>((atD y z).bind (an false 1)).bind fun z=>(aiv D.ptr (ao 1 z (I 0))).bind fun z=>((ldD false 1 z).bind aL).bind fun z=>ae (jB [j,z]) fun c _=>(ax (.tup c) 0).bind fun z=>(ax (.tup c) 1).bind fun _=>(ax (.tup c) 2).bind fun f=>ae (cu [z,f]) fun c _=>(aa x0 x0).bind fun _=>some (.ret [sl c 0] [x0])) ((aa x0 (.ref 0 0)).bind fun z=>(aa z z).bind fun z=>(aR 6 z).bind fun z=>((atD x0 z).bind (an false 1)).bind fun z=>ae (Bq [z]) fun c _=>(ax (.tup c) 0).bind fun z=>(ax (.tup c) 1).bind fun _=>(aa x0 x0).bind fun _=>some (.ret [z] [x0])))))))):=by kernel_rfl
theorem bc (x0 x1:D):aM [x0,x1]=((gq 3 x1).bind fun y=>(aa y (.ref 0 0)).bind fun z=>(((atD y z).bind (an false 1)).bind aL).bind fun z=>(bin .eql false [] z (.v (.string ⟨⟨[109,101,108,116]⟩⟩))).bind fun u=>ifD u ((aa x0 (.ref 0 0)).bind fun z=>(aa y (.ref 0 1)).bind fun q=>(((atD y q).bind (an false 1)).bind aL).bind fun n=>ae (im [n]) fun d _=>(ax (.tup d) 0).bind fun g=>(ax (.tup d) 1).bind fun h=>(aa z z).bind fun z=>(aR 0 z).bind fun z=>(stD 3 x0 z g).bind fun b=>ae (ko [h]) fun d _=>(aa b b).bind fun _=>some (.ret [sl d 0] [b])) ((bin .eql false [] z (.v (.string ⟨⟨[106,111,105,110]⟩⟩))).bind fun q=>ifD q ((aa x0 (.ref 0 0)).bind fun z=>(aa y (.ref 0 1)).bind fun n=>(((atD y n).bind (an false 1)).bind aL).bind fun g=>(cP z x0).bind fun i=>(aa i i).bind fun i=>ae (gk [i,g]) fun d c=>(aa (sl c 0) (sl c 0)).bind fun _=>some (.ret [sl d 0] [sl c 0])) ((bin .eql false [] z (.v (.string ⟨⟨[116,97,107,101]⟩⟩))).bind fun n=>ifD n ((aa x0 (.ref 0 0)).bind fun z=>(aa y (.ref 0 2)).bind fun g=>((atD y g).bind (an false 1)).bind fun h=>(aiv D.ptr (ao 1 h (I 0))).bind fun j=>((ldD false 1 j).bind aL).bind fun f=>(cP z x0).bind fun i=>(aa i i).bind fun i=>ae (gj [i,f]) fun d c=>(aa (sl c 0) (sl c 0)).bind fun _=>some (.ret [sl d 0] [sl c 0])) ((bin .eql false [] z (.v (.string ⟨⟨[115,116,111,99,107]⟩⟩))).bind fun g=>ifD g ((aa x0 (.ref 0 0)).bind fun z=>(aa y (.ref 0 1)).bind fun h=>(((atD y h).bind (an false 1)).bind aL).bind fun j=>ae (jQ [j]) fun d _=>(ax (.tup d) 0).bind fun y=>(ax (fe (.tup d) 0) 1).bind fun f=>(aa z z).bind fun z=>(aR 3 z).bind fun z=>(stD 1 x0 z y).bind fun b=>ae (ko [f]) fun d _=>(aa b b).bind fun _=>some (.ret [sl d 0] [b])) ((bin .eql false [] z (.v (.string ⟨⟨[114,117,108,101]⟩⟩))).bind fun h=>ifD h ((aa x0 (.ref 0 0)).bind fun z=>(aa y (.ref 0 2)).bind fun j=>((atD y j).bind (an false 1)).bind fun f=>(aiv D.ptr (ao 1 f (I 0))).bind fun k=>((ldD false 1 k).bind aL).bind fun e=>(cP z x0).bind fun i=>(aa i i).bind fun i=>ae (gh [i,e]) fun d c=>(aa (sl c 0) (sl c 0)).bind fun _=>some (.ret [sl d 0] [sl c 0])) ((bin .eql false [] z (.v (.string ⟨⟨[99,117,116]⟩⟩))).bind fun j=>ifD j ((aa x0 (.ref 0 0)).bind fun z=>(aa y (.ref 0 2)).bind fun f=>((atD y f).bind (an false 1)).bind fun k=>(aiv D.ptr (ao 1 k (I 0))).bind fun e=>((ldD false 1 e).bind aL).bind fun l=>(aa y (.ref 0 2)).bind fun m=>((atD y m).bind (an false 1)).bind fun p=>(aiv D.ptr (ao 1 p (I 1))).bind fun r=>((ldD false 1 r).bind aL).bind fun t=>(cP z x0).bind fun i=>(aa i i).bind fun i=>ae (kG [i,l,t]) fun d c=>(aa (sl c 0) (sl c 0)).bind fun _=>some (.ret [sl d 0] [sl c 0])) ((bin .eql false [] z (.v (.string ⟨⟨[111,102,102]⟩⟩))).bind fun f=>ifD f ((aa x0 (.ref 0 0)).bind fun z=>(aa y (.ref 0 2)).bind fun k=>((atD y k).bind (an false 1)).bind fun e=>(aiv D.ptr (ao 1 e (I 0))).bind fun l=>((ldD false 1 l).bind aL).bind fun m=>(cP z x0).bind fun i=>(aa i i).bind fun i=>ae (kx [i,m]) fun d c=>(aa (sl c 0) (sl c 0)).bind fun _=>some (.ret [sl d 0] [sl c 0])) ((bin .eql false [] z (.v (.string ⟨⟨[110,111,116,101]⟩⟩))).bind fun k=>ifD k ((aa x0 (.ref 0 0)).bind fun z=>(aa y (.ref 0 2)).bind fun e=>((atD y e).bind (an false 1)).bind fun l=>(aiv D.ptr (ao 1 l (I 0))).bind fun m=>((ldD false 1 m).bind aL).bind fun p=>(aa y (.ref 0 2)).bind fun r=>((atD y r).bind (an false 1)).bind fun t=>(aiv D.ptr (ao 1 t (I 1))).bind fun v=>((ldD false 1 v).bind aL).bind fun w=>(aa y (.ref 0 2)).bind fun za=>((atD y za).bind (an false 1)).bind fun zb=>(aiv D.ptr (ao 1 zb (I 2))).bind fun zc=>((ldD false 1 zc).bind aL).bind fun zd=>(dp [(0,1),(1,1),(2,1)] [I 0,I 0,I 0] [p,w,zd]).bind fun ze=>(cP z x0).bind fun i=>(aa i i).bind fun i=>ae (jH [i,ze]) fun d c=>(aa (sl c 0) (sl c 0)).bind fun _=>some (.ret [sl d 0] [sl c 0])) ((bin .eql false [] z (.v (.string ⟨⟨[102,111,108,100]⟩⟩))).bind fun z=>ifD z ((aa x0 (.ref 0 0)).bind fun z=>(aa y (.ref 0 2)).bind fun e=>((atD y e).bind (an false 1)).bind fun l=>(aiv D.ptr (ao 1 l (I 0))).bind fun m=>((ldD false 1 m).bind aL).bind fun p=>(cP z x0).bind fun i=>(aa i i).bind fun i=>ae (jA [i,p]) fun d c=>(aa (sl c 0) (sl c 0)).bind fun _=>some (.ret [sl d 0] [sl c 0])) ((aa x0 (.ref 0 0)).bind fun z=>(bh true 3 0 y).bind fun e=>(cP z x0).bind fun i=>(aa i i).bind fun i=>ae (kD [i,e]) fun d c=>(aa (sl c 0) (sl c 0)).bind fun _=>some (.ret [sl d 0] [sl c 0]))))))))))):=by kernel_rfl
theorem EL (x0 x1:D):gc [x0,x1]=(ae (US [x1]) fun c _=>(ax (.tup c) 0).bind fun z=>(ax (.tup c) 1).bind fun e=>(stD 3 (.agg [.v (.string ⟨⟨[]⟩⟩),.v (.string ⟨⟨[]⟩⟩),.arr 1 []]) (.ref 0 0) z).bind fun b=>(un .not e).bind fun z=>ifD z ((aa x0 x0).bind fun _=>some (.ret [.v (.string ⟨⟨[119,104,97,116]⟩⟩)] [x0])) ((aa x0 (.ref 0 0)).bind fun z=>(aa z z).bind fun z=>((atD x0 z).bind (an true 7)).bind fun z=>(stD 7 (.agg [I 0,I 0,I 0,.arr 2 [],.arr 1 [],.v (.string ⟨⟨[]⟩⟩),.arr 2 []]) (.ref 0 0) z).bind fun d=>(bh true 3 0 b).bind fun z=>(aa d d).bind fun i=>ae (aM [i,z]) fun c f=>(bin .neq false [] (sl c 0) (.v (.string ⟨⟨[110,111]⟩⟩))).bind fun z=>ifD z ((aa x0 (.ref 0 0)).bind fun z=>(bh true 7 0 (sl f 0)).bind fun g=>(aa z z).bind fun z=>(stD 7 x0 z g).bind fun b=>(aa b b).bind fun _=>some (.ret [sl c 0] [b])) ((aa x0 x0).bind fun _=>some (.ret [sl c 0] [x0])))):=by kernel_rfl
theorem Iw (x0:D):fO [x0]=(ae (mZ [x0]) fun c _=>(ax (.tup c) 0).bind fun z=>(ax (.tup c) 1).bind fun d=>(un .not d).bind fun e=>ifD e ((dp [] [I 0,I 0,I 0,.arr 2 [],.arr 1 [],.v (.string ⟨⟨[]⟩⟩),.arr 2 []] []).bind fun z=>(stD 7 (.agg [I 0,I 0,I 0,.arr 2 [],.arr 1 [],.v (.string ⟨⟨[]⟩⟩),.arr 2 []]) (.ref 0 0) z).bind fun b=>(bh true 7 0 b).bind fun y=>some (.ret [y,.arr 1 [],B false] [])) ((aB 1 [I 0]).bind fun a=>(dp [(4,1)] [I 0,I 0,I 0,.arr 2 [],.arr 1 [],.v (.string ⟨⟨[]⟩⟩),.arr 2 []] [a]).bind fun f=>(stD 7 (.agg [I 0,I 0,I 0,.arr 2 [],.arr 1 [],.v (.string ⟨⟨[]⟩⟩),.arr 2 []]) (.ref 0 0) f).bind fun b=>(aB 1 []).bind fun a=>(lenD false z).bind fun g=>(aZ (fun s=>(bin .lss false [] (sl s 5) (sl s 4)).bind fun z=>ifD z ((aiv D.ptr (ao 1 (sl s 3) (sl s 5))).bind fun z=>((ldD false 1 z).bind aL).bind fun z=>(aa (sl s 1) (sl s 1)).bind fun i=>ae (gc [i,z]) fun c h=>(aB 1 [sl c 0]).bind fun a=>(cT a).bind fun b=>(bC 1 16 (sl s 2) b).bind fun y=>(bin .add false [] (sl s 5) (I 1)).bind fun z=>some (.nrm [sl s 0,sl h 0,y,sl s 3,sl s 4,z])) (some (.ext 0 [sl s 0,sl s 1,sl s 2]))) [.agg [I 0,I 0,I 0,.arr 2 [],.arr 1 [],.v (.string ⟨⟨[]⟩⟩),.arr 2 []],b,a,z,g,I 0]).bind fun o=>bS o (fun i s=>ifN (i.beq 0) ((bh true 7 0 (sl s 1)).bind fun z=>(stD 7 (sl s 0) (.ref 0 0) z).bind fun b=>(bh true 7 0 b).bind fun y=>some (.ret [y,sl s 2,B true] [])) none) fun a b=>some (.ret a b))):=by kernel_rfl
theorem Ls (x0:D):je [x0]=(ae (Fq [x0]) fun c _=>(ax (.tup c) 0).bind fun _=>(ax (.tup c) 1).bind fun z=>(ax (.tup c) 2).bind fun _=>some (.ret [z] [])):=by kernel_rfl
theorem Cb (x0:D):hN [x0]=(ae (fO [x0]) fun c _=>(ax (.tup c) 0).bind fun z=>(ax (.tup c) 1).bind fun y=>(ax (fe (.tup c) 1) 2).bind fun e=>(stD 7 (.agg [I 0,I 0,I 0,.arr 2 [],.arr 1 [],.v (.string ⟨⟨[]⟩⟩),.arr 2 []]) (.ref 0 0) z).bind fun _=>(lenD false y).bind fun z=>(aZ (fun s=>(bin .lss false [] (sl s 6) (sl s 5)).bind fun z=>ifD z ((aiv D.ptr (ao 1 (sl s 4) (sl s 6))).bind fun z=>((ldD false 1 z).bind aL).bind fun z=>(bin .eql false [] z (.v (.string ⟨⟨[110,111]⟩⟩))).bind fun f=>ifD f ((bin .add false [] (sl s 2) (I 1)).bind fun z=>(bin .add false [] (sl s 6) (I 1)).bind fun d=>some (.nrm [sl s 0,sl s 1,z,sl s 3,sl s 4,sl s 5,d])) ((bin .eql false [] z (.v (.string ⟨⟨[119,104,97,116]⟩⟩))).bind fun z=>ifD z ((bin .add false [] (sl s 3) (I 1)).bind fun z=>(bin .add false [] (sl s 6) (I 1)).bind fun d=>some (.nrm [sl s 0,sl s 1,sl s 2,z,sl s 4,sl s 5,d])) ((bin .add false [] (sl s 6) (I 1)).bind fun z=>some (.nrm [sl s 0,sl s 1,sl s 2,sl s 3,sl s 4,sl s 5,z])))) (some (.ext 0 [sl s 0,sl s 1,sl s 2,sl s 3]))) [y,e,I 0,I 0,y,z,I 0]).bind fun o=>bS o (fun i s=>ifN (i.beq 0) ((lenD false (sl s 0)).bind fun z=>(bin .sub false [] z (sl s 2)).bind fun z=>(bin .sub false [] z (sl s 3)).bind fun z=>some (.ret [sl s 2,sl s 3,z,sl s 1] [])) none) fun a b=>some (.ret a b)):=by kernel_rfl
theorem CC (x0:D):gU [x0]=(ae (Fq [x0]) fun c _=>(ax (.tup c) 0).bind fun z=>(ax (.tup c) 1).bind fun _=>(ax (.tup c) 2).bind fun d=>(un .not d).bind fun e=>ifD e (some (.ret [I 0,I 0,I 0,B false] [])) ((Jb z).bind fun f=>(jY 7 f).bind fun g=>(ldD false 1 g).bind fun h=>(lenD false h).bind fun j=>(Jb z).bind fun k=>(jY 8 k).bind fun l=>(ldD false 1 l).bind fun m=>(lenD false m).bind fun n=>(Jb z).bind fun p=>(jY 9 p).bind fun q=>((ldD false 1 q).bind aL).bind fun r=>(Jb z).bind fun t=>(jY 7 t).bind fun u=>(ldD false 1 u).bind fun v=>(lenD false v).bind fun w=>(bin .sub false [] r w).bind fun za=>(Jb z).bind fun z=>(jY 8 z).bind fun z=>(ldD false 1 z).bind fun z=>(lenD false z).bind fun z=>(bin .sub false [] za z).bind fun z=>some (.ret [j,n,z,B true] []))):=by kernel_rfl
theorem EO (x0:D):iG [x0]=(ae (fO [x0]) fun c _=>(ax (.tup c) 0).bind fun z=>(ax (.tup c) 1).bind fun y=>(ax (fe (.tup c) 1) 2).bind fun e=>(stD 7 (.agg [I 0,I 0,I 0,.arr 2 [],.arr 1 [],.v (.string ⟨⟨[]⟩⟩),.arr 2 []]) (.ref 0 0) z).bind fun _=>(aB 1 []).bind fun a=>(lenD false y).bind fun z=>(aZ (fun s=>(bin .lss false [] (sl s 4) (sl s 3)).bind fun z=>ifD z ((aiv D.ptr (ao 1 (sl s 2) (sl s 4))).bind fun z=>((ldD false 1 z).bind aL).bind fun z=>(bin .eql false [] z (.v (.string ⟨⟨[110,111]⟩⟩))).bind fun d=>(aj (.tup []) d false (some z)).bind fun z=>(aj (.tup []) d false (bin .eql false [] z (.v (.string ⟨⟨[119,104,97,116]⟩⟩)))).bind fun z=>(aV d (B true) z).bind fun z=>ifD z ((bin .add false [] (sl s 4) (I 1)).bind fun z=>(aB 1 [z]).bind fun a=>(cT a).bind fun b=>(bC 1 8 (sl s 1) b).bind fun y=>(bin .add false [] (sl s 4) (I 1)).bind fun z=>some (.nrm [sl s 0,y,sl s 2,sl s 3,z])) ((bin .add false [] (sl s 4) (I 1)).bind fun z=>some (.nrm [sl s 0,sl s 1,sl s 2,sl s 3,z]))) (some (.ext 0 [sl s 0,sl s 1]))) [e,a,y,z,I 0]).bind fun o=>bS o (fun i s=>ifN (i.beq 0) (some (.ret [sl s 1,sl s 0] [])) none) fun a b=>some (.ret a b)):=by kernel_rfl
theorem FE (x0:D):iW [x0]=(ae (Fq [x0]) fun c _=>(ax (.tup c) 0).bind fun z=>(ax (.tup c) 1).bind fun _=>(ax (.tup c) 2).bind fun d=>(un .not d).bind fun e=>ifD e (some (.ret [.arr 1 [],B false] [])) ((Jb z).bind fun f=>(jY 7 f).bind fun g=>(ldD false 1 g).bind fun h=>ae (gC [h]) fun c _=>(Jb z).bind fun z=>(jY 8 z).bind fun z=>(ldD false 1 z).bind fun z=>(bC 1 8 (sl c 0) z).bind fun y=>(lenD false y).bind fun z=>(aZ (fun s=>(bin .lss false [] (sl s 3) (sl s 2)).bind fun z=>ifD z ((aiv D.ptr (ao 1 (sl s 1) (sl s 3))).bind fun z=>((ldD false 1 z).bind aL).bind fun z=>ae (rz [sl s 0,z]) fun c _=>(bin .add false [] (sl s 3) (I 1)).bind fun z=>some (.nrm [sl c 0,sl s 1,sl s 2,z])) (some (.ext 0 [sl s 0]))) [.arr 1 [],y,z,I 0]).bind fun o=>bS o (fun i s=>ifN (i.beq 0) (some (.ret [sl s 0,B true] [])) none) fun a b=>some (.ret a b))):=by kernel_rfl
end Go.Proofs.YtjafgdefcggjcaaGreatDoor

namespace Go.Proofs.YtjafgdefcggjcaaGreatDoor
open Go.V
set_option maxRecDepth 100000
open Go Go.V
def st7 (c:Cn):D:=.agg [I c.m.1,I c.m.2.1,I c.m.2.2,sls c.s,ai c.t,T c.j,fos c.f]
section
variable (c:Cn)
theorem bG:aa (st7 c) (D.ref 0 0)=some (D.ref 0 0):=rfl
theorem cd:aa (st7 c) (st7 c)=some (st7 c):=rfl
theorem hX:cP (D.ref 0 0) (st7 c)=some (st7 c):=rfl
theorem RC:((atD (st7 c) (.ref 0 0)).bind (an true 3)).bind aL=some (me c.m):=rfl
theorem ZW:(atD (st7 c) (.ref 0 3)).bind (an false 1)=some (sls c.s):=rfl
theorem abM:(atD (st7 c) (.ref 0 4)).bind (an false 1)=some (ai c.t):=rfl
theorem HT:((atD (st7 c) (.ref 0 5)).bind (an false 1)).bind aL=some (T c.j):=rfl
theorem afO:(atD (st7 c) (.ref 0 6)).bind (an false 1)=some (fos c.f):=rfl
theorem mD (m:Me):stD 3 (st7 c) (.ref 0 0) (me m)=some (st7 {c with m:=m}):=rfl
theorem nT (s:List Slp):stD 1 (st7 c) (.ref 0 3) (sls s)=some (st7 {c with s:=s}):=rfl
theorem ahO (t:List Int):stD 1 (st7 c) (.ref 0 4) (ai t)=some (st7 {c with t:=t}):=rfl
theorem ahA (j:ByteArray):stD 1 (st7 c) (.ref 0 5) (T j)=some (st7 {c with j:=j}):=rfl
theorem ah1 (f:List Fo):stD 1 (st7 c) (.ref 0 6) (fos f)=some (st7 {c with f:=f}):=rfl
theorem acn:(atD (st7 c) (.ref 0 0)).bind (an true 7)=some (st7 c):=rfl
theorem XO:bh true 7 0 (st7 c)=some (st7 c):=rfl
theorem Ut (d:Cn):stD 7 (st7 c) (.ref 0 0) (st7 d)=some (st7 d):=rfl
end
def ON (c:Cn) (s:ByteArray):ByteArray × Cn :=
 if (pM s).isSome=false then(noT,c) else if joB [c.m,meO (pM s)]=false then(noT,{c with m:=joR [c.m,meO (pM s)]}) else(mtT (joR [c.m,meO (pM s)]),{c with m:=joR [c.m,meO (pM s)]})
theorem Lw (c:Cn) (s:ByteArray) (h:s.size≤1048576):gk [st7 c,T s]=some (.ret [T (ON c s).1] [st7 (ON c s).2]):=by
 rw [yK];have e1:=uV s h;unfold ON;cases hq:(pM s).isSome<;>rw [hq] at e1
 ·simp -implicitDefEqProofs only [aq,ain,aio,aip,e1,t0G,t1V,wV,wU,bG,cd,bm,aT,RC,mD]
 ·have e2:=JQ [c.m,meO (pM s)] (by simp)
  cases hj:joB [c.m,meO (pM s)]<;>rw [hj] at e2
  ·simp -implicitDefEqProofs only [aq,ain,aio,aip,e1,e2,t0G,t1V,wV,wU,SX,bG,cd,bm,aT,RC,mD,aiU]
  ·have e3:=ql (yZ hj)
   have e4:((atD (st7 {c with m:=joR [c.m,meO (pM s)]}) (.ref 0 0)).bind (an true 3)).bind aL=some (me (joR [c.m,meO (pM s)])):=rfl;simp -implicitDefEqProofs only [aq,ain,aio,aip,e1,e2,e3,e4,t0G,t1V,wV,wU,SX,bG,cd,bm,aT,RC,mD,aiU]
theorem Lx (c:Cn) (g:Int) (hm:ct c.m=true):gj [st7 c,I g]=some (.ret [T (iw c ef [g]).1] [st7 (iw c ef [g]).2]):=by
 rw [yS];have e1:=LK c.m g;have e2:=ql (Bh (g:=g) hm);have hmc:iw c ef [g]=if tkB c.m g=true then(mtT (tkR c.m g),{c with m:=tkR c.m g}) else(noT,c):=rfl
 rw [hmc];cases hq:tkB c.m g<;>rw [hq] at e1<;>simp -implicitDefEqProofs only [aq,ain,aio,aip,e1,e2,t0G,t1G,t2V,wV,wU,RC,bG,cd,bm,aT,mD]
theorem Lu (c:Cn) (a:Int) (hs:cB c.s=true):gh [st7 c,I a]=some (.ret [T (iw c dO [a]).1] [st7 (iw c dO [a]).2]):=by
 rw [yU];have h8:=dT hs;have e1:=PU c.s a (by omega);obtain⟨hv1,hv2⟩:=BQ (n:=a) hs;have e2:dg [ai (rlV c.s a),D.v (aix {data:={toList:=[32]}})]=some (.ret [T (cf 32 (rlV c.s a))] []):=xf (rlV c.s a) 32 (uo fun z hz=>by have:=hv2 z hz;omega) (by omega);have hmc:iw c dO [a]=if rlB c.s a=true then(cf 32 (rlV c.s a),{c with s:=rsS c.s (rlV c.s a)}) else(noT,c):=rfl
 rw [hmc];cases hq:rlB c.s a
 ·rw [hq] at e1
  simp -implicitDefEqProofs only [aq,ain,aio,aip,e1,t0A,t1V,ZW,bG,cd,bm,aT]
 ·rw [hq] at e1
  have hlen:(rlV c.s a).length=c.s.length:=by unfold rlV;rw [if_pos hq,rc]
  have e3:=WW c.s (rlV c.s a) (by omega) hlen;simp -implicitDefEqProofs only [aq,ain,aio,aip,e1,e2,e3,t0A,t1V,ZW,nT,bG,cd,bm,aT]
theorem Zc (c:Cn) (a b:Int) (hs:cB c.s=true):kG [st7 c,I a,I b]=some (.ret [T (iw c gO [a,b]).1] [st7 (iw c gO [a,b]).2]):=by
 rw [JI];have h8:=dT hs;have e1:=Pn c.s a b (by omega);have e2:=OG (Pm (l:=c.s) (i:=a) (n:=b));have hmc:iw c gO [a,b]=if cuB c.s a b=true then(stT (cuR c.s a b),{c with s:=cuR c.s a b}) else(noT,c):=rfl
 rw [hmc];cases hq:cuB c.s a b<;>rw [hq] at e1<;>simp -implicitDefEqProofs only [aq,ain,aio,aip,e1,e2,t0A,t1V,ZW,nT,bG,cd,bm,aT]
end Go.Proofs.YtjafgdefcggjcaaGreatDoor

namespace Go.Proofs.YtjafgdefcggjcaaGreatDoor
open Go Go.V
theorem SB:∀(l:List ByteArray) (acc:List Int),(qP l acc).length≤acc.length+l.length
 | [],acc=>aiD _
 | w::l,acc=>by
  simp only [qP];split
  ·have:=SB l (acc++[‹Int›])
   simp only [aiz,ail,aim] at this ⊢;omega
  ·simp
theorem aaG (s:ByteArray):(fu s).length≤s.size+1:=by
 have h1:=SB (Lib.goFieldsP sJ s) [];have h2:=Ec sJ s;unfold fu;simp only [aim] at h1;omega
theorem ZF:∀l:List Int,(prS l).length≤l.length
 | []=>aiD _
 | [_]=>aiG _
 | a::b::r=>by
  have:=ZF r;simp only [prS,ail];omega
theorem GU (s:ByteArray) (h:s.size≤100000):jQ [T s]=some (.ret [sls (stO (pSt s)),B (pSt s).isSome] []):=by
 rw [Hb];have hn:=kQ s (by omega);have hl:=aaG s;have hdef:pSt s=if cB (prS (fu s))=true∧stT (prS (fu s))=s then some (prS (fu s)) else none:=rfl
 have hpl:=ZF (fu s);generalize fu s=ns at hn hl hdef hpl;simp -implicitDefEqProofs only [aq,ain,aio,aip,hn];refine bH (fun r=>r=_) (fun(a:List Slp × List Int)=>[T s,sls a.1,nR a.2]) (fun a=>a.2.length+a.1.length≤100001∧a.1++prS a.2=prS ns) (fun a=>a.2.length)
  (fun o=>o = .ext 0 [T s,sls (prS ns)]) ?_ ([],ns) ⟨by simp;omega,rfl⟩ rfl ?_
 ·rintro⟨acc,m⟩ ⟨g1,g2⟩
  dsimp only at g1 g2
  match m,g1,g2 with
  | a::b::r,g1,g2 =>
   have h2:(2:Int)≤((a::b::r).length:Int):=by simp only [ail];omega
   have e0:ao 1 (nR (a::b::r)) (I 0)=some [I a]:=rfl;have e1:ao 1 (nR (a::b::r)) (I 1)=some [I b]:=rfl;have es:cQ false 1 (nR (a::b::r)) (I 2)=some (nR r):=by
    have:=mQ (z:=1) (k:=.i64) (l:=(a::b::r).map I) (i:=2) (by simp);exact this
   have ha:=gX (l:=acc) (m:=[(b,a)]) (by simp at g1 ⊢;omega);refine .inl ⟨(acc++[(b,a)],r),?_,⟨by simp at g1 ⊢;omega,by rw [←g2];simp [prS]⟩,by simp;omega⟩
   simp -implicitDefEqProofs only [aq,ain,aio,aip,h2,e0,e1,aag,BF,gP,ha,es]
  | [],g1,g2 =>
   refine .inr ⟨.ext 0 [T s,sls acc],?_,rfl,?_⟩
   ·simp -implicitDefEqProofs only [aq,ain,aio,aip,aim,show ¬(2:Int)≤((0:Nat):Int) by decide]
   ·have:acc=prS ns:=by rw [←g2];simp [prS]
    rw [this]
  | [a],g1,g2 =>
   refine .inr ⟨.ext 0 [T s,sls acc],?_,rfl,?_⟩
   ·simp -implicitDefEqProofs only [aq,ain,aio,aip,ail,aim,show ¬(2:Int)≤((0+1:Nat):Int) by decide]
   ·have:acc=prS ns:=by rw [←g2];simp [prS]
    rw [this]
 ·rintro o rfl
  generalize prS ns=L at hdef hpl;rw [hdef];have hi:=dI L (by omega);cases hg:cB L
  ·rw [if_neg (fun g=>by cases g.1)]
   simp -implicitDefEqProofs only [aq,ain,aio,aip,hi,hg];rfl
  ·by_cases he:stT L=s
   ·rw [if_pos ⟨rfl,he⟩]
    simp -implicitDefEqProofs only [aq,ain,aio,aip,hi,hg,OG hg,ir,he];rfl
   ·rw [if_neg (fun g=>he g.2)]
    simp -implicitDefEqProofs only [aq,ain,aio,aip,hi,hg,OG hg,ir,he];rfl
theorem Fw (l:List Nt) (h:l.length≤1048576):iK [nts l]=some (.ret [T (jtS l).1,B (jtS l).2] []):=by
 rw [Fh];unfold jtS;cases hg:gz l
 ·rw [if_neg (fun g=>by cases g.1)]
  simp -implicitDefEqProofs [cD l h,hg]
 ·have hall:=(GG hg).1
  by_cases hz:(jT l 7).size≤300
  ·have hz':¬(300:Int)<((jT l 7).size:Int):=by omega
   rw [if_pos ⟨rfl,hz⟩];simp -implicitDefEqProofs [cD l h,hg,Ng l hall h,hz']
  ·have hz':(300:Int)<((jT l 7).size:Int):=by omega
   rw [if_neg (fun g=>hz g.2)];simp -implicitDefEqProofs [cD l h,hg,Ng l hall h,hz']
theorem HM (s:ByteArray) (x:Nt) (h:s.size≤1048576):jS [T s,nt x]=some (.ret [T (anS s x).1,B (anS s x).2] []):=by
 rw [HR];have e1:=mw s h;have hlen:=uh s;unfold anS;generalize jrS s=R at *;obtain⟨l,p⟩:=R;simp only at e1 hlen ⊢;have hap:=xv (l:=l) (m:=[x]) (by simp;omega);have hl2:(l++[x]).length≤1048576:=by rw [aiz,List.length_singleton];omega
 have hJ:=Fw (l++[x]) hl2;simp -implicitDefEqProofs only [XR,air,e1,am,tp0,tc0,ahv,bn,Pr];cases p
 ·simp -implicitDefEqProofs
 cases hx:mz x
 ·have hg:gz (l++[x])=false:=by
   cases hg:gz (l++[x])
   ·rfl
   ·rw [(kb hg).1] at hx
    cases hx
  have:jtS (l++[x])=(⟨#[]⟩,false):=by
   unfold jtS;rw [if_neg (fun g=>by rw [hg] at g;cases g.1)]
  rw [this];simp -implicitDefEqProofs [lF,hx]
 ·simp -implicitDefEqProofs only [lF,hx,aiS,bK,bZ,bz,am,ak,air,bn,aiC,if_false,if_true,aO,aH,Um,hap,hJ]
  simp -implicitDefEqProofs
theorem zU (b:Bool):ko [B b]=some (.ret [T (if b=true then okT else noT)] []):=by
 rw [OC];cases b<;>simp -implicitDefEqProofs only [aq,ain,aio,aip]
theorem dQ (n:Int) (b:Bool) (h0 : -9223372036854775808≤n) (h1:n≤9223372036854775807):cu [I n,B b]=some (.ret [T (if b=true then aI n else noT)] []):=by
 rw [EE];have e1:=Mg h0 h1;cases b<;>simp -implicitDefEqProofs only [aq,ain,aio,aip,e1]
def YX (c:Cn) (v:Int):ByteArray × Cn:=(if eW (c.t++[v])=true then aI ((c.t.length+1:Nat):Int) else noT,{c with t:=c.t++[v]})
theorem Yw (c:Cn) (v:Int) (ht:eW c.t=true):kx [st7 c,I v]=some (.ret [T (YX c v).1] [st7 (YX c v).2]):=by
 rw [IM];obtain⟨t1,t2,t3⟩:=rJ ht;have hck:=kw c.t;have a0:bC 1 8 (D.arr 1 []) (ai c.t)=some (ai c.t):=eJ (l:=[]) (m:=c.t) (by simp;omega);have hmk:aB 1 [I v]=some (ai [v]):=rfl;have a1:=eJ (l:=c.t) (m:=[v]) (by simp;omega);have e1:=sK (c.t++[v]) (by simp;omega);have hlen:(((c.t++[v]).length:Nat):Int)=((c.t.length+1:Nat):Int):=by simp
 have e2:=fun b=>dQ ((c.t.length+1:Nat):Int) b (by omega) (by omega)
 have e4:(atD (st7 {c with t:=c.t++[v]}) (.ref 0 4)).bind (an false 1)=some (ai (c.t++[v])):=rfl;unfold YX;simp -implicitDefEqProofs only [aq,ain,aio,aip,hck,a0,hmk,a1,e1,hlen,e2,e4,abM,ahO,bG,cd,bm,aT]
def Oc (c:Cn) (x:Nt):ByteArray × Cn:=(if (anS c.j x).2=true then aI ((jrS (anS c.j x).1).1.length:Int) else noT,{c with j:=(anS c.j x).1})
theorem WB (c:Cn) (x:Nt) (hj:c.j.size≤300):jH [st7 c,nt x]=some (.ret [T (Oc c x).1] [st7 (Oc c x).2]):=by
 rw [Gr];have e1:=HM c.j x (by omega);have hz:=Ov c.j x;have e2:=mw (anS c.j x).1 (by omega);have hl:=uh (anS c.j x).1;have e3:=fun b=>dQ ((jrS (anS c.j x).1).1.length:Int) b (by omega) (by omega)
 have hf:bh true 3 0 (nt x)=some (nt x):=rfl;unfold Oc;simp -implicitDefEqProofs only [aq,ain,aio,aip,XR,hf,e1,e2,e3,t0V,t1V,t0A,lG,HT,ahA,bG,cd,bm,aT]
def Fe (c:Cn) (a:Int):ByteArray × Cn:=(if qR (c.f++[(a,true)])=true then aI ((c.f.length+1:Nat):Int) else noT,{c with f:=c.f++[(a,true)]})
theorem Xc (c:Cn) (a:Int) (hf:aav c.f):jA [st7 c,I a]=some (.ret [T (Fe c a).1] [st7 (Fe c a).2]):=by
 rw [GT];have h4:=hf.1;have hck:=Mc c.f;have ha0:bC 2 16 (D.arr 2 []) (fos c.f)=some (fos c.f):=tJ (l:=[]) (m:=c.f) (by simp;omega);have hmk:aB 2 [D.agg [I a,B true]]=some (fos [(a,true)]):=rfl;have ha:=tJ (l:=c.f) (m:=[(a,true)]) (by simp;omega);have e2:=yg (c.f++[(a,true)]) (by simp;omega);have hlen:(((c.f++[(a,true)]).length:Nat):Int)=((c.f.length+1:Nat):Int):=by simp
 have e3:=fun b=>dQ ((c.f.length+1:Nat):Int) b (by omega) (by omega)
 have e4:(atD (st7 {c with f:=c.f++[(a,true)]}) (.ref 0 6)).bind (an false 1)=some (fos (c.f++[(a,true)])):=rfl;unfold Fe;simp -implicitDefEqProofs only [aq,ain,aio,aip,hck,ha0,Ux,hmk,ha,e2,hlen,e3,e4,afO,ah1,bG,cd,bm,aT]
theorem agI (l:List Int):Qr l=wH l:=by
 have h:=xm l [] aiQ;rw [List.nil_append] at h;have hs:(Qr l).Pairwise (·≤·):=by
  have:=List.pairwise_mergeSort (le:=fun x y:Int=>decide (x≤y)) (fun a b c h1 h2=>by simp at *;omega) (fun a b=>by simp;omega) l;exact this.imp fun h=>by simpa using h
 exact List.Perm.eq_of_pairwise (le:=(·≤·)) (fun a b _ _ h1 h2=>by omega) hs h.1 ((List.mergeSort_perm _ _).trans h.2.symm)
theorem Pu (l:List Int) (h:l.length≤1000) (hr:∀n∈l,-500≤n∧n≤500):oS [ai l]=some (.ret [ai (wH l)] []):=by
 rw [QN];have hck:=kw l;have a0:bC 1 8 (D.arr 1 []) (ai l)=some (ai l):=eJ (l:=[]) (m:=l) (by simp;omega);have hlv:aa (ai l) (D.ref 0 0)=some (D.ref 0 0):=rfl;have hr0:cP (D.ref 0 0) (ai l)=some (ai l):=rfl;have hlv2:aa (ai l) (ai l)=some (ai l):=rfl;have hs:IG [ai l]=some (.ret [] [ai (wH l)]):=by
  have e:IG [ai l]=(Fj (l.map I)).bind fun l=>if l.length≤1048576 then some (.ret [] [nR (Qr l)]) else none:=rfl
  rw [e];have:=Oy l fun x hx=>by
   have:=hr x hx;unfold inI;omega
  rw [this,air,if_pos (by omega),agI]
 simp -implicitDefEqProofs only [aq,ain,aio,aip,hck,a0,hlv,hr0,hlv2,hs]
theorem IX (l:List Int) (h:eW l=true):kH [ai l]=some (.ret [I (Fy l),B true] []):=by
 rw [JB];obtain⟨h1,h2,h3⟩:=rJ h;have hg:=sK l (by omega);rw [h] at hg;have hs:=Pu l (by omega) h3;have e1:aiq.wrap ((l.length:Int) - 1)=((l.length - 1:Nat):Int):=by rw [ah (by omega) (by omega)];omega
 have hix:(l.length - 1) / 2<(wH l).length:=by rw [HN];omega
 have e2:=sm (a:=l.length - 1) (by omega);have hel:ao 1 (ai (wH l)) (I (((l.length - 1) / 2:Nat):Int))=some [I (Fy l)]:=by
  unfold Fy;generalize (l.length - 1) / 2=m at hix;simp [hix]
 simp -implicitDefEqProofs only [aq,ain,aio,aip,hg,hs,e1,e2,hel]
theorem fG (x:Ln):gq 3 (lnD x)=some (lnD x):=rfl
theorem em (x:Ln) (k:Nat):aa (lnD x) (D.ref 0 k)=some (D.ref 0 k):=rfl
theorem jK (x:Ln):((atD (lnD x) (D.ref 0 0)).bind (an false 1)).bind aL=some (T x.1):=rfl
theorem qH (x:Ln):((atD (lnD x) (D.ref 0 1)).bind (an false 1)).bind aL=some (T x.2.1):=rfl
theorem nh (x:Ln):(atD (lnD x) (D.ref 0 2)).bind (an false 1)=some (ai x.2.2):=rfl
theorem mg (c:Cn) (w rest:ByteArray) (r:List Int) (hk:CnOk c)
  (hw:(w=bU∧r.length=0)∨(w=bA∧r.length=1)∨(w=bV∧r.length=0)∨(w=cH∧r.length=0)∨(w=cF∧r.length=2)∨(w=cA∧r.length=1)∨(w=bM∧r.length=0)) :
  kD [st7 c,lnD (w,rest,r)]=some (.ret [T (bq c w rest r).1] [st7 c])∧(bq c w rest r).2=c:=by
 rw [Jn];obtain⟨hm,hs,ht,hj,hf⟩:=hk;obtain⟨t1,t2,t3⟩:=rJ ht;have hl:=uh c.j;have h8:=dT hs;have e0:=mw c.j (by omega);rcases hw with ⟨rfl,hr⟩ | ⟨rfl,hr⟩ | ⟨rfl,hr⟩ | ⟨rfl,hr⟩ | ⟨rfl,hr⟩ | ⟨rfl,hr⟩ | ⟨rfl,hr⟩
 ·obtain rfl:=aiA hr
  have hmc:bq c bU rest []=(if shB c.m=true then cf 32 (shR c.m) else noT,c):=rfl;rw [hmc];refine⟨?_,rfl⟩
  have e1:=KO c.m;cases hq:shB c.m<;>rw [hq] at e1
  ·simp -implicitDefEqProofs only [aq,ain,aio,aip,fG,em,jK,e0,lV,e1,t0A,lG,t1V,RC,HT,bG,cd,bm,aT]
  ·have hb:∀z∈shR c.m,0≤z∧z≤1000:=by
    unfold shR;rw [if_pos hq];exact(Ua hq).2.2
   have hl3:(shR c.m).length≤3:=by
    unfold shR;rw [if_pos hq];exact aiD 3
   have e2:dg [ai (shR c.m),D.v (aix {data:={toList:=[32]}})]=some (.ret [T (cf 32 (shR c.m))] []):=xf (shR c.m) 32 (uo fun z hz=>by have:=hb z hz;omega) (by omega);simp -implicitDefEqProofs only [aq,ain,aio,aip,fG,em,jK,e0,lV,e1,e2,t0A,lG,t1V,RC,HT,bG,cd,bm,aT]
 ·obtain⟨a,rfl⟩:=aiw.1 hr
  have hel:ao 1 (ai [a]) (D.v (ais aiq 0))=some [I a]:=rfl;have hmc:bq c bA rest [a]=(if (sY c.s a).isSome=true then aI (AB c.s a) else noT,c):=rfl;rw [hmc];refine⟨?_,rfl⟩
  have e1:=Gl c.s a (by omega);have hmb:=Yf (l:=c.s) (n:=a);have e2:=fun b=>dQ (AB c.s a) b (by omega) (by omega)
  simp -implicitDefEqProofs only [aq,ain,aio,aip,fG,em,jK,nh,hel,e0,ov,ug,e1,e2,t0V,t0A,lG,t1V,ZW,HT,bG,cd,bm,aT]
 ·obtain rfl:=aiA hr
  have hmc:bq c bV rest []=(aI (Fy c.t),c):=rfl;rw [hmc];refine⟨?_,rfl⟩
  have e1:=IX c.t ht;have hb:=XP ht;have e2:=dQ (Fy c.t) true (by omega) (by omega);rw [if_pos rfl] at e2;simp -implicitDefEqProofs only [aq,ain,aio,aip,fG,em,jK,e0,xK,vb,ye,e1,e2,t0V,t0A,lG,t1V,abM,HT,bG,cd,bm,aT]
 ·obtain rfl:=aiA hr
  have hmc:bq c cH rest []=(cf 32 [((gn c.t c.t.length).1:Int),((gn c.t c.t.length).2:Int)],c):=rfl;rw [hmc];refine⟨?_,rfl⟩
  have e1:=Cr c.t (by omega);rw [ht,if_pos rfl,if_pos rfl,←aca c.t c.t.length t1] at e1;have hb:=TW c.t c.t.length (aiD _);have hbb:∀z∈[((gn c.t c.t.length).1:Int),((gn c.t c.t.length).2:Int)],-1000000000000000000<z∧z<1000000000000000000:=by
   intro z hz;simp only [aiu,ait,or_false] at hz;rcases hz with rfl | rfl<;>omega
  have hmk:aB 1 [I ((gn c.t c.t.length).1:Int),I ((gn c.t c.t.length).2:Int)]=some (ai [((gn c.t c.t.length).1:Int),((gn c.t c.t.length).2:Int)]):=rfl;have e2:dg [ai [((gn c.t c.t.length).1:Int),((gn c.t c.t.length).2:Int)],D.v (aix {data:={toList:=[32]}})]=some (.ret [T (cf 32 [((gn c.t c.t.length).1:Int),((gn c.t c.t.length).2:Int)])] []):=xf _ 32 (uo hbb) (by simp);simp -implicitDefEqProofs only [aq,ain,aio,aip,fG,em,jK,e0,AM,xF,zP,CZ,e1,e2,hmk,t0V,t0A,lG,t1V,t2V,abM,HT,bG,cd,bm,aT]
 ·obtain⟨a,b,rfl⟩:=GC hr
  have hel:ao 1 (ai [a,b]) (D.v (ais aiq 0))=some [I a]:=rfl;have hel1:ao 1 (ai [a,b]) (D.v (ais aiq 1))=some [I b]:=rfl;have hmc:bq c cF rest [a,b]=(if eO (jrS c.j).1 a b=true then aI (bE (jrS c.j).1 a b) else noT,c):=rfl;rw [hmc];refine⟨?_,rfl⟩
  have e1:=GN (jrS c.j).1 a b (by omega);have hb:=Uc (l:=(jrS c.j).1) (s:=a) (d:=b);have e2:=fun q=>dQ (if eO (jrS c.j).1 a b=true then bE (jrS c.j).1 a b else 0) q (by omega) (by omega)
  cases hq:eO (jrS c.j).1 a b<;>rw [hq] at e1 e2<;>simp only [if_true,if_false,aiC] at e1 e2<;>simp -implicitDefEqProofs only [aq,ain,aio,aip,fG,em,jK,nh,hel,hel1,e0,AW,xX,zI,Ei,Ea,e1,e2,t0V,t0A,lG,t1V,HT,bG,cd,bm,aT]
 ·obtain⟨a,rfl⟩:=aiw.1 hr
  have hel:ao 1 (ai [a]) (D.v (ais aiq 0))=some [I a]:=rfl;have hmc:bq c cA rest [a]=(if gi (jrS c.j).1 a=true then aI (gG (jrS c.j).1 a).1 else noT,c):=rfl;rw [hmc];refine⟨?_,rfl⟩
  have e1:=Gq (jrS c.j).1 a (by omega);have hb:=Tg (l:=(jrS c.j).1) (s:=a);have e2:=fun q=>dQ (gG (jrS c.j).1 a).1 q (by omega) (by omega)
  simp -implicitDefEqProofs only [aq,ain,aio,aip,fG,em,jK,nh,hel,e0,zT,xB,zZ,Eh,CV,DV,e1,e2,t0V,t0A,lG,t1V,t2V,HT,bG,cd,bm,aT]
 ·obtain rfl:=aiA hr
  have hmc:bq c bM rest []=(YL c.f,c):=rfl;rw [hmc];refine⟨?_,rfl⟩
  have e1:=Vd hf;simp -implicitDefEqProofs only [aq,ain,aio,aip,fG,em,jK,e0,yt,vE,yz,zH,zQ,Aa,e1,t0V,t0A,lG,t1V,HT,afO,bG,cd,bm,aT]
theorem jy (x:Ln):bh true 3 0 (lnD x)=some (lnD x):=rfl
def bv (c:Cn) (w rest:ByteArray) (r:List Int):ByteArray × Cn :=
 if w=kV then(if (pM rest).isSome=true then okT else noT,{c with m:=meO (pM rest)})
 else if w=km then ON c rest
 else if w=ef then iw c ef [r.getD 0 0]
 else if w=fD then(if (pSt rest).isSome=true then okT else noT,{c with s:=stO (pSt rest)})
 else if w=dO then iw c dO [r.getD 0 0]
 else if w=gO then iw c gO [r.getD 0 0,r.getD 1 0]
 else if w=ky then YX c (r.getD 0 0)
 else if w=eQ then Oc c (r.getD 0 0,r.getD 1 0,r.getD 2 0)
 else if w=ep then Fe c (r.getD 0 0)
 else((bq c w rest r).1,c)
theorem ael (c:Cn) (rest:ByteArray) (r:List Int) (hk:CnOk c) (hz:rest.size≤100000):aM [st7 c,lnD (kV,rest,r)]=some (.ret [T (bv c kV rest r).1] [st7 (bv c kV rest r).2]):=by
 rw [bc];have hx:bv c kV rest r=(if (pM rest).isSome=true then okT else noT,{c with m:=meO (pM rest)}):=rfl;rw [hx];have e1:=uV rest (by omega);have e2:=zU (pM rest).isSome;simp -implicitDefEqProofs only [aq,ain,aio,aip,fG,em,jK,qH,nh,jy,bG,cd,hX,bm,aT,mD,nT,t0G,t0A,lG,t1V,kt,Ke,e1,e2]
theorem afD (c:Cn) (rest:ByteArray) (r:List Int) (hk:CnOk c) (hz:rest.size≤100000):aM [st7 c,lnD (km,rest,r)]=some (.ret [T (bv c km rest r).1] [st7 (bv c km rest r).2]):=by
 rw [bc];have hx:bv c km rest r=ON c rest:=rfl;rw [hx];have e1:=Lw c rest (by omega);simp -implicitDefEqProofs only [aq,ain,aio,aip,fG,em,jK,qH,nh,jy,bG,cd,hX,bm,aT,mD,nT,t0G,t0A,lG,t1V,kt,tY,tC,e1]
theorem afy (c:Cn) (rest:ByteArray) (r:List Int) (hk:CnOk c) (hz:rest.size≤100000) (hr:r.length=1):aM [st7 c,lnD (ef,rest,r)]=some (.ret [T (bv c ef rest r).1] [st7 (bv c ef rest r).2]):=by
 rw [bc];obtain⟨a,rfl⟩:=aiw.1 hr;have hel:ao 1 (ai [a]) (D.v (ais aiq 0))=some [I a]:=rfl;have hx:bv c ef rest [a]=iw c ef [a]:=rfl;rw [hx];have e1:=Lx c a hk.m;simp -implicitDefEqProofs only [aq,ain,aio,aip,fG,em,jK,qH,nh,jy,bG,cd,hX,bm,aT,mD,nT,t0G,t0A,lG,t1V,kt,hel,WS,VG,AQ,e1]
theorem adz (c:Cn) (rest:ByteArray) (r:List Int) (hk:CnOk c) (hz:rest.size≤100000):aM [st7 c,lnD (fD,rest,r)]=some (.ret [T (bv c fD rest r).1] [st7 (bv c fD rest r).2]):=by
 rw [bc];have hx:bv c fD rest r=(if (pSt rest).isSome=true then okT else noT,{c with s:=stO (pSt rest)}):=rfl;rw [hx];have e1:=GU rest hz;have e2:=zU (pSt rest).isSome;simp -implicitDefEqProofs only [aq,ain,aio,aip,fG,em,jK,qH,nh,jy,bG,cd,hX,bm,aT,mD,nT,t0G,t0A,lG,t1V,kt,UE,TM,Tj,DX,e1,e2]
theorem aep (c:Cn) (rest:ByteArray) (r:List Int) (hk:CnOk c) (hz:rest.size≤100000) (hr:r.length=1):aM [st7 c,lnD (dO,rest,r)]=some (.ret [T (bv c dO rest r).1] [st7 (bv c dO rest r).2]):=by
 rw [bc];obtain⟨a,rfl⟩:=aiw.1 hr;have hel:ao 1 (ai [a]) (D.v (ais aiq 0))=some [I a]:=rfl;have hx:bv c dO rest [a]=iw c dO [a]:=rfl;rw [hx];have e1:=Lu c a hk.s;simp -implicitDefEqProofs only [aq,ain,aio,aip,fG,em,jK,qH,nh,jy,bG,cd,hX,bm,aT,mD,nT,t0G,t0A,lG,t1V,kt,hel,Xe,WV,uc,Ug,ue,e1]
theorem agz (c:Cn) (rest:ByteArray) (r:List Int) (hk:CnOk c) (hz:rest.size≤100000) (hr:r.length=2):aM [st7 c,lnD (gO,rest,r)]=some (.ret [T (bv c gO rest r).1] [st7 (bv c gO rest r).2]):=by
 rw [bc];obtain⟨a,b,rfl⟩:=GC hr;have hel:ao 1 (ai [a,b]) (D.v (ais aiq 0))=some [I a]:=rfl;have hel1:ao 1 (ai [a,b]) (D.v (ais aiq 1))=some [I b]:=rfl;have hx:bv c gO rest [a,b]=iw c gO [a,b]:=rfl;rw [hx];have e1:=Zc c a b hk.s;simp -implicitDefEqProofs only [aq,ain,aio,aip,fG,em,jK,qH,nh,jy,bG,cd,hX,bm,aT,mD,nT,t0G,t0A,lG,t1V,kt,hel,hel1,XL,YP,Fv,Vh,FC,Jc,e1]
theorem agH (c:Cn) (rest:ByteArray) (r:List Int) (hk:CnOk c) (hz:rest.size≤100000) (hr:r.length=1):aM [st7 c,lnD (ky,rest,r)]=some (.ret [T (bv c ky rest r).1] [st7 (bv c ky rest r).2]):=by
 rw [bc];obtain⟨a,rfl⟩:=aiw.1 hr;have hel:ao 1 (ai [a]) (D.v (ais aiq 0))=some [I a]:=rfl;have hx:bv c ky rest [a]=YX c a:=rfl;rw [hx];have e1:=Yw c a hk.t;simp -implicitDefEqProofs only [aq,ain,aio,aip,fG,em,jK,qH,nh,jy,bG,cd,hX,bm,aT,mD,nT,t0G,t0A,lG,t1V,kt,hel,Xs,Yu,NF,Wn,Nr,RR,RW,e1]
theorem afx (c:Cn) (rest:ByteArray) (r:List Int) (hk:CnOk c) (hz:rest.size≤100000) (hr:r.length=3):aM [st7 c,lnD (eQ,rest,r)]=some (.ret [T (bv c eQ rest r).1] [st7 (bv c eQ rest r).2]):=by
 rw [bc];obtain⟨a,b,d,rfl⟩:=JM hr;have hel:ao 1 (ai [a,b,d]) (D.v (ais aiq 0))=some [I a]:=rfl;have hel1:ao 1 (ai [a,b,d]) (D.v (ais aiq 1))=some [I b]:=rfl;have hel2:ao 1 (ai [a,b,d]) (D.v (ais aiq 2))=some [I d]:=rfl;have hx:bv c eQ rest [a,b,d]=Oc c (a,b,d):=rfl;rw [hx];have e1:=WB c (a,b,d) hk.j;simp -implicitDefEqProofs only [aq,ain,aio,aip,fG,em,jK,qH,nh,jy,bG,cd,hX,bm,aT,mD,nT,t0G,t0A,lG,t1V,kt,hel,hel1,hel2,Xn,Xg,KC,Uq,KI,Pk,NT,Kl,e1]
theorem afo (c:Cn) (rest:ByteArray) (r:List Int) (hk:CnOk c) (hz:rest.size≤100000) (hr:r.length=1):aM [st7 c,lnD (ep,rest,r)]=some (.ret [T (bv c ep rest r).1] [st7 (bv c ep rest r).2]):=by
 rw [bc];obtain⟨a,rfl⟩:=aiw.1 hr;have hel:ao 1 (ai [a]) (D.v (ais aiq 0))=some [I a]:=rfl;have hx:bv c ep rest [a]=Fe c a:=rfl;rw [hx];have e1:=Xc c a hk.f;simp -implicitDefEqProofs only [aq,ain,aio,aip,fG,em,jK,qH,nh,jy,bG,cd,hX,bm,aT,mD,nT,t0G,t0A,lG,t1V,kt,hel,VI,UR,KG,TU,Kq,OH,OZ,KN,Kj,e1]
theorem aaJ (c:Cn) (rest:ByteArray) (r:List Int) (hk:CnOk c) (hr:r.length=0):aM [st7 c,lnD (bU,rest,r)]=some (.ret [T (bv c bU rest r).1] [st7 (bv c bU rest r).2])∧(bq c bU rest r).2=c:=by
 obtain⟨e1,e2⟩:=mg c bU rest r hk (.inl ⟨rfl,hr⟩);refine⟨?_,e2⟩
 rw [bc];have hx:bv c bU rest r=((bq c bU rest r).1,c):=rfl;rw [hx];simp -implicitDefEqProofs only [aq,ain,aio,aip,fG,em,jK,qH,nh,jy,bG,cd,hX,bm,aT,mD,nT,t0G,t0A,lG,t1V,kt,Rb,Px,uM,MQ,DD,HJ,SR,PH,PJ,e1]
theorem Xr (c:Cn) (rest:ByteArray) (r:List Int) (hk:CnOk c) (hr:r.length=1):aM [st7 c,lnD (bA,rest,r)]=some (.ret [T (bv c bA rest r).1] [st7 (bv c bA rest r).2])∧(bq c bA rest r).2=c:=by
 obtain⟨e1,e2⟩:=mg c bA rest r hk (.inr (.inl ⟨rfl,hr⟩));refine⟨?_,e2⟩
 rw [bc];have hx:bv c bA rest r=((bq c bA rest r).1,c):=rfl;rw [hx];simp -implicitDefEqProofs only [aq,ain,aio,aip,fG,em,jK,qH,nh,jy,bG,cd,hX,bm,aT,mD,nT,t0G,t0A,lG,t1V,kt,MS,Nk,sw,KR,sX,uu,PC,NR,Nf,e1]
theorem abj (c:Cn) (rest:ByteArray) (r:List Int) (hk:CnOk c) (hr:r.length=0):aM [st7 c,lnD (bV,rest,r)]=some (.ret [T (bv c bV rest r).1] [st7 (bv c bV rest r).2])∧(bq c bV rest r).2=c:=by
 obtain⟨e1,e2⟩:=mg c bV rest r hk (.inr (.inr (.inl ⟨rfl,hr⟩)));refine⟨?_,e2⟩
 rw [bc];have hx:bv c bV rest r=((bq c bV rest r).1,c):=rfl;rw [hx];simp -implicitDefEqProofs only [aq,ain,aio,aip,fG,em,jK,qH,nh,jy,bG,cd,hX,bm,aT,mD,nT,t0G,t0A,lG,t1V,kt,Qx,QX,CS,Mf,Dm,GP,Hc,Re,Qp,e1]
theorem abK (c:Cn) (rest:ByteArray) (r:List Int) (hk:CnOk c) (hr:r.length=0):aM [st7 c,lnD (cH,rest,r)]=some (.ret [T (bv c cH rest r).1] [st7 (bv c cH rest r).2])∧(bq c cH rest r).2=c:=by
 obtain⟨e1,e2⟩:=mg c cH rest r hk (.inr (.inr (.inr (.inl ⟨rfl,hr⟩))));refine⟨?_,e2⟩
 rw [bc];have hx:bv c cH rest r=((bq c cH rest r).1,c):=rfl;rw [hx];simp -implicitDefEqProofs only [aq,ain,aio,aip,fG,em,jK,qH,nh,jy,bG,cd,hX,bm,aT,mD,nT,t0G,t0A,lG,t1V,kt,TG,UH,HV,QA,GI,JZ,Kf,Th,Tf,e1]
theorem ada (c:Cn) (rest:ByteArray) (r:List Int) (hk:CnOk c) (hr:r.length=2):aM [st7 c,lnD (cF,rest,r)]=some (.ret [T (bv c cF rest r).1] [st7 (bv c cF rest r).2])∧(bq c cF rest r).2=c:=by
 obtain⟨e1,e2⟩:=mg c cF rest r hk (.inr (.inr (.inr (.inr (.inl ⟨rfl,hr⟩)))));refine⟨?_,e2⟩
 rw [bc];have hx:bv c cF rest r=((bq c cF rest r).1,c):=rfl;rw [hx];simp -implicitDefEqProofs only [aq,ain,aio,aip,fG,em,jK,qH,nh,jy,bG,cd,hX,bm,aT,mD,nT,t0G,t0A,lG,t1V,kt,Uy,UI,Ik,PN,Gh,JY,Kx,HP,Us,e1]
theorem abV (c:Cn) (rest:ByteArray) (r:List Int) (hk:CnOk c) (hr:r.length=1):aM [st7 c,lnD (cA,rest,r)]=some (.ret [T (bv c cA rest r).1] [st7 (bv c cA rest r).2])∧(bq c cA rest r).2=c:=by
 obtain⟨e1,e2⟩:=mg c cA rest r hk (.inr (.inr (.inr (.inr (.inr (.inl ⟨rfl,hr⟩))))));refine⟨?_,e2⟩
 rw [bc];have hx:bv c cA rest r=((bq c cA rest r).1,c):=rfl;rw [hx];simp -implicitDefEqProofs only [aq,ain,aio,aip,fG,em,jK,qH,nh,jy,bG,cd,hX,bm,aT,mD,nT,t0G,t0A,lG,t1V,kt,UC,Uw,Hn,PF,FJ,Kn,Kc,GD,TD,e1]
theorem aaM (c:Cn) (rest:ByteArray) (r:List Int) (hk:CnOk c) (hr:r.length=0):aM [st7 c,lnD (bM,rest,r)]=some (.ret [T (bv c bM rest r).1] [st7 (bv c bM rest r).2])∧(bq c bM rest r).2=c:=by
 obtain⟨e1,e2⟩:=mg c bM rest r hk (.inr (.inr (.inr (.inr (.inr (.inr (⟨rfl,hr⟩)))))));refine⟨?_,e2⟩
 rw [bc];have hx:bv c bM rest r=((bq c bM rest r).1,c):=rfl;rw [hx];simp -implicitDefEqProofs only [aq,ain,aio,aip,fG,em,jK,qH,nh,jy,bG,cd,hX,bm,aT,mD,nT,t0G,t0A,lG,t1V,kt,Rf,PE,Em,Pp,Dn,Gp,FL,CP,Ds,e1]
theorem ab7 (w:ByteArray):(fx shE w=none∧shN w = -2)∨(fx shE w=some ⟨#[84]⟩∧shN w = -1)∨(fx shE w=some ⟨#[]⟩∧shN w=0)∨(fx shE w=some ⟨#[78]⟩∧shN w=1)∨(fx shE w=some ⟨#[78,78]⟩∧shN w=2)∨(fx shE w=some ⟨#[78,78,78]⟩∧shN w=3):=by
 by_cases h1:w=kV
 ·subst h1;decide
 by_cases h2:w=km
 ·subst h2;decide
 by_cases h3:w=ef
 ·subst h3;decide
 by_cases h4:w=bU
 ·subst h4;decide
 by_cases h5:w=fD
 ·subst h5;decide
 by_cases h6:w=dO
 ·subst h6;decide
 by_cases h7:w=gO
 ·subst h7;decide
 by_cases h8:w=bA
 ·subst h8;decide
 by_cases h9:w=ky
 ·subst h9;decide
 by_cases h10:w=bV
 ·subst h10;decide
 by_cases h11:w=cH
 ·subst h11;decide
 by_cases h12:w=eQ
 ·subst h12;decide
 by_cases h13:w=cF
 ·subst h13;decide
 by_cases h14:w=cA
 ·subst h14;decide
 by_cases h15:w=ep
 ·subst h15;decide
 by_cases h16:w=bM
 ·subst h16;decide
 left
 refine⟨?_,?_⟩
 ·unfold shE
  simp only [fx];rw [if_neg h16,if_neg h15,if_neg h14,if_neg h13,if_neg h12,if_neg h11,if_neg h10,if_neg h9,if_neg h8,if_neg h7,if_neg h6,if_neg h5,if_neg h4,if_neg h3,if_neg h2,if_neg h1]
 ·unfold shN
  simp only [h1,h2,h3,h4,h5,h6,h7,h8,h9,h10,h11,h12,h13,h14,h15,h16,or_self,if_false]
theorem ahx (t:ByteArray):(rdL t=none∧(rdI t).2=false)∨∃x,rdL t=some x∧rdI t=(x,true):=by
 unfold rdL rdI;by_cases hs:(32:UInt8)∈ac t
 ·obtain⟨a,b,e,hn⟩:∃a b,ac t=a++32::b∧(32:UInt8)∉a:=by
   rcases oo 32 (ac t) with ⟨_,h2⟩ | ⟨a,b,h1,h2,_⟩
   ·exact absurd hs h2
   ·exact⟨a,b,h1,h2⟩
  have hsp:aC 32 t=bt a::aC 32 (bt b):=by
   unfold aC;rw [e,fS hn,cW];rfl
  have hne:aC 32 (bt b)≠[]:=by
   unfold aC;simp [ed]
  have hx:t.extract ((bt a).size+1) t.size=bt b:=by
   apply bN;rw [eA,cX,e,cW];have h1:t.size=(a++32::b).length:=by rw [←e];rfl
   rw [h1,aiR,show a++32::b=(a++[32])++b from by simp,List.drop_left' (by simp)];exact(cW b).symm
  rw [e,SS hn,hsp];dsimp only;rw [hx];rcases ab7 (bt a) with ⟨h1,h2⟩ | ⟨h1,h2⟩ | ⟨h1,h2⟩ | ⟨h1,h2⟩ | ⟨h1,h2⟩ | ⟨h1,h2⟩
  ·left;rw [h1,h2];exact⟨rfl,rfl⟩
  ·right;rw [h1,h2];exact⟨_,by rw [if_neg (by decide),if_pos rfl,if_neg hne],rfl⟩
  ·left
   rw [h1,h2];refine⟨?_,rfl⟩
   rw [if_neg (by decide),if_neg (by decide)];cases hq:cG (aC 32 (bt b)) with
   | none=>rfl
   | some r =>
    have:=(mP _ _ hq).1;have hp:=List.length_pos_iff.2 hne;dsimp only;rw [if_neg (by omega)]
  ·rw [h1,h2]
   dsimp only;cases hq:cG (aC 32 (bt b)) with
   | none=>left;exact⟨rfl,rfl⟩
   | some r =>
    have hl:=(mP _ _ hq).1;by_cases hc:((aC 32 (bt b)).length:Int)=1
    ·right
     refine⟨(bt a,⟨⟨[]⟩⟩,r),?_,?_⟩
     ·rw [if_neg (by decide),if_neg (by decide)]
      dsimp only;rw [hl,if_pos hc]
     ·rw [if_neg (by decide),if_neg (by decide)]
      have:decide (((aC 32 (bt b)).length:Int)=((⟨#[78]⟩:ByteArray).size:Int))=true:=decide_eq_true hc;rw [this]
    ·left
     refine⟨?_,?_⟩
     ·rw [if_neg (by decide),if_neg (by decide)]
      dsimp only;rw [hl,if_neg hc]
     ·rw [if_neg (by decide),if_neg (by decide)]
      exact decide_eq_false hc
  ·rw [h1,h2]
   dsimp only;cases hq:cG (aC 32 (bt b)) with
   | none=>left;exact⟨rfl,rfl⟩
   | some r =>
    have hl:=(mP _ _ hq).1;by_cases hc:((aC 32 (bt b)).length:Int)=2
    ·right
     refine⟨(bt a,⟨⟨[]⟩⟩,r),?_,?_⟩
     ·rw [if_neg (by decide),if_neg (by decide)]
      dsimp only;rw [hl,if_pos hc]
     ·rw [if_neg (by decide),if_neg (by decide)]
      have:decide (((aC 32 (bt b)).length:Int)=((⟨#[78,78]⟩:ByteArray).size:Int))=true:=decide_eq_true hc;rw [this]
    ·left
     refine⟨?_,?_⟩
     ·rw [if_neg (by decide),if_neg (by decide)]
      dsimp only;rw [hl,if_neg hc]
     ·rw [if_neg (by decide),if_neg (by decide)]
      exact decide_eq_false hc
  ·rw [h1,h2]
   dsimp only;cases hq:cG (aC 32 (bt b)) with
   | none=>left;exact⟨rfl,rfl⟩
   | some r =>
    have hl:=(mP _ _ hq).1;by_cases hc:((aC 32 (bt b)).length:Int)=3
    ·right
     refine⟨(bt a,⟨⟨[]⟩⟩,r),?_,?_⟩
     ·rw [if_neg (by decide),if_neg (by decide)]
      dsimp only;rw [hl,if_pos hc]
     ·rw [if_neg (by decide),if_neg (by decide)]
      have:decide (((aC 32 (bt b)).length:Int)=((⟨#[78,78,78]⟩:ByteArray).size:Int))=true:=decide_eq_true hc;rw [this]
    ·left
     refine⟨?_,?_⟩
     ·rw [if_neg (by decide),if_neg (by decide)]
      dsimp only;rw [hl,if_neg hc]
     ·rw [if_neg (by decide),if_neg (by decide)]
      exact decide_eq_false hc
 ·have hsp:aC 32 t=[t]:=by
   unfold aC;rw [ke hs];exact congrArg (fun x=>[x]) (ll t)
  rw [Oz hs,hsp];dsimp only;have ht:bt (ac t)=t:=ll t;rw [ht];rcases ab7 t with ⟨h1,h2⟩ | ⟨h1,h2⟩ | ⟨h1,h2⟩ | ⟨h1,h2⟩ | ⟨h1,h2⟩ | ⟨h1,h2⟩<;>rw [h1,h2]
  ·left;exact⟨rfl,rfl⟩
  ·left;exact⟨rfl,rfl⟩
  ·right;exact⟨_,rfl,rfl⟩
  ·left;exact⟨rfl,rfl⟩
  ·left;exact⟨rfl,rfl⟩
  ·left;exact⟨rfl,rfl⟩
theorem SZ {s:ByteArray} (h:∀b∈ac s,b≠110):s≠noT:=by
 rintro rfl;exact h 110 (by simp [ac]) rfl
theorem LV {n:Int} (h:0≤n):∀b∈ac (aI n),b≠110:=by
 intro b hb e;have:=(iI h).2 b hb;subst e;revert this;decide
theorem VB {c:UInt8} (hc:c≠110) {ns:List Int} (h:∀n∈ns,0≤n):∀b∈ac (cf c ns),b≠110:=by
 intro b hb;rw [cC] at hb;rcases Br hb with rfl | ⟨w,hw,hb⟩
 ·exact hc
 ·obtain⟨n,hn,rfl⟩:=aiV.1 hw
  exact LV (h n hn) b hb
theorem acA:∀(l:List Slp),(∀x∈l,0≤x.1∧0≤x.2)→∀b∈ac (stT l),b≠110
 | [],_,b,hb=>by cases hb
 | x::l,h,b,hb=>by
  have hx:=h x (by simp);simp only [stT,slT,be,aiJ] at hb;rcases hb with (((hb | hb) | hb) | hb) | hb
  ·exact LV hx.2 b hb
  ·simp [ac] at hb
   subst hb;decide
  ·exact LV hx.1 b hb
  ·simp [ac] at hb
   subst hb;decide
  ·exact acA l (fun y hy=>h y (by simp [hy])) b hb
def iq (c:Cn) (p:ByteArray × Cn):ByteArray × Cn:=(p.1,if p.1=noT then c else p.2)
theorem adh:okT≠noT:=by decide
theorem agL (c:Cn) (rest:ByteArray) (r:List Int):iq c (bv c kV rest r)=bq c kV rest r:=by
 have h1:bv c kV rest r=(if (pM rest).isSome=true then okT else noT,{c with m:=meO (pM rest)}):=rfl;have h2:bq c kV rest r=if (pM rest).isSome=false then(noT,c) else(okT,{c with m:=meO (pM rest)}):=rfl
 rw [h1,h2];unfold iq;cases (pM rest).isSome
 ·simp
 ·simp [adh]
theorem afv (c:Cn) (rest:ByteArray) (r:List Int):iq c (bv c fD rest r)=bq c fD rest r:=by
 have h1:bv c fD rest r=(if (pSt rest).isSome=true then okT else noT,{c with s:=stO (pSt rest)}):=rfl;have h2:bq c fD rest r=if (pSt rest).isSome=true then(okT,{c with s:=stO (pSt rest)}) else(noT,c):=rfl
 rw [h1,h2];unfold iq;cases (pSt rest).isSome
 ·simp
 ·simp [adh]
theorem abW {m:Me} (h:ct m=true):mtT m≠noT:=SZ (VB (by decide) fun n hn=>(Nz h n hn).1)
theorem agv (c:Cn) (rest:ByteArray) (r:List Int):iq c (bv c km rest r)=bq c km rest r:=by
 have h1:bv c km rest r=ON c rest:=rfl;have h2:bq c km rest r=if (pM rest).isSome=false then(noT,c) else(if joB [c.m,meO (pM rest)]=true then(mtT (joR [c.m,meO (pM rest)]),{c with m:=joR [c.m,meO (pM rest)]}) else(noT,c)):=rfl
 rw [h1,h2];unfold iq ON;cases (pM rest).isSome
 ·simp
 ·cases hj:joB [c.m,meO (pM rest)]
  ·simp
  ·simp [abW (yZ hj)]
theorem agF (c:Cn) (rest:ByteArray) (a:Int) (hk:CnOk c):iq c (bv c ef rest [a])=bq c ef rest [a]:=by
 have h1:bv c ef rest [a]=iw c ef [a]:=rfl;have h2:bq c ef rest [a]=iw c ef [a]:=rfl;have h3:iw c ef [a]=if tkB c.m a=true then(mtT (tkR c.m a),{c with m:=tkR c.m a}) else(noT,c):=rfl
 rw [h1,h2,h3];unfold iq;cases tkB c.m a
 ·simp
 ·simp [abW (Bh (g:=a) hk.m)]
theorem ahc (c:Cn) (rest:ByteArray) (a:Int) (hk:CnOk c):iq c (bv c dO rest [a])=bq c dO rest [a]:=by
 have h1:bv c dO rest [a]=iw c dO [a]:=rfl;have h2:bq c dO rest [a]=iw c dO [a]:=rfl;have h3:iw c dO [a]=if rlB c.s a=true then(cf 32 (rlV c.s a),{c with s:=rsS c.s (rlV c.s a)}) else(noT,c):=rfl
 have hn:cf 32 (rlV c.s a)≠noT:=SZ (VB (by decide) fun n hn=>((BQ (n:=a) hk.s).2 n hn).1);rw [h1,h2,h3];unfold iq;cases rlB c.s a
 ·simp
 ·simp [hn]
theorem ahB (c:Cn) (rest:ByteArray) (a b:Int):iq c (bv c gO rest [a,b])=bq c gO rest [a,b]:=by
 have h1:bv c gO rest [a,b]=iw c gO [a,b]:=rfl;have h2:bq c gO rest [a,b]=iw c gO [a,b]:=rfl;have h3:iw c gO [a,b]=if cuB c.s a b=true then(stT (cuR c.s a b),{c with s:=cuR c.s a b}) else(noT,c):=rfl
 have hn:stT (cuR c.s a b)≠noT:=SZ (acA _ fun x hx=>by have:=dW (Pm (l:=c.s) (i:=a) (n:=b)) x hx;omega);rw [h1,h2,h3];unfold iq;cases cuB c.s a b
 ·simp
 ·simp [hn]
theorem Tr (n:Nat):aI (n:Int)≠noT:=SZ (LV (by omega))
theorem ah2 (c:Cn) (rest:ByteArray) (a:Int):iq c (bv c ky rest [a])=bq c ky rest [a]:=by
 have h1:bv c ky rest [a]=YX c a:=rfl;have h2:bq c ky rest [a]=if eW (c.t++[a])=true then(aI ((c.t.length+1:Nat):Int),{c with t:=c.t++[a]}) else(noT,c):=rfl
 have hn:=Tr (c.t.length+1);rw [h1,h2];unfold iq YX;cases eW (c.t++[a])
 ·simp
 ·simp only [if_true]
  rw [if_neg hn]
theorem ag9 (c:Cn) (rest:ByteArray) (a b d:Int):iq c (bv c eQ rest [a,b,d])=bq c eQ rest [a,b,d]:=by
 have h1:bv c eQ rest [a,b,d]=Oc c (a,b,d):=rfl;have h2:bq c eQ rest [a,b,d]=if (anS c.j (a,b,d)).2=true then(aI ((jrS (anS c.j (a,b,d)).1).1.length:Int),{c with j:=(anS c.j (a,b,d)).1}) else(noT,c):=rfl
 have hn:=Tr (jrS (anS c.j (a,b,d)).1).1.length;rw [h1,h2];unfold iq Oc;cases (anS c.j (a,b,d)).2
 ·simp
 ·simp only [if_true]
  rw [if_neg hn]
theorem agj (c:Cn) (rest:ByteArray) (a:Int):iq c (bv c ep rest [a])=bq c ep rest [a]:=by
 have h1:bv c ep rest [a]=Fe c a:=rfl;have h2:bq c ep rest [a]=if qR (c.f++[(a,true)])=true then(aI ((c.f.length+1:Nat):Int),{c with f:=c.f++[(a,true)]}) else(noT,c):=rfl
 have hn:=Tr (c.f.length+1);rw [h1,h2];unfold iq Fe;cases qR (c.f++[(a,true)])
 ·simp
 ·simp only [if_true]
  rw [if_neg hn]
theorem ad6 {c:Cn} {t w rest:ByteArray} {r:List Int} (hk:CnOk c) (ht:t.size≤100000) (h:rdL t=some (w,rest,r)) :
  aM [st7 c,lnD (w,rest,r)]=some (.ret [T (bv c w rest r).1] [st7 (bv c w rest r).2])∧iq c (bv c w rest r)=bq c w rest r:=by
 unfold rdL at h;split at h
 ·cases h
 rename_i v ws hs;by_cases h2:shN v = -2
 ·rw [if_pos h2] at h
  cases h
 rw [if_neg h2] at h;by_cases h1:shN v = -1
 ·rw [if_pos h1] at h
  split at h
  ·cases h
  cases h;have hz:(t.extract (w.size+1) t.size).size≤100000:=by simp;omega
  rcases Wt h1 with rfl | rfl | rfl
  ·exact⟨adz c _ _ hk hz,afv c _ _⟩
  ·exact⟨ael c _ _ hk hz,agL c _ _⟩
  ·exact⟨afD c _ _ hk hz,agv c _ _⟩
 rw [if_neg h1] at h;split at h
 case h_2=>cases h
 rename_i q hq;split at h
 case isFalse=>cases h
 rename_i hr;cases h;have hz:(⟨⟨[]⟩⟩:ByteArray).size≤100000:=aiG _;rcases RS h2 h1 with rfl | rfl | rfl | rfl | rfl | rfl | rfl | rfl | rfl | rfl | rfl | rfl | rfl
 ·have hl:r.length=1:=by
   have h0:shN ef=1:=by decide
   rw [h0] at hr;omega
  refine⟨afy c _ r hk hz hl,?_⟩
  obtain⟨a,rfl⟩:=aiw.1 hl;exact agF c _ a hk
 ·have hl:r.length=0:=by
   have h0:shN bU=0:=by decide
   rw [h0] at hr;omega
  obtain⟨e1,e2⟩:=aaJ c ⟨⟨[]⟩⟩ r hk hl;refine⟨e1,?_⟩
  have hx:bv c bU ⟨⟨[]⟩⟩ r=((bq c bU ⟨⟨[]⟩⟩ r).1,c):=rfl;rw [hx];unfold iq;rw [ite_self];exact aiN rfl e2.symm
 ·have hl:r.length=1:=by
   have h0:shN dO=1:=by decide
   rw [h0] at hr;omega
  refine⟨aep c _ r hk hz hl,?_⟩
  obtain⟨a,rfl⟩:=aiw.1 hl;exact ahc c _ a hk
 ·have hl:r.length=2:=by
   have h0:shN gO=2:=by decide
   rw [h0] at hr;omega
  refine⟨agz c _ r hk hz hl,?_⟩
  obtain⟨a,b,rfl⟩:=GC hl;exact ahB c _ a b
 ·have hl:r.length=1:=by
   have h0:shN bA=1:=by decide
   rw [h0] at hr;omega
  obtain⟨e1,e2⟩:=Xr c ⟨⟨[]⟩⟩ r hk hl;refine⟨e1,?_⟩
  have hx:bv c bA ⟨⟨[]⟩⟩ r=((bq c bA ⟨⟨[]⟩⟩ r).1,c):=rfl;rw [hx];unfold iq;rw [ite_self];exact aiN rfl e2.symm
 ·have hl:r.length=1:=by
   have h0:shN ky=1:=by decide
   rw [h0] at hr;omega
  refine⟨agH c _ r hk hz hl,?_⟩
  obtain⟨a,rfl⟩:=aiw.1 hl;exact ah2 c _ a
 ·have hl:r.length=0:=by
   have h0:shN bV=0:=by decide
   rw [h0] at hr;omega
  obtain⟨e1,e2⟩:=abj c ⟨⟨[]⟩⟩ r hk hl;refine⟨e1,?_⟩
  have hx:bv c bV ⟨⟨[]⟩⟩ r=((bq c bV ⟨⟨[]⟩⟩ r).1,c):=rfl;rw [hx];unfold iq;rw [ite_self];exact aiN rfl e2.symm
 ·have hl:r.length=0:=by
   have h0:shN cH=0:=by decide
   rw [h0] at hr;omega
  obtain⟨e1,e2⟩:=abK c ⟨⟨[]⟩⟩ r hk hl;refine⟨e1,?_⟩
  have hx:bv c cH ⟨⟨[]⟩⟩ r=((bq c cH ⟨⟨[]⟩⟩ r).1,c):=rfl;rw [hx];unfold iq;rw [ite_self];exact aiN rfl e2.symm
 ·have hl:r.length=3:=by
   have h0:shN eQ=3:=by decide
   rw [h0] at hr;omega
  refine⟨afx c _ r hk hz hl,?_⟩
  obtain⟨a,b,d,rfl⟩:=JM hl;exact ag9 c _ a b d
 ·have hl:r.length=2:=by
   have h0:shN cF=2:=by decide
   rw [h0] at hr;omega
  obtain⟨e1,e2⟩:=ada c ⟨⟨[]⟩⟩ r hk hl;refine⟨e1,?_⟩
  have hx:bv c cF ⟨⟨[]⟩⟩ r=((bq c cF ⟨⟨[]⟩⟩ r).1,c):=rfl;rw [hx];unfold iq;rw [ite_self];exact aiN rfl e2.symm
 ·have hl:r.length=1:=by
   have h0:shN cA=1:=by decide
   rw [h0] at hr;omega
  obtain⟨e1,e2⟩:=abV c ⟨⟨[]⟩⟩ r hk hl;refine⟨e1,?_⟩
  have hx:bv c cA ⟨⟨[]⟩⟩ r=((bq c cA ⟨⟨[]⟩⟩ r).1,c):=rfl;rw [hx];unfold iq;rw [ite_self];exact aiN rfl e2.symm
 ·have hl:r.length=1:=by
   have h0:shN ep=1:=by decide
   rw [h0] at hr;omega
  refine⟨afo c _ r hk hz hl,?_⟩
  obtain⟨a,rfl⟩:=aiw.1 hl;exact agj c _ a
 ·have hl:r.length=0:=by
   have h0:shN bM=0:=by decide
   rw [h0] at hr;omega
  obtain⟨e1,e2⟩:=aaM c ⟨⟨[]⟩⟩ r hk hl;refine⟨e1,?_⟩
  have hx:bv c bM ⟨⟨[]⟩⟩ r=((bq c bM ⟨⟨[]⟩⟩ r).1,c):=rfl;rw [hx];unfold iq;rw [ite_self];exact aiN rfl e2.symm
theorem Xy (a b c:D) (x:Ln):stD 3 (D.agg [a,b,c]) (D.ref 0 0) (lnD x)=some (lnD x):=rfl
theorem ZK (a b c d e f g:D) (x:Cn):stD 7 (D.agg [a,b,c,d,e,f,g]) (D.ref 0 0) (st7 x)=some (st7 x):=rfl
theorem Up (c:Cn) (t:ByteArray) (hk:CnOk c) (ht:t.size≤100000):gc [st7 c,T t]=some (.ret [T (dK c t).1] [st7 (dK c t).2]):=by
 rw [EL];have e1:=afF t (by omega);have hL:∀(x:Ln) (b:D),ax (.tup [lnD x,b]) 0=some (lnD x):=fun _ _=>rfl
 rcases ahx t with ⟨h1,h2⟩ | ⟨⟨w,rest,r⟩,h1,h2⟩
 ·rw [h2] at e1
  have hl:dK c t=(dH,c):=by unfold dK;rw [h1]
  rw [hl];simp -implicitDefEqProofs only [aq,ain,aio,aip,e1,hL,t1V,Xy,cd]
 ·rw [h2] at e1
  dsimp only at e1;obtain⟨e2,e3⟩:=ad6 hk ht h1;have hl:dK c t=bq c w rest r:=by unfold dK;rw [h1]
  rw [hl,←e3];unfold iq;have hq:bin BinOp.neq false [] (T (bv c w rest r).1) (D.v (aix {data:={toList:=[110,111]}}))=some (B (!decide ((bv c w rest r).1=noT))):=ir;by_cases hn:(bv c w rest r).1=noT
  ·rw [decide_eq_true hn] at hq
   rw [if_pos hn];simp -implicitDefEqProofs only [aq,ain,aio,aip,e1,hL,t1V,Xy,jy,cd,bG,aT,acn,ZK,e2,hq]
  ·rw [decide_eq_false hn] at hq
   rw [if_neg hn];simp -implicitDefEqProofs only [aq,ain,aio,aip,e1,hL,t1V,Xy,jy,cd,bG,aT,acn,ZK,Ut,XO,e2,hq]
theorem Xt (c:UInt8) (l:List UInt8):aX c (l++[c])=aX c l++[[]]:=by
 obtain⟨o,p,h⟩:∃o p,aX c l=o++[p]:=⟨_,_,(List.dropLast_concat_getLast (ed c l)).symm⟩
 have:=mM c c l o p h;rw [if_pos rfl] at this;rw [this,h]
theorem Et (l:List UInt8) (c:UInt8):Lib.hasSuffix l [c]=decide (l.getLast?=some c):=by
 unfold Lib.hasSuffix;rw [Bool.eq_iff_iff,List.isSuffixOf_iff_suffix,decide_eq_true_eq];constructor
 ·rintro⟨a,rfl⟩
  simp
 ·intro h
  obtain⟨a,rfl⟩:=List.getLast?_eq_some_iff.1 h;exact⟨a,rfl⟩
theorem acF:(D.v (aix {data:={toList:=[]}}))=T ⟨⟨[]⟩⟩:=rfl
theorem Bk {s:ByteArray} (h:(ac s).getLast?=some 10):aC 10 ⟨(aiy (ac s) [10]).toArray⟩=aS s:=by
 obtain⟨a,ha⟩:=List.getLast?_eq_some_iff.1 h;have:aiy (ac s) [10]=a:=by
  unfold aiy;rw [if_pos (by rw [Et,h];simp),ha];simp
 unfold aS aC;rw [this,cW,ha,Xt,List.map_append,List.map_cons,List.map_nil,aiz];simp
theorem OY (s:ByteArray) (h:s.size≤1048576):∃L,mZ [T s]=some (.ret [txs L,B (okC s)] [])∧(okC s=true→L=aS s):=by
 rw [ND,acF];by_cases h2:s=⟨⟨[]⟩⟩
 ·subst h2
  refine⟨[],?_,fun _=>rfl⟩
  have hi:okC ⟨⟨[]⟩⟩=true:=by decide
  have hz:(⟨⟨[]⟩⟩:ByteArray).size=0:=rfl;rw [hi];simp -implicitDefEqProofs [bf,dZ,hz]
 ·have hne:ac s≠[]:=fun e=>h2 (bN e)
  have ht:kn [T s,D.v (aix {data:={toList:=[10]}})]=some (.ret [T ⟨(aiy (ac s) [10]).toArray⟩] []):=by
   have hz:s.size≤9223372036854775807:=by omega
   show kn [T s,T ⟨#[10]⟩]=_
   simp only [kn,hz,if_true];rfl
  have hsuf:kq [T s,D.v (aix {data:={toList:=[10]}})]=some (.ret [B (decide ((ac s).getLast?=some 10))] []):=by
   have hz:s.size≤9223372036854775807:=by omega
   show kq [T s,T ⟨#[10]⟩]=_
   simp only [kq,hz,if_true];rw [←Et];rfl
  have htl:(aiy (ac s) [10]).length≤(ac s).length:=by
   unfold aiy;split
   ·rw [aiL];omega
   ·exact aiD _
  have hsz:s.size=(ac s).length:=rfl;have hsp:AL [T ⟨(aiy (ac s) [10]).toArray⟩,D.v (aix {data:={toList:=[10]}})]=some (.ret [.arr 1 ((aC 10 ⟨(aiy (ac s) [10]).toArray⟩).map T)] []) :=
   Zq (c:=10) (by simp only [ByteArray.size,List.size_toArray];omega)
  refine⟨aC 10 ⟨(aiy (ac s) [10]).toArray⟩,?_,fun hk=>Bk ?_⟩
  ·have hi:okC s=(decide ((s.size:Int)≤2000)&&decide (((aC 10 ⟨(aiy (ac s) [10]).toArray⟩).length:Int)≤40)&&decide ((ac s).getLast?=some 10)):=by
    have e1:((s.size:Int)≤2000)↔s.size≤2000:=by omega
    have e2:(((aC 10 ⟨(aiy (ac s) [10]).toArray⟩).length:Int)≤40)↔(aC 10 ⟨(aiy (ac s) [10]).toArray⟩).length≤40:=by omega
    by_cases hl:(ac s).getLast?=some 10
    ·rw [Bk hl] at e2
     simp only [okC,mK,h2,decide_false,Bool.false_or,hl,decide_true,Bool.and_true,e1,e2,Bk hl]
    ·simp [okC,mK,h2,hl]
   rw [hi];simp only [bf,air,ir,h2,decide_false,aiO,aH,if_true,ht,am,ak,hsp,dZ,gg,en,aK,aiE];by_cases g1:(s.size:Int)≤2000
   case neg=>simp -implicitDefEqProofs [g1]
   by_cases g2:(((aC 10 ⟨(aiy (ac s) [10]).toArray⟩).length:Int)≤40)
   case neg=>simp -implicitDefEqProofs [g1,g2]
   simp -implicitDefEqProofs [g1,g2,hsuf,h2]
  ·unfold okC mK at hk
   simp only [h2,decide_false,Bool.false_or,aiI,decide_eq_true_eq] at hk;exact hk.1.2
def eu (L:List ByteArray):Nat→List ByteArray
 | 0=>[]
 | i+1=>eu L i++[(dK (dq L i).c (L.getD i ⟨⟨[]⟩⟩)).1]
theorem gF (L:List ByteArray):∀i,(eu L i).length=i
 | 0=>rfl
 | i+1=>by rw [eu,aiz,gF L i];rfl
def cnZ:Cn:={m:=(0,0,0),s:=[],t:=[],j:=⟨⟨[]⟩⟩,f:=[]}
def ahe (s:ByteArray):Cn:=if okC s=true then(dq (aS s) (aS s).length).c else cnZ
def iO (s:ByteArray):List ByteArray:=if okC s=true then eu (aS s) (aS s).length else []
theorem ad5:D.agg [D.v (ais aiq 0),D.v (ais aiq 0),D.v (ais aiq 0),D.arr 2 [],D.arr 1 [],D.v (aix {data:={toList:=[]}}),D.arr 2 []]=st7 cnZ:=rfl
theorem ahw:dp [] [D.v (ais aiq 0),D.v (ais aiq 0),D.v (ais aiq 0),D.arr 2 [],D.arr 1 [],D.v (aix {data:={toList:=[]}}),D.arr 2 []] []=some (st7 cnZ):=rfl
theorem ahN:dp [(4,1)] [D.v (ais aiq 0),D.v (ais aiq 0),D.v (ais aiq 0),D.arr 2 [],D.arr 1 [],D.v (aix {data:={toList:=[]}}),D.arr 2 []] [ai [0]]=some (st7 cn0):=rfl
theorem aib:aB 1 [D.v (ais aiq 0)]=some (ai [0]):=rfl
theorem ahX {l:List ByteArray} {b:D}:ax (.tup [txs l,b]) 0=some (txs l):=rfl
theorem WI {s:ByteArray} (h:s.size≤2000):∀t∈aS s,t.size≤2000:=by
 intro t ht;have ht:=List.mem_of_mem_take ht;unfold aC at ht;obtain⟨l,hl,rfl⟩:=aiV.1 ht;have h1:=Ok 10 _ l hl;have h2:s.size=(ac s).length:=rfl;have h3:(⟨l.toArray⟩:ByteArray).size=l.length:=rfl;omega
theorem agB {l:List ByteArray} {t:ByteArray} (h:l.length≤1000):bC 1 16 (txs l) (.arr 1 [T t])=some (txs (l++[t])):=by
 rw [hD,if_pos (by simp;omega)];simp
theorem aeq {c:Cn} {t:ByteArray} {u:D} {k:List D→List D→Option Out} (hk:CnOk c) (ht:t.size≤100000) (hu:u=st7 c):ae (gc [u,T t]) k=k [T (dK c t).1] [st7 (dK c t).2]:=by
 rw [hu,Up c t hk ht];rfl
theorem oG (s:ByteArray) (h:s.size≤1048576):fO [T s]=some (.ret [st7 (ahe s),txs (iO s),B (okC s)] []):=by
 rw [Iw];obtain⟨L,e1,hL⟩:=OY s h;rw [ad5];unfold ahe iO;cases hok:okC s
 ·rw [hok] at e1
  simp -implicitDefEqProofs only [e1,am,t1V,ahX,air,bn,aiO,aH,if_true,if_false,aiC,ahw,Ut,XO];rfl
 ·rw [hok] at e1
  obtain rfl:=hL hok;have hz:s.size≤2000:=by
   unfold okC mK at hok;simp only [aiI,decide_eq_true_eq] at hok;exact hok.1.1
  have h40:(aS s).length≤40:=by
   unfold okC at hok;simp only [aiI,decide_eq_true_eq] at hok;exact hok.2
  have hls:=WI hz;generalize aS s=L at *;simp -implicitDefEqProofs only [e1,am,t1V,ahX,air,bn,aiS,aH,if_true,if_false,aiC,aib,ahN,Ut,bf,aK,aiE];refine aG (.ext 0 [st7 cnZ,st7 (dq L L.length).c,txs (eu L L.length)]) ?_ (by
   simp -implicitDefEqProofs only [bF,dE,Nat.beq_refl,if_true,ak,aF,XO,Ut,air])
  refine aY L.length (fun i=>[st7 cnZ,st7 (dq L i).c,txs (eu L i),txs L,I L.length,I i]) _ (fun i hi=>?_) ?_ rfl rfl
  ·have hg:ao 1 (txs L) (I i)=some [T L[i]]:=by
    rw [oE,aiH,aiB hi];rfl
   have hgd:L.getD i ⟨⟨[]⟩⟩=L[i]:=by rw [List.getD_eq_getElem?_getD,aiB hi,Option.getD_some]
   have hli:=hls _ (aiX hi);have ha:=agB (l:=eu L i) (t:=(dK (dq L i).c L[i]).1) (by rw [gF];omega);have hi':(i:Int)<L.length:=by omega
   have hw:aiq.wrap ((i:Int)+1)=((i+1:Nat):Int):=by rw [ah (by omega) (by omega)];rfl
   have hs:dq L (i+1)=od (dq L i) i (L.getD i ⟨⟨[]⟩⟩):=rfl;have hs2:eu L (i+1)=eu L i++[(dK (dq L i).c (L.getD i ⟨⟨[]⟩⟩)).1]:=rfl;rw [hs,hs2,hgd];simp -implicitDefEqProofs only [ak,aF,bg,hi',decide_true,air,aH,if_true,hg,Option.map_some,bk,aP,bD,cd,aeq (wM L i).1 (Nat.le_trans hli (by decide)) rfl,vn,bw,hw];simp -implicitDefEqProofs only [show cT (.arr 1 [T (dK (dq L i).c L[i]).1])=some (.arr 1 [T (dK (dq L i).c L[i]).1]) from rfl,ha,air,od]
  ·have hi':¬((L.length:Nat):Int)<L.length:=by omega
   simp -implicitDefEqProofs only [ak,aF,bg,hi',decide_false,air,aH,if_false,aiC]
theorem OR (a:Int):aB 1 [I a]=some (ai [a]):=by simp [aB,kv]
def ny:List Int→Int→List Int
 | [],n=>[n]
 | x::l,n=>if x<n then x::ny l n else if x=n then x::l else n::x::l
def qp (n:Int):List Int→Nat
 | []=>0
 | x::l=>if x<n then qp n l+1 else 0
theorem ZQ (n:Int):∀l,qp n l≤l.length
 | []=>aiD _
 | x::l=>by
  unfold qp;split
  ·exact Nat.succ_le_succ (ZQ n l)
  ·exact aiG _
theorem ZC (n:Int):∀(l:List Int) (i:Nat) (h:i<l.length),i<qp n l→l[i]<n
 | [],i,h,_=>by cases h
 | x::l,i,h,hi=>by
  unfold qp at hi;split at hi
  ·rename_i hx
   cases i with
   | zero=>exact hx
   | succ i=>exact ZC n l i (by simpa using h) (by omega)
  ·omega
theorem aae (n:Int):∀(l:List Int) (h:qp n l<l.length),¬l[qp n l]<n
 | [],h=>by cases h
 | x::l,h=>by
  by_cases hx:x<n
  ·have e:qp n (x::l)=qp n l+1:=by simp [qp,hx]
   simp only [e,List.getElem_cons_succ];exact aae n l (by rw [e] at h;simpa using h)
  ·have e:qp n (x::l)=0:=by simp [qp,hx]
   simp only [e,List.getElem_cons_zero];exact hx
theorem VS (n:Int):∀(l:List Int),ny l n=if l[qp n l]?=some n then l else l.take (qp n l)++n::l.drop (qp n l)
 | []=>by simp [ny,qp]
 | x::l=>by
  by_cases hx:x<n
  ·have e:qp n (x::l)=qp n l+1:=by simp [qp,hx]
   rw [e];simp only [ny,hx,if_true,List.getElem?_cons_succ,List.take_succ_cons,List.drop_succ_cons];rw [VS n l];split<;>rfl
  ·have e:qp n (x::l)=0:=by simp [qp,hx]
   rw [e];by_cases h2:x=n
   ·simp [ny,h2]
   ·simp [ny,hx,h2]
theorem Un (l:List Int) (n:Int) (h:l.length≤1000):rz [ai l,I n]=some (.ret [ai (ny l n)] []):=by
 rw [SH];have hle:=ZQ n l;refine aG (.ext 0 [ai l,I n,I (qp n l:Nat)]) (aY (qp n l) (fun i=>[ai l,I n,I i]) _ (fun i hi=>?_) ?_ rfl rfl) ?_
 ·have hil:i<l.length:=by omega
  have hlt:=ZC n l i hil hi;have hw:aiq.wrap ((i:Int)+1)=(i:Int)+1:=ah (by omega) (by omega);simp -implicitDefEqProofs [hil,hlt,hw]
 ·by_cases hl:qp n l<l.length
  ·have:=aae n l hl
   simp -implicitDefEqProofs [hl,this]
  ·simp -implicitDefEqProofs [hl]
 ·rw [VS]
  generalize qp n l=p at hle;have s1:dl false 1 (ai l) (I ((0:Nat):Int)) (I (p:Int))=some (ai (l.take p)):=by
   have:=mn (z:=1) (l:=l.map I) (i:=0) (j:=p) (k:=.i64) (k':=.i64) (aiG _) (by simp;omega);rw [this];simp [List.map_take]
  have s2:cQ false 1 (ai l) (I (p:Int))=some (ai (l.drop p)):=by
   have:=mQ (z:=1) (l:=l.map I) (i:=p) (k:=.i64) (by simp;omega);rw [this];simp [List.map_drop]
  have a1:bC 1 8 (ai []) (ai (l.take p))=some (ai (l.take p)):=eJ (l:=[]) (by simp;omega);have a2:bC 1 8 (ai (l.take p)) (ai [n])=some (ai (l.take p++[n])):=eJ (by simp;omega);have a3:bC 1 8 (ai (l.take p++[n])) (ai (l.drop p))=some (ai (l.take p++[n]++l.drop p)):=eJ (by simp;omega);have c1:∀l,cT (ai l)=some (ai l):=fun l=>sr fun _=>rfl
  have m1:aB 1 []=some (ai []):=rfl;have hb:(Nat.beq 0 0)=true:=rfl;have rest:∀q:Bool,q=false→(ifD (B q) (some (Out.ret [ai l] [])) ((aB 1 []).bind fun a=>(dl false 1 (ai l) (D.v (ais aiq 0)) (I (p:Int))).bind fun z=>(cT z).bind fun b=>(bC 1 8 a b).bind fun y=>(aB 1 [I n]).bind fun a=>(cT a).bind fun b=>(bC 1 8 y b).bind fun y =>
    (cQ false 1 (ai l) (I (p:Int))).bind fun z=>(bC 1 8 y z).bind fun y=>some (Out.ret [y] [])))=some (.ret [ai (l.take p++n::l.drop p)] []):=by
   rintro q rfl;rw [aH,if_neg (by simp),show(D.v (ais aiq 0))=I ((0:Nat):Int) from rfl,s1];simp -implicitDefEqProofs only [m1,OR,air,c1,a1,a2,s2,a3];simp
  by_cases hp:p<l.length
  ·by_cases hq:l[p]=n
   ·simp -implicitDefEqProofs [hp,hq]
   ·rw [if_neg (by simp [hp,hq])]
    refine Eq.trans ?_ (rest false rfl)
    simp -implicitDefEqProofs [hp,hq,-hD]
  ·rw [if_neg (by simp [hp])]
   refine Eq.trans ?_ (rest false rfl)
   simp -implicitDefEqProofs [hp,-hD]
theorem Ww {n y:Int}:∀{l:List Int},y∈ny l n→y=n∨y∈l
 | [],h=>by simp [ny] at h;exact .inl h
 | x::l,h=>by
  unfold ny at h;split at h
  ·rcases aiu.1 h with rfl | h
   ·simp
   ·rcases Ww h with h | h
    ·exact .inl h
    ·simp [h]
  ·split at h
   ·exact .inr h
   ·simpa using h
theorem MA {n:Int}:∀{l:List Int},l.Pairwise (·≤·)→(ny l n).Pairwise (·≤·)
 | [],_=>by simp [ny]
 | x::l,h=>by
  have h':=aiP.1 h;unfold ny;split
  ·rename_i hx
   refine aiP.2 ⟨fun y hy=>?_,MA h'.2⟩
   rcases Ww hy with rfl | hy
   ·omega
   ·exact h'.1 y hy
  ·split
   ·exact h
   ·refine aiP.2 ⟨fun y hy=>?_,h⟩
    rcases aiu.1 hy with rfl | hy
    ·omega
    ·have:=h'.1 y hy
     omega
theorem Xk {n:Int}:∀{l:List Int},n∉l→(ny l n).Perm (l++[n])
 | [],_=>by simp [ny]
 | x::l,h=>by
  simp only [aiu,not_or] at h;unfold ny;split
  ·exact(Xk h.2).cons x
  ·rw [if_neg (fun e=>h.1 e.symm)]
   exact(List.perm_append_comm (l₁:=[n]) (l₂:=x::l))
theorem acy:∀(r:List Int) (a:List Int) (o:List Int),o.Pairwise (·≤·)→o.Perm a→(a++r).Nodup→(r.foldl ny o).Pairwise (·≤·)∧(r.foldl ny o).Perm (a++r)
 | [],a,o,h1,h2,_=>⟨h1,by simpa using h2⟩
 | n::r,a,o,h1,h2,h3=>by
  have hn:n∉o:=fun hm=>by
   have:=(List.nodup_append.1 h3).2.2 n (h2.mem_iff.1 hm) n (by simp);exact this rfl
  have:=acy r (a++[n]) (ny o n) (MA h1) ((Xk hn).trans (h2.append_right [n])) (by simpa using h3);simpa using this
def dr (L:List ByteArray):Nat→List Int
 | 0=>[]
 | i+1=>dr L i++(if (dK (dq L i).c (L.getD i ⟨⟨[]⟩⟩)).1=noT∨(dK (dq L i).c (L.getD i ⟨⟨[]⟩⟩)).1=dH then [((i+1:Nat):Int)] else [])
theorem Tv:noT≠dH:=by decide
theorem sG (L:List ByteArray):∀i,(∀x∈dr L i,x≤(i:Int))∧(dr L i).Pairwise (·<·)∧(dr L i).Perm ((dq L i).no++(dq L i).wh)∧(dr L i).length≤i
 | 0=>⟨fun x hx=>by simp [dr] at hx,aiQ,ai0 _,aiD _⟩
 | i+1=>by
  obtain⟨h1,h2,h3,h4⟩:=sG L i;have hr:dq L (i+1)=od (dq L i) i (L.getD i ⟨⟨[]⟩⟩):=rfl;rw [hr];unfold dr od;generalize (dK (dq L i).c (L.getD i ⟨⟨[]⟩⟩)).1=a;dsimp only;by_cases ha:a=noT
  ·have hb:¬a=dH:=fun e=>Tv (ha.symm.trans e)
   rw [if_pos (.inl ha),if_pos ha,if_neg hb];refine⟨fun x hx=>?_,?_,?_,by rw [aiz];simp;omega⟩
   ·rcases aiJ.1 hx with g | g
    ·have:=h1 x g;omega
    ·rw [aiF] at g;omega
   ·refine List.pairwise_append.2 ⟨h2,List.pairwise_singleton _ _,fun x hx y hy=>?_⟩
    rw [aiF] at hy;have:=h1 x hx;omega
   ·refine(h3.append_right _).trans ?_
    rw [aiK,aiK];exact List.perm_append_comm.append_left _
  ·by_cases hb:a=dH
   ·rw [if_pos (.inr hb),if_neg ha,if_pos hb]
    refine⟨fun x hx=>?_,?_,?_,by rw [aiz];simp;omega⟩
    ·rcases aiJ.1 hx with g | g
     ·have:=h1 x g;omega
     ·rw [aiF] at g;omega
    ·refine List.pairwise_append.2 ⟨h2,List.pairwise_singleton _ _,fun x hx y hy=>?_⟩
     rw [aiF] at hy;have:=h1 x hx;omega
    ·refine(h3.append_right _).trans ?_
     rw [aiK]
   ·rw [if_neg (by simp [ha,hb]),if_neg ha,if_neg hb,aiY]
    exact⟨fun x hx=>by have:=h1 x hx;omega,h2,h3,by omega⟩
theorem adn (L:List ByteArray) (i:Nat):((dq L i).no++(dq L i).wh).foldl ny []=dr L i:=by
 obtain⟨-,h2,h3,-⟩:=sG L i;have hn:((dq L i).no++(dq L i).wh).Nodup:=h3.nodup_iff.1 (h2.imp fun h=>by omega);obtain⟨g1,g2⟩:=acy ((dq L i).no++(dq L i).wh) [] [] aiQ (ai0 _) (by simpa using hn);exact List.Perm.eq_of_pairwise (le:=(·≤·)) (fun a b _ _ h1 h2=>by omega) g1 (h2.imp fun h=>by omega) ((by simpa using g2:(((dq L i).no++(dq L i).wh).foldl ny []).Perm ((dq L i).no++(dq L i).wh)).trans h3.symm)
theorem af2 (c:Cn):stD 7 (st7 cnZ) (.ref 0 0) (st7 c)=some (st7 c):=rfl
theorem t0S {c:Cn} {b:List D}:ax (.tup (st7 c::b)) 0=some (st7 c):=rfl
theorem afR (c:Cn) (a b:D):fe (.tup [st7 c,a,b]) 1 = .tup [st7 c,.bad,b]:=rfl
theorem Ym {a c:D} {x:Value}:ax (.tup [a,c,.v x]) 2=some (.v x):=rfl
theorem t1X {a:D} {l:List ByteArray} {b:List D}:ax (.tup (a::txs l::b)) 1=some (txs l):=rfl
theorem t0P {a:Rn} {n:Int} {b:List D}:ax (.tup (cnP a n::b)) 0=some (cnP a n):=rfl
theorem ZH {a:Rn} {n:Int}:Jb (cnP a n)=some (cnP a n):=rfl
section
variable (a:Rn) (n:Int)
end
theorem xQ (s:ByteArray) (h:s.size≤1048576):je [T s]=some (.ret [T (lw s).out] []):=by
 rw [Ls];have e1:=OV s h;simp -implicitDefEqProofs only [e1,am,t0P,t1V,Ym,air]
def kS (t:ByteArray) (l:List ByteArray):Nat:=(l.filter fun x=>decide (x=t)).length
theorem LQ (t x:ByteArray) (l:List ByteArray):kS t (l++[x])=kS t l+if x=t then 1 else 0:=by
 unfold kS;rw [aiW,aiz];by_cases h:x=t<;>simp [h]
theorem Ix (t:ByteArray) (l:List ByteArray):kS t l≤l.length:=List.length_filter_le _ _
theorem TT (L:List ByteArray):∀i,kS noT (eu L i)=(dq L i).no.length∧kS dH (eu L i)=(dq L i).wh.length
 | 0=>⟨rfl,rfl⟩
 | i+1=>by
  obtain⟨h1,h2⟩:=TT L i;have hr:dq L (i+1)=od (dq L i) i (L.getD i ⟨⟨[]⟩⟩):=rfl;rw [hr];unfold eu od;generalize (dK (dq L i).c (L.getD i ⟨⟨[]⟩⟩)).1=a;dsimp only;rw [LQ,LQ,h1,h2];constructor<;>split<;>simp
theorem OL:(D.v (aix {data:={toList:=[110,111]}}))=T noT:=rfl
theorem AF:(D.v (aix {data:={toList:=[119,104,97,116]}}))=T dH:=rfl
theorem Cy (s:ByteArray) (h:s.size≤1048576) (hl:(iO s).length≤1000000):hN [T s]=some (.ret [I (kS noT (iO s)),I (kS dH (iO s)),I (((iO s).length:Int) - kS noT (iO s) - kS dH (iO s)),B (okC s)] []):=by
 rw [Cb,ad5];simp -implicitDefEqProofs only [oG s h,am,t0S,t1X,afR,Ym,af2,air,aK,aiE];generalize iO s=A at *;have hcnt:∀t,kS t (A.take A.length)=kS t A:=fun t=>by rw [aiR]
 refine aG (.ext 0 [txs A,B (okC s),I (kS noT A),I (kS dH A)]) ?_ ?_
 ·refine aY A.length (fun i=>[txs A,B (okC s),I (kS noT (A.take i)),I (kS dH (A.take i)),txs A,I A.length,I i]) _ (fun i hi=>?_) ?_ rfl ?_
  ·have hg:ao 1 (txs A) (I i)=some [T A[i]]:=by
    rw [oE,aiH,aiB hi];rfl
   have hi':(i:Int)<A.length:=by omega
   have hw:aiq.wrap ((i:Int)+1)=((i+1:Nat):Int):=by rw [ah (by omega) (by omega)];rfl
   have hts:A.take (i+1)=A.take i++[A[i]]:=aiM hi;have hl1:=Ix noT (A.take i);have hl2:=Ix dH (A.take i);rw [aiL] at hl1 hl2;rw [hts,LQ,LQ];have w1:aiq.wrap ((kS noT (A.take i):Int)+1)=((kS noT (A.take i)+1:Nat):Int):=by rw [ah (by omega) (by omega)];rfl
   have w2:aiq.wrap ((kS dH (A.take i):Int)+1)=((kS dH (A.take i)+1:Nat):Int):=by rw [ah (by omega) (by omega)];rfl
   generalize A[i]=a at *;rw [OL,AF];by_cases ha:a=noT
   ·have hb:¬a=dH:=fun e=>Tv (ha.symm.trans e)
    simp -implicitDefEqProofs only [aq,ain,aio,aip,hi',hg,bD,af,decide_eq_true ha,hw,w1];rw [if_pos ha,if_neg hb];rfl
   ·by_cases hb:a=dH
    ·simp -implicitDefEqProofs only [aq,ain,aio,aip,hi',hg,bD,af,decide_eq_false ha,decide_eq_true hb,hw,w2]
     rw [if_neg ha,if_pos hb];rfl
    ·simp -implicitDefEqProofs only [aq,ain,aio,aip,hi',hg,bD,af,decide_eq_false ha,decide_eq_false hb,hw]
     rw [if_neg ha,if_neg hb];rfl
  ·have hi':¬((A.length:Nat):Int)<A.length:=by omega
   simp -implicitDefEqProofs only [aq,ain,aio,aip,hi',hcnt]
  ·rfl
 ·have hl1:=Ix noT A
  have hl2:=Ix dH A;have w1:aiq.wrap ((A.length:Int) - kS noT A)=(A.length:Int) - kS noT A:=ah (by omega) (by omega);have w2:aiq.wrap ((A.length:Int) - kS noT A - kS dH A)=(A.length:Int) - kS noT A - kS dH A:=ah (by omega) (by omega);simp -implicitDefEqProofs only [aq,ain,aio,aip,dE,w1,w2]
theorem Hx (s:ByteArray):(iO s).length≤40:=by
 unfold iO;split
 ·rename_i h
  rw [gF];unfold okC at h;simp only [aiI,decide_eq_true_eq] at h;exact h.2
 ·exact aiG _
theorem Cg (s:ByteArray) (h:s.size≤1048576):gU [T s]=some (.ret [I (kS noT (iO s)),I (kS dH (iO s)),I (((iO s).length:Int) - kS noT (iO s) - kS dH (iO s)),B (okC s)] []):=by
 rw [CC];have e1:=OV s h;have h40:=Hx s;cases hk:okC s
 ·rw [hk] at e1
  have hA:iO s=[]:=by unfold iO;rw [if_neg (by rw [hk];simp)]
  rw [hA];simp -implicitDefEqProofs only [e1,am,t0P,t1V,Ym,ZH,air,bn,aiO,aH,if_true];rfl
 ·rw [hk,if_pos rfl] at e1
  have hA:iO s=eu (aS s) (aS s).length:=by unfold iO;rw [if_pos hk]
  have hR:lw s=dq (aS s) (aS s).length:=by unfold lw;rw [if_pos hk]
  obtain⟨c1,c2⟩:=TT (aS s) (aS s).length;obtain⟨-,-,b1,b2⟩:=wM (aS s) (aS s).length;rw [hA,gF] at h40;rw [hA,c1,c2,gF];rw [hR] at e1;generalize dq (aS s) (aS s).length=R at *;generalize (aS s).length=n at *;have w1:aiq.wrap ((n:Int) - R.no.length)=(n:Int) - R.no.length:=ah (by omega) (by omega);have w2:aiq.wrap ((n:Int) - R.no.length - R.wh.length)=(n:Int) - R.no.length - R.wh.length:=ah (by omega) (by omega);have o7:∀n:Int,jY 7 (cnP R n)=some (.ptr [ai R.no,ai R.wh,I n]):=fun _=>rfl
  have o8:∀n:Int,jY 8 (cnP R n)=some (.ptr [ai R.wh,I n]):=fun _=>rfl
  have o9:∀n:Int,jY 9 (cnP R n)=some (.ptr [I n]):=fun _=>rfl
  simp -implicitDefEqProofs only [aq,ain,aio,aip,e1,t0P,t1V,Ym,ZH,o7,o8,o9,w1,w2]
theorem ET (s:ByteArray) (h:s.size≤1048576):iG [T s]=some (.ret [ai (if okC s=true then dr (aS s) (aS s).length else []),B (okC s)] []):=by
  rw [EO,ad5];have h40:=Hx s;simp -implicitDefEqProofs only [oG s h,am,t0S,t1X,afR,Ym,af2,air,aK,aiE,bf];have key:∀(A:List ByteArray) (b:Bool) (Fl:Nat→List Int),A.length≤40→Fl 0=[]→(∀i,(hi:i<A.length)→Fl (i+1)=Fl i++(if A[i]=noT∨A[i]=dH then [((i+1:Nat):Int)] else []))→(∀i,(Fl i).length≤i) →
      ((aZ (fun s=>(bin BinOp.lss false [] (sl s 4) (sl s 3)).bind fun z=>ifD z ((aiv D.ptr (ao 1 (sl s 2) (sl s 4))).bind fun z =>
 ((ldD false 1 z).bind aL).bind fun z=>(bin BinOp.eql false [] z (D.v (aix {data:={toList:=[110,111]}}))).bind fun z_2=>(aj (D.tup []) z_2 false (some z)).bind fun z=>(aj (D.tup []) z_2 false
 (bin BinOp.eql false [] z (D.v (aix {data:={toList:=[119,104,97,116]}})))).bind fun z=>(aV z_2 (D.v (Value.bool true)) z).bind fun z=>ifD z
 ((bin ai1 false [] (sl s 4) (D.v (ais aiq 1))).bind fun z=>(aB 1 [z]).bind fun a=>(cT a).bind fun b=>(bC 1 8 (sl s 1) b).bind fun y =>
 (bin ai1 false [] (sl s 4) (D.v (ais aiq 1))).bind fun z=>some (Out.nrm [sl s 0,y,sl s 2,sl s 3,z])) ((bin ai1 false [] (sl s 4) (D.v (ais aiq 1))).bind
 fun z=>some (Out.nrm [sl s 0,sl s 1,sl s 2,sl s 3,z]))) (some (Out.ext 0 [sl s 0,sl s 1]))) [B b,.arr 1 [],txs A,I A.length,D.v (ais aiq 0)]).bind fun o =>
 bS o (fun i s=>ifN (i.beq 0) (some (Out.ret [sl s 1,sl s 0] [])) none) fun a b=>some (Out.ret a b))=some (.ret [ai (Fl A.length),B b] []):=by
    intro A b Fl hA hF0 hF hFl;refine aG (.ext 0 [B b,ai (Fl A.length)]) (aY A.length (fun i=>[B b,ai (Fl i),txs A,I A.length,I i]) _ (fun i hi=>?_) ?_ rfl (by rw [hF0];rfl)) ?_
    · have hg:ao 1 (txs A) (I i)=some [T A[i]]:=by
        rw [oE,aiH,aiB hi];rfl
      have hi':(i:Int)<A.length:=by omega
      have hw:aiq.wrap ((i:Int)+1)=((i+1:Nat):Int):=by rw [ah (by omega) (by omega)];rfl
      have hlen:=hFl i;have ha:bC 1 8 (ai (Fl i)) (ai [((i+1:Nat):Int)])=some (ai (Fl i++[((i+1:Nat):Int)])):=eJ (by simp;omega);have hc:cT (ai [((i+1:Nat):Int)])=some (ai [((i+1:Nat):Int)]):=rfl;rw [hF i hi];generalize A[i]=a at *;rw [OL,AF];by_cases h1:a=noT
      · rw [if_pos (.inl h1)]
        simp -implicitDefEqProofs only [aq,ain,aio,aip,hi',hg,af,decide_eq_true h1,hw,OR,hc,ha]
      · by_cases h2:a=dH
        · rw [if_pos (.inr h2)]
          simp -implicitDefEqProofs only [aq,ain,aio,aip,hi',hg,af,decide_eq_false h1,decide_eq_true h2,hw,OR,hc,ha]
        · rw [if_neg (by simp [h1,h2]),aiY]
          simp -implicitDefEqProofs only [aq,ain,aio,aip,hi',hg,af,decide_eq_false h1,decide_eq_false h2,hw]
    · have hi':¬((A.length:Nat):Int)<A.length:=by omega
      simp -implicitDefEqProofs only [aq,ain,aio,aip,hi']
    · simp -implicitDefEqProofs only [aq,ain,aio,aip,dE]
  cases hk:okC s
  · have hA:iO s=[]:=by unfold iO;rw [if_neg (by rw [hk];simp)]
    rw [hA];exact key [] false (fun _=>[]) (aiG _) rfl (fun i hi=>by cases hi) (fun _=>aiG _)
  · have hA:iO s=eu (aS s) (aS s).length:=by unfold iO;rw [if_pos hk]
    rw [hA] at h40 ⊢;have hat:∀(L:List ByteArray) (n i:Nat) (hi:i<n),(eu L n)[i]'(by rw [gF];exact hi)=(dK (dq L i).c (L.getD i ⟨⟨[]⟩⟩)).1:=by
      intro L n;induction n with
      | zero=>intro i hi;omega
      | succ n ih =>
        intro i hi;simp only [eu];by_cases hn:i<n
        · rw [List.getElem_append_left (by rw [gF];exact hn)]
          exact ih i hn
        · have:i=n:=by omega
          subst this;rw [List.getElem_append_right (by rw [gF];exact aiD _)];simp [gF]
    have:=key (eu (aS s) (aS s).length) true (dr (aS s)) h40 rfl (fun i hi=>by
      rw [hat _ _ _ (by rw [gF] at hi;exact hi)];rfl) (fun i=>(sG _ i).2.2.2)
    rw [gF] at this;rw [gF,if_pos rfl];exact this
theorem Fu (s:ByteArray) (h:s.size≤1048576):iW [T s]=some (.ret [ai (if okC s=true then dr (aS s) (aS s).length else []),B (okC s)] []):=by
 rw [FE];have e1:=OV s h;cases hk:okC s
 ·rw [hk] at e1
  simp -implicitDefEqProofs only [e1,am,t0P,t1V,Ym,ZH,air,bn,aiO,aH,if_true,aiC,if_false];rfl
 ·rw [hk,if_pos rfl] at e1
  have h40:(aS s).length≤40:=by
   unfold okC at hk;simp only [aiI,decide_eq_true_eq] at hk;exact hk.2
  have hR:lw s=dq (aS s) (aS s).length:=by unfold lw;rw [if_pos hk]
  have hf:=adn (aS s) (aS s).length;obtain⟨-,-,b1,b2⟩:=wM (aS s) (aS s).length;rw [if_pos rfl,←hf];rw [hR] at e1;generalize dq (aS s) (aS s).length=R at *;generalize (aS s).length=n at *;have o7:∀n:Int,jY 7 (cnP R n)=some (.ptr [ai R.no,ai R.wh,I n]):=fun _=>rfl
  have o8:∀n:Int,jY 8 (cnP R n)=some (.ptr [ai R.wh,I n]):=fun _=>rfl
  have w1:=nx R.no (by omega);have ha:bC 1 8 (ai R.no) (ai R.wh)=some (ai (R.no++R.wh)):=eJ (by omega);have hA:(R.no++R.wh).length≤1000:=by rw [aiz];omega
  simp -implicitDefEqProofs only [e1,am,t0P,t1V,Ym,ZH,air,bn,aiS,aH,if_false,aiC,o7,o8,bk,aP,w1,ak,ha,aK,aiE];generalize R.no++R.wh=A at *;have hpl:∀(r o:List Int),(r.foldl ny o).length≤o.length+r.length:=by
   intro r;induction r with
   | nil=>intro o;simp
   | cons x r ih =>
    intro o;have h1:=ih (ny o x);have h2:∀l:List Int,(ny l x).length≤l.length+1:=by
     intro l;induction l with
     | nil=>simp [ny]
     | cons y l ih2 =>
      unfold ny;split
      ·simpa using ih2
      ·split<;>simp
    have:=h2 o;simp only [aiZ,ail];omega
  refine aG (.ext 0 [ai (A.foldl ny [])]) (aY A.length (fun i=>[ai ((A.take i).foldl ny []),ai A,I A.length,I i]) _ (fun i hi=>?_) ?_ rfl rfl) ?_
  ·have hg:ao 1 (ai A) (I i)=some [I A[i]]:=by
    rw [oE,aiH,aiB hi];rfl
   have hi':(i:Int)<A.length:=by omega
   have hw:aiq.wrap ((i:Int)+1)=((i+1:Nat):Int):=by rw [ah (by omega) (by omega)];rfl
   have hts:A.take (i+1)=A.take i++[A[i]]:=aiM hi;have hlen:=hpl (A.take i) [];rw [aiL,aim] at hlen;rw [hts,List.foldl_append,aiZ,List.foldl_nil];have hp:=Un ((A.take i).foldl ny []) A[i] (by omega);simp -implicitDefEqProofs only [aq,ain,aio,aip,hi',hg,hp,hw]
  ·have hi':¬((A.length:Nat):Int)<A.length:=by omega
   simp -implicitDefEqProofs only [aq,ain,aio,aip,hi',aiR]
  ·simp -implicitDefEqProofs only [aq,ain,aio,aip,dE]
end Go.Proofs.YtjafgdefcggjcaaGreatDoor

namespace Go.Proofs.YtjafgdefcggjcaaGreatDoor
open Go Go.V Go.RowKit Go.Shelf
def fm:List ByteArray→ByteArray
 | []=>⟨#[]⟩
 | t::l=>t++⟨#[10]⟩++fm l
theorem FZ:∀(l m:List ByteArray),fm (l++m)=fm l++fm m
 | [],m=>(ai2 (by simp [fm]):_)
 | t::l,m=>by simp only [List.cons_append,fm,FZ l m,ByteArray.append_assoc]
theorem Oo (L:List ByteArray):∀i,fm (eu L i)=(dq L i).out
 | 0=>rfl
 | i+1=>by
  have hr:(dq L (i+1)).out=(dq L i).out++((dK (dq L i).c (L.getD i ⟨⟨[]⟩⟩)).1++⟨⟨[10]⟩⟩):=rfl;rw [hr,eu,FZ,Oo L i];simp only [fm];congr 1
  exact ai2 (by simp)
theorem Vj (L:List ByteArray):∀i,∀t∈eu L i,t.size≤1000
 | 0,t,h=>by cases h
 | i+1,t,h=>by
  rcases aiJ.1 h with h | h
  ·exact Vj L i t h
  ·rw [aiF] at h
   subst h;exact BM (wM L i).1 _
theorem abg (s:ByteArray):∀t∈iO s,t.size≤1000:=by
 unfold iO;split
 ·exact Vj _ _
 ·intro t h
  cases h
theorem acx (s:ByteArray):fm (iO s)=(lw s).out:=by
 unfold iO lw;split
 ·exact Oo _ _
 ·rfl
theorem XE {w:World} {F:Nat→Prop} {z:Nat} {l:List D} {vs:List Value} (h:RepC w F (.arr z l) vs):∃A n c,vs=[.slice A n c]:=by
 simp only [RepC] at h;obtain⟨A,c,us,rfl,-⟩:=h;exact⟨A,_,c,rfl⟩
theorem ag3 {w:World} {F:Nat→Prop} {c:Cn} {y:Value} (h:bP w F (st7 c) y):∃A1 n1 c1 A2 n2 c2 A3 n3 c3,y = .agg #[.int .i64 c.m.1,.int .i64 c.m.2.1,.int .i64 c.m.2.2,.slice A1 n1 c1,.slice A2 n2 c2,.string c.j,.slice A3 n3 c3]:=by
 obtain⟨vs,rfl,hr⟩:=h;simp only [RepC] at hr;have h:=hr.1;obtain⟨v0,r0,rfl,g0,h⟩:=au.1 h;obtain⟨v1,r1,rfl,g1,h⟩:=au.1 h;obtain⟨v2,r2,rfl,g2,h⟩:=au.1 h;obtain⟨v3,r3,rfl,g3,h⟩:=au.1 h;obtain⟨v4,r4,rfl,g4,h⟩:=au.1 h;obtain⟨v5,r5,rfl,g5,h⟩:=au.1 h;obtain⟨v6,r6,rfl,g6,h⟩:=au.1 h;obtain rfl:=aW.1 h;obtain⟨A1,n1,c1,rfl⟩:=XE g3;obtain⟨A2,n2,c2,rfl⟩:=XE g4;obtain⟨A3,n3,c3,rfl⟩:=XE g6;simp only [RepC] at g0 g1 g2 g5;obtain⟨rfl,-⟩:=g0;obtain⟨rfl,-⟩:=g1;obtain⟨rfl,-⟩:=g2;obtain⟨rfl,-⟩:=g5;exact⟨A1,n1,c1,A2,n2,c2,A3,n3,c3,rfl⟩
theorem abR {w:World} {F:Nat→Prop} (hF:∀b,F b→b<w.heap.size) (hgl:gOk gl2 w F) (s:ByteArray) (hs:s.size≤1048576) :
  Calls Tryz.prog 42 #[.string s] w fun e w'=>Below w.heap.size w w'∧∃i0 i1 i2 A1 n1 c1 A2 n2 c2 sj A3 n3 c3 y,e = .returned (.tuple #[.agg #[.int .i64 i0,.int .i64 i1,.int .i64 i2,.slice A1 n1 c1,.slice A2 n2 c2,.string sj,.slice A3 n3 c3],y,.bool (okC s)])∧((iO s).length=0∧y = .slice none 0 0 ∨
   ∃g o c cs t,y = .slice (some ⟨g,o,none⟩) (iO s).length c∧w.heap.size≤g∧w'.heap[g]?=some (.cells cs t (0,0))∧∀(i:Nat) (x:ByteArray),(iO s)[i]?=some x→cs[o+i]?=some (.string x)):=by
 have he:=oG s hs;refine(oD (aiT Tryz.func42 (by kernel_rfl) rfl) oi (ds:=[T s]) (args:=#[.string s]) fO rfl he hgl
  (show eP w F _ (.dat 0) (T s) (.string s)∧True from⟨.inr (ce.2 ⟨rfl,rfl⟩),trivial⟩) hF).mono ?_
 rintro e w' ⟨hB,F',R,vs,rfl,hpost⟩;refine⟨hB,?_⟩
 have hl:=hpost.len
 match vs,hl with
 | [y0,y1,y2],hl =>
  have r0:=(hpost.res 0).resolve_left (by intro h;cases h);have r1:=(hpost.res 1).resolve_left (by intro h;cases h);have r2:=(hpost.res 2).resolve_left (by intro h;cases h);replace r0:bP w' _ (st7 (ahe s)) y0:=r0;replace r1:kX w' _ _ 1 (.arr 1 ((iO s).map T)) y1:=r1;replace r2:bP w' _ (B (okC s)) y2:=r2;obtain⟨A1,n1,c1,A2,n2,c2,A3,n3,c3,rfl⟩:=ag3 r0;obtain⟨rfl,-⟩:=ce.1 r2;refine⟨_,_,_,A1,n1,c1,A2,n2,c2,_,A3,n3,c3,y1,rfl,?_⟩
  obtain⟨l,h1,h2,h3⟩:=r1;cases h1;rcases h3 with ⟨h3,h4⟩ | ⟨g,o,c,us,cs,t,h3,h4,h5,h6,h7,h8,h9⟩
  ·exact .inl ⟨by rw [←aiE (f:=T),h4];rfl,h3⟩
  ·rw [aiE] at h3
   have hus:∀(l:List ByteArray) (us:List Value),cm w' (FB F' w.heap.size 0) (l.map T) us→us=l.map aix:=by
    intro l;induction l with
    | nil=>intro us h;exact aW.1 h
    | cons x l ih =>
     intro us h;obtain⟨v1,v2,rfl,q1,q2⟩:=au.1 h;simp only [RepC] at q1;rw [ih v2 q2,q1.1];rfl
   rw [hus _ _ h7] at h8;exact .inr ⟨g,o,c,cs,t,by rw [h3],h9.2,h5,fun i x hx=>h8 i _ (by rw [aiH,hx];rfl)⟩
set_option maxHeartbeats 4000000 in
set_option maxRecDepth 1000000 in
theorem QH (s:ByteArray) (hs:s.size≤1048576) (w:World) (F:Nat→Prop) (hF:∀b,F b→b<w.heap.size) (hgl:gOk gl2 w F) :
  Calls Tryz.prog 14 #[.string s] w fun e w'=>e = .returned (.string (fm (iO s)))∧Below w.heap.size w w':=by
 have hc1:=abR hF hgl s hs;have h40:=Hx s;have hsz:=abg s;generalize iO s=A at *;generalize okC s=ok at *
 go_enter Tryz.func14,Tryz.ntmps14
 go_wp2_with (go_at_call 42;refine hc1.mono ?_)
 rintro e W1 ⟨b1,i0,i1,i2,A1,n1,c1,A2,n2,c2,sj,A3,n3,c3,y,rfl,hy⟩;have hW1:=b1.size;have hy':∃A' c',y = .slice A' A.length c':=by
  rcases hy with ⟨h1,h2⟩ | ⟨g,o,c,cs,t,h1,-⟩
  ·exact⟨none,0,by rw [h1];exact h2⟩
  ·exact⟨_,c,h1⟩
 obtain⟨A',c',rfl⟩:=hy';have hg:A≠[]→∃g o,A'=some ⟨g,o,none⟩∧g<W1.heap.size∧∃cs t,W1.heap[g]?=some (.cells cs t (0,0))∧∀(i:Nat) (x:ByteArray),A[i]?=some x→cs[o+i]?=some (.string x):=by
  intro hne;rcases hy with ⟨h1,h2⟩ | ⟨g,o,c,cs,t,h1,h2,h3,h4⟩
  ·exact absurd (aiA h1) hne
  ·simp only [Value.slice.injEq] at h1
   obtain⟨rfl,-,rfl⟩:=h1;exact⟨g,o,rfl,(Array.getElem?_eq_some_iff.1 h3).1,cs,t,h3,h4⟩
 have hbs:Below w.heap.size w (W1.alloc (.cells #[.int .i64 i0,.int .i64 i1,.int .i64 i2,.slice A1 n1 c1,.slice A2 n2 c2,.string sj,.slice A3 n3 c3] 61)):=b1.alloc hW1 _;have hI0:=Lib.IsBuilderF.of (Lib.fresh_isBuilder 67 5 (W1.alloc (.cells #[.int .i64 i0,.int .i64 i1,.int .i64 i2,.slice A1 n1 c1,.slice A2 n2 c2,.string sj,.slice A3 n3 c3] 61)));have hsz1:(W1.alloc (.cells #[.int .i64 i0,.int .i64 i1,.int .i64 i2,.slice A1 n1 c1,.slice A2 n2 c2,.string sj,.slice A3 n3 c3] 61)).heap.size=W1.heap.size+1:=by simp
 have hbb:Below (W1.heap.size+1) (W1.alloc (.cells #[.int .i64 i0,.int .i64 i1,.int .i64 i2,.slice A1 n1 c1,.slice A2 n2 c2,.string sj,.slice A3 n3 c3] 61)) ((W1.alloc (.cells #[.int .i64 i0,.int .i64 i1,.int .i64 i2,.slice A1 n1 c1,.slice A2 n2 c2,.string sj,.slice A3 n3 c3] 61)).alloc (.cells #[.pointer none,.slice none 0 0] 67)):=(Below.refl _ _).alloc (by rw [hsz1];exact aiD _) _;have hk1:∀g,g<W1.heap.size→(W1.alloc (.cells #[.int .i64 i0,.int .i64 i1,.int .i64 i2,.slice A1 n1 c1,.slice A2 n2 c2,.string sj,.slice A3 n3 c3] 61)).heap[g]?=W1.heap[g]?:=fun g hg=>heap_alloc_old _ _ hg
 rw [hsz1] at hI0
 go_wp2
 generalize hWs:W1.alloc (.cells #[.int .i64 i0,.int .i64 i1,.int .i64 i2,.slice A1 n1 c1,.slice A2 n2 c2,.string sj,.slice A3 n3 c3] 61)=Ws at *;have hbw0:=hbs.size
 go_loopw [17] (fun v17 wr=>∃(i:Nat) (acc:List UInt8),v17 = .int .i64 i∧i≤A.length∧Lib.IsBuilderF 67 5 (W1.heap.size+1) (W1.heap.size+1) (Lib.byteCells acc) wr∧Below (W1.heap.size+1) Ws wr∧acc++ac (fm (A.drop i))=ac (fm A)∧acc.length≤1001*i) (fun v17 wr=>A.length - (match v17 with | .int _ n=>n.toNat | _=>0))
 case atStart =>
  exact⟨0,[],rfl,aiG _,hI0,hbb,rfl,aiD _⟩
 case round =>
  obtain⟨i,acc,rfl,hi,hI,hbw,hacc,hal⟩:=hrel;have hbsz:=hbw.size;by_cases hp:i<A.length
  ·have hpi:(i:Int)<(A.length:Int):=by omega
   obtain⟨g,o,rfl,hgl',cs,t,hgc,hcell⟩:=hg (fun h=>by rw [h] at hp;exact absurd hp (Nat.not_lt_zero _));have hgr:wr.heap[g]?=some (.cells cs t (0,0)):=(hbw.block g (by omega)).trans ((hk1 g hgl').trans hgc);have c0:wr.cell? ⟨g,o+i,none⟩=some (.string A[i]):=by rw [Lib.cell_of_heap hgr];exact hcell i _ (aiB hp)
   have hx:=hsz _ (aiX hp);have hcw:=xA (W1.heap.size+1) (W1.heap.size+1) _ (A[i]++⟨#[10]⟩) wr hI (by rw [Lib.byteCells_length,aik,sz1];omega) (by omega)
   go_wp2_with (go_at_call 43;refine hcw.mono ?_)
   rintro e W3 ⟨rfl,hI3,b3,_⟩
   go_wp2
   have hdr:ac (fm (A.drop i))=ac (A[i]++⟨#[10]⟩)++ac (fm (A.drop (i+1))):=by
    rw [List.drop_eq_getElem_cons hp];simp only [fm,be]
   have hls:(ac (A[i]++⟨#[10]⟩)).length≤1001:=by
    have:(ac (A[i]++⟨#[10]⟩)).length=(A[i]++⟨#[10]⟩).size:=rfl;rw [this,aik,sz1];omega
   refine⟨⟨i+1,acc++ac (A[i]++⟨#[10]⟩),congrArg (ais .i64) (by omega),by omega,?_,hbw.trans b3,?_,?_⟩,?_⟩
   ·rw [Lib.byteCells_append]
    exact Or.inr hI3
   ·rw [←hacc,hdr,aiK]
   ·rw [aiz]
    omega
   ·show A.length - ((i:Int)+1).toNat<A.length - (i:Int).toNat
    omega
  ·have hpi:¬(i:Int)<(A.length:Int):=by omega
   have hcs:=tR (W1.heap.size+1) (W1.heap.size+1) acc wr hI (by omega)
   go_wp2_with (go_at_call 44;refine hcs.mono ?_)
   intro e W2 he h1 b2 k2;subst he
   go_wp2
   go_ret
   rw [List.drop_eq_nil_of_le (by omega)] at hacc;refine⟨?_,hbs.trans ((hbw.trans b2).mono (by omega))⟩
   have:acc=ac (fm A):=by rw [←hacc];simp [fm,ac]
   rw [this,ll];rfl
def rE (ds:List D):Option Out:=match ds with
 | [d]=>(tU d).bind fun s=>if s.size≤1048576 then some (.ret [T (fm (iO s))] []) else none
 | _=>none
theorem Ks (s:ByteArray) (hs:s.size≤1048576):rE [T s]=some (.ret [T (fm (iO s))] []):=by
 have e:rE [T s]=(tU (T s)).bind fun s=>if s.size≤1048576 then some (.ret [T (fm (iO s))] []) else none:=rfl
 rw [e,show tU (T s)=some s from rfl,air,if_pos hs]
@[reducible] def qq:FS:={pm:=[.dat 0],rm:=[.dat 0],f:=rE}
theorem yn:aw gl2 Tryz.prog 14 qq:=by
 have he:∀args w,(callFunc 14 args).run Tryz.prog w = .ok (.enter 14 args) w:=aiT Tryz.func14 (by kernel_rfl) rfl;refine bQ he fun ds rs us hd args w F ow hg ha hF _=>?_
 obtain⟨d,y,rfl,h2,h3⟩:=lC ha;replace hd:rE [d]=some (.ret rs us):=hd;obtain⟨s,hs,hd'⟩:=Option.bind_eq_some_iff.1 hd;clear hd;obtain rfl:=xk hs;split at hd'
 case isFalse=>cases hd'
 rename_i hz;cases hd';obtain⟨rfl,_⟩:=Cf h3;rw [DL h2];refine(QH s hz w F (fun b hb=>(hF b hb).1) hg).mono ?_
 rintro e w' ⟨rfl,hB⟩;refine⟨_,rfl,F,_,[_],rfl,eR hB hF rfl rfl [_] [_] rfl rfl fun j d hj=>?_⟩
 match j,hj with
 | 0,hj =>
  simp only [List.getElem?_cons_zero,Option.some.injEq] at hj;subst hj;exact⟨_,rfl,ce.2 ⟨rfl,rfl⟩⟩
end Go.Proofs.YtjafgdefcggjcaaGreatDoor

namespace Go.Proofs.YtjafgdefcggjcaaGreatDoor
open Go.V
set_option maxRecDepth 100000
@[reducible] def nk:Cx:={K:=[Y,.no,Y,Y,Y,Y,Y,Y,Y,Y,Y,Y,Y,Y,Y],T:=[(3,ty3),(9,ty9)],S:=[(13,qs),(14,qq)],H:=[],res:=[.tmp 2],ios:=[],G:=gl2}
def fE:List D→Option Out:=ba nk Tryz.f4
@[reducible] def xn:FS:={pm:=[Y],rm:=[Y],f:=fE}
theorem wT:aw gl2 Tryz.prog 4 xn:=az (c:=nk) (ab (aN qi yo) (ab yn al)) Tryz.func4 rfl rfl (by kernel_rfl)
@[reducible] def vR:Cx:={K:=[Yc,Yc,.no,.no,Y,Y,Y,Y,Yb,Y,Yc,Y,Y,Y,Y,Y,Y,Y,Y,Y,Y,Y,Y,Y,Y,Y,Y,Yc,Yc,Y,Yc,Y,Y,Y,Y,Y,.tup [Yo 1 0,Y],Y,.tup [Yo 1 0,Y],Yb,Y,.tup [Yc,Y],Y,.tup [Yc,Y],Yc,Y,.tup [Y,Y,Y,Y],Y,.tup [Y,Y,Y,Y],Y,Y,Y,Y,.tup [Y,Y,Y,Y],Y,.tup [Y,Y,Y,Y],Y,Y,Y,Y,Y,Y,Y,Y,Y,Y,Y,Y,Y,Yb,Yc,Y,Y,Y,Y,Y,Y,Y,Y,Y,Y,Y,Y,Y,Y,Y,Y,Y,Y,Y,Y,Y,Y,Y,Y,Y,Y,Y,Y,Y,Y,Y,Y,Y,Y,Y,Y,Y,Y,Y,Y,Y,Y,Y,Y,Y,Y,Y,Y,Y,Y,Y,Y,Yc,Y,Y,Y,Yc,Y,Yc,Y,Y,Y,Y,Y,Y,Y,Y,Y,Y,Y,Y,Y,Y,Y,Y,Y,Y,Y,Y,Y,Yc,Y,Y,Y,Y,Y,Y,Yc,Y,Y,Y,Y,Y,Y,Y,Y,Y,Y,Y,Y,Y,Y],T:=[(3,ty3),(4,ty4),(5,ty5),(9,ty9),(38,dJ)],S:=[(13,qs),(14,qq),(15,qV),(16,qW),(25,sa),(26,sf),(30,Ob),(31,qS),(32,xY)],H:=[(0,([5,7,10,16,17,18,20,21,22,23],[5,10,16,17,18,21])),(2,([5,10,16,17,18,21,25,26],[10,16,17,18,21,25]))],res:=[.tmp 4],ios:=[],G:=gl2}
abbrev vi:List (Nat × List Nat):=[]
def kR:List D→Option Out:=CF vR vi Tryz.f9
@[reducible] def om:FS:={pm:=[Yc,Yc],rm:=[Y],f:=kR}
theorem IL:aw gl2 Tryz.prog 9 om:=Jk (J:=vi) (P:=Tryz.prog) (c:=vR) (fn:=Tryz.f9) (pm:=om.pm) (rm:=om.rm) (by kernel_rfl) (ab (aN qi yo) (ab yn (ab (aN qi Cm) (ab Ch (ab (aN qi Fp) (ab FH (ab (aN qi YE) (ab (aN qi Cq) (ab (aN qi KY) al))))))))) dD (by kernel_rfl) Tryz.func9 (by kernel_rfl) (by kernel_rfl) rfl
open Go Go.V
theorem xr (x0:D):fE [x0]=((lenD true x0).bind fun z=>(bin .gtr false [] z (I 1048576)).bind fun z=>ifD z (some (.ret [B true] [])) (ae (je [x0]) fun c _=>ae (rE [x0]) fun d _=>(bin .neq false [] (sl d 0) (sl c 0)).bind fun z=>ifD z (some (.ret [B false] [])) (some (.ret [B true] [])))):=by kernel_rfl
theorem Iy (x0 x1:D):kR [x0,x1]=(ae (wN [x0,x1]) fun c _=>ifD (sl c 0) (some (.ret [B true] [])) (ae (gR [x0]) fun c _=>ae (rE [sl c 0]) fun zn _=>ae (je [sl c 0]) fun t _=>ae (iG [sl c 0]) fun zg _=>(ax (.tup zg) 0).bind fun y=>(ax (fe (.tup zg) 0) 1).bind fun z=>ae (iW [sl c 0]) fun zh _=>(ax (.tup zh) 0).bind fun zi=>(ax (.tup zh) 1).bind fun zo=>ae (hN [sl c 0]) fun j _=>(ax (.tup j) 0).bind fun zp=>(ax (.tup j) 1).bind fun zq=>(ax (.tup j) 2).bind fun zr=>(ax (.tup j) 3).bind fun zj=>ae (gU [sl c 0]) fun k _=>(ax (.tup k) 0).bind fun zk=>(ax (.tup k) 1).bind fun zl=>(ax (.tup k) 2).bind fun zm=>(ax (.tup k) 3).bind fun zs=>(bin .neq false [] (sl zn 0) (sl t 0)).bind fun l=>(aj (.tup []) l false (some z)).bind fun zt=>(aj (.tup []) l false (some zo)).bind fun zu=>(aj (.tup []) l false (bin .neq true [] zt zu)).bind fun zv=>(aV l (B true) zv).bind fun f=>(aj (.tup []) f false (some y)).bind fun zw=>(aj (.tup []) f false (some zi)).bind fun z_17=>cU f false (ae (lX [zw,z_17]) fun c _=>some (.nrm [sl c 0])) [.tup []] fun outs=>(aj (.tup []) f false (un .not (sl outs 0))).bind fun z_18=>(aV f (B true) z_18).bind fun m=>(aj (.tup []) m false (some zj)).bind fun z_20=>(aj (.tup []) m false (some zs)).bind fun z_21=>(aj (.tup []) m false (bin .neq true [] z_20 z_21)).bind fun z_22=>(aV m (B true) z_22).bind fun n=>(aj (.tup []) n false (some zp)).bind fun z_24=>(aj (.tup []) n false (some zk)).bind fun z_25=>(aj (.tup []) n false (bin .neq false [] z_24 z_25)).bind fun z_26=>(aV n (B true) z_26).bind fun p=>(aj (.tup []) p false (some zq)).bind fun z_28=>(aj (.tup []) p false (some zl)).bind fun z_29=>(aj (.tup []) p false (bin .neq false [] z_28 z_29)).bind fun z_30=>(aV p (B true) z_30).bind fun q=>(aj (.tup []) q false (some zr)).bind fun z_32=>(aj (.tup []) q false (some zm)).bind fun z_33=>(aj (.tup []) q false (bin .neq false [] z_32 z_33)).bind fun z_34=>(aV q (B true) z_34).bind fun r=>(aj (.tup []) r false (some zj)).bind fun z_36=>(aj (.tup []) r false (some z)).bind fun z_37=>(aj (.tup []) r false (bin .neq true [] z_36 z_37)).bind fun z_38=>(aV r (B true) z_38).bind fun z_39=>ifD z_39 (some (.ret [B false] [])) (ifD z ((aZ (fun s=>(lenD true (sl s 1)).bind fun z=>(bin .lss false [] (sl s 9) z).bind fun z=>ifD z ((hZ (sl s 1) (sl s 9)).bind fun z=>(bin .neq false [] z (.v (ais IntKind.u8 10))).bind fun z=>ifD z ((bin .add false [] (sl s 9) (I 1)).bind fun z=>some (.nrm [sl s 0,sl s 1,sl s 2,sl s 3,sl s 4,sl s 5,sl s 6,sl s 7,sl s 8,z])) ((bin .add false [] (sl s 6) (I 1)).bind fun z=>(dl true 0 (sl s 1) (sl s 8) (sl s 9)).bind fun e=>(bin .eql false [] e (.v (.string ⟨⟨[110,111]⟩⟩))).bind fun g=>(aj (.tup []) g false (some e)).bind fun u=>(aj (.tup []) g false (bin .eql false [] u (.v (.string ⟨⟨[119,104,97,116]⟩⟩)))).bind fun v=>(aV g (B true) v).bind fun w=>ifD w ((lenD false (sl s 2)).bind fun h=>(bin .geq false [] (sl s 7) h).bind fun d=>(aj (.tup []) d false (some (sl s 2))).bind fun za=>(aj (.tup []) d false (some (sl s 7))).bind fun zb=>(aj (.tup []) d false (aiv D.ptr (ao 1 za zb))).bind fun zc=>(aj (.tup []) d false ((ldD false 1 zc).bind aL)).bind fun zd=>(aj (.tup []) d false (some z)).bind fun ze=>(aj (.tup []) d false (bin .neq false [] zd ze)).bind fun zf=>(aV d (B true) zf).bind fun z_53=>ifD z_53 (some (.ret [B false] [])) ((bin .add false [] (sl s 7) (I 1)).bind fun z_54=>(bin .add false [] (sl s 9) (I 1)).bind fun z_55=>(bin .add false [] (sl s 9) (I 1)).bind fun z_56=>some (.nrm [sl s 0,sl s 1,sl s 2,sl s 3,sl s 4,sl s 5,z,z_54,z_55,z_56]))) ((bin .add false [] (sl s 9) (I 1)).bind fun h=>(bin .add false [] (sl s 9) (I 1)).bind fun d=>some (.nrm [sl s 0,sl s 1,sl s 2,sl s 3,sl s 4,sl s 5,z,sl s 7,h,d])))) (some (.ext 0 [sl s 0,sl s 2,sl s 3,sl s 4,sl s 5,sl s 7]))) [sl c 0,sl t 0,zi,zk,zl,zm,I 0,I 0,I 0,I 0]).bind fun o=>bS o (fun i s=>ifN (i.beq 0) ((aZ (fun s=>(lenD true (sl s 0)).bind fun z=>(bin .lss false [] (sl s 7) z).bind fun z=>ifD z ((hZ (sl s 0) (sl s 7)).bind fun z=>(bin .eql false [] z (.v (ais IntKind.u8 10))).bind fun z=>ifD z ((bin .add false [] (sl s 6) (I 1)).bind fun z=>(bin .add false [] (sl s 7) (I 1)).bind fun e=>some (.nrm [sl s 0,sl s 1,sl s 2,sl s 3,sl s 4,sl s 5,z,e])) ((bin .add false [] (sl s 7) (I 1)).bind fun z=>some (.nrm [sl s 0,sl s 1,sl s 2,sl s 3,sl s 4,sl s 5,sl s 6,z]))) (some (.ext 2 [sl s 1,sl s 2,sl s 3,sl s 4,sl s 5,sl s 6]))) [sl s 0,sl s 1,sl s 2,sl s 3,sl s 4,sl s 5,I 0,I 0]).bind fun o=>bS o (fun i s=>ifN (i.beq 2) ((lenD false (sl s 0)).bind fun z=>(bin .eql false [] (sl s 4) z).bind fun z=>(aj (.tup []) z true (some (sl s 1))).bind fun e=>(aj (.tup []) z true (some (sl s 2))).bind fun g=>(aj (.tup []) z true (bin .add false [] e g)).bind fun u=>(aj (.tup []) z true (some (sl s 0))).bind fun v=>(aj (.tup []) z true (lenD false v)).bind fun w=>(aj (.tup []) z true (bin .eql false [] u w)).bind fun h=>(aV z h (B false)).bind fun z=>(aj (.tup []) z true (some (sl s 1))).bind fun d=>(aj (.tup []) z true (some (sl s 2))).bind fun za=>(aj (.tup []) z true (bin .add false [] d za)).bind fun zb=>(aj (.tup []) z true (some (sl s 3))).bind fun zc=>(aj (.tup []) z true (bin .add false [] zb zc)).bind fun zd=>(aj (.tup []) z true (some (sl s 5))).bind fun ze=>(aj (.tup []) z true (bin .eql false [] zd ze)).bind fun zf=>(aV z zf (B false)).bind fun z=>some (.ret [z] [])) none) fun a b=>some (.ret a b)) none) fun a b=>some (.ret a b)) ((bin .eql false [] (sl t 0) (.v (.string ⟨⟨[]⟩⟩))).bind fun z=>some (.ret [z] []))))):=by kernel_rfl
theorem ahC {l:List Int} {b:List D}:ax (.tup (ai l::b)) 0=some (ai l):=rfl
theorem afT {a:D} {b:List D}:fe (.tup (a::b)) 0 = .tup (.bad::b):=rfl
theorem af5 {x:Value}:ax (.tup [.bad,.v x]) 1=some (.v x):=rfl
theorem ahs {a b c:D} {x:Value}:ax (.tup [a,b,c,.v x]) 3=some (.v x):=rfl
theorem ahL {a b d:D} {x:Value}:ax (.tup [a,b,.v x,d]) 2=some (.v x):=rfl
theorem Ui (s:ByteArray):fE [T s]=some (.ret [B true] []):=by
 rw [xr];by_cases h:1048576<(s.size:Int)
 ·simp -implicitDefEqProofs only [aq,ain,aio,aip,h]
 have hz:s.size≤1048576:=by omega
 simp -implicitDefEqProofs only [aq,ain,aio,aip,h,xQ s hz,Ks s hz,acx,ir]
def nl (s:ByteArray):Prop:=∀b∈ac s,b≠10
theorem IQ {a b:ByteArray} (ha:nl a) (hb:nl b):nl (a++b):=by
 intro x hx;rw [be,aiJ] at hx;exact hx.elim (ha x) (hb x)
theorem rN (n:Int):nl (aI n):=by
 have pos:∀n:Int,0≤n→nl (aI n):=by
  intro n h b hb e;have:=(iI h).2 b hb;subst e;revert this;decide
 by_cases h:0≤n
 ·exact pos n h
 ·have he:=uW (n:=-n) (by omega)
  rw [Int.neg_neg] at he;intro b hb;rw [he] at hb;rcases aiu.1 hb with rfl | hb
  ·decide
  ·exact pos (-n) (by omega) b hb
theorem LS {c:UInt8} (hc:c≠10) (ns:List Int):nl (cf c ns):=by
 intro b hb;rw [cC] at hb;rcases Br hb with rfl | ⟨w,hw,hb⟩
 ·exact hc
 ·obtain⟨n,hn,rfl⟩:=aiV.1 hw
  exact rN n b hb
theorem JT {l:List UInt8} (h:l.all (fun b=>b != 10)=true):nl ⟨⟨l⟩⟩:=by
 intro b hb;have:=List.all_eq_true.1 h b hb;simpa using this
theorem af1:∀l:List Slp,nl (stT l)
 | []=>fun b hb=>by cases hb
 | x::l=>by
  unfold stT slT;exact IQ (IQ (IQ (IQ (rN _) (JT rfl)) (rN _)) (JT rfl)) (af1 l)
theorem Zp (cols:Nat):∀(l:List Int) (i:Nat),nl (nW cols i l)
 | [],_=>fun b hb=>by cases hb
 | n::l,i=>by
  unfold nW;refine IQ (IQ (rN _) ?_) (Zp cols l (i+1))
  unfold Gj;split<;>exact JT rfl
theorem afS (m:Me):nl (mtT m):=LS (by decide) _
theorem afV:nl okT:=JT rfl
theorem vr:nl noT:=JT rfl
theorem aek:nl dH:=JT rfl
theorem ae6 (c:Cn) (t:ByteArray):nl (dK c t).1:=by
 unfold dK;split
 ·exact aek
 ·unfold bq
  split
  ·unfold OT
   split
   ·split
    ·exact afV
    ·exact vr
   ·split
    ·exact vr
    ·split
     ·split
      ·exact afS _
      ·exact vr
     ·exact afV
  ·split
   ·unfold iw
    split
    ·split
     ·exact afS _
     ·exact vr
    split
    ·dsimp only
     split
     ·exact LS (by decide) _
     ·exact vr
    split
    ·split
     ·exact LS (by decide) _
     ·exact vr
    split
    ·split
     ·exact af1 _
     ·exact vr
    ·dsimp only
     split
     ·exact rN _
     ·exact vr
   ·unfold kr
    split
    ·split
     ·exact rN _
     ·exact vr
    split
    ·exact rN _
    split
    ·exact LS (by decide) _
    split
    ·split
     ·exact rN _
     ·exact vr
    split
    ·dsimp only
     split
     ·exact rN _
     ·exact vr
    split
    ·dsimp only
     split
     ·exact rN _
     ·exact vr
    split
    ·split
     ·exact rN _
     ·exact vr
    ·exact Zp _ _ _
def nlN (l:List UInt8):Nat:=(l.filter fun b=>decide (b=10)).length
theorem SU (a b:List UInt8):nlN (a++b)=nlN a+nlN b:=by
 unfold nlN;rw [aiW,aiz]
theorem UF:∀l:List UInt8,(aX 10 l).length=nlN l+1:=by
 intro l;induction l with
 | nil=>rfl
 | cons x l ih =>
  by_cases h:x=10
  ·have e:aX 10 (x::l)=[]::aX 10 l:=by
    have:=fS (c:=10) (a:=[]) (b:=l) (by simp);rw [h];simpa using this
   rw [e,ail,ih,show x::l=[x]++l from rfl,SU];simp [nlN,h];omega
  ·have e:(aX 10 (x::l)).length=(aX 10 l).length:=by
    have hne:=ed 10 l;have e0:aX 10 (x::l)=Bo x (aX 10 l):=by
     show(if x=10 then []::aX 10 l else Bo x (aX 10 l))=_
     rw [if_neg h]
    rw [e0];cases hq:aX 10 l with
    | nil=>exact absurd hq hne
    | cons a r=>simp [Bo]
   rw [e,ih,show x::l=[x]++l from rfl,SU];simp [nlN,h]
theorem abo (s:ByteArray):(aS s).length=nlN (ac s):=by
 unfold aS;rw [aiL,ex,UF];omega
theorem dF {a b:ByteArray} (ha:a.size≤1000000) (hb:b.size≤1000000):bin .add false [] (T a) (T b)=some (T (a++b)):=XT (by omega)
theorem aU (l:List UInt8):(⟨⟨l⟩⟩:ByteArray).size=l.length:=rfl
theorem dB {K:Option Out} {t:ByteArray} {c':Cur} {B:Nat} (h:K=some (.ret [T t] [mq c'])) (ht:t.size≤500) (hk:c'.ok (B+200)):∃(t:ByteArray) (c':Cur),K=some (.ret [T t] [mq c'])∧t.size≤500∧c'.ok (B+200):=⟨t,c',h,ht,hk⟩
set_option maxHeartbeats 1000000 in
theorem Tl (c:Cur) (B:Nat) (h:c.ok B) (hB:B≤1000000):∃(t:ByteArray) (c':Cur),dS [mq c]=some (.ret [T t] [mq c'])∧t.size≤500∧c'.ok (B+200):=by
 rw [wq];obtain⟨v1,c1,e1,l1,u1,k1⟩:=ig c 20 B h (by omega) (by decide);obtain⟨v2,c2,e2,l2,u2,k2⟩:=ig c1 60 (B+2) k1 (by omega) (by decide);obtain⟨v3,c3,e3,l3,u3,k3⟩:=ig c2 16 (B+2+2) k2 (by omega) (by decide);have n1:=bT (n:=v1) l1 (by omega);have w2:aiq.wrap (1+v2)=1+v2:=ah (by omega) (by omega);have n2:=bT (n:=1+v2) (by omega) (by omega);have z1:(aI v1).size≤10:=bY 9 l1 (by omega);have z2:(aI (1+v2)).size≤10:=bY 9 (by omega) (by omega);generalize aI v1=s1 at *;generalize aI (1+v2)=s2 at *;have hv:v3=0∨v3=1∨v3=2∨v3=3∨v3=4∨v3=5∨v3=6∨v3=7∨v3=8∨v3=9∨v3=10∨v3=11∨v3=12∨v3=13∨v3=14∨v3=15:=by omega
 rcases hv with rfl | rfl | rfl | rfl | rfl | rfl | rfl | rfl | rfl | rfl | rfl | rfl | rfl | rfl | rfl | rfl
 ·obtain⟨t4,d4,f4,m4,q4⟩:=AX c3 [⟨⟨[109,101,108,116,32]⟩⟩,⟨⟨[106,111,105,110,32]⟩⟩,⟨⟨[106,111,105,110,32]⟩⟩] (B+2+2+2) k3 (by omega) (by simp) (by simp)
  have hm4:aB 1 [T ⟨⟨[109,101,108,116,32]⟩⟩,T ⟨⟨[106,111,105,110,32]⟩⟩,T ⟨⟨[106,111,105,110,32]⟩⟩]=some (txs [⟨⟨[109,101,108,116,32]⟩⟩,⟨⟨[106,111,105,110,32]⟩⟩,⟨⟨[106,111,105,110,32]⟩⟩]):=qb (l:=[⟨⟨[109,101,108,116,32]⟩⟩,⟨⟨[106,111,105,110,32]⟩⟩,⟨⟨[106,111,105,110,32]⟩⟩]);have hs4:t4.size≤100:=by
   simp only [aiu,ait,or_false] at m4;rcases m4 with rfl | rfl | rfl<;>first | omega | (simp only [aik,aU,ail,aim];omega)
  obtain⟨m,c5,e5,g5,k5⟩:=ab5 d4 (B+2+2+2+2) q4 (by omega);have e6:=px g5;have z6:=UK g5;have a1:=dF (a:=t4) (b:=mtT m) (by first | omega | (simp only [aik,aU,ail,aim];omega)) (by first | omega | (simp only [aik,aU,ail,aim];omega));refine dB (t:=t4++mtT m) (c':=c5) ?_ (by first | omega | (simp only [aik,aU,ail,aim];omega)) (Cur.ok.mono k5 (by omega))
  simp -implicitDefEqProofs only [aq,ain,aio,aip,ga,e1,n1,e2,w2,n2,e3,hm4,f4,e5,e6,a1]
 ·obtain⟨t4,d4,f4,m4,q4⟩:=AX c3 [⟨⟨[109,101,108,116,32]⟩⟩,⟨⟨[106,111,105,110,32]⟩⟩,⟨⟨[106,111,105,110,32]⟩⟩] (B+2+2+2) k3 (by omega) (by simp) (by simp)
  have hm4:aB 1 [T ⟨⟨[109,101,108,116,32]⟩⟩,T ⟨⟨[106,111,105,110,32]⟩⟩,T ⟨⟨[106,111,105,110,32]⟩⟩]=some (txs [⟨⟨[109,101,108,116,32]⟩⟩,⟨⟨[106,111,105,110,32]⟩⟩,⟨⟨[106,111,105,110,32]⟩⟩]):=qb (l:=[⟨⟨[109,101,108,116,32]⟩⟩,⟨⟨[106,111,105,110,32]⟩⟩,⟨⟨[106,111,105,110,32]⟩⟩]);have hs4:t4.size≤100:=by
   simp only [aiu,ait,or_false] at m4;rcases m4 with rfl | rfl | rfl<;>first | omega | (simp only [aik,aU,ail,aim];omega)
  obtain⟨m,c5,e5,g5,k5⟩:=ab5 d4 (B+2+2+2+2) q4 (by omega);have e6:=px g5;have z6:=UK g5;have a1:=dF (a:=t4) (b:=mtT m) (by first | omega | (simp only [aik,aU,ail,aim];omega)) (by first | omega | (simp only [aik,aU,ail,aim];omega));refine dB (t:=t4++mtT m) (c':=c5) ?_ (by first | omega | (simp only [aik,aU,ail,aim];omega)) (Cur.ok.mono k5 (by omega))
  simp -implicitDefEqProofs only [aq,ain,aio,aip,ga,e1,n1,e2,w2,n2,e3,hm4,f4,e5,e6,a1]
 ·have a1:=dF (a:=⟨⟨[116,97,107,101,32]⟩⟩) (b:=s1) (by first | omega | (simp only [aik,aU,ail,aim];omega)) (by first | omega | (simp only [aik,aU,ail,aim];omega))
  have a2:=dF (a:=⟨⟨[116,97,107,101,32]⟩⟩) (b:=s2) (by first | omega | (simp only [aik,aU,ail,aim];omega)) (by first | omega | (simp only [aik,aU,ail,aim];omega));obtain⟨t4,d4,f4,m4,q4⟩:=AX c3 [⟨⟨[115,104,97,114,101,115]⟩⟩,(⟨⟨[116,97,107,101,32]⟩⟩:ByteArray)++s1,(⟨⟨[116,97,107,101,32]⟩⟩:ByteArray)++s2,⟨⟨[116,97,107,101,32,57,57,57,57,57,57]⟩⟩] (B+2+2+2) k3 (by omega) (by simp) (by simp);have hm4:aB 1 [T ⟨⟨[115,104,97,114,101,115]⟩⟩,T ((⟨⟨[116,97,107,101,32]⟩⟩:ByteArray)++s1),T ((⟨⟨[116,97,107,101,32]⟩⟩:ByteArray)++s2),T ⟨⟨[116,97,107,101,32,57,57,57,57,57,57]⟩⟩]=some (txs [⟨⟨[115,104,97,114,101,115]⟩⟩,(⟨⟨[116,97,107,101,32]⟩⟩:ByteArray)++s1,(⟨⟨[116,97,107,101,32]⟩⟩:ByteArray)++s2,⟨⟨[116,97,107,101,32,57,57,57,57,57,57]⟩⟩]):=qb (l:=[⟨⟨[115,104,97,114,101,115]⟩⟩,(⟨⟨[116,97,107,101,32]⟩⟩:ByteArray)++s1,(⟨⟨[116,97,107,101,32]⟩⟩:ByteArray)++s2,⟨⟨[116,97,107,101,32,57,57,57,57,57,57]⟩⟩]);have hs4:t4.size≤100:=by
   simp only [aiu,ait,or_false] at m4;rcases m4 with rfl | rfl | rfl | rfl<;>first | omega | (simp only [aik,aU,ail,aim];omega)
  refine dB (t:=t4) (c':=d4) ?_ (by omega) (Cur.ok.mono q4 (by omega))
  simp -implicitDefEqProofs only [aq,ain,aio,aip,ga,e1,n1,e2,w2,n2,e3,a1,a2,hm4,f4]
 ·obtain⟨l,c5,e5,g5,k5⟩:=Zi c3 (B+2+2+2) k3 (by omega)
  have e6:=dG l (by omega);cases hg:cB l
  ·rw [hg] at e6
   refine dB (t:=⟨⟨[115,116,111,99,107,32,51,120,49,50,32,50,120,51,48,32,49,120,52,48,32]⟩⟩) (c':=c5) ?_ (by decide) (Cur.ok.mono k5 (by omega))
   simp -implicitDefEqProofs only [aq,ain,aio,aip,ga,e1,n1,e2,w2,n2,e3,e5,e6]
  ·rw [hg] at e6
   have z7:=Bu l (dW hg);have z8:=dT hg;have e7:=uB l (by omega) (dW hg);have a1:=dF (a:=⟨⟨[115,116,111,99,107,32]⟩⟩) (b:=stT l) (by simp only [aU,ail,aim];omega) (by omega);refine dB (t:=⟨⟨[115,116,111,99,107,32]⟩⟩++stT l) (c':=c5) ?_ (by simp only [aik,aU,ail,aim];omega) (Cur.ok.mono k5 (by omega))
   simp -implicitDefEqProofs only [aq,ain,aio,aip,ga,e1,n1,e2,w2,n2,e3,e5,e6,e7,a1]
 ·obtain⟨l,c5,e5,g5,k5⟩:=Zi c3 (B+2+2+2) k3 (by omega)
  have e6:=dG l (by omega);cases hg:cB l
  ·rw [hg] at e6
   refine dB (t:=⟨⟨[115,116,111,99,107,32,51,120,49,50,32,50,120,51,48,32,49,120,52,48,32]⟩⟩) (c':=c5) ?_ (by decide) (Cur.ok.mono k5 (by omega))
   simp -implicitDefEqProofs only [aq,ain,aio,aip,ga,e1,n1,e2,w2,n2,e3,e5,e6]
  ·rw [hg] at e6
   have z7:=Bu l (dW hg);have z8:=dT hg;have e7:=uB l (by omega) (dW hg);have a1:=dF (a:=⟨⟨[115,116,111,99,107,32]⟩⟩) (b:=stT l) (by simp only [aU,ail,aim];omega) (by omega);refine dB (t:=⟨⟨[115,116,111,99,107,32]⟩⟩++stT l) (c':=c5) ?_ (by simp only [aik,aU,ail,aim];omega) (Cur.ok.mono k5 (by omega))
   simp -implicitDefEqProofs only [aq,ain,aio,aip,ga,e1,n1,e2,w2,n2,e3,e5,e6,e7,a1]
 ·obtain⟨t4,d4,f4,m4,q4⟩:=AX c3 [⟨⟨[114,117,108,101,32]⟩⟩,⟨⟨[109,105,115,115,105,110,103,32]⟩⟩] (B+2+2+2) k3 (by omega) (by simp) (by simp)
  have hm4:aB 1 [T ⟨⟨[114,117,108,101,32]⟩⟩,T ⟨⟨[109,105,115,115,105,110,103,32]⟩⟩]=some (txs [⟨⟨[114,117,108,101,32]⟩⟩,⟨⟨[109,105,115,115,105,110,103,32]⟩⟩]):=qb (l:=[⟨⟨[114,117,108,101,32]⟩⟩,⟨⟨[109,105,115,115,105,110,103,32]⟩⟩]);have hs4:t4.size≤100:=by
   simp only [aiu,ait,or_false] at m4;rcases m4 with rfl | rfl<;>first | omega | (simp only [aik,aU,ail,aim];omega)
  obtain⟨t5,d5,f5,m5,q5⟩:=AX d4 [s1,s2,⟨⟨[53,52]⟩⟩,⟨⟨[49,50]⟩⟩,⟨⟨[52,48,48]⟩⟩,⟨⟨[52,48,49]⟩⟩,⟨⟨[48]⟩⟩] (B+2+2+2+2) q4 (by omega) (by simp) (by simp);have hm5:aB 1 [T s1,T s2,T ⟨⟨[53,52]⟩⟩,T ⟨⟨[49,50]⟩⟩,T ⟨⟨[52,48,48]⟩⟩,T ⟨⟨[52,48,49]⟩⟩,T ⟨⟨[48]⟩⟩]=some (txs [s1,s2,⟨⟨[53,52]⟩⟩,⟨⟨[49,50]⟩⟩,⟨⟨[52,48,48]⟩⟩,⟨⟨[52,48,49]⟩⟩,⟨⟨[48]⟩⟩]):=qb (l:=[s1,s2,⟨⟨[53,52]⟩⟩,⟨⟨[49,50]⟩⟩,⟨⟨[52,48,48]⟩⟩,⟨⟨[52,48,49]⟩⟩,⟨⟨[48]⟩⟩]);have hs5:t5.size≤100:=by
   simp only [aiu,ait,or_false] at m5;rcases m5 with rfl | rfl | rfl | rfl | rfl | rfl | rfl<;>first | omega | (simp only [aik,aU,ail,aim];omega)
  have a1:=dF (a:=t4) (b:=t5) (by first | omega | (simp only [aik,aU,ail,aim];omega)) (by first | omega | (simp only [aik,aU,ail,aim];omega));refine dB (t:=t4++t5) (c':=d5) ?_ (by first | omega | (simp only [aik,aU,ail,aim];omega)) (Cur.ok.mono q5 (by omega))
  simp -implicitDefEqProofs only [aq,ain,aio,aip,ga,e1,n1,e2,w2,n2,e3,hm4,f4,hm5,f5,a1]
 ·obtain⟨t4,d4,f4,m4,q4⟩:=AX c3 [⟨⟨[114,117,108,101,32]⟩⟩,⟨⟨[109,105,115,115,105,110,103,32]⟩⟩] (B+2+2+2) k3 (by omega) (by simp) (by simp)
  have hm4:aB 1 [T ⟨⟨[114,117,108,101,32]⟩⟩,T ⟨⟨[109,105,115,115,105,110,103,32]⟩⟩]=some (txs [⟨⟨[114,117,108,101,32]⟩⟩,⟨⟨[109,105,115,115,105,110,103,32]⟩⟩]):=qb (l:=[⟨⟨[114,117,108,101,32]⟩⟩,⟨⟨[109,105,115,115,105,110,103,32]⟩⟩]);have hs4:t4.size≤100:=by
   simp only [aiu,ait,or_false] at m4;rcases m4 with rfl | rfl<;>first | omega | (simp only [aik,aU,ail,aim];omega)
  obtain⟨t5,d5,f5,m5,q5⟩:=AX d4 [s1,s2,⟨⟨[53,52]⟩⟩,⟨⟨[49,50]⟩⟩,⟨⟨[52,48,48]⟩⟩,⟨⟨[52,48,49]⟩⟩,⟨⟨[48]⟩⟩] (B+2+2+2+2) q4 (by omega) (by simp) (by simp);have hm5:aB 1 [T s1,T s2,T ⟨⟨[53,52]⟩⟩,T ⟨⟨[49,50]⟩⟩,T ⟨⟨[52,48,48]⟩⟩,T ⟨⟨[52,48,49]⟩⟩,T ⟨⟨[48]⟩⟩]=some (txs [s1,s2,⟨⟨[53,52]⟩⟩,⟨⟨[49,50]⟩⟩,⟨⟨[52,48,48]⟩⟩,⟨⟨[52,48,49]⟩⟩,⟨⟨[48]⟩⟩]):=qb (l:=[s1,s2,⟨⟨[53,52]⟩⟩,⟨⟨[49,50]⟩⟩,⟨⟨[52,48,48]⟩⟩,⟨⟨[52,48,49]⟩⟩,⟨⟨[48]⟩⟩]);have hs5:t5.size≤100:=by
   simp only [aiu,ait,or_false] at m5;rcases m5 with rfl | rfl | rfl | rfl | rfl | rfl | rfl<;>first | omega | (simp only [aik,aU,ail,aim];omega)
  have a1:=dF (a:=t4) (b:=t5) (by first | omega | (simp only [aik,aU,ail,aim];omega)) (by first | omega | (simp only [aik,aU,ail,aim];omega));refine dB (t:=t4++t5) (c':=d5) ?_ (by first | omega | (simp only [aik,aU,ail,aim];omega)) (Cur.ok.mono q5 (by omega))
  simp -implicitDefEqProofs only [aq,ain,aio,aip,ga,e1,n1,e2,w2,n2,e3,hm4,f4,hm5,f5,a1]
 ·obtain⟨t4,d4,f4,m4,q4⟩:=AX c3 [⟨⟨[48]⟩⟩,⟨⟨[49]⟩⟩,⟨⟨[50]⟩⟩,⟨⟨[45,49]⟩⟩] (B+2+2+2) k3 (by omega) (by simp) (by simp)
  have hm4:aB 1 [T ⟨⟨[48]⟩⟩,T ⟨⟨[49]⟩⟩,T ⟨⟨[50]⟩⟩,T ⟨⟨[45,49]⟩⟩]=some (txs [⟨⟨[48]⟩⟩,⟨⟨[49]⟩⟩,⟨⟨[50]⟩⟩,⟨⟨[45,49]⟩⟩]):=qb (l:=[⟨⟨[48]⟩⟩,⟨⟨[49]⟩⟩,⟨⟨[50]⟩⟩,⟨⟨[45,49]⟩⟩]);have hs4:t4.size≤100:=by
   simp only [aiu,ait,or_false] at m4;rcases m4 with rfl | rfl | rfl | rfl<;>first | omega | (simp only [aik,aU,ail,aim];omega)
  obtain⟨t5,d5,f5,m5,q5⟩:=AX d4 [s1,⟨⟨[53]⟩⟩,⟨⟨[50,48,48]⟩⟩] (B+2+2+2+2) q4 (by omega) (by simp) (by simp);have hm5:aB 1 [T s1,T ⟨⟨[53]⟩⟩,T ⟨⟨[50,48,48]⟩⟩]=some (txs [s1,⟨⟨[53]⟩⟩,⟨⟨[50,48,48]⟩⟩]):=qb (l:=[s1,⟨⟨[53]⟩⟩,⟨⟨[50,48,48]⟩⟩]);have hs5:t5.size≤100:=by
   simp only [aiu,ait,or_false] at m5;rcases m5 with rfl | rfl | rfl<;>first | omega | (simp only [aik,aU,ail,aim];omega)
  have a1:=dF (a:=⟨⟨[99,117,116,32]⟩⟩) (b:=t4) (by first | omega | (simp only [aik,aU,ail,aim];omega)) (by first | omega | (simp only [aik,aU,ail,aim];omega));have a2:=dF (a:=⟨⟨[99,117,116,32]⟩⟩++t4) (b:=⟨⟨[32]⟩⟩) (by first | omega | (simp only [aik,aU,ail,aim];omega)) (by first | omega | (simp only [aik,aU,ail,aim];omega));have a3:=dF (a:=⟨⟨[99,117,116,32]⟩⟩++t4++⟨⟨[32]⟩⟩) (b:=t5) (by first | omega | (simp only [aik,aU,ail,aim];omega)) (by first | omega | (simp only [aik,aU,ail,aim];omega));refine dB (t:=⟨⟨[99,117,116,32]⟩⟩++t4++⟨⟨[32]⟩⟩++t5) (c':=d5) ?_ (by first | omega | (simp only [aik,aU,ail,aim];omega)) (Cur.ok.mono q5 (by omega))
  simp -implicitDefEqProofs only [aq,ain,aio,aip,ga,e1,n1,e2,w2,n2,e3,hm4,f4,hm5,f5,a1,a2,a3]
 ·have a1:=dF (a:=⟨⟨[111,102,102,32]⟩⟩) (b:=s1) (by first | omega | (simp only [aik,aU,ail,aim];omega)) (by first | omega | (simp only [aik,aU,ail,aim];omega))
  have a2:=dF (a:=⟨⟨[111,102,102,32,45]⟩⟩) (b:=s2) (by first | omega | (simp only [aik,aU,ail,aim];omega)) (by first | omega | (simp only [aik,aU,ail,aim];omega));obtain⟨t4,d4,f4,m4,q4⟩:=AX c3 [(⟨⟨[111,102,102,32]⟩⟩:ByteArray)++s1,(⟨⟨[111,102,102,32,45]⟩⟩:ByteArray)++s2,⟨⟨[111,102,102,32,53,48,48]⟩⟩,⟨⟨[111,102,102,32,53,48,49]⟩⟩,⟨⟨[111,102,102,32,45,53,48,48]⟩⟩] (B+2+2+2) k3 (by omega) (by simp) (by simp);have hm4:aB 1 [T ((⟨⟨[111,102,102,32]⟩⟩:ByteArray)++s1),T ((⟨⟨[111,102,102,32,45]⟩⟩:ByteArray)++s2),T ⟨⟨[111,102,102,32,53,48,48]⟩⟩,T ⟨⟨[111,102,102,32,53,48,49]⟩⟩,T ⟨⟨[111,102,102,32,45,53,48,48]⟩⟩]=some (txs [(⟨⟨[111,102,102,32]⟩⟩:ByteArray)++s1,(⟨⟨[111,102,102,32,45]⟩⟩:ByteArray)++s2,⟨⟨[111,102,102,32,53,48,48]⟩⟩,⟨⟨[111,102,102,32,53,48,49]⟩⟩,⟨⟨[111,102,102,32,45,53,48,48]⟩⟩]):=qb (l:=[(⟨⟨[111,102,102,32]⟩⟩:ByteArray)++s1,(⟨⟨[111,102,102,32,45]⟩⟩:ByteArray)++s2,⟨⟨[111,102,102,32,53,48,48]⟩⟩,⟨⟨[111,102,102,32,53,48,49]⟩⟩,⟨⟨[111,102,102,32,45,53,48,48]⟩⟩]);have hs4:t4.size≤100:=by
   simp only [aiu,ait,or_false] at m4;rcases m4 with rfl | rfl | rfl | rfl | rfl<;>first | omega | (simp only [aik,aU,ail,aim];omega)
  refine dB (t:=t4) (c':=d4) ?_ (by omega) (Cur.ok.mono q4 (by omega))
  simp -implicitDefEqProofs only [aq,ain,aio,aip,ga,e1,n1,e2,w2,n2,e3,a1,a2,hm4,f4]
 ·have a1:=dF (a:=⟨⟨[111,102,102,32]⟩⟩) (b:=s1) (by first | omega | (simp only [aik,aU,ail,aim];omega)) (by first | omega | (simp only [aik,aU,ail,aim];omega))
  have a2:=dF (a:=⟨⟨[111,102,102,32,45]⟩⟩) (b:=s2) (by first | omega | (simp only [aik,aU,ail,aim];omega)) (by first | omega | (simp only [aik,aU,ail,aim];omega));obtain⟨t4,d4,f4,m4,q4⟩:=AX c3 [(⟨⟨[111,102,102,32]⟩⟩:ByteArray)++s1,(⟨⟨[111,102,102,32,45]⟩⟩:ByteArray)++s2,⟨⟨[111,102,102,32,53,48,48]⟩⟩,⟨⟨[111,102,102,32,53,48,49]⟩⟩,⟨⟨[111,102,102,32,45,53,48,48]⟩⟩] (B+2+2+2) k3 (by omega) (by simp) (by simp);have hm4:aB 1 [T ((⟨⟨[111,102,102,32]⟩⟩:ByteArray)++s1),T ((⟨⟨[111,102,102,32,45]⟩⟩:ByteArray)++s2),T ⟨⟨[111,102,102,32,53,48,48]⟩⟩,T ⟨⟨[111,102,102,32,53,48,49]⟩⟩,T ⟨⟨[111,102,102,32,45,53,48,48]⟩⟩]=some (txs [(⟨⟨[111,102,102,32]⟩⟩:ByteArray)++s1,(⟨⟨[111,102,102,32,45]⟩⟩:ByteArray)++s2,⟨⟨[111,102,102,32,53,48,48]⟩⟩,⟨⟨[111,102,102,32,53,48,49]⟩⟩,⟨⟨[111,102,102,32,45,53,48,48]⟩⟩]):=qb (l:=[(⟨⟨[111,102,102,32]⟩⟩:ByteArray)++s1,(⟨⟨[111,102,102,32,45]⟩⟩:ByteArray)++s2,⟨⟨[111,102,102,32,53,48,48]⟩⟩,⟨⟨[111,102,102,32,53,48,49]⟩⟩,⟨⟨[111,102,102,32,45,53,48,48]⟩⟩]);have hs4:t4.size≤100:=by
   simp only [aiu,ait,or_false] at m4;rcases m4 with rfl | rfl | rfl | rfl | rfl<;>first | omega | (simp only [aik,aU,ail,aim];omega)
  refine dB (t:=t4) (c':=d4) ?_ (by omega) (Cur.ok.mono q4 (by omega))
  simp -implicitDefEqProofs only [aq,ain,aio,aip,ga,e1,n1,e2,w2,n2,e3,a1,a2,hm4,f4]
 ·obtain⟨t4,d4,f4,m4,q4⟩:=AX c3 [⟨⟨[109,101,100,105,97,110]⟩⟩,⟨⟨[100,114,105,102,116]⟩⟩] (B+2+2+2) k3 (by omega) (by simp) (by simp)
  have hm4:aB 1 [T ⟨⟨[109,101,100,105,97,110]⟩⟩,T ⟨⟨[100,114,105,102,116]⟩⟩]=some (txs [⟨⟨[109,101,100,105,97,110]⟩⟩,⟨⟨[100,114,105,102,116]⟩⟩]):=qb (l:=[⟨⟨[109,101,100,105,97,110]⟩⟩,⟨⟨[100,114,105,102,116]⟩⟩]);have hs4:t4.size≤100:=by
   simp only [aiu,ait,or_false] at m4;rcases m4 with rfl | rfl<;>first | omega | (simp only [aik,aU,ail,aim];omega)
  refine dB (t:=t4) (c':=d4) ?_ (by omega) (Cur.ok.mono q4 (by omega))
  simp -implicitDefEqProofs only [aq,ain,aio,aip,ga,e1,n1,e2,w2,n2,e3,hm4,f4]
 ·obtain⟨v5,c5,e5,l5,u5,k5⟩:=ig c3 5 (B+2+2+2) k3 (by omega) (by decide)
  have n5:=bT (n:=v5) l5 (by omega);have z5:(aI v5).size≤10:=bY 9 l5 (by omega);obtain⟨t6,d6,f6,m6,q6⟩:=AX c5 [s2,⟨⟨[53,48,48]⟩⟩,⟨⟨[57,57,57,57,57]⟩⟩,⟨⟨[49,48,48,48,48,48]⟩⟩] (B+2+2+2+2) k5 (by omega) (by simp) (by simp);have hm6:aB 1 [T s2,T ⟨⟨[53,48,48]⟩⟩,T ⟨⟨[57,57,57,57,57]⟩⟩,T ⟨⟨[49,48,48,48,48,48]⟩⟩]=some (txs [s2,⟨⟨[53,48,48]⟩⟩,⟨⟨[57,57,57,57,57]⟩⟩,⟨⟨[49,48,48,48,48,48]⟩⟩]):=qb (l:=[s2,⟨⟨[53,48,48]⟩⟩,⟨⟨[57,57,57,57,57]⟩⟩,⟨⟨[49,48,48,48,48,48]⟩⟩]);have hs6:t6.size≤100:=by
   simp only [aiu,ait,or_false] at m6;rcases m6 with rfl | rfl | rfl | rfl<;>first | omega | (simp only [aik,aU,ail,aim];omega)
  have a1:=dF (a:=⟨⟨[110,111,116,101,32]⟩⟩) (b:=s1) (by first | omega | (simp only [aik,aU,ail,aim];omega)) (by first | omega | (simp only [aik,aU,ail,aim];omega));have a2:=dF (a:=⟨⟨[110,111,116,101,32]⟩⟩++s1) (b:=⟨⟨[32]⟩⟩) (by first | omega | (simp only [aik,aU,ail,aim];omega)) (by first | omega | (simp only [aik,aU,ail,aim];omega));have a3:=dF (a:=⟨⟨[110,111,116,101,32]⟩⟩++s1++⟨⟨[32]⟩⟩) (b:=aI v5) (by first | omega | (simp only [aik,aU,ail,aim];omega)) (by first | omega | (simp only [aik,aU,ail,aim];omega));have a4:=dF (a:=⟨⟨[110,111,116,101,32]⟩⟩++s1++⟨⟨[32]⟩⟩++aI v5) (b:=⟨⟨[32]⟩⟩) (by first | omega | (simp only [aik,aU,ail,aim];omega)) (by first | omega | (simp only [aik,aU,ail,aim];omega));have a5:=dF (a:=⟨⟨[110,111,116,101,32]⟩⟩++s1++⟨⟨[32]⟩⟩++aI v5++⟨⟨[32]⟩⟩) (b:=t6) (by first | omega | (simp only [aik,aU,ail,aim];omega)) (by first | omega | (simp only [aik,aU,ail,aim];omega));refine dB (t:=⟨⟨[110,111,116,101,32]⟩⟩++s1++⟨⟨[32]⟩⟩++aI v5++⟨⟨[32]⟩⟩++t6) (c':=d6) ?_ (by first | omega | (simp only [aik,aU,ail,aim];omega)) (Cur.ok.mono q6 (by omega))
  simp -implicitDefEqProofs only [aq,ain,aio,aip,ga,e1,n1,e2,w2,n2,e3,a1,a2,e5,n5,a3,a4,hm6,f6,a5]
 ·obtain⟨v5,c5,e5,l5,u5,k5⟩:=ig c3 5 (B+2+2+2) k3 (by omega) (by decide)
  have n5:=bT (n:=v5) l5 (by omega);have z5:(aI v5).size≤10:=bY 9 l5 (by omega);obtain⟨t6,d6,f6,m6,q6⟩:=AX c5 [s2,⟨⟨[53,48,48]⟩⟩,⟨⟨[57,57,57,57,57]⟩⟩,⟨⟨[49,48,48,48,48,48]⟩⟩] (B+2+2+2+2) k5 (by omega) (by simp) (by simp);have hm6:aB 1 [T s2,T ⟨⟨[53,48,48]⟩⟩,T ⟨⟨[57,57,57,57,57]⟩⟩,T ⟨⟨[49,48,48,48,48,48]⟩⟩]=some (txs [s2,⟨⟨[53,48,48]⟩⟩,⟨⟨[57,57,57,57,57]⟩⟩,⟨⟨[49,48,48,48,48,48]⟩⟩]):=qb (l:=[s2,⟨⟨[53,48,48]⟩⟩,⟨⟨[57,57,57,57,57]⟩⟩,⟨⟨[49,48,48,48,48,48]⟩⟩]);have hs6:t6.size≤100:=by
   simp only [aiu,ait,or_false] at m6;rcases m6 with rfl | rfl | rfl | rfl<;>first | omega | (simp only [aik,aU,ail,aim];omega)
  have a1:=dF (a:=⟨⟨[110,111,116,101,32]⟩⟩) (b:=s1) (by first | omega | (simp only [aik,aU,ail,aim];omega)) (by first | omega | (simp only [aik,aU,ail,aim];omega));have a2:=dF (a:=⟨⟨[110,111,116,101,32]⟩⟩++s1) (b:=⟨⟨[32]⟩⟩) (by first | omega | (simp only [aik,aU,ail,aim];omega)) (by first | omega | (simp only [aik,aU,ail,aim];omega));have a3:=dF (a:=⟨⟨[110,111,116,101,32]⟩⟩++s1++⟨⟨[32]⟩⟩) (b:=aI v5) (by first | omega | (simp only [aik,aU,ail,aim];omega)) (by first | omega | (simp only [aik,aU,ail,aim];omega));have a4:=dF (a:=⟨⟨[110,111,116,101,32]⟩⟩++s1++⟨⟨[32]⟩⟩++aI v5) (b:=⟨⟨[32]⟩⟩) (by first | omega | (simp only [aik,aU,ail,aim];omega)) (by first | omega | (simp only [aik,aU,ail,aim];omega));have a5:=dF (a:=⟨⟨[110,111,116,101,32]⟩⟩++s1++⟨⟨[32]⟩⟩++aI v5++⟨⟨[32]⟩⟩) (b:=t6) (by first | omega | (simp only [aik,aU,ail,aim];omega)) (by first | omega | (simp only [aik,aU,ail,aim];omega));refine dB (t:=⟨⟨[110,111,116,101,32]⟩⟩++s1++⟨⟨[32]⟩⟩++aI v5++⟨⟨[32]⟩⟩++t6) (c':=d6) ?_ (by first | omega | (simp only [aik,aU,ail,aim];omega)) (Cur.ok.mono q6 (by omega))
  simp -implicitDefEqProofs only [aq,ain,aio,aip,ga,e1,n1,e2,w2,n2,e3,a1,a2,e5,n5,a3,a4,hm6,f6,a5]
 ·have a1:=dF (a:=⟨⟨[109,101,116,97,108,32,49,48,48,32]⟩⟩) (b:=s1) (by first | omega | (simp only [aik,aU,ail,aim];omega)) (by first | omega | (simp only [aik,aU,ail,aim];omega))
  have a2:=dF (a:=⟨⟨[108,101,97,115,116,32]⟩⟩) (b:=s2) (by first | omega | (simp only [aik,aU,ail,aim];omega)) (by first | omega | (simp only [aik,aU,ail,aim];omega));obtain⟨t4,d4,f4,m4,q4⟩:=AX c3 [(⟨⟨[109,101,116,97,108,32,49,48,48,32]⟩⟩:ByteArray)++s1,(⟨⟨[108,101,97,115,116,32]⟩⟩:ByteArray)++s2,⟨⟨[108,101,97,115,116,32,48]⟩⟩,⟨⟨[109,101,116,97,108,32,48,32,57,57,57,57]⟩⟩,⟨⟨[109,101,116,97,108,32,45,49,32,48]⟩⟩] (B+2+2+2) k3 (by omega) (by simp) (by simp);have hm4:aB 1 [T ((⟨⟨[109,101,116,97,108,32,49,48,48,32]⟩⟩:ByteArray)++s1),T ((⟨⟨[108,101,97,115,116,32]⟩⟩:ByteArray)++s2),T ⟨⟨[108,101,97,115,116,32,48]⟩⟩,T ⟨⟨[109,101,116,97,108,32,48,32,57,57,57,57]⟩⟩,T ⟨⟨[109,101,116,97,108,32,45,49,32,48]⟩⟩]=some (txs [(⟨⟨[109,101,116,97,108,32,49,48,48,32]⟩⟩:ByteArray)++s1,(⟨⟨[108,101,97,115,116,32]⟩⟩:ByteArray)++s2,⟨⟨[108,101,97,115,116,32,48]⟩⟩,⟨⟨[109,101,116,97,108,32,48,32,57,57,57,57]⟩⟩,⟨⟨[109,101,116,97,108,32,45,49,32,48]⟩⟩]):=qb (l:=[(⟨⟨[109,101,116,97,108,32,49,48,48,32]⟩⟩:ByteArray)++s1,(⟨⟨[108,101,97,115,116,32]⟩⟩:ByteArray)++s2,⟨⟨[108,101,97,115,116,32,48]⟩⟩,⟨⟨[109,101,116,97,108,32,48,32,57,57,57,57]⟩⟩,⟨⟨[109,101,116,97,108,32,45,49,32,48]⟩⟩]);have hs4:t4.size≤100:=by
   simp only [aiu,ait,or_false] at m4;rcases m4 with rfl | rfl | rfl | rfl | rfl<;>first | omega | (simp only [aik,aU,ail,aim];omega)
  refine dB (t:=t4) (c':=d4) ?_ (by omega) (Cur.ok.mono q4 (by omega))
  simp -implicitDefEqProofs only [aq,ain,aio,aip,ga,e1,n1,e2,w2,n2,e3,a1,a2,hm4,f4]
 ·obtain⟨t4,d4,f4,m4,q4⟩:=AX c3 [⟨⟨[102,111,108,100,32,49]⟩⟩,⟨⟨[102,111,108,100,32,50]⟩⟩,⟨⟨[102,111,108,100,32,51]⟩⟩,⟨⟨[115,99,104,101,109,101]⟩⟩,⟨⟨[115,99,104,101,109,101]⟩⟩] (B+2+2+2) k3 (by omega) (by simp) (by simp)
  have hm4:aB 1 [T ⟨⟨[102,111,108,100,32,49]⟩⟩,T ⟨⟨[102,111,108,100,32,50]⟩⟩,T ⟨⟨[102,111,108,100,32,51]⟩⟩,T ⟨⟨[115,99,104,101,109,101]⟩⟩,T ⟨⟨[115,99,104,101,109,101]⟩⟩]=some (txs [⟨⟨[102,111,108,100,32,49]⟩⟩,⟨⟨[102,111,108,100,32,50]⟩⟩,⟨⟨[102,111,108,100,32,51]⟩⟩,⟨⟨[115,99,104,101,109,101]⟩⟩,⟨⟨[115,99,104,101,109,101]⟩⟩]):=qb (l:=[⟨⟨[102,111,108,100,32,49]⟩⟩,⟨⟨[102,111,108,100,32,50]⟩⟩,⟨⟨[102,111,108,100,32,51]⟩⟩,⟨⟨[115,99,104,101,109,101]⟩⟩,⟨⟨[115,99,104,101,109,101]⟩⟩]);have hs4:t4.size≤100:=by
   simp only [aiu,ait,or_false] at m4;rcases m4 with rfl | rfl | rfl | rfl | rfl<;>first | omega | (simp only [aik,aU,ail,aim];omega)
  refine dB (t:=t4) (c':=d4) ?_ (by omega) (Cur.ok.mono q4 (by omega))
  simp -implicitDefEqProofs only [aq,ain,aio,aip,ga,e1,n1,e2,w2,n2,e3,hm4,f4]
 ·obtain⟨t4,d4,f4,m4,q4⟩:=AX c3 [⟨⟨[102,108,121]⟩⟩,⟨⟨[]⟩⟩,⟨⟨[109,101,108,116]⟩⟩,⟨⟨[109,101,108,116,32,120]⟩⟩,⟨⟨[114,117,108,101]⟩⟩,⟨⟨[114,117,108,101,32,120]⟩⟩,⟨⟨[114,117,108,101,32,49,32,50]⟩⟩,⟨⟨[114,117,108,101,32,48,49]⟩⟩,⟨⟨[111,102,102,32,45,48]⟩⟩,⟨⟨[116,97,107,101,32,49,48,48,48,48,48,48]⟩⟩,⟨⟨[115,104,97,114,101,115,32,49]⟩⟩,⟨⟨[110,111,116,101,32,49,32,50]⟩⟩,⟨⟨[115,99,104,101,109,101,32]⟩⟩,⟨⟨[115,116,111,99,107]⟩⟩,⟨⟨[115,116,111,99,107,32]⟩⟩,⟨⟨[102,111,108,100,32,105,110,102]⟩⟩] (B+2+2+2) k3 (by omega) (by simp) (by simp)
  have hm4:aB 1 [T ⟨⟨[102,108,121]⟩⟩,T ⟨⟨[]⟩⟩,T ⟨⟨[109,101,108,116]⟩⟩,T ⟨⟨[109,101,108,116,32,120]⟩⟩,T ⟨⟨[114,117,108,101]⟩⟩,T ⟨⟨[114,117,108,101,32,120]⟩⟩,T ⟨⟨[114,117,108,101,32,49,32,50]⟩⟩,T ⟨⟨[114,117,108,101,32,48,49]⟩⟩,T ⟨⟨[111,102,102,32,45,48]⟩⟩,T ⟨⟨[116,97,107,101,32,49,48,48,48,48,48,48]⟩⟩,T ⟨⟨[115,104,97,114,101,115,32,49]⟩⟩,T ⟨⟨[110,111,116,101,32,49,32,50]⟩⟩,T ⟨⟨[115,99,104,101,109,101,32]⟩⟩,T ⟨⟨[115,116,111,99,107]⟩⟩,T ⟨⟨[115,116,111,99,107,32]⟩⟩,T ⟨⟨[102,111,108,100,32,105,110,102]⟩⟩]=some (txs [⟨⟨[102,108,121]⟩⟩,⟨⟨[]⟩⟩,⟨⟨[109,101,108,116]⟩⟩,⟨⟨[109,101,108,116,32,120]⟩⟩,⟨⟨[114,117,108,101]⟩⟩,⟨⟨[114,117,108,101,32,120]⟩⟩,⟨⟨[114,117,108,101,32,49,32,50]⟩⟩,⟨⟨[114,117,108,101,32,48,49]⟩⟩,⟨⟨[111,102,102,32,45,48]⟩⟩,⟨⟨[116,97,107,101,32,49,48,48,48,48,48,48]⟩⟩,⟨⟨[115,104,97,114,101,115,32,49]⟩⟩,⟨⟨[110,111,116,101,32,49,32,50]⟩⟩,⟨⟨[115,99,104,101,109,101,32]⟩⟩,⟨⟨[115,116,111,99,107]⟩⟩,⟨⟨[115,116,111,99,107,32]⟩⟩,⟨⟨[102,111,108,100,32,105,110,102]⟩⟩]):=qb (l:=[⟨⟨[102,108,121]⟩⟩,⟨⟨[]⟩⟩,⟨⟨[109,101,108,116]⟩⟩,⟨⟨[109,101,108,116,32,120]⟩⟩,⟨⟨[114,117,108,101]⟩⟩,⟨⟨[114,117,108,101,32,120]⟩⟩,⟨⟨[114,117,108,101,32,49,32,50]⟩⟩,⟨⟨[114,117,108,101,32,48,49]⟩⟩,⟨⟨[111,102,102,32,45,48]⟩⟩,⟨⟨[116,97,107,101,32,49,48,48,48,48,48,48]⟩⟩,⟨⟨[115,104,97,114,101,115,32,49]⟩⟩,⟨⟨[110,111,116,101,32,49,32,50]⟩⟩,⟨⟨[115,99,104,101,109,101,32]⟩⟩,⟨⟨[115,116,111,99,107]⟩⟩,⟨⟨[115,116,111,99,107,32]⟩⟩,⟨⟨[102,111,108,100,32,105,110,102]⟩⟩]);have hs4:t4.size≤100:=by
   simp only [aiu,ait,or_false] at m4;rcases m4 with rfl | rfl | rfl | rfl | rfl | rfl | rfl | rfl | rfl | rfl | rfl | rfl | rfl | rfl | rfl | rfl<;>first | omega | (simp only [aik,aU,ail,aim];omega)
  refine dB (t:=t4) (c':=d4) ?_ (by omega) (Cur.ok.mono q4 (by omega))
  simp -implicitDefEqProofs only [aq,ain,aio,aip,ga,e1,n1,e2,w2,n2,e3,hm4,f4]
end Go.Proofs.YtjafgdefcggjcaaGreatDoor

end
