/-
  A part of the proof: contracts and plain forms of functions beneath the statement, made small by a program (names shortened, what is not needed left out).
-/
import Derived.Test.YtjafgdefcggjcaaGreatDoorRows
import Derived.Test.YtjafgdefcggjcaaGreatDoorTie
import Derived.Test.YtjafgdefcggjcaaGreatDoorCards
import Derived.Test.YtjafgdefcggjcaaGreatDoorM10
open ByteArray renaming size_append → aiT
open List renaming length_cons → aiU, length_nil → aiV, not_mem_nil → ai1, mem_cons → ai2, length_eq_one_iff → ai4, length_append → ai9, getD_eq_getElem?_getD → aja, append_assoc → ajb, eq_nil_of_length_eq_zero → ajc, getElem?_eq_getElem → ajg, nil_append → aji, getLast?_eq_some_iff → ajj, mem_singleton → ajk, cons_append → ajm, mem_append → ajn, length_map → ajo, pairwise_cons → ajq, getElem?_map → ajs, getElem?_append_left → ajt, append_nil → aju, take_length → ajw, length_take → ajx, map_append → ajy, foldl_cons → ajz
open Int renaming reduceLT → aiW, reduceLE → aiX, reduceEq → aiY
open Go.IntKind renaming i64 → aiZ
open Option renaming bind_some → ai0, map → ai5
open Go.Value renaming int → ai3, string → ai7
open Go.Lib renaming trimSuffix → ai6
open Bool renaming false_eq_true → ai8, and_eq_true → ajd, not_true → ajh, not_false → ajl, true_eq_false → ajv
open Nat renaming le_refl → aje, zero_le → ajf
open Prod renaming ext → ajp
open List.Pairwise renaming nil → ajr
open List.Perm renaming refl → ajA
open Go.BinOp renaming add → ajB
set_option maxRecDepth 100000
set_option linter.unusedSimpArgs false
set_option linter.unusedVariables false
noncomputable section
namespace Go.Proofs.YtjafgdefcggjcaaGreatDoor
open Go Go.V
theorem zx (x0 x1:D):gk [x0,x1]=(ac (il [x1]) fun c _=>(ao (.tup c) 0).bind fun z=>(ao (.tup c) 1).bind fun e=>(stD 3 (.agg [I 0,I 0,I 0]) (.ref 0 0) z).bind fun b=>(un .not e).bind fun z=>ifD z ((aa x0 x0).bind fun _=>some (.ret [.v (.string ⟨⟨[110,111]⟩⟩)] [x0])) ((aa x0 (.ref 0 0)).bind fun z=>(aa x0 (.ref 0 0)).bind fun d=>(aa d d).bind fun f=>(aT 0 f).bind fun g=>(((atD x0 g).bind (an true 3)).bind aM).bind fun h=>(bf true 3 0 b).bind fun j=>(aA 3 [h,j]).bind fun a=>ac (kN [a]) fun c _=>(ao (.tup c) 0).bind fun k=>(ao (.tup c) 1).bind fun l=>(aa z z).bind fun z=>(aT 0 z).bind fun z=>(stD 3 x0 z k).bind fun b=>(un .not l).bind fun z=>ifD z ((aa b b).bind fun _=>some (.ret [.v (.string ⟨⟨[110,111]⟩⟩)] [b])) ((aa b (.ref 0 0)).bind fun z=>(aa z z).bind fun z=>(aT 0 z).bind fun z=>(((atD b z).bind (an true 3)).bind aM).bind fun z=>ac (gz [z]) fun c _=>(aa b b).bind fun _=>some (.ret [sl c 0] [b])))):=by kernel_rfl
theorem zB (x0 x1:D):gj [x0,x1]=((aa x0 (.ref 0 0)).bind fun z=>(aa z z).bind fun z=>(aT 0 z).bind fun z=>(((atD x0 z).bind (an true 3)).bind aM).bind fun z=>ac (mi [z,x1]) fun c _=>(ao (.tup c) 0).bind fun z=>(ao (.tup c) 1).bind fun e=>(ao (.tup c) 2).bind fun f=>(stD 3 (.agg [I 0,I 0,I 0]) (.ref 0 0) z).bind fun _=>(stD 3 (.agg [I 0,I 0,I 0]) (.ref 0 0) e).bind fun b=>(un .not f).bind fun z=>ifD z ((aa x0 x0).bind fun _=>some (.ret [.v (.string ⟨⟨[110,111]⟩⟩)] [x0])) ((aa x0 (.ref 0 0)).bind fun z=>(bf true 3 0 b).bind fun g=>(aa z z).bind fun z=>(aT 0 z).bind fun z=>(stD 3 x0 z g).bind fun d=>(bf true 3 0 b).bind fun z=>ac (gz [z]) fun c _=>(aa d d).bind fun _=>some (.ret [sl c 0] [d]))):=by kernel_rfl
theorem IC (x0:D):jK [x0]=((aA 2 []).bind fun a=>ac (fQ [x0]) fun c _=>(ba (fun s=>(lenD false (sl s 2)).bind fun z=>(bin .geq false [] z (I 2)).bind fun z=>ifD z ((ai5 D.ptr (aq 1 (sl s 2) (I 1))).bind fun z=>((ldD false 1 z).bind aM).bind fun z=>(ai5 D.ptr (aq 1 (sl s 2) (I 0))).bind fun d=>((ldD false 1 d).bind aM).bind fun e=>(dp [(0,1),(1,1)] [I 0,I 0] [z,e]).bind fun z=>(aA 2 [z]).bind fun a=>(cR a).bind fun b=>(bB 2 16 (sl s 1) b).bind fun y=>(cU false 1 (sl s 2) (I 2)).bind fun z=>some (.nrm [sl s 0,y,z])) (some (.ext 0 [sl s 0,sl s 1]))) [x0,a,sl c 0]).bind fun o=>bV o (fun i s=>ifN (i.beq 0) ((aa (sl s 1) (.ref 0 0)).bind fun z=>(aa z (sl s 1)).bind fun i=>ac (eE [i]) fun c _=>(un .not (sl c 0)).bind fun z=>(aj D.bad z false (aa (sl s 1) (.ref 0 0))).bind fun d=>cQ z false ((aa d (sl s 1)).bind fun i=>ac (FH [i]) fun c _=>some (.nrm [sl c 0])) [.tup []] fun f=>(aj (.tup []) z false (some (sl s 0))).bind fun e=>(aj (.tup []) z false (bin .neq false [] (sl f 0) e)).bind fun g=>(aS z (B true) g).bind fun z=>ifD z ((aA 2 []).bind fun a=>some (.ret [a,B false] [])) (some (.ret [sl s 1,B true] []))) none) fun a b=>some (.ret a b)):=by kernel_rfl
theorem zC (x0 x1:D):gn [x0,x1]=((aa x0 (.ref 0 0)).bind fun z=>(aa z z).bind fun z=>(aT 3 z).bind fun z=>((atD x0 z).bind (an false 1)).bind fun z=>ac (pq [z,x1]) fun c _=>(ao (.tup c) 0).bind fun z=>(ao (.tup c) 1).bind fun f=>(un .not f).bind fun g=>ifD g ((aa x0 x0).bind fun _=>some (.ret [.v (.string ⟨⟨[110,111]⟩⟩)] [x0])) ((aa x0 (.ref 0 0)).bind fun d=>(aa x0 (.ref 0 0)).bind fun e=>(aa e e).bind fun h=>(aT 3 h).bind fun j=>((atD x0 j).bind (an false 1)).bind fun k=>ac (tX [k,z]) fun c _=>(aa d d).bind fun l=>(aT 3 l).bind fun m=>(stD 1 x0 m (sl c 0)).bind fun b=>ac (dm [z,.v (.string ⟨⟨[32]⟩⟩)]) fun c _=>(aa b b).bind fun _=>some (.ret [sl c 0] [b]))):=by kernel_rfl
theorem JK (x0 x1 x2:D):lj [x0,x1,x2]=((aa x0 (.ref 0 0)).bind fun z=>(aa z z).bind fun z=>(aT 3 z).bind fun z=>((atD x0 z).bind (an false 1)).bind fun z=>ac (oe [z,x1,x2]) fun c _=>(ao (.tup c) 0).bind fun z=>(ao (.tup c) 1).bind fun e=>(un .not e).bind fun f=>ifD f ((aa x0 x0).bind fun _=>some (.ret [.v (.string ⟨⟨[110,111]⟩⟩)] [x0])) ((aa x0 (.ref 0 0)).bind fun d=>(aa d d).bind fun g=>(aT 3 g).bind fun h=>(stD 1 x0 h z).bind fun b=>ac (FH [z]) fun c _=>(aa b b).bind fun _=>some (.ret [sl c 0] [b]))):=by kernel_rfl
theorem Ke (x0 x1:D):kO [x0,x1]=((aa x0 (.ref 0 0)).bind fun z=>(aA 1 []).bind fun a=>(aa x0 (.ref 0 0)).bind fun d=>(aa d d).bind fun f=>(aT 4 f).bind fun g=>((atD x0 g).bind (an false 1)).bind fun h=>(cR h).bind fun b=>(bB 1 8 a b).bind fun y=>(aA 1 [x1]).bind fun a=>(bB 1 8 y a).bind fun y=>(aa z z).bind fun z=>(aT 4 z).bind fun z=>(stD 1 x0 z y).bind fun b=>(aa b (.ref 0 0)).bind fun z=>(aa z z).bind fun z=>(aT 4 z).bind fun z=>((atD b z).bind (an false 1)).bind fun z=>(lenD false z).bind fun z=>(aa b (.ref 0 0)).bind fun e=>(aa e e).bind fun j=>(aT 4 j).bind fun k=>((atD b k).bind (an false 1)).bind fun l=>ac (iC [l]) fun c _=>ac (cv [z,sl c 0]) fun c _=>(aa b b).bind fun _=>some (.ret [sl c 0] [b])):=by kernel_rfl
theorem Fv (x0:D):iP [x0]=(ac (fp [x0]) fun c _=>(un .not (sl c 0)).bind fun z=>(aj (.tup []) z false (some x0)).bind fun d=>cQ z false (ac (se [d]) fun c _=>some (.nrm [sl c 0])) [.tup []] fun e=>(aj (.tup []) z false (lenD true (sl e 0))).bind fun f=>(aj (.tup []) z false (bin .gtr false [] f (I 300))).bind fun g=>(aS z (B true) g).bind fun z=>ifD z (some (.ret [.v (.string ⟨⟨[]⟩⟩),B false] [])) (ac (se [x0]) fun c _=>some (.ret [sl c 0,B true] []))):=by kernel_rfl
theorem Hj (x0 x1:D):jO [x0,x1]=((gu 3 x1).bind fun y=>ac (dS [x0]) fun c _=>(ao (.tup c) 0).bind fun d=>(ao (dy (.tup c) 0) 1).bind fun z=>(un .not z).bind fun z=>(aj (.tup []) z false (bf true 3 0 y)).bind fun e=>cQ z false (ac (lT [e]) fun c _=>some (.nrm [sl c 0])) [.tup []] fun f=>(aj (.tup []) z false (un .not (sl f 0))).bind fun g=>(aS z (B true) g).bind fun z=>ifD z (some (.ret [.v (.string ⟨⟨[]⟩⟩),B false] [])) ((bf true 3 0 y).bind fun z=>(aA 3 [z]).bind fun a=>(bB 3 24 d a).bind fun y=>ac (iP [y]) fun c _=>(ao (.tup c) 0).bind fun z=>(ao (.tup c) 1).bind fun h=>some (.ret [z,h] []))):=by kernel_rfl
theorem GW (x0 x1:D):kb [x0,x1]=((gu 3 x1).bind fun y=>(aa x0 (.ref 0 0)).bind fun z=>(aa z z).bind fun z=>(aT 5 z).bind fun z=>(((atD x0 z).bind (an false 1)).bind aM).bind fun z=>(bf true 3 0 y).bind fun e=>ac (jO [z,e]) fun c _=>(ao (.tup c) 0).bind fun z=>(ao (.tup c) 1).bind fun f=>(aa x0 (.ref 0 0)).bind fun d=>(aa d d).bind fun g=>(aT 5 g).bind fun h=>(stD 1 x0 h z).bind fun b=>ac (dS [z]) fun c _=>(ao (.tup c) 0).bind fun y=>(ao (dy (.tup c) 0) 1).bind fun _=>(lenD false y).bind fun z=>ac (cv [z,f]) fun c _=>(aa b b).bind fun _=>some (.ret [sl c 0] [b])):=by kernel_rfl
theorem Iu (x0 x1:D):ke [x0,x1]=((aa x0 (.ref 0 0)).bind fun z=>(aA 2 []).bind fun a=>(aa x0 (.ref 0 0)).bind fun d=>(aa d d).bind fun f=>(aT 6 f).bind fun g=>((atD x0 g).bind (an false 1)).bind fun h=>(cR h).bind fun b=>(bB 2 16 a b).bind fun y=>(dp [(0,1),(1,1)] [I 0,B false] [x1,B true]).bind fun j=>(aA 2 [j]).bind fun a=>(bB 2 16 y a).bind fun y=>(aa z z).bind fun z=>(aT 6 z).bind fun z=>(stD 1 x0 z y).bind fun b=>(aa b (.ref 0 0)).bind fun z=>(aa z z).bind fun z=>(aT 6 z).bind fun z=>((atD b z).bind (an false 1)).bind fun z=>(lenD false z).bind fun z=>(aa b (.ref 0 0)).bind fun e=>(aa e e).bind fun k=>(aT 6 k).bind fun l=>((atD b l).bind (an false 1)).bind fun m=>ac (dN [m]) fun c _=>ac (cv [z,sl c 0]) fun c _=>(aa b b).bind fun _=>some (.ret [sl c 0] [b])):=by kernel_rfl
theorem Rq (x0:D):pA [x0]=((aA 1 []).bind fun a=>(cR x0).bind fun b=>(bB 1 8 a b).bind fun y=>(aa y (.ref 0 0)).bind fun z=>(cI z y).bind fun i=>(aa i i).bind fun i=>ac (Jv [i]) fun _ c=>some (.ret [sl c 0] [])):=by kernel_rfl
theorem JJ (x0:D):kH [x0]=(ac (iC [x0]) fun c _=>(un .not (sl c 0)).bind fun z=>ifD z (some (.ret [I 0,B false] [])) (ac (pA [x0]) fun c _=>(lenD false x0).bind fun z=>(bin .sub false [] z (I 1)).bind fun z=>(bin .quo false [] z (I 2)).bind fun z=>(ai5 D.ptr (aq 1 (sl c 0) z)).bind fun z=>((ldD false 1 z).bind aM).bind fun z=>some (.ret [z,B true] []))):=by kernel_rfl
theorem Jx (x0 x1:D):lh [x0,x1]=((gu 3 x1).bind fun y=>(aa x0 (.ref 0 0)).bind fun z=>(aa z z).bind fun z=>(aT 5 z).bind fun z=>(((atD x0 z).bind (an false 1)).bind aM).bind fun z=>ac (dS [z]) fun c _=>(ao (.tup c) 0).bind fun j=>(ao (dy (.tup c) 0) 1).bind fun _=>(aa y (.ref 0 0)).bind fun z=>(((atD y z).bind (an false 1)).bind aM).bind fun z=>(bin .eql false [] z (.v (.string ⟨⟨[115,104,97,114,101,115]⟩⟩))).bind fun k=>ifD k ((aa x0 (.ref 0 0)).bind fun z=>(aa z z).bind fun z=>(aT 0 z).bind fun z=>(((atD x0 z).bind (an true 3)).bind aM).bind fun z=>ac (mf [z]) fun c _=>(ao (.tup c) 0).bind fun y=>(ao (dy (.tup c) 0) 1).bind fun z=>(un .not z).bind fun z=>ifD z ((aa x0 x0).bind fun _=>some (.ret [.v (.string ⟨⟨[110,111]⟩⟩)] [x0])) (ac (dm [y,.v (.string ⟨⟨[32]⟩⟩)]) fun c _=>(aa x0 x0).bind fun _=>some (.ret [sl c 0] [x0]))) ((bin .eql false [] z (.v (.string ⟨⟨[109,105,115,115,105,110,103]⟩⟩))).bind fun l=>ifD l ((aa x0 (.ref 0 0)).bind fun z=>(aa z z).bind fun z=>(aT 3 z).bind fun z=>((atD x0 z).bind (an false 1)).bind fun z=>(aa y (.ref 0 2)).bind fun g=>((atD y g).bind (an false 1)).bind fun d=>(ai5 D.ptr (aq 1 d (I 0))).bind fun e=>((ldD false 1 e).bind aM).bind fun f=>ac (jL [z,f]) fun c _=>(ao (.tup c) 0).bind fun z=>(ao (.tup c) 1).bind fun h=>ac (cv [z,h]) fun c _=>(aa x0 x0).bind fun _=>some (.ret [sl c 0] [x0])) ((bin .eql false [] z (.v (.string ⟨⟨[109,101,100,105,97,110]⟩⟩))).bind fun g=>ifD g ((aa x0 (.ref 0 0)).bind fun z=>(aa z z).bind fun z=>(aT 4 z).bind fun z=>((atD x0 z).bind (an false 1)).bind fun z=>ac (kH [z]) fun c _=>(ao (.tup c) 0).bind fun z=>(ao (.tup c) 1).bind fun d=>ac (cv [z,d]) fun c _=>(aa x0 x0).bind fun _=>some (.ret [sl c 0] [x0])) ((bin .eql false [] z (.v (.string ⟨⟨[100,114,105,102,116]⟩⟩))).bind fun d=>ifD d ((aa x0 (.ref 0 0)).bind fun z=>(aa z z).bind fun z=>(aT 4 z).bind fun z=>((atD x0 z).bind (an false 1)).bind fun z=>ac (ib [z]) fun c _=>(ao (.tup c) 0).bind fun z=>(ao (.tup c) 1).bind fun e=>(ao (.tup c) 2).bind fun _=>(aA 1 [z,e]).bind fun a=>ac (dm [a,.v (.string ⟨⟨[32]⟩⟩)]) fun c _=>(aa x0 x0).bind fun _=>some (.ret [sl c 0] [x0])) ((bin .eql false [] z (.v (.string ⟨⟨[109,101,116,97,108]⟩⟩))).bind fun e=>ifD e ((aa y (.ref 0 2)).bind fun z=>((atD y z).bind (an false 1)).bind fun z=>(ai5 D.ptr (aq 1 z (I 0))).bind fun z=>((ldD false 1 z).bind aM).bind fun z=>(aa y (.ref 0 2)).bind fun f=>((atD y f).bind (an false 1)).bind fun h=>(ai5 D.ptr (aq 1 h (I 1))).bind fun m=>((ldD false 1 m).bind aM).bind fun n=>ac (jU [j,z,n]) fun c _=>(ao (.tup c) 0).bind fun z=>(ao (.tup c) 1).bind fun p=>ac (cv [z,p]) fun c _=>(aa x0 x0).bind fun _=>some (.ret [sl c 0] [x0])) ((bin .eql false [] z (.v (.string ⟨⟨[108,101,97,115,116]⟩⟩))).bind fun z=>ifD z ((aa y (.ref 0 2)).bind fun z=>((atD y z).bind (an false 1)).bind fun z=>(ai5 D.ptr (aq 1 z (I 0))).bind fun z=>((ldD false 1 z).bind aM).bind fun z=>ac (jJ [j,z]) fun c _=>(ao (.tup c) 0).bind fun z=>(ao (.tup c) 1).bind fun _=>(ao (.tup c) 2).bind fun f=>ac (cv [z,f]) fun c _=>(aa x0 x0).bind fun _=>some (.ret [sl c 0] [x0])) ((aa x0 (.ref 0 0)).bind fun z=>(aa z z).bind fun z=>(aT 6 z).bind fun z=>((atD x0 z).bind (an false 1)).bind fun z=>ac (Ch [z]) fun c _=>(ao (.tup c) 0).bind fun z=>(ao (.tup c) 1).bind fun _=>(aa x0 x0).bind fun _=>some (.ret [z] [x0])))))))):=by kernel_rfl
theorem bc (x0 x1:D):aO [x0,x1]=((gu 3 x1).bind fun y=>(aa y (.ref 0 0)).bind fun z=>(((atD y z).bind (an false 1)).bind aM).bind fun z=>(bin .eql false [] z (.v (.string ⟨⟨[109,101,108,116]⟩⟩))).bind fun u=>ifD u ((aa x0 (.ref 0 0)).bind fun z=>(aa y (.ref 0 1)).bind fun q=>(((atD y q).bind (an false 1)).bind aM).bind fun n=>ac (il [n]) fun d _=>(ao (.tup d) 0).bind fun g=>(ao (.tup d) 1).bind fun h=>(aa z z).bind fun z=>(aT 0 z).bind fun z=>(stD 3 x0 z g).bind fun b=>ac (ku [h]) fun d _=>(aa b b).bind fun _=>some (.ret [sl d 0] [b])) ((bin .eql false [] z (.v (.string ⟨⟨[106,111,105,110]⟩⟩))).bind fun q=>ifD q ((aa x0 (.ref 0 0)).bind fun z=>(aa y (.ref 0 1)).bind fun n=>(((atD y n).bind (an false 1)).bind aM).bind fun g=>(cI z x0).bind fun i=>(aa i i).bind fun i=>ac (gk [i,g]) fun d c=>(aa (sl c 0) (sl c 0)).bind fun _=>some (.ret [sl d 0] [sl c 0])) ((bin .eql false [] z (.v (.string ⟨⟨[116,97,107,101]⟩⟩))).bind fun n=>ifD n ((aa x0 (.ref 0 0)).bind fun z=>(aa y (.ref 0 2)).bind fun g=>((atD y g).bind (an false 1)).bind fun h=>(ai5 D.ptr (aq 1 h (I 0))).bind fun j=>((ldD false 1 j).bind aM).bind fun f=>(cI z x0).bind fun i=>(aa i i).bind fun i=>ac (gj [i,f]) fun d c=>(aa (sl c 0) (sl c 0)).bind fun _=>some (.ret [sl d 0] [sl c 0])) ((bin .eql false [] z (.v (.string ⟨⟨[115,116,111,99,107]⟩⟩))).bind fun g=>ifD g ((aa x0 (.ref 0 0)).bind fun z=>(aa y (.ref 0 1)).bind fun h=>(((atD y h).bind (an false 1)).bind aM).bind fun j=>ac (jK [j]) fun d _=>(ao (.tup d) 0).bind fun y=>(ao (dy (.tup d) 0) 1).bind fun f=>(aa z z).bind fun z=>(aT 3 z).bind fun z=>(stD 1 x0 z y).bind fun b=>ac (ku [f]) fun d _=>(aa b b).bind fun _=>some (.ret [sl d 0] [b])) ((bin .eql false [] z (.v (.string ⟨⟨[114,117,108,101]⟩⟩))).bind fun h=>ifD h ((aa x0 (.ref 0 0)).bind fun z=>(aa y (.ref 0 2)).bind fun j=>((atD y j).bind (an false 1)).bind fun f=>(ai5 D.ptr (aq 1 f (I 0))).bind fun k=>((ldD false 1 k).bind aM).bind fun e=>(cI z x0).bind fun i=>(aa i i).bind fun i=>ac (gn [i,e]) fun d c=>(aa (sl c 0) (sl c 0)).bind fun _=>some (.ret [sl d 0] [sl c 0])) ((bin .eql false [] z (.v (.string ⟨⟨[99,117,116]⟩⟩))).bind fun j=>ifD j ((aa x0 (.ref 0 0)).bind fun z=>(aa y (.ref 0 2)).bind fun f=>((atD y f).bind (an false 1)).bind fun k=>(ai5 D.ptr (aq 1 k (I 0))).bind fun e=>((ldD false 1 e).bind aM).bind fun l=>(aa y (.ref 0 2)).bind fun m=>((atD y m).bind (an false 1)).bind fun p=>(ai5 D.ptr (aq 1 p (I 1))).bind fun r=>((ldD false 1 r).bind aM).bind fun t=>(cI z x0).bind fun i=>(aa i i).bind fun i=>ac (lj [i,l,t]) fun d c=>(aa (sl c 0) (sl c 0)).bind fun _=>some (.ret [sl d 0] [sl c 0])) ((bin .eql false [] z (.v (.string ⟨⟨[111,102,102]⟩⟩))).bind fun f=>ifD f ((aa x0 (.ref 0 0)).bind fun z=>(aa y (.ref 0 2)).bind fun k=>((atD y k).bind (an false 1)).bind fun e=>(ai5 D.ptr (aq 1 e (I 0))).bind fun l=>((ldD false 1 l).bind aM).bind fun m=>(cI z x0).bind fun i=>(aa i i).bind fun i=>ac (kO [i,m]) fun d c=>(aa (sl c 0) (sl c 0)).bind fun _=>some (.ret [sl d 0] [sl c 0])) ((bin .eql false [] z (.v (.string ⟨⟨[110,111,116,101]⟩⟩))).bind fun k=>ifD k ((aa x0 (.ref 0 0)).bind fun z=>(aa y (.ref 0 2)).bind fun e=>((atD y e).bind (an false 1)).bind fun l=>(ai5 D.ptr (aq 1 l (I 0))).bind fun m=>((ldD false 1 m).bind aM).bind fun p=>(aa y (.ref 0 2)).bind fun r=>((atD y r).bind (an false 1)).bind fun t=>(ai5 D.ptr (aq 1 t (I 1))).bind fun v=>((ldD false 1 v).bind aM).bind fun w=>(aa y (.ref 0 2)).bind fun za=>((atD y za).bind (an false 1)).bind fun zb=>(ai5 D.ptr (aq 1 zb (I 2))).bind fun zc=>((ldD false 1 zc).bind aM).bind fun zd=>(dp [(0,1),(1,1),(2,1)] [I 0,I 0,I 0] [p,w,zd]).bind fun ze=>(cI z x0).bind fun i=>(aa i i).bind fun i=>ac (kb [i,ze]) fun d c=>(aa (sl c 0) (sl c 0)).bind fun _=>some (.ret [sl d 0] [sl c 0])) ((bin .eql false [] z (.v (.string ⟨⟨[102,111,108,100]⟩⟩))).bind fun z=>ifD z ((aa x0 (.ref 0 0)).bind fun z=>(aa y (.ref 0 2)).bind fun e=>((atD y e).bind (an false 1)).bind fun l=>(ai5 D.ptr (aq 1 l (I 0))).bind fun m=>((ldD false 1 m).bind aM).bind fun p=>(cI z x0).bind fun i=>(aa i i).bind fun i=>ac (ke [i,p]) fun d c=>(aa (sl c 0) (sl c 0)).bind fun _=>some (.ret [sl d 0] [sl c 0])) ((aa x0 (.ref 0 0)).bind fun z=>(bf true 3 0 y).bind fun e=>(cI z x0).bind fun i=>(aa i i).bind fun i=>ac (lh [i,e]) fun d c=>(aa (sl c 0) (sl c 0)).bind fun _=>some (.ret [sl d 0] [sl c 0]))))))))))):=by kernel_rfl
theorem Ff (x0 x1:D):fU [x0,x1]=(ac (VN [x1]) fun c _=>(ao (.tup c) 0).bind fun z=>(ao (.tup c) 1).bind fun e=>(stD 3 (.agg [.v (.string ⟨⟨[]⟩⟩),.v (.string ⟨⟨[]⟩⟩),.arr 1 []]) (.ref 0 0) z).bind fun b=>(un .not e).bind fun z=>ifD z ((aa x0 x0).bind fun _=>some (.ret [.v (.string ⟨⟨[119,104,97,116]⟩⟩)] [x0])) ((aa x0 (.ref 0 0)).bind fun z=>(aa z z).bind fun z=>((atD x0 z).bind (an true 7)).bind fun z=>(stD 7 (.agg [I 0,I 0,I 0,.arr 2 [],.arr 1 [],.v (.string ⟨⟨[]⟩⟩),.arr 2 []]) (.ref 0 0) z).bind fun d=>(bf true 3 0 b).bind fun z=>(aa d d).bind fun i=>ac (aO [i,z]) fun c f=>(bin .neq false [] (sl c 0) (.v (.string ⟨⟨[110,111]⟩⟩))).bind fun z=>ifD z ((aa x0 (.ref 0 0)).bind fun z=>(bf true 7 0 (sl f 0)).bind fun g=>(aa z z).bind fun z=>(stD 7 x0 z g).bind fun b=>(aa b b).bind fun _=>some (.ret [sl c 0] [b])) ((aa x0 x0).bind fun _=>some (.ret [sl c 0] [x0])))):=by kernel_rfl
theorem JS (x0:D):eQ [x0]=(ac (gf [x0]) fun c _=>(ao (.tup c) 0).bind fun z=>(ao (.tup c) 1).bind fun d=>(un .not d).bind fun e=>ifD e ((dp [] [I 0,I 0,I 0,.arr 2 [],.arr 1 [],.v (.string ⟨⟨[]⟩⟩),.arr 2 []] []).bind fun z=>(stD 7 (.agg [I 0,I 0,I 0,.arr 2 [],.arr 1 [],.v (.string ⟨⟨[]⟩⟩),.arr 2 []]) (.ref 0 0) z).bind fun b=>(bf true 7 0 b).bind fun y=>some (.ret [y,.arr 1 [],B false] [])) ((aA 1 [I 0]).bind fun a=>(dp [(4,1)] [I 0,I 0,I 0,.arr 2 [],.arr 1 [],.v (.string ⟨⟨[]⟩⟩),.arr 2 []] [a]).bind fun f=>(stD 7 (.agg [I 0,I 0,I 0,.arr 2 [],.arr 1 [],.v (.string ⟨⟨[]⟩⟩),.arr 2 []]) (.ref 0 0) f).bind fun b=>(aA 1 []).bind fun a=>(lenD false z).bind fun g=>(ba (fun s=>(bin .lss false [] (sl s 5) (sl s 4)).bind fun z=>ifD z ((ai5 D.ptr (aq 1 (sl s 3) (sl s 5))).bind fun z=>((ldD false 1 z).bind aM).bind fun z=>(aa (sl s 1) (sl s 1)).bind fun i=>ac (fU [i,z]) fun c h=>(aA 1 [sl c 0]).bind fun a=>(cR a).bind fun b=>(bB 1 16 (sl s 2) b).bind fun y=>(bin .add false [] (sl s 5) (I 1)).bind fun z=>some (.nrm [sl s 0,sl h 0,y,sl s 3,sl s 4,z])) (some (.ext 0 [sl s 0,sl s 1,sl s 2]))) [.agg [I 0,I 0,I 0,.arr 2 [],.arr 1 [],.v (.string ⟨⟨[]⟩⟩),.arr 2 []],b,a,z,g,I 0]).bind fun o=>bV o (fun i s=>ifN (i.beq 0) ((bf true 7 0 (sl s 1)).bind fun z=>(stD 7 (sl s 0) (.ref 0 0) z).bind fun b=>(bf true 7 0 b).bind fun y=>some (.ret [y,sl s 2,B true] [])) none) fun a b=>some (.ret a b))):=by kernel_rfl
theorem Cs (x0:D):hX [x0]=(ac (eQ [x0]) fun c _=>(ao (.tup c) 0).bind fun z=>(ao (.tup c) 1).bind fun _=>(ao (dy (.tup c) 1) 2).bind fun d=>(stD 7 (.agg [I 0,I 0,I 0,.arr 2 [],.arr 1 [],.v (.string ⟨⟨[]⟩⟩),.arr 2 []]) (.ref 0 0) z).bind fun b=>(aa b (.ref 0 5)).bind fun z=>(((atD b z).bind (an false 1)).bind aM).bind fun z=>some (.ret [z,d] [])):=by kernel_rfl
theorem CF (x0:D):hP [x0]=(ac (As [x0]) fun c _=>(ao (.tup c) 0).bind fun z=>(ao (.tup c) 1).bind fun _=>(ao (.tup c) 2).bind fun d=>(un .not d).bind fun e=>ifD e (some (.ret [.v (.string ⟨⟨[]⟩⟩),B false] [])) ((Pg z).bind fun z=>(lD 5 z).bind fun z=>((ldD false 1 z).bind aM).bind fun z=>some (.ret [z,B true] []))):=by kernel_rfl
theorem Ky (x0:D):kZ [x0]=(ac (eQ [x0]) fun c _=>(ao (.tup c) 0).bind fun z=>(ao (.tup c) 1).bind fun _=>(ao (dy (.tup c) 1) 2).bind fun d=>(stD 7 (.agg [I 0,I 0,I 0,.arr 2 [],.arr 1 [],.v (.string ⟨⟨[]⟩⟩),.arr 2 []]) (.ref 0 0) z).bind fun b=>(aa b (.ref 0 0)).bind fun z=>(((atD b z).bind (an true 3)).bind aM).bind fun z=>(stD 3 (.agg [I 0,I 0,I 0]) (.ref 0 0) z).bind fun b=>(bf true 3 0 b).bind fun y=>some (.ret [y,d] [])):=by kernel_rfl
theorem JD (x0:D):kL [x0]=(ac (As [x0]) fun c _=>(ao (.tup c) 0).bind fun z=>(ao (.tup c) 1).bind fun _=>(ao (.tup c) 2).bind fun d=>(un .not d).bind fun e=>ifD e ((dp [] [I 0,I 0,I 0] []).bind fun z=>(stD 3 (.agg [I 0,I 0,I 0]) (.ref 0 0) z).bind fun b=>(bf true 3 0 b).bind fun y=>some (.ret [y,B false] [])) ((Pg z).bind fun z=>(lD 0 z).bind fun z=>((ldD true 3 z).bind aM).bind fun z=>(stD 3 (.agg [I 0,I 0,I 0]) (.ref 0 0) z).bind fun b=>(bf true 3 0 b).bind fun y=>some (.ret [y,B true] []))):=by kernel_rfl
theorem HR (x0:D):jI [x0]=(ac (eQ [x0]) fun c _=>(ao (.tup c) 0).bind fun z=>(ao (.tup c) 1).bind fun _=>(ao (dy (.tup c) 1) 2).bind fun d=>(stD 7 (.agg [I 0,I 0,I 0,.arr 2 [],.arr 1 [],.v (.string ⟨⟨[]⟩⟩),.arr 2 []]) (.ref 0 0) z).bind fun b=>(aA 2 []).bind fun a=>(aa b (.ref 0 3)).bind fun z=>((atD b z).bind (an false 1)).bind fun z=>(cR z).bind fun b=>(bB 2 16 a b).bind fun y=>some (.ret [y,d] [])):=by kernel_rfl
theorem Gm (x0:D):jS [x0]=(ac (As [x0]) fun c _=>(ao (.tup c) 0).bind fun z=>(ao (.tup c) 1).bind fun _=>(ao (.tup c) 2).bind fun d=>(un .not d).bind fun e=>ifD e (some (.ret [.arr 2 [],B false] [])) ((aA 2 []).bind fun a=>(Pg z).bind fun z=>(lD 3 z).bind fun z=>(ldD false 1 z).bind fun z=>(cR z).bind fun b=>(bB 2 16 a b).bind fun y=>some (.ret [y,B true] []))):=by kernel_rfl
theorem FN (x0:D):fW [x0]=(ac (eQ [x0]) fun c _=>(ao (.tup c) 0).bind fun z=>(ao (.tup c) 1).bind fun y=>(ao (dy (.tup c) 1) 2).bind fun e=>(stD 7 (.agg [I 0,I 0,I 0,.arr 2 [],.arr 1 [],.v (.string ⟨⟨[]⟩⟩),.arr 2 []]) (.ref 0 0) z).bind fun _=>(aA 1 []).bind fun a=>(lenD false y).bind fun z=>(ba (fun s=>(bin .lss false [] (sl s 4) (sl s 3)).bind fun z=>ifD z ((ai5 D.ptr (aq 1 (sl s 2) (sl s 4))).bind fun z=>((ldD false 1 z).bind aM).bind fun z=>(bin .eql false [] z (.v (.string ⟨⟨[110,111]⟩⟩))).bind fun d=>(aj (.tup []) d false (some z)).bind fun z=>(aj (.tup []) d false (bin .eql false [] z (.v (.string ⟨⟨[119,104,97,116]⟩⟩)))).bind fun z=>(aS d (B true) z).bind fun z=>ifD z ((bin .add false [] (sl s 4) (I 1)).bind fun z=>(aA 1 [z]).bind fun a=>(cR a).bind fun b=>(bB 1 8 (sl s 1) b).bind fun y=>(bin .add false [] (sl s 4) (I 1)).bind fun z=>some (.nrm [sl s 0,y,sl s 2,sl s 3,z])) ((bin .add false [] (sl s 4) (I 1)).bind fun z=>some (.nrm [sl s 0,sl s 1,sl s 2,sl s 3,z]))) (some (.ext 0 [sl s 0,sl s 1]))) [e,a,y,z,I 0]).bind fun o=>bV o (fun i s=>ifN (i.beq 0) (some (.ret [sl s 1,sl s 0] [])) none) fun a b=>some (.ret a b)):=by kernel_rfl
theorem FD (x0:D):iW [x0]=(ac (As [x0]) fun c _=>(ao (.tup c) 0).bind fun z=>(ao (.tup c) 1).bind fun _=>(ao (.tup c) 2).bind fun d=>(un .not d).bind fun e=>ifD e (some (.ret [.arr 1 [],B false] [])) ((Pg z).bind fun f=>(lD 7 f).bind fun g=>(ldD false 1 g).bind fun h=>ac (gB [h]) fun c _=>(Pg z).bind fun z=>(lD 8 z).bind fun z=>(ldD false 1 z).bind fun z=>(bB 1 8 (sl c 0) z).bind fun y=>(lenD false y).bind fun z=>(ba (fun s=>(bin .lss false [] (sl s 3) (sl s 2)).bind fun z=>ifD z ((ai5 D.ptr (aq 1 (sl s 1) (sl s 3))).bind fun z=>((ldD false 1 z).bind aM).bind fun z=>ac (rH [sl s 0,z]) fun c _=>(bin .add false [] (sl s 3) (I 1)).bind fun z=>some (.nrm [sl c 0,sl s 1,sl s 2,z])) (some (.ext 0 [sl s 0]))) [.arr 1 [],y,z,I 0]).bind fun o=>bV o (fun i s=>ifN (i.beq 0) (some (.ret [sl s 0,B true] [])) none) fun a b=>some (.ret a b))):=by kernel_rfl
end Go.Proofs.YtjafgdefcggjcaaGreatDoor

namespace Go.Proofs.YtjafgdefcggjcaaGreatDoor
open Go.V
set_option maxRecDepth 100000
open Go Go.V
def st7 (c:Cn):D:=.agg [I c.m.1,I c.m.2.1,I c.m.2.2,sls c.s,ai c.t,T c.j,fos c.f]
section
variable (c:Cn)
theorem bE:aa (st7 c) (D.ref 0 0)=some (D.ref 0 0):=rfl
theorem bZ:aa (st7 c) (st7 c)=some (st7 c):=rfl
theorem gW:cI (D.ref 0 0) (st7 c)=some (st7 c):=rfl
theorem NN:((atD (st7 c) (.ref 0 0)).bind (an true 3)).bind aM=some (me c.m):=rfl
theorem WR:(atD (st7 c) (.ref 0 3)).bind (an false 1)=some (sls c.s):=rfl
theorem acw:(atD (st7 c) (.ref 0 4)).bind (an false 1)=some (ai c.t):=rfl
theorem ED:((atD (st7 c) (.ref 0 5)).bind (an false 1)).bind aM=some (T c.j):=rfl
theorem age:(atD (st7 c) (.ref 0 6)).bind (an false 1)=some (fos c.f):=rfl
theorem nf (m:Me):stD 3 (st7 c) (.ref 0 0) (me m)=some (st7 {c with m:=m}):=rfl
theorem oC (s:List Slp):stD 1 (st7 c) (.ref 0 3) (sls s)=some (st7 {c with s:=s}):=rfl
theorem ahs (t:List Int):stD 1 (st7 c) (.ref 0 4) (ai t)=some (st7 {c with t:=t}):=rfl
theorem ahK (j:ByteArray):stD 1 (st7 c) (.ref 0 5) (T j)=some (st7 {c with j:=j}):=rfl
theorem ah3 (f:List Fo):stD 1 (st7 c) (.ref 0 6) (fos f)=some (st7 {c with f:=f}):=rfl
theorem acR:(atD (st7 c) (.ref 0 0)).bind (an true 7)=some (st7 c):=rfl
theorem Yw:bf true 7 0 (st7 c)=some (st7 c):=rfl
theorem UK (d:Cn):stD 7 (st7 c) (.ref 0 0) (st7 d)=some (st7 d):=rfl
end
def PM (c:Cn) (s:ByteArray):ByteArray × Cn :=
 if (pM s).isSome=false then(noT,c) else if joB [c.m,meO (pM s)]=false then(noT,{c with m:=joR [c.m,meO (pM s)]}) else(mtT (joR [c.m,meO (pM s)]),{c with m:=joR [c.m,meO (pM s)]})
theorem Mv (c:Cn) (s:ByteArray) (h:s.size≤1048576):gk [st7 c,T s]=some (.ret [T (PM c s).1] [st7 (PM c s).2]):=by
 rw [zx];have e1:=wO s h;unfold PM;cases hq:(pM s).isSome<;>rw [hq] at e1
 ·simp -implicitDefEqProofs only [aw,aiW,aiX,aiY,e1,t0G,t1V,sF,sO,bE,bZ,bm,aV,NN,nf]
 ·have e2:=Jr [c.m,meO (pM s)] (by simp)
  cases hj:joB [c.m,meO (pM s)]<;>rw [hj] at e2
  ·simp -implicitDefEqProofs only [aw,aiW,aiX,aiY,e1,e2,t0G,t1V,sF,sO,TH,bE,bZ,bm,aV,NN,nf,ajv]
  ·have e3:=qz (BA hj)
   have e4:((atD (st7 {c with m:=joR [c.m,meO (pM s)]}) (.ref 0 0)).bind (an true 3)).bind aM=some (me (joR [c.m,meO (pM s)])):=rfl;simp -implicitDefEqProofs only [aw,aiW,aiX,aiY,e1,e2,e3,e4,t0G,t1V,sF,sO,TH,bE,bZ,bm,aV,NN,nf,ajv]
theorem LY (c:Cn) (g:Int) (hm:cr c.m=true):gj [st7 c,I g]=some (.ret [T (iA c dZ [g]).1] [st7 (iA c dZ [g]).2]):=by
 rw [zB];have e1:=Mh c.m g;have e2:=qz (Bj (g:=g) hm);have hmc:iA c dZ [g]=if tkB c.m g=true then(mtT (tkR c.m g),{c with m:=tkR c.m g}) else(noT,c):=rfl;rw [hmc];cases hq:tkB c.m g<;>rw [hq] at e1<;>simp -implicitDefEqProofs only [aw,aiW,aiX,aiY,e1,e2,t0G,t1G,t2V,sF,sO,NN,bE,bZ,bm,aV,nf]
theorem LU (c:Cn) (a:Int) (hs:cA c.s=true):gn [st7 c,I a]=some (.ret [T (iA c dP [a]).1] [st7 (iA c dP [a]).2]):=by
 rw [zC];have h8:=dE hs;have e1:=Rm c.s a (by omega);obtain⟨hv1,hv2⟩:=Cb (n:=a) hs;have e2:dm [ai (rlV c.s a),D.v (ai7 {data:={toList:=[32]}})]=some (.ret [T (cj 32 (rlV c.s a))] []):=xE (rlV c.s a) 32 (va fun z hz=>by have:=hv2 z hz;omega) (by omega);have hmc:iA c dP [a]=if rlB c.s a=true then(cj 32 (rlV c.s a),{c with s:=rsS c.s (rlV c.s a)}) else(noT,c):=rfl;rw [hmc];cases hq:rlB c.s a
 ·rw [hq] at e1
  simp -implicitDefEqProofs only [aw,aiW,aiX,aiY,e1,t0A,t1V,WR,bE,bZ,bm,aV]
 ·rw [hq] at e1
  have hlen:(rlV c.s a).length=c.s.length:=by unfold rlV;rw [if_pos hq,rB]
  have e3:=VC c.s (rlV c.s a) (by omega) hlen;simp -implicitDefEqProofs only [aw,aiW,aiX,aiY,e1,e2,e3,t0A,t1V,WR,oC,bE,bZ,bm,aV]
theorem Yz (c:Cn) (a b:Int) (hs:cA c.s=true):lj [st7 c,I a,I b]=some (.ret [T (iA c gV [a,b]).1] [st7 (iA c gV [a,b]).2]):=by
 rw [JK];have h8:=dE hs;have e1:=Qe c.s a b (by omega);have e2:=Pf (NB (l:=c.s) (i:=a) (n:=b));have hmc:iA c gV [a,b]=if cuB c.s a b=true then(stT (cuR c.s a b),{c with s:=cuR c.s a b}) else(noT,c):=rfl;rw [hmc];cases hq:cuB c.s a b<;>rw [hq] at e1<;>simp -implicitDefEqProofs only [aw,aiW,aiX,aiY,e1,e2,t0A,t1V,WR,oC,bE,bZ,bm,aV]
end Go.Proofs.YtjafgdefcggjcaaGreatDoor

namespace Go.Proofs.YtjafgdefcggjcaaGreatDoor
open Go Go.V
theorem Su:∀(l:List ByteArray) (acc:List Int),(qX l acc).length≤acc.length+l.length
 | [],acc=>aje _
 | w::l,acc=>by
  simp only [qX];split
  ·have:=Su l (acc++[‹Int›])
   simp only [ai9,aiU,aiV] at this ⊢;omega
  ·simp
theorem abC (s:ByteArray):(fv s).length≤s.size+1:=by
 have h1:=Su (Lib.goFieldsP tb s) [];have h2:=Dw tb s;unfold fv;simp only [aiV] at h1;omega
theorem ZO:∀l:List Int,(prS l).length≤l.length
 | []=>aje _
 | [_]=>ajf _
 | a::b::r=>by
  have:=ZO r;simp only [prS,aiU];omega
theorem Jk (s:ByteArray) (h:s.size≤100000):jK [T s]=some (.ret [sls (stO (pSt s)),B (pSt s).isSome] []):=by
 rw [IC];have hn:=kJ s (by omega);have hl:=abC s;have hdef:pSt s=if cA (prS (fv s))=true∧stT (prS (fv s))=s then some (prS (fv s)) else none:=rfl;have hpl:=ZO (fv s);generalize fv s=ns at hn hl hdef hpl;simp -implicitDefEqProofs only [aw,aiW,aiX,aiY,hn];refine bL (fun r=>r=_) (fun(a:List Slp × List Int)=>[T s,sls a.1,oo a.2]) (fun a=>a.2.length+a.1.length≤100001∧a.1++prS a.2=prS ns) (fun a=>a.2.length)
  (fun o=>o = .ext 0 [T s,sls (prS ns)]) ?_ ([],ns) ⟨by simp;omega,rfl⟩ rfl ?_
 ·rintro⟨acc,m⟩ ⟨g1,g2⟩
  dsimp only at g1 g2
  match m,g1,g2 with
  | a::b::r,g1,g2 =>
   have h2:(2:Int)≤((a::b::r).length:Int):=by simp only [aiU];omega
   have e0:aq 1 (oo (a::b::r)) (I 0)=some [I a]:=rfl;have e1:aq 1 (oo (a::b::r)) (I 1)=some [I b]:=rfl;have es:cU false 1 (oo (a::b::r)) (I 2)=some (oo r):=by
    have:=mV (z:=1) (k:=.i64) (l:=(a::b::r).map I) (i:=2) (by simp);exact this
   have ha:=hN (l:=acc) (m:=[(b,a)]) (by simp at g1 ⊢;omega);refine .inl ⟨(acc++[(b,a)],r),?_,⟨by simp at g1 ⊢;omega,by rw [←g2];simp [prS]⟩,by simp;omega⟩
   simp -implicitDefEqProofs only [aw,aiW,aiX,aiY,h2,e0,e1,abB,BV,ia,ha,es]
  | [],g1,g2 =>
   refine .inr ⟨.ext 0 [T s,sls acc],?_,rfl,?_⟩
   ·simp -implicitDefEqProofs only [aw,aiW,aiX,aiY,aiV,show ¬(2:Int)≤((0:Nat):Int) by decide]
   ·have:acc=prS ns:=by rw [←g2];simp [prS]
    rw [this]
  | [a],g1,g2 =>
   refine .inr ⟨.ext 0 [T s,sls acc],?_,rfl,?_⟩
   ·simp -implicitDefEqProofs only [aw,aiW,aiX,aiY,aiU,aiV,show ¬(2:Int)≤((0+1:Nat):Int) by decide]
   ·have:acc=prS ns:=by rw [←g2];simp [prS]
    rw [this]
 ·rintro o rfl
  generalize prS ns=L at hdef hpl;rw [hdef];have hi:=dl L (by omega);cases hg:cA L
  ·rw [if_neg (fun g=>by cases g.1)]
   simp -implicitDefEqProofs only [aw,aiW,aiX,aiY,hi,hg];rfl
  ·by_cases he:stT L=s
   ·rw [if_pos ⟨rfl,he⟩]
    simp -implicitDefEqProofs only [aw,aiW,aiX,aiY,hi,hg,Pf hg,ir,he];rfl
   ·rw [if_neg (fun g=>he g.2)]
    simp -implicitDefEqProofs only [aw,aiW,aiX,aiY,hi,hg,Pf hg,ir,he];rfl
theorem Gg (l:List Nt) (h:l.length≤1048576):iP [nts l]=some (.ret [T (jtS l).1,B (jtS l).2] []):=by
 rw [Fv];unfold jtS;cases hg:eC l
 ·rw [if_neg (fun g=>by cases g.1)]
  simp -implicitDefEqProofs [cC l h,hg]
 ·have hall:=(Bc hg).1
  by_cases hz:(jT l 7).size≤300
  ·have hz':¬(300:Int)<((jT l 7).size:Int):=by omega
   rw [if_pos ⟨rfl,hz⟩];simp -implicitDefEqProofs [cC l h,hg,PV l hall h,hz']
  ·have hz':(300:Int)<((jT l 7).size:Int):=by omega
   rw [if_neg (fun g=>hz g.2)];simp -implicitDefEqProofs [cC l h,hg,PV l hall h,hz']
theorem Hw (s:ByteArray) (x:Nt) (h:s.size≤1048576):jO [T s,nt x]=some (.ret [T (anS s x).1,B (anS s x).2] []):=by
 rw [Hj];have e1:=iS s h;have hlen:=uw s;unfold anS;generalize jrS s=R at *;obtain⟨l,p⟩:=R;simp only at e1 hlen ⊢;have hap:=xw (l:=l) (m:=[x]) (by simp;omega);have hl2:(l++[x]).length≤1048576:=by rw [ai9,List.length_singleton];omega
 have hJ:=Gg (l++[x]) hl2;simp -implicitDefEqProofs only [Zv,ai0,e1,am,tp0,tc0,ahU,bj,Od];cases p
 ·simp -implicitDefEqProofs
 cases hx:lu x
 ·have hg:eC (l++[x])=false:=by
   cases hg:eC (l++[x])
   ·rfl
   ·rw [(kC hg).1] at hx
    cases hx
  have:jtS (l++[x])=(⟨#[]⟩,false):=by
   unfold jtS;rw [if_neg (fun g=>by rw [hg] at g;cases g.1)]
  rw [this];simp -implicitDefEqProofs [lS,hx]
 ·simp -implicitDefEqProofs only [lS,hx,ajh,bH,cb,bz,am,ak,ai0,bj,ai8,if_false,if_true,aP,aH,TE,hap,hJ]
  simp -implicitDefEqProofs
theorem Bm (b:Bool):ku [B b]=some (.ret [T (if b=true then okT else noT)] []):=by
 rw [PJ];cases b<;>simp -implicitDefEqProofs only [aw,aiW,aiX,aiY]
theorem dT (n:Int) (b:Bool) (h0 : -9223372036854775808≤n) (h1:n≤9223372036854775807):cv [I n,B b]=some (.ret [T (if b=true then aI n else noT)] []):=by
 rw [Fa];have e1:=Nu h0 h1;cases b<;>simp -implicitDefEqProofs only [aw,aiW,aiX,aiY,e1]
def Zm (c:Cn) (v:Int):ByteArray × Cn:=(if eW (c.t++[v])=true then aI ((c.t.length+1:Nat):Int) else noT,{c with t:=c.t++[v]})
theorem YQ (c:Cn) (v:Int) (ht:eW c.t=true):kO [st7 c,I v]=some (.ret [T (Zm c v).1] [st7 (Zm c v).2]):=by
 rw [Ke];obtain⟨t1,t2,t3⟩:=rT ht;have hck:=kX c.t;have a0:bB 1 8 (D.arr 1 []) (ai c.t)=some (ai c.t):=eL (l:=[]) (m:=c.t) (by simp;omega);have hmk:aA 1 [I v]=some (ai [v]):=rfl;have a1:=eL (l:=c.t) (m:=[v]) (by simp;omega);have e1:=sU (c.t++[v]) (by simp;omega);have hlen:(((c.t++[v]).length:Nat):Int)=((c.t.length+1:Nat):Int):=by simp
 have e2:=fun b=>dT ((c.t.length+1:Nat):Int) b (by omega) (by omega)
 have e4:(atD (st7 {c with t:=c.t++[v]}) (.ref 0 4)).bind (an false 1)=some (ai (c.t++[v])):=rfl;unfold Zm;simp -implicitDefEqProofs only [aw,aiW,aiX,aiY,hck,a0,hmk,a1,e1,hlen,e2,e4,acw,ahs,bE,bZ,bm,aV]
def Pj (c:Cn) (x:Nt):ByteArray × Cn:=(if (anS c.j x).2=true then aI ((jrS (anS c.j x).1).1.length:Int) else noT,{c with j:=(anS c.j x).1})
theorem Vy (c:Cn) (x:Nt) (hj:c.j.size≤300):kb [st7 c,nt x]=some (.ret [T (Pj c x).1] [st7 (Pj c x).2]):=by
 rw [GW];have e1:=Hw c.j x (by omega);have hz:=OH c.j x;have e2:=iS (anS c.j x).1 (by omega);have hl:=uw (anS c.j x).1;have e3:=fun b=>dT ((jrS (anS c.j x).1).1.length:Int) b (by omega) (by omega)
 have hf:bf true 3 0 (nt x)=some (nt x):=rfl;unfold Pj;simp -implicitDefEqProofs only [aw,aiW,aiX,aiY,Zv,hf,e1,e2,e3,t0V,t1V,t0A,lN,ED,ahK,bE,bZ,bm,aV]
def FX (c:Cn) (a:Int):ByteArray × Cn:=(if ro (c.f++[(a,true)])=true then aI ((c.f.length+1:Nat):Int) else noT,{c with f:=c.f++[(a,true)]})
theorem VW (c:Cn) (a:Int) (hf:abR c.f):ke [st7 c,I a]=some (.ret [T (FX c a).1] [st7 (FX c a).2]):=by
 rw [Iu];have h4:=hf.1;have hck:=MR c.f;have ha0:bB 2 16 (D.arr 2 []) (fos c.f)=some (fos c.f):=tF (l:=[]) (m:=c.f) (by simp;omega);have hmk:aA 2 [D.agg [I a,B true]]=some (fos [(a,true)]):=rfl;have ha:=tF (l:=c.f) (m:=[(a,true)]) (by simp;omega);have e2:=yo (c.f++[(a,true)]) (by simp;omega);have hlen:(((c.f++[(a,true)]).length:Nat):Int)=((c.f.length+1:Nat):Int):=by simp
 have e3:=fun b=>dT ((c.f.length+1:Nat):Int) b (by omega) (by omega)
 have e4:(atD (st7 {c with f:=c.f++[(a,true)]}) (.ref 0 6)).bind (an false 1)=some (fos (c.f++[(a,true)])):=rfl;unfold FX;simp -implicitDefEqProofs only [aw,aiW,aiX,aiY,hck,ha0,Vc,hmk,ha,e2,hlen,e3,e4,age,ah3,bE,bZ,bm,aV]
theorem agJ (l:List Int):RL l=xv l:=by
 have h:=xu l [] ajr;rw [aji] at h;have hs:(RL l).Pairwise (·≤·):=by
  have:=List.pairwise_mergeSort (le:=fun x y:Int=>decide (x≤y)) (fun a b c h1 h2=>by simp at *;omega) (fun a b=>by simp;omega) l;exact this.imp fun h=>by simpa using h
 exact List.Perm.eq_of_pairwise (le:=(·≤·)) (fun a b _ _ h1 h2=>by omega) hs h.1 ((List.mergeSort_perm _ _).trans h.2.symm)
theorem QM (l:List Int) (h:l.length≤1000) (hr:∀n∈l,-500≤n∧n≤500):pA [ai l]=some (.ret [ai (xv l)] []):=by
 rw [Rq];have hck:=kX l;have a0:bB 1 8 (D.arr 1 []) (ai l)=some (ai l):=eL (l:=[]) (m:=l) (by simp;omega);have hlv:aa (ai l) (D.ref 0 0)=some (D.ref 0 0):=rfl;have hr0:cI (D.ref 0 0) (ai l)=some (ai l):=rfl;have hlv2:aa (ai l) (ai l)=some (ai l):=rfl;have hs:Jv [ai l]=some (.ret [] [ai (xv l)]):=by
  have e:Jv [ai l]=(FY (l.map I)).bind fun l=>if l.length≤1048576 then some (.ret [] [oo (RL l)]) else none:=rfl
  rw [e];have:=Oz l fun x hx=>by
   have:=hr x hx;unfold inI;omega
  rw [this,ai0,if_pos (by omega),agJ]
 simp -implicitDefEqProofs only [aw,aiW,aiX,aiY,hck,a0,hlv,hr0,hlv2,hs]
theorem JC (l:List Int) (h:eW l=true):kH [ai l]=some (.ret [I (Fm l),B true] []):=by
 rw [JJ];obtain⟨h1,h2,h3⟩:=rT h;have hg:=sU l (by omega);rw [h] at hg;have hs:=QM l (by omega) h3;have e1:aiZ.wrap ((l.length:Int) - 1)=((l.length - 1:Nat):Int):=by rw [ah (by omega) (by omega)];omega
 have hix:(l.length - 1) / 2<(xv l).length:=by rw [Ji];omega
 have e2:=sL (a:=l.length - 1) (by omega);have hel:aq 1 (ai (xv l)) (I (((l.length - 1) / 2:Nat):Int))=some [I (Fm l)]:=by
  unfold Fm;generalize (l.length - 1) / 2=m at hix;simp [hix]
 simp -implicitDefEqProofs only [aw,aiW,aiX,aiY,hg,hs,e1,e2,hel]
theorem fI (x:Ln):gu 3 (lnD x)=some (lnD x):=rfl
theorem em (x:Ln) (k:Nat):aa (lnD x) (D.ref 0 k)=some (D.ref 0 k):=rfl
theorem ki (x:Ln):((atD (lnD x) (D.ref 0 0)).bind (an false 1)).bind aM=some (T x.1):=rfl
theorem qQ (x:Ln):((atD (lnD x) (D.ref 0 1)).bind (an false 1)).bind aM=some (T x.2.1):=rfl
theorem nR (x:Ln):(atD (lnD x) (D.ref 0 2)).bind (an false 1)=some (ai x.2.2):=rfl
theorem mJ (c:Cn) (w rest:ByteArray) (r:List Int) (hk:CnOk c)
  (hw:(w=bT∧r.length=0)∨(w=bA∧r.length=1)∨(w=bS∧r.length=0)∨(w=cG∧r.length=0)∨(w=cE∧r.length=2)∨(w=cB∧r.length=1)∨(w=bM∧r.length=0)) :
  lh [st7 c,lnD (w,rest,r)]=some (.ret [T (bq c w rest r).1] [st7 c])∧(bq c w rest r).2=c:=by
 rw [Jx];obtain⟨hm,hs,ht,hj,hf⟩:=hk;obtain⟨t1,t2,t3⟩:=rT ht;have hl:=uw c.j;have h8:=dE hs;have e0:=iS c.j (by omega);rcases hw with ⟨rfl,hr⟩ | ⟨rfl,hr⟩ | ⟨rfl,hr⟩ | ⟨rfl,hr⟩ | ⟨rfl,hr⟩ | ⟨rfl,hr⟩ | ⟨rfl,hr⟩
 ·obtain rfl:=ajc hr
  have hmc:bq c bT rest []=(if shB c.m=true then cj 32 (shR c.m) else noT,c):=rfl;rw [hmc];refine⟨?_,rfl⟩
  have e1:=ML c.m;cases hq:shB c.m<;>rw [hq] at e1
  ·simp -implicitDefEqProofs only [aw,aiW,aiX,aiY,fI,em,ki,e0,mr,e1,t0A,lN,t1V,NN,ED,bE,bZ,bm,aV]
  ·have hb:∀z∈shR c.m,0≤z∧z≤1000:=by
    unfold shR;rw [if_pos hq];exact(UQ hq).2.2
   have hl3:(shR c.m).length≤3:=by
    unfold shR;rw [if_pos hq];exact aje 3
   have e2:dm [ai (shR c.m),D.v (ai7 {data:={toList:=[32]}})]=some (.ret [T (cj 32 (shR c.m))] []):=xE (shR c.m) 32 (va fun z hz=>by have:=hb z hz;omega) (by omega);simp -implicitDefEqProofs only [aw,aiW,aiX,aiY,fI,em,ki,e0,mr,e1,e2,t0A,lN,t1V,NN,ED,bE,bZ,bm,aV]
 ·obtain⟨a,rfl⟩:=ai4.1 hr
  have hel:aq 1 (ai [a]) (D.v (ai3 aiZ 0))=some [I a]:=rfl;have hmc:bq c bA rest [a]=(if (tz c.s a).isSome=true then aI (Bw c.s a) else noT,c):=rfl;rw [hmc];refine⟨?_,rfl⟩
  have e1:=HZ c.s a (by omega);have hmb:=ZG (l:=c.s) (n:=a);have e2:=fun b=>dT (Bw c.s a) b (by omega) (by omega)
  simp -implicitDefEqProofs only [aw,aiW,aiX,aiY,fI,em,ki,nR,hel,e0,oP,uc,e1,e2,t0V,t0A,lN,t1V,WR,ED,bE,bZ,bm,aV]
 ·obtain rfl:=ajc hr
  have hmc:bq c bS rest []=(aI (Fm c.t),c):=rfl;rw [hmc];refine⟨?_,rfl⟩
  have e1:=JC c.t ht;have hb:=Yn ht;have e2:=dT (Fm c.t) true (by omega) (by omega);rw [if_pos rfl] at e2;simp -implicitDefEqProofs only [aw,aiW,aiX,aiY,fI,em,ki,e0,yw,wM,yK,e1,e2,t0V,t0A,lN,t1V,acw,ED,bE,bZ,bm,aV]
 ·obtain rfl:=ajc hr
  have hmc:bq c cG rest []=(cj 32 [((gy c.t c.t.length).1:Int),((gy c.t c.t.length).2:Int)],c):=rfl;rw [hmc];refine⟨?_,rfl⟩
  have e1:=CV c.t (by omega);rw [ht,if_pos rfl,if_pos rfl,←aej c.t c.t.length t1] at e1;have hb:=Vp c.t c.t.length (aje _);have hbb:∀z∈[((gy c.t c.t.length).1:Int),((gy c.t c.t.length).2:Int)],-1000000000000000000<z∧z<1000000000000000000:=by
   intro z hz;simp only [ai2,ai1,or_false] at hz;rcases hz with rfl | rfl<;>omega
  have hmk:aA 1 [I ((gy c.t c.t.length).1:Int),I ((gy c.t c.t.length).2:Int)]=some (ai [((gy c.t c.t.length).1:Int),((gy c.t c.t.length).2:Int)]):=rfl;have e2:dm [ai [((gy c.t c.t.length).1:Int),((gy c.t c.t.length).2:Int)],D.v (ai7 {data:={toList:=[32]}})]=some (.ret [T (cj 32 [((gy c.t c.t.length).1:Int),((gy c.t c.t.length).2:Int)])] []):=xE _ 32 (va hbb) (by simp);simp -implicitDefEqProofs only [aw,aiW,aiX,aiY,fI,em,ki,e0,AJ,yL,Bi,EE,e1,e2,hmk,t0V,t0A,lN,t1V,t2V,acw,ED,bE,bZ,bm,aV]
 ·obtain⟨a,b,rfl⟩:=Hz hr
  have hel:aq 1 (ai [a,b]) (D.v (ai3 aiZ 0))=some [I a]:=rfl;have hel1:aq 1 (ai [a,b]) (D.v (ai3 aiZ 1))=some [I b]:=rfl;have hmc:bq c cE rest [a,b]=(if eO (jrS c.j).1 a b=true then aI (bD (jrS c.j).1 a b) else noT,c):=rfl;rw [hmc];refine⟨?_,rfl⟩
  have e1:=Gr (jrS c.j).1 a b (by omega);have hb:=Uy (l:=(jrS c.j).1) (s:=a) (d:=b);have e2:=fun q=>dT (if eO (jrS c.j).1 a b=true then bD (jrS c.j).1 a b else 0) q (by omega) (by omega)
  cases hq:eO (jrS c.j).1 a b<;>rw [hq] at e1 e2<;>simp only [if_true,if_false,ai8] at e1 e2<;>simp -implicitDefEqProofs only [aw,aiW,aiX,aiY,fI,em,ki,nR,hel,hel1,e0,Ak,yQ,Br,ES,Ew,e1,e2,t0V,t0A,lN,t1V,ED,bE,bZ,bm,aV]
 ·obtain⟨a,rfl⟩:=ai4.1 hr
  have hel:aq 1 (ai [a]) (D.v (ai3 aiZ 0))=some [I a]:=rfl;have hmc:bq c cB rest [a]=(if gp (jrS c.j).1 a=true then aI (gP (jrS c.j).1 a).1 else noT,c):=rfl;rw [hmc];refine⟨?_,rfl⟩
  have e1:=IP (jrS c.j).1 a (by omega);have hb:=UT (l:=(jrS c.j).1) (s:=a);have e2:=fun q=>dT (gP (jrS c.j).1 a).1 q (by omega) (by omega)
  simp -implicitDefEqProofs only [aw,aiW,aiX,aiY,fI,em,ki,nR,hel,e0,AR,yc,AB,DH,Ex,DK,e1,e2,t0V,t0A,lN,t1V,t2V,ED,bE,bZ,bm,aV]
 ·obtain rfl:=ajc hr
  have hmc:bq c bM rest []=(YO c.f,c):=rfl;rw [hmc];refine⟨?_,rfl⟩
  have e1:=XV hf;simp -implicitDefEqProofs only [aw,aiW,aiX,aiY,fI,em,ki,e0,yI,wJ,yr,Bl,BK,AU,e1,t0V,t0A,lN,t1V,ED,age,bE,bZ,bm,aV]
theorem jG (x:Ln):bf true 3 0 (lnD x)=some (lnD x):=rfl
def bw (c:Cn) (w rest:ByteArray) (r:List Int):ByteArray × Cn :=
 if w=ln then(if (pM rest).isSome=true then okT else noT,{c with m:=meO (pM rest)})
 else if w=kq then PM c rest
 else if w=dZ then iA c dZ [r.getD 0 0]
 else if w=fG then(if (pSt rest).isSome=true then okT else noT,{c with s:=stO (pSt rest)})
 else if w=dP then iA c dP [r.getD 0 0]
 else if w=gV then iA c gV [r.getD 0 0,r.getD 1 0]
 else if w=kV then Zm c (r.getD 0 0)
 else if w=eP then Pj c (r.getD 0 0,r.getD 1 0,r.getD 2 0)
 else if w=er then FX c (r.getD 0 0)
 else((bq c w rest r).1,c)
theorem afq (c:Cn) (rest:ByteArray) (r:List Int) (hk:CnOk c) (hz:rest.size≤100000):aO [st7 c,lnD (ln,rest,r)]=some (.ret [T (bw c ln rest r).1] [st7 (bw c ln rest r).2]):=by
 rw [bc];have hx:bw c ln rest r=(if (pM rest).isSome=true then okT else noT,{c with m:=meO (pM rest)}):=rfl;rw [hx];have e1:=wO rest (by omega);have e2:=Bm (pM rest).isSome;simp -implicitDefEqProofs only [aw,aiW,aiX,aiY,fI,em,ki,qQ,nR,jG,bE,bZ,gW,bm,aV,nf,oC,t0G,t0A,lN,t1V,ky,KZ,e1,e2]
theorem aeK (c:Cn) (rest:ByteArray) (r:List Int) (hk:CnOk c) (hz:rest.size≤100000):aO [st7 c,lnD (kq,rest,r)]=some (.ret [T (bw c kq rest r).1] [st7 (bw c kq rest r).2]):=by
 rw [bc];have hx:bw c kq rest r=PM c rest:=rfl;rw [hx];have e1:=Mv c rest (by omega);simp -implicitDefEqProofs only [aw,aiW,aiX,aiY,fI,em,ki,qQ,nR,jG,bE,bZ,gW,bm,aV,nf,oC,t0G,t0A,lN,t1V,ky,tD,tU,e1]
theorem aeH (c:Cn) (rest:ByteArray) (r:List Int) (hk:CnOk c) (hz:rest.size≤100000) (hr:r.length=1):aO [st7 c,lnD (dZ,rest,r)]=some (.ret [T (bw c dZ rest r).1] [st7 (bw c dZ rest r).2]):=by
 rw [bc];obtain⟨a,rfl⟩:=ai4.1 hr;have hel:aq 1 (ai [a]) (D.v (ai3 aiZ 0))=some [I a]:=rfl;have hx:bw c dZ rest [a]=iA c dZ [a]:=rfl;rw [hx];have e1:=LY c a hk.m;simp -implicitDefEqProofs only [aw,aiW,aiX,aiY,fI,em,ki,qQ,nR,jG,bE,bZ,gW,bm,aV,nf,oC,t0G,t0A,lN,t1V,ky,hel,Wb,Wm,Ai,e1]
theorem adQ (c:Cn) (rest:ByteArray) (r:List Int) (hk:CnOk c) (hz:rest.size≤100000):aO [st7 c,lnD (fG,rest,r)]=some (.ret [T (bw c fG rest r).1] [st7 (bw c fG rest r).2]):=by
 rw [bc];have hx:bw c fG rest r=(if (pSt rest).isSome=true then okT else noT,{c with s:=stO (pSt rest)}):=rfl;rw [hx];have e1:=Jk rest hz;have e2:=Bm (pSt rest).isSome;simp -implicitDefEqProofs only [aw,aiW,aiX,aiY,fI,em,ki,qQ,nR,jG,bE,bZ,gW,bm,aV,nf,oC,t0G,t0A,lN,t1V,ky,Uh,UZ,Tt,Dz,e1,e2]
theorem afj (c:Cn) (rest:ByteArray) (r:List Int) (hk:CnOk c) (hz:rest.size≤100000) (hr:r.length=1):aO [st7 c,lnD (dP,rest,r)]=some (.ret [T (bw c dP rest r).1] [st7 (bw c dP rest r).2]):=by
 rw [bc];obtain⟨a,rfl⟩:=ai4.1 hr;have hel:aq 1 (ai [a]) (D.v (ai3 aiZ 0))=some [I a]:=rfl;have hx:bw c dP rest [a]=iA c dP [a]:=rfl;rw [hx];have e1:=LU c a hk.s;simp -implicitDefEqProofs only [aw,aiW,aiX,aiY,fI,em,ki,qQ,nR,jG,bE,bZ,gW,bm,aV,nf,oC,t0G,t0A,lN,t1V,ky,hel,WD,Xh,ue,UG,ux,e1]
theorem aha (c:Cn) (rest:ByteArray) (r:List Int) (hk:CnOk c) (hz:rest.size≤100000) (hr:r.length=2):aO [st7 c,lnD (gV,rest,r)]=some (.ret [T (bw c gV rest r).1] [st7 (bw c gV rest r).2]):=by
 rw [bc];obtain⟨a,b,rfl⟩:=Hz hr;have hel:aq 1 (ai [a,b]) (D.v (ai3 aiZ 0))=some [I a]:=rfl;have hel1:aq 1 (ai [a,b]) (D.v (ai3 aiZ 1))=some [I b]:=rfl;have hx:bw c gV rest [a,b]=iA c gV [a,b]:=rfl;rw [hx];have e1:=Yz c a b hk.s;simp -implicitDefEqProofs only [aw,aiW,aiX,aiY,fI,em,ki,qQ,nR,jG,bE,bZ,gW,bm,aV,nf,oC,t0G,t0A,lN,t1V,ky,hel,hel1,YS,Yh,Gc,Vw,Ge,Js,e1]
theorem agW (c:Cn) (rest:ByteArray) (r:List Int) (hk:CnOk c) (hz:rest.size≤100000) (hr:r.length=1):aO [st7 c,lnD (kV,rest,r)]=some (.ret [T (bw c kV rest r).1] [st7 (bw c kV rest r).2]):=by
 rw [bc];obtain⟨a,rfl⟩:=ai4.1 hr;have hel:aq 1 (ai [a]) (D.v (ai3 aiZ 0))=some [I a]:=rfl;have hx:bw c kV rest [a]=Zm c a:=rfl;rw [hx];have e1:=YQ c a hk.t;simp -implicitDefEqProofs only [aw,aiW,aiX,aiY,fI,em,ki,qQ,nR,jG,bE,bZ,gW,bm,aV,nf,oC,t0G,t0A,lN,t1V,ky,hel,Zx,Ze,Qc,WT,Nk,Sv,Sl,e1]
theorem aff (c:Cn) (rest:ByteArray) (r:List Int) (hk:CnOk c) (hz:rest.size≤100000) (hr:r.length=3):aO [st7 c,lnD (eP,rest,r)]=some (.ret [T (bw c eP rest r).1] [st7 (bw c eP rest r).2]):=by
 rw [bc];obtain⟨a,b,d,rfl⟩:=JY hr;have hel:aq 1 (ai [a,b,d]) (D.v (ai3 aiZ 0))=some [I a]:=rfl;have hel1:aq 1 (ai [a,b,d]) (D.v (ai3 aiZ 1))=some [I b]:=rfl;have hel2:aq 1 (ai [a,b,d]) (D.v (ai3 aiZ 2))=some [I d]:=rfl;have hx:bw c eP rest [a,b,d]=Pj c (a,b,d):=rfl;rw [hx];have e1:=Vy c (a,b,d) hk.j;simp -implicitDefEqProofs only [aw,aiW,aiX,aiY,fI,em,ki,qQ,nR,jG,bE,bZ,gW,bm,aV,nf,oC,t0G,t0A,lN,t1V,ky,hel,hel1,hel2,XE,Wj,LG,Uv,LF,NZ,NJ,KU,e1]
theorem ae2 (c:Cn) (rest:ByteArray) (r:List Int) (hk:CnOk c) (hz:rest.size≤100000) (hr:r.length=1):aO [st7 c,lnD (er,rest,r)]=some (.ret [T (bw c er rest r).1] [st7 (bw c er rest r).2]):=by
 rw [bc];obtain⟨a,rfl⟩:=ai4.1 hr;have hel:aq 1 (ai [a]) (D.v (ai3 aiZ 0))=some [I a]:=rfl;have hx:bw c er rest [a]=FX c a:=rfl;rw [hx];have e1:=VW c a hk.f;simp -implicitDefEqProofs only [aw,aiW,aiX,aiY,fI,em,ki,qQ,nR,jG,bE,bZ,gW,bm,aV,nf,oC,t0G,t0A,lN,t1V,ky,hel,XM,WN,Lv,UD,KM,NE,Nx,Lu,La,e1]
theorem aa6 (c:Cn) (rest:ByteArray) (r:List Int) (hk:CnOk c) (hr:r.length=0):aO [st7 c,lnD (bT,rest,r)]=some (.ret [T (bw c bT rest r).1] [st7 (bw c bT rest r).2])∧(bq c bT rest r).2=c:=by
 obtain⟨e1,e2⟩:=mJ c bT rest r hk (.inl ⟨rfl,hr⟩);refine⟨?_,e2⟩
 rw [bc];have hx:bw c bT rest r=((bq c bT rest r).1,c):=rfl;rw [hx];simp -implicitDefEqProofs only [aw,aiW,aiX,aiY,fI,em,ki,qQ,nR,jG,bE,bZ,gW,bm,aV,nf,oC,t0G,t0A,lN,t1V,ky,Rz,Ru,uO,Pc,EK,II,Vo,Qi,QQ,e1]
theorem YT (c:Cn) (rest:ByteArray) (r:List Int) (hk:CnOk c) (hr:r.length=1):aO [st7 c,lnD (bA,rest,r)]=some (.ret [T (bw c bA rest r).1] [st7 (bw c bA rest r).2])∧(bq c bA rest r).2=c:=by
 obtain⟨e1,e2⟩:=mJ c bA rest r hk (.inr (.inl ⟨rfl,hr⟩));refine⟨?_,e2⟩
 rw [bc];have hx:bw c bA rest r=((bq c bA rest r).1,c):=rfl;rw [hx];simp -implicitDefEqProofs only [aw,aiW,aiX,aiY,fI,em,ki,qQ,nR,jG,bE,bZ,gW,bm,aV,nf,oC,t0G,t0A,lN,t1V,ky,NF,OS,tv,MF,sP,vn,RH,PO,Pb,e1]
theorem aaL (c:Cn) (rest:ByteArray) (r:List Int) (hk:CnOk c) (hr:r.length=0):aO [st7 c,lnD (bS,rest,r)]=some (.ret [T (bw c bS rest r).1] [st7 (bw c bS rest r).2])∧(bq c bS rest r).2=c:=by
 obtain⟨e1,e2⟩:=mJ c bS rest r hk (.inr (.inr (.inl ⟨rfl,hr⟩)));refine⟨?_,e2⟩
 rw [bc];have hx:bw c bS rest r=((bq c bS rest r).1,c):=rfl;rw [hx];simp -implicitDefEqProofs only [aw,aiW,aiX,aiY,fI,em,ki,qQ,nR,jG,bE,bZ,gW,bm,aV,nf,oC,t0G,t0A,lN,t1V,ky,Sd,Rr,EB,ND,Eh,GL,IH,Qy,Ry,e1]
theorem adp (c:Cn) (rest:ByteArray) (r:List Int) (hk:CnOk c) (hr:r.length=0):aO [st7 c,lnD (cG,rest,r)]=some (.ret [T (bw c cG rest r).1] [st7 (bw c cG rest r).2])∧(bq c cG rest r).2=c:=by
 obtain⟨e1,e2⟩:=mJ c cG rest r hk (.inr (.inr (.inr (.inl ⟨rfl,hr⟩))));refine⟨?_,e2⟩
 rw [bc];have hx:bw c cG rest r=((bq c cG rest r).1,c):=rfl;rw [hx];simp -implicitDefEqProofs only [aw,aiW,aiX,aiY,fI,em,ki,qQ,nR,jG,bE,bZ,gW,bm,aV,nf,oC,t0G,t0A,lN,t1V,ky,Ug,Vd,Je,Qm,GQ,Lk,Lg,Uz,Up,e1]
theorem adA (c:Cn) (rest:ByteArray) (r:List Int) (hk:CnOk c) (hr:r.length=2):aO [st7 c,lnD (cE,rest,r)]=some (.ret [T (bw c cE rest r).1] [st7 (bw c cE rest r).2])∧(bq c cE rest r).2=c:=by
 obtain⟨e1,e2⟩:=mJ c cE rest r hk (.inr (.inr (.inr (.inr (.inl ⟨rfl,hr⟩)))));refine⟨?_,e2⟩
 rw [bc];have hx:bw c cE rest r=((bq c cE rest r).1,c):=rfl;rw [hx];simp -implicitDefEqProofs only [aw,aiW,aiX,aiY,fI,em,ki,qQ,nR,jG,bE,bZ,gW,bm,aV,nf,oC,t0G,t0A,lN,t1V,ky,Vl,Ur,Ip,Qj,Ih,Lp,Lq,Jm,UL,e1]
theorem adI (c:Cn) (rest:ByteArray) (r:List Int) (hk:CnOk c) (hr:r.length=1):aO [st7 c,lnD (cB,rest,r)]=some (.ret [T (bw c cB rest r).1] [st7 (bw c cB rest r).2])∧(bq c cB rest r).2=c:=by
 obtain⟨e1,e2⟩:=mJ c cB rest r hk (.inr (.inr (.inr (.inr (.inr (.inl ⟨rfl,hr⟩))))));refine⟨?_,e2⟩
 rw [bc];have hx:bw c cB rest r=((bq c cB rest r).1,c):=rfl;rw [hx];simp -implicitDefEqProofs only [aw,aiW,aiX,aiY,fI,em,ki,qQ,nR,jG,bE,bZ,gW,bm,aV,nf,oC,t0G,t0A,lN,t1V,ky,UH,UF,Ij,QI,GK,Li,LB,HQ,TW,e1]
theorem abH (c:Cn) (rest:ByteArray) (r:List Int) (hk:CnOk c) (hr:r.length=0):aO [st7 c,lnD (bM,rest,r)]=some (.ret [T (bw c bM rest r).1] [st7 (bw c bM rest r).2])∧(bq c bM rest r).2=c:=by
 obtain⟨e1,e2⟩:=mJ c bM rest r hk (.inr (.inr (.inr (.inr (.inr (.inr (⟨rfl,hr⟩)))))));refine⟨?_,e2⟩
 rw [bc];have hx:bw c bM rest r=((bq c bM rest r).1,c):=rfl;rw [hx];simp -implicitDefEqProofs only [aw,aiW,aiX,aiY,fI,em,ki,qQ,nR,jG,bE,bZ,gW,bm,aV,nf,oC,t0G,t0A,lN,t1V,ky,RP,Ra,Dk,Pe,Ee,Iz,HX,Dn,Di,e1]
theorem acy (w:ByteArray):(fy shE w=none∧shN w = -2)∨(fy shE w=some ⟨#[84]⟩∧shN w = -1)∨(fy shE w=some ⟨#[]⟩∧shN w=0)∨(fy shE w=some ⟨#[78]⟩∧shN w=1)∨(fy shE w=some ⟨#[78,78]⟩∧shN w=2)∨(fy shE w=some ⟨#[78,78,78]⟩∧shN w=3):=by
 by_cases h1:w=ln
 ·subst h1;decide
 by_cases h2:w=kq
 ·subst h2;decide
 by_cases h3:w=dZ
 ·subst h3;decide
 by_cases h4:w=bT
 ·subst h4;decide
 by_cases h5:w=fG
 ·subst h5;decide
 by_cases h6:w=dP
 ·subst h6;decide
 by_cases h7:w=gV
 ·subst h7;decide
 by_cases h8:w=bA
 ·subst h8;decide
 by_cases h9:w=kV
 ·subst h9;decide
 by_cases h10:w=bS
 ·subst h10;decide
 by_cases h11:w=cG
 ·subst h11;decide
 by_cases h12:w=eP
 ·subst h12;decide
 by_cases h13:w=cE
 ·subst h13;decide
 by_cases h14:w=cB
 ·subst h14;decide
 by_cases h15:w=er
 ·subst h15;decide
 by_cases h16:w=bM
 ·subst h16;decide
 left
 refine⟨?_,?_⟩
 ·unfold shE
  simp only [fy];rw [if_neg h16,if_neg h15,if_neg h14,if_neg h13,if_neg h12,if_neg h11,if_neg h10,if_neg h9,if_neg h8,if_neg h7,if_neg h6,if_neg h5,if_neg h4,if_neg h3,if_neg h2,if_neg h1]
 ·unfold shN
  simp only [h1,h2,h3,h4,h5,h6,h7,h8,h9,h10,h11,h12,h13,h14,h15,h16,or_self,if_false]
theorem ahQ (t:ByteArray):(rdL t=none∧(rdI t).2=false)∨∃x,rdL t=some x∧rdI t=(x,true):=by
 unfold rdL rdI;by_cases hs:(32:UInt8)∈ae t
 ·obtain⟨a,b,e,hn⟩:∃a b,ae t=a++32::b∧(32:UInt8)∉a:=by
   rcases pg 32 (ae t) with ⟨_,h2⟩ | ⟨a,b,h1,h2,_⟩
   ·exact absurd hs h2
   ·exact⟨a,b,h1,h2⟩
  have hsp:aC 32 t=bt a::aC 32 (bt b):=by
   unfold aC;rw [e,fq hn,cS];rfl
  have hne:aC 32 (bt b)≠[]:=by
   unfold aC;simp [dv]
  have hx:t.extract ((bt a).size+1) t.size=bt b:=by
   apply bP;rw [fa,cZ,e,cS];have h1:t.size=(a++32::b).length:=by rw [←e];rfl
   rw [h1,ajw,show a++32::b=(a++[32])++b from by simp,List.drop_left' (by simp)];exact(cS b).symm
  rw [e,Uj hn,hsp];dsimp only;rw [hx];rcases acy (bt a) with ⟨h1,h2⟩ | ⟨h1,h2⟩ | ⟨h1,h2⟩ | ⟨h1,h2⟩ | ⟨h1,h2⟩ | ⟨h1,h2⟩
  ·left;rw [h1,h2];exact⟨rfl,rfl⟩
  ·right;rw [h1,h2];exact⟨_,by rw [if_neg (by decide),if_pos rfl,if_neg hne],rfl⟩
  ·left
   rw [h1,h2];refine⟨?_,rfl⟩
   rw [if_neg (by decide),if_neg (by decide)];cases hq:cF (aC 32 (bt b)) with
   | none=>rfl
   | some r =>
    have:=(mU _ _ hq).1;have hp:=List.length_pos_iff.2 hne;dsimp only;rw [if_neg (by omega)]
  ·rw [h1,h2]
   dsimp only;cases hq:cF (aC 32 (bt b)) with
   | none=>left;exact⟨rfl,rfl⟩
   | some r =>
    have hl:=(mU _ _ hq).1;by_cases hc:((aC 32 (bt b)).length:Int)=1
    ·right
     refine⟨(bt a,⟨⟨[]⟩⟩,r),?_,?_⟩
     ·rw [if_neg (by decide),if_neg (by decide)]
      dsimp only;rw [hl,if_pos hc]
     ·rw [if_neg (by decide),if_neg (by decide)]
      have:decide (((aC 32 (bt b)).length:Int)=((⟨#[78]⟩:ByteArray).size:Int))=true:=decide_eq_true hc;rw [this]
    ·left
     refine⟨?_,?_⟩
     ·rw [if_neg (by decide),if_neg (by decide)]
      dsimp only;rw [hl,if_neg hc]
     ·rw [if_neg (by decide),if_neg (by decide)]
      exact decide_eq_false hc
  ·rw [h1,h2]
   dsimp only;cases hq:cF (aC 32 (bt b)) with
   | none=>left;exact⟨rfl,rfl⟩
   | some r =>
    have hl:=(mU _ _ hq).1;by_cases hc:((aC 32 (bt b)).length:Int)=2
    ·right
     refine⟨(bt a,⟨⟨[]⟩⟩,r),?_,?_⟩
     ·rw [if_neg (by decide),if_neg (by decide)]
      dsimp only;rw [hl,if_pos hc]
     ·rw [if_neg (by decide),if_neg (by decide)]
      have:decide (((aC 32 (bt b)).length:Int)=((⟨#[78,78]⟩:ByteArray).size:Int))=true:=decide_eq_true hc;rw [this]
    ·left
     refine⟨?_,?_⟩
     ·rw [if_neg (by decide),if_neg (by decide)]
      dsimp only;rw [hl,if_neg hc]
     ·rw [if_neg (by decide),if_neg (by decide)]
      exact decide_eq_false hc
  ·rw [h1,h2]
   dsimp only;cases hq:cF (aC 32 (bt b)) with
   | none=>left;exact⟨rfl,rfl⟩
   | some r =>
    have hl:=(mU _ _ hq).1;by_cases hc:((aC 32 (bt b)).length:Int)=3
    ·right
     refine⟨(bt a,⟨⟨[]⟩⟩,r),?_,?_⟩
     ·rw [if_neg (by decide),if_neg (by decide)]
      dsimp only;rw [hl,if_pos hc]
     ·rw [if_neg (by decide),if_neg (by decide)]
      have:decide (((aC 32 (bt b)).length:Int)=((⟨#[78,78,78]⟩:ByteArray).size:Int))=true:=decide_eq_true hc;rw [this]
    ·left
     refine⟨?_,?_⟩
     ·rw [if_neg (by decide),if_neg (by decide)]
      dsimp only;rw [hl,if_neg hc]
     ·rw [if_neg (by decide),if_neg (by decide)]
      exact decide_eq_false hc
 ·have hsp:aC 32 t=[t]:=by
   unfold aC;rw [ko hs];exact congrArg (fun x=>[x]) (nQ t)
  rw [Oa hs,hsp];dsimp only;have ht:bt (ae t)=t:=nQ t;rw [ht];rcases acy t with ⟨h1,h2⟩ | ⟨h1,h2⟩ | ⟨h1,h2⟩ | ⟨h1,h2⟩ | ⟨h1,h2⟩ | ⟨h1,h2⟩<;>rw [h1,h2]
  ·left;exact⟨rfl,rfl⟩
  ·left;exact⟨rfl,rfl⟩
  ·right;exact⟨_,rfl,rfl⟩
  ·left;exact⟨rfl,rfl⟩
  ·left;exact⟨rfl,rfl⟩
  ·left;exact⟨rfl,rfl⟩
theorem Ve {s:ByteArray} (h:∀b∈ae s,b≠110):s≠noT:=by
 rintro rfl;exact h 110 (by simp [ae]) rfl
theorem MO {n:Int} (h:0≤n):∀b∈ae (aI n),b≠110:=by
 intro b hb e;have:=(gq h).2 b hb;subst e;revert this;decide
theorem Xq {c:UInt8} (hc:c≠110) {ns:List Int} (h:∀n∈ns,0≤n):∀b∈ae (cj c ns),b≠110:=by
 intro b hb;rw [cJ] at hb;rcases Kl hb with rfl | ⟨w,hw,hb⟩
 ·exact hc
 ·obtain⟨n,hn,rfl⟩:=List.mem_map.1 hw
  exact MO (h n hn) b hb
theorem adb:∀(l:List Slp),(∀x∈l,0≤x.1∧0≤x.2)→∀b∈ae (stT l),b≠110
 | [],_,b,hb=>by cases hb
 | x::l,h,b,hb=>by
  have hx:=h x (by simp);simp only [stT,slT,bh,ajn] at hb;rcases hb with (((hb | hb) | hb) | hb) | hb
  ·exact MO hx.2 b hb
  ·simp [ae] at hb
   subst hb;decide
  ·exact MO hx.1 b hb
  ·simp [ae] at hb
   subst hb;decide
  ·exact adb l (fun y hy=>h y (by simp [hy])) b hb
def iG (c:Cn) (p:ByteArray × Cn):ByteArray × Cn:=(p.1,if p.1=noT then c else p.2)
theorem aei:okT≠noT:=by decide
theorem agD (c:Cn) (rest:ByteArray) (r:List Int):iG c (bw c ln rest r)=bq c ln rest r:=by
 have h1:bw c ln rest r=(if (pM rest).isSome=true then okT else noT,{c with m:=meO (pM rest)}):=rfl;have h2:bq c ln rest r=if (pM rest).isSome=false then(noT,c) else(okT,{c with m:=meO (pM rest)}):=rfl;rw [h1,h2];unfold iG;cases (pM rest).isSome
 ·simp
 ·simp [aei]
theorem afG (c:Cn) (rest:ByteArray) (r:List Int):iG c (bw c fG rest r)=bq c fG rest r:=by
 have h1:bw c fG rest r=(if (pSt rest).isSome=true then okT else noT,{c with s:=stO (pSt rest)}):=rfl;have h2:bq c fG rest r=if (pSt rest).isSome=true then(okT,{c with s:=stO (pSt rest)}) else(noT,c):=rfl;rw [h1,h2];unfold iG;cases (pSt rest).isSome
 ·simp
 ·simp [aei]
theorem adB {m:Me} (h:cr m=true):mtT m≠noT:=Ve (Xq (by decide) fun n hn=>(OK h n hn).1)
theorem agz (c:Cn) (rest:ByteArray) (r:List Int):iG c (bw c kq rest r)=bq c kq rest r:=by
 have h1:bw c kq rest r=PM c rest:=rfl;have h2:bq c kq rest r=if (pM rest).isSome=false then(noT,c) else(if joB [c.m,meO (pM rest)]=true then(mtT (joR [c.m,meO (pM rest)]),{c with m:=joR [c.m,meO (pM rest)]}) else(noT,c)):=rfl;rw [h1,h2];unfold iG PM;cases (pM rest).isSome
 ·simp
 ·cases hj:joB [c.m,meO (pM rest)]
  ·simp
  ·simp [adB (BA hj)]
theorem ag7 (c:Cn) (rest:ByteArray) (a:Int) (hk:CnOk c):iG c (bw c dZ rest [a])=bq c dZ rest [a]:=by
 have h1:bw c dZ rest [a]=iA c dZ [a]:=rfl;have h2:bq c dZ rest [a]=iA c dZ [a]:=rfl;have h3:iA c dZ [a]=if tkB c.m a=true then(mtT (tkR c.m a),{c with m:=tkR c.m a}) else(noT,c):=rfl;rw [h1,h2,h3];unfold iG;cases tkB c.m a
 ·simp
 ·simp [adB (Bj (g:=a) hk.m)]
theorem agI (c:Cn) (rest:ByteArray) (a:Int) (hk:CnOk c):iG c (bw c dP rest [a])=bq c dP rest [a]:=by
 have h1:bw c dP rest [a]=iA c dP [a]:=rfl;have h2:bq c dP rest [a]=iA c dP [a]:=rfl;have h3:iA c dP [a]=if rlB c.s a=true then(cj 32 (rlV c.s a),{c with s:=rsS c.s (rlV c.s a)}) else(noT,c):=rfl;have hn:cj 32 (rlV c.s a)≠noT:=Ve (Xq (by decide) fun n hn=>((Cb (n:=a) hk.s).2 n hn).1);rw [h1,h2,h3];unfold iG;cases rlB c.s a
 ·simp
 ·simp [hn]
theorem ahy (c:Cn) (rest:ByteArray) (a b:Int):iG c (bw c gV rest [a,b])=bq c gV rest [a,b]:=by
 have h1:bw c gV rest [a,b]=iA c gV [a,b]:=rfl;have h2:bq c gV rest [a,b]=iA c gV [a,b]:=rfl;have h3:iA c gV [a,b]=if cuB c.s a b=true then(stT (cuR c.s a b),{c with s:=cuR c.s a b}) else(noT,c):=rfl;have hn:stT (cuR c.s a b)≠noT:=Ve (adb _ fun x hx=>by have:=dW (NB (l:=c.s) (i:=a) (n:=b)) x hx;omega);rw [h1,h2,h3];unfold iG;cases cuB c.s a b
 ·simp
 ·simp [hn]
theorem TX (n:Nat):aI (n:Int)≠noT:=Ve (MO (by omega))
theorem ah7 (c:Cn) (rest:ByteArray) (a:Int):iG c (bw c kV rest [a])=bq c kV rest [a]:=by
 have h1:bw c kV rest [a]=Zm c a:=rfl;have h2:bq c kV rest [a]=if eW (c.t++[a])=true then(aI ((c.t.length+1:Nat):Int),{c with t:=c.t++[a]}) else(noT,c):=rfl;have hn:=TX (c.t.length+1);rw [h1,h2];unfold iG Zm;cases eW (c.t++[a])
 ·simp
 ·simp only [if_true]
  rw [if_neg hn]
theorem ag2 (c:Cn) (rest:ByteArray) (a b d:Int):iG c (bw c eP rest [a,b,d])=bq c eP rest [a,b,d]:=by
 have h1:bw c eP rest [a,b,d]=Pj c (a,b,d):=rfl;have h2:bq c eP rest [a,b,d]=if (anS c.j (a,b,d)).2=true then(aI ((jrS (anS c.j (a,b,d)).1).1.length:Int),{c with j:=(anS c.j (a,b,d)).1}) else(noT,c):=rfl;have hn:=TX (jrS (anS c.j (a,b,d)).1).1.length;rw [h1,h2];unfold iG Pj;cases (anS c.j (a,b,d)).2
 ·simp
 ·simp only [if_true]
  rw [if_neg hn]
theorem ag3 (c:Cn) (rest:ByteArray) (a:Int):iG c (bw c er rest [a])=bq c er rest [a]:=by
 have h1:bw c er rest [a]=FX c a:=rfl;have h2:bq c er rest [a]=if ro (c.f++[(a,true)])=true then(aI ((c.f.length+1:Nat):Int),{c with f:=c.f++[(a,true)]}) else(noT,c):=rfl;have hn:=TX (c.f.length+1);rw [h1,h2];unfold iG FX;cases ro (c.f++[(a,true)])
 ·simp
 ·simp only [if_true]
  rw [if_neg hn]
theorem aeu {c:Cn} {t w rest:ByteArray} {r:List Int} (hk:CnOk c) (ht:t.size≤100000) (h:rdL t=some (w,rest,r)) :
  aO [st7 c,lnD (w,rest,r)]=some (.ret [T (bw c w rest r).1] [st7 (bw c w rest r).2])∧iG c (bw c w rest r)=bq c w rest r:=by
 unfold rdL at h;split at h
 ·cases h
 rename_i v ws hs;by_cases h2:shN v = -2
 ·rw [if_pos h2] at h
  cases h
 rw [if_neg h2] at h;by_cases h1:shN v = -1
 ·rw [if_pos h1] at h
  split at h
  ·cases h
  cases h;have hz:(t.extract (w.size+1) t.size).size≤100000:=by simp;omega
  rcases WF h1 with rfl | rfl | rfl
  ·exact⟨adQ c _ _ hk hz,afG c _ _⟩
  ·exact⟨afq c _ _ hk hz,agD c _ _⟩
  ·exact⟨aeK c _ _ hk hz,agz c _ _⟩
 rw [if_neg h1] at h;split at h
 case h_2=>cases h
 rename_i q hq;split at h
 case isFalse=>cases h
 rename_i hr;cases h;have hz:(⟨⟨[]⟩⟩:ByteArray).size≤100000:=ajf _;rcases Tp h2 h1 with rfl | rfl | rfl | rfl | rfl | rfl | rfl | rfl | rfl | rfl | rfl | rfl | rfl
 ·have hl:r.length=1:=by
   have h0:shN dZ=1:=by decide
   rw [h0] at hr;omega
  refine⟨aeH c _ r hk hz hl,?_⟩
  obtain⟨a,rfl⟩:=ai4.1 hl;exact ag7 c _ a hk
 ·have hl:r.length=0:=by
   have h0:shN bT=0:=by decide
   rw [h0] at hr;omega
  obtain⟨e1,e2⟩:=aa6 c ⟨⟨[]⟩⟩ r hk hl;refine⟨e1,?_⟩
  have hx:bw c bT ⟨⟨[]⟩⟩ r=((bq c bT ⟨⟨[]⟩⟩ r).1,c):=rfl;rw [hx];unfold iG;rw [ite_self];exact ajp rfl e2.symm
 ·have hl:r.length=1:=by
   have h0:shN dP=1:=by decide
   rw [h0] at hr;omega
  refine⟨afj c _ r hk hz hl,?_⟩
  obtain⟨a,rfl⟩:=ai4.1 hl;exact agI c _ a hk
 ·have hl:r.length=2:=by
   have h0:shN gV=2:=by decide
   rw [h0] at hr;omega
  refine⟨aha c _ r hk hz hl,?_⟩
  obtain⟨a,b,rfl⟩:=Hz hl;exact ahy c _ a b
 ·have hl:r.length=1:=by
   have h0:shN bA=1:=by decide
   rw [h0] at hr;omega
  obtain⟨e1,e2⟩:=YT c ⟨⟨[]⟩⟩ r hk hl;refine⟨e1,?_⟩
  have hx:bw c bA ⟨⟨[]⟩⟩ r=((bq c bA ⟨⟨[]⟩⟩ r).1,c):=rfl;rw [hx];unfold iG;rw [ite_self];exact ajp rfl e2.symm
 ·have hl:r.length=1:=by
   have h0:shN kV=1:=by decide
   rw [h0] at hr;omega
  refine⟨agW c _ r hk hz hl,?_⟩
  obtain⟨a,rfl⟩:=ai4.1 hl;exact ah7 c _ a
 ·have hl:r.length=0:=by
   have h0:shN bS=0:=by decide
   rw [h0] at hr;omega
  obtain⟨e1,e2⟩:=aaL c ⟨⟨[]⟩⟩ r hk hl;refine⟨e1,?_⟩
  have hx:bw c bS ⟨⟨[]⟩⟩ r=((bq c bS ⟨⟨[]⟩⟩ r).1,c):=rfl;rw [hx];unfold iG;rw [ite_self];exact ajp rfl e2.symm
 ·have hl:r.length=0:=by
   have h0:shN cG=0:=by decide
   rw [h0] at hr;omega
  obtain⟨e1,e2⟩:=adp c ⟨⟨[]⟩⟩ r hk hl;refine⟨e1,?_⟩
  have hx:bw c cG ⟨⟨[]⟩⟩ r=((bq c cG ⟨⟨[]⟩⟩ r).1,c):=rfl;rw [hx];unfold iG;rw [ite_self];exact ajp rfl e2.symm
 ·have hl:r.length=3:=by
   have h0:shN eP=3:=by decide
   rw [h0] at hr;omega
  refine⟨aff c _ r hk hz hl,?_⟩
  obtain⟨a,b,d,rfl⟩:=JY hl;exact ag2 c _ a b d
 ·have hl:r.length=2:=by
   have h0:shN cE=2:=by decide
   rw [h0] at hr;omega
  obtain⟨e1,e2⟩:=adA c ⟨⟨[]⟩⟩ r hk hl;refine⟨e1,?_⟩
  have hx:bw c cE ⟨⟨[]⟩⟩ r=((bq c cE ⟨⟨[]⟩⟩ r).1,c):=rfl;rw [hx];unfold iG;rw [ite_self];exact ajp rfl e2.symm
 ·have hl:r.length=1:=by
   have h0:shN cB=1:=by decide
   rw [h0] at hr;omega
  obtain⟨e1,e2⟩:=adI c ⟨⟨[]⟩⟩ r hk hl;refine⟨e1,?_⟩
  have hx:bw c cB ⟨⟨[]⟩⟩ r=((bq c cB ⟨⟨[]⟩⟩ r).1,c):=rfl;rw [hx];unfold iG;rw [ite_self];exact ajp rfl e2.symm
 ·have hl:r.length=1:=by
   have h0:shN er=1:=by decide
   rw [h0] at hr;omega
  refine⟨ae2 c _ r hk hz hl,?_⟩
  obtain⟨a,rfl⟩:=ai4.1 hl;exact ag3 c _ a
 ·have hl:r.length=0:=by
   have h0:shN bM=0:=by decide
   rw [h0] at hr;omega
  obtain⟨e1,e2⟩:=abH c ⟨⟨[]⟩⟩ r hk hl;refine⟨e1,?_⟩
  have hx:bw c bM ⟨⟨[]⟩⟩ r=((bq c bM ⟨⟨[]⟩⟩ r).1,c):=rfl;rw [hx];unfold iG;rw [ite_self];exact ajp rfl e2.symm
theorem YR (a b c:D) (x:Ln):stD 3 (D.agg [a,b,c]) (D.ref 0 0) (lnD x)=some (lnD x):=rfl
theorem ZT (a b c d e f g:D) (x:Cn):stD 7 (D.agg [a,b,c,d,e,f,g]) (D.ref 0 0) (st7 x)=some (st7 x):=rfl
theorem TU (c:Cn) (t:ByteArray) (hk:CnOk c) (ht:t.size≤100000):fU [st7 c,T t]=some (.ret [T (eu c t).1] [st7 (eu c t).2]):=by
 rw [Ff];have e1:=aeJ t (by omega);have hL:∀(x:Ln) (b:D),ao (.tup [lnD x,b]) 0=some (lnD x):=fun _ _=>rfl
 rcases ahQ t with ⟨h1,h2⟩ | ⟨⟨w,rest,r⟩,h1,h2⟩
 ·rw [h2] at e1
  have hl:eu c t=(pV,c):=by unfold eu;rw [h1]
  rw [hl];simp -implicitDefEqProofs only [aw,aiW,aiX,aiY,e1,hL,t1V,YR,bZ]
 ·rw [h2] at e1
  dsimp only at e1;obtain⟨e2,e3⟩:=aeu hk ht h1;have hl:eu c t=bq c w rest r:=by unfold eu;rw [h1]
  rw [hl,←e3];unfold iG;have hq:bin BinOp.neq false [] (T (bw c w rest r).1) (D.v (ai7 {data:={toList:=[110,111]}}))=some (B (!decide ((bw c w rest r).1=noT))):=ir;by_cases hn:(bw c w rest r).1=noT
  ·rw [decide_eq_true hn] at hq
   rw [if_pos hn];simp -implicitDefEqProofs only [aw,aiW,aiX,aiY,e1,hL,t1V,YR,jG,bZ,bE,aV,acR,ZT,e2,hq]
  ·rw [decide_eq_false hn] at hq
   rw [if_neg hn];simp -implicitDefEqProofs only [aw,aiW,aiX,aiY,e1,hL,t1V,YR,jG,bZ,bE,aV,acR,ZT,UK,Yw,e2,hq]
theorem OW (c:UInt8) (l:List UInt8):aW c (l++[c])=aW c l++[[]]:=by
 obtain⟨o,p,h⟩:∃o p,aW c l=o++[p]:=⟨_,_,(List.dropLast_concat_getLast (dv c l)).symm⟩
 have:=mZ c c l o p h;rw [if_pos rfl] at this;rw [this,h]
theorem Dv (l:List UInt8) (c:UInt8):Lib.hasSuffix l [c]=decide (l.getLast?=some c):=by
 unfold Lib.hasSuffix;rw [Bool.eq_iff_iff,List.isSuffixOf_iff_suffix,decide_eq_true_eq];constructor
 ·rintro⟨a,rfl⟩
  simp
 ·intro h
  obtain⟨a,rfl⟩:=ajj.1 h;exact⟨a,rfl⟩
theorem acG:(D.v (ai7 {data:={toList:=[]}}))=T ⟨⟨[]⟩⟩:=rfl
theorem zW {s:ByteArray} (h:(ae s).getLast?=some 10):aC 10 ⟨(ai6 (ae s) [10]).toArray⟩=aN s:=by
 obtain⟨a,ha⟩:=ajj.1 h;have:ai6 (ae s) [10]=a:=by
  unfold ai6;rw [if_pos (by rw [Dv,h];simp),ha];simp
 unfold aN aC;rw [this,cS,ha,OW,ajy,List.map_cons,List.map_nil,ai9];simp
theorem nl (s:ByteArray) (h:s.size≤1048576):∃L,gf [T s]=some (.ret [txs L,B (okC s)] [])∧(okC s=true→L=aN s):=by
 rw [PT,acG];by_cases h2:s=⟨⟨[]⟩⟩
 ·subst h2
  refine⟨[],?_,fun _=>rfl⟩
  have hi:okC ⟨⟨[]⟩⟩=true:=by decide
  have hz:(⟨⟨[]⟩⟩:ByteArray).size=0:=rfl;rw [hi];simp -implicitDefEqProofs [be,dV,hz]
 ·have hne:ae s≠[]:=fun e=>h2 (bP e)
  have ht:kD [T s,D.v (ai7 {data:={toList:=[10]}})]=some (.ret [T ⟨(ai6 (ae s) [10]).toArray⟩] []):=by
   have hz:s.size≤9223372036854775807:=by omega
   show kD [T s,T ⟨#[10]⟩]=_
   simp only [kD,hz,if_true];rfl
  have hsuf:kB [T s,D.v (ai7 {data:={toList:=[10]}})]=some (.ret [B (decide ((ae s).getLast?=some 10))] []):=by
   have hz:s.size≤9223372036854775807:=by omega
   show kB [T s,T ⟨#[10]⟩]=_
   simp only [kB,hz,if_true];rw [←Dv];rfl
  have htl:(ai6 (ae s) [10]).length≤(ae s).length:=by
   unfold ai6;split
   ·rw [ajx];omega
   ·exact aje _
  have hsz:s.size=(ae s).length:=rfl;have hsp:Av [T ⟨(ai6 (ae s) [10]).toArray⟩,D.v (ai7 {data:={toList:=[10]}})]=some (.ret [.arr 1 ((aC 10 ⟨(ai6 (ae s) [10]).toArray⟩).map T)] []) :=
   aax (c:=10) (by simp only [ByteArray.size,List.size_toArray];omega)
  refine⟨aC 10 ⟨(ai6 (ae s) [10]).toArray⟩,?_,fun hk=>zW ?_⟩
  ·have hi:okC s=(decide ((s.size:Int)≤2000)&&decide (((aC 10 ⟨(ai6 (ae s) [10]).toArray⟩).length:Int)≤40)&&decide ((ae s).getLast?=some 10)):=by
    have e1:((s.size:Int)≤2000)↔s.size≤2000:=by omega
    have e2:(((aC 10 ⟨(ai6 (ae s) [10]).toArray⟩).length:Int)≤40)↔(aC 10 ⟨(ai6 (ae s) [10]).toArray⟩).length≤40:=by omega
    by_cases hl:(ae s).getLast?=some 10
    ·rw [zW hl] at e2
     simp only [okC,kf,h2,decide_false,Bool.false_or,hl,decide_true,Bool.and_true,e1,e2,zW hl]
    ·simp [okC,kf,h2,hl]
   rw [hi];simp only [be,ai0,ir,h2,decide_false,ajl,aH,if_true,ht,am,ak,hsp,dV,gr,eo,aL,ajo];by_cases g1:(s.size:Int)≤2000
   case neg=>simp -implicitDefEqProofs [g1]
   by_cases g2:(((aC 10 ⟨(ai6 (ae s) [10]).toArray⟩).length:Int)≤40)
   case neg=>simp -implicitDefEqProofs [g1,g2]
   simp -implicitDefEqProofs [g1,g2,hsuf,h2]
  ·unfold okC kf at hk
   simp only [h2,decide_false,Bool.false_or,ajd,decide_eq_true_eq] at hk;exact hk.1.2
def KA (L:List ByteArray):Nat→List ByteArray
 | 0=>[]
 | i+1=>KA L i++[(eu (dQ L i).c (L.getD i ⟨⟨[]⟩⟩)).1]
theorem lU (L:List ByteArray):∀i,(KA L i).length=i
 | 0=>rfl
 | i+1=>by rw [KA,ai9,lU L i];rfl
def cnZ:Cn:={m:=(0,0,0),s:=[],t:=[],j:=⟨⟨[]⟩⟩,f:=[]}
def oV (s:ByteArray):Cn:=if okC s=true then(dQ (aN s) (aN s).length).c else cnZ
def WE (s:ByteArray):List ByteArray:=if okC s=true then KA (aN s) (aN s).length else []
theorem Wi:D.agg [D.v (ai3 aiZ 0),D.v (ai3 aiZ 0),D.v (ai3 aiZ 0),D.arr 2 [],D.arr 1 [],D.v (ai7 {data:={toList:=[]}}),D.arr 2 []]=st7 cnZ:=rfl
theorem ah5:dp [] [D.v (ai3 aiZ 0),D.v (ai3 aiZ 0),D.v (ai3 aiZ 0),D.arr 2 [],D.arr 1 [],D.v (ai7 {data:={toList:=[]}}),D.arr 2 []] []=some (st7 cnZ):=rfl
theorem ahM:dp [(4,1)] [D.v (ai3 aiZ 0),D.v (ai3 aiZ 0),D.v (ai3 aiZ 0),D.arr 2 [],D.arr 1 [],D.v (ai7 {data:={toList:=[]}}),D.arr 2 []] [ai [0]]=some (st7 cn0):=rfl
theorem aiG:aA 1 [D.v (ai3 aiZ 0)]=some (ai [0]):=rfl
theorem afO {l:List ByteArray} {b:D}:ao (.tup [txs l,b]) 0=some (txs l):=rfl
theorem XA {s:ByteArray} (h:s.size≤2000):∀t∈aN s,t.size≤2000:=by
 intro t ht;have ht:=List.mem_of_mem_take ht;unfold aC at ht;obtain⟨l,hl,rfl⟩:=List.mem_map.1 ht;have h1:=NU 10 _ l hl;have h2:s.size=(ae s).length:=rfl;have h3:(⟨l.toArray⟩:ByteArray).size=l.length:=rfl;omega
theorem agn {l:List ByteArray} {t:ByteArray} (h:l.length≤1000):bB 1 16 (txs l) (.arr 1 [T t])=some (txs (l++[t])):=by
 rw [gH,if_pos (by simp;omega)];simp
theorem aeL {c:Cn} {t:ByteArray} {u:D} {k:List D→List D→Option Out} (hk:CnOk c) (ht:t.size≤100000) (hu:u=st7 c):ac (fU [u,T t]) k=k [T (eu c t).1] [st7 (eu c t).2]:=by
 rw [hu,TU c t hk ht];rfl
theorem kT (s:ByteArray) (h:s.size≤1048576):eQ [T s]=some (.ret [st7 (oV s),txs (WE s),B (okC s)] []):=by
 rw [JS];obtain⟨L,e1,hL⟩:=nl s h;rw [Wi];unfold oV WE;cases hok:okC s
 ·rw [hok] at e1
  simp -implicitDefEqProofs only [e1,am,t1V,afO,ai0,bj,ajl,aH,if_true,if_false,ai8,ah5,UK,Yw];rfl
 ·rw [hok] at e1
  obtain rfl:=hL hok;have hz:s.size≤2000:=by
   unfold okC kf at hok;simp only [ajd,decide_eq_true_eq] at hok;exact hok.1.1
  have h40:(aN s).length≤40:=by
   unfold okC at hok;simp only [ajd,decide_eq_true_eq] at hok;exact hok.2
  have hls:=XA hz;generalize aN s=L at *;simp -implicitDefEqProofs only [e1,am,t1V,afO,ai0,bj,ajh,aH,if_true,if_false,ai8,aiG,ahM,UK,be,aL,ajo];refine aG (.ext 0 [st7 cnZ,st7 (dQ L L.length).c,txs (KA L L.length)]) ?_ (by
   simp -implicitDefEqProofs only [bF,ep,Nat.beq_refl,if_true,ak,aE,Yw,UK,ai0])
  refine aY L.length (fun i=>[st7 cnZ,st7 (dQ L i).c,txs (KA L i),txs L,I L.length,I i]) _ (fun i hi=>?_) ?_ rfl rfl
  ·have hg:aq 1 (txs L) (I i)=some [T L[i]]:=by
    rw [wm,ajs,ajg hi];rfl
   have hgd:L.getD i ⟨⟨[]⟩⟩=L[i]:=by rw [aja,ajg hi,Option.getD_some]
   have hli:=hls _ (List.getElem_mem hi);have ha:=agn (l:=KA L i) (t:=(eu (dQ L i).c L[i]).1) (by rw [lU];omega);have hi':(i:Int)<L.length:=by omega
   have hw:aiZ.wrap ((i:Int)+1)=((i+1:Nat):Int):=by rw [ah (by omega) (by omega)];rfl
   have hs:dQ L (i+1)=oE (dQ L i) i (L.getD i ⟨⟨[]⟩⟩):=rfl;have hs2:KA L (i+1)=KA L i++[(eu (dQ L i).c (L.getD i ⟨⟨[]⟩⟩)).1]:=rfl;rw [hs,hs2,hgd];simp -implicitDefEqProofs only [ak,aE,bg,hi',decide_true,ai0,aH,if_true,hg,Option.map_some,bn,aR,bJ,bZ,aeL (Cj L i).1 (Nat.le_trans hli (by decide)) rfl,wd,bv,hw];simp -implicitDefEqProofs only [show cR (.arr 1 [T (eu (dQ L i).c L[i]).1])=some (.arr 1 [T (eu (dQ L i).c L[i]).1]) from rfl,ha,ai0,oE]
  ·have hi':¬((L.length:Nat):Int)<L.length:=by omega
   simp -implicitDefEqProofs only [ak,aE,bg,hi',decide_false,ai0,aH,if_false,ai8]
theorem Pr (a:Int):aA 1 [I a]=some (ai [a]):=by simp [aA,kx]
def oi:List Int→Int→List Int
 | [],n=>[n]
 | x::l,n=>if x<n then x::oi l n else if x=n then x::l else n::x::l
def qA (n:Int):List Int→Nat
 | []=>0
 | x::l=>if x<n then qA n l+1 else 0
theorem aab (n:Int):∀l,qA n l≤l.length
 | []=>aje _
 | x::l=>by
  unfold qA;split
  ·exact Nat.succ_le_succ (aab n l)
  ·exact ajf _
theorem aaj (n:Int):∀(l:List Int) (i:Nat) (h:i<l.length),i<qA n l→l[i]<n
 | [],i,h,_=>by cases h
 | x::l,i,h,hi=>by
  unfold qA at hi;split at hi
  ·rename_i hx
   cases i with
   | zero=>exact hx
   | succ i=>exact aaj n l i (by simpa using h) (by omega)
  ·omega
theorem aak (n:Int):∀(l:List Int) (h:qA n l<l.length),¬l[qA n l]<n
 | [],h=>by cases h
 | x::l,h=>by
  by_cases hx:x<n
  ·have e:qA n (x::l)=qA n l+1:=by simp [qA,hx]
   simp only [e,List.getElem_cons_succ];exact aak n l (by rw [e] at h;simpa using h)
  ·have e:qA n (x::l)=0:=by simp [qA,hx]
   simp only [e,List.getElem_cons_zero];exact hx
theorem Wu (n:Int):∀(l:List Int),oi l n=if l[qA n l]?=some n then l else l.take (qA n l)++n::l.drop (qA n l)
 | []=>by simp [oi,qA]
 | x::l=>by
  by_cases hx:x<n
  ·have e:qA n (x::l)=qA n l+1:=by simp [qA,hx]
   rw [e];simp only [oi,hx,if_true,List.getElem?_cons_succ,List.take_succ_cons,List.drop_succ_cons];rw [Wu n l];split<;>rfl
  ·have e:qA n (x::l)=0:=by simp [qA,hx]
   rw [e];by_cases h2:x=n
   ·simp [oi,h2]
   ·simp [oi,hx,h2]
theorem Vb (l:List Int) (n:Int) (h:l.length≤1000):rH [ai l,I n]=some (.ret [ai (oi l n)] []):=by
 rw [TZ];have hle:=aab n l;refine aG (.ext 0 [ai l,I n,I (qA n l:Nat)]) (aY (qA n l) (fun i=>[ai l,I n,I i]) _ (fun i hi=>?_) ?_ rfl rfl) ?_
 ·have hil:i<l.length:=by omega
  have hlt:=aaj n l i hil hi;have hw:aiZ.wrap ((i:Int)+1)=(i:Int)+1:=ah (by omega) (by omega);simp -implicitDefEqProofs [hil,hlt,hw]
 ·by_cases hl:qA n l<l.length
  ·have:=aak n l hl
   simp -implicitDefEqProofs [hl,this]
  ·simp -implicitDefEqProofs [hl]
 ·rw [Wu]
  generalize qA n l=p at hle;have s1:dH false 1 (ai l) (I ((0:Nat):Int)) (I (p:Int))=some (ai (l.take p)):=by
   have:=mK (z:=1) (l:=l.map I) (i:=0) (j:=p) (k:=.i64) (k':=.i64) (ajf _) (by simp;omega);rw [this];simp [List.map_take]
  have s2:cU false 1 (ai l) (I (p:Int))=some (ai (l.drop p)):=by
   have:=mV (z:=1) (l:=l.map I) (i:=p) (k:=.i64) (by simp;omega);rw [this];simp [List.map_drop]
  have a1:bB 1 8 (ai []) (ai (l.take p))=some (ai (l.take p)):=eL (l:=[]) (by simp;omega);have a2:bB 1 8 (ai (l.take p)) (ai [n])=some (ai (l.take p++[n])):=eL (by simp;omega);have a3:bB 1 8 (ai (l.take p++[n])) (ai (l.drop p))=some (ai (l.take p++[n]++l.drop p)):=eL (by simp;omega);have c1:∀l,cR (ai l)=some (ai l):=fun l=>qg fun _=>rfl
  have m1:aA 1 []=some (ai []):=rfl;have hb:(Nat.beq 0 0)=true:=rfl;have rest:∀q:Bool,q=false→(ifD (B q) (some (Out.ret [ai l] [])) ((aA 1 []).bind fun a=>(dH false 1 (ai l) (D.v (ai3 aiZ 0)) (I (p:Int))).bind fun z=>(cR z).bind fun b=>(bB 1 8 a b).bind fun y=>(aA 1 [I n]).bind fun a=>(cR a).bind fun b=>(bB 1 8 y b).bind fun y =>
    (cU false 1 (ai l) (I (p:Int))).bind fun z=>(bB 1 8 y z).bind fun y=>some (Out.ret [y] [])))=some (.ret [ai (l.take p++n::l.drop p)] []):=by
   rintro q rfl;rw [aH,if_neg (by simp),show(D.v (ai3 aiZ 0))=I ((0:Nat):Int) from rfl,s1];simp -implicitDefEqProofs only [m1,Pr,ai0,c1,a1,a2,s2,a3];simp
  by_cases hp:p<l.length
  ·by_cases hq:l[p]=n
   ·simp -implicitDefEqProofs [hp,hq]
   ·rw [if_neg (by simp [hp,hq])]
    refine Eq.trans ?_ (rest false rfl)
    simp -implicitDefEqProofs [hp,hq,-gH]
  ·rw [if_neg (by simp [hp])]
   refine Eq.trans ?_ (rest false rfl)
   simp -implicitDefEqProofs [hp,-gH]
theorem Xe {n y:Int}:∀{l:List Int},y∈oi l n→y=n∨y∈l
 | [],h=>by simp [oi] at h;exact .inl h
 | x::l,h=>by
  unfold oi at h;split at h
  ·rcases ai2.1 h with rfl | h
   ·simp
   ·rcases Xe h with h | h
    ·exact .inl h
    ·simp [h]
  ·split at h
   ·exact .inr h
   ·simpa using h
theorem Nw {n:Int}:∀{l:List Int},l.Pairwise (·≤·)→(oi l n).Pairwise (·≤·)
 | [],_=>by simp [oi]
 | x::l,h=>by
  have h':=ajq.1 h;unfold oi;split
  ·rename_i hx
   refine ajq.2 ⟨fun y hy=>?_,Nw h'.2⟩
   rcases Xe hy with rfl | hy
   ·omega
   ·exact h'.1 y hy
  ·split
   ·exact h
   ·refine ajq.2 ⟨fun y hy=>?_,h⟩
    rcases ai2.1 hy with rfl | hy
    ·omega
    ·have:=h'.1 y hy
     omega
theorem XS {n:Int}:∀{l:List Int},n∉l→(oi l n).Perm (l++[n])
 | [],_=>by simp [oi]
 | x::l,h=>by
  simp only [ai2,not_or] at h;unfold oi;split
  ·exact(XS h.2).cons x
  ·rw [if_neg (fun e=>h.1 e.symm)]
   exact(List.perm_append_comm (l₁:=[n]) (l₂:=x::l))
theorem acZ:∀(r:List Int) (a:List Int) (o:List Int),o.Pairwise (·≤·)→o.Perm a→(a++r).Nodup→(r.foldl oi o).Pairwise (·≤·)∧(r.foldl oi o).Perm (a++r)
 | [],a,o,h1,h2,_=>⟨h1,by simpa using h2⟩
 | n::r,a,o,h1,h2,h3=>by
  have hn:n∉o:=fun hm=>by
   have:=(List.nodup_append.1 h3).2.2 n (h2.mem_iff.1 hm) n (by simp);exact this rfl
  have:=acZ r (a++[n]) (oi o n) (Nw h1) ((XS hn).trans (h2.append_right [n])) (by simpa using h3);simpa using this
def lp (L:List ByteArray):Nat→List Int
 | 0=>[]
 | i+1=>lp L i++(if (eu (dQ L i).c (L.getD i ⟨⟨[]⟩⟩)).1=noT∨(eu (dQ L i).c (L.getD i ⟨⟨[]⟩⟩)).1=pV then [((i+1:Nat):Int)] else [])
theorem afT:noT≠pV:=by decide
theorem xM (L:List ByteArray):∀i,(∀x∈lp L i,x≤(i:Int))∧(lp L i).Pairwise (·<·)∧(lp L i).Perm ((dQ L i).no++(dQ L i).wh)∧(lp L i).length≤i
 | 0=>⟨fun x hx=>by simp [lp] at hx,ajr,ajA _,aje _⟩
 | i+1=>by
  obtain⟨h1,h2,h3,h4⟩:=xM L i;have hr:dQ L (i+1)=oE (dQ L i) i (L.getD i ⟨⟨[]⟩⟩):=rfl;rw [hr];unfold lp oE;generalize (eu (dQ L i).c (L.getD i ⟨⟨[]⟩⟩)).1=a;dsimp only;by_cases ha:a=noT
  ·have hb:¬a=pV:=fun e=>afT (ha.symm.trans e)
   rw [if_pos (.inl ha),if_pos ha,if_neg hb];refine⟨fun x hx=>?_,?_,?_,by rw [ai9];simp;omega⟩
   ·rcases ajn.1 hx with g | g
    ·have:=h1 x g;omega
    ·rw [ajk] at g;omega
   ·refine List.pairwise_append.2 ⟨h2,List.pairwise_singleton _ _,fun x hx y hy=>?_⟩
    rw [ajk] at hy;have:=h1 x hx;omega
   ·refine(h3.append_right _).trans ?_
    rw [ajb,ajb];exact List.perm_append_comm.append_left _
  ·by_cases hb:a=pV
   ·rw [if_pos (.inr hb),if_neg ha,if_pos hb]
    refine⟨fun x hx=>?_,?_,?_,by rw [ai9];simp;omega⟩
    ·rcases ajn.1 hx with g | g
     ·have:=h1 x g;omega
     ·rw [ajk] at g;omega
    ·refine List.pairwise_append.2 ⟨h2,List.pairwise_singleton _ _,fun x hx y hy=>?_⟩
     rw [ajk] at hy;have:=h1 x hx;omega
    ·refine(h3.append_right _).trans ?_
     rw [ajb]
   ·rw [if_neg (by simp [ha,hb]),if_neg ha,if_neg hb,aju]
    exact⟨fun x hx=>by have:=h1 x hx;omega,h2,h3,by omega⟩
theorem ad1 (L:List ByteArray) (i:Nat):((dQ L i).no++(dQ L i).wh).foldl oi []=lp L i:=by
 obtain⟨-,h2,h3,-⟩:=xM L i;have hn:((dQ L i).no++(dQ L i).wh).Nodup:=h3.nodup_iff.1 (h2.imp fun h=>by omega);obtain⟨g1,g2⟩:=acZ ((dQ L i).no++(dQ L i).wh) [] [] ajr (ajA _) (by simpa using hn);exact List.Perm.eq_of_pairwise (le:=(·≤·)) (fun a b _ _ h1 h2=>by omega) g1 (h2.imp fun h=>by omega) ((by simpa using g2:(((dQ L i).no++(dQ L i).wh).foldl oi []).Perm ((dQ L i).no++(dQ L i).wh)).trans h3.symm)
theorem Vn (s:ByteArray) (h:okC s=true):oV s=(ot s).c:=by
 unfold oV ot;rw [if_pos h,if_pos h]
theorem Un (s:ByteArray) (h:okC s=false):oV s=cnZ:=by
 unfold oV;rw [if_neg (by rw [h];simp)]
theorem Po (c:Cn) (k:Nat):aa (st7 c) (D.ref 0 k)=some (D.ref 0 k):=rfl
theorem aaq (c:Cn):stD 7 (st7 cnZ) (.ref 0 0) (st7 c)=some (st7 c):=rfl
theorem t0S {c:Cn} {b:List D}:ao (.tup (st7 c::b)) 0=some (st7 c):=rfl
theorem aat (c:Cn) (a b:D):dy (.tup [st7 c,a,b]) 1 = .tup [st7 c,.bad,b]:=rfl
theorem LR {a c:D} {x:Value}:ao (.tup [a,c,.v x]) 2=some (.v x):=rfl
theorem t1X {a:D} {l:List ByteArray} {b:List D}:ao (.tup (a::txs l::b)) 1=some (txs l):=rfl
theorem t0P {a:Rn} {n:Int} {b:List D}:ao (.tup (cnP a n::b)) 0=some (cnP a n):=rfl
theorem Lr {a:Rn} {n:Int}:Pg (cnP a n)=some (cnP a n):=rfl
section
variable (a:Rn) (n:Int)
theorem aiH:((lD 5 (cnP a n)).bind fun z=>(ldD false 1 z).bind aM)=some (T a.c.j):=rfl
end
theorem Cw (s:ByteArray) (h:s.size≤1048576):hX [T s]=some (.ret [T (oV s).j,B (okC s)] []):=by
 rw [Cs,Wi];simp -implicitDefEqProofs only [aw,aiW,aiX,aiY,kT s h,t0S,t1X,aat,LR,aaq,Po,ED]
theorem Cu (s:ByteArray) (h:s.size≤1048576):hP [T s]=some (.ret [T (oV s).j,B (okC s)] []):=by
 rw [CF];have e1:=GS s h;cases hk:okC s
 ·rw [hk] at e1
  rw [Un s hk];simp -implicitDefEqProofs only [aw,aiW,aiX,aiY,e1,t0P,t1V,LR,Lr];rfl
 ·rw [hk] at e1
  rw [Vn s hk];have q:=fun n=>aiH (ot s) n
  simp -implicitDefEqProofs only [e1,am,t0P,t1V,LR,Lr,ai0,bj,ajh,aH,if_false,ai8];rfl
theorem JQ (s:ByteArray) (h:s.size≤1048576):kZ [T s]=some (.ret [me (oV s).m,B (okC s)] []):=by
 rw [Ky,Wi];simp -implicitDefEqProofs only [aw,aiW,aiX,aiY,kT s h,t0S,t1X,aat,LR,aaq,Po,NN,sF,sO]
theorem KG (s:ByteArray) (h:s.size≤1048576):kL [T s]=some (.ret [me (oV s).m,B (okC s)] []):=by
 rw [JD];have e1:=GS s h;cases hk:okC s
 ·rw [hk] at e1
  rw [Un s hk];simp -implicitDefEqProofs only [e1,am,t0P,t1V,LR,Lr,ai0,bj,ajl,aH,if_true];rfl
 ·rw [hk] at e1
  rw [Vn s hk];simp -implicitDefEqProofs only [e1,am,t0P,t1V,LR,Lr,ai0,bj,ajh,aH,if_false,ai8];rfl
theorem WQ {l m:List Slp} (h:l.length+m.length≤1048577):bB 2 16 (sls l) (sls m)=some (sls (l++m)):=by
 rw [gH,if_pos (by simp;omega)];simp
theorem VS (l:List Slp):cR (sls l)=some (sls l):=qg fun _=>rfl
theorem aas (s:ByteArray):CnOk (oV s)∨oV s=cnZ:=by
 unfold oV;split
 ·exact .inl (Cj _ _).1
 ·exact .inr rfl
theorem PN (s:ByteArray):(oV s).s.length≤8:=by
 rcases aas s with h | h
 ·exact dE h.s
 ·rw [h];exact ajf _
theorem Hg (s:ByteArray) (h:s.size≤1048576):jI [T s]=some (.ret [sls (oV s).s,B (okC s)] []):=by
 rw [HR,Wi];have hl:=PN s;have ha:=WQ (l:=[]) (m:=(oV s).s) (by simp;omega);rw [aji] at ha;have hm:aA 2 []=some (sls []):=rfl;simp -implicitDefEqProofs only [aw,aiW,aiX,aiY,kT s h,t0S,t1X,aat,LR,aaq,Po,WR,hm,VS,ha]
theorem IQ (s:ByteArray) (h:s.size≤1048576):jS [T s]=some (.ret [sls (oV s).s,B (okC s)] []):=by
 rw [Gm];have e1:=GS s h;cases hk:okC s
 ·rw [hk] at e1
  rw [Un s hk];simp -implicitDefEqProofs only [e1,am,t0P,t1V,LR,Lr,ai0,bj,ajl,aH,if_true];rfl
 ·rw [hk] at e1
  have hl:=PN s;rw [Vn s hk] at hl ⊢;have ha:=WQ (l:=[]) (m:=(ot s).c.s) (by simp;omega);rw [aji] at ha;have hm:aA 2 []=some (sls []):=rfl;have q:∀n:Int,∀k:D→Option Out,((lD 3 (cnP (ot s) n)).bind fun z=>(ldD false 1 z).bind k)=k (sls (ot s).c.s):=fun _ _=>rfl
  simp -implicitDefEqProofs only [e1,am,t0P,t1V,LR,Lr,ai0,bj,ajh,aH,if_false,ai8,q,hm,VS,ha]
theorem agZ:(D.v (ai7 {data:={toList:=[110,111]}}))=T noT:=rfl
theorem acK:(D.v (ai7 {data:={toList:=[119,104,97,116]}}))=T pV:=rfl
theorem adl (s:ByteArray):(WE s).length≤40:=by
 unfold WE;split
 ·rename_i h
  rw [lU];unfold okC at h;simp only [ajd,decide_eq_true_eq] at h;exact h.2
 ·exact ajf _
theorem sQ (s:ByteArray) (h:s.size≤1048576):fW [T s]=some (.ret [ai (if okC s=true then lp (aN s) (aN s).length else []),B (okC s)] []):=by
  rw [FN,Wi];have h40:=adl s;simp -implicitDefEqProofs only [kT s h,am,t0S,t1X,aat,LR,aaq,ai0,aL,ajo,be];have key:∀(A:List ByteArray) (b:Bool) (Fl:Nat→List Int),A.length≤40→Fl 0=[]→(∀i,(hi:i<A.length)→Fl (i+1)=Fl i++(if A[i]=noT∨A[i]=pV then [((i+1:Nat):Int)] else []))→(∀i,(Fl i).length≤i) →
      ((ba (fun s=>(bin BinOp.lss false [] (sl s 4) (sl s 3)).bind fun z=>ifD z ((ai5 D.ptr (aq 1 (sl s 2) (sl s 4))).bind fun z =>
 ((ldD false 1 z).bind aM).bind fun z=>(bin BinOp.eql false [] z (D.v (ai7 {data:={toList:=[110,111]}}))).bind fun z_2=>(aj (D.tup []) z_2 false (some z)).bind fun z=>(aj (D.tup []) z_2 false
 (bin BinOp.eql false [] z (D.v (ai7 {data:={toList:=[119,104,97,116]}})))).bind fun z=>(aS z_2 (D.v (Value.bool true)) z).bind fun z=>ifD z
 ((bin ajB false [] (sl s 4) (D.v (ai3 aiZ 1))).bind fun z=>(aA 1 [z]).bind fun a=>(cR a).bind fun b=>(bB 1 8 (sl s 1) b).bind fun y =>
 (bin ajB false [] (sl s 4) (D.v (ai3 aiZ 1))).bind fun z=>some (Out.nrm [sl s 0,y,sl s 2,sl s 3,z])) ((bin ajB false [] (sl s 4) (D.v (ai3 aiZ 1))).bind
 fun z=>some (Out.nrm [sl s 0,sl s 1,sl s 2,sl s 3,z]))) (some (Out.ext 0 [sl s 0,sl s 1]))) [B b,.arr 1 [],txs A,I A.length,D.v (ai3 aiZ 0)]).bind fun o =>
 bV o (fun i s=>ifN (i.beq 0) (some (Out.ret [sl s 1,sl s 0] [])) none) fun a b=>some (Out.ret a b))=some (.ret [ai (Fl A.length),B b] []):=by
    intro A b Fl hA hF0 hF hFl;refine aG (.ext 0 [B b,ai (Fl A.length)]) (aY A.length (fun i=>[B b,ai (Fl i),txs A,I A.length,I i]) _ (fun i hi=>?_) ?_ rfl (by rw [hF0];rfl)) ?_
    · have hg:aq 1 (txs A) (I i)=some [T A[i]]:=by
        rw [wm,ajs,ajg hi];rfl
      have hi':(i:Int)<A.length:=by omega
      have hw:aiZ.wrap ((i:Int)+1)=((i+1:Nat):Int):=by rw [ah (by omega) (by omega)];rfl
      have hlen:=hFl i;have ha:bB 1 8 (ai (Fl i)) (ai [((i+1:Nat):Int)])=some (ai (Fl i++[((i+1:Nat):Int)])):=eL (by simp;omega);have hc:cR (ai [((i+1:Nat):Int)])=some (ai [((i+1:Nat):Int)]):=rfl;rw [hF i hi];generalize A[i]=a at *;rw [agZ,acK];by_cases h1:a=noT
      · rw [if_pos (.inl h1)]
        simp -implicitDefEqProofs only [aw,aiW,aiX,aiY,hi',hg,af,decide_eq_true h1,hw,Pr,hc,ha]
      · by_cases h2:a=pV
        · rw [if_pos (.inr h2)]
          simp -implicitDefEqProofs only [aw,aiW,aiX,aiY,hi',hg,af,decide_eq_false h1,decide_eq_true h2,hw,Pr,hc,ha]
        · rw [if_neg (by simp [h1,h2]),aju]
          simp -implicitDefEqProofs only [aw,aiW,aiX,aiY,hi',hg,af,decide_eq_false h1,decide_eq_false h2,hw]
    · have hi':¬((A.length:Nat):Int)<A.length:=by omega
      simp -implicitDefEqProofs only [aw,aiW,aiX,aiY,hi']
    · simp -implicitDefEqProofs only [aw,aiW,aiX,aiY,ep]
  cases hk:okC s
  · have hA:WE s=[]:=by unfold WE;rw [if_neg (by rw [hk];simp)]
    rw [hA];exact key [] false (fun _=>[]) (ajf _) rfl (fun i hi=>by cases hi) (fun _=>ajf _)
  · have hA:WE s=KA (aN s) (aN s).length:=by unfold WE;rw [if_pos hk]
    rw [hA] at h40 ⊢;have hat:∀(L:List ByteArray) (n i:Nat) (hi:i<n),(KA L n)[i]'(by rw [lU];exact hi)=(eu (dQ L i).c (L.getD i ⟨⟨[]⟩⟩)).1:=by
      intro L n;induction n with
      | zero=>intro i hi;omega
      | succ n ih =>
        intro i hi;simp only [KA];by_cases hn:i<n
        · rw [List.getElem_append_left (by rw [lU];exact hn)]
          exact ih i hn
        · have:i=n:=by omega
          subst this;rw [List.getElem_append_right (by rw [lU];exact aje _)];simp [lU]
    have:=key (KA (aN s) (aN s).length) true (lp (aN s)) h40 rfl (fun i hi=>by
      rw [hat _ _ _ (by rw [lU] at hi;exact hi)];rfl) (fun i=>(xM _ i).2.2.2)
    rw [lU] at this;rw [lU,if_pos rfl];exact this
theorem FG (s:ByteArray) (h:s.size≤1048576):iW [T s]=some (.ret [ai (if okC s=true then lp (aN s) (aN s).length else []),B (okC s)] []):=by
 rw [FD];have e1:=GS s h;cases hk:okC s
 ·rw [hk] at e1
  simp -implicitDefEqProofs only [e1,am,t0P,t1V,LR,Lr,ai0,bj,ajl,aH,if_true,ai8,if_false];rfl
 ·rw [hk,if_pos rfl] at e1
  have h40:(aN s).length≤40:=by
   unfold okC at hk;simp only [ajd,decide_eq_true_eq] at hk;exact hk.2
  have hR:ot s=dQ (aN s) (aN s).length:=by unfold ot;rw [if_pos hk]
  have hf:=ad1 (aN s) (aN s).length;obtain⟨-,-,b1,b2⟩:=Cj (aN s) (aN s).length;rw [if_pos rfl,←hf];rw [hR] at e1;generalize dQ (aN s) (aN s).length=R at *;generalize (aN s).length=n at *;have o7:∀n:Int,lD 7 (cnP R n)=some (.ptr [ai R.no,ai R.wh,I n]):=fun _=>rfl
  have o8:∀n:Int,lD 8 (cnP R n)=some (.ptr [ai R.wh,I n]):=fun _=>rfl
  have w1:=nZ R.no (by omega);have ha:bB 1 8 (ai R.no) (ai R.wh)=some (ai (R.no++R.wh)):=eL (by omega);have hA:(R.no++R.wh).length≤1000:=by rw [ai9];omega
  simp -implicitDefEqProofs only [e1,am,t0P,t1V,LR,Lr,ai0,bj,ajh,aH,if_false,ai8,o7,o8,bn,aR,w1,ak,ha,aL,ajo];generalize R.no++R.wh=A at *;have hpl:∀(r o:List Int),(r.foldl oi o).length≤o.length+r.length:=by
   intro r;induction r with
   | nil=>intro o;simp
   | cons x r ih =>
    intro o;have h1:=ih (oi o x);have h2:∀l:List Int,(oi l x).length≤l.length+1:=by
     intro l;induction l with
     | nil=>simp [oi]
     | cons y l ih2 =>
      unfold oi;split
      ·simpa using ih2
      ·split<;>simp
    have:=h2 o;simp only [ajz,aiU];omega
  refine aG (.ext 0 [ai (A.foldl oi [])]) (aY A.length (fun i=>[ai ((A.take i).foldl oi []),ai A,I A.length,I i]) _ (fun i hi=>?_) ?_ rfl rfl) ?_
  ·have hg:aq 1 (ai A) (I i)=some [I A[i]]:=by
    rw [wm,ajs,ajg hi];rfl
   have hi':(i:Int)<A.length:=by omega
   have hw:aiZ.wrap ((i:Int)+1)=((i+1:Nat):Int):=by rw [ah (by omega) (by omega)];rfl
   have hts:A.take (i+1)=A.take i++[A[i]]:=List.take_succ_eq_append_getElem hi;have hlen:=hpl (A.take i) [];rw [ajx,aiV] at hlen;rw [hts,List.foldl_append,ajz,List.foldl_nil];have hp:=Vb ((A.take i).foldl oi []) A[i] (by omega);simp -implicitDefEqProofs only [aw,aiW,aiX,aiY,hi',hg,hp,hw]
  ·have hi':¬((A.length:Nat):Int)<A.length:=by omega
   simp -implicitDefEqProofs only [aw,aiW,aiX,aiY,hi',ajw]
  ·simp -implicitDefEqProofs only [aw,aiW,aiX,aiY,ep]
end Go.Proofs.YtjafgdefcggjcaaGreatDoor

namespace Go.Proofs.YtjafgdefcggjcaaGreatDoor
open Go Go.V Go.RowKit Go.Shelf
end Go.Proofs.YtjafgdefcggjcaaGreatDoor

namespace Go.Proofs.YtjafgdefcggjcaaGreatDoor
open Go.V
set_option maxRecDepth 100000
@[reducible] def tm:Cx:={K:=[Y,.no,Yo 3 0,Y,Y,.tup [Yo 3 0,Y],Yo 3 0,Y],T:=[(48,CJ)],S:=[(53,gc)],H:=[],res:=[.tmp 2,.tmp 3],ios:=[],G:=gl2}
def iM:List D→Option Out:=aX tm Tryz.f37
@[reducible] def sm:FS:={pm:=[Y],rm:=[Yo 3 0,Y],f:=iM}
theorem FT:au gl2 Tryz.prog 37 sm:=ay (c:=tm) (ab iQ al) Tryz.func37 rfl rfl (by kernel_rfl)
@[reducible] def oH:Cx:={K:=[Yc,Yc,.no,.no,Y,Y,.box 3 0 false,Y,.box 3 0 false,Y,Yb,Y,Yb,Y,Y,Y,Y,Y,Yb,Y,Y,Y,Y,Y,Y,Y,Yb,Y,Yb,Y,Yc,Y,Yc,Yc,Y,Yc,Y,.tup [Y,Y],Y,.tup [Y,Y],Y,Y,.tup [Y,Y],Y,.tup [Y,Y],Y,Y,.tup [Yo 2 0,Y],Y,.tup [Yo 2 0,Y],Yb,Y,.tup [Yo 2 0,Y],Y,.tup [Yo 2 0,Y],Yb,Y,.tup [Y,Y],Y,.tup [Y,Y],Y,Y,.tup [Y,Y],Y,.tup [Y,Y],Y,Y,Y,Y,Y,Y,Y,Y,Y,Y,Y,Y,Y,Y,Y,Y,Yb,Yb,Y,Y,Y,Y,Y,Y,Y,Y,Y,Y,Y,Y,Y,Y,Y,Y,Y,Y,Y,Y,Y,Y,Y,Y,Y,Y,Y,Y,Y,Yb,Y,Y,Y,Y,Y,.tup [Yo 3 0,Y],Y,.tup [Yo 3 0,Y],Yb,Y,Y,Y,.tup [Y,Y],Yc,.tup [Y,Y],Y,Y,.tup [Y,Y],Y,Y,.tup [Y,Y],Y,Y,.tup [Y,Y],Y,Y,.tup [Y,Y],Y,Y,Y,Y,Y,Y,Y,Y,Y,Y,Y,.tup [Yo 1 0,Y],Y,.tup [Yo 1 0,Y],Yb,Y,.tup [Yo 1 0,Y],Y,.tup [Yo 1 0,Y],Yb,Y,.tup [Yc,Y],Y,.tup [Yc,Y],Yc,Y,Y,Y,Y,Y,Y,Y,Y,Y,Y,Y,Y,Y,Y,Y,Y,Yb,Yc,Y,Y,Y,Yb,Y,Yb,Y,Y,Y],T:=[(3,ty3),(4,ty4),(9,ty9),(29,gQ),(38,dq)],S:=[(11,qU),(12,rj),(17,wV),(18,vC),(20,tE),(21,tB),(25,tc),(26,sH),(30,Nv),(32,yP),(33,qu),(34,uK),(35,jx),(36,gb),(37,sm),(38,np),(39,sy),(40,su)],H:=[],res:=[.tmp 4],ios:=[],G:=gl2}
abbrev oB:List (Nat × List Nat):=[(4095,[1])]
def gm:List D→Option Out:=Ej oH oB Tryz.f10
@[reducible] def jF:FS:={pm:=[Yc,Yc],rm:=[Y],f:=gm}
theorem zy:au gl2 Tryz.prog 10 jF:=Kb (J:=oB) (P:=Tryz.prog) (c:=oH) (fn:=Tryz.f10) (pm:=jF.pm) (rm:=jF.rm) (by kernel_rfl) (ab (aJ mN Cy) (ab CP (ab (aJ mN JN) (ab KB (ab (aJ mN Ia) (ab GP (ab (aJ mN Fw) (ab FU (ab (aJ mN Zt) (ab (aJ mN LO) (ab (aJ mN zK) (ab (aJ mN HI) (ab (aJ mN mb) (ab (aJ mN iD) (ab FT (ab (aJ mN xz) (ab (aJ mN FW) (ab (aJ mN FE) al)))))))))))))))))) dI (by kernel_rfl) Tryz.func10 (by kernel_rfl) (by kernel_rfl) rfl
open Go Go.V
theorem Fq (x0:D):iM [x0]=(ac (dS [x0]) fun c _=>(ao (.tup c) 0).bind fun y=>(ao (dy (.tup c) 0) 1).bind fun z=>some (.ret [y,z] [])):=by kernel_rfl
theorem yT (x0 x1:D):gm [x0,x1]=(ac (xN [x0,x1]) fun c _=>ifD (sl c 0) (some (.ret [B true] [])) (ac (gJ [x0]) fun c _=>ac (kZ [sl c 0]) fun t _=>(ao (.tup t) 0).bind fun z=>(ao (.tup t) 1).bind fun d=>(stD 3 (.agg [I 0,I 0,I 0]) (.ref 0 0) z).bind fun b=>ac (kL [sl c 0]) fun u _=>(ao (.tup u) 0).bind fun z=>(ao (.tup u) 1).bind fun zf=>(stD 3 (.agg [I 0,I 0,I 0]) (.ref 0 0) z).bind fun zg=>ac (jI [sl c 0]) fun v _=>(ao (.tup v) 0).bind fun y=>(ao (dy (.tup v) 0) 1).bind fun z=>ac (jS [sl c 0]) fun w _=>(ao (.tup w) 0).bind fun zh=>(ao (dy (.tup w) 0) 1).bind fun zi=>ac (hX [sl c 0]) fun za _=>(ao (.tup za) 0).bind fun zb=>(ao (.tup za) 1).bind fun p=>ac (hP [sl c 0]) fun c _=>(ao (.tup c) 0).bind fun zj=>(ao (.tup c) 1).bind fun zk=>(bin .neq true [] d zf).bind fun g=>(aj (.tup []) g false (bf true 3 0 b)).bind fun zl=>(aj (.tup []) g false (bf true 3 0 zg)).bind fun zm=>(aj (.tup []) g false (bin .neq false [1,1,1] zl zm)).bind fun zn=>(aS g (B true) zn).bind fun h=>(aj (.tup []) h false (some z)).bind fun zo=>(aj (.tup []) h false (some zi)).bind fun zp=>(aj (.tup []) h false (bin .neq true [] zo zp)).bind fun zq=>(aS h (B true) zq).bind fun f=>(aj (.tup []) f false (some y)).bind fun zr=>(aj (.tup []) f false (some zh)).bind fun zs=>cQ f false (ac (kj [zr,zs]) fun c _=>some (.nrm [sl c 0])) [.tup []] fun e=>(aj (.tup []) f false (un .not (sl e 0))).bind fun zt=>(aS f (B true) zt).bind fun k=>(aj (.tup []) k false (some p)).bind fun zu=>(aj (.tup []) k false (some zk)).bind fun zv=>(aj (.tup []) k false (bin .neq true [] zu zv)).bind fun zw=>(aS k (B true) zw).bind fun l=>(aj (.tup []) l false (some zb)).bind fun z_25=>(aj (.tup []) l false (some zj)).bind fun z_26=>(aj (.tup []) l false (bin .neq false [] z_25 z_26)).bind fun z_27=>(aS l (B true) z_27).bind fun m=>(aj (.tup []) m false (some z)).bind fun z=>(aj (.tup []) m false (some d)).bind fun z_29=>(aj (.tup []) m false (bin .neq true [] z z_29)).bind fun z=>(aS m (B true) z).bind fun z=>(aj (.tup []) z false (some p)).bind fun z_30=>(aj (.tup []) z false (some d)).bind fun z_31=>(aj (.tup []) z false (bin .neq true [] z_30 z_31)).bind fun z_32=>(aS z (B true) z_32).bind fun z=>ifD z (some (.ret [B false] [])) ((aj (.tup []) d true (bf true 3 0 b)).bind fun z=>cQ d true (ac (dG [z]) fun c _=>some (.nrm [sl c 0])) [.tup []] fun e=>(aj (.tup []) d true (un .not (sl e 0))).bind fun z=>(aj (.tup []) d true (some z)).bind fun z=>(aj (.tup []) z false (some y)).bind fun z_33=>cQ z false (ac (eE [z_33]) fun c _=>some (.nrm [sl c 0])) [.tup []] fun e=>(aj (.tup []) z false (un .not (sl e 0))).bind fun z_34=>(aj (.tup []) d true (aS z (B true) z_34)).bind fun z=>(aS d z (B false)).bind fun z=>ifD z (some (.ret [B false] [])) (fj (fun j=>ifD p (ac (iM [zb]) fun c _=>(ao (.tup c) 0).bind fun _=>(ao (dy (.tup c) 0) 1).bind fun z=>(un .not z).bind fun z=>ifD z (some (.ret [B false] [])) (j [x1])) (j [x1])) fun s=>ac (fF [sl s 0]) fun c _=>(ao (.tup c) 0).bind fun z=>(ao (.tup c) 1).bind fun q=>ac (ja [z,q]) fun c _=>(ao (.tup c) 0).bind fun r=>(ao (.tup c) 1).bind fun zc=>ac (iV [z,q]) fun c _=>(ao (.tup c) 0).bind fun zd=>(ao (.tup c) 1).bind fun z_39=>(bin .neq true [] zc z_39).bind fun n=>(aj (.tup []) n false (some r)).bind fun z_41=>(aj (.tup []) n false (some zd)).bind fun z_42=>(aj (.tup []) n false (bin .neq false [] z_41 z_42)).bind fun z_43=>(aS n (B true) z_43).bind fun z_44=>ifD z_44 (some (.ret [B false] [])) (ifD zc (ac (fW [z]) fun c _=>(ao (.tup c) 0).bind fun y=>(ao (dy (.tup c) 0) 1).bind fun z_45=>ac (fW [r]) fun c _=>(ao (.tup c) 0).bind fun ze=>(ao (dy (.tup c) 0) 1).bind fun z_46=>ac (iW [zd]) fun c _=>(ao (.tup c) 0).bind fun z_47=>(ao (.tup c) 1).bind fun z_48=>(bin .add false [] z q).bind fun z=>(bin .eql false [] r z).bind fun z=>(aj (.tup []) z true (some z_45)).bind fun z_49=>(aS z z_49 (B false)).bind fun z=>(aj (.tup []) z true (some z_46)).bind fun z_50=>(aS z z_50 (B false)).bind fun z=>(aj (.tup []) z true (some z_48)).bind fun z_51=>(aS z z_51 (B false)).bind fun z=>(aj (.tup []) z true (some ze)).bind fun z_52=>(aj (.tup []) z true (some z_47)).bind fun z_53=>cQ z true (ac (ml [z_52,z_53]) fun c _=>some (.nrm [sl c 0])) [.tup []] fun e=>(aS z (sl e 0) (B false)).bind fun z=>(aj (.tup []) z true (some y)).bind fun z_54=>(aj (.tup []) z true (lenD false z_54)).bind fun z_55=>(aj (.tup []) z true (some ze)).bind fun z_56=>(aj (.tup []) z true (lenD false z_56)).bind fun z_57=>(aj (.tup []) z true (bin .leq false [] z_55 z_57)).bind fun z_58=>(aS z z_58 (B false)).bind fun z=>some (.ret [z] [])) (some (.ret [B true] []))))))):=by kernel_rfl
theorem aiF {m:Me} {b:List D}:ao (.tup (me m::b)) 0=some (me m):=rfl
theorem aiK {l:List Slp} {b:List D}:ao (.tup (sls l::b)) 0=some (sls l):=rfl
theorem aiy {l:List Int} {b:List D}:ao (.tup (ai l::b)) 0=some (ai l):=rfl
theorem aga {a:D} {b:List D}:dy (.tup (a::b)) 0 = .tup (.bad::b):=rfl
theorem ZZ {x:Value}:ao (.tup [.bad,.v x]) 1=some (.v x):=rfl
theorem cY {a b:ByteArray} (ha:a.size≤1000000) (hb:b.size≤1000000):bin .add false [] (T a) (T b)=some (T (a++b)):=YM (by omega)
theorem aU (l:List UInt8):(⟨⟨l⟩⟩:ByteArray).size=l.length:=rfl
theorem dF {K:Option Out} {t:ByteArray} {c':Cur} {B:Nat} (h:K=some (.ret [T t] [lX c'])) (ht:t.size≤500) (hk:c'.ok (B+200)):∃(t:ByteArray) (c':Cur),K=some (.ret [T t] [lX c'])∧t.size≤500∧c'.ok (B+200):=⟨t,c',h,ht,hk⟩
set_option maxHeartbeats 1000000 in
theorem IZ (c:Cur) (B:Nat) (h:c.ok B) (hB:B≤1000000):∃(t:ByteArray) (c':Cur),dc [lX c]=some (.ret [T t] [lX c'])∧t.size≤500∧c'.ok (B+200):=by
 rw [wF];obtain⟨v1,c1,e1,l1,u1,k1⟩:=iF c 20 B h (by omega) (by decide);obtain⟨v2,c2,e2,l2,u2,k2⟩:=iF c1 60 (B+2) k1 (by omega) (by decide);obtain⟨v3,c3,e3,l3,u3,k3⟩:=iF c2 16 (B+2+2) k2 (by omega) (by decide);have n1:=bR (n:=v1) l1 (by omega);have w2:aiZ.wrap (1+v2)=1+v2:=ah (by omega) (by omega);have n2:=bR (n:=1+v2) (by omega) (by omega);have z1:(aI v1).size≤10:=bX 9 l1 (by omega);have z2:(aI (1+v2)).size≤10:=bX 9 (by omega) (by omega);generalize aI v1=s1 at *;generalize aI (1+v2)=s2 at *;have hv:v3=0∨v3=1∨v3=2∨v3=3∨v3=4∨v3=5∨v3=6∨v3=7∨v3=8∨v3=9∨v3=10∨v3=11∨v3=12∨v3=13∨v3=14∨v3=15:=by omega
 rcases hv with rfl | rfl | rfl | rfl | rfl | rfl | rfl | rfl | rfl | rfl | rfl | rfl | rfl | rfl | rfl | rfl
 ·obtain⟨t4,d4,f4,m4,q4⟩:=Ba c3 [⟨⟨[109,101,108,116,32]⟩⟩,⟨⟨[106,111,105,110,32]⟩⟩,⟨⟨[106,111,105,110,32]⟩⟩] (B+2+2+2) k3 (by omega) (by simp) (by simp)
  have hm4:aA 1 [T ⟨⟨[109,101,108,116,32]⟩⟩,T ⟨⟨[106,111,105,110,32]⟩⟩,T ⟨⟨[106,111,105,110,32]⟩⟩]=some (txs [⟨⟨[109,101,108,116,32]⟩⟩,⟨⟨[106,111,105,110,32]⟩⟩,⟨⟨[106,111,105,110,32]⟩⟩]):=qd (l:=[⟨⟨[109,101,108,116,32]⟩⟩,⟨⟨[106,111,105,110,32]⟩⟩,⟨⟨[106,111,105,110,32]⟩⟩]);have hs4:t4.size≤100:=by
   simp only [ai2,ai1,or_false] at m4;rcases m4 with rfl | rfl | rfl<;>first | omega | (simp only [aiT,aU,aiU,aiV];omega)
  obtain⟨m,c5,e5,g5,k5⟩:=ab4 d4 (B+2+2+2+2) q4 (by omega);have e6:=pl g5;have z6:=Wa g5;have a1:=cY (a:=t4) (b:=mtT m) (by first | omega | (simp only [aiT,aU,aiU,aiV];omega)) (by first | omega | (simp only [aiT,aU,aiU,aiV];omega));refine dF (t:=t4++mtT m) (c':=c5) ?_ (by first | omega | (simp only [aiT,aU,aiU,aiV];omega)) (Cur.ok.mono k5 (by omega))
  simp -implicitDefEqProofs only [aw,aiW,aiX,aiY,fj,e1,n1,e2,w2,n2,e3,hm4,f4,e5,e6,a1]
 ·obtain⟨t4,d4,f4,m4,q4⟩:=Ba c3 [⟨⟨[109,101,108,116,32]⟩⟩,⟨⟨[106,111,105,110,32]⟩⟩,⟨⟨[106,111,105,110,32]⟩⟩] (B+2+2+2) k3 (by omega) (by simp) (by simp)
  have hm4:aA 1 [T ⟨⟨[109,101,108,116,32]⟩⟩,T ⟨⟨[106,111,105,110,32]⟩⟩,T ⟨⟨[106,111,105,110,32]⟩⟩]=some (txs [⟨⟨[109,101,108,116,32]⟩⟩,⟨⟨[106,111,105,110,32]⟩⟩,⟨⟨[106,111,105,110,32]⟩⟩]):=qd (l:=[⟨⟨[109,101,108,116,32]⟩⟩,⟨⟨[106,111,105,110,32]⟩⟩,⟨⟨[106,111,105,110,32]⟩⟩]);have hs4:t4.size≤100:=by
   simp only [ai2,ai1,or_false] at m4;rcases m4 with rfl | rfl | rfl<;>first | omega | (simp only [aiT,aU,aiU,aiV];omega)
  obtain⟨m,c5,e5,g5,k5⟩:=ab4 d4 (B+2+2+2+2) q4 (by omega);have e6:=pl g5;have z6:=Wa g5;have a1:=cY (a:=t4) (b:=mtT m) (by first | omega | (simp only [aiT,aU,aiU,aiV];omega)) (by first | omega | (simp only [aiT,aU,aiU,aiV];omega));refine dF (t:=t4++mtT m) (c':=c5) ?_ (by first | omega | (simp only [aiT,aU,aiU,aiV];omega)) (Cur.ok.mono k5 (by omega))
  simp -implicitDefEqProofs only [aw,aiW,aiX,aiY,fj,e1,n1,e2,w2,n2,e3,hm4,f4,e5,e6,a1]
 ·have a1:=cY (a:=⟨⟨[116,97,107,101,32]⟩⟩) (b:=s1) (by first | omega | (simp only [aiT,aU,aiU,aiV];omega)) (by first | omega | (simp only [aiT,aU,aiU,aiV];omega))
  have a2:=cY (a:=⟨⟨[116,97,107,101,32]⟩⟩) (b:=s2) (by first | omega | (simp only [aiT,aU,aiU,aiV];omega)) (by first | omega | (simp only [aiT,aU,aiU,aiV];omega));obtain⟨t4,d4,f4,m4,q4⟩:=Ba c3 [⟨⟨[115,104,97,114,101,115]⟩⟩,(⟨⟨[116,97,107,101,32]⟩⟩:ByteArray)++s1,(⟨⟨[116,97,107,101,32]⟩⟩:ByteArray)++s2,⟨⟨[116,97,107,101,32,57,57,57,57,57,57]⟩⟩] (B+2+2+2) k3 (by omega) (by simp) (by simp);have hm4:aA 1 [T ⟨⟨[115,104,97,114,101,115]⟩⟩,T ((⟨⟨[116,97,107,101,32]⟩⟩:ByteArray)++s1),T ((⟨⟨[116,97,107,101,32]⟩⟩:ByteArray)++s2),T ⟨⟨[116,97,107,101,32,57,57,57,57,57,57]⟩⟩]=some (txs [⟨⟨[115,104,97,114,101,115]⟩⟩,(⟨⟨[116,97,107,101,32]⟩⟩:ByteArray)++s1,(⟨⟨[116,97,107,101,32]⟩⟩:ByteArray)++s2,⟨⟨[116,97,107,101,32,57,57,57,57,57,57]⟩⟩]):=qd (l:=[⟨⟨[115,104,97,114,101,115]⟩⟩,(⟨⟨[116,97,107,101,32]⟩⟩:ByteArray)++s1,(⟨⟨[116,97,107,101,32]⟩⟩:ByteArray)++s2,⟨⟨[116,97,107,101,32,57,57,57,57,57,57]⟩⟩]);have hs4:t4.size≤100:=by
   simp only [ai2,ai1,or_false] at m4;rcases m4 with rfl | rfl | rfl | rfl<;>first | omega | (simp only [aiT,aU,aiU,aiV];omega)
  refine dF (t:=t4) (c':=d4) ?_ (by omega) (Cur.ok.mono q4 (by omega))
  simp -implicitDefEqProofs only [aw,aiW,aiX,aiY,fj,e1,n1,e2,w2,n2,e3,a1,a2,hm4,f4]
 ·obtain⟨l,c5,e5,g5,k5⟩:=ZJ c3 (B+2+2+2) k3 (by omega)
  have e6:=dM l (by omega);cases hg:cA l
  ·rw [hg] at e6
   refine dF (t:=⟨⟨[115,116,111,99,107,32,51,120,49,50,32,50,120,51,48,32,49,120,52,48,32]⟩⟩) (c':=c5) ?_ (by decide) (Cur.ok.mono k5 (by omega))
   simp -implicitDefEqProofs only [aw,aiW,aiX,aiY,fj,e1,n1,e2,w2,n2,e3,e5,e6]
  ·rw [hg] at e6
   have z7:=BR l (dW hg);have z8:=dE hg;have e7:=uR l (by omega) (dW hg);have a1:=cY (a:=⟨⟨[115,116,111,99,107,32]⟩⟩) (b:=stT l) (by simp only [aU,aiU,aiV];omega) (by omega);refine dF (t:=⟨⟨[115,116,111,99,107,32]⟩⟩++stT l) (c':=c5) ?_ (by simp only [aiT,aU,aiU,aiV];omega) (Cur.ok.mono k5 (by omega))
   simp -implicitDefEqProofs only [aw,aiW,aiX,aiY,fj,e1,n1,e2,w2,n2,e3,e5,e6,e7,a1]
 ·obtain⟨l,c5,e5,g5,k5⟩:=ZJ c3 (B+2+2+2) k3 (by omega)
  have e6:=dM l (by omega);cases hg:cA l
  ·rw [hg] at e6
   refine dF (t:=⟨⟨[115,116,111,99,107,32,51,120,49,50,32,50,120,51,48,32,49,120,52,48,32]⟩⟩) (c':=c5) ?_ (by decide) (Cur.ok.mono k5 (by omega))
   simp -implicitDefEqProofs only [aw,aiW,aiX,aiY,fj,e1,n1,e2,w2,n2,e3,e5,e6]
  ·rw [hg] at e6
   have z7:=BR l (dW hg);have z8:=dE hg;have e7:=uR l (by omega) (dW hg);have a1:=cY (a:=⟨⟨[115,116,111,99,107,32]⟩⟩) (b:=stT l) (by simp only [aU,aiU,aiV];omega) (by omega);refine dF (t:=⟨⟨[115,116,111,99,107,32]⟩⟩++stT l) (c':=c5) ?_ (by simp only [aiT,aU,aiU,aiV];omega) (Cur.ok.mono k5 (by omega))
   simp -implicitDefEqProofs only [aw,aiW,aiX,aiY,fj,e1,n1,e2,w2,n2,e3,e5,e6,e7,a1]
 ·obtain⟨t4,d4,f4,m4,q4⟩:=Ba c3 [⟨⟨[114,117,108,101,32]⟩⟩,⟨⟨[109,105,115,115,105,110,103,32]⟩⟩] (B+2+2+2) k3 (by omega) (by simp) (by simp)
  have hm4:aA 1 [T ⟨⟨[114,117,108,101,32]⟩⟩,T ⟨⟨[109,105,115,115,105,110,103,32]⟩⟩]=some (txs [⟨⟨[114,117,108,101,32]⟩⟩,⟨⟨[109,105,115,115,105,110,103,32]⟩⟩]):=qd (l:=[⟨⟨[114,117,108,101,32]⟩⟩,⟨⟨[109,105,115,115,105,110,103,32]⟩⟩]);have hs4:t4.size≤100:=by
   simp only [ai2,ai1,or_false] at m4;rcases m4 with rfl | rfl<;>first | omega | (simp only [aiT,aU,aiU,aiV];omega)
  obtain⟨t5,d5,f5,m5,q5⟩:=Ba d4 [s1,s2,⟨⟨[53,52]⟩⟩,⟨⟨[49,50]⟩⟩,⟨⟨[52,48,48]⟩⟩,⟨⟨[52,48,49]⟩⟩,⟨⟨[48]⟩⟩] (B+2+2+2+2) q4 (by omega) (by simp) (by simp);have hm5:aA 1 [T s1,T s2,T ⟨⟨[53,52]⟩⟩,T ⟨⟨[49,50]⟩⟩,T ⟨⟨[52,48,48]⟩⟩,T ⟨⟨[52,48,49]⟩⟩,T ⟨⟨[48]⟩⟩]=some (txs [s1,s2,⟨⟨[53,52]⟩⟩,⟨⟨[49,50]⟩⟩,⟨⟨[52,48,48]⟩⟩,⟨⟨[52,48,49]⟩⟩,⟨⟨[48]⟩⟩]):=qd (l:=[s1,s2,⟨⟨[53,52]⟩⟩,⟨⟨[49,50]⟩⟩,⟨⟨[52,48,48]⟩⟩,⟨⟨[52,48,49]⟩⟩,⟨⟨[48]⟩⟩]);have hs5:t5.size≤100:=by
   simp only [ai2,ai1,or_false] at m5;rcases m5 with rfl | rfl | rfl | rfl | rfl | rfl | rfl<;>first | omega | (simp only [aiT,aU,aiU,aiV];omega)
  have a1:=cY (a:=t4) (b:=t5) (by first | omega | (simp only [aiT,aU,aiU,aiV];omega)) (by first | omega | (simp only [aiT,aU,aiU,aiV];omega));refine dF (t:=t4++t5) (c':=d5) ?_ (by first | omega | (simp only [aiT,aU,aiU,aiV];omega)) (Cur.ok.mono q5 (by omega))
  simp -implicitDefEqProofs only [aw,aiW,aiX,aiY,fj,e1,n1,e2,w2,n2,e3,hm4,f4,hm5,f5,a1]
 ·obtain⟨t4,d4,f4,m4,q4⟩:=Ba c3 [⟨⟨[114,117,108,101,32]⟩⟩,⟨⟨[109,105,115,115,105,110,103,32]⟩⟩] (B+2+2+2) k3 (by omega) (by simp) (by simp)
  have hm4:aA 1 [T ⟨⟨[114,117,108,101,32]⟩⟩,T ⟨⟨[109,105,115,115,105,110,103,32]⟩⟩]=some (txs [⟨⟨[114,117,108,101,32]⟩⟩,⟨⟨[109,105,115,115,105,110,103,32]⟩⟩]):=qd (l:=[⟨⟨[114,117,108,101,32]⟩⟩,⟨⟨[109,105,115,115,105,110,103,32]⟩⟩]);have hs4:t4.size≤100:=by
   simp only [ai2,ai1,or_false] at m4;rcases m4 with rfl | rfl<;>first | omega | (simp only [aiT,aU,aiU,aiV];omega)
  obtain⟨t5,d5,f5,m5,q5⟩:=Ba d4 [s1,s2,⟨⟨[53,52]⟩⟩,⟨⟨[49,50]⟩⟩,⟨⟨[52,48,48]⟩⟩,⟨⟨[52,48,49]⟩⟩,⟨⟨[48]⟩⟩] (B+2+2+2+2) q4 (by omega) (by simp) (by simp);have hm5:aA 1 [T s1,T s2,T ⟨⟨[53,52]⟩⟩,T ⟨⟨[49,50]⟩⟩,T ⟨⟨[52,48,48]⟩⟩,T ⟨⟨[52,48,49]⟩⟩,T ⟨⟨[48]⟩⟩]=some (txs [s1,s2,⟨⟨[53,52]⟩⟩,⟨⟨[49,50]⟩⟩,⟨⟨[52,48,48]⟩⟩,⟨⟨[52,48,49]⟩⟩,⟨⟨[48]⟩⟩]):=qd (l:=[s1,s2,⟨⟨[53,52]⟩⟩,⟨⟨[49,50]⟩⟩,⟨⟨[52,48,48]⟩⟩,⟨⟨[52,48,49]⟩⟩,⟨⟨[48]⟩⟩]);have hs5:t5.size≤100:=by
   simp only [ai2,ai1,or_false] at m5;rcases m5 with rfl | rfl | rfl | rfl | rfl | rfl | rfl<;>first | omega | (simp only [aiT,aU,aiU,aiV];omega)
  have a1:=cY (a:=t4) (b:=t5) (by first | omega | (simp only [aiT,aU,aiU,aiV];omega)) (by first | omega | (simp only [aiT,aU,aiU,aiV];omega));refine dF (t:=t4++t5) (c':=d5) ?_ (by first | omega | (simp only [aiT,aU,aiU,aiV];omega)) (Cur.ok.mono q5 (by omega))
  simp -implicitDefEqProofs only [aw,aiW,aiX,aiY,fj,e1,n1,e2,w2,n2,e3,hm4,f4,hm5,f5,a1]
 ·obtain⟨t4,d4,f4,m4,q4⟩:=Ba c3 [⟨⟨[48]⟩⟩,⟨⟨[49]⟩⟩,⟨⟨[50]⟩⟩,⟨⟨[45,49]⟩⟩] (B+2+2+2) k3 (by omega) (by simp) (by simp)
  have hm4:aA 1 [T ⟨⟨[48]⟩⟩,T ⟨⟨[49]⟩⟩,T ⟨⟨[50]⟩⟩,T ⟨⟨[45,49]⟩⟩]=some (txs [⟨⟨[48]⟩⟩,⟨⟨[49]⟩⟩,⟨⟨[50]⟩⟩,⟨⟨[45,49]⟩⟩]):=qd (l:=[⟨⟨[48]⟩⟩,⟨⟨[49]⟩⟩,⟨⟨[50]⟩⟩,⟨⟨[45,49]⟩⟩]);have hs4:t4.size≤100:=by
   simp only [ai2,ai1,or_false] at m4;rcases m4 with rfl | rfl | rfl | rfl<;>first | omega | (simp only [aiT,aU,aiU,aiV];omega)
  obtain⟨t5,d5,f5,m5,q5⟩:=Ba d4 [s1,⟨⟨[53]⟩⟩,⟨⟨[50,48,48]⟩⟩] (B+2+2+2+2) q4 (by omega) (by simp) (by simp);have hm5:aA 1 [T s1,T ⟨⟨[53]⟩⟩,T ⟨⟨[50,48,48]⟩⟩]=some (txs [s1,⟨⟨[53]⟩⟩,⟨⟨[50,48,48]⟩⟩]):=qd (l:=[s1,⟨⟨[53]⟩⟩,⟨⟨[50,48,48]⟩⟩]);have hs5:t5.size≤100:=by
   simp only [ai2,ai1,or_false] at m5;rcases m5 with rfl | rfl | rfl<;>first | omega | (simp only [aiT,aU,aiU,aiV];omega)
  have a1:=cY (a:=⟨⟨[99,117,116,32]⟩⟩) (b:=t4) (by first | omega | (simp only [aiT,aU,aiU,aiV];omega)) (by first | omega | (simp only [aiT,aU,aiU,aiV];omega));have a2:=cY (a:=⟨⟨[99,117,116,32]⟩⟩++t4) (b:=⟨⟨[32]⟩⟩) (by first | omega | (simp only [aiT,aU,aiU,aiV];omega)) (by first | omega | (simp only [aiT,aU,aiU,aiV];omega));have a3:=cY (a:=⟨⟨[99,117,116,32]⟩⟩++t4++⟨⟨[32]⟩⟩) (b:=t5) (by first | omega | (simp only [aiT,aU,aiU,aiV];omega)) (by first | omega | (simp only [aiT,aU,aiU,aiV];omega));refine dF (t:=⟨⟨[99,117,116,32]⟩⟩++t4++⟨⟨[32]⟩⟩++t5) (c':=d5) ?_ (by first | omega | (simp only [aiT,aU,aiU,aiV];omega)) (Cur.ok.mono q5 (by omega))
  simp -implicitDefEqProofs only [aw,aiW,aiX,aiY,fj,e1,n1,e2,w2,n2,e3,hm4,f4,hm5,f5,a1,a2,a3]
 ·have a1:=cY (a:=⟨⟨[111,102,102,32]⟩⟩) (b:=s1) (by first | omega | (simp only [aiT,aU,aiU,aiV];omega)) (by first | omega | (simp only [aiT,aU,aiU,aiV];omega))
  have a2:=cY (a:=⟨⟨[111,102,102,32,45]⟩⟩) (b:=s2) (by first | omega | (simp only [aiT,aU,aiU,aiV];omega)) (by first | omega | (simp only [aiT,aU,aiU,aiV];omega));obtain⟨t4,d4,f4,m4,q4⟩:=Ba c3 [(⟨⟨[111,102,102,32]⟩⟩:ByteArray)++s1,(⟨⟨[111,102,102,32,45]⟩⟩:ByteArray)++s2,⟨⟨[111,102,102,32,53,48,48]⟩⟩,⟨⟨[111,102,102,32,53,48,49]⟩⟩,⟨⟨[111,102,102,32,45,53,48,48]⟩⟩] (B+2+2+2) k3 (by omega) (by simp) (by simp);have hm4:aA 1 [T ((⟨⟨[111,102,102,32]⟩⟩:ByteArray)++s1),T ((⟨⟨[111,102,102,32,45]⟩⟩:ByteArray)++s2),T ⟨⟨[111,102,102,32,53,48,48]⟩⟩,T ⟨⟨[111,102,102,32,53,48,49]⟩⟩,T ⟨⟨[111,102,102,32,45,53,48,48]⟩⟩]=some (txs [(⟨⟨[111,102,102,32]⟩⟩:ByteArray)++s1,(⟨⟨[111,102,102,32,45]⟩⟩:ByteArray)++s2,⟨⟨[111,102,102,32,53,48,48]⟩⟩,⟨⟨[111,102,102,32,53,48,49]⟩⟩,⟨⟨[111,102,102,32,45,53,48,48]⟩⟩]):=qd (l:=[(⟨⟨[111,102,102,32]⟩⟩:ByteArray)++s1,(⟨⟨[111,102,102,32,45]⟩⟩:ByteArray)++s2,⟨⟨[111,102,102,32,53,48,48]⟩⟩,⟨⟨[111,102,102,32,53,48,49]⟩⟩,⟨⟨[111,102,102,32,45,53,48,48]⟩⟩]);have hs4:t4.size≤100:=by
   simp only [ai2,ai1,or_false] at m4;rcases m4 with rfl | rfl | rfl | rfl | rfl<;>first | omega | (simp only [aiT,aU,aiU,aiV];omega)
  refine dF (t:=t4) (c':=d4) ?_ (by omega) (Cur.ok.mono q4 (by omega))
  simp -implicitDefEqProofs only [aw,aiW,aiX,aiY,fj,e1,n1,e2,w2,n2,e3,a1,a2,hm4,f4]
 ·have a1:=cY (a:=⟨⟨[111,102,102,32]⟩⟩) (b:=s1) (by first | omega | (simp only [aiT,aU,aiU,aiV];omega)) (by first | omega | (simp only [aiT,aU,aiU,aiV];omega))
  have a2:=cY (a:=⟨⟨[111,102,102,32,45]⟩⟩) (b:=s2) (by first | omega | (simp only [aiT,aU,aiU,aiV];omega)) (by first | omega | (simp only [aiT,aU,aiU,aiV];omega));obtain⟨t4,d4,f4,m4,q4⟩:=Ba c3 [(⟨⟨[111,102,102,32]⟩⟩:ByteArray)++s1,(⟨⟨[111,102,102,32,45]⟩⟩:ByteArray)++s2,⟨⟨[111,102,102,32,53,48,48]⟩⟩,⟨⟨[111,102,102,32,53,48,49]⟩⟩,⟨⟨[111,102,102,32,45,53,48,48]⟩⟩] (B+2+2+2) k3 (by omega) (by simp) (by simp);have hm4:aA 1 [T ((⟨⟨[111,102,102,32]⟩⟩:ByteArray)++s1),T ((⟨⟨[111,102,102,32,45]⟩⟩:ByteArray)++s2),T ⟨⟨[111,102,102,32,53,48,48]⟩⟩,T ⟨⟨[111,102,102,32,53,48,49]⟩⟩,T ⟨⟨[111,102,102,32,45,53,48,48]⟩⟩]=some (txs [(⟨⟨[111,102,102,32]⟩⟩:ByteArray)++s1,(⟨⟨[111,102,102,32,45]⟩⟩:ByteArray)++s2,⟨⟨[111,102,102,32,53,48,48]⟩⟩,⟨⟨[111,102,102,32,53,48,49]⟩⟩,⟨⟨[111,102,102,32,45,53,48,48]⟩⟩]):=qd (l:=[(⟨⟨[111,102,102,32]⟩⟩:ByteArray)++s1,(⟨⟨[111,102,102,32,45]⟩⟩:ByteArray)++s2,⟨⟨[111,102,102,32,53,48,48]⟩⟩,⟨⟨[111,102,102,32,53,48,49]⟩⟩,⟨⟨[111,102,102,32,45,53,48,48]⟩⟩]);have hs4:t4.size≤100:=by
   simp only [ai2,ai1,or_false] at m4;rcases m4 with rfl | rfl | rfl | rfl | rfl<;>first | omega | (simp only [aiT,aU,aiU,aiV];omega)
  refine dF (t:=t4) (c':=d4) ?_ (by omega) (Cur.ok.mono q4 (by omega))
  simp -implicitDefEqProofs only [aw,aiW,aiX,aiY,fj,e1,n1,e2,w2,n2,e3,a1,a2,hm4,f4]
 ·obtain⟨t4,d4,f4,m4,q4⟩:=Ba c3 [⟨⟨[109,101,100,105,97,110]⟩⟩,⟨⟨[100,114,105,102,116]⟩⟩] (B+2+2+2) k3 (by omega) (by simp) (by simp)
  have hm4:aA 1 [T ⟨⟨[109,101,100,105,97,110]⟩⟩,T ⟨⟨[100,114,105,102,116]⟩⟩]=some (txs [⟨⟨[109,101,100,105,97,110]⟩⟩,⟨⟨[100,114,105,102,116]⟩⟩]):=qd (l:=[⟨⟨[109,101,100,105,97,110]⟩⟩,⟨⟨[100,114,105,102,116]⟩⟩]);have hs4:t4.size≤100:=by
   simp only [ai2,ai1,or_false] at m4;rcases m4 with rfl | rfl<;>first | omega | (simp only [aiT,aU,aiU,aiV];omega)
  refine dF (t:=t4) (c':=d4) ?_ (by omega) (Cur.ok.mono q4 (by omega))
  simp -implicitDefEqProofs only [aw,aiW,aiX,aiY,fj,e1,n1,e2,w2,n2,e3,hm4,f4]
 ·obtain⟨v5,c5,e5,l5,u5,k5⟩:=iF c3 5 (B+2+2+2) k3 (by omega) (by decide)
  have n5:=bR (n:=v5) l5 (by omega);have z5:(aI v5).size≤10:=bX 9 l5 (by omega);obtain⟨t6,d6,f6,m6,q6⟩:=Ba c5 [s2,⟨⟨[53,48,48]⟩⟩,⟨⟨[57,57,57,57,57]⟩⟩,⟨⟨[49,48,48,48,48,48]⟩⟩] (B+2+2+2+2) k5 (by omega) (by simp) (by simp);have hm6:aA 1 [T s2,T ⟨⟨[53,48,48]⟩⟩,T ⟨⟨[57,57,57,57,57]⟩⟩,T ⟨⟨[49,48,48,48,48,48]⟩⟩]=some (txs [s2,⟨⟨[53,48,48]⟩⟩,⟨⟨[57,57,57,57,57]⟩⟩,⟨⟨[49,48,48,48,48,48]⟩⟩]):=qd (l:=[s2,⟨⟨[53,48,48]⟩⟩,⟨⟨[57,57,57,57,57]⟩⟩,⟨⟨[49,48,48,48,48,48]⟩⟩]);have hs6:t6.size≤100:=by
   simp only [ai2,ai1,or_false] at m6;rcases m6 with rfl | rfl | rfl | rfl<;>first | omega | (simp only [aiT,aU,aiU,aiV];omega)
  have a1:=cY (a:=⟨⟨[110,111,116,101,32]⟩⟩) (b:=s1) (by first | omega | (simp only [aiT,aU,aiU,aiV];omega)) (by first | omega | (simp only [aiT,aU,aiU,aiV];omega));have a2:=cY (a:=⟨⟨[110,111,116,101,32]⟩⟩++s1) (b:=⟨⟨[32]⟩⟩) (by first | omega | (simp only [aiT,aU,aiU,aiV];omega)) (by first | omega | (simp only [aiT,aU,aiU,aiV];omega));have a3:=cY (a:=⟨⟨[110,111,116,101,32]⟩⟩++s1++⟨⟨[32]⟩⟩) (b:=aI v5) (by first | omega | (simp only [aiT,aU,aiU,aiV];omega)) (by first | omega | (simp only [aiT,aU,aiU,aiV];omega));have a4:=cY (a:=⟨⟨[110,111,116,101,32]⟩⟩++s1++⟨⟨[32]⟩⟩++aI v5) (b:=⟨⟨[32]⟩⟩) (by first | omega | (simp only [aiT,aU,aiU,aiV];omega)) (by first | omega | (simp only [aiT,aU,aiU,aiV];omega));have a5:=cY (a:=⟨⟨[110,111,116,101,32]⟩⟩++s1++⟨⟨[32]⟩⟩++aI v5++⟨⟨[32]⟩⟩) (b:=t6) (by first | omega | (simp only [aiT,aU,aiU,aiV];omega)) (by first | omega | (simp only [aiT,aU,aiU,aiV];omega));refine dF (t:=⟨⟨[110,111,116,101,32]⟩⟩++s1++⟨⟨[32]⟩⟩++aI v5++⟨⟨[32]⟩⟩++t6) (c':=d6) ?_ (by first | omega | (simp only [aiT,aU,aiU,aiV];omega)) (Cur.ok.mono q6 (by omega))
  simp -implicitDefEqProofs only [aw,aiW,aiX,aiY,fj,e1,n1,e2,w2,n2,e3,a1,a2,e5,n5,a3,a4,hm6,f6,a5]
 ·obtain⟨v5,c5,e5,l5,u5,k5⟩:=iF c3 5 (B+2+2+2) k3 (by omega) (by decide)
  have n5:=bR (n:=v5) l5 (by omega);have z5:(aI v5).size≤10:=bX 9 l5 (by omega);obtain⟨t6,d6,f6,m6,q6⟩:=Ba c5 [s2,⟨⟨[53,48,48]⟩⟩,⟨⟨[57,57,57,57,57]⟩⟩,⟨⟨[49,48,48,48,48,48]⟩⟩] (B+2+2+2+2) k5 (by omega) (by simp) (by simp);have hm6:aA 1 [T s2,T ⟨⟨[53,48,48]⟩⟩,T ⟨⟨[57,57,57,57,57]⟩⟩,T ⟨⟨[49,48,48,48,48,48]⟩⟩]=some (txs [s2,⟨⟨[53,48,48]⟩⟩,⟨⟨[57,57,57,57,57]⟩⟩,⟨⟨[49,48,48,48,48,48]⟩⟩]):=qd (l:=[s2,⟨⟨[53,48,48]⟩⟩,⟨⟨[57,57,57,57,57]⟩⟩,⟨⟨[49,48,48,48,48,48]⟩⟩]);have hs6:t6.size≤100:=by
   simp only [ai2,ai1,or_false] at m6;rcases m6 with rfl | rfl | rfl | rfl<;>first | omega | (simp only [aiT,aU,aiU,aiV];omega)
  have a1:=cY (a:=⟨⟨[110,111,116,101,32]⟩⟩) (b:=s1) (by first | omega | (simp only [aiT,aU,aiU,aiV];omega)) (by first | omega | (simp only [aiT,aU,aiU,aiV];omega));have a2:=cY (a:=⟨⟨[110,111,116,101,32]⟩⟩++s1) (b:=⟨⟨[32]⟩⟩) (by first | omega | (simp only [aiT,aU,aiU,aiV];omega)) (by first | omega | (simp only [aiT,aU,aiU,aiV];omega));have a3:=cY (a:=⟨⟨[110,111,116,101,32]⟩⟩++s1++⟨⟨[32]⟩⟩) (b:=aI v5) (by first | omega | (simp only [aiT,aU,aiU,aiV];omega)) (by first | omega | (simp only [aiT,aU,aiU,aiV];omega));have a4:=cY (a:=⟨⟨[110,111,116,101,32]⟩⟩++s1++⟨⟨[32]⟩⟩++aI v5) (b:=⟨⟨[32]⟩⟩) (by first | omega | (simp only [aiT,aU,aiU,aiV];omega)) (by first | omega | (simp only [aiT,aU,aiU,aiV];omega));have a5:=cY (a:=⟨⟨[110,111,116,101,32]⟩⟩++s1++⟨⟨[32]⟩⟩++aI v5++⟨⟨[32]⟩⟩) (b:=t6) (by first | omega | (simp only [aiT,aU,aiU,aiV];omega)) (by first | omega | (simp only [aiT,aU,aiU,aiV];omega));refine dF (t:=⟨⟨[110,111,116,101,32]⟩⟩++s1++⟨⟨[32]⟩⟩++aI v5++⟨⟨[32]⟩⟩++t6) (c':=d6) ?_ (by first | omega | (simp only [aiT,aU,aiU,aiV];omega)) (Cur.ok.mono q6 (by omega))
  simp -implicitDefEqProofs only [aw,aiW,aiX,aiY,fj,e1,n1,e2,w2,n2,e3,a1,a2,e5,n5,a3,a4,hm6,f6,a5]
 ·have a1:=cY (a:=⟨⟨[109,101,116,97,108,32,49,48,48,32]⟩⟩) (b:=s1) (by first | omega | (simp only [aiT,aU,aiU,aiV];omega)) (by first | omega | (simp only [aiT,aU,aiU,aiV];omega))
  have a2:=cY (a:=⟨⟨[108,101,97,115,116,32]⟩⟩) (b:=s2) (by first | omega | (simp only [aiT,aU,aiU,aiV];omega)) (by first | omega | (simp only [aiT,aU,aiU,aiV];omega));obtain⟨t4,d4,f4,m4,q4⟩:=Ba c3 [(⟨⟨[109,101,116,97,108,32,49,48,48,32]⟩⟩:ByteArray)++s1,(⟨⟨[108,101,97,115,116,32]⟩⟩:ByteArray)++s2,⟨⟨[108,101,97,115,116,32,48]⟩⟩,⟨⟨[109,101,116,97,108,32,48,32,57,57,57,57]⟩⟩,⟨⟨[109,101,116,97,108,32,45,49,32,48]⟩⟩] (B+2+2+2) k3 (by omega) (by simp) (by simp);have hm4:aA 1 [T ((⟨⟨[109,101,116,97,108,32,49,48,48,32]⟩⟩:ByteArray)++s1),T ((⟨⟨[108,101,97,115,116,32]⟩⟩:ByteArray)++s2),T ⟨⟨[108,101,97,115,116,32,48]⟩⟩,T ⟨⟨[109,101,116,97,108,32,48,32,57,57,57,57]⟩⟩,T ⟨⟨[109,101,116,97,108,32,45,49,32,48]⟩⟩]=some (txs [(⟨⟨[109,101,116,97,108,32,49,48,48,32]⟩⟩:ByteArray)++s1,(⟨⟨[108,101,97,115,116,32]⟩⟩:ByteArray)++s2,⟨⟨[108,101,97,115,116,32,48]⟩⟩,⟨⟨[109,101,116,97,108,32,48,32,57,57,57,57]⟩⟩,⟨⟨[109,101,116,97,108,32,45,49,32,48]⟩⟩]):=qd (l:=[(⟨⟨[109,101,116,97,108,32,49,48,48,32]⟩⟩:ByteArray)++s1,(⟨⟨[108,101,97,115,116,32]⟩⟩:ByteArray)++s2,⟨⟨[108,101,97,115,116,32,48]⟩⟩,⟨⟨[109,101,116,97,108,32,48,32,57,57,57,57]⟩⟩,⟨⟨[109,101,116,97,108,32,45,49,32,48]⟩⟩]);have hs4:t4.size≤100:=by
   simp only [ai2,ai1,or_false] at m4;rcases m4 with rfl | rfl | rfl | rfl | rfl<;>first | omega | (simp only [aiT,aU,aiU,aiV];omega)
  refine dF (t:=t4) (c':=d4) ?_ (by omega) (Cur.ok.mono q4 (by omega))
  simp -implicitDefEqProofs only [aw,aiW,aiX,aiY,fj,e1,n1,e2,w2,n2,e3,a1,a2,hm4,f4]
 ·obtain⟨t4,d4,f4,m4,q4⟩:=Ba c3 [⟨⟨[102,111,108,100,32,49]⟩⟩,⟨⟨[102,111,108,100,32,50]⟩⟩,⟨⟨[102,111,108,100,32,51]⟩⟩,⟨⟨[115,99,104,101,109,101]⟩⟩,⟨⟨[115,99,104,101,109,101]⟩⟩] (B+2+2+2) k3 (by omega) (by simp) (by simp)
  have hm4:aA 1 [T ⟨⟨[102,111,108,100,32,49]⟩⟩,T ⟨⟨[102,111,108,100,32,50]⟩⟩,T ⟨⟨[102,111,108,100,32,51]⟩⟩,T ⟨⟨[115,99,104,101,109,101]⟩⟩,T ⟨⟨[115,99,104,101,109,101]⟩⟩]=some (txs [⟨⟨[102,111,108,100,32,49]⟩⟩,⟨⟨[102,111,108,100,32,50]⟩⟩,⟨⟨[102,111,108,100,32,51]⟩⟩,⟨⟨[115,99,104,101,109,101]⟩⟩,⟨⟨[115,99,104,101,109,101]⟩⟩]):=qd (l:=[⟨⟨[102,111,108,100,32,49]⟩⟩,⟨⟨[102,111,108,100,32,50]⟩⟩,⟨⟨[102,111,108,100,32,51]⟩⟩,⟨⟨[115,99,104,101,109,101]⟩⟩,⟨⟨[115,99,104,101,109,101]⟩⟩]);have hs4:t4.size≤100:=by
   simp only [ai2,ai1,or_false] at m4;rcases m4 with rfl | rfl | rfl | rfl | rfl<;>first | omega | (simp only [aiT,aU,aiU,aiV];omega)
  refine dF (t:=t4) (c':=d4) ?_ (by omega) (Cur.ok.mono q4 (by omega))
  simp -implicitDefEqProofs only [aw,aiW,aiX,aiY,fj,e1,n1,e2,w2,n2,e3,hm4,f4]
 ·obtain⟨t4,d4,f4,m4,q4⟩:=Ba c3 [⟨⟨[102,108,121]⟩⟩,⟨⟨[]⟩⟩,⟨⟨[109,101,108,116]⟩⟩,⟨⟨[109,101,108,116,32,120]⟩⟩,⟨⟨[114,117,108,101]⟩⟩,⟨⟨[114,117,108,101,32,120]⟩⟩,⟨⟨[114,117,108,101,32,49,32,50]⟩⟩,⟨⟨[114,117,108,101,32,48,49]⟩⟩,⟨⟨[111,102,102,32,45,48]⟩⟩,⟨⟨[116,97,107,101,32,49,48,48,48,48,48,48]⟩⟩,⟨⟨[115,104,97,114,101,115,32,49]⟩⟩,⟨⟨[110,111,116,101,32,49,32,50]⟩⟩,⟨⟨[115,99,104,101,109,101,32]⟩⟩,⟨⟨[115,116,111,99,107]⟩⟩,⟨⟨[115,116,111,99,107,32]⟩⟩,⟨⟨[102,111,108,100,32,105,110,102]⟩⟩] (B+2+2+2) k3 (by omega) (by simp) (by simp)
  have hm4:aA 1 [T ⟨⟨[102,108,121]⟩⟩,T ⟨⟨[]⟩⟩,T ⟨⟨[109,101,108,116]⟩⟩,T ⟨⟨[109,101,108,116,32,120]⟩⟩,T ⟨⟨[114,117,108,101]⟩⟩,T ⟨⟨[114,117,108,101,32,120]⟩⟩,T ⟨⟨[114,117,108,101,32,49,32,50]⟩⟩,T ⟨⟨[114,117,108,101,32,48,49]⟩⟩,T ⟨⟨[111,102,102,32,45,48]⟩⟩,T ⟨⟨[116,97,107,101,32,49,48,48,48,48,48,48]⟩⟩,T ⟨⟨[115,104,97,114,101,115,32,49]⟩⟩,T ⟨⟨[110,111,116,101,32,49,32,50]⟩⟩,T ⟨⟨[115,99,104,101,109,101,32]⟩⟩,T ⟨⟨[115,116,111,99,107]⟩⟩,T ⟨⟨[115,116,111,99,107,32]⟩⟩,T ⟨⟨[102,111,108,100,32,105,110,102]⟩⟩]=some (txs [⟨⟨[102,108,121]⟩⟩,⟨⟨[]⟩⟩,⟨⟨[109,101,108,116]⟩⟩,⟨⟨[109,101,108,116,32,120]⟩⟩,⟨⟨[114,117,108,101]⟩⟩,⟨⟨[114,117,108,101,32,120]⟩⟩,⟨⟨[114,117,108,101,32,49,32,50]⟩⟩,⟨⟨[114,117,108,101,32,48,49]⟩⟩,⟨⟨[111,102,102,32,45,48]⟩⟩,⟨⟨[116,97,107,101,32,49,48,48,48,48,48,48]⟩⟩,⟨⟨[115,104,97,114,101,115,32,49]⟩⟩,⟨⟨[110,111,116,101,32,49,32,50]⟩⟩,⟨⟨[115,99,104,101,109,101,32]⟩⟩,⟨⟨[115,116,111,99,107]⟩⟩,⟨⟨[115,116,111,99,107,32]⟩⟩,⟨⟨[102,111,108,100,32,105,110,102]⟩⟩]):=qd (l:=[⟨⟨[102,108,121]⟩⟩,⟨⟨[]⟩⟩,⟨⟨[109,101,108,116]⟩⟩,⟨⟨[109,101,108,116,32,120]⟩⟩,⟨⟨[114,117,108,101]⟩⟩,⟨⟨[114,117,108,101,32,120]⟩⟩,⟨⟨[114,117,108,101,32,49,32,50]⟩⟩,⟨⟨[114,117,108,101,32,48,49]⟩⟩,⟨⟨[111,102,102,32,45,48]⟩⟩,⟨⟨[116,97,107,101,32,49,48,48,48,48,48,48]⟩⟩,⟨⟨[115,104,97,114,101,115,32,49]⟩⟩,⟨⟨[110,111,116,101,32,49,32,50]⟩⟩,⟨⟨[115,99,104,101,109,101,32]⟩⟩,⟨⟨[115,116,111,99,107]⟩⟩,⟨⟨[115,116,111,99,107,32]⟩⟩,⟨⟨[102,111,108,100,32,105,110,102]⟩⟩]);have hs4:t4.size≤100:=by
   simp only [ai2,ai1,or_false] at m4;rcases m4 with rfl | rfl | rfl | rfl | rfl | rfl | rfl | rfl | rfl | rfl | rfl | rfl | rfl | rfl | rfl | rfl<;>first | omega | (simp only [aiT,aU,aiU,aiV];omega)
  refine dF (t:=t4) (c':=d4) ?_ (by omega) (Cur.ok.mono q4 (by omega))
  simp -implicitDefEqProofs only [aw,aiW,aiX,aiY,fj,e1,n1,e2,w2,n2,e3,hm4,f4]
theorem adG (l:List Int):gu 3 (.agg [jH l,I 0,D.v (.int .u64 0)])=some (agm l):=rfl
theorem VZ:(⟨⟨[111,102,102,32,49,10]⟩⟩:ByteArray).size=6:=rfl
set_option maxHeartbeats 2000000 in
theorem BB (l:List Int) (h:Bytes l):∃s:ByteArray,fA [jH l]=some (.ret [T s] [])∧s.size≤100000:=by
 rw [CI];have e0:=aey l;have eb:=adG l;obtain⟨b,c1,e1,k1⟩:=acA ⟨l,0,0⟩ 2 0 (adm h) (by omega) (by omega);have e1:eT [agm l,I 2]=some (.ret [B b] [lX c1]):=e1;obtain⟨v,c2,e2,l2,u2,k2⟩:=iF c1 16 _ k1 (by omega) (by omega);have sz0:(⟨⟨[]⟩⟩:ByteArray).size=0:=rfl;cases b
 all_goals
  simp -implicitDefEqProofs only [aw,aiW,aiX,aiY,e0,eb,e1,e2];refine bL (fun X=>∃s:ByteArray,X=some (.ret [T s] [])∧s.size≤100000) (fun a:ByteArray × Int × Cur=>[D.ref 0 0,T a.1,I a.2.1,lX a.2.2])
   (fun a=>(-1≤a.2.1∧a.2.1≤16)∧(a.1.size:Int)≤100+501*(16 - a.2.1)∧a.2.2.ok (10+200*(16 - a.2.1).toNat)∧(0≤a.2.1∨1≤a.1.size)) (fun a=>(a.2.1+1).toNat) (fun o=>∃(s:ByteArray) (c:Cur),o = .ext 0 [D.ref 0 0,T s,lX c]∧s.size≤10000∧1≤s.size∧c.ok 4000) ?_ (_,v,c2) ?_ rfl ?_
  ·rintro⟨s,k,ca⟩ ⟨h1,h2,h3,h4⟩
   dsimp only at h1 h2 h3 h4;by_cases hn:0≤k
   ·obtain⟨t,c3,e3,g3,k3⟩:=IZ ca _ h3 (by omega)
    have hw:aiZ.wrap (k - 1)=k - 1:=ah (by omega) (by omega);have a1:=cY (a:=t) (b:=⟨⟨[10]⟩⟩) (by omega) (by rw [aU];decide);have a2:=cY (a:=s) (b:=t++⟨⟨[10]⟩⟩) (by omega) (by rw [aiT,Hm];omega);have hz:(s++(t++⟨⟨[10]⟩⟩)).size=s.size+t.size+1:=by rw [aiT,aiT,Hm];omega
    refine .inl ⟨(s++(t++⟨⟨[10]⟩⟩),k - 1,c3),?_,⟨by dsimp only;omega,by dsimp only;omega,k3.mono (by dsimp only;omega),by dsimp only;omega⟩,by dsimp only;omega⟩
    simp -implicitDefEqProofs only [aw,aiW,aiX,aiY,hn,e3,a1,a2,hw]
   ·refine .inr ⟨_,?_,rfl,s,ca,rfl,by omega,by omega,h3.mono (by omega)⟩
    simp -implicitDefEqProofs only [aw,aiW,aiX,aiY,hn]
  ·exact⟨by dsimp only;omega,by simp only [aU,aiU,aiV];omega,k2.mono (by dsimp only;omega),.inl l2⟩
  ·rintro o ⟨s,c3,rfl,g3,g4,k3⟩
   obtain⟨w,c4,e4,l4,u4,k4⟩:=iF c3 30 _ k3 (by omega) (by omega);by_cases h0:w=0
   ·subst h0
    have hw:aiZ.wrap ((s.size:Int) - 1)=((s.size - 1:Nat):Int):=by rw [ah (by omega) (by omega)];omega
    have hx:dH true 0 (T s) (I 0) (I ((s.size - 1:Nat):Int))=some (T (s.extract 0 (s.size - 1))):=acM (z:=0) (i:=0) (j:=s.size - 1) (ajf _) (by omega);refine⟨s.extract 0 (s.size - 1),?_,?_⟩
    ·simp -implicitDefEqProofs only [aw,aiW,aiX,aiY,e4,hw,hx]
    ·rw [ByteArray.size_extract]
     omega
   by_cases h1:w=1
   ·subst h1
    obtain⟨x,c5,e5,l5,u5,k5⟩:=iF c4 2 _ k4 (by omega) (by omega);have hw:aiZ.wrap (40+x)=40+x:=ah (by omega) (by omega);simp -implicitDefEqProofs only [aw,aiW,aiX,aiY,e4,e5,hw];refine bL (fun X=>∃s:ByteArray,X=some (.ret [T s] [])∧s.size≤100000) (fun a:ByteArray × Int=>[T a.1,I a.2]) (fun a=>(0≤a.2∧a.2≤42)∧(a.1.size:Int)≤6*(42 - a.2)) (fun a=>a.2.toNat) (fun o=>∃s:ByteArray,o = .ext 3 [T s]∧s.size≤1000) ?_ (_,40+x) ?_ rfl ?_
    ·rintro⟨s,k⟩ ⟨h1,h2⟩
     dsimp only at h1 h2;by_cases hn:0<k
     ·have hw:aiZ.wrap (k - 1)=k - 1:=ah (by omega) (by omega)
      have a1:=cY (a:=s) (b:=⟨⟨[111,102,102,32,49,10]⟩⟩) (by omega) (by rw [VZ];decide);refine .inl ⟨(s++⟨⟨[111,102,102,32,49,10]⟩⟩,k - 1),?_,⟨by dsimp only;omega,by dsimp only;rw [aiT,VZ];omega⟩,by dsimp only;omega⟩
      simp -implicitDefEqProofs only [aw,aiW,aiX,aiY,hn,a1,hw]
     ·refine .inr ⟨_,?_,rfl,s,rfl,by omega⟩
      simp -implicitDefEqProofs only [aw,aiW,aiX,aiY,hn]
    ·exact⟨by dsimp only;omega,by dsimp only;rw [sz0];omega⟩
    ·rintro o ⟨s,rfl,g⟩
     exact⟨s,by simp -implicitDefEqProofs only [aw,aiW,aiX,aiY,ep],by omega⟩
   by_cases h2:w=2
   ·subst h2
    refine⟨⟨⟨[]⟩⟩,?_,by rw [sz0];omega⟩
    simp -implicitDefEqProofs only [aw,aiW,aiX,aiY,e4]
   by_cases h3:w=3
   ·subst h3
    obtain⟨x,c5,e5,l5,u5,k5⟩:=iF c4 2 _ k4 (by omega) (by omega);have hw:aiZ.wrap (1999+x)=1999+x:=ah (by omega) (by omega);simp -implicitDefEqProofs only [aw,aiW,aiX,aiY,e4,e5,hw];refine bL (fun X=>∃s:ByteArray,X=some (.ret [T s] [])∧s.size≤100000) (fun a:ByteArray=>[T a,I (1999+x)]) (fun a=>(a.size:Int)≤1999+x) (fun a=>3000 - a.size) (fun o=>∃s:ByteArray,o = .ext 5 [T s]∧s.size≤2001) ?_ _ ?_ rfl ?_
    ·intro s h1
     by_cases hn:(s.size:Int)<1999+x
     ·have a1:=cY (a:=s) (b:=⟨⟨[120]⟩⟩) (by omega) (by rw [aU];decide)
      have hz:(s++⟨⟨[120]⟩⟩).size=s.size+1:=by rw [aiT,Hm]
      refine .inl ⟨s++⟨⟨[120]⟩⟩,?_,by omega,by omega⟩
      simp -implicitDefEqProofs only [aw,aiW,aiX,aiY,hn,a1]
     ·refine .inr ⟨_,?_,rfl,s,rfl,by omega⟩
      simp -implicitDefEqProofs only [aw,aiW,aiX,aiY,hn]
    ·simp only [aU,aiU,aiV]
     omega
    ·rintro o ⟨s,rfl,g⟩
     have a1:=cY (a:=s) (b:=⟨⟨[10]⟩⟩) (by omega) (by rw [aU];decide);refine⟨s++⟨⟨[10]⟩⟩,by simp -implicitDefEqProofs only [aw,aiW,aiX,aiY,ep,a1],?_⟩
     rw [aiT,Hm];omega
   ·refine⟨s,?_,by omega⟩
    simp -implicitDefEqProofs only [aw,aiW,aiX,aiY,e4,h0,h1,h2,h3]
theorem LW (l:List Int) (h:Bytes l):∃s:ByteArray,gJ [jH l]=some (.ret [T s] [])∧s.size≤100000:=by
 rw [Bx];obtain⟨s,e,hs⟩:=BB l h;exact⟨s,by simp -implicitDefEqProofs only [aw,aiW,aiX,aiY,e],hs⟩
theorem It (l:List Int) (h:Bytes l):∃a b:ByteArray,fF [jH l]=some (.ret [T a,T b] [])∧a.size≤100000∧b.size≤100000:=by
 rw [xp];obtain⟨s,e,hs⟩:=BB l h;have e0:=aey l;have eb:=adG l;have es:stD 1 (agm l) (.ref 0 1) (I 10)=some (lX ⟨l,10,0⟩):=rfl;obtain⟨b,c1,e1,k1⟩:=acA ⟨l,10,0⟩ 10 10 ⟨(adm h).by_,(adm h).len,aje _,(adm h).lo,(adm h).hi⟩ (by omega) (by omega);have hm:(⟨⟨[109,101,100,105,97,110]⟩⟩:ByteArray).size=6:=rfl;cases b
 ·obtain⟨t,c2,e2,g2,k2⟩:=IZ c1 _ k1 (by omega)
  have a1:=cY (a:=t) (b:=⟨⟨[10]⟩⟩) (by omega) (by rw [aU];decide);refine⟨s,t++⟨⟨[10]⟩⟩,?_,hs,?_⟩
  ·simp -implicitDefEqProofs only [aw,aiW,aiX,aiY,e0,eb,e,es,iU,Nat.zero_add,e1,e2,a1]
  ·rw [aiT,Hm]
   omega
 ·refine⟨s,⟨⟨[109,101,100,105,97,110]⟩⟩,?_,hs,by rw [hm];decide⟩
  simp -implicitDefEqProofs only [aw,aiW,aiX,aiY,e0,eb,e,es,iU,Nat.zero_add,e1]
theorem MX (L:List ByteArray) (k:Nat):∀n,k≤n→∃rest,lp L n=lp L k++rest
 | 0,h=>⟨[],by rw [show k=0 by omega];rfl⟩
 | n+1,h=>by
  by_cases hk:k≤n
  ·obtain⟨r,hr⟩:=MX L k n hk
   exact⟨_,by rw [lp,hr,ajb]⟩
  ·have:k=n+1:=by omega
   subst this;exact⟨[],by simp⟩
set_option maxHeartbeats 2000000 in
theorem KJ {β:Type} (p:Nat→β→Bool):∀(l m:List β) (i:Nat),jD p i (l++m)=(jD p i l&&jD p (i+l.length) m)
 | [],m,i=>by simp [jD]
 | x::l,m,i=>by
  simp only [ajm,jD,KJ p l m (i+1),aiU,Bool.and_assoc];rw [show i+1+l.length=i+(l.length+1) by omega]
theorem Pn {β:Type} {p q:Nat→β→Bool}:∀(l:List β) (i:Nat),(∀j x,i≤j→j<i+l.length→p j x=q j x)→jD p i l=jD q i l
 | [],_,_=>rfl
 | x::l,i,h=>by
  simp only [jD];rw [h i x (aje _) (by simp),Pn l (i+1) (fun j y h1 h2=>h j y (by omega) (by simp only [aiU];omega))]
theorem abx {l m:List Nt} (h:eC (l++m)=true):eC l=true:=by
 unfold eC at *;simp only [ajd,decide_eq_true_eq,KJ,ai9] at h ⊢;refine⟨?_,by omega⟩
 rw [←h.1.1];refine Pn l 0 fun j x _ hj=>?_
 unfold pNt;by_cases h0:0<j
 ·rw [aja,aja,ajt (by omega)]
 ·simp [h0]
def Td:List Nt→Int→List (List UInt8)
 | [],_=>[]
 | x::l,c=>lnL x (ckN c x)::Td l (ckN c x)
def ckL (l:List Nt) (c:Int):Int:=l.foldl ckN c
theorem aiI {x:Nt} {c:Int} (hx:lu x=true) (hc:0≤c∧c≤9972):(10:UInt8)∉lnL x c:=by
 obtain⟨h1,h2,h3⟩:=nG.1 hx;have d1:=nP (b:=10) (gq (n:=x.1) (by omega)).2 (by decide);have d2:=nP (b:=10) (gq (n:=x.2.1) (by omega)).2 (by decide);have d3:=nP (b:=10) (gq (n:=x.2.2) (by omega)).2 (by decide);have d4:=nP (b:=10) (gq (n:=c) (by omega)).2 (by decide);simp only [lnL,ajn,ai2,not_or];exact⟨d1,by decide,d2,by decide,d3,by decide,d4⟩
theorem VT:∀(l:List Nt) (c:Int) (r:List UInt8),(∀x∈l,lu x=true)→aW 10 (ae (jT l c)++r)=Td l c++aW 10 r
 | [],_,r,_=>rfl
 | x::l,c,r,h=>by
  have hx:=h x (by simp);have hck:=pi c x;simp only [jT,bh,Td,ajm];rw [show ae (lnT x (ckN c x))=lnL x (ckN c x)++[10] from Kt x _];rw [show(lnL x (ckN c x)++[10]++ae (jT l (ckN c x)))++r=lnL x (ckN c x)++10::(ae (jT l (ckN c x))++r) by simp];rw [fq (aiI hx hck),VT l _ r (fun y hy=>h y (by simp [hy]))]
theorem HM:∀(m:List Nt) (ms:List (List UInt8)) (l:List Nt) (c:Int) (u:Nat),eC (l++m)=true→iE (Td m c++ms) l c u=iE ms (l++m) (ckL m c) (u+(jT m c).size)
 | [],ms,l,c,u,_=>by simp only [Td,aji,aju];rfl
 | x::m,ms,l,c,u,h=>by
  have h1:eC (l++[x])=true:=abx (m:=m) (by rw [ajb];exact h);have hs:lnT x (ckN c x)=mkT (lnL x (ckN c x))++⟨#[10]⟩:=TP.2 (cS _);have ha:Fy l c (mkT (lnL x (ckN c x)))=some x:=ZH h1 hs;simp only [Td,ajm,iE];rw [show(⟨(lnL x (ckN c x)).toArray⟩:ByteArray)=mkT (lnL x (ckN c x)) from rfl,ha];simp only;rw [HM m ms (l++[x]) (ckN c x) _ (by rw [ajb];exact h)];have hz:(jT (x::m) c).size=(lnL x (ckN c x)).length+1+(jT m (ckN c x)).size:=by
   simp only [jT,aiT];rw [hs,aiT,nu,sz1]
  rw [hz,ajb];simp only [List.singleton_append];rw [show u+((lnL x (ckN c x)).length+1)+(jT m (ckN c x)).size=u+((lnL x (ckN c x)).length+1+(jT m (ckN c x)).size) by omega];rfl
theorem afV {l:List Nt} (h:eC l=true) {s:ByteArray} {r:List UInt8} (hs:ae s=ae (jT l 7)++r):jo s=iE (aW 10 r).dropLast l (ckL l 7) (jT l 7).size:=by
 unfold jo;rw [hs,VT l 7 r (Bc h).1,List.dropLast_append_of_ne_nil (dv 10 r)];have:=HM l (aW 10 r).dropLast [] 7 0 (by simpa using h);simpa using this
theorem aih {l:List Nt} (h:eC l=true):jo (jT l 7)=(l,(jT l 7).size):=by
 rw [afV h (r:=[]) (by simp)];rfl
theorem ahE {l:List Nt} (h:(jtS l).2=true):eC l=true∧(jT l 7).size≤300∧jtS l=(jT l 7,true):=by
 unfold jtS at h ⊢;by_cases hc:eC l=true∧(jT l 7).size≤300
 ·rw [if_pos hc]
  exact⟨hc.1,hc.2,rfl⟩
 ·rw [if_neg hc] at h
  cases h
theorem afZ {l:List Nt} (h:eC l=true) (hz:(jT l 7).size≤300):jrS (jT l 7)=(l,true):=by
 unfold jrS;rw [aih h,if_pos ⟨hz,rfl⟩]
def rdJ (c:Cn):Prop:=(jrS c.j).2=true
theorem ahI {u:ByteArray} {x:Nt} (h:(anS u x).2=true):(jrS (anS u x).1).2=true:=by
 unfold anS at h ⊢;split
 ·rename_i h1
  rw [if_pos h1] at h;obtain⟨g1,g2,g3⟩:=ahE h;rw [g3,afZ g1 g2]
 ·rename_i h1
  rw [if_neg h1] at h;cases h
theorem ae8 {c:Cn} (hk:rdJ c) (t:ByteArray):rdJ (eu c t).2:=by
 unfold eu;split
 ·exact hk
 ·unfold bq
  split
  ·unfold MW
   split
   ·split
    ·exact hk
    ·exact hk
   ·split
    ·exact hk
    ·split
     ·split
      ·exact hk
      ·exact hk
     ·exact hk
  ·split
   ·unfold iA
    split
    ·split
     ·exact hk
     ·exact hk
    split
    ·exact hk
    split
    ·split
     ·exact hk
     ·exact hk
    split
    ·split
     ·exact hk
     ·exact hk
    ·exact hk
   ·unfold kz
    split
    ·split
     ·exact hk
     ·exact hk
    split
    ·exact hk
    split
    ·exact hk
    split
    ·split
     ·rename_i hq
      exact ahI hq
     ·exact hk
    split
    ·exact hk
    split
    ·exact hk
    split
    ·split
     ·exact hk
     ·exact hk
    ·exact hk
theorem agG:rdJ cn0:=by
 have:=afZ (l:=[]) rfl (by decide);exact congrArg Prod.snd this
theorem acz (L:List ByteArray):∀i,rdJ (dQ L i).c
 | 0=>agG
 | i+1=>ae8 (acz L i) _
theorem XI {L M:List ByteArray}:∀i,(∀j,j<i→L.getD j ⟨⟨[]⟩⟩=M.getD j ⟨⟨[]⟩⟩)→dQ L i=dQ M i
 | 0,_=>rfl
 | i+1,h=>by
  have e1:dQ L (i+1)=oE (dQ L i) i (L.getD i ⟨⟨[]⟩⟩):=rfl;have e2:dQ M (i+1)=oE (dQ M i) i (M.getD i ⟨⟨[]⟩⟩):=rfl;rw [e1,e2,XI i (fun j hj=>h j (by omega)),h i (by omega)]
theorem Sz {L M:List ByteArray}:∀i,(∀j,j<i→L.getD j ⟨⟨[]⟩⟩=M.getD j ⟨⟨[]⟩⟩)→lp L i=lp M i
 | 0,_=>rfl
 | i+1,h=>by
  unfold lp;rw [Sz i (fun j hj=>h j (by omega)),XI i (fun j hj=>h j (by omega)),h i (by omega)]
theorem Nq (c:UInt8) (y:List UInt8):∀x:List UInt8,aW c (x++c::y)=aW c x++aW c y
 | []=>by
  have:=fq (c:=c) (a:=[]) (b:=y) (by simp);rw [aji] at this ⊢;rw [this];rfl
 | b::x=>by
  have ih:=Nq c y x;have e0:∀z,aW c (b::z)=if b=c then []::aW c z else GU b (aW c z):=fun _=>rfl
  rw [ajm,e0,e0,ih];split
  ·rfl
  ·have hne:=dv c x
   cases hq:aW c x with
   | nil=>exact absurd hq hne
   | cons a r=>rfl
theorem AL (s:ByteArray):aN s=((aW 10 (ae s)).dropLast).map fun l=>⟨l.toArray⟩:=by
 unfold aN aC;rw [←List.dropLast_eq_take,List.map_dropLast]
theorem YF {a b:ByteArray} (h:okC a=true):aN (a++b)=aN a++aN b:=by
 unfold okC kf at h;simp only [ajd,Bool.or_eq_true,decide_eq_true_eq] at h;rw [AL,AL,AL,bh,←ajy];congr 1
 rcases h.1.2 with rfl | hl
 ·rfl
 ·obtain⟨x,hx⟩:=ajj.1 hl
  have e1:x++[10]++ae b=x++10::ae b:=by simp
  rw [hx,e1,Nq,OW,List.dropLast_append_of_ne_nil (dv 10 _),List.dropLast_concat]
theorem acY {a b:ByteArray} (h:okC a=true):(lp (aN a) (aN a).length).length≤(lp (aN (a++b)) (aN (a++b)).length).length:=by
 rw [YF h];obtain⟨r,hr⟩:=MX (aN a++aN b) (aN a).length (aN a++aN b).length (by simp);rw [hr,Sz (M:=aN a++aN b) (L:=aN a) (aN a).length fun j hj=>by
  rw [aja,aja,ajt hj]]
 rw [ai9];omega
end Go.Proofs.YtjafgdefcggjcaaGreatDoor

end
