/-
  A part of the proof: contracts and plain forms of functions beneath the statement, made small by a program (names shortened, what is not needed left out).
-/
import Derived.Test.YtkcojipciiakdaaRows
import Derived.Test.YtkcojipciiakdaaM4
import Derived.Laws.OwnMore
import Derived.Laws.Bits64b
open Option renaming bind_some → Ji, map → Ke
open Go.IntKind renaming i64 → Jj, u64 → Jq
open Bool renaming and_eq_true → Jk, not_eq_true' → JK, and_eq_false_iff → JT, false_eq_true → Ka
open List renaming length_map → Jl, getElem_mem → Jm, length_singleton → Jo, getD_eq_getElem?_getD → Js, take_succ_eq_append_getElem → Jv, getElem?_eq_getElem → Jx, map_cons → Jy, eq_nil_of_length_eq_zero → JA, length_drop → JC, getElem_cons_succ → JD, map_append → JE, mem_cons → JF, length_append → JH, mem_map → JL, length_take → JN, not_mem_nil → JO, length_pos_iff → JP, getElem?_eq_some_iff → JQ, length_nil → JU, map_nil → JV, mem_of_getElem? → JW, drop_zero → JY, length → JZ, getElem?_append_right → Kc, drop_eq_getElem_cons → Kf, getElem?_append_left → Kg, take_length → Kh, mem_append → Ki, drop_eq_nil_of_le → Kk, mem_map_of_mem → Km, cons_append → Kq, drop_drop → Ks
open Go.Lib renaming frozen_of_heap → Jn
open Nat renaming le_refl → Jp, lt_or_ge → Jr, zero_le → JJ, zero_add → JR, lt_of_lt_of_le → Kn
open Go.Op renaming bytesLess → Jt
open ByteArray renaming empty → Ju, size_append → Jw
open Go.World renaming setCell → Jz, cell?_of_block → JX
open Int renaming eq_ofNat_of_zero_le → JB, toNat_natCast → JS, mul_add → Kp
open Go.Proofs renaming enters_of → JG
open Option.some renaming inj → JI
open Go.Value renaming int → JM, ownBlock → Kl
open Array renaming getElem?_eq_some_iff → Kb
open Go.Builtin renaming append_ → Kj, firstCells → Ko, lenOf → Kt
open Go.RowKit.Below renaming refl → Kr
set_option maxRecDepth 100000
set_option linter.unusedSimpArgs false
set_option linter.unusedVariables false
noncomputable section
namespace Go.Proofs.Ytkcojipciiakdaa
open Go Go.V
set_option maxRecDepth 100000
theorem kI (x0:D):cH [x0]=((ab x0 (.ref 0 0)).bind fun z=>(ab z z).bind fun z=>(cU 1 z).bind fun z=>(((atD x0 z).bind (an false 1)).bind bw).bind fun z=>(ab x0 (.ref 0 0)).bind fun w=>(ab w w).bind fun zc=>(cU 0 zc).bind fun zd=>((atD x0 zd).bind (an false 1)).bind fun ze=>(lenD false ze).bind fun zf=>(bin .lss false [] z zf).bind fun z=>ifD z ((ab x0 (.ref 0 0)).bind fun z=>(ab z z).bind fun z=>(cU 0 z).bind fun z=>((atD x0 z).bind (an false 1)).bind fun z=>(ab x0 (.ref 0 0)).bind fun e=>(ab e e).bind fun g=>(cU 1 g).bind fun h=>(((atD x0 h).bind (an false 1)).bind bw).bind fun j=>(Ke D.ptr (bO 1 z j)).bind fun z=>((ldD false 1 z).bind bw).bind fun z=>(pU (some .i64) false z).bind fun z=>(ab x0 (.ref 0 0)).bind fun c=>(ab c c).bind fun k=>(cU 1 k).bind fun l=>(((atD x0 l).bind (an false 1)).bind bw).bind fun m=>(bin .add false [] m (I 1)).bind fun n=>(ab c c).bind fun p=>(cU 1 p).bind fun q=>(stD 1 x0 q n).bind fun b=>(ab b (.ref 0 0)).bind fun f=>(ab b (.ref 0 0)).bind fun d=>(ab d d).bind fun r=>(cU 2 r).bind fun t=>(((atD b t).bind (an false 1)).bind bw).bind fun u=>(bin .mul false [] u (.v (JM Jq 6364136223846793005))).bind fun v=>(pU (some .u64) false z).bind fun zg=>(bin .add false [] v zg).bind fun zh=>(bin .add false [] zh (.v (JM Jq 1442695040888963407))).bind fun zi=>(ab f f).bind fun zj=>(cU 2 zj).bind fun zk=>(stD 1 b zk zi).bind fun b=>(ab b (.ref 0 0)).bind fun za=>(ab za za).bind fun zl=>(cU 1 zl).bind fun zm=>(((atD b zm).bind (an false 1)).bind bw).bind fun zn=>(ab b (.ref 0 0)).bind fun zb=>(ab zb zb).bind fun zo=>(cU 0 zo).bind fun zp=>((atD b zp).bind (an false 1)).bind fun zq=>(lenD false zq).bind fun zr=>(bin .leq false [] zn zr).bind fun zs=>ifD zs ((ab b b).bind fun _=>some (.ret [z] [b])) ((ab b (.ref 0 0)).bind fun z=>(ab z z).bind fun z=>(cU 2 z).bind fun z=>(((atD b z).bind (an false 1)).bind bw).bind fun z=>(bin .shr false [] z (.v (JM Jq 40))).bind fun z=>(bin .and false [] z (.v (JM Jq 255))).bind fun z=>(pU (some .i64) false z).bind fun z=>(ab b b).bind fun _=>some (.ret [z] [b]))) ((ab x0 (.ref 0 0)).bind fun z=>(ab z z).bind fun e=>(cU 1 e).bind fun g=>(((atD x0 g).bind (an false 1)).bind bw).bind fun h=>(bin .add false [] h (I 1)).bind fun j=>(ab z z).bind fun z=>(cU 1 z).bind fun z=>(stD 1 x0 z j).bind fun b=>(ab b (.ref 0 0)).bind fun z=>(ab b (.ref 0 0)).bind fun c=>(ab c c).bind fun k=>(cU 2 k).bind fun l=>(((atD b l).bind (an false 1)).bind bw).bind fun m=>(bin .mul false [] m (.v (JM Jq 6364136223846793005))).bind fun n=>(pU (some .u64) false (I 0)).bind fun p=>(bin .add false [] n p).bind fun q=>(bin .add false [] q (.v (JM Jq 1442695040888963407))).bind fun f=>(ab z z).bind fun z=>(cU 2 z).bind fun z=>(stD 1 b z f).bind fun b=>(ab b (.ref 0 0)).bind fun z=>(ab z z).bind fun z=>(cU 1 z).bind fun z=>(((atD b z).bind (an false 1)).bind bw).bind fun z=>(ab b (.ref 0 0)).bind fun d=>(ab d d).bind fun r=>(cU 0 r).bind fun t=>((atD b t).bind (an false 1)).bind fun u=>(lenD false u).bind fun v=>(bin .leq false [] z v).bind fun z=>ifD z ((ab b b).bind fun _=>some (.ret [I 0] [b])) ((ab b (.ref 0 0)).bind fun z=>(ab z z).bind fun z=>(cU 2 z).bind fun z=>(((atD b z).bind (an false 1)).bind bw).bind fun z=>(bin .shr false [] z (.v (JM Jq 40))).bind fun z=>(bin .and false [] z (.v (JM Jq 255))).bind fun z=>(pU (some .i64) false z).bind fun z=>(ab b b).bind fun _=>some (.ret [z] [b])))):=by kernel_rfl
theorem sK (x0 x1:D):aB [x0,x1]=((bin .leq false [] x1 (I 1)).bind fun z=>ifD z ((ab x0 x0).bind fun _=>some (.ret [I 0] [x0])) ((ab x0 (.ref 0 0)).bind fun z=>(cQ z x0).bind fun i=>(ab i i).bind fun i=>aq (cH [i]) fun d c=>(bin .gtr false [] x1 (I 200)).bind fun z=>ifD z ((bin .mul false [] (sl d 0) (I 256)).bind fun z=>(ab (sl c 0) (.ref 0 0)).bind fun e=>(cQ e (sl c 0)).bind fun i=>(ab i i).bind fun i=>aq (cH [i]) fun d c=>(bin .add false [] z (sl d 0)).bind fun z=>(bin .rem false [] z x1).bind fun z=>(ab (sl c 0) (sl c 0)).bind fun _=>some (.ret [z] [sl c 0])) ((bin .rem false [] (sl d 0) x1).bind fun z=>(ab (sl c 0) (sl c 0)).bind fun _=>some (.ret [z] [sl c 0])))):=by kernel_rfl
theorem tr (x0 x1:D):ci [x0,x1]=((ab x0 (.ref 0 0)).bind fun z=>(cQ z x0).bind fun i=>(ab i i).bind fun i=>aq (aB [i,x1]) fun d c=>(bin .eql false [] (sl d 0) (I 0)).bind fun z=>(ab (sl c 0) (sl c 0)).bind fun _=>some (.ret [z] [sl c 0])):=by kernel_rfl
theorem rk (x0:D):dl [x0]=((bC 1 [.v (.string ⟨⟨[97]⟩⟩),.v (.string ⟨⟨[97,98]⟩⟩),.v (.string ⟨⟨[97,98,99]⟩⟩),.v (.string ⟨⟨[98]⟩⟩),.v (.string ⟨⟨[98,98]⟩⟩),.v (.string ⟨⟨[99]⟩⟩),.v (.string ⟨⟨[100]⟩⟩),.v (.string ⟨⟨[101]⟩⟩),.v (.string ⟨⟨[102]⟩⟩),.v (.string ⟨⟨[102,102]⟩⟩),.v (.string ⟨⟨[102,105]⟩⟩),.v (.string ⟨⟨[105]⟩⟩)]).bind fun a=>(lenD false a).bind fun z=>(bD (fun s=>(bin .lss false [] (sl s 4) (sl s 3)).bind fun z=>ifD z ((Ke D.ptr (bO 1 (sl s 2) (sl s 4))).bind fun z=>((ldD false 1 z).bind bw).bind fun z=>(lenD true z).bind fun j=>(bin .eql false [] j (I 1)).bind fun g=>(af D.bad g true (ab (sl s 0) (.ref 0 0))).bind fun k=>dD g true ((cQ k (sl s 0)).bind fun i=>(ab i i).bind fun i=>aq (ci [i,I 12]) fun e f=>some (.nrm [sl e 0,sl f 0])) [.tup [],sl s 0] fun c=>(af (.tup []) g true (un .not (sl c 0))).bind fun l=>(aR g l (B false)).bind fun d=>(af (.tup []) d false (some z)).bind fun m=>(af (.tup []) d false (lenD true m)).bind fun n=>(af (.tup []) d false (bin .gtr false [] n (I 1))).bind fun p=>(af (.tup []) d false (some p)).bind fun h=>(af D.bad h true (ab (sl c 1) (.ref 0 0))).bind fun q=>dD h true ((cQ q (sl c 1)).bind fun i=>(ab i i).bind fun i=>aq (ci [i,I 3]) fun e f=>some (.nrm [sl e 0,sl f 0])) [.tup [],sl c 1] fun c=>(af (.tup []) d false (aR h (sl c 0) (B false))).bind fun r=>(aR d (B true) r).bind fun t=>ifD t ((lenD true z).bind fun u=>(ab (sl c 1) (.ref 0 0)).bind fun v=>(cQ v (sl c 1)).bind fun i=>(ab i i).bind fun i=>aq (aB [i,I 4]) fun e f=>(bin .add false [] (I 2) (sl e 0)).bind fun w=>(bin .mul false [] u w).bind fun za=>(bin .add false [] (I 4) za).bind fun zb=>(jx [(0,1),(1,1)] [.v (.string ⟨⟨[]⟩⟩),I 0] [z,zb]).bind fun z=>(bC 2 [z]).bind fun a=>(iE a).bind fun b=>(gx 2 24 (sl s 1) b).bind fun y=>(bin .add false [] (sl s 4) (I 1)).bind fun z=>some (.nrm [sl f 0,y,sl s 2,sl s 3,z])) ((bin .add false [] (sl s 4) (I 1)).bind fun z=>some (.nrm [sl c 1,sl s 1,sl s 2,sl s 3,z]))) (some (.ext 0 [sl s 0,sl s 1]))) [x0,.arr 2 [],a,z,I 0]).bind fun o=>dH o (fun i s=>ifN (i.beq 0) ((ab (sl s 1) (.ref 0 0)).bind fun z=>((ab z (sl s 1)).bind (lenD false)).bind fun z=>(bin .eql false [] z (I 0)).bind fun z=>ifD z ((jx [(0,1),(1,1)] [.v (.string ⟨⟨[]⟩⟩),I 0] [.v (.string ⟨⟨[97]⟩⟩),I 9]).bind fun z=>(bC 2 [z]).bind fun a=>(ab (sl s 0) (sl s 0)).bind fun _=>some (.ret [a] [sl s 0])) ((ab (sl s 0) (sl s 0)).bind fun _=>some (.ret [sl s 1] [sl s 0]))) none) fun a b=>some (.ret a b)):=by kernel_rfl
theorem qS (x0 x1:D):aG [x0,x1]=((ab x0 (.ref 0 0)).bind fun z=>(lenD false x1).bind fun d=>(cQ z x0).bind fun i=>(ab i i).bind fun i=>aq (aB [i,d]) fun e c=>(Ke D.ptr (bO 1 x1 (sl e 0))).bind fun z=>((ldD false 1 z).bind bw).bind fun z=>(ab (sl c 0) (sl c 0)).bind fun _=>some (.ret [z] [sl c 0])):=by kernel_rfl
theorem qZ (x0 x1:D):cS [x0,x1]=((ab x0 (.ref 0 0)).bind fun z=>(cQ z x0).bind fun i=>(ab i i).bind fun i=>aq (aB [i,I 20]) fun d c=>(lenD false x1).bind fun z=>(bD (fun s=>(bin .lss false [] (sl s 5) (sl s 4)).bind fun z=>ifD z ((Ke D.ptr (bO 2 (sl s 3) (sl s 5))).bind fun z=>((ldD true 2 z).bind bw).bind fun z=>(stD 2 (.agg [.v (.string ⟨⟨[]⟩⟩),I 0]) (.ref 0 0) z).bind fun b=>(ab b (.ref 0 0)).bind fun z=>((atD b z).bind (an false 1)).bind fun z=>(bin .quo false [] (sl s 2) (I 10)).bind fun e=>(bin .rem false [] e (I 10)).bind fun f=>(bin .rem false [] (sl s 2) (I 10)).bind fun g=>(ab (sl s 0) (.ref 0 0)).bind fun h=>(bC 1 [I 0,I 1,I 2,I 5,I 20]).bind fun a=>(cQ h (sl s 0)).bind fun i=>(ab i i).bind fun i=>aq (aG [i,a]) fun d c=>(jx [(0,1),(1,1),(2,1),(3,1)] [.v (.string ⟨⟨[]⟩⟩),I 0,I 0,I 0] [z,f,g,sl d 0]).bind fun z=>(bC 4 [z]).bind fun a=>(iE a).bind fun b=>(gx 4 40 (sl s 1) b).bind fun y=>(ab (sl c 0) (.ref 0 0)).bind fun z=>(cQ z (sl c 0)).bind fun i=>(ab i i).bind fun i=>aq (aB [i,I 2]) fun d c=>(bin .add false [] (I 1) (sl d 0)).bind fun z=>(bin .add false [] (sl s 2) z).bind fun z=>(bin .add false [] (sl s 5) (I 1)).bind fun j=>some (.nrm [sl c 0,y,z,sl s 3,sl s 4,j])) (some (.ext 0 [sl s 0,sl s 1]))) [sl c 0,.arr 4 [],sl d 0,x1,z,I 0]).bind fun o=>dH o (fun i s=>ifN (i.beq 0) ((ab (sl s 0) (sl s 0)).bind fun _=>some (.ret [sl s 1] [sl s 0])) none) fun a b=>some (.ret a b)):=by kernel_rfl
theorem tT (x0 x1:D):fb [x0,x1]=((ab x0 (.ref 0 0)).bind fun z=>(lenD false x1).bind fun d=>(cQ z x0).bind fun i=>(ab i i).bind fun i=>aq (aB [i,d]) fun e c=>(Ke D.ptr (bO 1 x1 (sl e 0))).bind fun z=>((ldD false 1 z).bind bw).bind fun z=>(ab (sl c 0) (sl c 0)).bind fun _=>some (.ret [z] [sl c 0])):=by kernel_rfl
theorem ru (x0:D):cJ [x0]=((ab x0 (.ref 0 0)).bind fun z=>(cQ z x0).bind fun i=>(ab i i).bind fun i=>aq (aB [i,I 6]) fun c d=>(bin .add false [] (I 1) (sl c 0)).bind fun z=>(bD (fun s=>(lenD true (sl s 1)).bind fun z=>(bin .lss false [] z (sl s 2)).bind fun z=>ifD z ((ab (sl s 0) (.ref 0 0)).bind fun z=>(bC 1 [.v (.string ⟨⟨[97]⟩⟩),.v (.string ⟨⟨[98]⟩⟩),.v (.string ⟨⟨[99]⟩⟩),.v (.string ⟨⟨[97,98]⟩⟩),.v (.string ⟨⟨[98,98]⟩⟩),.v (.string ⟨⟨[97,98,99]⟩⟩),.v (.string ⟨⟨[100]⟩⟩),.v (.string ⟨⟨[101]⟩⟩),.v (.string ⟨⟨[102]⟩⟩),.v (.string ⟨⟨[102,105]⟩⟩)]).bind fun a=>(cQ z (sl s 0)).bind fun i=>(ab i i).bind fun i=>aq (fb [i,a]) fun c d=>(bin .add false [] (sl s 1) (sl c 0)).bind fun z=>some (.nrm [sl d 0,z,sl s 2])) (some (.ext 0 [sl s 0,sl s 1]))) [sl d 0,.v (.string ⟨⟨[]⟩⟩),z]).bind fun o=>dH o (fun i s=>ifN (i.beq 0) ((ab (sl s 0) (sl s 0)).bind fun _=>some (.ret [sl s 1] [sl s 0])) none) fun a b=>some (.ret a b)):=by kernel_rfl
theorem oH (x0:D):bN [x0]=((ab x0 (.ref 0 0)).bind fun z=>(cQ z x0).bind fun i=>(ab i i).bind fun i=>aq (aB [i,I 30]) fun d c=>(bin .eql false [] (sl d 0) (I 0)).bind fun z=>ifD z ((ab (sl c 0) (.ref 0 0)).bind fun z=>(bC 1 [.v (.string ⟨⟨[]⟩⟩),.v (.string ⟨⟨[65]⟩⟩),.v (.string ⟨⟨[97,32,98]⟩⟩),.v (.string ⟨⟨[97,45,98]⟩⟩)]).bind fun a=>(cQ z (sl c 0)).bind fun i=>(ab i i).bind fun i=>aq (fb [i,a]) fun d c=>(ab (sl c 0) (sl c 0)).bind fun _=>some (.ret [sl d 0] [sl c 0])) ((bin .eql false [] (sl d 0) (I 1)).bind fun z=>ifD z ((ab (sl c 0) (.ref 0 0)).bind fun z=>(cQ z (sl c 0)).bind fun i=>(ab i i).bind fun i=>aq (aB [i,I 2]) fun d c=>(bin .add false [] (I 16) (sl d 0)).bind fun z=>(bD (fun s=>(lenD true (sl s 1)).bind fun z=>(bin .lss false [] z (sl s 2)).bind fun z=>ifD z ((bin .add false [] (sl s 1) (.v (.string ⟨⟨[97]⟩⟩))).bind fun z=>some (.nrm [sl s 0,z,sl s 2])) (some (.ext 1 [sl s 0,sl s 1]))) [sl c 0,.v (.string ⟨⟨[]⟩⟩),z]).bind fun o=>dH o (fun i s=>ifN (i.beq 1) ((ab (sl s 0) (sl s 0)).bind fun _=>some (.ret [sl s 1] [sl s 0])) (ifN (i.beq 0) ((ab (sl s 0) (.ref 0 0)).bind fun z=>(cQ z (sl s 0)).bind fun i=>(ab i i).bind fun i=>aq (cJ [i]) fun d c=>(ab (sl c 0) (sl c 0)).bind fun _=>some (.ret [sl d 0] [sl c 0])) none)) fun a b=>some (.ret a b)) ((bin .eql false [] (sl d 0) (I 2)).bind fun z=>ifD z ((ab (sl c 0) (.ref 0 0)).bind fun z=>(cQ z (sl c 0)).bind fun i=>(ab i i).bind fun i=>aq (cJ [i]) fun d c=>(bin .add false [] (sl d 0) (.v (.string ⟨⟨[122]⟩⟩))).bind fun z=>(ab (sl c 0) (sl c 0)).bind fun _=>some (.ret [z] [sl c 0])) ((ab (sl c 0) (.ref 0 0)).bind fun z=>(cQ z (sl c 0)).bind fun i=>(ab i i).bind fun i=>aq (cJ [i]) fun d c=>(ab (sl c 0) (sl c 0)).bind fun _=>some (.ret [sl d 0] [sl c 0]))))):=by kernel_rfl
theorem nl (x0:D):bq [x0]=((ab x0 (.ref 0 0)).bind fun z=>(bC 1 [I 1,I 1,I 1,I 2,I 2,I 3,I 3,I 4,I 5,I 6]).bind fun a=>(cQ z x0).bind fun i=>(ab i i).bind fun i=>aq (aG [i,a]) fun d c=>(ab (sl c 0) (.ref 0 0)).bind fun z=>(cQ z (sl c 0)).bind fun i=>(ab i i).bind fun i=>aq (aB [i,I 3]) fun e c=>(bin .add false [] (I 1) (sl e 0)).bind fun z=>(jx [(0,1),(1,1)] [I 0,I 0,.v (.string ⟨⟨[]⟩⟩),I 0] [sl d 0,z]).bind fun z=>(stD 4 (.agg [I 0,I 0,.v (.string ⟨⟨[]⟩⟩),I 0]) (.ref 0 0) z).bind fun b=>(ab b (.ref 0 0)).bind fun z=>((atD b z).bind (an false 1)).bind fun z=>(bin .eql false [] z (I 1)).bind fun f=>ifD f ((ab (sl c 0) (.ref 0 0)).bind fun z=>(cQ z (sl c 0)).bind fun i=>(ab i i).bind fun i=>aq (cJ [i]) fun d c=>(ab b (.ref 0 2)).bind fun z=>(stD 1 b z (sl d 0)).bind fun b=>(ab (sl c 0) (.ref 0 0)).bind fun z=>(cQ z (sl c 0)).bind fun i=>(ab i i).bind fun i=>aq (aB [i,I 40]) fun d c=>(bin .eql false [] (sl d 0) (I 0)).bind fun z=>ifD z ((ab (sl c 0) (.ref 0 0)).bind fun z=>(bC 1 [I 0,I 7]).bind fun a=>(cQ z (sl c 0)).bind fun i=>(ab i i).bind fun i=>aq (aG [i,a]) fun d c=>(ab b (.ref 0 0)).bind fun z=>(stD 1 b z (sl d 0)).bind fun b=>(bM true 4 0 b).bind fun z=>(stD 4 (.agg [I 0,I 0,.v (.string ⟨⟨[]⟩⟩),I 0]) (.ref 0 0) z).bind fun b=>(bM true 4 0 b).bind fun y=>(ab (sl c 0) (sl c 0)).bind fun _=>some (.ret [y] [sl c 0])) ((bin .eql false [] (sl d 0) (I 1)).bind fun z=>ifD z ((ab (sl c 0) (.ref 0 0)).bind fun z=>(bC 1 [I 0,I 99,I 100]).bind fun a=>(cQ z (sl c 0)).bind fun i=>(ab i i).bind fun i=>aq (aG [i,a]) fun d c=>(ab b (.ref 0 1)).bind fun z=>(stD 1 b z (sl d 0)).bind fun b=>(bM true 4 0 b).bind fun z=>(stD 4 (.agg [I 0,I 0,.v (.string ⟨⟨[]⟩⟩),I 0]) (.ref 0 0) z).bind fun b=>(bM true 4 0 b).bind fun y=>(ab (sl c 0) (sl c 0)).bind fun _=>some (.ret [y] [sl c 0])) ((bin .eql false [] (sl d 0) (I 2)).bind fun z=>ifD z ((ab (sl c 0) (.ref 0 0)).bind fun z=>(bC 1 [I 0,I 1,I 1001]).bind fun a=>(cQ z (sl c 0)).bind fun i=>(ab i i).bind fun i=>aq (aG [i,a]) fun d c=>(ab b (.ref 0 3)).bind fun z=>(stD 1 b z (sl d 0)).bind fun b=>(bM true 4 0 b).bind fun z=>(stD 4 (.agg [I 0,I 0,.v (.string ⟨⟨[]⟩⟩),I 0]) (.ref 0 0) z).bind fun b=>(bM true 4 0 b).bind fun y=>(ab (sl c 0) (sl c 0)).bind fun _=>some (.ret [y] [sl c 0])) ((bin .eql false [] (sl d 0) (I 3)).bind fun z=>ifD z ((ab (sl c 0) (.ref 0 0)).bind fun z=>(cQ z (sl c 0)).bind fun i=>(ab i i).bind fun i=>aq (bN [i]) fun d c=>(ab b (.ref 0 2)).bind fun z=>(stD 1 b z (sl d 0)).bind fun b=>(bM true 4 0 b).bind fun z=>(stD 4 (.agg [I 0,I 0,.v (.string ⟨⟨[]⟩⟩),I 0]) (.ref 0 0) z).bind fun b=>(bM true 4 0 b).bind fun y=>(ab (sl c 0) (sl c 0)).bind fun _=>some (.ret [y] [sl c 0])) ((bM true 4 0 b).bind fun z=>(stD 4 (.agg [I 0,I 0,.v (.string ⟨⟨[]⟩⟩),I 0]) (.ref 0 0) z).bind fun b=>(bM true 4 0 b).bind fun y=>(ab (sl c 0) (sl c 0)).bind fun _=>some (.ret [y] [sl c 0])))))) ((bin .eql false [] z (I 3)).bind fun z=>ifD z ((ab (sl c 0) (.ref 0 0)).bind fun z=>(bC 1 [I 1,I 5,I 100,I 1000]).bind fun a=>(cQ z (sl c 0)).bind fun i=>(ab i i).bind fun i=>aq (aG [i,a]) fun d c=>(ab b (.ref 0 3)).bind fun z=>(stD 1 b z (sl d 0)).bind fun b=>(ab (sl c 0) (.ref 0 0)).bind fun z=>(cQ z (sl c 0)).bind fun i=>(ab i i).bind fun i=>aq (aB [i,I 40]) fun d c=>(bin .eql false [] (sl d 0) (I 0)).bind fun z=>ifD z ((ab (sl c 0) (.ref 0 0)).bind fun z=>(bC 1 [I 0,I 7]).bind fun a=>(cQ z (sl c 0)).bind fun i=>(ab i i).bind fun i=>aq (aG [i,a]) fun d c=>(ab b (.ref 0 0)).bind fun z=>(stD 1 b z (sl d 0)).bind fun b=>(bM true 4 0 b).bind fun z=>(stD 4 (.agg [I 0,I 0,.v (.string ⟨⟨[]⟩⟩),I 0]) (.ref 0 0) z).bind fun b=>(bM true 4 0 b).bind fun y=>(ab (sl c 0) (sl c 0)).bind fun _=>some (.ret [y] [sl c 0])) ((bin .eql false [] (sl d 0) (I 1)).bind fun z=>ifD z ((ab (sl c 0) (.ref 0 0)).bind fun z=>(bC 1 [I 0,I 99,I 100]).bind fun a=>(cQ z (sl c 0)).bind fun i=>(ab i i).bind fun i=>aq (aG [i,a]) fun d c=>(ab b (.ref 0 1)).bind fun z=>(stD 1 b z (sl d 0)).bind fun b=>(bM true 4 0 b).bind fun z=>(stD 4 (.agg [I 0,I 0,.v (.string ⟨⟨[]⟩⟩),I 0]) (.ref 0 0) z).bind fun b=>(bM true 4 0 b).bind fun y=>(ab (sl c 0) (sl c 0)).bind fun _=>some (.ret [y] [sl c 0])) ((bin .eql false [] (sl d 0) (I 2)).bind fun z=>ifD z ((ab (sl c 0) (.ref 0 0)).bind fun z=>(bC 1 [I 0,I 1,I 1001]).bind fun a=>(cQ z (sl c 0)).bind fun i=>(ab i i).bind fun i=>aq (aG [i,a]) fun d c=>(ab b (.ref 0 3)).bind fun z=>(stD 1 b z (sl d 0)).bind fun b=>(bM true 4 0 b).bind fun z=>(stD 4 (.agg [I 0,I 0,.v (.string ⟨⟨[]⟩⟩),I 0]) (.ref 0 0) z).bind fun b=>(bM true 4 0 b).bind fun y=>(ab (sl c 0) (sl c 0)).bind fun _=>some (.ret [y] [sl c 0])) ((bin .eql false [] (sl d 0) (I 3)).bind fun z=>ifD z ((ab (sl c 0) (.ref 0 0)).bind fun z=>(cQ z (sl c 0)).bind fun i=>(ab i i).bind fun i=>aq (bN [i]) fun d c=>(ab b (.ref 0 2)).bind fun z=>(stD 1 b z (sl d 0)).bind fun b=>(bM true 4 0 b).bind fun z=>(stD 4 (.agg [I 0,I 0,.v (.string ⟨⟨[]⟩⟩),I 0]) (.ref 0 0) z).bind fun b=>(bM true 4 0 b).bind fun y=>(ab (sl c 0) (sl c 0)).bind fun _=>some (.ret [y] [sl c 0])) ((bM true 4 0 b).bind fun z=>(stD 4 (.agg [I 0,I 0,.v (.string ⟨⟨[]⟩⟩),I 0]) (.ref 0 0) z).bind fun b=>(bM true 4 0 b).bind fun y=>(ab (sl c 0) (sl c 0)).bind fun _=>some (.ret [y] [sl c 0])))))) ((ab (sl c 0) (.ref 0 0)).bind fun z=>(cQ z (sl c 0)).bind fun i=>(ab i i).bind fun i=>aq (aB [i,I 40]) fun d c=>(bin .eql false [] (sl d 0) (I 0)).bind fun z=>ifD z ((ab (sl c 0) (.ref 0 0)).bind fun z=>(bC 1 [I 0,I 7]).bind fun a=>(cQ z (sl c 0)).bind fun i=>(ab i i).bind fun i=>aq (aG [i,a]) fun d c=>(ab b (.ref 0 0)).bind fun z=>(stD 1 b z (sl d 0)).bind fun b=>(bM true 4 0 b).bind fun z=>(stD 4 (.agg [I 0,I 0,.v (.string ⟨⟨[]⟩⟩),I 0]) (.ref 0 0) z).bind fun b=>(bM true 4 0 b).bind fun y=>(ab (sl c 0) (sl c 0)).bind fun _=>some (.ret [y] [sl c 0])) ((bin .eql false [] (sl d 0) (I 1)).bind fun z=>ifD z ((ab (sl c 0) (.ref 0 0)).bind fun z=>(bC 1 [I 0,I 99,I 100]).bind fun a=>(cQ z (sl c 0)).bind fun i=>(ab i i).bind fun i=>aq (aG [i,a]) fun d c=>(ab b (.ref 0 1)).bind fun z=>(stD 1 b z (sl d 0)).bind fun b=>(bM true 4 0 b).bind fun z=>(stD 4 (.agg [I 0,I 0,.v (.string ⟨⟨[]⟩⟩),I 0]) (.ref 0 0) z).bind fun b=>(bM true 4 0 b).bind fun y=>(ab (sl c 0) (sl c 0)).bind fun _=>some (.ret [y] [sl c 0])) ((bin .eql false [] (sl d 0) (I 2)).bind fun z=>ifD z ((ab (sl c 0) (.ref 0 0)).bind fun z=>(bC 1 [I 0,I 1,I 1001]).bind fun a=>(cQ z (sl c 0)).bind fun i=>(ab i i).bind fun i=>aq (aG [i,a]) fun d c=>(ab b (.ref 0 3)).bind fun z=>(stD 1 b z (sl d 0)).bind fun b=>(bM true 4 0 b).bind fun z=>(stD 4 (.agg [I 0,I 0,.v (.string ⟨⟨[]⟩⟩),I 0]) (.ref 0 0) z).bind fun b=>(bM true 4 0 b).bind fun y=>(ab (sl c 0) (sl c 0)).bind fun _=>some (.ret [y] [sl c 0])) ((bin .eql false [] (sl d 0) (I 3)).bind fun z=>ifD z ((ab (sl c 0) (.ref 0 0)).bind fun z=>(cQ z (sl c 0)).bind fun i=>(ab i i).bind fun i=>aq (bN [i]) fun d c=>(ab b (.ref 0 2)).bind fun z=>(stD 1 b z (sl d 0)).bind fun b=>(bM true 4 0 b).bind fun z=>(stD 4 (.agg [I 0,I 0,.v (.string ⟨⟨[]⟩⟩),I 0]) (.ref 0 0) z).bind fun b=>(bM true 4 0 b).bind fun y=>(ab (sl c 0) (sl c 0)).bind fun _=>some (.ret [y] [sl c 0])) ((bM true 4 0 b).bind fun z=>(stD 4 (.agg [I 0,I 0,.v (.string ⟨⟨[]⟩⟩),I 0]) (.ref 0 0) z).bind fun b=>(bM true 4 0 b).bind fun y=>(ab (sl c 0) (sl c 0)).bind fun _=>some (.ret [y] [sl c 0])))))))):=by kernel_rfl
set_option maxRecDepth 100000
theorem sw {β:Type} {body:List D→Option Out} (l:List β) (st:Nat→Int→List D) (f:β→Int) (fin:Int→Out) (M a:Int) (hf:∀x∈l,0≤f x∧f x≤M) (hM:0≤M) (hb:0≤a) (hB:a+M*l.length<9223372036854775808)
  (hs:∀(i:Nat) (a:Int) (hi:i<l.length),Jj.wrap (a+f l[i])=a+f l[i]→body (st i a)=some (.nrm (st (i+1) (a+f l[i])))) (he:∀a,body (st l.length a)=some (fin a)) (h1:∀a,(fin a).ends=true) {s0:List D} (h:s0=st 0 a) :
  bD body s0=some (fin (a+(l.map f).sum)):=by
 have e:∀(m:List β) (i:Nat) (a:Int),rR (fun _ a x=>a+f x) i m a=a+(m.map f).sum:=by
  intro m;induction m with
  | nil=>intro i a;simp [rR]
  | cons x m ih=>intro i a;simp only [rR,ih,Jy,List.sum_cons];omega
 rw [←e l 0 a];refine vE l st (fun i b=>0≤b∧b≤a+M*i) (fun _ a x=>a+f x) fin a (fun i b hi hI=>?_) (fun a _=>he a) h1 ⟨hb,by simp⟩ h
 have hx:=hf l[i] (Jm hi);have h3:M*(i:Int)+M≤M*l.length:=by
  have:M*((i:Int)+1)≤M*l.length:=Int.mul_le_mul_of_nonneg_left (by omega) hM;rw [Kp,Int.mul_one] at this;exact this
 have h4:M*((i+1:Nat):Int)=M*(i:Int)+M:=by
  rw [Int.natCast_add,Kp];simp
 exact⟨hs i b hi (ay (by omega) (by omega)),by omega,by rw [h4];omega⟩
theorem yw {β:Type} {f:β→Int} {M:Int}:∀{l:List β},(∀x∈l,0≤f x∧f x≤M)→0≤(l.map f).sum∧(l.map f).sum≤M*l.length
 | [],_=>by simp
 | x::l,h=>by
  have h1:=h x (by simp);have h2:=yw (l:=l) fun y hy=>h y (by simp [hy])
  simp only [Jy,List.sum_cons,List.length_cons,Int.natCast_add,Kp];simp only [Int.natCast_one,Int.mul_one];omega
theorem bp {s:Sp} (h:aD s=true):(∀(j:Nat) (hj:j<s.2.1.length),fY s.1 s.2.1[j]=true)∧bg s.1=true∧s.2.1.length≤5∧(0≤s.2.2.1∧s.2.2.1≤9999):=by
 simp only [aD,Jk,decide_eq_true_eq] at h;obtain⟨⟨⟨⟨h1,h2⟩,h3⟩,h4⟩,_⟩:=h;have key:∀(l:List Fm) (i:Nat),dq (pS s) i l=true→∀x∈l,fY s.1 x=true:=by
  intro l;induction l with
  | nil=>intro i _ x hx;simp at hx
  | cons y l ih =>
   intro i hp x hx;simp only [dq,Jk,pS] at hp;rcases JF.1 hx with rfl | hx
   ·exact hp.1.1
   ·exact ih (i+1) (by simpa [pS] using hp.2) x hx
 exact⟨fun j hj=>key _ 0 h1 _ (Jm hj),h2,by omega,h4⟩
theorem iv {l:List Bx} (h:bg l=true):l.length≤32∧∀x∈l,0≤x.2.2.2∧x.2.2.2≤9999:=by
 simp only [bg,Jk,decide_eq_true_eq] at h;refine⟨by omega,?_⟩
 have key:∀(m:List Bx) (i:Nat),dq (pBx l) i m=true→∀x∈m,0≤x.2.2.2∧x.2.2.2≤9999:=by
  intro m;induction m with
  | nil=>intro i _ x hx;simp at hx
  | cons y m ih =>
   intro i hp x hx;simp only [dq,Jk] at hp;rcases JF.1 hx with rfl | hx
   ·have:=hp.1
    simp only [pBx,po,Jk,decide_eq_true_eq] at this;exact this.1.1.2
   ·exact ih (i+1) hp.2 x hx
 exact key l 0 h.1
def cR (l:List Bx):Int:=(l.map fun x=>x.2.2.2).sum
def kH (l:List Fm):Int:=(l.map fun x=>(x.2.1.length:Int)).sum
def eR (s:Sp):Int:=if aD s then cR s.1+s.2.2.1+kH s.2.1 else 0
theorem dI {l:List Bx} {x:Fm} (h:fY l x=true):x.2.1.length≤40:=by
 simp only [fY,Jk,JK,decide_eq_false_iff_not] at h;omega
set_option maxRecDepth 100000
theorem Dh {α β:Type} (f:Nat→α→β→α) (l:List β) (Inv:Nat→α→Prop) (hs:∀(i:Nat) (a:α) (hi:i<l.length),Inv i a→Inv (i+1) (f i a l[i])) (a:α) (h0:Inv 0 a):Inv l.length (rR f 0 l a):=by
 have key:∀(n i:Nat) (a:α),i+n=l.length→Inv i a→Inv l.length (rR f i (l.drop i) a):=by
  intro n;induction n with
  | zero =>
   intro i a hi hI;have:i=l.length:=by omega
   subst this;rw [List.drop_length];exact hI
  | succ n ih =>
   intro i a hi hI;have hlt:i<l.length:=by omega
   rw [Kf hlt];exact ih (i+1) _ (by omega) (hs i a hlt hI)
 simpa using key l.length 0 a (by omega) h0
theorem lV {a b:ByteArray} (h:aC a=aC b):a=b:=by
 cases a with | mk a=>cases b with | mk b =>
  cases a with | mk a=>cases b with | mk b =>
   simp [aC] at h;rw [h]
theorem gm (s:ByteArray) (i j:Nat):aC (s.extract i j)=((aC s).take j).drop i:=by
 simp [aC,List.drop_take]
theorem Eb {s:ByteArray} {z i j:Nat} (h1:i≤j) (h2:j≤s.size):ga true z (T s) (I (i:Int)) (I (j:Int))=some (T (s.extract i j)):=by
 simp only [ga,JS];rw [if_pos (by omega)]
theorem FA {s:ByteArray} {z i:Nat} (h:i≤s.size):kM true z (T s) (I (i:Int))=some (T (s.extract i s.size)):=by
 simp only [kM,JS];rw [if_pos (by omega)]
def Pre (c:ByteArray) (w:List UInt8):Prop:=w.take (aC c).length=aC c
instance (c:ByteArray) (w:List UInt8):Decidable (Pre c w):=by unfold Pre;infer_instance
theorem Pre.len {c:ByteArray} {w:List UInt8} (h:Pre c w):(aC c).length≤w.length:=by
 have:=congrArg JZ h;rw [JN] at this;omega
theorem gE (s p:ByteArray):eh [T s,T p]=some (.ret [B (decide (Pre p (aC s)))] []):=by
 have e:bW [T s,T p]=some (.ret [B (decide (Pre p (aC s)))] []):=by
  rw [hD];by_cases h:p.size≤s.size
  ·have hs:=Eb (z:=0) (JJ p.size) h
   have hp:(s.extract 0 p.size=p)↔Pre p (aC s):=by
    constructor
    ·intro h'
     have:=congrArg aC h';rw [gm,JY] at this;exact this
    ·intro h'
     refine lV ?_
     rw [gm,JY];exact h'
   have h0:ga true 0 (T s) (D.v (.int .i64 0)) (I (p.size:Int))=some (T (s.extract 0 p.size)):=hs;by_cases hq:Pre p (aC s)
   ·simp -implicitDefEqProofs [h,h0,hq,hp.2 hq]
   ·have hq':¬s.extract 0 p.size=p:=fun e=>hq (hp.1 e)
    simp -implicitDefEqProofs [h,h0,hq,hq']
  ·have hq:¬Pre p (aC s):=fun h'=>h h'.len
   simp -implicitDefEqProofs [h,hq]
 rw [pt];simp -implicitDefEqProofs [e]
def yg (cs:List ByteArray) (w:List UInt8) (i:Nat):Prop:=∃h:i<cs.length,Pre cs[i] w∧∀(j:Nat) (hj:j<cs.length),Pre cs[j] w→(aC cs[j]).length≤(aC cs[i]).length
def sR (cs:List ByteArray) (w:List UInt8):Prop:=∀(j:Nat) (hj:j<cs.length),¬Pre cs[j] w
structure Codes (cs:List ByteArray):Prop where
 len:∀(j:Nat) (hj:j<cs.length),1≤(aC cs[j]).length∧(aC cs[j]).length≤3
 inj:∀(i j:Nat) (hi:i<cs.length) (hj:j<cs.length),cs[i]=cs[j]→i=j
theorem yg.uniq {cs:List ByteArray} {w:List UInt8} (hc:Codes cs) {i j:Nat} (hi:yg cs w i) (hj:yg cs w j):i=j:=by
 obtain⟨h1,p1,m1⟩:=hi;obtain⟨h2,p2,m2⟩:=hj;have e:(aC cs[i]).length=(aC cs[j]).length:=Nat.le_antisymm (m2 i h1 p1) (m1 j h2 p2);refine hc.inj i j h1 h2 (lV ?_)
 rw [←p1,←p2,e]
def BN (cs:List ByteArray) (w:List UInt8) (b:Int):Prop:=(b = -1∧sR cs w)∨∃k:Nat,b=k∧yg cs w k
theorem BN.best {cs:List ByteArray} {w:List UInt8} (hc:Codes cs) {b:Int} (h:BN cs w b) {i:Nat} (hi:yg cs w i):b=i:=by
 rcases h with ⟨_,h⟩ | ⟨k,rfl,h⟩
 ·exact absurd hi.2.1 (h i hi.1)
 ·rw [h.uniq hc hi]
theorem BN.none {cs:List ByteArray} {w:List UInt8} {b:Int} (h:BN cs w b) (hi:sR cs w):b = -1:=by
 rcases h with ⟨h,_⟩ | ⟨k,rfl,h⟩
 ·exact h
 ·exact absurd h.2.1 (hi k h.1)
inductive Sets (cs:List ByteArray):List UInt8→List Nat→Option (List Nat)→Prop where
 | nil {acc:List Nat}:Sets cs [] acc (some acc)
 | fail {w:List UInt8} {acc:List Nat}:w≠[]→sR cs w→Sets cs w acc none
 | step {w:List UInt8} {acc:List Nat} {i:Nat} {r:Option (List Nat)}:w≠[]→yg cs w i→Sets cs (w.drop (aC (cs.getD i Ju)).length) (acc++[i]) r→Sets cs w acc r
theorem FX {cs:List ByteArray} {w:List UInt8} (h:¬sR cs w):∃i,yg cs w i:=by
 have key:∀n,n≤cs.length→(∀(j:Nat) (hj:j<cs.length),j<n→¬Pre cs[j] w)∨∃(i:Nat) (hi:i<cs.length),i<n∧Pre cs[i] w∧∀(j:Nat) (hj:j<cs.length),j<n→Pre cs[j] w→(aC cs[j]).length≤(aC cs[i]).length:=by
  intro n;induction n with
  | zero=>exact fun _=>.inl fun j _ hj=>absurd hj (by omega)
  | succ n ih =>
   intro hn;by_cases hp:Pre cs[n] w
   ·rcases ih (by omega) with h | ⟨i,hi,h1,h2,h3⟩
    ·refine .inr ⟨n,by omega,by omega,hp,fun j hj hjn hpj=>?_⟩
     rcases Jr j n with h' | h'
     ·exact absurd hpj (h j hj h')
     ·have:j=n:=by omega
      subst this;exact Jp _
    ·by_cases hl:(aC cs[n]).length≤(aC cs[i]).length
     ·refine .inr ⟨i,hi,by omega,h2,fun j hj hjn hpj=>?_⟩
      rcases Jr j n with h' | h'
      ·exact h3 j hj h' hpj
      ·have:j=n:=by omega
       subst this;exact hl
     ·refine .inr ⟨n,by omega,by omega,hp,fun j hj hjn hpj=>?_⟩
      rcases Jr j n with h' | h'
      ·exact Nat.le_trans (h3 j hj h' hpj) (by omega)
      ·have:j=n:=by omega
       subst this;exact Jp _
   ·rcases ih (by omega) with h | ⟨i,hi,h1,h2,h3⟩
    ·refine .inl fun j hj hjn hpj=>?_
     rcases Jr j n with h' | h'
     ·exact h j hj h' hpj
     ·have:j=n:=by omega
      subst this;exact hp hpj
    ·refine .inr ⟨i,hi,by omega,h2,fun j hj hjn hpj=>?_⟩
     rcases Jr j n with h' | h'
     ·exact h3 j hj h' hpj
     ·have:j=n:=by omega
      subst this;exact absurd hpj hp
 rcases key cs.length (Jp _) with h' | ⟨i,hi,_,h2,h3⟩
 ·exact absurd (fun j hj=>h' j hj hj) h
 ·exact⟨i,hi,h2,fun j hj=>h3 j hj hj⟩
theorem mJ {cs:List ByteArray} {i:Nat} (h:i<cs.length):cs.getD i Ju=cs[i]:=by
 simp [Js,h]
theorem qL {cs:List ByteArray} (hc:Codes cs):∀(n:Nat) (w:List UInt8) (acc:List Nat),w.length≤n→∃r,Sets cs w acc r
 | 0,w,acc,h=>by
  have:w=[]:=JA (by omega);subst this;exact⟨_,.nil⟩
 | n+1,w,acc,h=>by
  by_cases hw:w=[]
  ·subst hw
   exact⟨_,.nil⟩
  ·by_cases hN:sR cs w
   ·exact⟨_,.fail hw hN⟩
   ·obtain⟨i,hi⟩:=FX hN
    have h1:=hc.len i hi.1;obtain⟨r,hr⟩:=qL hc n (w.drop (aC (cs.getD i Ju)).length) (acc++[i]) (by
     rw [mJ hi.1,JC];have:0<w.length:=JP.2 hw;omega)
    exact⟨r,.step hw hi hr⟩
theorem yd {cs:List ByteArray} (hc:Codes cs) {w:List UInt8} {acc:List Nat} {r:Option (List Nat)} (h:Sets cs w acc r):(∀i∈acc,i<cs.length)→∀l,r=some l→(∀i∈l,i<cs.length)∧l.length≤acc.length+w.length:=by
 induction h with
 | nil =>
  intro h l e;cases e;exact⟨h,by simp⟩
 | fail=>intro _ l e;cases e
 | step hw hb _ ih =>
  rename_i w acc i r _;intro h l e;obtain⟨h1,h2⟩:=ih (fun j hj=>by
   rcases Ki.1 hj with hj | hj
   ·exact h j hj
   ·simp at hj
    subst hj;exact hb.1) l e
  refine⟨h1,?_⟩
  rw [JH,Jo,JC,mJ hb.1] at h2;have:=hc.len i hb.1;have:=hb.2.1.len;omega
theorem xD {cs:List ByteArray} (hc:Codes cs) {body:List D→Option Out} (w:List UInt8) (st:Nat→List Nat→List D) (fin:Option (List Nat)→Out) (hfin:∀r,(fin r).ends=true)
  (h0:∀acc,acc.length≤w.length→body (st w.length acc)=some (fin (some acc))) (hf:∀at_ acc,at_<w.length→acc.length≤at_→sR cs (w.drop at_)→body (st at_ acc)=some (fin none))
  (hs:∀at_ acc i (hb:yg cs (w.drop at_) i),at_<w.length→acc.length≤at_→at_+(aC (cs[i]'hb.1)).length≤w.length→body (st at_ acc)=some (.nrm (st (at_+(aC (cs[i]'hb.1)).length) (acc++[i])))) {rest:List UInt8} {acc:List Nat} {r:Option (List Nat)} (h:Sets cs rest acc r) :
  ∀at_,at_≤w.length→acc.length≤at_→rest=w.drop at_→Runs body (st at_ acc) (fin r):=by
 induction h with
 | nil =>
  intro at_ h1 h2 h3;have:=congrArg JZ h3;rw [JC,JU] at this;have:at_=w.length:=by omega
  subst this;exact Runs.one (h0 _ h2) (hfin _)
 | fail hw hN =>
  intro at_ h1 h2 h3;subst h3;have:at_<w.length:=by
   rcases Jr at_ w.length with h | h
   ·exact h
   ·exact absurd (Kk h) hw
  exact Runs.one (hf at_ _ this h2 hN) (hfin _)
 | step hw hb _ ih =>
  rename_i w' acc i r _;intro at_ h1 h2 h3;subst h3;have hlt:at_<w.length:=by
   rcases Jr at_ w.length with h | h
   ·exact h
   ·exact absurd (Kk h) hw
  have hl:=hb.2.1.len;rw [JC] at hl;have h1':=hc.len i hb.1;rw [mJ hb.1] at ih;refine .nrm (hs at_ acc i hb hlt h2 (by omega)) (ih _ (by omega) (by rw [JH,Jo];omega) ?_)
  rw [Ks]
set_option maxRecDepth 100000
abbrev so (c:ByteArray):D:=.agg [T c,I 1]
abbrev fD (cs:List ByteArray):D:=.arr 2 (cs.map so)
abbrev iA (l:List Nat):D:=.arr 1 (l.map fun(i:Nat)=>I (i:Int))
theorem Ho (c:ByteArray):(so c).isV=true:=rfl
theorem zF (l:List Nat) (i:Nat) (h:l.length≤1048576):gx 1 8 (iA l) (.arr 1 [I (i:Int)])=some (iA (l++[i])):=by
 rw [dK,if_pos (by simp only [Jl,Jo];omega)];simp
theorem Au (i:Nat):bC 1 [I (i:Int)]=some (.arr 1 [I (i:Int)]):=by simp [bC,ia]
theorem zP (i:Nat):iE (.arr 1 [I (i:Int)])=some (.arr 1 [I (i:Int)]):=by simp [iE,D.isV]
theorem va {β:Type} {p:β→Bool}:∀{l:List β} {i j:Nat},eE p i l=some j→i≤j∧∃h:j - i<l.length,p l[j - i]=true
 | [],i,j,h=>by simp [eE] at h
 | x::l,i,j,h=>by
  simp only [eE] at h;split at h
  ·rename_i hp
   cases h;exact⟨Jp _,by simp,by simpa using hp⟩
  ·obtain⟨h1,h2,h3⟩:=va h
   refine⟨by omega,by simp;omega,?_⟩
   have:j - i=(j - (i+1))+1:=by omega
   simp only [this,JD];exact h3
theorem qx {β:Type} {p:β→Bool}:∀{l:List β} {i:Nat},eE p i l=none→∀(j:Nat) (hj:j<l.length),p l[j]=false
 | [],i,_,j,hj=>by simp at hj
 | x::l,i,h,j,hj=>by
  simp only [eE] at h;split at h
  ·cases h
  ·rename_i hp
   cases j with
   | zero=>simpa using hp
   | succ j=>exact qx h j (by simpa using hj)
def fC (cs:List ByteArray) (c:ByteArray):Int:=(eE (fun b:ByteArray=>decide (b=c)) 0 cs).elim (-1) fun j=>(j:Int)
theorem wT (cs:List ByteArray) (c:ByteArray) (h:cs.length≤1048576):gk [fD cs,T c]=some (.ret [I (fC cs c)] []):=by
 rw [wA];simp only [cn,Jl,Ji];refine be _ (pg cs (fun i=>[T c,fD cs,I cs.length,I i]) (fun b:ByteArray=>decide (b=c)) (fun j=>.ret [I j] []) (.ext 0 []) (fun i hi=>?_) ?_ (fun _=>rfl) rfl rfl) ?_
 ·have hw:Jj.wrap ((i:Int)+1)=(i:Int)+1:=ay (by omega) (by omega)
  by_cases hc:cs[i]=c<;>simp -implicitDefEqProofs [hi,hw,hc]
 ·simp
 ·unfold fC
  cases eE (fun b:ByteArray=>decide (b=c)) 0 cs<;>simp -implicitDefEqProofs
theorem Eg {cs:List ByteArray} {c:ByteArray}:(fC cs c = -1∧∀(j:Nat) (hj:j<cs.length),cs[j]≠c)∨∃(j:Nat) (hj:j<cs.length),fC cs c=j∧cs[j]=c:=by
 unfold fC;cases h:eE (fun b:ByteArray=>decide (b=c)) 0 cs with
 | none=>exact .inl ⟨rfl,fun j hj=>by simpa using qx h j hj⟩
 | some j =>
  obtain⟨_,h1,h2⟩:=va h;exact .inr ⟨j,by simpa using h1,rfl,by simpa using h2⟩
theorem we (a b:Int):fN [I a,I b]=some (.ret [I (if a<b then a else b)] []):=by
 rw [vR];by_cases h:a<b<;>simp -implicitDefEqProofs [h]
def ug (r:Option (List Nat)):Out:=match r with
 | some l=>.ext 0 [iA l]
 | none=>.ret [iA [],B false] []
def Dc (r:Option (List Nat)):Option Out:=some (.ret [iA (r.getD []),B r.isSome] [])
theorem tJ {cs:List ByteArray} (hc:Codes cs) (hl:cs.length≤1048576) (s:ByteArray) (hs:s.size≤1000) (at_:Nat) (acc:List Nat) (hlt':at_<s.size):∃m:Nat,fN [I 3,I ((s.size - at_:Nat):Int)]=some (.ret [I m] []) ∧
  ∀(R:Option Out→Prop) (body:List D→Option Out) (K:Out→Option Out),(∀(b:Int) (n:Nat),body [fD cs,T s,iA acc,I at_,I b,I n]=if 0<n∧b<0 then(((some (Jj.wrap ((at_:Int)+n)):Option Int).bind fun e=>ga true 0 (T s) (I at_) (I e)).bind fun z=>aq (gk [fD cs,z]) fun rs _=>some (.nrm [fD cs,T s,iA acc,I at_,sl rs 0,I (Jj.wrap ((n:Int) - 1))])) else some (.ext 2 [fD cs,T s,iA acc,I at_,I b])) →
    (∀b,BN cs ((aC s).drop at_) b→R (K (.ext 2 [fD cs,T s,iA acc,I at_,I b])))→R ((bD body [fD cs,T s,iA acc,I at_,I (-1),I m]).bind K):=by
 have hsz:s.size=(aC s).length:=rfl;obtain⟨m,hm1,hm2,hm3⟩:∃m:Nat,(if (3:Int)<((s.size - at_:Nat):Int) then(3:Int) else((s.size - at_:Nat):Int))=m∧m≤3∧(at_+m≤s.size∧(m=3∨at_+m=s.size)):=by
  by_cases h3:(3:Int)<((s.size - at_:Nat):Int)
  ·exact⟨3,by rw [if_pos h3];rfl,by omega,by omega,.inl rfl⟩
  ·exact⟨s.size - at_,by rw [if_neg h3],by omega,by omega,.inr (by omega)⟩
 have el:=we 3 ((s.size - at_:Nat):Int);rw [hm1] at el;refine⟨m,el,?_⟩
 intro R body K hbody hK;refine eJ R (fun a:Int × Nat=>[fD cs,T s,iA acc,I at_,I a.1,I a.2]) (fun a=>a.2≤3∧at_+a.2≤s.size∧((a.1 = -1∧∀(j:Nat) (hj:j<cs.length),Pre cs[j] ((aC s).drop at_)→(aC cs[j]).length≤a.2)∨∃k:Nat,a.1=k∧yg cs ((aC s).drop at_) k)) (fun a=>a.2)
  (fun o=>∃b,o = .ext 2 [fD cs,T s,iA acc,I at_,I b]∧BN cs ((aC s).drop at_) b) (fun a hI=>?_) (-1,m) ⟨hm2,hm3.1,.inl ⟨rfl,fun j hj hp=>?_⟩⟩ rfl (fun o ho=>?_)
 ·obtain⟨b,n⟩:=a
  obtain⟨i1,i2,i3⟩:=hI;simp only at i1 i2 i3;rw [hbody];by_cases hcond:0<n∧b<0
  ·rw [if_pos hcond]
   have hwn:Jj.wrap ((at_:Int)+n)=((at_+n:Nat):Int):=by rw [ay (by omega) (by omega)];omega
   have hwm:Jj.wrap ((n:Int) - 1)=((n - 1:Nat):Int):=by rw [ay (by omega) (by omega)];omega
   have hsl:=Eb (s:=s) (z:=0) (i:=at_) (j:=at_+n) (by omega) (by omega);have hch:aC (s.extract at_ (at_+n))=((aC s).drop at_).take n:=by
    rw [gm,List.drop_take];congr 1
    omega
   simp only [Ji,hwn,hwm,hsl,wT cs _ hl,aO,aY];rcases i3 with ⟨rfl,hmax⟩ | ⟨k,rfl,_⟩
   ·refine .inl ⟨(fC cs (s.extract at_ (at_+n)),n - 1),rfl,⟨by simp only;omega,by simp only;omega,?_⟩,by simp only;omega⟩
    simp only;rcases Eg (cs:=cs) (c:=s.extract at_ (at_+n)) with ⟨e1,e2⟩ | ⟨j,hj,e1,e2⟩
    ·refine .inl ⟨e1,fun j hj hp=>?_⟩
     have h1:=hmax j hj hp;rcases Jr (aC cs[j]).length n with h' | h'
     ·omega
     ·exfalso
      have:(aC cs[j]).length=n:=by omega
      refine e2 j hj (lV ?_)
      rw [hch,←hp,this]
    ·have hln:(aC cs[j]).length=n:=by
      rw [e2,hch,JN,JC];omega
     refine .inr ⟨j,e1,hj,?_,fun j' hj' hp'=>by rw [hln];exact hmax j' hj' hp'⟩
     unfold Pre;rw [hln,e2,hch]
   ·omega
  ·rw [if_neg hcond]
   refine .inr ⟨_,rfl,rfl,b,rfl,?_⟩
   rcases i3 with ⟨rfl,hmax⟩ | ⟨k,rfl,hk⟩
   ·refine .inl ⟨rfl,fun j hj hp=>?_⟩
    have h1:=hmax j hj hp;have h2:=(hc.len j hj).1;omega
   ·exact .inr ⟨k,rfl,hk⟩
 ·have h1:=(hc.len j hj).2
  have h2:=hp.len;rw [JC] at h2;simp only;omega
 ·obtain⟨b,rfl,hb⟩:=ho
  exact hK b hb
theorem yT {cs:List ByteArray} (hc:Codes cs) (hl:cs.length≤1048576) (s:ByteArray) (hs:s.size≤1000) {r:Option (List Nat)} (h:Sets cs (aC s) [] r):jS [fD cs,T s]=Dc r:=by
 rw [yE];have hsz:s.size=(aC s).length:=rfl;refine be (ug r) (Runs.loop (xD hc (aC s) (fun at_ acc=>[fD cs,T s,iA acc,I at_]) ug (fun r=>by cases r<;>rfl) (fun acc ha=>?_) (fun at_ acc hlt ha hN=>?_) (fun at_ acc i hb hlt ha hle=>?_) h 0 (JJ _) (by simp) (by simp))) ?_
 ·simp -implicitDefEqProofs [hsz,ug]
 ·have hw0:Jj.wrap ((s.size:Int) - at_)=((s.size - at_:Nat):Int):=by rw [ay (by omega) (by omega)];omega
  have hlt':at_<s.size:=by omega
  obtain⟨m,el,inner⟩:=tJ hc hl s hs at_ acc hlt';simp -implicitDefEqProofs [hlt',hw0,el];refine inner (fun X=>X=some (ug none)) _ _ (fun b n=>?_) (fun b hb=>?_)
  ·by_cases h1:0<n<;>by_cases h2:b<0<;>simp -implicitDefEqProofs [h1,h2]
  ·have:=hb.none hN
   subst this;simp -implicitDefEqProofs [ug]
 ·have hw0:Jj.wrap ((s.size:Int) - at_)=((s.size - at_:Nat):Int):=by rw [ay (by omega) (by omega)];omega
  have hlt':at_<s.size:=by omega
  obtain⟨m,el,inner⟩:=tJ hc hl s hs at_ acc hlt';simp -implicitDefEqProofs [hlt',hw0,el];refine inner (fun X=>X=some (.nrm [fD cs,T s,iA (acc++[i]),I ((at_+(aC (cs[i]'hb.1)).length:Nat):Int)])) _ _ (fun b n=>?_) (fun b hb'=>?_)
  ·by_cases h1:0<n<;>by_cases h2:b<0<;>simp -implicitDefEqProofs [h1,h2]
  ·have:=hb'.best hc hb
   subst this;have hi:=hb.1;have hsl:(cs[i]).size=(aC cs[i]).length:=rfl;have hwa:Jj.wrap ((at_:Int)+(aC cs[i]).length)=(at_:Int)+(aC cs[i]).length:=ay (by omega) (by omega);simp -implicitDefEqProofs [Au,zP,zF acc i (by omega),hi,hsl,hwa,-dK]
 ·cases r<;>simp -implicitDefEqProofs [ug,Dc]
set_option maxRecDepth 100000
def tM (cs:List ByteArray) (w:List UInt8) (i:Nat) (b:Int) (c:ByteArray):Int:=if Pre c w∧(b<0∨(aC (cs.getD b.toNat Ju)).length<(aC c).length) then i else b
theorem pF {cs:List ByteArray} (rest:ByteArray) (acc:List Nat) (hl:cs.length≤1048576):∀(R:Option Out→Prop) (body:List D→Option Out) (K:Out→Option Out),
  (∀(i:Nat) (hi:i<cs.length) (b:Int),(b<0∨∃k:Nat,b=k∧k<cs.length)→Jj.wrap ((i:Int)+1)=(i:Int)+1→body [fD cs,T rest,iA acc,I b,fD cs,I cs.length,I i]=some (.nrm [fD cs,T rest,iA acc,I (tM cs (aC rest) i b cs[i]),fD cs,I cs.length,I ((i:Int)+1)])) →
  (∀b,body [fD cs,T rest,iA acc,I b,fD cs,I cs.length,I cs.length]=some (.ext 2 [fD cs,T rest,iA acc,I b])) →
  (∀b,BN cs (aC rest) b→R (K (.ext 2 [fD cs,T rest,iA acc,I b])))→R ((bD body [fD cs,T rest,iA acc,I (-1),fD cs,I cs.length,I 0]).bind K):=by
 intro R body K h1 h2 h3;have inv:∀(i:Nat) (b:Int) (hi:i<cs.length),((b = -1∧∀(j:Nat) (hj:j<cs.length),j<i→¬Pre cs[j] (aC rest))∨∃(k:Nat) (hk:k<cs.length),b=k∧Pre cs[k] (aC rest)∧∀(j:Nat) (hj:j<cs.length),j<i→Pre cs[j] (aC rest)→(aC cs[j]).length≤(aC cs[k]).length) →
   ((tM cs (aC rest) i b cs[i] = -1∧∀(j:Nat) (hj:j<cs.length),j<i+1→¬Pre cs[j] (aC rest))∨∃(k:Nat) (hk:k<cs.length),tM cs (aC rest) i b cs[i]=k∧Pre cs[k] (aC rest)∧∀(j:Nat) (hj:j<cs.length),j<i+1→Pre cs[j] (aC rest)→(aC cs[j]).length≤(aC cs[k]).length):=by
  intro i b hi hI;unfold tM;rcases hI with ⟨rfl,hN⟩ | ⟨k,hk,rfl,hp,hmax⟩
  ·by_cases hpi:Pre cs[i] (aC rest)
   ·rw [if_pos ⟨hpi,.inl (by omega)⟩]
    refine .inr ⟨i,hi,rfl,hpi,fun j hj hji hpj=>?_⟩
    rcases Jr j i with h | h
    ·exact absurd hpj (hN j hj h)
    ·have:j=i:=by omega
     subst this;exact Jp _
   ·rw [if_neg (fun h=>hpi h.1)]
    refine .inl ⟨rfl,fun j hj hji hpj=>?_⟩
    rcases Jr j i with h | h
    ·exact hN j hj h hpj
    ·have:j=i:=by omega
     subst this;exact hpi hpj
  ·rw [JS,mJ hk]
   by_cases hc:Pre cs[i] (aC rest)∧((k:Int)<0∨(aC cs[k]).length<(aC cs[i]).length)
   ·rw [if_pos hc]
    refine .inr ⟨i,hi,rfl,hc.1,fun j hj hji hpj=>?_⟩
    rcases Jr j i with h | h
    ·have:=hmax j hj h hpj
     omega
    ·have:j=i:=by omega
     subst this;exact Jp _
   ·rw [if_neg hc]
    refine .inr ⟨k,hk,rfl,hp,fun j hj hji hpj=>?_⟩
    rcases Jr j i with h | h
    ·exact hmax j hj h hpj
    ·have:j=i:=by omega
     subst this;rcases Jr (aC cs[k]).length (aC cs[j]).length with h' | h'
     ·exact absurd ⟨hpj,.inr h'⟩ hc
     ·exact h'
 rw [vE (body:=body) (s0:=[fD cs,T rest,iA acc,I (-1),fD cs,I cs.length,I 0]) cs (fun i b=>[fD cs,T rest,iA acc,I b,fD cs,I cs.length,I i]) (fun i b=>(b = -1∧∀(j:Nat) (hj:j<cs.length),j<i→¬Pre cs[j] (aC rest))∨∃(k:Nat) (hk:k<cs.length),b=k∧Pre cs[k] (aC rest)∧∀(j:Nat) (hj:j<cs.length),j<i→Pre cs[j] (aC rest)→(aC cs[j]).length≤(aC cs[k]).length)
  (fun i b c=>tM cs (aC rest) i b c) (fun b=>.ext 2 [fD cs,T rest,iA acc,I b]) (-1) (fun i b hi hI=>⟨h1 i hi b (by
   rcases hI with ⟨rfl,_⟩ | ⟨k,hk,rfl,_⟩
   ·exact .inl (by omega)
   ·exact .inr ⟨k,rfl,hk⟩) (ay (by omega) (by omega)),inv i b hi hI⟩) (fun b _=>h2 b) (fun _=>rfl) (.inl ⟨rfl,fun j _ hj=>absurd hj (by omega)⟩) rfl]
 have hfin:=Dh (fun i b c=>tM cs (aC rest) i b c) cs (fun i b=>(b = -1∧∀(j:Nat) (hj:j<cs.length),j<i→¬Pre cs[j] (aC rest))∨∃(k:Nat) (hk:k<cs.length),b=k∧Pre cs[k] (aC rest)∧∀(j:Nat) (hj:j<cs.length),j<i→Pre cs[j] (aC rest)→(aC cs[j]).length≤(aC cs[k]).length)
  (fun i b hi hI=>inv i b hi hI) (-1) (.inl ⟨rfl,fun j _ hj=>absurd hj (by omega)⟩)
 refine h3 _ ?_
 rcases hfin with ⟨e,hN⟩ | ⟨k,hk,e,hp,hmax⟩
 ·exact .inl ⟨e,fun j hj=>hN j hj hj⟩
 ·exact .inr ⟨k,e,hk,hp,fun j hj=>hmax j hj hj⟩
theorem zR (s:ByteArray):s.extract 0 s.size=s:=by
 refine lV ?_
 rw [gm,JY];exact Kh
theorem iH (s:ByteArray) (at_:Nat):aC (s.extract at_ s.size)=(aC s).drop at_:=by
 rw [gm];congr 1
 exact Kh
theorem ta (s:ByteArray) (at_:Nat):(s.extract at_ s.size).size=s.size - at_:=by
 show(aC (s.extract at_ s.size)).length=(aC s).length - at_
 rw [iH,JC]
theorem CO (s:ByteArray) (at_ n:Nat):(s.extract at_ s.size).extract n (s.extract at_ s.size).size=s.extract (at_+n) s.size:=by
 refine lV ?_
 rw [iH,iH,iH,Ks]
theorem uy {cs:List ByteArray} (hc:Codes cs) (hl:cs.length≤1048576) (s:ByteArray) (hs:s.size≤1000) {r:Option (List Nat)} (h:Sets cs (aC s) [] r):fG [fD cs,T s]=Dc r:=by
 rw [vT];have hsz:s.size=(aC s).length:=rfl;simp only [gD,Ji];refine be (ug r) (Runs.loop (xD hc (aC s) (fun at_ acc=>[fD cs,T (s.extract at_ s.size),iA acc]) ug (fun r=>by cases r<;>rfl) (fun acc ha=>?_) (fun at_ acc hlt ha hN=>?_) (fun at_ acc i hb hlt ha hle=>?_) h 0 (JJ _) (by simp) (by simp)) |> fun e=>by rw [zR] at e;exact e) ?_
 ·have h0:(s.extract (aC s).length s.size).size=0:=by rw [ta,hsz];omega
  simp -implicitDefEqProofs [h0,ug]
 ·have h0:=ta s at_
  have h0':0<s.size - at_:=by omega
  simp -implicitDefEqProofs [h0'];refine pF (s.extract at_ s.size) acc hl (fun X=>X=some (ug none)) _ _ (fun i hi b hb hwi=>?_) (fun b=>?_) (fun b hb=>?_)
  ·unfold tM
   by_cases hp:Pre cs[i] (aC (s.extract at_ s.size))
   ·rcases hb with hb | ⟨k,rfl,hk⟩
    ·simp -implicitDefEqProofs [hi,hwi,gE,hp,hb]
    ·have hk':¬(k:Int)<0:=by omega
     have z1:cs[i].size=(aC cs[i]).length:=rfl;have z2:cs[k].size=(aC cs[k]).length:=rfl;by_cases hlt2:(aC cs[k]).length<(aC cs[i]).length<;>simp -implicitDefEqProofs [hi,hwi,gE,hp,hk,hk',z1,z2,hlt2]
   ·simp -implicitDefEqProofs [hi,hwi,gE,hp]
  ·simp -implicitDefEqProofs
  ·rw [iH] at hb
   have:=hb.none hN;subst this;simp -implicitDefEqProofs [ug,gD]
 ·have h0:=ta s at_
  have h0':0<s.size - at_:=by omega
  simp -implicitDefEqProofs [h0'];refine pF (s.extract at_ s.size) acc hl (fun X=>X=some (.nrm [fD cs,T (s.extract (at_+(aC (cs[i]'hb.1)).length) s.size),iA (acc++[i])])) _ _ (fun i hi b hb hwi=>?_) (fun b=>?_) (fun b hb'=>?_)
  ·unfold tM
   by_cases hp:Pre cs[i] (aC (s.extract at_ s.size))
   ·rcases hb with hb | ⟨k,rfl,hk⟩
    ·simp -implicitDefEqProofs [hi,hwi,gE,hp,hb]
    ·have hk':¬(k:Int)<0:=by omega
     have z1:cs[i].size=(aC cs[i]).length:=rfl;have z2:cs[k].size=(aC cs[k]).length:=rfl;by_cases hlt2:(aC cs[k]).length<(aC cs[i]).length<;>simp -implicitDefEqProofs [hi,hwi,gE,hp,hk,hk',z1,z2,hlt2]
   ·simp -implicitDefEqProofs [hi,hwi,gE,hp]
  ·simp -implicitDefEqProofs
  ·rw [iH] at hb'
   have:=hb'.best hc hb;subst this;have hi:=hb.1;have hz:(cs[i]).size=(aC cs[i]).length:=rfl;have hsl:=FA (s:=s.extract at_ s.size) (z:=0) (i:=(aC cs[i]).length) (by omega);rw [CO s at_ _] at hsl;simp -implicitDefEqProofs [Au,zP,zF acc i (by omega),hi,hz,hsl,-dK]
 ·cases r<;>simp -implicitDefEqProofs [ug,Dc]
set_option maxRecDepth 100000
theorem od:∀x:List UInt8,Jt x x=false
 | []=>rfl
 | a::x=>by
  simp only [Jt,od x,Bool.and_false,Bool.or_false,decide_eq_false_iff_not];exact UInt8.lt_irrefl a
theorem wo:∀x y z:List UInt8,Jt x y=true→Jt y z=true→Jt x z=true
 | _,[],_,h,_=>by simp [Jt] at h
 | _,_::_,[],_,h=>by simp [Jt] at h
 | [],_::_,_::_,_,_=>rfl
 | a::x,b::y,c::z,h1,h2=>by
  simp only [Jt,Bool.or_eq_true,decide_eq_true_eq,Jk,beq_iff_eq] at h1 h2 ⊢;rcases h1 with h1 | ⟨rfl,h1⟩
  ·rcases h2 with h2 | ⟨rfl,_⟩
   ·exact .inl (UInt8.lt_trans h1 h2)
   ·exact .inl h1
  ·rcases h2 with h2 | ⟨rfl,h2⟩
   ·exact .inl h2
   ·exact .inr ⟨rfl,wo x y z h1 h2⟩
abbrev aL (l:List Bx):List ByteArray:=l.map (·.1)
theorem uj {β:Type} {p:Nat→β→Bool}:∀{l:List β} {i:Nat},dq p i l=true→∀(j:Nat) (hj:j<l.length),p (i+j) l[j]=true
 | [],_,_,j,hj=>by simp at hj
 | x::l,i,h,j,hj=>by
  simp only [dq,Jk] at h;cases j with
  | zero=>exact h.1
  | succ j =>
   have:=uj h.2 j (by simpa using hj);rw [show i+(j+1)=i+1+j from by omega];exact this
theorem gK {l:List Bx} (h:bg l=true):Codes (aL l):=by
 simp only [bg,Jk,decide_eq_true_eq] at h;have hp:∀(j:Nat) (hj:j<l.length),pBx l j l[j]=true:=fun j hj=>by
  have:=uj h.1 j hj;rwa [JR] at this
 have asc:∀(d i:Nat) (hj:i+d+1<l.length),Jt (l[i]'(by omega)).1.toList l[i+d+1].1.toList=true:=by
  intro d;have one:∀(i:Nat) (hj:i+1<l.length),Jt (l[i]'(by omega)).1.toList l[i+1].1.toList=true:=fun i hj=>by
   have:=hp (i+1) hj;simp only [pBx,Jk,JK,JT,decide_eq_false_iff_not,Bool.not_eq_false'] at this;have h2:=this.1.2.resolve_left (by omega);rw [Nat.add_sub_cancel,Js,Jx (by omega)] at h2;exact h2
  induction d with
  | zero=>exact fun i hj=>one i hj
  | succ d ih=>exact fun i hj=>wo _ _ _ (ih i (by omega)) (one (i+d+1) (by omega))
 refine⟨fun j hj=>?_,fun i j hi hj e=>?_⟩
 ·have hj':j<l.length:=by simpa using hj
  have:=hp j hj';simp only [pBx,po,cZ,Jk,decide_eq_true_eq] at this;have h2:=this.1.1.1.1.1.2;simp only [List.getElem_map];show 1≤(l[j].1).size∧(l[j].1).size≤3
  omega
 ·have hi':i<l.length:=by simpa using hi
  have hj':j<l.length:=by simpa using hj
  simp only [List.getElem_map] at e;rcases Nat.lt_trichotomy i j with h | h | h
  ·have:=asc (j - i - 1) i (by omega)
   simp only [show i+(j - i - 1)+1=j from by omega] at this;rw [e,od] at this;cases this
  ·exact h
  ·have:=asc (i - j - 1) j (by omega)
   simp only [show j+(i - j - 1)+1=i from by omega] at this;rw [e,od] at this;cases this
theorem zL (l:List Bx) (c:ByteArray):fB l c=fC (aL l) c:=by
 unfold fB fC;congr 1
 have:∀(m:List Bx) (i:Nat),eE (fun b:Bx=>decide (b.1=c)) i m=eE (fun b:ByteArray=>decide (b=c)) i (m.map (·.1)):=by
  intro m;induction m with
  | nil=>intro i;rfl
  | cons x m ih =>
   intro i;simp only [Jy,eE,ih]
 exact this l 0
theorem GZ (c:ByteArray):jx [(0,1),(1,1)] [T ⟨#[]⟩,I 0] [T c,I 1]=some (so c):=by simp [jx,oI]
theorem Ez (c:ByteArray):bC 2 [so c]=some (fD [c]):=by simp [bC,ia]
theorem Fj (l:List ByteArray) (c:ByteArray) (h:l.length≤1048576):gx 2 24 (fD l) (fD [c])=some (fD (l++[c])):=by
 rw [dK,if_pos (by simp only [Jl,Jo];omega)];simp
theorem DX (c:ByteArray):iE (fD [c])=some (fD [c]):=kw Ho
theorem DL (c:ByteArray):bC 1 [T c]=some (txs [c]):=by simp [bC,ia]
theorem DM (l:List ByteArray) (c:ByteArray) (h:l.length≤1048576):gx 1 16 (txs l) (txs [c])=some (txs (l++[c])):=by
 rw [dK,if_pos (by simp only [Jl,Jo];omega)];simp
theorem EL (c:ByteArray):iE (txs [c])=some (txs [c]):=by simp [iE,D.isV]
def cm (cs:List ByteArray) (r:List Nat):List ByteArray:=r.map fun i=>cs.getD i Ju
theorem lR {α:Type} {l:List α} {i:Nat} (h:i<l.length):l.take (i+1)=l.take i++[l[i]]:=Jv h
theorem om (l:List Bx) (hc:Codes (aL l)) (hl:l.length≤1048576) (s:ByteArray) (hs:s.size≤1000) {r:Option (List Nat)} (h:Sets (aL l) (aC s) [] r):fH [bxs l,T s]=some (.ret [txs (cm (aL l) (r.getD [])),B r.isSome] []):=by
 rw [vU];have et:=yT hc (by simpa using hl) s hs h;have hr:=yd hc h (by simp);simp only [cn,Jl,Ji];refine be (.ext 0 [T s,fD (aL l)]) (ig l.length (fun i=>[T s,fD (aL (l.take i)),bxs l,I l.length,I i]) _ (fun i hi=>?_) ?_ rfl rfl) ?_
 ·have hw:Jj.wrap ((i:Int)+1)=(i:Int)+1:=ay (by omega) (by omega)
  have ha:=Fj (aL (l.take i)) l[i].1 (by simp;omega);have hb:=GZ l[i].1;have h1:=Ez l[i].1;have h2:=DX l[i].1;have e:aL (l.take (i+1))=aL (l.take i)++[l[i].1]:=by
   unfold aL;rw [lR hi,JE];rfl
  rw [e];generalize aL (l.take i)=q at ha;simp -implicitDefEqProofs [hi,hw,hb,h1,h2,ha,-dK]
 ·simp -implicitDefEqProofs
 ·cases r with
  | none=>simp -implicitDefEqProofs [et,Dc,cm]
  | some r =>
   obtain⟨q1,q2⟩:=hr r rfl;have hsz:s.size=(aC s).length:=rfl;simp -implicitDefEqProofs [et,Dc];refine be (.ext 2 [txs (cm (aL l) r)]) (ig r.length (fun i=>[fD (aL l),txs (cm (aL l) (r.take i)),iA r,I r.length,I i]) _ (fun i hi=>?_) ?_ rfl rfl) ?_
   ·have hrl:r.length≤1000:=by simp at q2;omega
    have hw:Jj.wrap ((i:Int)+1)=(i:Int)+1:=ay (by omega) (by omega);have hk:=q1 r[i] (Jm hi);have ha:=DM (cm (aL l) (r.take i)) ((aL l)[r[i]]) (by simp [cm];omega);have h1:=DL ((aL l)[r[i]]);have h2:=EL ((aL l)[r[i]]);have e:cm (aL l) (r.take (i+1))=cm (aL l) (r.take i)++[(aL l)[r[i]]]:=by
     unfold cm;rw [lR hi,JE,Jy,JV,mJ hk]
    rw [e];generalize cm (aL l) (r.take i)=q at ha;generalize aL l=cs at hk ha h1 h2;simp -implicitDefEqProofs [hi,hk,hw,h1,h2,ha,-dK]
   ·simp -implicitDefEqProofs
   ·simp -implicitDefEqProofs
theorem ot (l:List Bx) (hc:Codes (aL l)) (hl:l.length≤1048576) (s:ByteArray) (hs:s.size≤1000) {r:Option (List Nat)} (h:Sets (aL l) (aC s) [] r):fM [bxs l,T s]=some (.ret [txs (cm (aL l) (r.getD [])),B r.isSome] []):=by
 rw [vV];have et:=uy hc (by simpa using hl) s hs h;have hr:=yd hc h (by simp);have hsz:s.size=(aC s).length:=rfl;obtain⟨q,ok,hq,q1,q2,he⟩:∃(q:List Nat) (ok:Bool),r.getD []=q∧(∀i∈q,i<(aL l).length)∧q.length≤1000∧fG [fD (aL l),T s]=some (.ret [iA q,B ok] [])∧r.isSome=ok:=by
  cases r with
  | none=>exact⟨[],false,rfl,by simp,by simp,et,rfl⟩
  | some r =>
   obtain⟨q1,q2⟩:=hr r rfl;exact⟨r,true,rfl,q1,by simp at q2;omega,et,rfl⟩
 rw [hq,he.2];simp only [gD,cn,Jl,Ji];refine be (.ext 0 [T s,fD (aL l)]) (ig l.length (fun i=>[T s,fD (aL (l.take i)),bxs l,I l.length,I i]) _ (fun i hi=>?_) ?_ rfl rfl) ?_
 ·have hw:Jj.wrap ((i:Int)+1)=(i:Int)+1:=ay (by omega) (by omega)
  have ha:=Fj (aL (l.take i)) l[i].1 (by simp;omega);have hb:=GZ l[i].1;have h1:=Ez l[i].1;have h2:=DX l[i].1;have e:aL (l.take (i+1))=aL (l.take i)++[l[i].1]:=by
   unfold aL;rw [lR hi,JE];rfl
  rw [e];generalize aL (l.take i)=q at ha;simp -implicitDefEqProofs [hi,hw,hb,h1,h2,ha,-dK]
 ·simp -implicitDefEqProofs
 ·simp -implicitDefEqProofs [he.1,gD]
  refine be (.ext 2 [B ok,txs (cm (aL l) q)]) (ig q.length (fun i=>[fD (aL l),B ok,txs (cm (aL l) (q.take i)),iA q,I q.length,I i]) _ (fun i hi=>?_) ?_ rfl rfl) ?_
  ·have hw:Jj.wrap ((i:Int)+1)=(i:Int)+1:=ay (by omega) (by omega)
   have hk:=q1 q[i] (Jm hi);have ha:=DM (cm (aL l) (q.take i)) ((aL l)[q[i]]) (by simp [cm];omega);have h1:=DL ((aL l)[q[i]]);have h2:=EL ((aL l)[q[i]]);have e:cm (aL l) (q.take (i+1))=cm (aL l) (q.take i)++[(aL l)[q[i]]]:=by
    unfold cm;rw [lR hi,JE,Jy,JV,mJ hk]
   rw [e];generalize cm (aL l) (q.take i)=qq at ha;generalize aL l=cs at hk ha h1 h2;simp -implicitDefEqProofs [hi,hk,hw,h1,h2,ha,-dK]
  ·simp -implicitDefEqProofs
  ·simp -implicitDefEqProofs
set_option maxRecDepth 100000
def tc (cs:List ByteArray) (by_:Int) (l:List Bx) (c:ByteArray):List Bx :=
 l.set (fC cs c).toNat ((l.getD (fC cs c).toNat (Ju,0,0,0)).1,(l.getD (fC cs c).toNat (Ju,0,0,0)).2.1,(l.getD (fC cs c).toNat (Ju,0,0,0)).2.2.1,Jj.wrap ((l.getD (fC cs c).toNat (Ju,0,0,0)).2.2.2+by_))
theorem De (cs:List ByteArray) (by_:Int) (l:List Bx) (c:ByteArray):aL (tc cs by_ l c)=aL l:=by
 unfold tc aL;rw [List.map_set];refine List.ext_getElem? fun i=>?_
 rw [List.getElem?_set];split
 ·rename_i h
  subst h;simp only [Jl,List.getElem?_map,Js];split
  ·rename_i h
   rw [Jx h];rfl
  ·rename_i h
   rw [List.getElem?_eq_none (by omega)];rfl
 ·rfl
def bj (cs:List ByteArray) (by_:Int) (l:List Bx) (codes:List ByteArray):List Bx:=codes.foldl (tc cs by_) l
theorem eH (cs:List ByteArray) (by_:Int):∀(codes:List ByteArray) (l:List Bx),aL (bj cs by_ l codes)=aL l
 | [],l=>rfl
 | c::codes,l=>by
  show aL (bj cs by_ (tc cs by_ l c) codes)=aL l
  rw [eH cs by_ codes,De]
theorem mo {l m:List Bx} (h:qB l) (e:aL m=aL l):qB m:=by
 have hl:m.length=l.length:=by
  have:=congrArg JZ e;simpa using this
 refine⟨by rw [hl];exact h.1,fun x hx=>?_⟩
 have:x.1∈aL m:=Km hx;rw [e] at this;obtain⟨y,hy,hy'⟩:=JL.1 this;rw [←hy'];exact h.2 y hy
theorem uB (cs:List ByteArray) (by_:Int) (l:List Bx) (codes:List ByteArray) {i:Nat} (hi:i<codes.length):bj cs by_ l (codes.take (i+1))=tc cs by_ (bj cs by_ l (codes.take i)) codes[i]:=by
 unfold bj;rw [lR hi,List.foldl_append];rfl
theorem Ce (cs:List ByteArray) (by_:Int) (m:List Bx) (c:ByteArray) (k:Nat) (hk:fC cs c=k) (hm:k<m.length):stD 1 (bxs m) (.ref k 3) (.v (.int .i64 (Jj.wrap (m[k].2.2.2+by_))))=some (bxs (tc cs by_ m c)):=by
 rw [EH (c:=[T m[k].1,I m[k].2.1,I m[k].2.2.1,I m[k].2.2.2]) (by simp [hm]) (by simp)];unfold tc;rw [hk,JS,Js,Jx hm];simp [List.map_set]
theorem ql (l:List Bx) (codes:List ByteArray) (by_:Int) (h:qB l) (hl:codes.length≤1048576) (hc:∀c∈codes,∃k:Nat,fC (aL l) c=k∧k<l.length) :
  iU [bxs l,txs codes,I by_]=some (.ret [if bg (bj (aL l) by_ l codes)=true then bxs (bj (aL l) by_ l codes) else .arr 4 [],B (bg (bj (aL l) by_ l codes))] []):=by
 rw [wC];have h0:=h.1;have ha:gx 4 40 (.arr 4 []) (bxs l)=some (bxs l):=by
  rw [dK,if_pos (by simp only [JU,Jl];omega)];rfl
 simp only [gD,Ji,kw yb,ha,cn,Jl];refine be (.ext 0 [bxs (bj (aL l) by_ l codes)]) (ig codes.length (fun i=>[I by_,bxs (bj (aL l) by_ l (codes.take i)),txs codes,I codes.length,I i]) _ (fun i hi=>?_) ?_ rfl rfl) ?_
 ·have hw:Jj.wrap ((i:Int)+1)=(i:Int)+1:=ay (by omega) (by omega)
  have hm:=eH (aL l) by_ (codes.take i) l;obtain⟨k,hk1,hk2⟩:=hc codes[i] (Jm hi);rw [uB _ _ _ _ hi];generalize bj (aL l) by_ l (codes.take i)=m at hm;have hml:m.length=l.length:=by
   have:=congrArg JZ hm;simpa using this
  have ef:=lq m codes[i] (by omega);rw [zL,hm,hk1] at ef;have hkm:k<m.length:=by omega
  have eu:=Ce (aL l) by_ m codes[i] k hk1 hkm;simp -implicitDefEqProofs [hi,hw,ef,hkm,eu]
 ·simp -implicitDefEqProofs
 ·have eg:=jf _ (mo h (eH (aL l) by_ codes l))
  cases hg:bg (bj (aL l) by_ l codes)<;>rw [hg] at eg<;>simp -implicitDefEqProofs [eg]
theorem nQ (l:List Bx) (codes:List ByteArray) (by_:Int) (h:qB l) (hl:codes.length≤60) (hg:bg l=true) (hc:∀c∈codes,∃k:Nat,fC (aL l) c=k∧k<l.length) :
  fJ [bxs l,txs codes,I by_]=some (.ret [if bg (bj (aL l) by_ l codes)=true then bxs (bj (aL l) by_ l codes) else .arr 4 [],B (bg (bj (aL l) by_ l codes))] []):=by
 rw [uS];have h0:=h.1;have ha:gx 4 40 (.arr 4 []) (bxs l)=some (bxs l):=by
  rw [dK,if_pos (by simp only [JU,Jl];omega)];rfl
 have hall:ky l codes=true:=by
  have key:∀(m:List ByteArray) (i:Nat),(∀c∈m,∃k:Nat,fC (aL l) c=k∧k<l.length)→dq (fun _ c=>!decide (fB l c<0)) i m=true:=by
   intro m;induction m with
   | nil=>intro i _;rfl
   | cons c m ih =>
    intro i hm;obtain⟨k,hk,_⟩:=hm c (by simp);have hk0:¬fB l c<0:=by rw [zL,hk];omega
    simp [dq,ih (i+1) (fun d hd=>hm d (by simp [hd])),hk0]
  exact key codes 0 hc
 have ea:=mT l codes h (by omega);rw [hall,hg] at ea;have h60:(codes.length:Int)≤60:=by omega
 simp -implicitDefEqProofs only [ea,h60,decide_true,Bool.and_self,Bool.not_true,aO,aY,mw,eX,Ka,if_false,gD,Ji,kw yb,ha,cn,Jl];refine be (.ext 0 [bxs (bj (aL l) by_ l codes)]) (ig codes.length (fun i=>[bxs l,I by_,bxs (bj (aL l) by_ l (codes.take i)),txs codes,I codes.length,I i]) _ (fun i hi=>?_) ?_ rfl rfl) ?_
 ·have hw:Jj.wrap ((i:Int)+1)=(i:Int)+1:=ay (by omega) (by omega)
  have hm:=eH (aL l) by_ (codes.take i) l;obtain⟨k,hk1,hk2⟩:=hc codes[i] (Jm hi);rw [uB _ _ _ _ hi];generalize bj (aL l) by_ l (codes.take i)=m at hm;have hml:m.length=l.length:=by
   have:=congrArg JZ hm;simpa using this
  have ef:=rC l codes[i] (by omega);rw [zL,hk1] at ef;have hkm:k<m.length:=by omega
  have eu:=Ce (aL l) by_ m codes[i] k hk1 hkm;simp -implicitDefEqProofs [hi,hw,ef,hkm,eu]
 ·simp -implicitDefEqProofs
 ·have eg:=dv _ (mo h (eH (aL l) by_ codes l))
  cases hg:bg (bj (aL l) by_ l codes)<;>rw [hg] at eg<;>simp -implicitDefEqProofs [eg,gD]
theorem lT (l:List Bx) (codes:List ByteArray) (h:qB l) (hl:codes.length≤60) (hg:bg l=true) (hc:∀c∈codes,∃k:Nat,fC (aL l) c=k∧k<l.length) :
  fS [bxs l,txs codes]=some (.ret [if bg (bj (aL l) (-1) l codes)=true then bxs (bj (aL l) (-1) l codes) else .arr 4 [],B (bg (bj (aL l) (-1) l codes))] []):=by
 rw [tf];have e:=nQ l codes (-1) h hl hg hc;cases hq:bg (bj (aL l) (-1) l codes)<;>rw [hq] at e<;>simp -implicitDefEqProofs at e<;>simp -implicitDefEqProofs [e]
theorem pT (s:ByteArray) (h:s.size≤9223372036854775807):gb [T s]=some (.ret [B (cZ s 1 16)] []):=by
 rw [xh];simp [mg s 16 h]
theorem qi (s:ByteArray) (h:s.size≤9223372036854775807):gj [T s]=some (.ret [B (cZ s 1 16)] []):=by
 rw [wF];simp [li s 1 16 h]
theorem Ab {l:List Bx} {r:List Nat} (hr:∀i∈r,i<(aL l).length):∀c∈cm (aL l) r,∃k:Nat,fC (aL l) c=k∧k<l.length:=by
 intro c hcm;obtain⟨i,hi,rfl⟩:=JL.1 hcm;have hi':=hr i hi;rw [mJ hi'];rcases Eg (cs:=aL l) (c:=(aL l)[i]) with ⟨_,e⟩ | ⟨j,hj,e1,e2⟩
 ·exact absurd rfl (e i hi')
 ·exact⟨j,e1,by simpa using hj⟩
set_option maxRecDepth 100000
theorem AE {β:Type} {p:β→Bool}:∀{l:List β} {i j:Nat},eE p i l=some j→i≤j∧∃h:j - i<l.length,p l[j - i]=true∧∀(k:Nat) (hk:k<l.length),k<j - i→p l[k]=false
 | [],i,j,h=>by simp [eE] at h
 | x::l,i,j,h=>by
  simp only [eE] at h;by_cases hp:p x=true
  ·rw [if_pos hp] at h
   cases h;refine⟨Jp _,by simp,?_,fun k _ hk=>by omega⟩
   simpa using hp
  ·rw [if_neg hp] at h
   obtain⟨h1,h2,h3,h4⟩:=AE h;have e:j - i=(j - (i+1))+1:=by omega
   refine⟨by omega,by rw [e];simpa using h2,?_,fun k hk hlt=>?_⟩
   ·have:(x::l)[j - i]'(by rw [e];simpa using h2)=l[j - (i+1)]:=by
     simp only [e,JD]
    rw [this];exact h3
   ·cases k with
    | zero=>simpa using hp
    | succ k =>
     rw [JD];exact h4 k (by simpa using hk) (by omega)
def idP (n:Int) (x:Fm):Bool:=decide (x.1=n)
theorem ln (s:Sp) (n:Int) (h:bH s):ji [sp s,I n]=some (.ret [I ((eE (idP n) 0 s.2.1).elim (-1) fun j=>(j:Int))] []):=by
 rw [xk];have hl:=h.2.1;simp -implicitDefEqProofs;refine be _ (pg s.2.1 (fun i=>[I n,fms s.2.1,I s.2.1.length,I i]) (idP n) (fun j=>.ret [I j] []) (.ext 0 []) (fun i hi=>?_) ?_ (fun _=>rfl) rfl rfl) ?_
 ·have hw:Jj.wrap ((i:Int)+1)=(i:Int)+1:=ay (by omega) (by omega)
  by_cases hc:s.2.1[i].1=n<;>simp -implicitDefEqProofs [hi,hw,hc,idP]
 ·simp
 ·cases eE (idP n) 0 s.2.1<;>simp -implicitDefEqProofs
theorem CB (s:Sp) (n:Int) (h:bH s):∃i:Nat,i≤s.2.1.length∧(∀(k:Nat) (hk:k<s.2.1.length),k<i→s.2.1[k].1<n)∧(∀hi:i<s.2.1.length,¬s.2.1[i].1<n) ∧
  ek [sp s,I n]=some (.ret [I (i:Int),B (if hi:i<s.2.1.length then decide (s.2.1[i].1=n) else false)] []):=by
 rw [pu];have hl:=h.2.1;simp -implicitDefEqProofs only [show gT 4 (sp s)=some (sp s) by simp,Ji];refine eJ (fun X=>∃i:Nat,i≤s.2.1.length∧(∀(k:Nat) (hk:k<s.2.1.length),k<i→s.2.1[k].1<n)∧(∀hi:i<s.2.1.length,¬s.2.1[i].1<n)∧X=some (.ret [I (i:Int),B (if hi:i<s.2.1.length then decide (s.2.1[i].1=n) else false)] []))
  (fun i:Nat=>[I n,sp s,I (i:Int)]) (fun i=>i≤s.2.1.length∧∀(k:Nat) (hk:k<s.2.1.length),k<i→s.2.1[k].1<n) (fun i=>s.2.1.length - i)
  (fun o=>∃i:Nat,o = .ext 0 [I n,sp s,I (i:Int)]∧i≤s.2.1.length∧(∀(k:Nat) (hk:k<s.2.1.length),k<i→s.2.1[k].1<n)∧∀hi:i<s.2.1.length,¬s.2.1[i].1<n) ?_ 0 ⟨JJ _,fun k _ h=>by omega⟩ rfl ?_
 ·rintro i ⟨g1,g2⟩
  by_cases hi:i<s.2.1.length
  ·have hi':(i:Int)<(s.2.1.length:Int):=by omega
   have hw:Jj.wrap ((i:Int)+1)=((i+1:Nat):Int):=by rw [ay (by omega) (by omega)];omega
   by_cases hc:s.2.1[i].1<n
   ·left
    refine⟨i+1,by simp -implicitDefEqProofs [hi,hi',hc,hw],⟨by omega,fun k hk hlt=>?_⟩,by omega⟩
    by_cases hki:k=i
    ·subst hki;exact hc
    ·exact g2 k hk (by omega)
   ·right
    exact⟨.ext 0 [I n,sp s,I (i:Int)],by simp -implicitDefEqProofs [hi,hi',hc],rfl,i,rfl,g1,g2,fun _=>hc⟩
  ·right
   have hi':¬(i:Int)<(s.2.1.length:Int):=by omega
   exact⟨.ext 0 [I n,sp s,I (i:Int)],by simp -implicitDefEqProofs [hi,hi'],rfl,i,rfl,g1,g2,fun h=>absurd h hi⟩
 ·rintro o ⟨i,rfl,g1,g2,g3⟩
  refine⟨i,g1,g2,g3,?_⟩
  by_cases hi:i<s.2.1.length
  ·have hi':(i:Int)<(s.2.1.length:Int):=by omega
   simp -implicitDefEqProofs [hi,hi']
  ·have hi':¬(i:Int)<(s.2.1.length:Int):=by omega
   simp -implicitDefEqProofs [hi,hi']
theorem FH {s:Sp} (h:aD s=true):(∀x∈s.2.1,fY s.1 x=true)∧∀(i j:Nat) (hj:j<s.2.1.length) (hij:i<j),s.2.1[i].1<s.2.1[j].1:=by
 simp only [aD,Jk] at h;have ha:=h.1.1.1.1;have key:∀(m:Nat) (k:Nat),k+m=s.2.1.length→dq (pS s) k (s.2.1.drop k)=true→∀(j:Nat) (hj:j<s.2.1.length),k≤j→pS s j s.2.1[j]=true:=by
  intro m;induction m with
  | zero=>intro k hk _ j hj hkj;omega
  | succ m ih =>
   intro k hk hp j hj hkj;rw [Kf (by omega)] at hp;simp only [dq,Jk] at hp;by_cases hkj':k=j
   ·subst hkj';exact hp.1
   ·exact ih (k+1) (by omega) hp.2 j hj (by omega)
 have hall:=key s.2.1.length 0 (by omega) (by rw [JY];exact ha);refine⟨fun x hx=>?_,?_⟩
 ·obtain⟨j,hj,rfl⟩:=List.getElem_of_mem hx
  have:=hall j hj (JJ _);simp only [pS,Jk] at this;exact this.1
 ·intro i j
  induction j with
  | zero=>intro _ h;omega
  | succ j ih =>
   intro hj hij;have h1:=hall (j+1) hj (JJ _);simp only [pS,Jk,JK,JT,decide_eq_false_iff_not] at h1;have h2:s.2.1[j].1<s.2.1[j+1].1:=by
    rcases h1.2 with h2 | h2
    ·omega
    ·simp only [Nat.add_sub_cancel] at h2
     have e:(s.2.1.getD j (0,[],false,0)).1=s.2.1[j].1:=by simp [show j<s.2.1.length by omega]
     rw [e] at h2;omega
   by_cases hij':i=j
   ·subst hij';exact h2
   ·exact Int.lt_trans (ih (by omega) (by omega)) h2
def atF:List Fm→Int→Nat
 | [],_=>0
 | x::l,n=>if x.1<n then atF l n+1 else 0
def CT (l:List Fm) (n:Int) (i:Nat):Prop:=i≤l.length∧(∀(k:Nat) (hk:k<l.length),k<i→l[k].1<n)∧∀hi:i<l.length,¬l[i].1<n
theorem vL:∀(l:List Fm) (n:Int),CT l n (atF l n)
 | [],n=>⟨Jp _,fun k hk=>by simp at hk,fun h=>by simp at h⟩
 | x::l,n=>by
  obtain⟨h1,h2,h3⟩:=vL l n;by_cases hx:x.1<n
  ·rw [atF,if_pos hx]
   refine⟨by simpa using h1,fun k hk hlt=>?_,fun hi=>?_⟩
   ·cases k with
    | zero=>exact hx
    | succ k =>
     rw [JD];exact h2 k (by simpa using hk) (by omega)
   ·rw [JD]
    exact h3 (by simpa using hi)
  ·rw [atF,if_neg hx]
   exact⟨JJ _,fun k _ h=>by omega,fun _=>hx⟩
theorem CT.uniq {l:List Fm} {n:Int} {i j:Nat} (hi:CT l n i) (hj:CT l n j):i=j:=by
 rcases Nat.lt_trichotomy i j with h | h | h
 ·exact absurd (hj.2.1 i (Kn h hj.1) h) (hi.2.2 _)
 ·exact h
 ·exact absurd (hi.2.1 j (Kn h hi.1) h) (hj.2.2 _)
theorem yq (l:List Fm) (n:Int):atF l n≤l.length:=(vL l n).1
def fx (l:List Fm) (n:Int):Bool:=if h:atF l n<l.length then decide (l[atF l n].1=n) else false
theorem jW {l:List Fm} {n:Int} (h:fx l n=true):∃hi:atF l n<l.length,l[atF l n].1=n:=by
 unfold fx at h;split at h
 ·exact⟨_,of_decide_eq_true h⟩
 ·cases h
theorem uR (s:Sp) (n:Int) (h:bH s):ek [sp s,I n]=some (.ret [I (atF s.2.1 n:Int),B (fx s.2.1 n)] []):=by
 obtain⟨i,h1,h2,h3,e⟩:=CB s n h;have:i=atF s.2.1 n:=CT.uniq ⟨h1,h2,h3⟩ (vL _ _);subst this;exact e
theorem oM (s:Sp) (n:Int) (h:bH s) (hok:aD s=true):ji [sp s,I n]=some (.ret [I (if fx s.2.1 n=true then(atF s.2.1 n:Int) else -1)] []):=by
 rw [ln s n h];congr 4
 obtain⟨_,hinc⟩:=FH hok;have hat:=vL s.2.1 n;cases hf:eE (idP n) 0 s.2.1 with
 | none =>
  rw [if_neg]
  ·rfl
  intro hh;obtain⟨hi,e⟩:=jW hh;have h2:=qx hf (atF s.2.1 n) hi;simp [idP,e] at h2
 | some j =>
  obtain⟨_,h2,h3,_⟩:=AE hf;simp only [Nat.sub_zero] at h2 h3;have e:=of_decide_eq_true h3;have hj:CT s.2.1 n j:=⟨Nat.le_of_lt h2,fun k hk hlt=>by rw [←e];exact hinc k j h2 hlt,fun _=>by rw [e];exact Int.lt_irrefl _⟩
  have ej:=hj.uniq hat;subst ej;rw [if_pos]
  ·rfl
  ·rw [fx,dif_pos h2]
   exact decide_eq_true e
open Go Go.Proofs Go.V Go.RowKit
set_option maxRecDepth 100000
theorem qP {w w':World} {F F':Nat→Prop}:∀(l:List D) (us:List Value),(∀d∈l,d.isV=true)→bF w F l us→bF w' F' l us
 | [],_,_,h=>h
 | d::l,us,hd,h=>by
  obtain⟨v1,v2,rfl,h1,h2⟩:=aA.1 h;refine aA.2 ⟨v1,v2,rfl,?_,qP l v2 (fun e he=>hd e (by simp [he])) h2⟩
  have:=hd d (by simp);cases d with
  | v x =>
   simp only [RepC] at h1 ⊢;exact h1
  | agg m =>
   simp only [RepC] at h1 ⊢;exact⟨rj m v1 this h1.1,h1.2⟩
  | _=>simp [D.isV] at this
theorem kE {P:Program} (w:World) (base:Nat) (t ty e:TypeId) (i:TypeInfo) (size c:Nat) (ht:P.underlying t=some (.slice e)) (hi:P.info? e=some i)
  (v:Value) (n:Nat) (xs:List Value) (hown:w.ownsRow base e size v n xs) :
  (Kj #[t,t] ty #[v,.slice none 0 c]).run P w = .ok v w:=by
 rcases hown.2 with ⟨rfl,rfl⟩ | ⟨g,cap,cur,rfl,_,_,hnc,_⟩
 ·simp [Kj,run_underlying ht,sizeOf,typeInfo,hi,Kt,Ko]
 ·simp [Kj,run_underlying ht,sizeOf,typeInfo,hi,Kt,Ko,hnc,storeCells]
theorem cW {P:Program} (w:World) {ops:Array Oper} {rest:List Oper} {o:Oper} {a:Act} {Q:Exit→Act→World→Prop} (hgd:o.guard=none) (s x:Operand) (t:TypeId)
  (ho:o.op = .call {callee:=.builtin .append,args:=#[s,x],argTypes:=#[t,t]})
  (base:Nat) (e:TypeId) (i:TypeInfo) (z:Value) (size bytes:Nat) (ht:P.underlying t=some (.slice e)) (hi:P.info? e=some i) (hz:i.zero=some z)
  (hsize:i.size=size) (hby:i.bytes=bytes) (hzs:z.cells.size=size) (hsz:0<size)
  (v:Value) (n:Nat) (xs:List Value) (hs:a.eval s=v) (hown:w.ownsRow base e size v n xs)
  (A:Option Addr) (m c:Nat) (news:List Value) (hx:a.eval x = .slice A m c) (hl:news.length=m*size) (hA:m≠0→∃g o,A=some ⟨g,o,none⟩∧∀j u,news[j]?=some u→w.cell? ⟨g,o+j,none⟩=some u) (h1:∀u∈news,u.oneCell'=true)
  (h63:n+m≤maxLen) (hbytes:(n+m)*bytes≤140737488355328) (hbase:base≤w.heap.size)
  (h:∀v' w',w'.ownsRow base e size v' (n+m) (xs++news)→w.grownBy w' v.ownBlock→(v'.ownBlock=v.ownBlock∨v'.ownBlock=some w.heap.size)→wpList P ops Q rest (a.put o.dst v') w') :
  wpList P ops Q (o::rest) a w:=by
 cases A with
 | some ad =>
  refine wpList_append_own_at w hgd s x t ho base e i z size bytes ht hi hz hsize hby hzs hsz v n xs hs hown ad m c news hx hl (fun j u hj=>?_) h1 h63 hbytes hbase fun v' w' h2 h3 _ h5=>h v' w' h2 h3 h5
  have hm:m≠0:=by
   rintro rfl;have:news=[]:=JA (by simpa using hl);subst this;simp at hj
  obtain⟨g,o,e1,h2⟩:=hA hm;cases e1;rw [show(⟨g,o,none⟩:Addr).add j=⟨g,o+j,none⟩ by cases j<;>simp [Addr.add]];exact h2 j u hj
 | none =>
  have hm:m=0:=Classical.byContradiction fun hm=>by
   obtain⟨_,_,e1,_⟩:=hA hm;cases e1
  subst hm;have hnews:news=[]:=JA (by simpa using hl);subst hnews;refine wpList_plain hgd fun K hK'=>?_
  have hrun:=kE (P:=P) w base t o.type e i size c ht hi v n xs hown;unfold Oper.wp;simp [execOp,ho,resolve,invoke,builtin,hs,hx,hrun,Result.andThen];exact hK' _ _ (h v w (by simpa using hown) (World.grownBy.refl _ _) (.inl rfl))
theorem mH {w w0:World} {base:Nat} {e:TypeId} {z n:Nat} {v:Value} {us:List Value} {l:List D} {F:Nat→Prop} (h:w.ownsRow base e z v n us) (hn:l.length=n) (hw:∀d∈l,d.width=z) (hr:bF w0 F l us) (hf:∀d∈l,d.isV=true) :
  bv w (fun _=>False) (aH v) z (.arr z l) v:=by
 subst hn;refine⟨l,rfl,hw,?_⟩
 obtain⟨h1,⟨rfl,h2⟩ | ⟨g,cap,cur,rfl,h3,h4,h5,h6,h7,h8⟩⟩:=h
 ·exact .inl ⟨rfl,JA h2⟩
 ·refine .inr ⟨g,0,cap,us,cur,e,rfl,h5,h4,by omega,qP l us hf hr,fun i u hi=>?_,rfl⟩
  have hlt:i<l.length*z:=by rw [←h1];exact(JQ.1 hi).1
  rw [←h8,List.getElem?_take,if_pos hlt] at hi;rw [JR];simpa using hi
theorem mK {w:World} {base:Nat} {e:TypeId} {z n:Nat} {v:Value} {us:List Value} (h:w.ownsRow base e z v n us):∀b,aH v b→base≤b∧b<w.heap.size:=by
 intro b hb;obtain⟨_,⟨rfl,_⟩ | ⟨g,cap,cur,rfl,h3,h4,_⟩⟩:=h
 ·cases hb
 ·have hb':g=b:=JI hb
  subst hb';exact⟨h3,(Kb.1 h4).1⟩
theorem vS {w w':World} {base:Nat} {e:TypeId} {z n:Nat} {v:Value} {us:List Value} (h:w.ownsRow base e z v n us) (hk:∀b,aH v b→w'.heap[b]?=w.heap[b]?):w'.ownsRow base e z v n us:=by
 obtain⟨h1,h2 | ⟨g,cap,cur,rfl,h3,h4,h5⟩⟩:=h
 ·exact⟨h1,.inl h2⟩
 ·exact⟨h1,.inr ⟨g,cap,cur,rfl,h3,(hk g rfl).trans h4,h5⟩⟩
theorem ax {w:World} {base:Nat} {e:TypeId} {z n:Nat} {v:Value} {us:List Value} (h:w.ownsRow base e z v n us):∃A m c,v = .slice A m c:=by
 obtain⟨_,⟨rfl,_⟩ | ⟨g,cap,cur,rfl,_⟩⟩:=h
 ·exact⟨_,_,_,rfl⟩
 ·exact⟨_,_,_,rfl⟩
theorem cg {w:World} {B g:Nat} {e:TypeId} {z:Nat} (h:w.heap[g]?=some (.cells #[] e (0,0))) (hg:B≤g):w.ownsRow B e z (.slice (some ⟨g,0,none⟩) 0 0) 0 [] :=
 ⟨by simp,.inr ⟨g,0,#[],rfl,hg,h,Jp _,by unfold maxLen;omega,by simp,by simp⟩⟩
theorem qy {w w':World} {row:Option Nat} {S:Nat→Prop} (h:w.grownBy w' row) (hS:∀b,row=some b→S b):KeptX S w w' :=
 ⟨h.os,h.tape,h.output,h.size,fun b hb hs=>h.block b hb fun e=>hs (hS b e.symm)⟩
theorem lP:∀(l m:List Fm) (ys zs:List Value),ys.length=l.length→bu (l++m) (ys++zs)=bu l ys++bu m zs
 | [],_,[],_,_=>rfl
 | x::l,m,y::ys,zs,h=>by
  simp only [Kq,bu,lP l m ys zs (by simpa using h),List.append_assoc]
 | [],_,_::_,_,h=>by simp at h
 | _::_,_,[],_,h=>by simp at h
theorem cL:∀(l:List Fm) (ys:List Value),(∀y∈ys,∃A n c,y = .slice A n c)→∀u∈bu l ys,u.oneCell'=true
 | x::l,y::ys,h,u,hu=>by
  simp only [bu,er,Kq,List.nil_append,JF] at hu;rcases hu with rfl | rfl | rfl | rfl | hu
  ·rfl
  ·obtain⟨A,n,c,rfl⟩:=h u (by simp)
   rfl
  ·rfl
  ·rfl
  ·exact cL l ys (fun y hy=>h y (by simp [hy])) u hu
 | [],_,_,u,hu=>by simp [bu] at hu
 | _::_,[],_,u,hu=>by simp [bu] at hu
theorem bR {w w':World} {B:Nat} {V V':Value} {ys zs:List Value} {l m:List Fm} (h:FmsAt w B V ys l) (hB:B≤w.heap.size)
  (hown:w'.ownsRow B 75 4 V' (l.length+m.length) (bu l ys++bu m zs)) (hg:w.grownBy w' V.ownBlock) (ha:V'.ownBlock=V.ownBlock∨V'.ownBlock=some w.heap.size)
  (hlen:zs.length=m.length) (hrow:∀(i:Nat) (x:Fm) (y:Value),m[i]?=some x→zs[i]?=some y→bv w (fun _=>False) (aH y) 1 (txs x.2.1) y)
  (hblk:∀(i:Nat) (y:Value) (b:Nat),zs[i]?=some y→aH y b→B≤b∧b<w.heap.size∧¬FmS V ys b)
  (hdis:∀(i j:Nat) (y z:Value),i≠j→zs[i]?=some y→zs[j]?=some z→y.ownBlock=none∨y.ownBlock≠z.ownBlock):FmsAt w' B V' (ys++zs) (l++m):=by
 have hold:=h.lt;have get:∀{j:Nat} {y:Value},(ys++zs)[j]?=some y→(j<ys.length∧ys[j]?=some y)∨(ys.length≤j∧zs[j - ys.length]?=some y):=fun {j y} hj=>by
  by_cases e:j<ys.length
  ·rw [Kg e] at hj
   exact .inl ⟨e,hj⟩
  ·rw [Kc (by omega)] at hj
   exact .inr ⟨by omega,hj⟩
 have k1:∀{j:Nat} {y:Value},ys[j]?=some y→∀b,aH y b→w'.heap[b]?=w.heap[b]?:=fun {j y} hj b hb=>hg.block b (hold b (.inr ⟨y,JW hj,hb⟩)).2 fun e=>(h.blk j y b hj hb).2 e.symm
 have k2:∀{j:Nat} {y:Value},zs[j]?=some y→∀b,aH y b→w'.heap[b]?=w.heap[b]?:=fun {j y} hj b hb=>by
  obtain⟨_,h2,h3⟩:=hblk j y b hj hb;exact hg.block b h2 fun e=>h3 (.inl e.symm)
 refine⟨by simp [h.len,hlen],?_,fun j x y hj hyj=>?_,fun j y b hyj hb=>?_,fun i j y z hij hi hj=>?_⟩
 ·rw [JH,lP _ _ _ _ h.len]
  exact hown
 ·rcases get hyj with ⟨e,hy⟩ | ⟨e,hy⟩
  ·rw [Kg (by rw [←h.len];exact e)] at hj
   exact ba (h.row j x y hj hy) (k1 hy)
  ·rw [Kc (by rw [←h.len];exact e),←h.len] at hj
   exact ba (hrow _ x y hj hy) (k2 hy)
 ·rcases get hyj with ⟨e,hy⟩ | ⟨e,hy⟩
  ·obtain⟨h2,h3⟩:=h.blk j y b hy hb
   have h4:=(hold b (.inr ⟨y,JW hy,hb⟩)).2;refine⟨h2,fun e1=>?_⟩
   rcases ha with ha | ha
   ·exact h3 (ha.symm.trans e1)
   ·rw [ha] at e1
    have:=JI e1;omega
  ·obtain⟨h2,h3,h4⟩:=hblk _ y b hy hb
   refine⟨h2,fun e1=>?_⟩
   rcases ha with ha | ha
   ·exact h4 (.inl (ha.symm.trans e1))
   ·rw [ha] at e1
    have:=JI e1;omega
 ·have sep:∀{i j:Nat} {y z:Value},ys[i]?=some y→zs[j]?=some z→∀b,aH y b→¬aH z b:=fun {i j y z} hy hz b hb hb2=>(hblk j z b hz hb2).2.2 (.inr ⟨y,JW hy,hb⟩)
  rcases get hi with ⟨e1,hy⟩ | ⟨e1,hy⟩<;>rcases get hj with ⟨e2,hz⟩ | ⟨e2,hz⟩
  ·exact h.dis i j y z hij hy hz
  ·cases hb:y.ownBlock with
   | none=>exact .inl rfl
   | some b=>exact .inr fun e=>sep hy hz b hb e.symm
  ·cases hb:y.ownBlock with
   | none=>exact .inl rfl
   | some b=>exact .inr fun e=>sep hz hy b e.symm hb
  ·exact hdis _ _ y z (by omega) hy hz
theorem cD {w w':World} {B:Nat} {V V':Value} {ys:List Value} {l:List Fm} {x:Fm} {y:Value} (h:FmsAt w B V ys l) (hB:B≤w.heap.size)
  (hown:w'.ownsRow B 75 4 V' (l.length+1) (bu l ys++er x y)) (hg:w.grownBy w' V.ownBlock) (ha:V'.ownBlock=V.ownBlock∨V'.ownBlock=some w.heap.size)
  (hy:bv w (fun _=>False) (aH y) 1 (txs x.2.1) y) (hb:∀b,aH y b→B≤b∧¬FmS V ys b):FmsAt w' B V' (ys++[y]) (l++[x]):=by
 refine bR h hB (m:=[x]) (zs:=[y]) (by simpa [bu] using hown) hg ha rfl (fun i x' y' hx hy'=>?_) (fun i y' b hy' hb'=>?_) fun i j y' z hij hi hj=>?_
 ·match i,hx,hy' with
  | 0,hx,hy' =>
   cases hx;cases hy';exact hy
 ·match i,hy' with
  | 0,hy' =>
   cases hy';exact⟨(hb b hb').1,dc hy b hb',(hb b hb').2⟩
 ·have h1:=(JQ.1 hi).1
  have h2:=(JQ.1 hj).1;simp at h1 h2;omega
theorem cq {w:World} {g:Nat} {x0 x1 x2 x3:Value} {t:TypeId} (h:w.heap[g]?=some (.cells #[x0,x1,x2,x3] t (0,0))):∀(j:Nat) (u:Value),[x0,x1,x2,x3][j]?=some u→w.cell? ⟨g,0+j,none⟩=some u:=by
 obtain⟨h0,h1,h2,h3⟩:=aa h;intro j u hj;rw [JR]
 match j,hj with
 | 0,hj=>cases hj;exact h0
 | 1,hj=>cases hj;exact h1
 | 2,hj=>cases hj;exact h2
 | 3,hj=>cases hj;exact h3
theorem eC {w:World} {B g:Nat} (h:w.heap[g]?=some (.cells #[] 75 (0,0))) (hg:B≤g):FmsAt w B (.slice (some ⟨g,0,none⟩) 0 0) [] [] :=
 ⟨rfl,cg h hg,fun i x y hx=>by simp at hx,fun i y b hy=>by simp at hy,fun i j y z _ hi=>by simp at hi⟩
theorem oS (w:World) (B:Nat):FmsAt w B (.slice none 0 0) [] [] :=
 ⟨rfl,⟨rfl,.inl ⟨rfl,rfl⟩⟩,fun i x y hx=>by simp at hx,fun i y b hy=>by simp at hy,fun i j y z _ hi=>by simp at hi⟩
theorem nS {w:World} {F:Nat→Prop}:∀(l:List D) (us:List Value),(∀d∈l,d.single=true∨∃m,d = .agg m)→bF w F l us→∀u∈us,u.oneCell'=true
 | [],us,_,h,u,hu=>by
  rw [aP.1 h] at hu;simp at hu
 | d::l,us,hd,h,u,hu=>by
  obtain⟨v1,v2,rfl,h1,h2⟩:=aA.1 h;rcases Ki.1 hu with hu | hu
  ·rcases hd d (by simp) with hs | ⟨m,rfl⟩
   ·obtain⟨y,rfl,_,h3⟩:=ju d v1 hs h1
    rw [List.mem_singleton.1 hu];exact h3
   ·simp only [RepC] at h1
    exact((cz m v1 h1.2 h1.1).2.1 u hu).1
  ·exact nS l v2 (fun e he=>hd e (by simp [he])) h2 u hu
theorem mz {w:World} {F:Nat→Prop} {z:Nat} {l:List D} {A:Option Addr} {n c:Nat} (h:aU w F (.arr z l) (.slice A n c)) (hk:∀d∈l,d.single=true∨∃m,d = .agg m) :
  ∃us,n=l.length∧us.length=n*z∧bF w F l us∧(∀d∈l,d.width=z)∧(∀u∈us,u.oneCell'=true)∧(n≠0→∃g o,A=some ⟨g,o,none⟩∧F g∧∀(j:Nat) (u:Value),us[j]?=some u→w.cell? ⟨g,o+j,none⟩=some u):=by
 obtain⟨A',c',us,e,hc,hr,hw,hA⟩:=h;simp only [List.cons.injEq,and_true,Value.slice.injEq] at e;obtain⟨rfl,rfl,rfl⟩:=e;refine⟨us,rfl,dg l us hr hw,hr,hw,nS l us hk hr,fun h0=>?_⟩
 obtain⟨b,o,e,hF,hcell⟩:=hA (fun e=>h0 (by rw [e];rfl));exact⟨b,o,e,hF,fun j u hj=>hcell j u hj⟩
def nj (w:World) (B:Nat) (v:Value) (s:Sp):Prop:=∃Vb Vf ys,ShopAt w B v Vb Vf ys s
def Jg (w:World) (B:Nat) (V:Value) (l:List Fm):Prop:=∃ys,FmsAt w B V ys l
set_option maxRecDepth 100000
def Hid (p:Prop):Prop:=p
theorem Hid.out {p:Prop} (h:Hid p):p:=h
theorem aF {w':World} {g:Nat} {y0 y1 y2 y3:Value} {t:TypeId} (x0 x1 x2 x3:Value) (h:w'.heap[g]?=some (.cells #[y0,y1,y2,y3] t (0,0))):((((w'.setCell ⟨g,0,none⟩ x0).setCell ⟨g,1,none⟩ x1).setCell ⟨g,2,none⟩ x2).setCell ⟨g,3,none⟩ x3).heap[g]?=some (.cells #[x0,x1,x2,x3] t (0,0)):=by
 rw [heap_setCell_same _ _ _ _ _ _ (heap_setCell_same _ _ _ _ _ _ (heap_setCell_same _ _ _ _ _ _ (heap_setCell_same _ _ _ _ _ _ h)))];rfl
theorem im {w':World} {b g:Nat} (x0 x1 x2 x3:Value) (hg:g≠b):((((w'.setCell ⟨g,0,none⟩ x0).setCell ⟨g,1,none⟩ x1).setCell ⟨g,2,none⟩ x2).setCell ⟨g,3,none⟩ x3).heap[b]?=w'.heap[b]?:=by
 rw [heap_setCell_other _ _ _ _ (by simp;omega),heap_setCell_other _ _ _ _ (by simp;omega),heap_setCell_other _ _ _ _ (by simp;omega),heap_setCell_other _ _ _ _ (by simp;omega)]
theorem bt {w w':World} {B g:Nat} (x0 x1 x2 x3:Value) (h:Below B w w') (hg:B≤g):Below B w ((((w'.setCell ⟨g,0,none⟩ x0).setCell ⟨g,1,none⟩ x1).setCell ⟨g,2,none⟩ x2).setCell ⟨g,3,none⟩ x3) :=
 (((h.setCell hg _).setCell hg _).setCell hg _).setCell hg _
theorem ShopAt.set4 {w':World} {B g:Nat} {v Vb Vf:Value} {ys:List Value} {s:Sp} (x0 x1 x2 x3:Value) (h:ShopAt w' B v Vb Vf ys s) (hg:∀b,ShS Vb Vf ys b→g≠b):ShopAt ((((w'.setCell ⟨g,0,none⟩ x0).setCell ⟨g,1,none⟩ x1).setCell ⟨g,2,none⟩ x2).setCell ⟨g,3,none⟩ x3) B v Vb Vf ys s :=
 h.keep fun b hb=>im _ _ _ _ (hg b hb)
theorem aI {w:World} {b:Nat} {cs:Array Value} {t:TypeId} (h:w.heap[b]?=some (.cells cs t (0,0))):w.frozen? ⟨b,0,none⟩=false∧w.frozen? ⟨b,1,none⟩=false∧w.frozen? ⟨b,2,none⟩=false∧w.frozen? ⟨b,3,none⟩=false :=
 ⟨Jn h 0,Jn h 1,Jn h 2,Jn h 3⟩
theorem zO:(Try.prog.info? 112).map (fun i=>(i.zero,i.size,i.bytes))=some (some (.agg #[.string ⟨#[]⟩,.int .i64 0,.int .i64 0,.int .i64 0]),4,40):=by kernel_rfl
theorem xF:(Try.prog.info? 9).map (fun i=>(i.zero,i.size,i.bytes))=some (some (.string ⟨#[]⟩),1,16):=by kernel_rfl
theorem Cv {l:List Bx}:∀d∈l.map bx,d.single=true∨∃m,d = .agg m:=fun d hd=>by
 obtain⟨x,_,rfl⟩:=JL.1 hd;exact .inr ⟨_,rfl⟩
theorem Ek {l:List Bx}:∀d∈l.map bx,d.isV=true:=fun d hd=>by
 obtain⟨x,_,rfl⟩:=JL.1 hd;rfl
theorem GG {l:List ByteArray}:∀d∈l.map T,d.single=true∨∃m,d = .agg m:=fun d hd=>by
 obtain⟨x,_,rfl⟩:=JL.1 hd;exact .inl rfl
theorem BT {l:List ByteArray}:∀d∈l.map T,d.isV=true:=fun d hd=>by
 obtain⟨x,_,rfl⟩:=JL.1 hd;rfl
theorem Cr {l:List Fm}:∀d∈l.map fm,d.single=true∨∃m,d = .agg m:=fun d hd=>by
 obtain⟨x,_,rfl⟩:=JL.1 hd;exact .inr ⟨_,rfl⟩
set_option maxHeartbeats 4000000 in
set_option maxRecDepth 1000000 in
theorem nH (s:Sp) (hs:bH s) (v0:Value) (w:World) (F:Nat→Prop) (hr:aU w F (sp s) v0) (hF:∀b,F b→b<w.heap.size) :
  Calls Try.prog 50 #[v0] w fun e w'=>∃v,e = .returned v∧nj w' w.heap.size v s∧Below w.heap.size w w':=by
 obtain⟨A,n,c,A',n',c',rfl,hb,hf⟩:=fK hr;obtain⟨i0,hi0,hz0,hz1,hz2⟩:=info_parts zO;obtain⟨us,hn,hul,hus,huw,hu1,huA⟩:=mz hb Cv;obtain⟨us2,hn2,hul2,hus2,_,_,huA2⟩:=mz hf Cr;rw [Jl] at hn hn2;subst hn hn2;have hbl:=hs.1.1
 go_enter Try.func50,Try.ntmps50
 have hb3:∀a b c,Below w.heap.size w (((w.alloc a).alloc b).alloc c):=fun a b c=>(((Kr _ w).alloc (Jp _) _).alloc (by simp) _).alloc (by simp;omega) _
 have hA3:∀a b c,(s.1.length≠0→∃g o,A=some ⟨g,o,none⟩∧∀(j:Nat) (u:Value),us[j]?=some u→(((w.alloc a).alloc b).alloc c).cell? ⟨g,o+j,none⟩=some u):=fun a b c h0=>by
  obtain⟨g,o,e,hFg,h1⟩:=huA h0;exact⟨g,o,e,fun j u hj=>(JX (w:=w) ((hb3 a b c).block g (hF g hFg))).trans (h1 j u hj)⟩
 go_wp2_with (at_builtin;refine cW _ rfl _ _ 30 rfl (w.heap.size+2) 112 i0 (.agg #[.string ⟨#[]⟩,.int .i64 0,.int .i64 0,.int .i64 0]) 4 40 Try.underlying30 hi0 hz0 hz1 hz2 rfl (by decide) (.slice (some ⟨w.heap.size+1+1,0,none⟩) 0 0) 0 [] rfl (cg (ae _ (by simp)) (by omega)) A s.1.length c us (by simp [go_sem]) hul (hA3 _ _ _) hu1 (by unfold maxLen;omega) (by omega) (by simp) ?_)
 intro v1 w4 hown1 hg1 hat1;have own1:bv w4 (fun _=>False) (aH v1) 4 (bxs s.1) v1:=mH hown1 (by simp) huw hus Ek;have hv1:=mK hown1;obtain⟨A1,n1,c1,rfl⟩:=ax hown1;have H1:w4.heap[w.heap.size]?=some (.cells #[.slice A s.1.length c,.slice A' s.2.1.length c',.int .i64 s.2.2.1,.int .i64 s.2.2.2] 33 (0,0)):=(hg1.block _ (by simp;omega) (by simp [Kl];omega)).trans (ah _ (ah _ (ae _ rfl)));have H2:w4.heap[w.heap.size+1]?=some (.cells #[.slice none 0 0,.slice none 0 0,.int .i64 0,.int .i64 0] 33 (0,0)):=(hg1.block _ (by simp) (by simp [Kl])).trans (ah _ (ae _ (by simp)));have B4:Below w.heap.size w w4:=(hb3 _ _ _).grown hg1 (by simp;omega) (fun k hk=>by have:w.heap.size+1+1=k:=JI hk;omega);have S4:w.heap.size+1+1<w4.heap.size:=by have:=hg1.size;simp at this;omega
 have f10:=Jn H1 0;have c10:=Lib.cell_of_heap H1 0;simp only [List.getElem?_toArray,List.getElem?_cons_zero,List.getElem?_cons_succ] at c10;have H1':=ah (.cells #[] 75) (heap_setCell_same _ _ 0 _ _ (.slice A1 n1 c1) H1);have H2':=ah (.cells #[] 75) ((heap_setCell_other w4 ⟨w.heap.size,0,none⟩ (w.heap.size+1) (.slice A1 n1 c1) (by simp)).trans H2);simp only [List.setIfInBounds_toArray,List.set_cons_zero] at H1';have own5:=ba (w':=(w4.setCell ⟨w.heap.size,0,none⟩ (.slice A1 n1 c1)).alloc (.cells #[] 75)) own1 fun b hb=>by
  have:=hv1 b hb;rw [gX _ (by simp [Jz];omega),heap_setCell_other _ _ _ _ (by simp;omega)]
 have B5:Below w.heap.size w ((w4.setCell ⟨w.heap.size,0,none⟩ (.slice A1 n1 c1)).alloc (.cells #[] 75)):=(B4.setCell (by simp) _).alloc (by simp [Jz];omega) _;have S5:((w4.setCell ⟨w.heap.size,0,none⟩ (.slice A1 n1 c1)).alloc (.cells #[] 75)).heap.size=w4.heap.size+1:=by simp [Jz]
 have HF:FmsAt ((w4.setCell ⟨w.heap.size,0,none⟩ (.slice A1 n1 c1)).alloc (.cells #[] 75)) w4.heap.size (.slice (some ⟨w4.heap.size,0,none⟩) 0 0) [] []:=eC (ae _ (by simp [Jz])) (Jp _);have c11:=(aa H1').2.1
 go_wp2
 generalize (w4.setCell ⟨w.heap.size,0,none⟩ (.slice A1 n1 c1)).alloc (.cells #[] 75)=w5 at *;clear H1 H2 f10 c10 hg1 hat1 hown1 own1 B4 hA3 huA hus hul hu1 huw hb hb3;obtain⟨i1,hi1,hy0,hy1,hy2⟩:=info_parts xF;obtain⟨i2,hi2,hx0,hx1,hx2⟩:=info_parts fE;have hln:=hs.2.1
 go_loopw [3,15] (fun vf vi wr=>∃i:Nat,vi = .int .i64 i∧i≤s.2.1.length∧Jg wr w4.heap.size vf (s.2.1.take i)∧Below w4.heap.size w5 wr) (fun _ vi _=>s.2.1.length - (intOf vi).toNat)
 case atStart =>
  exact⟨0,rfl,JJ _,⟨[],by simpa using HF⟩,Kr _ _⟩
 case round =>
  obtain⟨i,rfl,hin,⟨ys,hFr⟩,hBr⟩:=hrel;have hsz:=hBr.size;by_cases hp:i<s.2.1.length
  ·have hpi:(i:Int)<(s.2.1.length:Int):=by omega
   have hBw:Below w.heap.size w wr:=B5.trans (hBr.mono (by omega));obtain⟨b,o,rfl,hFb,hcell⟩:=huA2 (by omega);obtain⟨Ax,nx,cx,u0,u1,u2,u3,hry⟩:=Av hus2 hp;have hcb:∀{k:Nat} {u:Value},us2[k]?=some u→wr.cell? ⟨b,o+k,none⟩=some u:=fun {k u} hu=>(JX (w:=w) (hBw.block b (hF b hFb))).trans (hcell k u hu)
   have k0:=hcb u0;have k1:=hcb u1;have k2:=hcb u2;have k3:=hcb u3;simp only [←Nat.add_assoc] at k1 k2 k3;have hxl:=hs.2.2 s.2.1[i] (Jm hp);have htk:=Jv hp;generalize s.2.1[i]=x at *;obtain⟨ux,hnx,hxl2,hux,hxw,hx1c,hxA⟩:=mz hry GG;rw [Jl] at hnx;subst hnx;have hxA':∀p q,(x.2.1.length≠0→∃g o,Ax=some ⟨g,o,none⟩∧∀(j:Nat) (u:Value),ux[j]?=some u→((wr.alloc p).alloc q).cell? ⟨g,o+j,none⟩=some u):=fun p q h0=>by
    obtain⟨g,o,e,hFg,h1⟩:=hxA h0;exact⟨g,o,e,fun j u hj=>(JX (w:=w) (((hBw.alloc (by omega) _).alloc (by simp;omega) _).block g (hF g hFg))).trans (h1 j u hj)⟩
   obtain⟨Vg,Vn,Vc,rfl⟩:=ax hFr.own
   go_wp2_with (at_builtin;refine cW _ rfl _ _ 73 rfl (wr.heap.size+1) 9 i1 (.string ⟨#[]⟩) 1 16 Try.underlying73 hi1 hy0 hy1 hy2 rfl (by decide) (.slice (some ⟨wr.heap.size+1,0,none⟩) 0 0) 0 [] rfl (cg (ae _ (by simp)) (by omega)) Ax x.2.1.length cx ux (by simp [go_sem]) hxl2 (hxA' _ _) hx1c (by unfold maxLen;omega) (by omega) (by simp) ?_)
   intro v2 w6 hown2 hg2 hat2;have own2:bv w6 (fun _=>False) (aH v2) 1 (txs x.2.1) v2:=mH hown2 (by simp) hxw hux BT;have hv2:=mK hown2;obtain⟨A2,n2,c2,rfl⟩:=ax hown2;have G1:w6.heap[wr.heap.size]?=some (.cells #[.int .i64 x.1,.slice Ax x.2.1.length cx,.bool x.2.2.1,.int .i64 x.2.2.2] 75 (0,0)):=(hg2.block _ (by simp;omega) (by simp [Kl])).trans (ah _ (ae _ rfl));have b6:Below wr.heap.size wr w6:=(((Kr _ wr).alloc (Jp _) _).alloc (by simp) _).grown hg2 (by simp;omega) (fun k hk=>by have:wr.heap.size+1=k:=JI hk;omega);have S6:wr.heap.size+1<w6.heap.size:=by have:=hg2.size;simp at this;omega
   have fg1:=Jn G1 1;have cg1:=(aa G1).2.1;have G2:(w6.setCell ⟨wr.heap.size,1,none⟩ (.slice A2 n2 c2)).heap[wr.heap.size]?=some (.cells #[.int .i64 x.1,.slice A2 n2 c2,.bool x.2.2.1,.int .i64 x.2.2.2] 75 (0,0)):=heap_setCell_same _ _ 1 _ _ (.slice A2 n2 c2) G1;obtain⟨e0,e1,e2,e3⟩:=aa G2;have b8:Below wr.heap.size wr ((w6.setCell ⟨wr.heap.size,1,none⟩ (.slice A2 n2 c2)).alloc (.cells #[.int .i64 x.1,.slice A2 n2 c2,.bool x.2.2.1,.int .i64 x.2.2.2] 75)):=(b6.setCell (Jp _) _).alloc (by simp [Jz];omega) _;have hFlt:=hFr.lt;have hF8:=hFr.keep (w':=(w6.setCell ⟨wr.heap.size,1,none⟩ (.slice A2 n2 c2)).alloc (.cells #[.int .i64 x.1,.slice A2 n2 c2,.bool x.2.2.1,.int .i64 x.2.2.2] 75)) fun b hb=>b8.block b (hFlt b hb).2
   have own8:=ba (w':=(w6.setCell ⟨wr.heap.size,1,none⟩ (.slice A2 n2 c2)).alloc (.cells #[.int .i64 x.1,.slice A2 n2 c2,.bool x.2.2.1,.int .i64 x.2.2.2] 75)) own2 fun b hb=>by
    have:=hv2 b hb;rw [gX _ (by simp [Jz];omega),heap_setCell_other _ _ _ _ (by simp;omega)]
   have hl8:(s.2.1.take i).length=i:=by rw [JN];omega
   have S8:w4.heap.size≤((w6.setCell ⟨wr.heap.size,1,none⟩ (.slice A2 n2 c2)).alloc (.cells #[.int .i64 x.1,.slice A2 n2 c2,.bool x.2.2.1,.int .i64 x.2.2.2] 75)).heap.size:=by simp [Jz];omega
   go_wp2_with (at_builtin;refine cW _ rfl _ _ 31 rfl w4.heap.size 75 i2 (.agg #[.int .i64 0,.slice none 0 0,.bool false,.int .i64 0]) 4 48 Try.underlying31 hi2 hx0 hx1 hx2 rfl (by decide) (.slice Vg Vn Vc) _ _ rfl hF8.own (some ⟨w6.heap.size,0,none⟩) 1 1 [.int .i64 x.1,.slice A2 n2 c2,.bool x.2.2.1,.int .i64 x.2.2.2] (by simp [go_sem]) rfl (fun _=>⟨_,_,rfl,cq (ae _ (by simp [Jz]))⟩) (by intro u hu;simp at hu;rcases hu with rfl | rfl | rfl | rfl<;>rfl) (by unfold maxLen;omega) (by omega) S8 ?_)
   intro v3 w9 hown9 hg9 hat9;have hF9:=cD (x:=x) (y:=.slice A2 n2 c2) hF8 S8 (by rw [hl8];exact hown9) hg9 (by simpa [Jz] using hat9) own8 (fun b hb=>⟨by have:=(hv2 b hb).1;omega,fun h=>by have:=(hv2 b hb).1;have:=(hFlt b h).2;omega⟩);rw [←htk] at hF9;have hB9:Below w4.heap.size w5 w9:=(hBr.trans (b8.mono (by omega))).grown hg9 S8 (fun k hk=>(hFlt k (.inl hk)).1)
   go_wp2
   refine⟨⟨i+1,congrArg (JM .i64) (by omega),by omega,⟨_,hF9⟩,hB9⟩,?_⟩
   show s.2.1.length - ((i:Int)+1).toNat<s.2.1.length - (i:Int).toNat
   omega
  ·have hpi:¬(i:Int)<(s.2.1.length:Int):=by omega
   have hie:i=s.2.1.length:=by omega
   subst hie;rw [Kh] at hFr;have hFlt:=hFr.lt;obtain⟨Vg,Vn,Vc,rfl⟩:=ax hFr.own;have hBw:Below w.heap.size w wr:=B5.trans (hBr.mono (by omega));have K1:=(hBr.block _ (by omega)).trans H1';have K2:=(hBr.block _ (by omega)).trans H2';have own9:=ba (w':=wr) own5 fun b hb=>hBr.block b (hv1 b hb).2
   have f1:=Jn K1 1;have ck1:=(aa K1).2.1;have K3:(wr.setCell ⟨w.heap.size,1,none⟩ (.slice Vg Vn Vc)).heap[w.heap.size]?=some (.cells #[.slice A1 n1 c1,.slice Vg Vn Vc,.int .i64 s.2.2.1,.int .i64 s.2.2.2] 33 (0,0)):=heap_setCell_same _ _ 1 _ _ (.slice Vg Vn Vc) K1;have K4:(wr.setCell ⟨w.heap.size,1,none⟩ (.slice Vg Vn Vc)).heap[w.heap.size+1]?=some (.cells #[.slice none 0 0,.slice none 0 0,.int .i64 0,.int .i64 0] 33 (0,0)):=(heap_setCell_other _ _ _ _ (by simp)).trans K2;obtain⟨d0,d1,d2,d3⟩:=aa K3;obtain⟨e0,e1,e2,e3⟩:=aa K4;have g0:=Jn K4 0;have g1:=Jn K4 1;have g2:=Jn K4 2;have g3:=Jn K4 3;have hS:ShopAt wr w.heap.size (.agg #[.slice A1 n1 c1,.slice Vg Vn Vc,.int .i64 s.2.2.1,.int .i64 s.2.2.2]) (.slice A1 n1 c1) (.slice Vg Vn Vc) ys s :=
    ⟨rfl,own9,fun b hb=>by have:=(hv1 b hb).1;omega,hFr.base (by omega),fun b hb h=>by have:=(hv1 b hb).2;have:=(hFlt b h).1;omega⟩
   have hL:∀b,ShS (.slice A1 n1 c1) (.slice Vg Vn Vc) ys b→w.heap.size+1<b:=fun b hb=>by
    rcases hb with hb | hb
    ·have:=(hv1 b hb).1
     omega
    ·have:=(hFlt b hb).1
     omega
   have hS1:=hS.keep (w':=wr.setCell ⟨w.heap.size,1,none⟩ (.slice Vg Vn Vc)) fun b hb=>heap_setCell_other _ _ _ _ (by have:=hL b hb;simp;omega)
   have hB1:Below w.heap.size w (wr.setCell ⟨w.heap.size,1,none⟩ (.slice Vg Vn Vc)):=hBw.setCell (by simp) _
   go_wp2
   generalize wr.setCell ⟨w.heap.size,1,none⟩ (.slice Vg Vn Vc)=W7 at *;have H11:((((W7.setCell ⟨w.heap.size+1,0,none⟩ (.slice A1 n1 c1)).setCell ⟨w.heap.size+1,1,none⟩ (.slice Vg Vn Vc)).setCell ⟨w.heap.size+1,2,none⟩ (.int .i64 s.2.2.1)).setCell ⟨w.heap.size+1,3,none⟩ (.int .i64 s.2.2.2)).heap[w.heap.size+1]?=some (.cells #[.slice A1 n1 c1,.slice Vg Vn Vc,.int .i64 s.2.2.1,.int .i64 s.2.2.2] 33 (0,0)):=by
    rw [heap_setCell_same _ _ _ _ _ _ (heap_setCell_same _ _ _ _ _ _ (heap_setCell_same _ _ _ _ _ _ (heap_setCell_same _ _ _ _ _ _ K4)))];rfl
   obtain⟨d0,d1,d2,d3⟩:=aa H11;refine bodyPost_ret (by simp [results,Try.results50,go_sem,d0,d1,d2,d3];try rfl) rfl ?_
   refine⟨_,rfl,⟨_,_,ys,hS1.keep fun b hb=>?_⟩,(((hB1.setCell (by simp) _).setCell (by simp) _).setCell (by simp) _).setCell (by simp) _⟩
   have:=hL b hb;rw [heap_setCell_other _ _ _ _ (by simp;omega),heap_setCell_other _ _ _ _ (by simp;omega),heap_setCell_other _ _ _ _ (by simp;omega),heap_setCell_other _ _ _ _ (by simp;omega)]
set_option maxRecDepth 100000
def Di (w:World) (z:Nat) (d:D) (b:Value) (e:Ending) (w':World):Prop:=∃A n c,e = .returned (.tuple #[.slice A n c,b])∧bv w' (fun _=>False) (aH (.slice A n c)) z d (.slice A n c)∧(∀b,aH (.slice A n c) b→w.heap.size≤b∧b<w'.heap.size)∧Below w.heap.size w w'
theorem kz {f:Nat} {z:Nat} {pm:List Kd} {ff:List D→Option Out} {ds:List D} {d:D} {b:Value} {args:Array Value} (he:∀args w,(callFunc f args).run Try.prog w = .ok (.enter f args) w) (hm:aM gl0 Try.prog f {pm:=pm,rm:=[.own z 0 false,.dat 0],f:=ff}) (hd:ff ds=some (.ret [d,.v b] [])) (hbad:d ≠ .bad) {w:World} {F:Nat→Prop}
  (ha:dA w F (fun _=>none) 0 pm ds args.toList) (hF:∀b,F b→b<w.heap.size) :
  Calls Try.prog f args w (Di w z d b):=by
 refine(eV (ow:=fun _=>none) (F:=F) (ds:=ds) (rs:=[d,.v b]) (us:=[]) (args:=args) he hm hd jR ha (fun b hb=>⟨hF b hb,rfl⟩) (fun b i h=>by cases h)).mono ?_
 rintro e w' ⟨v,rfl,F',R,vs,rfl,hp⟩;have hl:=hp.len;obtain⟨u,u2,rfl⟩:=Ci (hl.trans rfl);have h0:=hp.res 0;have h1:=hp.res 1;rcases h0 with h0 | h0
 ·exact absurd h0 hbad
 rcases h1 with h1 | h1
 ·cases h1
 obtain⟨hu2,_⟩:=eG.1 h1;have hu2':u2=b:=hu2;subst hu2';obtain⟨m,e1,h2,h3⟩:=h0;have hB:Below w.heap.size w w':=⟨hp.os,hp.tape,hp.output,hp.size,fun b hb=>hp.keep b hb rfl⟩
 rcases h3 with ⟨h3,h30⟩ | ⟨g,o,c,us,cs,e,h4,h5,h6,h7,h8,h9,_,h11⟩
 ·have h3':u = .slice none 0 0:=h3
  subst h3';exact⟨_,_,_,rfl,⟨m,e1,h2,.inl ⟨rfl,h30⟩⟩,(fun b hb=>by cases hb),hB⟩
 ·have h4':u = .slice (some ⟨g,o,none⟩) m.length c:=h4
  subst h4';refine⟨_,_,_,rfl,⟨m,e1,h2,.inr ⟨g,o,c,us,cs,e,rfl,h5,h6,h7,bm (fun b hb=>hb.elim) (fun b hb=>hb.elim) _ _ h8,h9,rfl⟩⟩,fun b hb=>?_,hB⟩
  have hb':g=b:=JI hb;subst hb';exact⟨h11,(Kb.1 h6).1⟩
def mvd (l:List Bx) (cs:List ByteArray) (by_:Int):List Bx:=if bg (bj (aL l) by_ l cs)=true then bj (aL l) by_ l cs else []
theorem Ew (l:List Bx) (cs:List ByteArray) (by_:Int):(if bg (bj (aL l) by_ l cs)=true then bxs (bj (aL l) by_ l cs) else .arr 4 [])=bxs (mvd l cs by_):=by
 unfold mvd;split<;>rfl
theorem tZ (l:List Bx) (codes:List ByteArray) (h:qB l) (hl:codes.length≤60) (hg:bg l=true) (hc:∀c∈codes,∃k:Nat,fC (aL l) c=k∧k<l.length) :
  jD [bxs l,txs codes]=some (.ret [if bg (bj (aL l) 1 l codes)=true then bxs (bj (aL l) 1 l codes) else .arr 4 [],B (bg (bj (aL l) 1 l codes))] []):=by
 rw [tY];have e:=nQ l codes 1 h hl hg hc;cases hq:bg (bj (aL l) 1 l codes)<;>rw [hq] at e<;>simp -implicitDefEqProofs at e<;>simp -implicitDefEqProofs [e]
theorem wH (l:List Bx) (codes:List ByteArray) (h:qB l) (hl:codes.length≤60) (hg:bg l=true) (hc:∀c∈codes,∃k:Nat,fC (aL l) c=k∧k<l.length) {w:World} {F F':Nat→Prop} {y y':Value} (hr:aU w F (bxs l) y) (hF:∀b,F b→b<w.heap.size) (hr':aU w F' (txs codes) y') (hF':∀b,F' b→b<w.heap.size) :
  Calls Try.prog 51 #[y,y'] w (Di w 4 (bxs (mvd l codes 1)) (.bool (bg (bj (aL l) 1 l codes)))) :=
 kz (ds:=[bxs l,txs codes]) (F:=fun b=>F b∨F' b) (JG Try.func51 (by kernel_rfl) rfl) tR (by rw [←Ew];exact tZ l codes h hl hg hc) (by simp)
  (show eo w (fun b=>F b∨F' b) _ (.dat 2) (bxs l) y∧eo w _ _ (.dat 2) (txs codes) y'∧True from⟨.inr (aS (fun _ h=>.inl h) (fun _ _=>rfl) hr),.inr (aS (fun _ h=>.inr h) (fun _ _=>rfl) hr'),trivial⟩) (fun b hb=>hb.elim (hF b) (hF' b))
theorem wq (l:List Bx) (codes:List ByteArray) (h:qB l) (hl:codes.length≤60) (hg:bg l=true) (hc:∀c∈codes,∃k:Nat,fC (aL l) c=k∧k<l.length) {w:World} {F F':Nat→Prop} {y y':Value} (hr:aU w F (bxs l) y) (hF:∀b,F b→b<w.heap.size) (hr':aU w F' (txs codes) y') (hF':∀b,F' b→b<w.heap.size) :
  Calls Try.prog 73 #[y,y'] w (Di w 4 (bxs (mvd l codes (-1))) (.bool (bg (bj (aL l) (-1) l codes)))) :=
 kz (ds:=[bxs l,txs codes]) (F:=fun b=>F b∨F' b) (JG Try.func73 (by kernel_rfl) rfl) mr (by rw [←Ew];exact lT l codes h hl hg hc) (by simp)
  (show eo w (fun b=>F b∨F' b) _ (.dat 2) (bxs l) y∧eo w _ _ (.dat 2) (txs codes) y'∧True from⟨.inr (aS (fun _ h=>.inl h) (fun _ _=>rfl) hr),.inr (aS (fun _ h=>.inr h) (fun _ _=>rfl) hr'),trivial⟩) (fun b hb=>hb.elim (hF b) (hF' b))
theorem tA (l:List Bx) (codes:List ByteArray) (by_:Int) (h:qB l) (hl:codes.length≤1048576) (hc:∀c∈codes,∃k:Nat,fC (aL l) c=k∧k<l.length) {w:World} {F F':Nat→Prop} {y y':Value} (hr:aU w F (bxs l) y) (hF:∀b,F b→b<w.heap.size) (hr':aU w F' (txs codes) y') (hF':∀b,F' b→b<w.heap.size) :
  Calls Try.prog 49 #[y,y',.int .i64 by_] w (Di w 4 (bxs (mvd l codes by_)) (.bool (bg (bj (aL l) by_ l codes)))) :=
 kz (ds:=[bxs l,txs codes,I by_]) (F:=fun b=>F b∨F' b) (JG Try.func49 (by kernel_rfl) rfl) pR (by rw [←Ew];exact ql l codes by_ h hl hc) (by simp)
  (show eo w (fun b=>F b∨F' b) _ (.dat 2) (bxs l) y∧eo w _ _ (.dat 2) (txs codes) y'∧eo w _ _ (.dat 0) (I by_) (.int .i64 by_)∧True from⟨.inr (aS (fun _ h=>.inl h) (fun _ _=>rfl) hr),.inr (aS (fun _ h=>.inr h) (fun _ _=>rfl) hr'),.inr (eG.2 ⟨rfl,rfl⟩),trivial⟩) (fun b hb=>hb.elim (hF b) (hF' b))
theorem vC {f:Nat} {ff:List D→Option Out} {a:D} {b:Value} (he:∀args w,(callFunc f args).run Try.prog w = .ok (.enter f args) w) (hm:aM gl0 Try.prog f {pm:=[.dat 2],rm:=[.dat 0],f:=ff}) (hd:ff [a]=some (.ret [.v b] [])) {w:World} {F:Nat→Prop} {y:Value} (hr:aU w F a y) (hF:∀b,F b→b<w.heap.size) :
  Calls Try.prog f #[y] w fun e w'=>e = .returned b∧Below w.heap.size w w' :=
 kZ he hm ff rfl hd rfl jR (show eo w F _ (.dat 2) a y∧True from⟨.inr hr,trivial⟩) hF
theorem nu (s:Sp) (h:bH s) {w:World} {F:Nat→Prop} {y:Value} (hr:aU w F (sp s) y) (hF:∀b,F b→b<w.heap.size) :
  Calls Try.prog 41 #[y] w fun e w'=>e = .returned (.bool (aD s))∧Below w.heap.size w w' :=
 vC (JG Try.func41 (by kernel_rfl) rfl) lD (jb s h) hr hF
theorem nY (s:Sp) (h:bH s) {w:World} {F:Nat→Prop} {y:Value} (hr:aU w F (sp s) y) (hF:∀b,F b→b<w.heap.size) :
  Calls Try.prog 34 #[y] w fun e w'=>e = .returned (.bool (aD s))∧Below w.heap.size w w' :=
 vC (JG Try.func34 (by kernel_rfl) rfl) iW (fh s h) hr hF
theorem yN {l:List Bx} {x:Fm} (h:fY l x=true):∀c∈x.2.1,∃k:Nat,fC (aL l) c=k∧k<l.length:=by
 intro c hc;unfold fY at h;simp only [Jk] at h;have h1:=h.2;unfold ky at h1;obtain⟨j,hj,rfl⟩:=List.mem_iff_getElem.1 hc;have h2:=uj h1 j hj;simp only [JK,decide_eq_false_iff_not,zL] at h2;rcases Eg (cs:=aL l) (c:=x.2.1[j]) with ⟨e,_⟩ | ⟨k,hk,e1,_⟩
 ·rw [e] at h2
  omega
 ·exact⟨k,e1,by simpa using hk⟩
def mvs (l:List Bx) (fs:List Fm):List Bx:=fs.foldl (fun m f=>bj (aL m) 1 m f.2.1) l
theorem dM (w:World) (B:Nat):nj w B (.agg #[.slice none 0 0,.slice none 0 0,.int .i64 0,.int .i64 0]) ([],[],0,0) :=
 ⟨_,_,[],rfl,fw _ _ _ _,(fun b hb=>by cases hb),oS _ _,(fun b hb=>by cases hb)⟩
set_option maxRecDepth 100000
abbrev Stp:=Int × Int × ByteArray × Int
abbrev stp (x:Stp):D:=.agg [I x.1,I x.2.1,T x.2.2.1,I x.2.2.2]
def dm (x:Stp):Bool:=decide (1≤x.2.1∧x.2.1≤99)&&(if x.1=1 then cZ x.2.2.1 1 16&&decide (x.2.2.2=0) else if x.1=3 then decide (x.2.2.1=⟨⟨[]⟩⟩)&&decide (1≤x.2.2.2∧x.2.2.2≤1000)
 else if x.1=2∨x.1=4∨x.1=5∨x.1=6 then decide (x.2.2.1=⟨⟨[]⟩⟩)&&decide (x.2.2.2=0) else false)
theorem sH (x:Stp) (h:x.2.2.1.size≤9223372036854775807):fu [stp x]=some (.ret [B (dm x)] []):=by
 rw [rp];obtain⟨k,i,w,n⟩:=x;have hw:=qi w h;simp only [dm];by_cases hi:1≤i∧i≤99
 rotate_left
 ·simp -implicitDefEqProofs [aX,hi]
 by_cases h1:k=1
 ·subst h1
  cases hl:cZ w 1 16<;>simp -implicitDefEqProofs [aX,hi,hw,hl]
 by_cases h3:k=3
 ·subst h3
  by_cases hz:w=⟨⟨[]⟩⟩<;>simp -implicitDefEqProofs [aX,bV,hi,hz]
 by_cases h2:k=2
 ·subst h2
  by_cases hz:w=⟨⟨[]⟩⟩<;>simp -implicitDefEqProofs [aX,hi,hz]
 by_cases h4:k=4
 ·subst h4
  by_cases hz:w=⟨⟨[]⟩⟩<;>simp -implicitDefEqProofs [aX,hi,hz]
 by_cases h5:k=5
 ·subst h5
  by_cases hz:w=⟨⟨[]⟩⟩<;>simp -implicitDefEqProofs [aX,hi,hz]
 by_cases h6:k=6
 ·subst h6
  by_cases hz:w=⟨⟨[]⟩⟩<;>simp -implicitDefEqProofs [aX,hi,hz]
 simp -implicitDefEqProofs [aX,hi,h1,h2,h3,h4,h5,h6]
theorem wP (x:Stp) (h:x.2.2.1.size≤9223372036854775807):jc [stp x]=some (.ret [B (dm x)] []):=by
 rw [wL];obtain⟨k,i,w,n⟩:=x;have hw:=pT w h;simp only [dm];by_cases hi:1≤i∧i≤99
 rotate_left
 ·simp -implicitDefEqProofs [bG,hi]
 by_cases h1:k=1
 ·subst h1
  cases hl:cZ w 1 16<;>simp -implicitDefEqProofs [bG,hi,hw,hl]
 by_cases h3:k=3
 ·subst h3
  by_cases hz:w=⟨⟨[]⟩⟩<;>simp -implicitDefEqProofs [bG,hi,hz]
 by_cases h2:k=2
 ·subst h2
  by_cases hz:w=⟨⟨[]⟩⟩<;>simp -implicitDefEqProofs [bG,hi,hz]
 by_cases h4:k=4
 ·subst h4
  by_cases hz:w=⟨⟨[]⟩⟩<;>simp -implicitDefEqProofs [bG,hi,hz]
 by_cases h5:k=5
 ·subst h5
  by_cases hz:w=⟨⟨[]⟩⟩<;>simp -implicitDefEqProofs [bG,hi,hz]
 by_cases h6:k=6
 ·subst h6
  by_cases hz:w=⟨⟨[]⟩⟩<;>simp -implicitDefEqProofs [bG,hi,hz]
 simp -implicitDefEqProofs [bG,hi,h1,h2,h3,h4,h5,h6]
open Classical in
def yG (l:List Bx) (w:ByteArray):Option (List Nat):=if h:Codes (aL l) then Classical.choose (qL h _ (aC w) [] (Jp _)) else none
theorem oO {l:List Bx} (h:bg l=true) (w:ByteArray):Sets (aL l) (aC w) [] (yG l w):=by
 unfold yG;rw [dif_pos (gK h)];exact Classical.choose_spec (qL (gK h) _ (aC w) [] (Jp _))
def bP (l:List Bx) (w:ByteArray):List ByteArray:=cm (aL l) ((yG l w).getD [])
def kJ (l:List Bx) (w:ByteArray):Bool:=(yG l w).isSome
theorem iI {l:List Bx} (h:bg l=true) {w:ByteArray} (hb:kJ l w=true):(bP l w).length≤w.size∧∀c∈bP l w,∃k:Nat,fC (aL l) c=k∧k<l.length:=by
 unfold kJ at hb;unfold bP;obtain⟨r,hr⟩:=Option.isSome_iff_exists.1 hb;obtain⟨h1,h2⟩:=yd (gK h) (oO h w) (fun i hi=>by simp at hi) r hr;rw [hr,Option.getD_some];refine⟨?_,Ab h1⟩
 simp only [JU,JR] at h2;simpa [cm,ex] using h2
def sy (l:List Fm) (i:Nat):Bool:=(l[i]?.map fun x=>x.2.2.1).getD false
def dh (l:List Fm) (n:Int):List Fm:=if fx l n=true then l else l.take (atF l n)++(n,[],false,0)::l.drop (atF l n)
def zD (l:List Fm) (i:Nat) (cs:List ByteArray):List Fm:=match l[i]? with
 | some x=>l.set i (x.1,x.2.1++cs,x.2.2.1,x.2.2.2)
 | none=>l
def vq (s:Sp) (n:Int) (w:ByteArray):Sp:=(bj (aL s.1) (-1) s.1 (bP s.1 w),zD (dh s.2.1 n) (atF s.2.1 n) (bP s.1 w),s.2.2.1,s.2.2.2)
def iD (s:Sp) (n:Int) (w:ByteArray):Bool:=kJ s.1 w&&bg (bj (aL s.1) (-1) s.1 (bP s.1 w)) && !sy (dh s.2.1 n) (atF s.2.1 n)
def fP (s:Sp) (i:Nat) (x:Stp):Sp:=match s.2.1[i]? with
 | none=>s
 | some f =>
  if x.1=2 then(s.1,s.2.1.set i (f.1,f.2.1,true,f.2.2.2),s.2.2.1,s.2.2.2)
  else if x.1=3 then(s.1,s.2.1.set i (f.1,f.2.1,f.2.2.1,f.2.2.2+x.2.2.2),s.2.2.1,s.2.2.2+x.2.2.2)
  else if x.1=4 then(s.1,s.2.1.set i (f.1,f.2.1,false,f.2.2.2),s.2.2.1,s.2.2.2)
  else if x.1=5 then(s.1,s.2.1.set i (f.1,f.2.1.take (f.2.1.length - 1),f.2.2.1,f.2.2.2),s.2.2.1+1,s.2.2.2)
  else(bj (aL s.1) 1 s.1 f.2.1,s.2.1.take i++s.2.1.drop (i+1),s.2.2.1,s.2.2.2)
def dk (s:Sp) (i:Nat) (x:Stp):Bool:=match s.2.1[i]? with
 | none=>false
 | some f =>
  if x.1=2 then !f.2.2.1
  else if x.1=3 then f.2.2.1
  else if x.1=4 then f.2.2.1
  else if x.1=5 then !f.2.2.1 && !decide (f.2.1.length=0)
  else !f.2.2.1&&bg (bj (aL s.1) 1 s.1 f.2.1)
def gN (s:Sp) (x:Stp):Sp:=if x.1=1 then vq s x.2.1 x.2.2.1 else fP s (atF s.2.1 x.2.1) x
def iw (s:Sp) (x:Stp):Bool:=if x.1=1 then iD s x.2.1 x.2.2.1 else fx s.2.1 x.2.1&&dk s (atF s.2.1 x.2.1) x
def fe (s:Sp) (x:Stp):Bool:=dm x&&iw s x&&aD (gN s x)
def stS (s:Sp) (x:Stp):Sp:=if fe s x=true then gN s x else([],[],0,0)
theorem qO {x:Stp} (h:dm x=true):x.1=1∨x.1=2∨x.1=3∨x.1=4∨x.1=5∨x.1=6:=by
 unfold dm at h;by_cases h1:x.1=1
 ·exact .inl h1
 by_cases h3:x.1=3
 ·exact .inr (.inr (.inl h3))
 rw [if_neg h1,if_neg h3] at h;by_cases h4:x.1=2∨x.1=4∨x.1=5∨x.1=6
 ·omega
 ·rw [if_neg h4] at h
  simp at h
theorem ya {x:Stp} (h:dm x=true) (h3:x.1=3):1≤x.2.2.2∧x.2.2.2≤1000:=by
 unfold dm at h;rw [if_neg (by omega),if_pos h3] at h;simp only [Jk,decide_eq_true_eq] at h;exact h.2.2
theorem rW {x:Stp} (h:dm x=true) (h1:x.1=1):x.2.2.1.size≤16:=by
 unfold dm at h;rw [if_pos h1] at h;simp only [Jk,decide_eq_true_eq,cZ] at h;omega
end Go.Proofs.Ytkcojipciiakdaa

namespace Go.Proofs.Ytkcojipciiakdaa
open Go Go.V
set_option maxRecDepth 100000
structure Cur where
 code:List Int
 at_:Nat
 seed:Int
abbrev iP (l:List Int):D:=.arr 1 (l.map U)
abbrev aV (c:Cur):D:=.agg [iP c.code,I c.at_,.v (.int .u64 c.seed)]
structure Cur.ok (c:Cur) (B:Nat):Prop where
 by_:∀n∈c.code,0≤n∧n≤255
 len:c.code.length≤9223372036854775807
 at_:c.at_≤B
 lo:0≤c.seed
 hi:c.seed<18446744073709551616
theorem xW {k:IntKind} {n:Int}:pU (some .i64) false (.v (.int k n))=some (I (Jj.wrap n)):=rfl
theorem xv {k:IntKind} {n:Int}:pU (some .u64) false (.v (.int k n))=some (.v (.int .u64 (Jq.wrap n))):=rfl
theorem CS {n:Int} {bl:Bool} {eq:List Nat}:bin .shr bl eq (.v (.int .u64 n)) (.v (.int .u64 40))=some (.v (.int .u64 (n.fdiv 1099511627776))):=by
 simp [bin,IntKind.bits]
theorem GT {a b:Int} {bl:Bool} {eq:List Nat}:bin .and bl eq (.v (.int .u64 a)) (.v (.int .u64 b))=some (.v (.int .u64 (bits .and .u64 a b))):=by simp [bin,gA]
theorem Hg {n:Int} (h0:0≤n) (h1:n<18446744073709551616):0≤bits .and .u64 n 255∧bits .and .u64 n 255≤255:=by
 obtain⟨m,rfl⟩:=JB h0;have:=bits_and_u64_nat m 255 (by omega) (by omega);rw [show((255:Int))=((255:Nat):Int) from rfl,this];have h2:m &&& 255≤255:=Nat.and_le_right;omega
theorem wrap64 (n:Int):0≤Jq.wrap n∧Jq.wrap n<18446744073709551616:=by
 rw [IntKind.wrap_u64];omega
def lw (s n:Int):Int:=Jq.wrap (Jq.wrap (Jq.wrap (s*6364136223846793005)+Jq.wrap n)+1442695040888963407)
def tI (s:Int):Int:=bits .and .u64 (s.fdiv 1099511627776) 255
theorem gH (s n:Int):0≤lw s n∧lw s n<18446744073709551616:=wrap64 _
theorem zx {s:Int} (h0:0≤s) (h1:s<18446744073709551616):0≤tI s∧tI s≤255:=by
 unfold tI;rw [Int.fdiv_eq_ediv_of_nonneg _ (by omega)];exact Hg (by omega) (by omega)
theorem Ie (c:Cur) (B:Nat) (h:c.ok B) (hB:B≤1000000000000) (hc:c.at_<c.code.length):cH [aV c]=some (.ret [I c.code[c.at_]] [aV ⟨c.code,c.at_+1,lw c.seed c.code[c.at_]⟩]):=by
 have hl:=h.len;have ha:=h.at_;have hw:Jj.wrap ((c.at_:Int)+1)=(c.at_:Int)+1:=ay (by omega) (by omega);have hn:=h.by_ c.code[c.at_] (Jm hc);have hv:Jj.wrap c.code[c.at_]=c.code[c.at_]:=ay (by omega) (by omega);have hle:(c.at_:Int)+1≤(c.code.length:Int):=by omega
 rw [kI];simp -implicitDefEqProofs [hc,hw,hv,hle,xW,xv,lw]
theorem Ix (c:Cur) (B:Nat) (h:c.ok B) (hB:B≤1000000000000) (hc:¬c.at_<c.code.length):cH [aV c]=some (.ret [I (tI (lw c.seed 0))] [aV ⟨c.code,c.at_+1,lw c.seed 0⟩]):=by
 have hl:=h.len;have ha:=h.at_;have hw:Jj.wrap ((c.at_:Int)+1)=(c.at_:Int)+1:=ay (by omega) (by omega);have hle:¬(c.at_:Int)+1≤(c.code.length:Int):=by omega
 have hq:=zx (gH c.seed 0).1 (gH c.seed 0).2;have hv:Jj.wrap (tI (lw c.seed 0))=tI (lw c.seed 0):=ay (by omega) (by omega);unfold tI lw at hv;rw [kI];simp -implicitDefEqProofs [hc,hw,hle,xW,xv,CS,GT,hv,lw,tI]
theorem Fu (c:Cur) (B:Nat) (h:c.ok B) (hB:B≤1000000000000):∃v c',cH [aV c]=some (.ret [I v] [aV c'])∧0≤v∧v≤255∧c'.ok (B+1):=by
 have ha:=h.at_;by_cases hc:c.at_<c.code.length
 ·have hn:=h.by_ c.code[c.at_] (Jm hc)
  exact⟨_,_,Ie c B h hB hc,hn.1,hn.2,⟨h.by_,h.len,Nat.succ_le_succ ha,(gH _ _).1,(gH _ _).2⟩⟩
 ·have hq:=zx (gH c.seed 0).1 (gH c.seed 0).2
  exact⟨_,_,Ix c B h hB hc,hq.1,hq.2,⟨h.by_,h.len,Nat.succ_le_succ ha,(gH _ _).1,(gH _ _).2⟩⟩
theorem gV (c:Cur) (n:Int) (B:Nat) (h:c.ok B) (hB:B≤100000000000) (hn:n≤1000000000):∃v c',aB [aV c,I n]=some (.ret [I v] [aV c'])∧0≤v∧(v<n∨v=0)∧c'.ok (B+2):=by
 rw [sK];by_cases h1:n≤1
 ·exact⟨0,c,by simp [h1],by omega,.inr rfl,⟨h.by_,h.len,by have:=h.at_;omega,h.lo,h.hi⟩⟩
 obtain⟨v,c1,e1,l1,u1,k1⟩:=Fu c B h (by omega);have hn0:¬n=0:=by omega
 by_cases h2:200<n
 ·obtain⟨v2,c2,e2,l2,u2,k2⟩:=Fu c1 (B+1) k1 (by omega)
  have w1:Jj.wrap (v*256)=v*256:=ay (by omega) (by omega);have w2:Jj.wrap (v*256+v2)=v*256+v2:=ay (by omega) (by omega);refine⟨(v*256+v2).tmod n,c2,by simp [h1,h2,e1,e2,w1,w2,hn0],Int.tmod_nonneg _ (by omega),.inl (Int.tmod_lt_of_pos _ (by omega)),k2⟩
 ·refine⟨v.tmod n,c1,by simp [h1,h2,e1,hn0],Int.tmod_nonneg _ l1,.inl (Int.tmod_lt_of_pos _ (by omega)),⟨k1.by_,k1.len,by have:=k1.at_;omega,k1.lo,k1.hi⟩⟩
theorem Cf (c:Cur) (n:Int) (B:Nat) (h:c.ok B) (hB:B≤100000000000) (hn:n≤1000000000):∃(b:Bool) (c':Cur),ci [aV c,I n]=some (.ret [.v (.bool b)] [aV c'])∧c'.ok (B+2):=by
 rw [tr];obtain⟨v,c1,e1,l1,u1,k1⟩:=gV c n B h hB hn;exact⟨_,c1,by simp [e1];rfl,k1⟩
abbrev nL (l:List Int):D:=.arr 1 (l.map I)
theorem mC (c:Cur) (l:List Int) (B:Nat) (h:c.ok B) (hB:B≤100000000000) (hl:l≠[]) (hn:l.length≤1000000000):∃v c',aG [aV c,nL l]=some (.ret [I v] [aV c'])∧v∈l∧c'.ok (B+2):=by
 rw [qS];have hp:0<l.length:=JP.2 hl;obtain⟨v,c1,e1,l1,u1,k1⟩:=gV c l.length B h hB (by omega);obtain⟨i,rfl⟩:=JB l1;have hi:i<l.length:=by omega
 exact⟨l[i],c1,by simp [e1,hi],Jm hi,k1⟩
theorem Cur.ok.mono {c:Cur} {B C:Nat} (h:c.ok B) (hBC:B≤C):c.ok C:=⟨h.by_,h.len,Nat.le_trans h.at_ hBC,h.lo,h.hi⟩
theorem tn {l:List Int}:bC 1 (l.map I)=some (nL l):=by
 have:ia 1 (l.map I).length (l.map I)=true:=by
  unfold ia;simp
 simp only [bC,this,if_true]
theorem Ex {l:List ByteArray}:bC 1 (l.map T)=some (txs l):=by
 have:ia 1 (l.map T).length (l.map T)=true:=by
  unfold ia;simp
 simp only [bC,this,if_true]
theorem xY (l:List Int):jx [(0,1)] [D.arr 1 [],I 0,D.v (.int .u64 0)] [iP l]=some (.agg [iP l,I 0,D.v (.int .u64 0)]):=by
 simp [jx,oI]
structure Bytes (l:List Int):Prop where
 by_:∀n∈l,0≤n∧n≤255
 len:l.length≤9223372036854775807
theorem Jd {l:List Int} (h:Bytes l):Cur.ok ⟨l,0,0⟩ 0:=⟨h.by_,h.len,Jp _,Int.le_refl 0,show(0:Int)<18446744073709551616 by decide⟩
theorem Ib (c:Cur) (l:List ByteArray) (B:Nat) (h:c.ok B) (hB:B≤100000000000) (hl:l≠[]) (hn:l.length≤1000000000):∃v c',fb [aV c,txs l]=some (.ret [T v] [aV c'])∧v∈l∧c'.ok (B+2):=by
 rw [tT];have hp:0<l.length:=JP.2 hl;obtain⟨v,c1,e1,l1,u1,k1⟩:=gV c l.length B h hB (by omega);obtain⟨i,rfl⟩:=JB l1;have hi:i<l.length:=by omega
 exact⟨l[i],c1,by simp [e1,hi],Jm hi,k1⟩
abbrev so2 (x:ByteArray × Int):D:=.agg [T x.1,I x.2]
abbrev sos (f:List (ByteArray × Int)):D:=.arr 2 (f.map so2)
theorem Gm (x:ByteArray × Int):(so2 x).isV=true:=rfl
theorem GN (f:List (ByteArray × Int)) (x:ByteArray × Int) (h:f.length≤1048576):gx 2 24 (sos f) (sos [x])=some (sos (f++[x])):=by
 rw [dK,if_pos (by simp only [Jl,Jo];omega),←JE]
def L12:List ByteArray:=[⟨⟨[97]⟩⟩,⟨⟨[97,98]⟩⟩,⟨⟨[97,98,99]⟩⟩,⟨⟨[98]⟩⟩,⟨⟨[98,98]⟩⟩,⟨⟨[99]⟩⟩,⟨⟨[100]⟩⟩,⟨⟨[101]⟩⟩,⟨⟨[102]⟩⟩,⟨⟨[102,102]⟩⟩,⟨⟨[102,105]⟩⟩,⟨⟨[105]⟩⟩]
theorem yB:L12.length=12:=rfl
theorem Eh:∀s∈L12,s.size=1∨s.size=2∨s.size=3:=by
 intro s hs;simp only [L12,JF,JO,or_false] at hs;rcases hs with rfl | rfl | rfl | rfl | rfl | rfl | rfl | rfl | rfl | rfl | rfl | rfl
 ·exact .inl rfl
 ·exact .inr (.inl rfl)
 ·exact .inr (.inr rfl)
 ·exact .inl rfl
 ·exact .inr (.inl rfl)
 ·exact .inl rfl
 ·exact .inl rfl
 ·exact .inl rfl
 ·exact .inl rfl
 ·exact .inr (.inl rfl)
 ·exact .inr (.inl rfl)
 ·exact .inl rfl
theorem Hl (a:ByteArray) (n:Int):jx [(0,1),(1,1)] [T ⟨#[]⟩,I 0] [T a,I n]=some (so2 (a,n)):=by simp [jx,oI]
def cdF (f:List (ByteArray × Int)):List ByteArray:=f.map Prod.fst
theorem Fc {l:List ByteArray} {i:Nat} {m:List ByteArray} (h:m.Sublist (l.take i)) (hi:i<l.length):m.Sublist (l.take (i+1))∧(m++[l[i]]).Sublist (l.take (i+1)):=by
 rw [Jv hi];exact⟨h.trans (List.sublist_append_left _ _),h.append (List.Sublist.refl _)⟩
theorem Hu (c:Cur) (B:Nat) (h:c.ok B) (hB:B≤1000000000):∃(f:List (ByteArray × Int)) (c':Cur),dl [aV c]=some (.ret [sos f] [aV c'])∧(1≤f.length∧f.length≤12)∧(cdF f).Sublist L12∧c'.ok (B+100):=by
 rw [rk];have m12:bC 1 [T ⟨⟨[97]⟩⟩,T ⟨⟨[97,98]⟩⟩,T ⟨⟨[97,98,99]⟩⟩,T ⟨⟨[98]⟩⟩,T ⟨⟨[98,98]⟩⟩,T ⟨⟨[99]⟩⟩,T ⟨⟨[100]⟩⟩,T ⟨⟨[101]⟩⟩,T ⟨⟨[102]⟩⟩,T ⟨⟨[102,102]⟩⟩,T ⟨⟨[102,105]⟩⟩,T ⟨⟨[105]⟩⟩]=some (txs L12):=Ex (l:=L12);simp -implicitDefEqProofs only [m12,Ji,cn,Jl];refine eJ (fun X=>∃f c',X=some (.ret [sos f] [aV c'])∧(1≤f.length∧f.length≤12)∧(cdF f).Sublist L12∧c'.ok (B+100)) (fun a:Cur × List (ByteArray × Int) × Nat=>[aV a.1,sos a.2.1,txs L12,I L12.length,I a.2.2])
  (fun a=>a.1.ok (B+8*a.2.2)∧(cdF a.2.1).Sublist (L12.take a.2.2)∧a.2.2≤12) (fun a=>12 - a.2.2) (fun o=>∃(c':Cur) (f:List (ByteArray × Int)),o = .ext 0 [aV c',sos f]∧c'.ok (B+96)∧(cdF f).Sublist L12) (fun a hI=>?_) (c,[],0) ⟨h.mono (by omega),by simp [cdF],by simp⟩ rfl (fun o ho=>?_)
 ·obtain⟨ca,fa,i⟩:=a
  obtain⟨h1,h2,h3⟩:=hI;simp only at h1 h2 h3;have hL:=yB;have h2l:=h2.length_le;simp only [cdF,Jl,JN] at h2l;by_cases hlt:i<L12.length
  ·have hs:=Eh L12[i] (Jm hlt)
   obtain⟨hn1,hn2⟩:=Fc h2 hlt;have hw:Jj.wrap ((i:Int)+1)=(i:Int)+1:=ay (by omega) (by omega);have add:∀(ca2:Cur),ca2.ok (B+8*i+2)→∃(x:ByteArray × Int) (ca3:Cur),(x.1=L12[i]∧ca3.ok (B+8*(i+1)))∧∃v:Int,aB [aV ca2,I 4]=some (.ret [I v] [aV ca3])∧(x.2=Jj.wrap (4+Jj.wrap ((L12[i].size:Int)*Jj.wrap (2+v)))):=fun ca2 hk=>by
    obtain⟨v,c3,e3,_,_,k3⟩:=gV ca2 4 _ hk (by omega) (by omega);exact⟨(L12[i],_),c3,⟨rfl,k3.mono (by omega)⟩,v,e3,rfl⟩
   have app1:∀x:ByteArray × Int,gx 2 24 (sos fa) (sos [x])=some (sos (fa++[x])):=fun x=>GN fa x (by omega)
   have mk1:∀x:ByteArray × Int,bC 2 [so2 x]=some (sos [x]):=fun x=>by simp [bC,ia]
   have ck1:∀x:ByteArray × Int,iE (sos [x])=some (sos [x]):=fun x=>kw Gm
   have grow:∀(x:ByteArray × Int) (c3:Cur),x.1=L12[i]→c3.ok (B+8*(i+1))→(c3.ok (B+8*(i+1))∧(cdF (fa++[x])).Sublist (L12.take (i+1))∧i+1≤12):=fun x c3 hx hk=>⟨hk,by
    have e:cdF (fa++[x])=cdF fa++[L12[i]]:=by simp [cdF,hx]
    rw [e];exact hn2,by omega⟩
   rcases hs with hs | hs
   ·obtain⟨b,c2,e2,k2⟩:=Cf ca 12 _ h1 (by omega) (by omega)
    cases b
    ·obtain⟨x,c3,⟨hx,hk⟩,v,e3,hv⟩:=add c2 k2
     refine .inl ⟨(c3,fa++[x],i+1),?_,grow x c3 hx hk,by simp;omega⟩
     obtain⟨xa,xb⟩:=x;simp only at hx hv;subst hx hv;simp -implicitDefEqProofs [hlt,hs,hw,e2,e3,Hl,mk1,ck1,app1,-dK]
    ·refine .inl ⟨(c2,fa,i+1),?_,⟨k2.mono (by simp;omega),hn1,by simp;omega⟩,by simp;omega⟩
     simp -implicitDefEqProofs [hlt,hs,hw,e2]
   ·have hs1:¬(L12[i].size:Int)=1:=by omega
    have hs2:(1:Int)<(L12[i].size:Int):=by omega
    obtain⟨b,c2,e2,k2⟩:=Cf ca 3 _ h1 (by omega) (by omega);cases b
    ·refine .inl ⟨(c2,fa,i+1),?_,⟨k2.mono (by simp;omega),hn1,by simp;omega⟩,by simp;omega⟩
     simp -implicitDefEqProofs [hlt,hs1,hs2,hw,e2]
    ·obtain⟨x,c3,⟨hx,hk⟩,v,e3,hv⟩:=add c2 k2
     refine .inl ⟨(c3,fa++[x],i+1),?_,grow x c3 hx hk,by simp;omega⟩
     obtain⟨xa,xb⟩:=x;simp only at hx hv;subst hx hv;simp -implicitDefEqProofs [hlt,hs1,hs2,hw,e2,e3,Hl,mk1,ck1,app1,-dK]
  ·refine .inr ⟨.ext 0 [aV ca,sos fa],?_,rfl,ca,fa,rfl,h1.mono (by omega),h2.trans (List.take_sublist _ _)⟩
   simp -implicitDefEqProofs [hlt]
 ·obtain⟨c1,f,rfl,k1,k3⟩:=ho
  have k2:=k3.length_le;simp only [cdF,Jl,yB] at k2;by_cases h0:f=[]
  ·refine⟨[(⟨⟨[97]⟩⟩,9)],c1,?_,by simp,by simp [cdF,L12],k1.mono (by omega)⟩
   have mk1:bC 2 [so2 (⟨⟨[97]⟩⟩,9)]=some (sos [(⟨⟨[97]⟩⟩,9)]):=by simp [bC,ia]
   simp -implicitDefEqProofs [h0,Hl,mk1]
  ·have hp:0<f.length:=JP.2 h0
   refine⟨f,c1,?_,⟨hp,k2⟩,k3,k1.mono (by omega)⟩
   simp -implicitDefEqProofs [h0]
theorem Jf (a:ByteArray) (r c n:Int):jx [(0,1),(1,1),(2,1),(3,1)] [T ⟨#[]⟩,I 0,I 0,I 0] [T a,I r,I c,I n]=some (bx (a,r,c,n)):=by simp [jx,oI]
theorem GJ (l:List Bx) (x:Bx) (h:l.length≤1048576):gx 4 40 (bxs l) (bxs [x])=some (bxs (l++[x])):=by
 rw [dK,if_pos (by simp only [Jl,Jo];omega),←JE]
theorem Hw (x:Bx):bC 4 [bx x]=some (bxs [x]):=by simp [bC,ia]
theorem Hs (x:Bx):iE (bxs [x])=some (bxs [x]):=kw yb
theorem lS {l:List Bx}:bg l=true↔(∀i (h:i<l.length),po l[i]=true)∧(∀i (h:i<l.length),0<i→Jt (l[i - 1]'(by omega)).1.toList l[i].1.toList=true)∧(∀i j (h:i<l.length) (hj:j<i),gc l[i] (l[j]'(by omega))=false)∧1≤l.length∧l.length≤32:=by
 have all:∀(p:Nat→Bx→Bool) (m:List Bx) (k:Nat),dq p k m=true↔∀i (h:i<m.length),p (k+i) m[i]=true:=by
  intro p m;induction m with
  | nil=>intro k;simp [dq]
  | cons x m ih =>
   intro k;simp only [dq,Jk,ih];constructor
   ·rintro⟨h1,h2⟩ i hi
    cases i with
    | zero=>exact h1
    | succ i =>
     have:=h2 i (by simpa using hi);rw [show k+(i+1)=k+1+i by omega];exact this
   ·intro h
    refine⟨h 0 (by simp),fun i hi=>?_⟩
    have:=h (i+1) (by simpa using hi);rw [show k+1+i=k+(i+1) by omega];exact this
 have hp:∀i (h:i<l.length),pBx l i l[i]=true↔po l[i]=true∧(0<i→Jt (l[i - 1]'(by omega)).1.toList l[i].1.toList=true)∧∀j (hj:j<i),gc l[i] (l[j]'(by omega))=false:=by
  intro i h;simp only [pBx,Jk,all,JR,JK,JT,decide_eq_false_iff_not,Bool.not_eq_false',List.getElem_take,JN,and_assoc];refine and_congr Iff.rfl (and_congr ⟨fun h0 hi=>?_,fun h0=>?_⟩ ⟨fun h0 j hj=>h0 j (by omega),fun h0 j hj=>h0 j (by omega)⟩)
  ·have:=h0.resolve_left (by omega)
   rw [Js,Jx (by omega)] at this;exact this
  ·by_cases hi:0<i
   ·right
    rw [Js,Jx (by omega)];exact h0 hi
   ·exact .inl hi
 simp only [bg,Jk,decide_eq_true_eq,all,JR];constructor
 ·rintro⟨h1,h2⟩
  exact⟨fun i hi=>((hp i hi).1 (h1 i hi)).1,fun i hi=>((hp i hi).1 (h1 i hi)).2.1,fun i j hi hj=>((hp i hi).1 (h1 i hi)).2.2 j hj,by omega,by omega⟩
 ·rintro⟨h1,h2,h3,h4⟩
  exact⟨fun i hi=>(hp i hi).2 ⟨h1 i hi,h2 i hi,fun j hj=>h3 i j hi hj⟩,by omega⟩
def CH (x:Bx):Int:=x.2.1*10+x.2.2.1
structure DrB (l:List Bx) (d:Int):Prop where
 row:∀x∈l,(0≤x.2.1∧x.2.1≤9)∧(0≤x.2.2.1∧x.2.2.1≤9)∧(0≤x.2.2.2∧x.2.2.2≤20)∧CH x<d
 rise:l.Pairwise fun x y=>CH x<CH y
theorem DrB.snoc {l:List Bx} {d e:Int} (h:DrB l d) {x:Bx} (hx:(0≤x.2.1∧x.2.1≤9)∧(0≤x.2.2.1∧x.2.2.1≤9)∧(0≤x.2.2.2∧x.2.2.2≤20)) (hd:CH x=d) (he:d<e):DrB (l++[x]) e :=
 ⟨fun y hy=>by
  rcases Ki.1 hy with hy | hy
  ·obtain⟨h1,h2,h3,h4⟩:=h.row y hy
   exact⟨h1,h2,h3,by omega⟩
  ·simp at hy
   subst hy;exact⟨hx.1,hx.2.1,hx.2.2,by omega⟩,by
  rw [List.pairwise_append];refine⟨h.rise,by simp,fun y hy z hz=>?_⟩
  simp at hz;subst hz;rw [hd];exact(h.row y hy).2.2.2⟩
theorem zY:(∀s∈L12,cZ s 1 3=true)∧L12.Pairwise fun a b=>Jt a.toList b.toList=true:=by
 constructor
 ·intro s hs
  simp only [L12,JF,JO,or_false] at hs;rcases hs with rfl | rfl | rfl | rfl | rfl | rfl | rfl | rfl | rfl | rfl | rfl | rfl<;>rfl
 ·decide +kernel
theorem BA {l:List Bx} {d:Int} (h:DrB l d) (hc:(aL l).Sublist L12) (h0:0<l.length):bg l=true:=by
 have hp:=zY.2.sublist hc;have hr:=h.rise;have hl:=hc.length_le;rw [yB,Jl] at hl;refine lS.2 ⟨fun i hi=>?_,fun i hi h1=>?_,fun i j hi hj=>?_,h0,by omega⟩
 ·have hm:=Jm hi
  obtain⟨h1,h2,h3,h4⟩:=h.row _ hm;have:=zY.1 _ (hc.subset (Km (f:=fun b:Bx=>b.1) hm));simp only [po,this,Bool.true_and,Jk,decide_eq_true_eq];exact⟨⟨h1,h2⟩,h3.1,by omega⟩
 ·have hi':i - 1<(aL l).length:=by rw [Jl];omega
  have hi'':i<(aL l).length:=by rw [Jl];exact hi
  have:=List.pairwise_iff_getElem.1 hp (i - 1) i hi' hi'' (by omega);simpa using this
 ·have:=List.pairwise_iff_getElem.1 hr j i (by omega) hi hj
  simp only [gc];by_cases hq:(l[j]'(by omega)).2.1=l[i].2.1
  ·by_cases hq2:(l[j]'(by omega)).2.2.1=l[i].2.2.1
   ·exfalso
    unfold CH at this;omega
   ·simp [hq2]
  ·simp [hq]
theorem GO (c:Cur) (f:List (ByteArray × Int)) (B:Nat) (h:c.ok B) (hB:B≤1000000000) (hf:1≤f.length∧f.length≤12) (hs:(cdF f).Sublist L12):∃(l:List Bx) (c':Cur),cS [aV c,sos f]=some (.ret [bxs l] [aV c'])∧bg l=true∧l.length≤12∧(∀x∈l,0≤x.2.2.2∧x.2.2.2≤20)∧c'.ok (B+100):=by
 rw [qZ];obtain⟨v1,c1,e1,l1,u1,k1⟩:=gV c 20 B h (by omega) (by omega);simp -implicitDefEqProofs only [aT,Ji,fV,e1,aO,aY,cn,Jl];have m1:=tn (l:=[0,1,2,5,20]);simp only [Jy,JV] at m1;refine eJ (fun X=>∃l c',X=some (.ret [bxs l] [aV c'])∧bg l=true∧l.length≤12∧(∀x∈l,0≤x.2.2.2∧x.2.2.2≤20)∧c'.ok (B+100)) (fun a:Cur × List Bx × Int=>[aV a.1,bxs a.2.1,I a.2.2,sos f,I f.length,I a.2.1.length])
  (fun a=>a.1.ok (B+2+4*a.2.1.length)∧a.2.1.length≤f.length∧(DrB a.2.1 a.2.2∧aL a.2.1=(cdF f).take a.2.1.length)∧0≤a.2.2∧a.2.2≤19+2*(a.2.1.length:Int)) (fun a=>12 - a.2.1.length) (fun o=>∃(c':Cur) (l:List Bx),o = .ext 0 [aV c',bxs l]∧c'.ok (B+96)∧l.length=f.length∧(∃d,DrB l d)∧aL l=cdF f) (fun a hI=>?_) (c1,[],v1) ⟨k1.mono (by simp),by simp,⟨⟨by simp,by simp⟩,by simp⟩,l1,by show v1≤19+2*0;omega⟩ rfl (fun o ho=>?_)
 ·obtain⟨ca,la,da⟩:=a
  obtain⟨h1,h2,⟨h3,h3'⟩,h4,h5⟩:=hI;simp only at h1 h2 h3 h3' h4 h5;by_cases hlt:la.length<f.length
  ·obtain⟨v2,c2,e2,hv2,k2⟩:=mC ca [0,1,2,5,20] _ h1 (by omega) (by simp) (by simp)
   obtain⟨v3,c3,e3,hv3,hv3',k3⟩:=gV c2 2 _ k2 (by omega) (by omega);have hw:Jj.wrap ((la.length:Int)+1)=(la.length:Int)+1:=ay (by omega) (by omega);have hd1:da.tdiv 10=da / 10:=Int.tdiv_eq_ediv_of_nonneg h4;have hd2:da.tmod 10=da % 10:=Int.tmod_eq_emod_of_nonneg h4;have hd3:(Jj.wrap (da.tdiv 10)).tmod 10=da / 10:=by
    rw [hd1,ay (by omega) (by omega),Int.tmod_eq_emod_of_nonneg (by omega)];omega
   have hd4:Jj.wrap (da+Jj.wrap (1+v3))=da+1+v3:=by
    rw [ay (a:=1+v3) (by omega) (by omega),ay (by omega) (by omega)];omega
   have hv20:0≤v2∧v2≤20:=by
    simp only [JF,JO,or_false] at hv2;omega
   have ap:=GJ la (f[la.length].1,(Jj.wrap (da.tdiv 10)).tmod 10,da.tmod 10,v2) (by omega);refine .inl ⟨(c3,la++[(f[la.length].1,(Jj.wrap (da.tdiv 10)).tmod 10,da.tmod 10,v2)],Jj.wrap (da+Jj.wrap (1+v3))),?_,⟨k3.mono (by simp;omega),by simp;omega,⟨?_,?_⟩,?_,?_⟩,by simp;omega⟩
   ·simp -implicitDefEqProofs [hlt,e2,e3,hw,m1,Jf,Hw,Hs,ap,-dK,-Jy]
   ·rw [hd3,hd4,hd2]
    exact h3.snoc (d:=da) (e:=da+1+v3) (by simp only;omega) (by simp only [CH];omega) (by omega)
   ·have hlen:la.length<(cdF f).length:=by simp [cdF];exact hlt
    simp only [JH,Jo,JE,Jy,JV];rw [Jv hlen,←h3'];simp [cdF]
   ·simp only
    omega
   ·simp only [JH,Jo]
    omega
  ·refine .inr ⟨.ext 0 [aV ca,bxs la],?_,rfl,ca,la,rfl,h1.mono (by omega),by omega,⟨_,h3⟩,?_⟩
   ·simp -implicitDefEqProofs [hlt]
   ·rw [h3',List.take_of_length_le (by simp [cdF];omega)]
 ·obtain⟨c2,l,rfl,g1,g2,⟨d,g3⟩,g4⟩:=ho
  refine⟨l,c2,?_,BA g3 (by rw [g4];exact hs) (by omega),by omega,fun x hx=>(g3.row x hx).2.2.1,g1.mono (by omega)⟩
  simp -implicitDefEqProofs
set_option maxRecDepth 100000
theorem tS' (l:List UInt8):(D.v (Value.string {data:={toList:=l}}))=T ⟨⟨l⟩⟩:=rfl
def W10:List ByteArray:=[⟨⟨[97]⟩⟩,⟨⟨[98]⟩⟩,⟨⟨[99]⟩⟩,⟨⟨[97,98]⟩⟩,⟨⟨[98,98]⟩⟩,⟨⟨[97,98,99]⟩⟩,⟨⟨[100]⟩⟩,⟨⟨[101]⟩⟩,⟨⟨[102]⟩⟩,⟨⟨[102,105]⟩⟩]
theorem DT:∀s∈W10,1≤s.size∧s.size≤3:=by
 intro s hs;simp only [W10,JF,JO,or_false] at hs;rcases hs with rfl | rfl | rfl | rfl | rfl | rfl | rfl | rfl | rfl | rfl<;>exact⟨by decide,by decide⟩
theorem yO {a b:ByteArray} (h:a.size+b.size≤100000000):bin .add false [] (T a) (T b)=some (T (a++b)):=by
 rw [Fq,if_pos (by omega)]
theorem Fz (c:Cur) (B:Nat) (h:c.ok B) (hB:B≤1000000000):∃(s:ByteArray) (c':Cur),cJ [aV c]=some (.ret [T s] [aV c'])∧s.size≤8∧c'.ok (B+20):=by
 rw [ru];obtain⟨v,c1,e1,l1,u1,k1⟩:=gV c 6 B h (by omega) (by omega);obtain⟨v,rfl⟩:=JB l1;have hv:v<6:=by omega
 have m10:bC 1 [T ⟨⟨[97]⟩⟩,T ⟨⟨[98]⟩⟩,T ⟨⟨[99]⟩⟩,T ⟨⟨[97,98]⟩⟩,T ⟨⟨[98,98]⟩⟩,T ⟨⟨[97,98,99]⟩⟩,T ⟨⟨[100]⟩⟩,T ⟨⟨[101]⟩⟩,T ⟨⟨[102]⟩⟩,T ⟨⟨[102,105]⟩⟩]=some (txs W10):=Ex (l:=W10);have hw:Jj.wrap (1+(v:Int))=((1+v:Nat):Int):=by rw [ay (by omega) (by omega)];omega
 simp -implicitDefEqProofs only [aT,Ji,fV,e1,aO,aY,pc,hw,m10,tS'];refine eJ (fun X=>∃s c',X=some (.ret [T s] [aV c'])∧s.size≤8∧c'.ok (B+20)) (fun a:Cur × ByteArray=>[aV a.1,T a.2,I ((1+v:Nat):Int)])
  (fun a=>a.1.ok (B+2+2*a.2.size)∧a.2.size≤8) (fun a=>8 - a.2.size) (fun o=>∃(s:ByteArray) (c':Cur),o = .ext 0 [aV c',T s]∧s.size≤8∧c'.ok (B+20)) ?_ (c1,⟨⟨[]⟩⟩) ⟨k1.mono (by show B+2≤B+2+2*0;omega),by show 0≤8;omega⟩ rfl ?_
 ·rintro⟨ca,s⟩ ⟨h1,h2⟩
  simp only at h1 h2;by_cases hn:s.size<1+v
  ·have hn':(s.size:Int)<((1+v:Nat):Int):=by omega
   obtain⟨t,c2,e2,ht,k2⟩:=Ib ca W10 _ h1 (by omega) (by decide) (by decide);have hts:=DT t ht;have ha:=yO (a:=s) (b:=t) (by omega);refine .inl ⟨(c2,s++t),?_,⟨k2.mono (by simp only [Jw];omega),by simp only [Jw];omega⟩,by simp only [Jw];omega⟩
   simp -implicitDefEqProofs only [aY,jg,sg,Ji,lh,hn',decide_true,eX,if_true,aT,fV,e2,aO,ha]
  ·have hn':¬(s.size:Int)<((1+v:Nat):Int):=by omega
   refine .inr ⟨_,?_,rfl,s,ca,rfl,h2,h1.mono (by omega)⟩
   simp -implicitDefEqProofs only [aY,jg,sg,Ji,lh,hn',decide_false,eX,Ka,if_false]
 ·rintro o ⟨s,c',rfl,g1,g2⟩
  refine⟨s,c',?_,g1,g2⟩
  simp -implicitDefEqProofs only [wb,Nat.beq_refl,DO,if_true,aY,jg,aT,Ji]
def W4:List ByteArray:=[⟨⟨[]⟩⟩,⟨⟨[65]⟩⟩,⟨⟨[97,32,98]⟩⟩,⟨⟨[97,45,98]⟩⟩]
theorem Gs:∀s∈W4,s.size≤3:=by
 intro s hs;simp only [W4,JF,JO,or_false] at hs;rcases hs with rfl | rfl | rfl | rfl<;>decide
theorem xI (c:Cur) (B:Nat) (h:c.ok B) (hB:B≤900000000):∃(s:ByteArray) (c':Cur),bN [aV c]=some (.ret [T s] [aV c'])∧s.size≤20∧c'.ok (B+30):=by
 rw [oH];obtain⟨k,c1,e1,l1,u1,k1⟩:=gV c 30 B h (by omega) (by omega);have m4:bC 1 [T ⟨⟨[]⟩⟩,T ⟨⟨[65]⟩⟩,T ⟨⟨[97,32,98]⟩⟩,T ⟨⟨[97,45,98]⟩⟩]=some (txs W4):=Ex (l:=W4);obtain⟨s,c2,e2,h2,k2⟩:=Fz c1 _ k1 (by omega);simp -implicitDefEqProofs only [aT,Ji,fV,e1,aO,aY,sj,m4,tS',eX,decide_eq_true_eq];by_cases q0:k=0
 ·obtain⟨t,c3,e3,ht,k3⟩:=Ib c1 W4 _ k1 (by omega) (by decide) (by decide)
  have:=Gs t ht;refine⟨t,c3,?_,by omega,k3.mono (by omega)⟩
  rw [if_pos q0];simp -implicitDefEqProofs only [e3,aO,aY,aT,Ji]
 rw [if_neg q0];by_cases q1:k=1
 ·rw [if_pos q1]
  obtain⟨v,c3,e3,l3,u3,k3⟩:=gV c1 2 _ k1 (by omega) (by omega);obtain⟨v,rfl⟩:=JB l3;have hw:Jj.wrap (16+(v:Int))=((16+v:Nat):Int):=by rw [ay (by omega) (by omega)];omega
  simp -implicitDefEqProofs only [e3,aO,aY,pc,hw,Ji];refine eJ (fun X=>∃s c',X=some (.ret [T s] [aV c'])∧s.size≤20∧c'.ok (B+30)) (fun a:ByteArray=>[aV c3,T a,I ((16+v:Nat):Int)])
   (fun a=>a.size≤20) (fun a=>20 - a.size) (fun o=>∃(s:ByteArray),o = .ext 1 [aV c3,T s]∧s.size≤20) ?_ (⟨⟨[]⟩⟩) (by show 0≤20;omega) rfl ?_
  ·intro s h2
   by_cases hn:s.size<16+v
   ·have hn':(s.size:Int)<((16+v:Nat):Int):=by omega
    have hz:(⟨⟨[97]⟩⟩:ByteArray).size=1:=rfl;have ha:=yO (a:=s) (b:=⟨⟨[97]⟩⟩) (by omega);refine .inl ⟨s++⟨⟨[97]⟩⟩,?_,by simp only [Jw];omega,by simp only [Jw];omega⟩
    simp -implicitDefEqProofs only [aY,jg,sg,Ji,lh,hn',decide_true,eX,if_true,ha]
   ·have hn':¬(s.size:Int)<((16+v:Nat):Int):=by omega
    refine .inr ⟨_,?_,rfl,s,rfl,h2⟩
    simp -implicitDefEqProofs only [aY,jg,sg,Ji,lh,hn',decide_false,eX,Ka,if_false]
  ·rintro o ⟨s,rfl,g1⟩
   refine⟨s,c3,?_,g1,k3.mono (by omega)⟩
   simp -implicitDefEqProofs only [wb,Nat.beq_refl,DO,if_true,aY,jg,aT,Ji]
 rw [if_neg q1];by_cases q2:k=2
 ·rw [if_pos q2]
  have hz:(⟨⟨[122]⟩⟩:ByteArray).size=1:=rfl;have ha:=yO (a:=s) (b:=⟨⟨[122]⟩⟩) (by omega);refine⟨s++⟨⟨[122]⟩⟩,c2,?_,by simp only [Jw];omega,k2.mono (by omega)⟩
  simp -implicitDefEqProofs only [e2,aO,aY,aT,Ji,ha]
 ·rw [if_neg q2]
  refine⟨s,c2,?_,by omega,k2.mono (by omega)⟩
  simp -implicitDefEqProofs only [e2,aO,aY,aT,Ji]
abbrev sd (a b:Int) (t:ByteArray) (n:Int):D:=.agg [I a,I b,T t,I n]
theorem HV (a b:Int):jx [(0,1),(1,1)] [I 0,I 0,T ⟨⟨[]⟩⟩,I 0] [I a,I b]=some (sd a b ⟨⟨[]⟩⟩ 0):=by simp [jx,oI]
theorem st0 (a b:Int) (t:ByteArray) (n a' b':Int) (t':ByteArray) (n':Int):stD 4 (sd a b t n) (.ref 0 0) (sd a' b' t' n')=some (sd a' b' t' n'):=by simp [stD,D.cells,D.single,cd,D.ofCells]
theorem st1 (a b:Int) (t:ByteArray) (n v:Int):stD 1 (sd a b t n) (.ref 0 0) (I v)=some (sd v b t n):=by simp [stD,D.cells,D.single,cd,D.ofCells]
theorem st2 (a b:Int) (t:ByteArray) (n v:Int):stD 1 (sd a b t n) (.ref 0 1) (I v)=some (sd a v t n):=by simp [stD,D.cells,D.single,cd,D.ofCells]
theorem st3 (a b:Int) (t:ByteArray) (n:Int) (v:ByteArray):stD 1 (sd a b t n) (.ref 0 2) (T v)=some (sd a b v n):=by simp [stD,D.cells,D.single,cd,D.ofCells]
theorem st4 (a b:Int) (t:ByteArray) (n v:Int):stD 1 (sd a b t n) (.ref 0 3) (I v)=some (sd a b t v):=by simp [stD,D.cells,D.single,cd,D.ofCells]
theorem nU (a b:Int) (t:ByteArray) (n:Int):bM true 4 0 (sd a b t n)=some (sd a b t n):=by simp [bM,D.cells,D.ofCells,an]
theorem at0 (a b:Int) (t:ByteArray) (n:Int):(atD (sd a b t n) (.ref 0 0)).bind (an false 1)=some (I a):=by simp [atD,an,D.cells]
theorem qQ (c:Cur) (B:Nat) (h:c.ok B) (hB:B≤800000000):∃(x:Stp) (c':Cur),bq [aV c]=some (.ret [stp x] [aV c'])∧x.2.2.1.size≤20∧c'.ok (B+100):=by
 rw [nl];obtain⟨k,c1,e1,-,k1⟩:=mC c [1,1,1,2,2,3,3,4,5,6] B h (by omega) (by simp) (by simp);obtain⟨i,c2,e2,l2,u2,k2⟩:=gV c1 3 _ k1 (by omega) (by omega);have m1:=tn (l:=[1,1,1,2,2,3,3,4,5,6]);have m2:=tn (l:=[0,7]);have m3:=tn (l:=[0,99,100]);have m4:=tn (l:=[0,1,1001]);have m5:=tn (l:=[1,5,100,1000]);simp only [Jy,JV] at m1 m2 m3 m4 m5;have hz:(⟨⟨[]⟩⟩:ByteArray).size=0:=rfl;have tl:∀(c3:Cur),c3.ok (B+30)→∃(v:Int) (c4:Cur),aB [aV c3,I 40]=some (.ret [I v] [aV c4])∧c4.ok (B+32):=fun c3 hk=>by
  obtain⟨v,c4,e4,_,_,k4⟩:=gV c3 40 _ hk (by omega) (by omega);exact⟨v,c4,e4,k4⟩
 have a2:∀(c4:Cur),c4.ok (B+32)→∃(v:Int) (c5:Cur),aG [aV c4,nL [0,7]]=some (.ret [I v] [aV c5])∧c5.ok (B+34):=fun c4 hk=>by
  obtain⟨v,c5,e5,_,k5⟩:=mC c4 [0,7] _ hk (by omega) (by simp) (by simp);exact⟨v,c5,e5,k5⟩
 have a3:∀(c4:Cur),c4.ok (B+32)→∃(v:Int) (c5:Cur),aG [aV c4,nL [0,99,100]]=some (.ret [I v] [aV c5])∧c5.ok (B+34):=fun c4 hk=>by
  obtain⟨v,c5,e5,_,k5⟩:=mC c4 [0,99,100] _ hk (by omega) (by simp) (by simp);exact⟨v,c5,e5,k5⟩
 have a4:∀(c4:Cur),c4.ok (B+32)→∃(v:Int) (c5:Cur),aG [aV c4,nL [0,1,1001]]=some (.ret [I v] [aV c5])∧c5.ok (B+34):=fun c4 hk=>by
  obtain⟨v,c5,e5,_,k5⟩:=mC c4 [0,1,1001] _ hk (by omega) (by simp) (by simp);exact⟨v,c5,e5,k5⟩
 have a5:∀(c4:Cur),c4.ok (B+32)→∃(s:ByteArray) (c5:Cur),bN [aV c4]=some (.ret [T s] [aV c5])∧s.size≤20∧c5.ok (B+62):=fun c4 hk=>xI c4 _ hk (by omega)
 simp -implicitDefEqProofs only [aT,Ji,fV,e1,aO,aY,m1,e2,pc,HV,tS',st0,at0,sj,eX,decide_eq_true_eq];by_cases q1:k=1
 ·rw [if_pos q1]
  obtain⟨s,c3,e3,hs,k3⟩:=Fz c2 _ k2 (by omega);obtain⟨v,c4,e4,k4⟩:=tl c3 (k3.mono (by omega));simp -implicitDefEqProofs only [e3,aO,aY,Ji,aT,st3,fV,e4,sj,eX,decide_eq_true_eq,tS'];by_cases q2:v=0
  ·obtain⟨u,c5,e5,k5⟩:=a2 c4 k4
   exact⟨(u,Jj.wrap (1+i),s,0),c5,by rw [if_pos q2];simp -implicitDefEqProofs only [m2,e5,Ji,aO,aY,aT,st1,nU,st0]<;>rfl,by show s.size≤20;omega,k5.mono (by omega)⟩
  rw [if_neg q2];by_cases q3:v=1
  ·obtain⟨u,c5,e5,k5⟩:=a3 c4 k4
   exact⟨(k,u,s,0),c5,by rw [if_pos q3];simp -implicitDefEqProofs only [m3,e5,Ji,aO,aY,aT,st2,nU,st0]<;>rfl,by show s.size≤20;omega,k5.mono (by omega)⟩
  rw [if_neg q3];by_cases q4:v=2
  ·obtain⟨u,c5,e5,k5⟩:=a4 c4 k4
   exact⟨(k,Jj.wrap (1+i),s,u),c5,by rw [if_pos q4];simp -implicitDefEqProofs only [m4,e5,Ji,aO,aY,aT,st4,nU,st0]<;>rfl,by show s.size≤20;omega,k5.mono (by omega)⟩
  rw [if_neg q4];by_cases q5:v=3
  ·obtain⟨u,c5,e5,h5,k5⟩:=a5 c4 k4
   exact⟨(k,Jj.wrap (1+i),u,0),c5,by rw [if_pos q5];simp -implicitDefEqProofs only [e5,Ji,aO,aY,aT,st3,nU,st0]<;>rfl,h5,k5.mono (by omega)⟩
  ·exact⟨(k,Jj.wrap (1+i),s,0),c4,by rw [if_neg q5];simp -implicitDefEqProofs only [Ji,aO,aY,aT,nU,st0]<;>rfl,by show s.size≤20;omega,k4.mono (by omega)⟩
 rw [if_neg q1];have main:∀(n:Int) (c3:Cur),c3.ok (B+30)→∃(v:Int) (c4:Cur),aB [aV c3,I 40]=some (.ret [I v] [aV c4])∧c4.ok (B+32):=fun _ c3 hk=>tl c3 hk
 by_cases q3:k=3
 ·rw [if_pos q3]
  obtain⟨n,c3,e3,_,k3⟩:=mC c2 [1,5,100,1000] _ k2 (by omega) (by simp) (by simp);obtain⟨v,c4,e4,k4⟩:=tl c3 (k3.mono (by omega));simp -implicitDefEqProofs only [m5,e3,aO,aY,Ji,aT,st4,fV,e4,sj,eX,decide_eq_true_eq,tS'];by_cases q2:v=0
  ·obtain⟨u,c5,e5,k5⟩:=a2 c4 k4
   exact⟨(u,Jj.wrap (1+i),⟨⟨[]⟩⟩,n),c5,by rw [if_pos q2];simp -implicitDefEqProofs only [m2,e5,Ji,aO,aY,aT,st1,nU,st0]<;>rfl,by show 0≤20;omega,k5.mono (by omega)⟩
  rw [if_neg q2];by_cases q3:v=1
  ·obtain⟨u,c5,e5,k5⟩:=a3 c4 k4
   exact⟨(k,u,⟨⟨[]⟩⟩,n),c5,by rw [if_pos q3];simp -implicitDefEqProofs only [m3,e5,Ji,aO,aY,aT,st2,nU,st0]<;>rfl,by show 0≤20;omega,k5.mono (by omega)⟩
  rw [if_neg q3];by_cases q4:v=2
  ·obtain⟨u,c5,e5,k5⟩:=a4 c4 k4
   exact⟨(k,Jj.wrap (1+i),⟨⟨[]⟩⟩,u),c5,by rw [if_pos q4];simp -implicitDefEqProofs only [m4,e5,Ji,aO,aY,aT,st4,nU,st0]<;>rfl,by show 0≤20;omega,k5.mono (by omega)⟩
  rw [if_neg q4];by_cases q5:v=3
  ·obtain⟨u,c5,e5,h5,k5⟩:=a5 c4 k4
   exact⟨(k,Jj.wrap (1+i),u,n),c5,by rw [if_pos q5];simp -implicitDefEqProofs only [e5,Ji,aO,aY,aT,st3,nU,st0]<;>rfl,h5,k5.mono (by omega)⟩
  ·exact⟨(k,Jj.wrap (1+i),⟨⟨[]⟩⟩,n),c4,by rw [if_neg q5];simp -implicitDefEqProofs only [Ji,aO,aY,aT,nU,st0]<;>rfl,by show 0≤20;omega,k4.mono (by omega)⟩
 rw [if_neg q3];obtain⟨v,c4,e4,k4⟩:=tl c2 (k2.mono (by omega));simp -implicitDefEqProofs only [aO,aY,Ji,aT,fV,e4,sj,eX,decide_eq_true_eq,tS'];by_cases q2:v=0
 ·obtain⟨u,c5,e5,k5⟩:=a2 c4 k4
  exact⟨(u,Jj.wrap (1+i),⟨⟨[]⟩⟩,0),c5,by rw [if_pos q2];simp -implicitDefEqProofs only [m2,e5,Ji,aO,aY,aT,st1,nU,st0]<;>rfl,by show 0≤20;omega,k5.mono (by omega)⟩
 rw [if_neg q2];by_cases q3:v=1
 ·obtain⟨u,c5,e5,k5⟩:=a3 c4 k4
  exact⟨(k,u,⟨⟨[]⟩⟩,0),c5,by rw [if_pos q3];simp -implicitDefEqProofs only [m3,e5,Ji,aO,aY,aT,st2,nU,st0]<;>rfl,by show 0≤20;omega,k5.mono (by omega)⟩
 rw [if_neg q3];by_cases q4:v=2
 ·obtain⟨u,c5,e5,k5⟩:=a4 c4 k4
  exact⟨(k,Jj.wrap (1+i),⟨⟨[]⟩⟩,u),c5,by rw [if_pos q4];simp -implicitDefEqProofs only [m4,e5,Ji,aO,aY,aT,st4,nU,st0]<;>rfl,by show 0≤20;omega,k5.mono (by omega)⟩
 rw [if_neg q4];by_cases q5:v=3
 ·obtain⟨u,c5,e5,h5,k5⟩:=a5 c4 k4
  exact⟨(k,Jj.wrap (1+i),u,0),c5,by rw [if_pos q5];simp -implicitDefEqProofs only [e5,Ji,aO,aY,aT,st3,nU,st0]<;>rfl,h5,k5.mono (by omega)⟩
 ·exact⟨(k,Jj.wrap (1+i),⟨⟨[]⟩⟩,0),c4,by rw [if_neg q5];simp -implicitDefEqProofs only [Ji,aO,aY,aT,nU,st0]<;>rfl,by show 0≤20;omega,k4.mono (by omega)⟩
open Go Go.Proofs Go.V Go.RowKit
set_option maxRecDepth 100000
def Gd (s:Sp) (i:Nat):Prop:=∀j,j<i→bg (mvs s.1 (s.2.1.take (j+1)))=true
theorem Gd.succ {s:Sp} {i:Nat} (h:Gd s i) (h1:bg (mvs s.1 (s.2.1.take (i+1)))=true):Gd s (i+1):=fun j hj=>by
 by_cases e:j=i
 ·subst e
  exact h1
 ·exact h j (by omega)
end Go.Proofs.Ytkcojipciiakdaa

end
