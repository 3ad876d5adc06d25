/-
  A part of the proof: contracts and plain forms of functions beneath the statement, made small by a program (names shortened, what is not needed left out).
-/
import Derived.Test.YtioabeglbjlndaaDoorRows
import Derived.Test.YtioabeglbjlndaaDoorTie
import Derived.Test.YtioabeglbjlndaaDoorCards
import Derived.Test.YtioabeglbjlndaaDoorM4
import Derived.Lib.IndexBytes
import Derived.Lib.ReplaceLaws
import Derived.Laws.Bits64b
open Int renaming reduceLT → EP, reduceLE → EQ, reduceEq → ER, eq_ofNat_of_zero_le → Fp, not_lt → Ft, not_le → FI, toNat_natCast → FL
open Go.IntKind renaming i64 → ES, u8 → EV, u64 → EY, wrap_u8 → FR
open Option renaming map → ET, bind_some → EX, map_some → Fl
open Go.Value renaming int → EU, string → Fm
open List renaming getElem_mem → EW, length_map → Fc, length_cons → Ff, length_take → Fg, length_append → Fh, flatten_cons → Fj, nil_append → Fk, replicate → Fo, all_cons → Fr, length_singleton → Fs, map_append → Fu, foldl_cons → Fv, length_pos_iff → Fw, mem_singleton → Fy, mem_cons → Fz, getElem?_eq_some_iff → FC, drop_eq_getElem_cons → FD, getElem?_eq_getElem → FE, mem_append → FF, drop_zero → FH, cons_append → FM, drop_length → FN, length_nil → FQ, drop_drop → FT
open Bool renaming false_and → EZ, true_and → Fa, and_eq_true → Fb, not_eq_true → Fe, false_eq_true → Fi, not_true → Fq, and_true → FJ, eq_iff_iff → FP, not_false → FU
open Nat renaming le_refl → Fx, add_comm → FK
open Option.some renaming injEq → FA
open ByteArray renaming size → FG
open List.cons renaming injEq → FO
open Go.Lib renaming index → FV, count → FW
open Prod.mk renaming injEq → FX
set_option maxRecDepth 100000
set_option linter.unusedSimpArgs false
set_option linter.unusedVariables false
noncomputable section
namespace Go.Proofs.YtioabeglbjlndaaDoor
open Go Go.V
set_option maxRecDepth 100000
theorem je (x0:D):bI [x0]=((ab x0 (.ref 0 0)).bind fun z=>(ab z z).bind fun z=>(dk 1 z).bind fun z=>(((atD x0 z).bind (cN false 1)).bind bJ).bind fun z=>(ab x0 (.ref 0 0)).bind fun w=>(ab w w).bind fun zc=>(dk 0 zc).bind fun zd=>((atD x0 zd).bind (cN false 1)).bind fun ze=>(lenD false ze).bind fun zf=>(bin .lss false [] z zf).bind fun z=>ifD z ((ab x0 (.ref 0 0)).bind fun z=>(ab z z).bind fun z=>(dk 0 z).bind fun z=>((atD x0 z).bind (cN false 1)).bind fun z=>(ab x0 (.ref 0 0)).bind fun e=>(ab e e).bind fun g=>(dk 1 g).bind fun h=>(((atD x0 h).bind (cN false 1)).bind bJ).bind fun j=>(ET D.ptr (aT 1 z j)).bind fun z=>((ldD false 1 z).bind bJ).bind fun z=>(eg (some .i64) false z).bind fun z=>(ab x0 (.ref 0 0)).bind fun c=>(ab c c).bind fun k=>(dk 1 k).bind fun l=>(((atD x0 l).bind (cN false 1)).bind bJ).bind fun m=>(bin .add false [] m (I 1)).bind fun n=>(ab c c).bind fun p=>(dk 1 p).bind fun q=>(stD 1 x0 q n).bind fun b=>(ab b (.ref 0 0)).bind fun f=>(ab b (.ref 0 0)).bind fun d=>(ab d d).bind fun r=>(dk 2 r).bind fun t=>(((atD b t).bind (cN false 1)).bind bJ).bind fun u=>(bin .mul false [] u (.v (EU EY 6364136223846793005))).bind fun v=>(eg (some .u64) false z).bind fun zg=>(bin .add false [] v zg).bind fun zh=>(bin .add false [] zh (.v (EU EY 1442695040888963407))).bind fun zi=>(ab f f).bind fun zj=>(dk 2 zj).bind fun zk=>(stD 1 b zk zi).bind fun b=>(ab b (.ref 0 0)).bind fun za=>(ab za za).bind fun zl=>(dk 1 zl).bind fun zm=>(((atD b zm).bind (cN false 1)).bind bJ).bind fun zn=>(ab b (.ref 0 0)).bind fun zb=>(ab zb zb).bind fun zo=>(dk 0 zo).bind fun zp=>((atD b zp).bind (cN false 1)).bind fun zq=>(lenD false zq).bind fun zr=>(bin .leq false [] zn zr).bind fun zs=>ifD zs ((ab b b).bind fun _=>some (.ret [z] [b])) ((ab b (.ref 0 0)).bind fun z=>(ab z z).bind fun z=>(dk 2 z).bind fun z=>(((atD b z).bind (cN false 1)).bind bJ).bind fun z=>(bin .shr false [] z (.v (EU EY 40))).bind fun z=>(bin .and false [] z (.v (EU EY 255))).bind fun z=>(eg (some .i64) false z).bind fun z=>(ab b b).bind fun _=>some (.ret [z] [b]))) ((ab x0 (.ref 0 0)).bind fun z=>(ab z z).bind fun e=>(dk 1 e).bind fun g=>(((atD x0 g).bind (cN false 1)).bind bJ).bind fun h=>(bin .add false [] h (I 1)).bind fun j=>(ab z z).bind fun z=>(dk 1 z).bind fun z=>(stD 1 x0 z j).bind fun b=>(ab b (.ref 0 0)).bind fun z=>(ab b (.ref 0 0)).bind fun c=>(ab c c).bind fun k=>(dk 2 k).bind fun l=>(((atD b l).bind (cN false 1)).bind bJ).bind fun m=>(bin .mul false [] m (.v (EU EY 6364136223846793005))).bind fun n=>(eg (some .u64) false (I 0)).bind fun p=>(bin .add false [] n p).bind fun q=>(bin .add false [] q (.v (EU EY 1442695040888963407))).bind fun f=>(ab z z).bind fun z=>(dk 2 z).bind fun z=>(stD 1 b z f).bind fun b=>(ab b (.ref 0 0)).bind fun z=>(ab z z).bind fun z=>(dk 1 z).bind fun z=>(((atD b z).bind (cN false 1)).bind bJ).bind fun z=>(ab b (.ref 0 0)).bind fun d=>(ab d d).bind fun r=>(dk 0 r).bind fun t=>((atD b t).bind (cN false 1)).bind fun u=>(lenD false u).bind fun v=>(bin .leq false [] z v).bind fun z=>ifD z ((ab b b).bind fun _=>some (.ret [I 0] [b])) ((ab b (.ref 0 0)).bind fun z=>(ab z z).bind fun z=>(dk 2 z).bind fun z=>(((atD b z).bind (cN false 1)).bind bJ).bind fun z=>(bin .shr false [] z (.v (EU EY 40))).bind fun z=>(bin .and false [] z (.v (EU EY 255))).bind fun z=>(eg (some .i64) false z).bind fun z=>(ab b b).bind fun _=>some (.ret [z] [b])))):=by kernel_rfl
theorem pO (x0 x1:D):au [x0,x1]=((bin .leq false [] x1 (I 1)).bind fun z=>ifD z ((ab x0 x0).bind fun _=>some (.ret [I 0] [x0])) ((ab x0 (.ref 0 0)).bind fun z=>(bR z x0).bind fun i=>(ab i i).bind fun i=>ai (bI [i]) fun d c=>(bin .gtr false [] x1 (I 200)).bind fun z=>ifD z ((bin .mul false [] (sl d 0) (I 256)).bind fun z=>(ab (sl c 0) (.ref 0 0)).bind fun e=>(bR e (sl c 0)).bind fun i=>(ab i i).bind fun i=>ai (bI [i]) fun d c=>(bin .add false [] z (sl d 0)).bind fun z=>(bin .rem false [] z x1).bind fun z=>(ab (sl c 0) (sl c 0)).bind fun _=>some (.ret [z] [sl c 0])) ((bin .rem false [] (sl d 0) x1).bind fun z=>(ab (sl c 0) (sl c 0)).bind fun _=>some (.ret [z] [sl c 0])))):=by kernel_rfl
theorem qG (x0 x1:D):aV [x0,x1]=((ab x0 (.ref 0 0)).bind fun z=>(bR z x0).bind fun i=>(ab i i).bind fun i=>ai (au [i,x1]) fun d c=>(bin .eql false [] (sl d 0) (I 0)).bind fun z=>(ab (sl c 0) (sl c 0)).bind fun _=>some (.ret [z] [sl c 0])):=by kernel_rfl
theorem rv (x0 x1:D):bf [x0,x1]=((ab x0 (.ref 0 0)).bind fun z=>(lenD false x1).bind fun d=>(bR z x0).bind fun i=>(ab i i).bind fun i=>ai (au [i,d]) fun e c=>(ET D.ptr (aT 1 x1 (sl e 0))).bind fun z=>((ldD false 1 z).bind bJ).bind fun z=>(ab (sl c 0) (sl c 0)).bind fun _=>some (.ret [z] [sl c 0])):=by kernel_rfl
theorem oM (x0:D):cg [x0]=((ab x0 (.ref 0 0)).bind fun z=>(bR z x0).bind fun i=>(ab i i).bind fun i=>ai (au [i,I 6]) fun c d=>(bin .add false [] (I 1) (sl c 0)).bind fun z=>(aD (fun s=>(lenD true (sl s 1)).bind fun z=>(bin .lss false [] z (sl s 2)).bind fun z=>ifD z ((ab (sl s 0) (.ref 0 0)).bind fun z=>(aF 1 [.v (.string ⟨⟨[97]⟩⟩),.v (.string ⟨⟨[98]⟩⟩),.v (.string ⟨⟨[99]⟩⟩),.v (.string ⟨⟨[97,98]⟩⟩),.v (.string ⟨⟨[98,98]⟩⟩),.v (.string ⟨⟨[97,98,99]⟩⟩),.v (.string ⟨⟨[100]⟩⟩),.v (.string ⟨⟨[101]⟩⟩),.v (.string ⟨⟨[102]⟩⟩),.v (.string ⟨⟨[102,105]⟩⟩)]).bind fun a=>(bR z (sl s 0)).bind fun i=>(ab i i).bind fun i=>ai (bf [i,a]) fun c d=>(bin .add false [] (sl s 1) (sl c 0)).bind fun z=>some (.nrm [sl d 0,z,sl s 2])) (some (.ext 0 [sl s 0,sl s 1]))) [sl d 0,.v (.string ⟨⟨[]⟩⟩),z]).bind fun o=>bO o (fun i s=>ifN (i.beq 0) ((ab (sl s 0) (sl s 0)).bind fun _=>some (.ret [sl s 1] [sl s 0])) none) fun a b=>some (.ret a b)):=by kernel_rfl
theorem mx (x0:D):cR [x0]=((ab x0 (.ref 0 0)).bind fun z=>(bR z x0).bind fun i=>(ab i i).bind fun i=>ai (au [i,I 30]) fun d c=>(bin .eql false [] (sl d 0) (I 0)).bind fun z=>ifD z ((ab (sl c 0) (.ref 0 0)).bind fun z=>(aF 1 [.v (.string ⟨⟨[]⟩⟩),.v (.string ⟨⟨[65]⟩⟩),.v (.string ⟨⟨[97,32,98]⟩⟩),.v (.string ⟨⟨[97,45,98]⟩⟩)]).bind fun a=>(bR z (sl c 0)).bind fun i=>(ab i i).bind fun i=>ai (bf [i,a]) fun d c=>(ab (sl c 0) (sl c 0)).bind fun _=>some (.ret [sl d 0] [sl c 0])) ((bin .eql false [] (sl d 0) (I 1)).bind fun z=>ifD z ((ab (sl c 0) (.ref 0 0)).bind fun z=>(bR z (sl c 0)).bind fun i=>(ab i i).bind fun i=>ai (au [i,I 2]) fun d c=>(bin .add false [] (I 16) (sl d 0)).bind fun z=>(aD (fun s=>(lenD true (sl s 1)).bind fun z=>(bin .lss false [] z (sl s 2)).bind fun z=>ifD z ((bin .add false [] (sl s 1) (.v (.string ⟨⟨[97]⟩⟩))).bind fun z=>some (.nrm [sl s 0,z,sl s 2])) (some (.ext 1 [sl s 0,sl s 1]))) [sl c 0,.v (.string ⟨⟨[]⟩⟩),z]).bind fun o=>bO o (fun i s=>ifN (i.beq 1) ((ab (sl s 0) (sl s 0)).bind fun _=>some (.ret [sl s 1] [sl s 0])) (ifN (i.beq 0) ((ab (sl s 0) (.ref 0 0)).bind fun z=>(bR z (sl s 0)).bind fun i=>(ab i i).bind fun i=>ai (cg [i]) fun d c=>(ab (sl c 0) (sl c 0)).bind fun _=>some (.ret [sl d 0] [sl c 0])) none)) fun a b=>some (.ret a b)) ((bin .eql false [] (sl d 0) (I 2)).bind fun z=>ifD z ((ab (sl c 0) (.ref 0 0)).bind fun z=>(bR z (sl c 0)).bind fun i=>(ab i i).bind fun i=>ai (cg [i]) fun d c=>(bin .add false [] (sl d 0) (.v (.string ⟨⟨[122]⟩⟩))).bind fun z=>(ab (sl c 0) (sl c 0)).bind fun _=>some (.ret [z] [sl c 0])) ((ab (sl c 0) (.ref 0 0)).bind fun z=>(bR z (sl c 0)).bind fun i=>(ab i i).bind fun i=>ai (cg [i]) fun d c=>(ab (sl c 0) (sl c 0)).bind fun _=>some (.ret [sl d 0] [sl c 0]))))):=by kernel_rfl
theorem lE (x0:D):cJ [x0]=((ab x0 (.ref 0 0)).bind fun z=>(bR z x0).bind fun i=>(ab i i).bind fun i=>ai (aV [i,I 12]) fun d c=>ifD (sl d 0) ((ab (sl c 0) (.ref 0 0)).bind fun z=>(bR z (sl c 0)).bind fun i=>(ab i i).bind fun i=>ai (cR [i]) fun d c=>(ab (sl c 0) (sl c 0)).bind fun _=>some (.ret [sl d 0] [sl c 0])) ((ab (sl c 0) (.ref 0 0)).bind fun z=>(bR z (sl c 0)).bind fun i=>(ab i i).bind fun i=>ai (au [i,I 8]) fun d c=>(bin .add false [] (I 2) (sl d 0)).bind fun z=>(aD (fun s=>(lenD true (sl s 1)).bind fun z=>(bin .lss false [] z (sl s 2)).bind fun z=>ifD z ((ab (sl s 0) (.ref 0 0)).bind fun z=>(aF 1 [.v (.string ⟨⟨[97]⟩⟩),.v (.string ⟨⟨[98]⟩⟩),.v (.string ⟨⟨[99]⟩⟩),.v (.string ⟨⟨[100]⟩⟩),.v (.string ⟨⟨[97,98]⟩⟩),.v (.string ⟨⟨[98,97]⟩⟩)]).bind fun a=>(bR z (sl s 0)).bind fun i=>(ab i i).bind fun i=>ai (bf [i,a]) fun d c=>(bin .add false [] (sl s 1) (sl d 0)).bind fun z=>some (.nrm [sl c 0,z,sl s 2])) (some (.ext 0 [sl s 0,sl s 1]))) [sl c 0,.v (.string ⟨⟨[]⟩⟩),z]).bind fun o=>bO o (fun i s=>ifN (i.beq 0) ((ab (sl s 0) (sl s 0)).bind fun _=>some (.ret [sl s 1] [sl s 0])) none) fun a b=>some (.ret a b))):=by kernel_rfl
theorem lW (x0:D):bE [x0]=((ab x0 (.ref 0 0)).bind fun z=>(bR z x0).bind fun i=>(ab i i).bind fun i=>ai (au [i,I 3]) fun d c=>(bin .add false [] (I 1) (sl d 0)).bind fun z=>(aD (fun s=>(bin .gtr false [] (sl s 2) (I 0)).bind fun z=>ifD z ((ab (sl s 0) (.ref 0 0)).bind fun z=>(aF 1 [.v (.string ⟨⟨[]⟩⟩),.v (.string ⟨⟨[]⟩⟩),.v (.string ⟨⟨[49]⟩⟩),.v (.string ⟨⟨[50]⟩⟩),.v (.string ⟨⟨[51]⟩⟩)]).bind fun a=>(bR z (sl s 0)).bind fun i=>(ab i i).bind fun i=>ai (bf [i,a]) fun d c=>(ab (sl c 0) (.ref 0 0)).bind fun z=>(aF 1 [.v (.string ⟨⟨[97]⟩⟩),.v (.string ⟨⟨[98]⟩⟩),.v (.string ⟨⟨[99]⟩⟩),.v (.string ⟨⟨[100]⟩⟩)]).bind fun a=>(bR z (sl c 0)).bind fun i=>(ab i i).bind fun i=>ai (bf [i,a]) fun e c=>(bin .add false [] (sl d 0) (sl e 0)).bind fun z=>(bin .add false [] (sl s 1) z).bind fun z=>(bin .sub false [] (sl s 2) (I 1)).bind fun f=>some (.nrm [sl c 0,z,f])) (some (.ext 0 [sl s 0,sl s 1]))) [sl c 0,.v (.string ⟨⟨[]⟩⟩),z]).bind fun o=>bO o (fun i s=>ifN (i.beq 0) ((ab (sl s 0) (.ref 0 0)).bind fun z=>(bR z (sl s 0)).bind fun i=>(ab i i).bind fun i=>ai (au [i,I 30]) fun d c=>(bin .eql false [] (sl d 0) (I 0)).bind fun z=>ifD z ((ab (sl c 0) (.ref 0 0)).bind fun z=>(aF 1 [.v (.string ⟨⟨[]⟩⟩),.v (.string ⟨⟨[49]⟩⟩),.v (.string ⟨⟨[49,49,97]⟩⟩),.v (.string ⟨⟨[97,49,98,49]⟩⟩),.v (.string ⟨⟨[48,97]⟩⟩),.v (.string ⟨⟨[97,98]⟩⟩),.v (.string ⟨⟨[97,98,99,100,101,102,49]⟩⟩),.v (.string ⟨⟨[97,98,99,100,101,102,103,49]⟩⟩),.v (.string ⟨⟨[65,49]⟩⟩),.v (.string ⟨⟨[57,97,57]⟩⟩)]).bind fun a=>(bR z (sl c 0)).bind fun i=>(ab i i).bind fun i=>ai (bf [i,a]) fun d c=>(ab (sl c 0) (sl c 0)).bind fun _=>some (.ret [sl d 0] [sl c 0])) ((bin .eql false [] (sl d 0) (I 1)).bind fun z=>ifD z ((ab (sl c 0) (sl c 0)).bind fun _=>some (.ret [sl s 1] [sl c 0])) ((ab (sl c 0) (.ref 0 0)).bind fun z=>(aF 1 [.v (.string ⟨⟨[49]⟩⟩),.v (.string ⟨⟨[49]⟩⟩),.v (.string ⟨⟨[50]⟩⟩),.v (.string ⟨⟨[51]⟩⟩)]).bind fun a=>(bR z (sl c 0)).bind fun i=>(ab i i).bind fun i=>ai (bf [i,a]) fun d c=>(bin .add false [] (sl s 1) (sl d 0)).bind fun z=>(ab (sl c 0) (sl c 0)).bind fun _=>some (.ret [z] [sl c 0])))) none) fun a b=>some (.ret a b)):=by kernel_rfl
theorem lH (x0:D):cI [x0]=((ab x0 (.ref 0 0)).bind fun z=>(bR z x0).bind fun i=>(ab i i).bind fun i=>ai (au [i,I 6]) fun d c=>(ab (sl c 0) (.ref 0 0)).bind fun z=>(bR z (sl c 0)).bind fun i=>(ab i i).bind fun i=>ai (aV [i,I 16]) fun e c=>ifD (sl e 0) ((ab (sl c 0) (.ref 0 0)).bind fun z=>(bR z (sl c 0)).bind fun i=>(ab i i).bind fun i=>ai (au [i,I 2]) fun d c=>(bin .add false [] (I 20) (sl d 0)).bind fun z=>(aD (fun s=>(ab (sl s 1) (.ref 0 0)).bind fun z=>((ab z (sl s 1)).bind (lenD false)).bind fun z=>(bin .lss false [] z (sl s 2)).bind fun z=>ifD z ((ab (sl s 0) (.ref 0 0)).bind fun z=>(bR z (sl s 0)).bind fun i=>(ab i i).bind fun i=>ai (bE [i]) fun d c=>(aF 1 [sl d 0]).bind fun a=>(ie a).bind fun b=>(eL 1 16 (sl s 1) b).bind fun y=>some (.nrm [sl c 0,y,sl s 2])) (some (.ext 0 [sl s 0,sl s 1]))) [sl c 0,.arr 1 [],z]).bind fun o=>bO o (fun i s=>ifN (i.beq 0) ((ab (sl s 0) (sl s 0)).bind fun _=>some (.ret [sl s 1] [sl s 0])) none) fun a b=>some (.ret a b)) ((aD (fun s=>(ab (sl s 1) (.ref 0 0)).bind fun z=>((ab z (sl s 1)).bind (lenD false)).bind fun z=>(bin .lss false [] z (sl s 2)).bind fun z=>ifD z ((ab (sl s 0) (.ref 0 0)).bind fun z=>(bR z (sl s 0)).bind fun i=>(ab i i).bind fun i=>ai (bE [i]) fun d c=>(aF 1 [sl d 0]).bind fun a=>(ie a).bind fun b=>(eL 1 16 (sl s 1) b).bind fun y=>some (.nrm [sl c 0,y,sl s 2])) (some (.ext 0 [sl s 0,sl s 1]))) [sl c 0,.arr 1 [],sl d 0]).bind fun o=>bO o (fun i s=>ifN (i.beq 0) ((ab (sl s 0) (sl s 0)).bind fun _=>some (.ret [sl s 1] [sl s 0])) none) fun a b=>some (.ret a b))):=by kernel_rfl
theorem kH (x0 x1:D):aJ [x0,x1]=((itD x1).bind fun y=>(aD (fun s=>(nxS (sl s 3)).bind fun y=>(aB (nxT (sl s 3)) 0).bind fun z=>ifD z ((aB (nxT (sl s 3)) 1).bind fun z=>(bin .gtr false [] z (I 0)).bind fun e=>(aq D.bad e true (ab (sl s 0) (.ref 0 0))).bind fun h=>eE e true ((bR h (sl s 0)).bind fun i=>(ab i i).bind fun i=>ai (aV [i,I 3]) fun d c=>some (.nrm [sl d 0,sl c 0])) [.tup [],sl s 0] fun f=>(bm e (sl f 0) (B false)).bind fun j=>ifD j ((bin .add false [] (sl s 2) (.v (.string ⟨⟨[45]⟩⟩))).bind fun g=>(bin .add false [] z (I 1)).bind fun k=>(dj true 0 (sl s 1) z k).bind fun z=>(bin .add false [] g z).bind fun z=>some (.nrm [sl f 1,sl s 1,z,y])) ((bin .add false [] z (I 1)).bind fun g=>(dj true 0 (sl s 1) z g).bind fun z=>(bin .add false [] (sl s 2) z).bind fun z=>some (.nrm [sl f 1,sl s 1,z,y]))) (some (.ext 0 [sl s 0,sl s 2]))) [x0,x1,.v (.string ⟨⟨[]⟩⟩),y]).bind fun o=>bO o (fun i s=>ifN (i.beq 0) ((ab (sl s 0) (.ref 0 0)).bind fun z=>(bR z (sl s 0)).bind fun i=>(ab i i).bind fun i=>ai (aV [i,I 24]) fun d c=>ifD (sl d 0) ((ab (sl c 0) (.ref 0 0)).bind fun z=>(aF 1 [.v (.string ⟨⟨[]⟩⟩),.v (.string ⟨⟨[97]⟩⟩),.v (.string ⟨⟨[45,97,98]⟩⟩),.v (.string ⟨⟨[97,98,45]⟩⟩),.v (.string ⟨⟨[97,45,45,98]⟩⟩),.v (.string ⟨⟨[65,45,98]⟩⟩),.v (.string ⟨⟨[97,98,99,100,101,102,103,104,105,106,107,108,109,110,111,112]⟩⟩),.v (.string ⟨⟨[97,98,99,100,101,102,103,104,105,106,107,108,109,110,111,112,113]⟩⟩)]).bind fun a=>(bR z (sl c 0)).bind fun i=>(ab i i).bind fun i=>ai (bf [i,a]) fun d c=>(ab (sl c 0) (sl c 0)).bind fun _=>some (.ret [sl d 0] [sl c 0])) ((ab (sl c 0) (sl c 0)).bind fun _=>some (.ret [sl s 1] [sl c 0]))) none) fun a b=>some (.ret a b)):=by kernel_rfl
theorem kf (x0 x1:D):cd [x0,x1]=((ab x0 (.ref 0 0)).bind fun z=>(bR z x0).bind fun i=>(ab i i).bind fun i=>ai (aV [i,I 3]) fun d c=>(aq (.tup []) (sl d 0) true (some x1)).bind fun z=>(aq (.tup []) (sl d 0) true (lenD true z)).bind fun z=>(aq (.tup []) (sl d 0) true (bin .gtr false [] z (I 1))).bind fun z=>(bm (sl d 0) z (B false)).bind fun z=>ifD z ((ab (sl c 0) (.ref 0 0)).bind fun z=>(bR z (sl c 0)).bind fun i=>(ab i i).bind fun i=>ai (aJ [i,x1]) fun d c=>(aF 1 [sl d 0]).bind fun a=>(ie a).bind fun b=>(eL 1 16 (.arr 1 []) b).bind fun y=>(ab (sl c 0) (.ref 0 0)).bind fun z=>(bR z (sl c 0)).bind fun i=>(ab i i).bind fun i=>ai (au [i,I 3]) fun d c=>(ab (sl c 0) (.ref 0 0)).bind fun z=>(bR z (sl c 0)).bind fun i=>(ab i i).bind fun i=>ai (aV [i,I 16]) fun m c=>ifD (sl m 0) ((ab y (.ref 0 0)).bind fun z=>((ab z y).bind (lenD false)).bind fun z=>(bin .sub false [] (I 20) z).bind fun z=>(ab (sl c 0) (.ref 0 0)).bind fun e=>(bR e (sl c 0)).bind fun i=>(ab i i).bind fun i=>ai (au [i,I 2]) fun d c=>(bin .add false [] z (sl d 0)).bind fun z=>(aD (fun s=>(bin .lss false [] (sl s 3) (sl s 2)).bind fun z=>ifD z ((ab (sl s 0) (.ref 0 0)).bind fun z=>(bin .rem false [] (sl s 3) (I 26)).bind fun f=>(bin .add false [] (I 97) f).bind fun g=>(eg (some .u8) false g).bind fun h=>(bin .quo false [] (sl s 3) (I 26)).bind fun j=>(bin .add false [] (I 101) j).bind fun k=>(eg (some .u8) false k).bind fun l=>(aF 1 [h,l,.v (EU EV 98),.v (EU EV 97)]).bind fun a=>(rA a).bind fun n=>(bR z (sl s 0)).bind fun i=>(ab i i).bind fun i=>ai (aJ [i,n]) fun d c=>(aF 1 [sl d 0]).bind fun a=>(ie a).bind fun b=>(eL 1 16 (sl s 1) b).bind fun y=>(bin .add false [] (sl s 3) (I 1)).bind fun z=>some (.nrm [sl c 0,y,sl s 2,z])) (some (.ext 0 [sl s 0,sl s 1]))) [sl c 0,y,z,I 0]).bind fun o=>bO o (fun i s=>ifN (i.beq 0) ((ab (sl s 0) (sl s 0)).bind fun _=>some (.ret [sl s 1] [sl s 0])) none) fun a b=>some (.ret a b)) ((aD (fun s=>(bin .lss false [] (sl s 3) (sl s 2)).bind fun z=>ifD z ((ab (sl s 0) (.ref 0 0)).bind fun z=>(bin .rem false [] (sl s 3) (I 26)).bind fun e=>(bin .add false [] (I 97) e).bind fun f=>(eg (some .u8) false f).bind fun g=>(bin .quo false [] (sl s 3) (I 26)).bind fun h=>(bin .add false [] (I 101) h).bind fun j=>(eg (some .u8) false j).bind fun k=>(aF 1 [g,k,.v (EU EV 98),.v (EU EV 97)]).bind fun a=>(rA a).bind fun l=>(bR z (sl s 0)).bind fun i=>(ab i i).bind fun i=>ai (aJ [i,l]) fun d c=>(aF 1 [sl d 0]).bind fun a=>(ie a).bind fun b=>(eL 1 16 (sl s 1) b).bind fun y=>(bin .add false [] (sl s 3) (I 1)).bind fun z=>some (.nrm [sl c 0,y,sl s 2,z])) (some (.ext 0 [sl s 0,sl s 1]))) [sl c 0,y,sl d 0,I 0]).bind fun o=>bO o (fun i s=>ifN (i.beq 0) ((ab (sl s 0) (sl s 0)).bind fun _=>some (.ret [sl s 1] [sl s 0])) none) fun a b=>some (.ret a b))) ((ab (sl c 0) (.ref 0 0)).bind fun z=>(bR z (sl c 0)).bind fun i=>(ab i i).bind fun i=>ai (au [i,I 3]) fun d c=>(ab (sl c 0) (.ref 0 0)).bind fun z=>(bR z (sl c 0)).bind fun i=>(ab i i).bind fun i=>ai (aV [i,I 16]) fun m c=>ifD (sl m 0) ((ab (.arr 1 []) (.ref 0 0)).bind fun z=>((ab z (.arr 1 [])).bind (lenD false)).bind fun z=>(bin .sub false [] (I 20) z).bind fun z=>(ab (sl c 0) (.ref 0 0)).bind fun e=>(bR e (sl c 0)).bind fun i=>(ab i i).bind fun i=>ai (au [i,I 2]) fun d c=>(bin .add false [] z (sl d 0)).bind fun z=>(aD (fun s=>(bin .lss false [] (sl s 3) (sl s 2)).bind fun z=>ifD z ((ab (sl s 0) (.ref 0 0)).bind fun z=>(bin .rem false [] (sl s 3) (I 26)).bind fun f=>(bin .add false [] (I 97) f).bind fun g=>(eg (some .u8) false g).bind fun h=>(bin .quo false [] (sl s 3) (I 26)).bind fun j=>(bin .add false [] (I 101) j).bind fun k=>(eg (some .u8) false k).bind fun l=>(aF 1 [h,l,.v (EU EV 98),.v (EU EV 97)]).bind fun a=>(rA a).bind fun n=>(bR z (sl s 0)).bind fun i=>(ab i i).bind fun i=>ai (aJ [i,n]) fun d c=>(aF 1 [sl d 0]).bind fun a=>(ie a).bind fun b=>(eL 1 16 (sl s 1) b).bind fun y=>(bin .add false [] (sl s 3) (I 1)).bind fun z=>some (.nrm [sl c 0,y,sl s 2,z])) (some (.ext 0 [sl s 0,sl s 1]))) [sl c 0,.arr 1 [],z,I 0]).bind fun o=>bO o (fun i s=>ifN (i.beq 0) ((ab (sl s 0) (sl s 0)).bind fun _=>some (.ret [sl s 1] [sl s 0])) none) fun a b=>some (.ret a b)) ((aD (fun s=>(bin .lss false [] (sl s 3) (sl s 2)).bind fun z=>ifD z ((ab (sl s 0) (.ref 0 0)).bind fun z=>(bin .rem false [] (sl s 3) (I 26)).bind fun e=>(bin .add false [] (I 97) e).bind fun f=>(eg (some .u8) false f).bind fun g=>(bin .quo false [] (sl s 3) (I 26)).bind fun h=>(bin .add false [] (I 101) h).bind fun j=>(eg (some .u8) false j).bind fun k=>(aF 1 [g,k,.v (EU EV 98),.v (EU EV 97)]).bind fun a=>(rA a).bind fun l=>(bR z (sl s 0)).bind fun i=>(ab i i).bind fun i=>ai (aJ [i,l]) fun d c=>(aF 1 [sl d 0]).bind fun a=>(ie a).bind fun b=>(eL 1 16 (sl s 1) b).bind fun y=>(bin .add false [] (sl s 3) (I 1)).bind fun z=>some (.nrm [sl c 0,y,sl s 2,z])) (some (.ext 0 [sl s 0,sl s 1]))) [sl c 0,.arr 1 [],sl d 0,I 0]).bind fun o=>bO o (fun i s=>ifN (i.beq 0) ((ab (sl s 0) (sl s 0)).bind fun _=>some (.ret [sl s 1] [sl s 0])) none) fun a b=>some (.ret a b)))):=by kernel_rfl
theorem jT (x0:D):bt [x0]=((vr [(0,1)] [.arr 1 [],I 0,.v (EU EY 0)] [x0]).bind fun z=>(qf 3 z).bind fun y=>(ab y (.ref 0 0)).bind fun z=>(ab z z).bind fun e=>(bR e y).bind fun i=>(ab i i).bind fun i=>ai (cJ [i]) fun d c=>(ab z z).bind fun f=>(bR f (sl c 0)).bind fun i=>(ab i i).bind fun i=>ai (cI [i]) fun g c=>(ab z z).bind fun z=>(bR z (sl c 0)).bind fun i=>(ab i i).bind fun i=>ai (cd [i,sl d 0]) fun h _=>some (.ret [sl g 0,sl h 0,sl d 0] [])):=by kernel_rfl
theorem kZ (x0:D):cy [x0]=(ai (bt [x0]) fun c _=>(aB (.tup c) 0).bind fun y=>(aB (bd (.tup c) 0) 1).bind fun d=>(aB (bd (bd (.tup c) 0) 1) 2).bind fun z=>some (.ret [y,d,z] [])):=by kernel_rfl
theorem sV (x0:D):fR [x0]=((bin .geq false [] x0 (.v (EU EV 49))).bind fun z=>(aq (.tup []) z true (some x0)).bind fun c=>(aq (.tup []) z true (bin .leq false [] c (.v (EU EV 57)))).bind fun d=>(bm z d (B false)).bind fun z=>some (.ret [z] [])):=by kernel_rfl
theorem tA (x0 x1 x2:D):cB [x0,x1,x2]=((bin .geq false [] x0 x1).bind fun z=>(aq (.tup []) z true (some x0)).bind fun c=>(aq (.tup []) z true (some x2)).bind fun d=>(aq (.tup []) z true (bin .leq false [] c d)).bind fun e=>(bm z e (B false)).bind fun z=>some (.ret [z] [])):=by kernel_rfl
theorem xj (x0:D):kL [x0]=((lenD false x0).bind fun z=>(aD (fun s=>(bin .lss false [] (sl s 3) (sl s 2)).bind fun z=>ifD z ((ET D.ptr (aT 1 (sl s 1) (sl s 3))).bind fun z=>((ldD false 1 z).bind bJ).bind fun z=>(bin .add false [] (sl s 0) z).bind fun z=>(bin .add false [] (sl s 3) (I 1)).bind fun c=>some (.nrm [z,sl s 1,sl s 2,c])) (some (.ext 0 [sl s 0]))) [I 0,x0,z,I 0]).bind fun o=>bO o (fun i s=>ifN (i.beq 0) (some (.ret [sl s 0] [])) none) fun a b=>some (.ret a b)):=by kernel_rfl
theorem oo (x0:D):cE [x0]=((aF 1 [I 0]).bind fun a=>(aD (fun s=>(lenD true (sl s 0)).bind fun z=>(bin .lss false [] (sl s 3) z).bind fun z=>ifD z ((ab (sl s 2) (.ref 0 0)).bind fun z=>((ab z (sl s 2)).bind (lenD false)).bind fun z=>(bin .sub false [] z (I 1)).bind fun z=>(eN (sl s 0) (sl s 3)).bind fun d=>ai (fR [d]) fun c _=>(aq D.bad (sl c 0) true (ab (sl s 2) (.ref 0 0))).bind fun e=>(aq (.tup []) (sl c 0) true (some z)).bind fun f=>(aq D.bad (sl c 0) true ((ab e (sl s 2)).bind fun b=>mA 1 b f)).bind fun g=>(aq (.tup []) (sl c 0) true ((atD (sl s 2) g).bind (cN false 1))).bind fun m=>(aq (.tup []) (sl c 0) true (bin .eql false [] m (I 0))).bind fun n=>(bm (sl c 0) n (B false)).bind fun p=>ifD p ((ab (sl s 2) (.ref 0 0)).bind fun h=>(eN (sl s 0) (sl s 3)).bind fun j=>(bin .sub false [] j (.v (EU EV 48))).bind fun k=>(eg (some .i64) false k).bind fun l=>((ab h (sl s 2)).bind fun b=>mA 1 b z).bind fun z=>(stD 1 (sl s 2) z l).bind fun b=>(bin .add false [] (sl s 3) (I 1)).bind fun z=>some (.nrm [sl s 0,sl s 1,b,z])) ((eN (sl s 0) (sl s 3)).bind fun z=>(bin .geq false [] z (.v (EU EV 97))).bind fun z=>(aq (.tup []) z true (some (sl s 0))).bind fun h=>(aq (.tup []) z true (some (sl s 3))).bind fun j=>(aq (.tup []) z true (eN h j)).bind fun k=>(aq (.tup []) z true (bin .leq false [] k (.v (EU EV 122)))).bind fun l=>(bm z l (B false)).bind fun z=>ifD z ((bin .add false [] (sl s 3) (I 1)).bind fun z=>(dj true 0 (sl s 0) (sl s 3) z).bind fun z=>(bin .add false [] (sl s 1) z).bind fun z=>(aF 1 [I 0]).bind fun a=>(ie a).bind fun b=>(eL 1 8 (sl s 2) b).bind fun y=>(bin .add false [] (sl s 3) (I 1)).bind fun q=>some (.nrm [sl s 0,z,y,q])) (some (.ret [.v (.string ⟨⟨[]⟩⟩),.arr 1 [],B false] [])))) (some (.ext 0 [sl s 1,sl s 2]))) [x0,.v (.string ⟨⟨[]⟩⟩),a,I 0]).bind fun o=>bO o (fun i s=>ifN (i.beq 0) ((ab (sl s 1) (.ref 0 0)).bind fun z=>(lenD true (sl s 0)).bind fun d=>ai (cB [d,I 1,I 6]) fun c _=>(aq D.bad (sl c 0) true (ab (sl s 1) (.ref 0 0))).bind fun e=>eE (sl c 0) true ((ab e (sl s 1)).bind fun i=>ai (kL [i]) fun c _=>some (.nrm [sl c 0])) [.tup []] fun r=>(aq (.tup []) (sl c 0) true (bin .gtr false [] (sl r 0) (I 0))).bind fun f=>(bm (sl c 0) f (B false)).bind fun g=>(ab z (sl s 1)).bind fun y=>some (.ret [sl s 0,y,g] [])) none) fun a b=>some (.ret a b)):=by kernel_rfl
theorem pS (x0:D):ew [x0]=(ai (cE [x0]) fun c _=>(aB (.tup c) 0).bind fun _=>(aB (.tup c) 1).bind fun _=>(aB (.tup c) 2).bind fun z=>some (.ret [z] [])):=by kernel_rfl
theorem nY (x0:D):dI [x0]=((lenD false x0).bind fun z=>(aD (fun s=>(bin .lss false [] (sl s 3) (sl s 2)).bind fun z=>ifD z ((ET D.ptr (aT 1 (sl s 1) (sl s 3))).bind fun z=>((ldD false 1 z).bind bJ).bind fun z=>ai (ew [z]) fun c _=>(un .not (sl c 0)).bind fun z=>ifD z (some (.ret [B false] [])) ((bin .add false [] (sl s 3) (I 1)).bind fun z=>some (.nrm [sl s 0,sl s 1,sl s 2,z]))) (some (.ext 0 [sl s 0]))) [x0,x0,z,I 0]).bind fun o=>bO o (fun i s=>ifN (i.beq 0) ((lenD false (sl s 0)).bind fun z=>(bin .leq false [] z (I 20)).bind fun z=>some (.ret [z] [])) none) fun a b=>some (.ret a b)):=by kernel_rfl
theorem pK (x0 x1 x2:D):cY [x0,x1,x2]=((aD (fun s=>(lenD true (sl s 0)).bind fun z=>(bin .lss false [] (sl s 3) z).bind fun z=>ifD z ((eN (sl s 0) (sl s 3)).bind fun z=>(bin .lss false [] z (.v (EU EV 97))).bind fun z=>(aq (.tup []) z false (some (sl s 0))).bind fun c=>(aq (.tup []) z false (some (sl s 3))).bind fun d=>(aq (.tup []) z false (eN c d)).bind fun e=>(aq (.tup []) z false (bin .gtr false [] e (.v (EU EV 122)))).bind fun f=>(bm z (B true) f).bind fun z=>ifD z (some (.ret [B false] [])) ((bin .add false [] (sl s 3) (I 1)).bind fun z=>some (.nrm [sl s 0,sl s 1,sl s 2,z]))) (some (.ext 0 [sl s 0,sl s 1,sl s 2]))) [x0,x1,x2,I 0]).bind fun o=>bO o (fun i s=>ifN (i.beq 0) ((lenD true (sl s 0)).bind fun z=>ai (cB [z,sl s 1,sl s 2]) fun g _=>some (.ret [sl g 0] [])) none) fun a b=>some (.ret a b)):=by kernel_rfl
theorem uQ (x0:D):eB [x0]=(ai (fe [x0,.v (.string ⟨⟨[45]⟩⟩),.v (.string ⟨⟨[]⟩⟩)]) fun c _=>some (.ret [sl c 0] [])):=by kernel_rfl
theorem nN (x0:D):dG [x0]=(ai (nO [x0,.v (.string ⟨⟨[45]⟩⟩)]) fun c _=>(lenD false (sl c 0)).bind fun z=>(aD (fun s=>(bin .lss false [] (sl s 3) (sl s 2)).bind fun z=>ifD z ((ET D.ptr (aT 1 (sl s 1) (sl s 3))).bind fun z=>((ldD false 1 z).bind bJ).bind fun z=>ai (cY [z,I 1,I 16]) fun c _=>(un .not (sl c 0)).bind fun z=>ifD z (some (.ret [B false] [])) ((bin .add false [] (sl s 3) (I 1)).bind fun z=>some (.nrm [sl s 0,sl s 1,sl s 2,z]))) (some (.ext 0 [sl s 0]))) [x0,sl c 0,z,I 0]).bind fun o=>bO o (fun i s=>ifN (i.beq 0) (ai (eB [sl s 0]) fun c _=>(lenD true (sl c 0)).bind fun z=>ai (cB [z,I 2,I 16]) fun c _=>some (.ret [sl c 0] [])) none) fun a b=>some (.ret a b)):=by kernel_rfl
theorem nV (x0 x1:D):cH [x0,x1]=((lenD false x0).bind fun z=>(aD (fun s=>(bin .lss false [] (sl s 3) (sl s 2)).bind fun z=>ifD z ((ET D.ptr (aT 1 (sl s 1) (sl s 3))).bind fun z=>((ldD false 1 z).bind bJ).bind fun z=>ai (eB [z]) fun c _=>(bin .eql false [] (sl c 0) (sl s 0)).bind fun z=>ifD z (some (.ret [sl s 3] [])) ((bin .add false [] (sl s 3) (I 1)).bind fun z=>some (.nrm [sl s 0,sl s 1,sl s 2,z]))) (some (.ext 0 []))) [x1,x0,z,I 0]).bind fun o=>bO o (fun i _=>ifN (i.beq 0) (some (.ret [I (-1)] [])) none) fun a b=>some (.ret a b)):=by kernel_rfl
theorem mz (x0:D):dc [x0]=((lenD false x0).bind fun z=>(aD (fun s=>(bin .lss false [] (sl s 3) (sl s 2)).bind fun z=>ifD z ((ET D.ptr (aT 1 (sl s 1) (sl s 3))).bind fun z=>((ldD false 1 z).bind bJ).bind fun z=>ai (dG [z]) fun d _=>(un .not (sl d 0)).bind fun c=>(aq (.tup []) c false (some (sl s 0))).bind fun f=>(aq (.tup []) c false (some (sl s 3))).bind fun g=>(aq (.tup []) c false (dj false 1 f (I 0) g)).bind fun h=>(aq (.tup []) c false (some z)).bind fun z=>eE c false (ai (eB [z]) fun d _=>some (.nrm [sl d 0])) [.tup []] fun e=>eE c false (ai (cH [h,sl e 0]) fun d _=>some (.nrm [sl d 0])) [.tup []] fun e=>(aq (.tup []) c false (bin .geq false [] (sl e 0) (I 0))).bind fun z=>(bm c (B true) z).bind fun z=>ifD z (some (.ret [B false] [])) ((bin .add false [] (sl s 3) (I 1)).bind fun z=>some (.nrm [sl s 0,sl s 1,sl s 2,z]))) (some (.ext 0 [sl s 0]))) [x0,x0,z,I 0]).bind fun o=>bO o (fun i s=>ifN (i.beq 0) ((lenD false (sl s 0)).bind fun z=>(bin .leq false [] z (I 20)).bind fun z=>some (.ret [z] [])) none) fun a b=>some (.ret a b)):=by kernel_rfl
theorem tp (x0:D):gD [x0]=(ai (cY [x0,I 1,I 16]) fun c _=>some (.ret [sl c 0] [])):=by kernel_rfl
theorem oK (x0 x1 x2:D):dT [x0,x1,x2]=(ai (dI [x0]) fun c _=>(aq (.tup []) (sl c 0) true (some x1)).bind fun z=>eE (sl c 0) true (ai (dc [z]) fun c _=>some (.nrm [sl c 0])) [.tup []] fun d=>(bm (sl c 0) (sl d 0) (B false)).bind fun z=>(aq (.tup []) z true (some x2)).bind fun e=>eE z true (ai (gD [e]) fun c _=>some (.nrm [sl c 0])) [.tup []] fun d=>(bm z (sl d 0) (B false)).bind fun z=>some (.ret [z] [])):=by kernel_rfl
theorem fH (x0 x1:D):bp [x0,x1]=((lenD true x0).bind fun z=>(lenD true x1).bind fun c=>(bin .geq false [] z c).bind fun z=>(aq (.tup []) z true (some x0)).bind fun d=>(aq (.tup []) z true (some x1)).bind fun e=>(aq (.tup []) z true (lenD true e)).bind fun f=>(aq (.tup []) z true (dj true 0 d (I 0) f)).bind fun g=>(aq (.tup []) z true (some x1)).bind fun h=>(aq (.tup []) z true (bin .eql false [] g h)).bind fun j=>(bm z j (B false)).bind fun z=>some (.ret [z] [])):=by kernel_rfl
theorem mU (x0 x1:D):dr [x0,x1]=(ai (bp [x0,x1]) fun c _=>some (.ret [sl c 0] [])):=by kernel_rfl
theorem rk (x0 x1:D):eV [x0,x1]=((lenD true x1).bind fun z=>(bin .sub false [] z (I 1)).bind fun z=>(vG 1 8 (I 0) z z).bind fun y=>(lenD false x0).bind fun z=>(aD (fun s=>(bin .lss false [] (sl s 4) (sl s 3)).bind fun z=>ifD z ((ET D.ptr (aT 1 (sl s 2) (sl s 4))).bind fun z=>((ldD false 1 z).bind bJ).bind fun z=>ai (cE [z]) fun c _=>(aB (.tup c) 0).bind fun z=>(aB (.tup c) 1).bind fun e=>(aB (.tup c) 2).bind fun _=>(itD (sl s 0)).bind fun y=>(aD (fun s=>(nxS (sl s 7)).bind fun y=>(aB (nxT (sl s 7)) 0).bind fun z=>ifD z ((aB (nxT (sl s 7)) 1).bind fun z=>(ig true 0 (sl s 0) z).bind fun f=>ai (dr [f,sl s 2]) fun c _=>(un .not (sl c 0)).bind fun g=>ifD g (some (.nrm [sl s 0,sl s 1,sl s 2,sl s 3,sl s 4,sl s 5,sl s 6,y])) ((lenD false (sl s 3)).bind fun h=>(aD (fun s=>(bin .lss false [] (sl s 11) (sl s 10)).bind fun z=>ifD z ((ET D.ptr (aT 1 (sl s 9) (sl s 11))).bind fun z=>((ldD false 1 z).bind bJ).bind fun z=>(bin .add false [] (sl s 4) (sl s 11)).bind fun j=>(bin .sub false [] j (I 1)).bind fun d=>(ab (sl s 1) (.ref 0 0)).bind fun k=>((ab k (sl s 1)).bind (lenD false)).bind fun l=>(bin .sub false [] l (I 1)).bind fun m=>ai (cB [d,I 0,m]) fun c _=>ifD (sl c 0) ((ab (sl s 1) (.ref 0 0)).bind fun n=>(ab (sl s 1) (.ref 0 0)).bind fun p=>((ab p (sl s 1)).bind fun b=>mA 1 b d).bind fun q=>((atD (sl s 1) q).bind (cN false 1)).bind fun r=>((wD r z).bind fun z=>some z).bind fun z=>((ab n (sl s 1)).bind fun b=>mA 1 b d).bind fun t=>(stD 1 (sl s 1) t z).bind fun b=>(bin .add false [] (sl s 11) (I 1)).bind fun z=>some (.nrm [sl s 0,b,sl s 2,sl s 3,sl s 4,sl s 5,sl s 6,sl s 7,sl s 8,sl s 9,sl s 10,z])) ((bin .add false [] (sl s 11) (I 1)).bind fun z=>some (.nrm [sl s 0,sl s 1,sl s 2,sl s 3,sl s 4,sl s 5,sl s 6,sl s 7,sl s 8,sl s 9,sl s 10,z]))) (some (.ext 4 [sl s 0,sl s 1,sl s 2,sl s 3,sl s 5,sl s 6,sl s 7,sl s 8]))) [sl s 0,sl s 1,sl s 2,sl s 3,z,sl s 4,sl s 5,sl s 6,y,sl s 3,h,I 0]).bind fun o=>bO o (fun i s=>ifN (i.beq 4) (some (.nrm [sl s 0,sl s 1,sl s 2,sl s 3,sl s 4,sl s 5,sl s 6,sl s 7])) (ifN (i.beq 3) (some (.nrm [sl s 0,sl s 1,sl s 2,sl s 3,sl s 4,sl s 5,sl s 6,sl s 7])) (some (.ext i [sl s 0,sl s 1,sl s 4,sl s 5,sl s 6])))) fun a b=>some (.ret a b))) (some (.ext 2 [sl s 0,sl s 1,sl s 4,sl s 5,sl s 6]))) [sl s 0,sl s 1,z,e,sl s 2,sl s 3,sl s 4,y]).bind fun o=>bO o (fun i s=>ifN (i.beq 2) ((bin .add false [] (sl s 4) (I 1)).bind fun z=>some (.nrm [sl s 0,sl s 1,sl s 2,sl s 3,z])) (ifN (i.beq 1) ((bin .add false [] (sl s 4) (I 1)).bind fun z=>some (.nrm [sl s 0,sl s 1,sl s 2,sl s 3,z])) (some (.ext i [sl s 1])))) fun a b=>some (.ret a b)) (some (.ext 0 [sl s 1]))) [x1,y,x0,z,I 0]).bind fun o=>bO o (fun i s=>ifN (i.beq 0) (some (.ret [sl s 0] [])) none) fun a b=>some (.ret a b)):=by kernel_rfl
theorem tQ (x0 x1 x2:D):gE [x0,x1,x2]=(ai (cH [x1,x2]) fun c _=>(bin .geq false [] (sl c 0) (I 0)).bind fun z=>ifD z ((ET D.ptr (aT 1 x1 (sl c 0))).bind fun z=>((ldD false 1 z).bind bJ).bind fun z=>ai (nO [z,.v (.string ⟨⟨[45]⟩⟩)]) fun c _=>(lenD false (sl c 0)).bind fun z=>(aD (fun s=>(bin .lss false [] (sl s 5) (sl s 4)).bind fun z=>ifD z ((ET D.ptr (aT 1 (sl s 3) (sl s 5))).bind fun z=>((ldD false 1 z).bind bJ).bind fun z=>(lenD true z).bind fun z=>(bin .add false [] (sl s 2) z).bind fun z=>(ab (sl s 1) (.ref 0 0)).bind fun d=>(ab d (sl s 1)).bind fun b=>(upM b [z,B true]).bind fun y=>(bin .add false [] (sl s 5) (I 1)).bind fun e=>some (.nrm [sl s 0,y,z,sl s 3,sl s 4,e])) (some (.ext 0 [sl s 0,sl s 1]))) [x2,D.mp [],I 0,sl c 0,z,I 0]).bind fun o=>bO o (fun i s=>ifN (i.beq 0) ((aF 1 []).bind fun a=>(aD (fun s=>(lenD true (sl s 0)).bind fun z=>(bin .sub false [] z (I 2)).bind fun z=>(bin .leq false [] (sl s 3) z).bind fun z=>ifD z ((ab (sl s 1) (.ref 0 0)).bind fun z=>((ab z (sl s 1)).bind fun b=>lkD b (sl s 3)).bind fun z=>ifD z ((aF 1 [sl s 3]).bind fun a=>(ie a).bind fun b=>(eL 1 8 (sl s 2) b).bind fun y=>(bin .add false [] (sl s 3) (I 1)).bind fun z=>some (.nrm [sl s 0,sl s 1,y,z])) ((bin .add false [] (sl s 3) (I 1)).bind fun z=>some (.nrm [sl s 0,sl s 1,sl s 2,z]))) (some (.ext 4 [sl s 2]))) [sl s 0,sl s 1,a,I 2]).bind fun o=>bO o (fun i s=>ifN (i.beq 4) (some (.ret [sl s 0] [])) none) fun a b=>some (.ret a b)) none) fun a b=>some (.ret a b)) (ai (eV [x0,x2]) fun c _=>(lenD false (sl c 0)).bind fun z=>(aD (fun s=>(bin .lss false [] (sl s 4) (sl s 3)).bind fun z=>ifD z ((ET D.ptr (aT 1 (sl s 2) (sl s 4))).bind fun z=>((ldD false 1 z).bind bJ).bind fun z=>(ab (sl s 1) (.ref 0 0)).bind fun d=>(bin .add false [] (sl s 4) (I 1)).bind fun e=>(bin .rem false [] z (I 2)).bind fun z=>(bin .eql false [] z (I 1)).bind fun z=>(ab d (sl s 1)).bind fun b=>(upM b [e,z]).bind fun y=>(bin .add false [] (sl s 4) (I 1)).bind fun z=>some (.nrm [sl s 0,y,sl s 2,sl s 3,z])) (some (.ext 2 [sl s 0,sl s 1]))) [x2,D.mp [],sl c 0,z,I 0]).bind fun o=>bO o (fun i s=>ifN (i.beq 2) ((aF 1 []).bind fun a=>(aD (fun s=>(lenD true (sl s 0)).bind fun z=>(bin .sub false [] z (I 2)).bind fun z=>(bin .leq false [] (sl s 3) z).bind fun z=>ifD z ((ab (sl s 1) (.ref 0 0)).bind fun z=>((ab z (sl s 1)).bind fun b=>lkD b (sl s 3)).bind fun z=>ifD z ((aF 1 [sl s 3]).bind fun a=>(ie a).bind fun b=>(eL 1 8 (sl s 2) b).bind fun y=>(bin .add false [] (sl s 3) (I 1)).bind fun z=>some (.nrm [sl s 0,sl s 1,y,z])) ((bin .add false [] (sl s 3) (I 1)).bind fun z=>some (.nrm [sl s 0,sl s 1,sl s 2,z]))) (some (.ext 4 [sl s 2]))) [sl s 0,sl s 1,a,I 2]).bind fun o=>bO o (fun i s=>ifN (i.beq 4) (some (.ret [sl s 0] [])) none) fun a b=>some (.ret a b)) none) fun a b=>some (.ret a b))):=by kernel_rfl
theorem mX (x0 x1 x2:D):bA [x0,x1,x2]=(ai (dT [x0,x1,x2]) fun c _=>(un .not (sl c 0)).bind fun z=>ifD z ((aF 1 []).bind fun a=>some (.ret [a,B false] [])) (ai (gE [x0,x1,x2]) fun c _=>some (.ret [sl c 0,B true] []))):=by kernel_rfl
theorem oi (x0 x1 x2:D):cG [x0,x1,x2]=(ai (bA [x0,x1,x2]) fun c _=>(aB (.tup c) 0).bind fun y=>(aB (bd (.tup c) 0) 1).bind fun z=>(un .not z).bind fun z=>ifD z ((aF 1 []).bind fun a=>some (.ret [a,B false] [])) ((aF 1 []).bind fun a=>(lenD true x2).bind fun z=>(aF 1 [z]).bind fun d=>(eL 1 8 y d).bind fun y=>(lenD false y).bind fun z=>(aD (fun s=>(bin .lss false [] (sl s 5) (sl s 4)).bind fun z=>ifD z ((ET D.ptr (aT 1 (sl s 3) (sl s 5))).bind fun z=>((ldD false 1 z).bind bJ).bind fun z=>(dj true 0 (sl s 0) (sl s 2) z).bind fun e=>(aF 1 [e]).bind fun a=>(ie a).bind fun b=>(eL 1 16 (sl s 1) b).bind fun y=>(bin .add false [] (sl s 5) (I 1)).bind fun f=>some (.nrm [sl s 0,y,z,sl s 3,sl s 4,f])) (some (.ext 0 [sl s 1]))) [x2,a,I 0,y,z,I 0]).bind fun o=>bO o (fun i s=>ifN (i.beq 0) (some (.ret [sl s 0,B true] [])) none) fun a b=>some (.ret a b))):=by kernel_rfl
theorem wc (x0 x1 x2:D):cZ [x0,x1,x2]=((bin .geq false [] x0 x1).bind fun z=>(aq (.tup []) z true (some x0)).bind fun c=>(aq (.tup []) z true (some x2)).bind fun d=>(aq (.tup []) z true (bin .leq false [] c d)).bind fun e=>(bm z e (B false)).bind fun z=>some (.ret [z] [])):=by kernel_rfl
theorem qq (x0:D):dv [x0]=((aF 1 [I 0]).bind fun a=>(aD (fun s=>(lenD true (sl s 0)).bind fun z=>(bin .lss false [] (sl s 4) z).bind fun z=>ifD z ((eN (sl s 0) (sl s 4)).bind fun z=>(bin .geq false [] z (.v (EU EV 97))).bind fun z=>(aq (.tup []) z true (some (sl s 0))).bind fun d=>(aq (.tup []) z true (some (sl s 4))).bind fun e=>(aq (.tup []) z true (eN d e)).bind fun f=>(aq (.tup []) z true (bin .leq false [] f (.v (EU EV 122)))).bind fun g=>(bm z g (B false)).bind fun z=>ifD z ((bin .add false [] (sl s 4) (I 1)).bind fun z=>(dj true 0 (sl s 0) (sl s 4) z).bind fun z=>(bin .add false [] (sl s 1) z).bind fun z=>(aF 1 [I 0]).bind fun a=>(ie a).bind fun b=>(eL 1 8 (sl s 3) b).bind fun y=>(bin .add false [] (sl s 4) (I 1)).bind fun c=>some (.nrm [sl s 0,z,sl s 2,y,c])) ((eN (sl s 0) (sl s 4)).bind fun z=>(bin .geq false [] z (.v (EU EV 49))).bind fun z=>(aq (.tup []) z true (some (sl s 0))).bind fun c=>(aq (.tup []) z true (some (sl s 4))).bind fun h=>(aq (.tup []) z true (eN c h)).bind fun j=>(aq (.tup []) z true (bin .leq false [] j (.v (EU EV 57)))).bind fun k=>(bm z k (B false)).bind fun z=>(aq D.bad z true (ab (sl s 3) (.ref 0 0))).bind fun l=>(aq D.bad z true (ab (sl s 3) (.ref 0 0))).bind fun m=>(aq (.tup []) z true ((ab m (sl s 3)).bind (lenD false))).bind fun n=>(aq (.tup []) z true (bin .sub false [] n (I 1))).bind fun p=>(aq D.bad z true ((ab l (sl s 3)).bind fun b=>mA 1 b p)).bind fun q=>(aq (.tup []) z true ((atD (sl s 3) q).bind (cN false 1))).bind fun r=>(aq (.tup []) z true (bin .eql false [] r (I 0))).bind fun t=>(bm z t (B false)).bind fun z=>ifD z ((ab (sl s 3) (.ref 0 0)).bind fun z=>(ab (sl s 3) (.ref 0 0)).bind fun u=>((ab u (sl s 3)).bind (lenD false)).bind fun v=>(bin .sub false [] v (I 1)).bind fun w=>(eN (sl s 0) (sl s 4)).bind fun za=>(bin .sub false [] za (.v (EU EV 48))).bind fun zb=>(eg (some .i64) false zb).bind fun zc=>((ab z (sl s 3)).bind fun b=>mA 1 b w).bind fun z=>(stD 1 (sl s 3) z zc).bind fun b=>(bin .add false [] (sl s 4) (I 1)).bind fun z=>some (.nrm [sl s 0,sl s 1,B true,b,z])) (some (.ret [.v (.string ⟨⟨[]⟩⟩),.arr 1 [],B false] [])))) (some (.ext 0 [sl s 1,sl s 2,sl s 3]))) [x0,.v (.string ⟨⟨[]⟩⟩),B false,a,I 0]).bind fun o=>bO o (fun i s=>ifN (i.beq 0) ((aq (.tup []) (sl s 1) true (some (sl s 0))).bind fun z=>(aq (.tup []) (sl s 1) true (lenD true z)).bind fun z=>eE (sl s 1) true (ai (cZ [z,I 1,I 6]) fun rs _=>some (.nrm [sl rs 0])) [.tup []] fun zd=>(bm (sl s 1) (sl zd 0) (B false)).bind fun z=>some (.ret [sl s 0,sl s 2,z] [])) none) fun a b=>some (.ret a b)):=by kernel_rfl
theorem qn (x0:D):eu [x0]=(ai (dv [x0]) fun c _=>(aB (.tup c) 0).bind fun _=>(aB (.tup c) 1).bind fun _=>(aB (bd (.tup c) 1) 2).bind fun z=>some (.ret [z] [])):=by kernel_rfl
theorem qE (x0 x1:D):eD [x0,x1]=((aD (fun s=>(lenD true (sl s 0)).bind fun z=>(bin .lss false [] (sl s 2) z).bind fun z=>ifD z ((eN (sl s 0) (sl s 2)).bind fun z=>(bin .lss false [] z (.v (EU EV 97))).bind fun z=>(aq (.tup []) z false (some (sl s 0))).bind fun c=>(aq (.tup []) z false (some (sl s 2))).bind fun d=>(aq (.tup []) z false (eN c d)).bind fun e=>(aq (.tup []) z false (bin .gtr false [] e (.v (EU EV 122)))).bind fun f=>(bm z (B true) f).bind fun z=>ifD z (some (.ret [B false] [])) ((bin .add false [] (sl s 2) (I 1)).bind fun z=>some (.nrm [sl s 0,sl s 1,z]))) (some (.ext 0 [sl s 0,sl s 1]))) [x0,x1,I 0]).bind fun o=>bO o (fun i s=>ifN (i.beq 0) ((lenD true (sl s 0)).bind fun z=>ai (cZ [z,I 1,sl s 1]) fun g _=>some (.ret [sl g 0] [])) none) fun a b=>some (.ret a b)):=by kernel_rfl
theorem tN (x0:D):eI [x0]=(ai (eD [x0,I 16]) fun c _=>some (.ret [sl c 0] [])):=by kernel_rfl
theorem tK (x0:D):dQ [x0]=((aD (fun s=>(lenD true (sl s 0)).bind fun z=>(bin .lss false [] (sl s 3) z).bind fun z=>ifD z ((eN (sl s 0) (sl s 3)).bind fun z=>(bin .neq false [] z (.v (EU EV 45))).bind fun z=>ifD z ((bin .add false [] (sl s 3) (I 1)).bind fun z=>(dj true 0 (sl s 0) (sl s 3) z).bind fun z=>(bin .add false [] (sl s 1) z).bind fun z=>(bin .add false [] (sl s 3) (I 1)).bind fun d=>some (.nrm [sl s 0,z,sl s 2,d])) ((bin .eql false [] (sl s 1) (.v (.string ⟨⟨[]⟩⟩))).bind fun z=>(aq (.tup []) z false (some (sl s 3))).bind fun d=>(aq (.tup []) z false (some (sl s 0))).bind fun e=>(aq (.tup []) z false (lenD true e)).bind fun f=>(aq (.tup []) z false (bin .sub false [] f (I 1))).bind fun g=>(aq (.tup []) z false (bin .eql false [] d g)).bind fun h=>(bm z (B true) h).bind fun z=>(aq (.tup []) z false (some (sl s 0))).bind fun j=>(aq (.tup []) z false (some (sl s 3))).bind fun k=>(aq (.tup []) z false (bin .sub false [] k (I 1))).bind fun l=>(aq (.tup []) z false (eN j l)).bind fun m=>(aq (.tup []) z false (bin .eql false [] m (.v (EU EV 45)))).bind fun n=>(bm z (B true) n).bind fun z=>ifD z (some (.ret [.v (.string ⟨⟨[]⟩⟩),.arr 1 [],B false] [])) ((lenD true (sl s 1)).bind fun z=>(aF 1 [z]).bind fun a=>(ie a).bind fun b=>(eL 1 8 (sl s 2) b).bind fun y=>(bin .add false [] (sl s 3) (I 1)).bind fun z=>some (.nrm [sl s 0,sl s 1,y,z])))) (some (.ext 0 [sl s 1,sl s 2]))) [x0,.v (.string ⟨⟨[]⟩⟩),.arr 1 [],I 0]).bind fun o=>bO o (fun i s=>ifN (i.beq 0) (ai (eI [sl s 0]) fun c _=>(aq (.tup []) (sl c 0) true (some (sl s 0))).bind fun z=>(aq (.tup []) (sl c 0) true (lenD true z)).bind fun z=>(aq (.tup []) (sl c 0) true (bin .gtr false [] z (I 1))).bind fun z=>(bm (sl c 0) z (B false)).bind fun z=>some (.ret [sl s 0,sl s 1,z] [])) none) fun a b=>some (.ret a b)):=by kernel_rfl
theorem tR (x0 x1:D):gz [x0,x1]=((lenD false x0).bind fun z=>(aD (fun s=>(bin .lss false [] (sl s 3) (sl s 2)).bind fun z=>ifD z ((ET D.ptr (aT 1 (sl s 1) (sl s 3))).bind fun z=>((ldD false 1 z).bind bJ).bind fun z=>(bin .eql false [] z (sl s 0)).bind fun z=>ifD z (some (.ret [B true] [])) ((bin .add false [] (sl s 3) (I 1)).bind fun z=>some (.nrm [sl s 0,sl s 1,sl s 2,z]))) (some (.ext 0 []))) [x1,x0,z,I 0]).bind fun o=>bO o (fun i _=>ifN (i.beq 0) (some (.ret [B false] [])) none) fun a b=>some (.ret a b)):=by kernel_rfl
theorem tB (x0 x1:D):gw [x0,x1]=((lenD false x0).bind fun z=>(aD (fun s=>(bin .lss false [] (sl s 4) (sl s 3)).bind fun z=>ifD z ((ET D.ptr (aT 1 (sl s 2) (sl s 4))).bind fun z=>((ldD false 1 z).bind bJ).bind fun z=>ai (eu [z]) fun c _=>(un .not (sl c 0)).bind fun z=>ifD z (some (.ret [B false] [])) ((bin .add false [] (sl s 4) (I 1)).bind fun z=>some (.nrm [sl s 0,sl s 1,sl s 2,sl s 3,z]))) (some (.ext 0 [sl s 0,sl s 1]))) [x0,x1,x0,z,I 0]).bind fun o=>bO o (fun i s=>ifN (i.beq 0) ((lenD false (sl s 1)).bind fun z=>(aD (fun s=>(bin .lss false [] (sl s 5) (sl s 4)).bind fun z=>ifD z ((ET D.ptr (aT 1 (sl s 3) (sl s 5))).bind fun z=>((ldD false 1 z).bind bJ).bind fun z=>ai (dQ [z]) fun c _=>(aB (.tup c) 0).bind fun z=>(aB (.tup c) 1).bind fun _=>(aB (bd (.tup c) 1) 2).bind fun e=>(un .not e).bind fun d=>(aq D.bad d false (ab (sl s 2) (.ref 0 0))).bind fun f=>(aq (.tup []) d false (some z)).bind fun g=>eE d false ((ab f (sl s 2)).bind fun i=>ai (gz [i,g]) fun c _=>some (.nrm [sl c 0])) [.tup []] fun h=>(bm d (B true) (sl h 0)).bind fun j=>ifD j (some (.ret [B false] [])) ((aF 1 [z]).bind fun a=>(ie a).bind fun b=>(eL 1 16 (sl s 2) b).bind fun y=>(bin .add false [] (sl s 5) (I 1)).bind fun z=>some (.nrm [sl s 0,sl s 1,y,sl s 3,sl s 4,z]))) (some (.ext 2 [sl s 0,sl s 1]))) [sl s 0,sl s 1,.arr 1 [],sl s 1,z,I 0]).bind fun o=>bO o (fun i s=>ifN (i.beq 2) ((lenD false (sl s 0)).bind fun z=>(bin .leq false [] z (I 20)).bind fun z=>(aq (.tup []) z true (some (sl s 1))).bind fun e=>(aq (.tup []) z true (lenD false e)).bind fun d=>(aq (.tup []) z true (bin .leq false [] d (I 20))).bind fun f=>(bm z f (B false)).bind fun z=>some (.ret [z] [])) none) fun a b=>some (.ret a b)) none) fun a b=>some (.ret a b)):=by kernel_rfl
theorem sf (x0 x1 x2:D):bX [x0,x1,x2]=(ai (gw [x0,x1]) fun c _=>(aq (.tup []) (sl c 0) true (some x2)).bind fun z=>eE (sl c 0) true (ai (eI [z]) fun c _=>some (.nrm [sl c 0])) [.tup []] fun d=>(bm (sl c 0) (sl d 0) (B false)).bind fun z=>some (.ret [z] [])):=by kernel_rfl
theorem tw (x0 x1:D):gC [x0,x1]=((bin .gtr false [] x0 x1).bind fun z=>ifD z (some (.ret [x0] [])) (some (.ret [x1] []))):=by kernel_rfl
theorem rp (x0 x1:D):eS [x0,x1]=((lenD true x1).bind fun z=>(bin .sub false [] z (I 1)).bind fun z=>(vG 1 8 (I 0) z z).bind fun y=>(lenD false x0).bind fun z=>(aD (fun s=>(bin .lss false [] (sl s 4) (sl s 3)).bind fun z=>ifD z ((ET D.ptr (aT 1 (sl s 2) (sl s 4))).bind fun z=>((ldD false 1 z).bind bJ).bind fun z=>ai (dv [z]) fun c _=>(aB (.tup c) 0).bind fun z=>(aB (.tup c) 1).bind fun y=>(aB (bd (.tup c) 1) 2).bind fun _=>(aD (fun s=>(lenD true (sl s 2)).bind fun z=>(bin .add false [] (sl s 4) z).bind fun z=>(lenD true (sl s 0)).bind fun e=>(bin .leq false [] z e).bind fun z=>ifD z ((lenD true (sl s 2)).bind fun z=>(bin .add false [] (sl s 4) z).bind fun z=>(dj true 0 (sl s 0) (sl s 4) z).bind fun z=>(bin .neq false [] z (sl s 2)).bind fun z=>ifD z ((bin .add false [] (sl s 4) (I 1)).bind fun z=>some (.nrm [sl s 0,sl s 1,sl s 2,sl s 3,z,sl s 5,sl s 6,sl s 7])) ((lenD false (sl s 3)).bind fun z=>(aD (fun s=>(bin .lss false [] (sl s 10) (sl s 9)).bind fun z=>ifD z ((ET D.ptr (aT 1 (sl s 8) (sl s 10))).bind fun z=>((ldD false 1 z).bind bJ).bind fun z=>(bin .add false [] (sl s 4) (sl s 10)).bind fun f=>(bin .sub false [] f (I 1)).bind fun d=>(ab (sl s 1) (.ref 0 0)).bind fun g=>((ab g (sl s 1)).bind (lenD false)).bind fun h=>(bin .sub false [] h (I 1)).bind fun j=>ai (cZ [d,I 0,j]) fun c _=>ifD (sl c 0) ((ab (sl s 1) (.ref 0 0)).bind fun k=>(ab (sl s 1) (.ref 0 0)).bind fun l=>((ab l (sl s 1)).bind fun b=>mA 1 b d).bind fun m=>((atD (sl s 1) m).bind (cN false 1)).bind fun n=>ai (gC [n,z]) fun c _=>((ab k (sl s 1)).bind fun b=>mA 1 b d).bind fun z=>(stD 1 (sl s 1) z (sl c 0)).bind fun b=>(bin .add false [] (sl s 10) (I 1)).bind fun z=>some (.nrm [sl s 0,b,sl s 2,sl s 3,sl s 4,sl s 5,sl s 6,sl s 7,sl s 8,sl s 9,z])) ((bin .add false [] (sl s 10) (I 1)).bind fun z=>some (.nrm [sl s 0,sl s 1,sl s 2,sl s 3,sl s 4,sl s 5,sl s 6,sl s 7,sl s 8,sl s 9,z]))) (some (.ext 4 [sl s 0,sl s 1,sl s 2,sl s 3,sl s 4,sl s 5,sl s 6,sl s 7]))) [sl s 0,sl s 1,sl s 2,sl s 3,sl s 4,sl s 5,sl s 6,sl s 7,sl s 3,z,I 0]).bind fun o=>bO o (fun i s=>ifN (i.beq 4) ((bin .add false [] (sl s 4) (I 1)).bind fun z=>some (.nrm [sl s 0,sl s 1,sl s 2,sl s 3,z,sl s 5,sl s 6,sl s 7])) (ifN (i.beq 3) ((bin .add false [] (sl s 4) (I 1)).bind fun z=>some (.nrm [sl s 0,sl s 1,sl s 2,sl s 3,z,sl s 5,sl s 6,sl s 7])) (some (.ext i [sl s 0,sl s 1,sl s 5,sl s 6,sl s 7])))) fun a b=>some (.ret a b))) (some (.ext 2 [sl s 0,sl s 1,sl s 5,sl s 6,sl s 7]))) [sl s 0,sl s 1,z,y,I 0,sl s 2,sl s 3,sl s 4]).bind fun o=>bO o (fun i s=>ifN (i.beq 2) ((bin .add false [] (sl s 4) (I 1)).bind fun z=>some (.nrm [sl s 0,sl s 1,sl s 2,sl s 3,z])) (ifN (i.beq 1) ((bin .add false [] (sl s 4) (I 1)).bind fun z=>some (.nrm [sl s 0,sl s 1,sl s 2,sl s 3,z])) (some (.ext i [sl s 1])))) fun a b=>some (.ret a b)) (some (.ext 0 [sl s 1]))) [x1,y,x0,z,I 0]).bind fun o=>bO o (fun i s=>ifN (i.beq 0) (some (.ret [sl s 0] [])) none) fun a b=>some (.ret a b)):=by kernel_rfl
theorem rF (x0 x1 x2:D):cj [x0,x1,x2]=((lenD false x1).bind fun z=>(aD (fun s=>(bin .lss false [] (sl s 5) (sl s 4)).bind fun z=>ifD z ((ET D.ptr (aT 1 (sl s 3) (sl s 5))).bind fun z=>((ldD false 1 z).bind bJ).bind fun z=>ai (dQ [z]) fun c _=>(aB (.tup c) 0).bind fun z=>(aB (.tup c) 1).bind fun y=>(aB (bd (.tup c) 1) 2).bind fun _=>(bin .eql false [] z (sl s 1)).bind fun z=>ifD z ((lenD false y).bind fun z=>(aD (fun s=>(bin .lss false [] (sl s 4) (sl s 3)).bind fun z=>ifD z ((ET D.ptr (aT 1 (sl s 2) (sl s 4))).bind fun z=>((ldD false 1 z).bind bJ).bind fun z=>(lenD true (sl s 0)).bind fun d=>(bin .sub false [] d (I 2)).bind fun e=>ai (cZ [z,I 2,e]) fun c _=>ifD (sl c 0) ((aF 1 [z]).bind fun a=>(ie a).bind fun b=>(eL 1 8 (sl s 1) b).bind fun y=>(bin .add false [] (sl s 4) (I 1)).bind fun z=>some (.nrm [sl s 0,y,sl s 2,sl s 3,z])) ((bin .add false [] (sl s 4) (I 1)).bind fun z=>some (.nrm [sl s 0,sl s 1,sl s 2,sl s 3,z]))) (some (.ext 2 [D.bad,sl s 0,sl s 1,D.bad,D.bad,D.bad]))) [sl s 1,sl s 2,y,z,I 0]).bind fun o=>bO o (fun i s=>ifN (i.beq 2) (some (.ret [sl s 2] [])) (ifN (i.beq 1) ((bin .add false [] (sl s 5) (I 1)).bind fun z=>some (.nrm [sl s 0,sl s 1,sl s 2,sl s 3,sl s 4,z])) (some (.ext i [sl s 0,sl s 1,sl s 2])))) fun a b=>some (.ret a b)) ((bin .add false [] (sl s 5) (I 1)).bind fun z=>some (.nrm [sl s 0,sl s 1,sl s 2,sl s 3,sl s 4,z]))) (some (.ext 0 [sl s 0,sl s 1,sl s 2]))) [x0,x2,.arr 1 [],x1,z,I 0]).bind fun o=>bO o (fun i s=>ifN (i.beq 0) (ai (eS [sl s 0,sl s 1]) fun c _=>(lenD false (sl c 0)).bind fun z=>(aD (fun s=>(bin .lss false [] (sl s 4) (sl s 3)).bind fun z=>ifD z ((ET D.ptr (aT 1 (sl s 2) (sl s 4))).bind fun z=>((ldD false 1 z).bind bJ).bind fun z=>(bin .rem false [] z (I 2)).bind fun z=>(bin .eql false [] z (I 1)).bind fun z=>(aq (.tup []) z true (some (sl s 4))).bind fun d=>(aq (.tup []) z true (bin .add false [] d (I 1))).bind fun e=>(aq (.tup []) z true (some (sl s 0))).bind fun f=>(aq (.tup []) z true (lenD true f)).bind fun g=>(aq (.tup []) z true (bin .sub false [] g (I 2))).bind fun h=>eE z true (ai (cZ [e,I 2,h]) fun c _=>some (.nrm [sl c 0])) [.tup []] fun j=>(bm z (sl j 0) (B false)).bind fun z=>ifD z ((bin .add false [] (sl s 4) (I 1)).bind fun z=>(aF 1 [z]).bind fun a=>(ie a).bind fun b=>(eL 1 8 (sl s 1) b).bind fun y=>(bin .add false [] (sl s 4) (I 1)).bind fun z=>some (.nrm [sl s 0,y,sl s 2,sl s 3,z])) ((bin .add false [] (sl s 4) (I 1)).bind fun z=>some (.nrm [sl s 0,sl s 1,sl s 2,sl s 3,z]))) (some (.ext 4 [sl s 1]))) [sl s 1,sl s 2,sl c 0,z,I 0]).bind fun o=>bO o (fun i s=>ifN (i.beq 4) (some (.ret [sl s 0] [])) none) fun a b=>some (.ret a b)) none) fun a b=>some (.ret a b)):=by kernel_rfl
theorem sX (x0 x1 x2:D):dZ [x0,x1,x2]=(ai (cj [x0,x1,x2]) fun c _=>(lenD false (sl c 0)).bind fun z=>(aD (fun s=>(bin .lss false [] (sl s 5) (sl s 4)).bind fun z=>ifD z ((ET D.ptr (aT 1 (sl s 3) (sl s 5))).bind fun z=>((ldD false 1 z).bind bJ).bind fun z=>(dj true 0 (sl s 0) (sl s 2) z).bind fun d=>(aF 1 [d]).bind fun a=>(ie a).bind fun b=>(eL 1 16 (sl s 1) b).bind fun y=>(bin .add false [] (sl s 5) (I 1)).bind fun e=>some (.nrm [sl s 0,y,z,sl s 3,sl s 4,e])) (some (.ext 0 [sl s 0,sl s 1,sl s 2]))) [x2,.arr 1 [],I 0,sl c 0,z,I 0]).bind fun o=>bO o (fun i s=>ifN (i.beq 0) ((ig true 0 (sl s 0) (sl s 2)).bind fun z=>(aF 1 [z]).bind fun a=>(ie a).bind fun b=>(eL 1 16 (sl s 1) b).bind fun y=>some (.ret [y] [])) none) fun a b=>some (.ret a b)):=by kernel_rfl
theorem og (x0 x1 x2:D):dF [x0,x1,x2]=(ai (bX [x0,x1,x2]) fun c _=>(un .not (sl c 0)).bind fun z=>ifD z (some (.ret [.arr 1 [],B false] [])) (ai (dZ [x0,x1,x2]) fun c _=>some (.ret [sl c 0,B true] []))):=by kernel_rfl
theorem mT (x0 x1 x2:D):dp [x0,x1,x2]=(ai (bX [x0,x1,x2]) fun c _=>(un .not (sl c 0)).bind fun z=>ifD z (some (.ret [.arr 1 [],B false] [])) (ai (cj [x0,x1,x2]) fun c _=>some (.ret [sl c 0,B true] []))):=by kernel_rfl
theorem ot (x0 x1 x2:D):dV [x0,x1,x2]=(ai (cG [x0,x1,x2]) fun c _=>(aB (.tup c) 0).bind fun y=>(aB (bd (.tup c) 0) 1).bind fun z=>ai (ui [y,.v (.string ⟨⟨[45]⟩⟩)]) fun c _=>some (.ret [sl c 0,z] [])):=by kernel_rfl
theorem pL (x0 x1 x2:D):dU [x0,x1,x2]=(ai (bX [x0,x1,x2]) fun c _=>(un .not (sl c 0)).bind fun z=>ifD z (some (.ret [.v (.string ⟨⟨[]⟩⟩),B false] [])) (ai (dZ [x0,x1,x2]) fun c _=>(lenD false (sl c 0)).bind fun z=>(aD (fun s=>(bin .lss false [] (sl s 3) (sl s 2)).bind fun z=>ifD z ((ET D.ptr (aT 1 (sl s 1) (sl s 3))).bind fun z=>((ldD false 1 z).bind bJ).bind fun z=>(bin .gtr false [] (sl s 3) (I 0)).bind fun e=>ifD e ((bin .add false [] (sl s 0) (.v (.string ⟨⟨[45]⟩⟩))).bind fun d=>(bin .add false [] d z).bind fun z=>(bin .add false [] (sl s 3) (I 1)).bind fun f=>some (.nrm [z,sl s 1,sl s 2,f])) ((bin .add false [] (sl s 0) z).bind fun z=>(bin .add false [] (sl s 3) (I 1)).bind fun d=>some (.nrm [z,sl s 1,sl s 2,d]))) (some (.ext 0 [sl s 0]))) [.v (.string ⟨⟨[]⟩⟩),sl c 0,z,I 0]).bind fun o=>bO o (fun i s=>ifN (i.beq 0) (some (.ret [sl s 0,B true] [])) none) fun a b=>some (.ret a b))):=by kernel_rfl
theorem tC (x0 x1:D):gu [x0,x1]=((lenD false x0).bind fun z=>(lenD false x1).bind fun c=>(bin .neq false [] z c).bind fun z=>ifD z (some (.ret [B false] [])) ((lenD false x0).bind fun z=>(aD (fun s=>(bin .lss false [] (sl s 3) (sl s 2)).bind fun z=>ifD z ((ET D.ptr (aT 1 (sl s 0) (sl s 3))).bind fun z=>((ldD false 1 z).bind bJ).bind fun z=>(ET D.ptr (aT 1 (sl s 1) (sl s 3))).bind fun d=>((ldD false 1 d).bind bJ).bind fun e=>(bin .neq false [] z e).bind fun z=>ifD z (some (.ret [B false] [])) ((bin .add false [] (sl s 3) (I 1)).bind fun z=>some (.nrm [sl s 0,sl s 1,sl s 2,z]))) (some (.ext 0 []))) [x0,x1,z,I 0]).bind fun o=>bO o (fun i _=>ifN (i.beq 0) (some (.ret [B true] [])) none) fun a b=>some (.ret a b))):=by kernel_rfl
theorem vf (x0 x1:D):iv [x0,x1]=((lenD false x0).bind fun z=>(lenD false x1).bind fun c=>(bin .neq false [] z c).bind fun z=>ifD z (some (.ret [B false] [])) ((lenD false x0).bind fun z=>(aD (fun s=>(bin .lss false [] (sl s 3) (sl s 2)).bind fun z=>ifD z ((ET D.ptr (aT 1 (sl s 0) (sl s 3))).bind fun z=>((ldD false 1 z).bind bJ).bind fun z=>(ET D.ptr (aT 1 (sl s 1) (sl s 3))).bind fun d=>((ldD false 1 d).bind bJ).bind fun e=>(bin .neq false [] z e).bind fun z=>ifD z (some (.ret [B false] [])) ((bin .add false [] (sl s 3) (I 1)).bind fun z=>some (.nrm [sl s 0,sl s 1,sl s 2,z]))) (some (.ext 0 []))) [x0,x1,z,I 0]).bind fun o=>bO o (fun i _=>ifN (i.beq 0) (some (.ret [B true] [])) none) fun a b=>some (.ret a b))):=by kernel_rfl
theorem uI (x0 x1:D):fu [x0,x1]=((lenD false x0).bind fun z=>(aD (fun s=>(bin .lss false [] (sl s 4) (sl s 3)).bind fun z=>ifD z ((ET D.ptr (aT 1 (sl s 2) (sl s 4))).bind fun z=>((ldD false 1 z).bind bJ).bind fun z=>(bin .gtr false [] (sl s 4) (I 0)).bind fun d=>ifD d ((bin .add false [] (sl s 1) (sl s 0)).bind fun c=>(bin .add false [] c z).bind fun z=>(bin .add false [] (sl s 4) (I 1)).bind fun e=>some (.nrm [sl s 0,z,sl s 2,sl s 3,e])) ((bin .add false [] (sl s 1) z).bind fun z=>(bin .add false [] (sl s 4) (I 1)).bind fun c=>some (.nrm [sl s 0,z,sl s 2,sl s 3,c]))) (some (.ext 0 [sl s 1]))) [x1,.v (.string ⟨⟨[]⟩⟩),x0,z,I 0]).bind fun o=>bO o (fun i s=>ifN (i.beq 0) (some (.ret [sl s 0] [])) none) fun a b=>some (.ret a b)):=by kernel_rfl
theorem qC (x0 x1:D):er [x0,x1]=((lenD false x0).bind fun z=>(aD (fun s=>(bin .lss false [] (sl s 3) (sl s 2)).bind fun z=>ifD z ((ET D.ptr (aT 1 (sl s 1) (sl s 3))).bind fun z=>((ldD false 1 z).bind bJ).bind fun z=>(bin .eql false [] z (sl s 0)).bind fun z=>ifD z (some (.ret [B true] [])) ((bin .add false [] (sl s 3) (I 1)).bind fun z=>some (.nrm [sl s 0,sl s 1,sl s 2,z]))) (some (.ext 0 []))) [x1,x0,z,I 0]).bind fun o=>bO o (fun i _=>ifN (i.beq 0) (some (.ret [B false] [])) none) fun a b=>some (.ret a b)):=by kernel_rfl
theorem oE (x0 x1 x2 x3:D):ce [x0,x1,x2,x3]=(ai (bA [x0,x1,x2]) fun c _=>(aB (.tup c) 0).bind fun y=>(aB (bd (.tup c) 0) 1).bind fun z=>ai (er [y,x3]) fun c _=>some (.ret [sl c 0,z] [])):=by kernel_rfl
theorem wl (x0 x1:D):js [x0,x1]=((lenD false x0).bind fun z=>(aD (fun s=>(bin .lss false [] (sl s 3) (sl s 2)).bind fun z=>ifD z ((ET D.ptr (aT 1 (sl s 1) (sl s 3))).bind fun z=>((ldD false 1 z).bind bJ).bind fun z=>(bin .eql false [] z (sl s 0)).bind fun z=>ifD z (some (.ret [B true] [])) ((bin .add false [] (sl s 3) (I 1)).bind fun z=>some (.nrm [sl s 0,sl s 1,sl s 2,z]))) (some (.ext 0 []))) [x1,x0,z,I 0]).bind fun o=>bO o (fun i _=>ifN (i.beq 0) (some (.ret [B false] [])) none) fun a b=>some (.ret a b)):=by kernel_rfl
theorem od (x0 x1:D):bT [x0,x1]=((ab x0 (.ref 0 0)).bind fun z=>(lenD false x1).bind fun d=>(bR z x0).bind fun i=>(ab i i).bind fun i=>ai (au [i,d]) fun e c=>(ET D.ptr (aT 1 x1 (sl e 0))).bind fun z=>((ldD false 1 z).bind bJ).bind fun z=>(ab (sl c 0) (sl c 0)).bind fun _=>some (.ret [z] [sl c 0])):=by kernel_rfl
theorem iO (x0:D):bH [x0]=((vr [(0,1)] [.arr 1 [],I 0,.v (EU EY 0)] [x0]).bind fun z=>(qf 3 z).bind fun y=>(ab y (.ref 0 0)).bind fun z=>ai (bt [x0]) fun c _=>(aB (.tup c) 0).bind fun d=>(aB (bd (.tup c) 0) 1).bind fun e=>(aB (bd (bd (.tup c) 0) 1) 2).bind fun f=>(ab z z).bind fun g=>(ab z z).bind fun z=>(aF 1 [I 5,I (-1),I 17]).bind fun a=>(bR z y).bind fun i=>(ab i i).bind fun i=>ai (bT [i,a]) fun c h=>(aF 1 [I 2,I 3,I 4,I 6,I 0,I 16,sl c 0]).bind fun a=>(bR g (sl h 0)).bind fun i=>(ab i i).bind fun i=>ai (bT [i,a]) fun c _=>some (.ret [d,e,f,sl c 0] [])):=by kernel_rfl
theorem kE (x0 x1 x2 x3:D):cu [x0,x1,x2,x3]=(ai (bA [x0,x1,x2]) fun c _=>(aB (.tup c) 0).bind fun y=>(aB (bd (.tup c) 0) 1).bind fun z=>(un .not z).bind fun z=>(aq (.tup []) z false (some x3)).bind fun d=>eE z false (ai (cB [d,I 0,I 16]) fun c _=>some (.nrm [sl c 0])) [.tup []] fun e=>(aq (.tup []) z false (un .not (sl e 0))).bind fun f=>(bm z (B true) f).bind fun z=>ifD z (some (.ret [I 0,B false] [])) ((lenD false y).bind fun z=>(aD (fun s=>(bin .lss false [] (sl s 4) (sl s 3)).bind fun z=>ifD z ((ET D.ptr (aT 1 (sl s 2) (sl s 4))).bind fun z=>((ldD false 1 z).bind bJ).bind fun z=>(bin .leq false [] z (sl s 0)).bind fun g=>ifD g ((bin .add false [] (sl s 4) (I 1)).bind fun h=>some (.nrm [sl s 0,z,sl s 2,sl s 3,h])) ((bin .add false [] (sl s 4) (I 1)).bind fun z=>some (.nrm [sl s 0,sl s 1,sl s 2,sl s 3,z]))) (some (.ext 0 [sl s 1]))) [x3,I 0,y,z,I 0]).bind fun o=>bO o (fun i s=>ifN (i.beq 0) ((bin .gtr false [] (sl s 0) (I 0)).bind fun z=>some (.ret [sl s 0,z] [])) none) fun a b=>some (.ret a b))):=by kernel_rfl
theorem kJ (x0 x1 x2 x3:D):ct [x0,x1,x2,x3]=(ai (bX [x0,x1,x2]) fun c _=>(un .not (sl c 0)).bind fun z=>(aq (.tup []) z false (some x3)).bind fun d=>eE z false (ai (cZ [d,I 0,I 16]) fun c _=>some (.nrm [sl c 0])) [.tup []] fun e=>(aq (.tup []) z false (un .not (sl e 0))).bind fun f=>(bm z (B true) f).bind fun z=>ifD z (some (.ret [I 0,B false] [])) (ai (cj [x0,x1,x2]) fun c _=>(lenD false (sl c 0)).bind fun z=>(aD (fun s=>(bin .lss false [] (sl s 4) (sl s 3)).bind fun z=>ifD z ((ET D.ptr (aT 1 (sl s 2) (sl s 4))).bind fun z=>((ldD false 1 z).bind bJ).bind fun z=>(bin .leq false [] z (sl s 0)).bind fun g=>ifD g ((bin .add false [] (sl s 4) (I 1)).bind fun h=>some (.nrm [sl s 0,z,sl s 2,sl s 3,h])) ((bin .add false [] (sl s 4) (I 1)).bind fun z=>some (.nrm [sl s 0,sl s 1,sl s 2,sl s 3,z]))) (some (.ext 0 [sl s 1]))) [x3,I 0,sl c 0,z,I 0]).bind fun o=>bO o (fun i s=>ifN (i.beq 0) ((bin .gtr false [] (sl s 0) (I 0)).bind fun z=>some (.ret [sl s 0,z] [])) none) fun a b=>some (.ret a b))):=by kernel_rfl
theorem lJ (x0:D):cK [x0]=((vr [(0,1)] [.arr 1 [],I 0,.v (EU EY 0)] [x0]).bind fun z=>(qf 3 z).bind fun y=>(ab y (.ref 0 0)).bind fun z=>ai (bt [x0]) fun c _=>(aB (.tup c) 0).bind fun d=>(aB (bd (.tup c) 0) 1).bind fun e=>(aB (bd (bd (.tup c) 0) 1) 2).bind fun f=>(ab z z).bind fun z=>(aF 1 [I 2,I 3,I 4,I 1,I 0,I (-1),I 16,I 9223372036854775807]).bind fun a=>(bR z y).bind fun i=>(ab i i).bind fun i=>ai (bT [i,a]) fun c _=>some (.ret [d,e,f,sl c 0] [])):=by kernel_rfl
theorem vm (x0 x1:D):iq [x0,x1]=((lenD false x0).bind fun z=>(aD (fun s=>(bin .lss false [] (sl s 3) (sl s 2)).bind fun z=>ifD z ((ET D.ptr (aT 1 (sl s 1) (sl s 3))).bind fun z=>((ldD false 1 z).bind bJ).bind fun z=>(bin .eql false [] z (sl s 0)).bind fun z=>ifD z (some (.ret [B true] [])) ((bin .add false [] (sl s 3) (I 1)).bind fun z=>some (.nrm [sl s 0,sl s 1,sl s 2,z]))) (some (.ext 0 []))) [x1,x0,z,I 0]).bind fun o=>bO o (fun i _=>ifN (i.beq 0) (some (.ret [B false] [])) none) fun a b=>some (.ret a b)):=by kernel_rfl
theorem py (x0 x1 x2 x3:D):dX [x0,x1,x2,x3]=(ai (bX [x0,x1,x2]) fun c _=>(un .not (sl c 0)).bind fun z=>ifD z (some (.ret [B false,B false] [])) (ai (cj [x0,x1,x2]) fun c _=>ai (iq [sl c 0,x3]) fun c _=>some (.ret [sl c 0,B true] []))):=by kernel_rfl
end Go.Proofs.YtioabeglbjlndaaDoor

namespace Go.Proofs.YtioabeglbjlndaaDoor
open Go.V
set_option maxRecDepth 100000
@[reducible] def ty4:TI:={n:=1,zero:=[.v (.bool false)],bl:=true}
@[reducible] def ko:Cx:={K:=[Yc,Yc,.no,.no,Y,Yb,Yb,Y,Yb,Y,Yb,Y,Yb,Y,Yb,Y,Y,Y,Y,Y,Y,Y,Y,Yb,Yb,Y,Y,Y,Y,Y,Y,Yb,Yb,Y,Y,Y,Y,Y,Y,Y,Y,Yc,Y,Yc,Y,Y,Y,.tup [Yo 1 0,Yo 1 0,Y],Yc,.tup [Yo 1 0,Yo 1 0,Y],Yb,Yb,Y,.tup [Yo 1 0,Y],Yb,Yb,Y,.tup [Yo 1 0,Y],Yb,Y,.tup [Yo 1 0,Y],Yb,Yb,Y,.tup [Yo 1 0,Y],Yb,Y,.tup [Yo 1 0,Y],Yb,Yb,Y,.tup [Yo 1 0,Y],Yb,Y,.tup [Yo 1 0,Y],Yb,Yb,Y,.tup [Yo 1 0,Y],Yb,Y,.tup [Y,Y],Yb,Yb,Y,.tup [Y,Y],Y,Y,.tup [Y,Y],Yb,Yb,Y,.tup [Y,Y],Y,Y,Y,Y,Y,Y,Yb,Yb,Y,Y,Y,Y,Y,Y,Y,Y,Y,Yb,Yb,Y,Y,Y,Y,Y,Y,Y,Y,Y,Y,Y,Y,Y,Y,Y,Y,Y,Y,Y,Y,Y,Y,Y,Y,Yb,Y,Y,Y,Y,Yb,Y,Y,Y,Y,Y,Yb,Y,Yb,Y,Y,Y,Y,Y,Y,Y,Y,Y,Y,.tup [Y,Y],Yb,Yb,Y,Y,.tup [Y,Y],Y,Y,Y,Y,Y,Y,Yb,Y,Y,Y,Y,Y,Y,Y,Y,Y,Y,Y,Y,Y,Y,Y,Y,Y,Y,.tup [Yo 1 0,Yo 1 0,Y,Y],Yc,.tup [Yo 1 0,Yo 1 0,Y,Y],Yb,Yb,Y,Y,.tup [Y,Y],Yb,Yb,Y,Y,.tup [Y,Y],Y,Y,.tup [Y,Y],Yb,Yb,Y,Y,.tup [Y,Y],Y,Y,.tup [Yo 1 0,Yo 1 0,Y,Y],Yc,.tup [Yo 1 0,Yo 1 0,Y,Y],Yb,Yb,Y,Y,.tup [Y,Y],Yb,Yb,Y,Y,.tup [Y,Y],Y,Y,.tup [Y,Y],Yb,Yb,Y,Y,.tup [Y,Y],Y,Y,Y,Y,Y,Y,Y,Y,Y,Y,Y,Y,Y,Y,Y,Y,Y,Y,Y,Y,Y,.tup [Y,Y],Yb,Yb,Y,Y,.tup [Y,Y],Y,Y,Y,Y,Y,Y,Y,Y,Y,Y,Y],T:=[(3,ty3),(4,ty4),(5,ty5),(9,ty9),(22,yU),(23,fC),(28,jd)],S:=[(4,fM),(5,fc),(6,iS),(7,cq),(8,hP),(9,jE),(10,jw),(11,nv),(12,oF),(13,pC),(14,jg),(15,qY),(16,ef),(17,fW),(18,fI),(19,gf),(20,ju)],H:=[(0,([1,5,6,7,14,20],[1]))],res:=[.tmp 4],ios:=[],G:=gl0}
@[reducible] def jO:List (Nat × List Nat):=[(2047,[1])]
def em:List D→Option Out:=rb ko jO Tryd.f3
@[reducible] def gr:FS:={pm:=[Yc,Yc],rm:=[Y],f:=em}
theorem qr:ay gl0 Tryd.prog 3 gr:=zW (J:=jO) (P:=Tryd.prog) (c:=ko) (fn:=Tryd.f3) (pm:=gr.pm) (rm:=gr.rm) (by kernel_rfl) (ac kO (ac iE (ac nT (ac dq (ac nb (ac oW (ac pJ (ac tF (ac uL (ac vc (ac pG (ac wm (ac iW (ac lg (ac kD (ac lB (ac oz ao))))))))))))))))) nw (by kernel_rfl) Tryd.func3 (by kernel_rfl) (by kernel_rfl) rfl
open Go Go.V
set_option maxRecDepth 100000
theorem pX (x0 x1:D):em [x0,x1]=((lenD false x0).bind fun z=>(lenD false x1).bind fun z_1=>(bin .add false [] z z_1).bind fun z=>(bin .gtr false [] z (I 1048576)).bind fun z=>ifD z (some (.ret [B true] [])) (ai (cy [x0]) fun c _=>(aB (.tup c) 0).bind fun y=>(aB (bd (.tup c) 0) 1).bind fun h=>(aB (bd (bd (.tup c) 0) 1) 2).bind fun z=>ai (cG [y,h,z]) fun c _=>(aB (.tup c) 0).bind fun y_2=>(aB (bd (.tup c) 0) 1).bind fun u=>ai (dF [y,h,z]) fun c _=>(aB (.tup c) 0).bind fun v=>(aB (bd (.tup c) 0) 1).bind fun z_3=>ai (bA [y,h,z]) fun c _=>(aB (.tup c) 0).bind fun y_4=>(aB (bd (.tup c) 0) 1).bind fun z_4=>ai (dp [y,h,z]) fun c _=>(aB (.tup c) 0).bind fun zi=>(aB (bd (.tup c) 0) 1).bind fun z_5=>ai (dV [y,h,z]) fun c _=>(aB (.tup c) 0).bind fun z_6=>(aB (.tup c) 1).bind fun z_7=>ai (dU [y,h,z]) fun c _=>(aB (.tup c) 0).bind fun z_8=>(aB (.tup c) 1).bind fun z_9=>(bin .neq true [] u z_3).bind fun q=>(aq (.tup []) q false (some y_2)).bind fun z_11=>(aq (.tup []) q false (some v)).bind fun z_12=>eE q false (ai (gu [z_11,z_12]) fun c _=>some (.nrm [sl c 0])) [.tup []] fun k=>(aq (.tup []) q false (un .not (sl k 0))).bind fun z_13=>(bm q (B true) z_13).bind fun w=>(aq (.tup []) w false (some z_4)).bind fun z_15=>(aq (.tup []) w false (some z_5)).bind fun z_16=>(aq (.tup []) w false (bin .neq true [] z_15 z_16)).bind fun z_17=>(bm w (B true) z_17).bind fun r=>(aq (.tup []) r false (some y_4)).bind fun z_19=>(aq (.tup []) r false (some zi)).bind fun z_20=>eE r false (ai (iv [z_19,z_20]) fun c _=>some (.nrm [sl c 0])) [.tup []] fun k=>(aq (.tup []) r false (un .not (sl k 0))).bind fun z_21=>(bm r (B true) z_21).bind fun za=>(aq (.tup []) za false (some z_7)).bind fun z_23=>(aq (.tup []) za false (some z_9)).bind fun z_24=>(aq (.tup []) za false (bin .neq true [] z_23 z_24)).bind fun z_25=>(bm za (B true) z_25).bind fun zb=>(aq (.tup []) zb false (some z_6)).bind fun z_27=>(aq (.tup []) zb false (some z_8)).bind fun z_28=>(aq (.tup []) zb false (bin .neq false [] z_27 z_28)).bind fun z_29=>(bm zb (B true) z_29).bind fun zc=>(aq (.tup []) zc false (some z_4)).bind fun z_31=>(aq (.tup []) zc false (some u)).bind fun z_32=>(aq (.tup []) zc false (bin .neq true [] z_31 z_32)).bind fun z_33=>(bm zc (B true) z_33).bind fun zd=>(aq (.tup []) zd false (some z_7)).bind fun z_35=>(aq (.tup []) zd false (some u)).bind fun z_36=>(aq (.tup []) zd false (bin .neq true [] z_35 z_36)).bind fun z_37=>(bm zd (B true) z_37).bind fun z_38=>ifD z_38 (some (.ret [B false] [])) (yt (fun j=>ifD u (ai (fu [v,.v (.string ⟨⟨[]⟩⟩)]) fun c _=>(bin .neq false [] (sl c 0) z).bind fun d=>(aq (.tup []) d false (some v)).bind fun zj=>eE d false (ai (fu [zj,.v (.string ⟨⟨[45]⟩⟩)]) fun c _=>some (.nrm [sl c 0])) [.tup []] fun k=>(aq (.tup []) d false (some z_8)).bind fun ze=>(aq (.tup []) d false (bin .neq false [] (sl k 0) ze)).bind fun t=>(bm d (B true) t).bind fun e=>(aq (.tup []) e false (some v)).bind fun zf=>(aq (.tup []) e false (lenD false zf)).bind fun zg=>(aq (.tup []) e false (some zi)).bind fun zk=>(aq (.tup []) e false (lenD false zk)).bind fun zl=>(aq (.tup []) e false (bin .add false [] zl (I 1))).bind fun zm=>(aq (.tup []) e false (bin .neq false [] zg zm)).bind fun zn=>(bm e (B true) zn).bind fun l=>ifD l (some (.ret [B false] [])) ((aD (fun s=>(lenD true (sl s 3)).bind fun z=>(bin .leq false [] (sl s 5) z).bind fun z=>ifD z (ai (ce [sl s 1,sl s 2,sl s 3,sl s 5]) fun c _=>(aB (.tup c) 0).bind fun z=>(aB (.tup c) 1).bind fun zo=>(un .not zo).bind fun f=>(aq (.tup []) f false (some z)).bind fun zp=>(aq (.tup []) f false (some (sl s 4))).bind fun m=>(aq (.tup []) f false (some (sl s 5))).bind fun zq=>eE f false (ai (js [m,zq]) fun c _=>some (.nrm [sl c 0])) [.tup []] fun k=>(aq (.tup []) f false (bin .neq true [] zp (sl k 0))).bind fun zr=>(bm f (B true) zr).bind fun n=>(aq (.tup []) n false (some z)).bind fun z=>(aq (.tup []) n false (some z)).bind fun z=>(aq (.tup []) z true (some (sl s 5))).bind fun p=>(aq (.tup []) z true (bin .lss false [] p (I 2))).bind fun zs=>(aq (.tup []) z true (some zs)).bind fun g=>(aq (.tup []) g false (some (sl s 5))).bind fun zt=>(aq (.tup []) g false (some (sl s 3))).bind fun zu=>(aq (.tup []) g false (lenD true zu)).bind fun zh=>(aq (.tup []) g false (bin .sub false [] zh (I 2))).bind fun zv=>(aq (.tup []) g false (bin .gtr false [] zt zv)).bind fun zw=>(aq (.tup []) z true (bm g (B true) zw)).bind fun z_66=>(aq (.tup []) n false (bm z z_66 (B false))).bind fun z=>(bm n (B true) z).bind fun z=>ifD z (some (.ret [B false] [])) ((bin .add false [] (sl s 5) (I 1)).bind fun z=>some (.nrm [sl s 0,sl s 1,sl s 2,sl s 3,sl s 4,z]))) (some (.ext 0 [sl s 0]))) [x1,y,h,z,zi,I 0]).bind fun o=>bO o (fun i s=>ifN (i.beq 0) (j [sl s 0]) none) fun a b=>some (.ret a b))) (j [x1])) fun s=>ai (bH [sl s 0]) fun c _=>(aB (.tup c) 0).bind fun y=>(aB (bd (.tup c) 0) 1).bind fun y_6=>(aB (bd (bd (.tup c) 0) 1) 2).bind fun z=>(aB (bd (bd (.tup c) 0) 1) 3).bind fun d=>ai (cu [y,y_6,z,d]) fun c _=>(aB (.tup c) 0).bind fun zj=>(aB (.tup c) 1).bind fun ze=>ai (ct [y,y_6,z,d]) fun c _=>(aB (.tup c) 0).bind fun t=>(aB (.tup c) 1).bind fun e=>ai (cK [sl s 0]) fun c _=>(aB (.tup c) 0).bind fun y_7=>(aB (bd (.tup c) 0) 1).bind fun y_8=>(aB (bd (bd (.tup c) 0) 1) 2).bind fun zf=>(aB (bd (bd (.tup c) 0) 1) 3).bind fun zg=>ai (ce [y_7,y_8,zf,zg]) fun c _=>(aB (.tup c) 0).bind fun zk=>(aB (.tup c) 1).bind fun zl=>ai (dX [y_7,y_8,zf,zg]) fun c _=>(aB (.tup c) 0).bind fun zm=>(aB (.tup c) 1).bind fun zn=>(bin .neq true [] ze e).bind fun l=>(aq (.tup []) l false (some zj)).bind fun zo=>(aq (.tup []) l false (some t)).bind fun f=>(aq (.tup []) l false (bin .neq false [] zo f)).bind fun zp=>(bm l (B true) zp).bind fun m=>(aq (.tup []) m false (some zl)).bind fun zq=>(aq (.tup []) m false (some zn)).bind fun zr=>(aq (.tup []) m false (bin .neq true [] zq zr)).bind fun n=>(bm m (B true) n).bind fun p=>(aq (.tup []) p false (some zk)).bind fun zs=>(aq (.tup []) p false (some zm)).bind fun g=>(aq (.tup []) p false (bin .neq true [] zs g)).bind fun zt=>(bm p (B true) zt).bind fun zu=>ifD zu (some (.ret [B false] [])) (ifD ze (ai (ce [y,y_6,z,t]) fun c _=>(aB (.tup c) 0).bind fun z=>(aB (.tup c) 1).bind fun zh=>(aq (.tup []) zh true (some z)).bind fun z=>(bm zh z (B false)).bind fun z=>(aq (.tup []) z true (some t)).bind fun zv=>(aq (.tup []) z true (some d)).bind fun zw=>(aq (.tup []) z true (bin .leq false [] zv zw)).bind fun z_66=>(bm z z_66 (B false)).bind fun z=>some (.ret [z] [])) (some (.ret [B true] [])))))):=by kernel_rfl
set_option maxRecDepth 100000
def aa (s:ByteArray):List UInt8:=s.data.toList
theorem gn {s:ByteArray} {k:IntKind} {i:Nat}:eN (T s) (.v (.int k (i:Int)))=((aa s)[i]?).map fun b=>U b.toNat:=by simp [eN,aa]
theorem gh {a b:ByteArray} (h:aa a=aa b):a=b:=by
 cases a with | mk a=>cases b with | mk b =>
  cases a with | mk a=>cases b with | mk b =>
   simp [aa] at h;rw [h]
theorem eQ (s:ByteArray) (i j:Nat):aa (s.extract i j)=((aa s).take j).drop i:=by
 simp [aa,List.drop_take]
theorem eO (l:List UInt8):aa ⟨l.toArray⟩=l:=by simp [aa]
theorem Az (s:ByteArray):(⟨(aa s).toArray⟩:ByteArray)=s:=gh (eO _)
theorem kS (a b:ByteArray):aa (a++b)=aa a++aa b:=by simp [aa]
theorem lU {s:ByteArray} {z i j:Nat} (h1:i≤j) (h2:j≤s.size):dj true z (T s) (I (i:Int)) (I (j:Int))=some (T (s.extract i j)):=by
 simp only [dj,FL];rw [if_pos (by omega)]
theorem wY {s:ByteArray} {z i:Nat} (h:i≤s.size):ig true z (T s) (I (i:Int))=some (T (s.extract i s.size)):=by
 simp only [ig,FL];rw [if_pos (by omega)]
def qX (x:UInt8):List (List UInt8)→List (List UInt8)
 | []=>[[x]]
 | h::t=>(x::h)::t
def an (c:UInt8):List UInt8→List (List UInt8)
 | []=>[[]]
 | x::l=>if x=c then []::an c l else qX x (an c l)
theorem qc (c:UInt8) (l:List UInt8):an c l≠[]:=by
 cases l with
 | nil=>simp [an]
 | cons x l =>
  simp only [an];split
  ·simp
  ·cases an c l<;>simp [qX]
theorem mr {c:UInt8}:∀{l:List UInt8},c∉l→an c l=[l]
 | [],_=>rfl
 | x::l,h=>by
  simp only [Fz,not_or] at h;simp only [an];rw [if_neg (Ne.symm h.1),mr h.2];rfl
theorem nQ {c:UInt8} {b:List UInt8}:∀{a:List UInt8},c∉a→an c (a++c::b)=a::an c b
 | [],_=>by simp [an]
 | x::a,h=>by
  simp only [Fz,not_or] at h;rw [FM];simp only [an];rw [if_neg (Ne.symm h.1),nQ h.2];rfl
theorem oh (c:UInt8):∀(l:List UInt8),(FV l [c] = -1∧c∉l)∨∃a b,l=a++c::b∧c∉a∧FV l [c]=a.length
 | []=>.inl ⟨by simp [FV],by simp⟩
 | x::l=>by
  rw [Lib.index_one];simp only [Lib.indexByte];by_cases hx:x=c
  ·subst hx
   exact .inr ⟨[],l,rfl,by simp,by simp⟩
  ·have ih:=oh c l
   rw [Lib.index_one] at ih;rw [if_neg (by simpa using hx)];rcases ih with ⟨h1,h2⟩ | ⟨a,b,rfl,h2,h3⟩
   ·exact .inl ⟨by rw [h1];rfl,by simp [h2,Ne.symm hx]⟩
   ·refine .inr ⟨x::a,b,rfl,by simp [h2,Ne.symm hx],?_⟩
    rw [if_neg (by rw [h3];simp),h3];simp
theorem ud (c:UInt8):∀(n:Nat) (l:List UInt8),l.length≤n→Lib.splitK [c] 0 (FW l [c]) l=an c l
 | n,l,hn=>by
  rcases oh c l with ⟨h1,h2⟩ | ⟨a,b,rfl,h2,h3⟩
  ·rw [Lib.count_miss h1,mr h2]
   rfl
  ·rw [Lib.count_hit (by simp) h3,nQ h2,FK 1]
   have hb:(a++c::b).drop (a.length+[c].length)=b:=by
    rw [←FT];simp
   cases n with
   | zero=>simp at hn
   | succ n =>
    rw [hb];unfold Lib.splitK;rw [if_neg (by rw [h3];simp),h3];have e:((a.length:Int)).toNat=a.length:=by omega
    rw [e,hb,ud c n b (by simp at hn;omega)];simp
def bn (c:UInt8) (s:ByteArray):List ByteArray:=(an c (aa s)).map fun l=>⟨l.toArray⟩
theorem xF (c:UInt8) (s:ByteArray):gA s ⟨#[c]⟩=bn c s:=by
 have h:(gA s ⟨#[c]⟩).map aa=an c (aa s):=by
  have:=Lib.splitB_data ⟨#[c]⟩ 0 (Lib.countB s ⟨#[c]⟩) s;rw [show(fun x:ByteArray=>x.data.toList)=aa from rfl] at this;rw [gA,this];exact ud c _ _ (Fx _)
 have h2:(gA s ⟨#[c]⟩).map (fun x=>(⟨(aa x).toArray⟩:ByteArray))=bn c s:=by
  rw [bn,←h,List.map_map];rfl
 rw [←h2];have:(fun x:ByteArray=>(⟨(aa x).toArray⟩:ByteArray))=id:=funext Az;rw [this,List.map_id]
theorem yD {c:UInt8} {s:ByteArray} (h:s.size<4294967281):nO [T s,T ⟨#[c]⟩]=some (.ret [.arr 1 ((bn c s).map T)] []):=by
 have h1:1≤(⟨#[c]⟩:ByteArray).size:=Fx 1;simp only [nO,h,h1,and_self,if_true,xF]
theorem gB (c:UInt8):∀(l:List UInt8),(an c l).length≤l.length+1
 | []=>by simp [an]
 | x::l=>by
  have ih:=gB c l;simp only [an];split
  ·simp;omega
  ·generalize an c l=s at ih
   cases s<;>simp [qX] at ih ⊢<;>omega
set_option maxRecDepth 100000
def okL (b:UInt8):Bool:=decide (97≤b.toNat)&&decide (b.toNat≤122)
def jm:List UInt8→List Nat→Bool→List UInt8→Option (List UInt8 × List Nat)
 | w,ps,_,[]=>some (w,ps)
 | w,ps,last,b::l=>if b=45 then(if w=[]∨l=[]∨last=true then none else jm w (ps++[w.length]) true l) else jm (w++[b]) ps false l
def dA:Nat→List (List UInt8)→List Nat
 | _,[]=>[]
 | _,[_]=>[]
 | n,p::q::r=>(n+p.length)::dA (n+p.length) (q::r)
def cnd (w:List UInt8) (last:Bool):List (List UInt8)→Bool
 | []=>true
 | [_]=>true
 | p::q::r=>(!p.isEmpty||(!w.isEmpty && !last))&&(q::r).all fun x=>!x.isEmpty
theorem uU {c:UInt8}:∀{l:List UInt8},an c l=[[]]→l=[]
 | [],_=>rfl
 | x::l,h=>by
  simp only [an] at h;split at h
  ·simp only [FO] at h
   exact absurd h.2 (qc c l)
  ·cases hs:an c l<;>rw [hs] at h<;>simp [qX] at h
theorem lT:∀(l w:List UInt8) (ps:List Nat) (last:Bool),jm w ps last l=if cnd w last (an 45 l)=true then some (w++(an 45 l).flatten,ps++dA w.length (an 45 l)) else none
 | [],w,ps,last=>by simp [jm,an,cnd,dA]
 | b::l,w,ps,last=>by
  obtain⟨p,r,hs⟩:∃p r,an 45 l=p::r:=by
   cases h:an 45 l with
   | nil=>exact absurd h (qc _ _)
   | cons p r=>exact⟨p,r,rfl⟩
  by_cases hb:b=45
  ·subst hb
   have e:an 45 (45::l)=[]::p::r:=by rw [an,if_pos rfl,hs]
   rw [e];simp only [jm,if_true];by_cases hw:w=[]∨l=[]∨last=true
   ·rw [if_pos hw]
    have:cnd w last ([]::p::r)=false:=by
     rcases hw with rfl | rfl | rfl
     ·simp [cnd]
     ·simp only [an,FO] at hs
      obtain⟨rfl,rfl⟩:=hs;simp [cnd]
     ·simp [cnd]
    rw [this];simp
   ·rw [if_neg hw]
    simp only [not_or,Fe] at hw;obtain⟨h1,h2,rfl⟩:=hw;rw [lT l,hs];have hc:cnd w true (p::r)=cnd w false ([]::p::r):=by
     cases r with
     | nil =>
      have:p≠[]:=fun e=>h2 (uU (by rw [hs,e]))
      simp [cnd,h1,this]
     | cons q r=>simp [cnd,h1]
    rw [hc];simp [dA]
  ·have e:an 45 (b::l)=(b::p)::r:=by rw [an,if_neg hb,hs];rfl
   rw [e];simp only [jm,if_neg hb];rw [lT l,hs];have hc:cnd (w++[b]) false (p::r)=cnd w last ((b::p)::r):=by
    cases r with
    | nil=>simp [cnd]
    | cons q r=>simp [cnd]
   have hk:dA (w++[b]).length (p::r)=dA w.length ((b::p)::r):=by
    cases r with
    | nil=>simp [dA]
    | cons q r=>simp [dA,Nat.add_assoc,FK 1]
   rw [hc,hk];simp
def eF (e:List UInt8):Bool:=((an 45 e).all fun x=>!x.isEmpty)&&(an 45 e).flatten.all okL&&decide (2≤(an 45 e).flatten.length∧(an 45 e).flatten.length≤16)
theorem xX {l:List (List UInt8)} {p:List UInt8} (h:p∈l):p.length≤l.flatten.length:=by
 induction l with
 | nil=>cases h
 | cons q l ih =>
  rcases Fz.1 h with rfl | h
  ·simp
  ·have:=ih h
   simp only [Fj,Fh];omega
theorem Ae (e:List UInt8):(((an 45 e).all fun p=>p.all okL&&decide (1≤p.length∧p.length≤16))&&decide (2≤(an 45 e).flatten.length∧(an 45 e).flatten.length≤16))=eF e:=by
 unfold eF;generalize an 45 e=l;by_cases h:2≤l.flatten.length∧l.flatten.length≤16
 ·simp only [h,decide_true,FJ,and_self]
  rw [FP];simp only [List.all_eq_true,Fb,decide_eq_true_eq,Bool.not_eq_true',List.isEmpty_eq_false_iff,List.mem_flatten,forall_exists_index,and_imp];constructor
  ·intro h1
   exact⟨fun p hp=>by have:=(h1 p hp).2;intro e;subst e;simp at this,fun b p hp hb=>(h1 p hp).1 b hb⟩
  ·rintro⟨h1,h2⟩ p hp
   have h3:=xX hp;have h4:=Fw.2 (h1 p hp);exact⟨fun b hb=>h2 b p hp hb,by omega,by omega⟩
 ·have h':decide (2≤l.flatten.length∧l.flatten.length≤16)=false:=decide_eq_false h
  rw [h'];simp
theorem yS (e:List UInt8):(match jm [] [] false e with
  | none=>false
  | some (w,_)=>w.all okL&&decide (1≤w.length∧w.length≤16)&&decide (1<w.length))=eF e:=by
 rw [lT];unfold eF;have hne:=qc 45 e;generalize an 45 e=l at *;by_cases hc:cnd [] false l=true
 ·rw [if_pos hc]
  simp only [Fk];by_cases h:2≤l.flatten.length∧l.flatten.length≤16
  ·have hall:(l.all fun x=>!x.isEmpty)=true:=by
    match l,hc with
    | [p],_ =>
     have:p≠[]:=fun e=>by subst e;simp at h
     simp [this]
    | p::q::r,hc=>
     simp only [cnd,List.isEmpty_nil,Fq,EZ,Bool.or_false] at hc;simpa [Fr] using hc
   have h1:1≤l.flatten.length∧l.flatten.length≤16:=by omega
   have h2:1<l.flatten.length:=by omega
   rw [decide_eq_true h,decide_eq_true h1,decide_eq_true h2,hall];simp only [FJ,Fa]
  ·have h1:(decide (1≤l.flatten.length∧l.flatten.length≤16)&&decide (1<l.flatten.length))=false:=by
    simp only [Bool.and_eq_false_iff,decide_eq_false_iff_not];omega
   rw [Bool.and_assoc,h1,decide_eq_false h];simp
 ·rw [if_neg hc]
  have:(l.all fun x=>!x.isEmpty)=false:=by
   match l,hne,hc with
   | [p],_,hc=>simp [cnd] at hc
   | p::q::r,_,hc=>
    simp only [cnd,List.isEmpty_nil,Fq,EZ,Bool.or_false] at hc;rw [Bool.eq_false_iff];intro e;exact hc (by simpa [Fr] using e)
  rw [this];simp
theorem yJ (c:UInt8):∀(n:Nat) (l:List UInt8),l.length≤n→Lib.replaceK [c] [] (FW l [c]) l=(an c l).flatten
 | n,l,hn=>by
  rcases oh c l with ⟨h1,h2⟩ | ⟨a,b,rfl,h2,h3⟩
  ·rw [Lib.count_miss h1,mr h2]
   simp [Lib.replaceK]
  ·rw [Lib.count_hit (by simp) h3,nQ h2,FK 1]
   have hb:(a++c::b).drop (a.length+[c].length)=b:=by
    rw [←FT];simp
   cases n with
   | zero=>simp at hn
   | succ n =>
    rw [Lib.replaceK_hit [c] [] _ _ a.length h3,hb,yJ c n b (by simp at hn;omega)];simp
def bM (s:ByteArray):ByteArray:=⟨((an 45 (aa s)).flatten).toArray⟩
theorem zH (s:ByteArray):xt s ⟨#[45]⟩ ⟨#[]⟩=bM s:=by
 unfold xt bM;have e1:(⟨#[45]⟩:ByteArray).data.toList=[45]:=rfl;have e2:(⟨#[]⟩:ByteArray).data.toList=[]:=rfl;have e3:s.data.toList=aa s:=rfl;rw [e1,e2,e3];unfold Lib.replaceAll Lib.replace;rw [if_neg (by decide)];have e4:Lib.replaceNum (aa s) [45] (-1)=FW (aa s) [45]:=by
  unfold Lib.replaceNum;rw [if_pos (.inl (by decide))]
 rw [e4,yJ 45 _ _ (Fx _)]
theorem uX (s:ByteArray) (h:s.size<4294967281):eB [T s]=some (.ret [T (bM s)] []):=by
 rw [uQ];have e1:D.v (Fm {data:={toList:=[45]}})=T ⟨#[45]⟩:=rfl;have e2:D.v (Fm {data:={toList:=[]}})=T ⟨#[]⟩:=rfl;have hr:fe [T s,T ⟨#[45]⟩,T ⟨#[]⟩]=some (.ret [T (bM s)] []):=by
  simp only [fe];rw [if_pos ⟨h,by decide,rfl⟩,zH]
 simp -implicitDefEqProofs only [e1,e2,hr,aM,aS]
set_option maxRecDepth 100000
structure Cur where
 code:List Int
 at_:Nat
 seed:Int
abbrev eH (l:List Int):D:=.arr 1 (l.map U)
abbrev aX (c:Cur):D:=.agg [eH c.code,I c.at_,.v (.int .u64 c.seed)]
structure Cur.ok (c:Cur) (B:Nat):Prop where
 by_:∀n∈c.code,0≤n∧n≤255
 len:c.code.length≤9223372036854775807
 at_:c.at_≤B
 lo:0≤c.seed
 hi:c.seed<18446744073709551616
theorem uE {k:IntKind} {n:Int}:eg (some .i64) false (.v (.int k n))=some (I (ES.wrap n)):=rfl
theorem tW {k:IntKind} {n:Int}:eg (some .u64) false (.v (.int k n))=some (.v (.int .u64 (EY.wrap n))):=rfl
theorem zA {n:Int} {bl:Bool} {eq:List Nat}:bin .shr bl eq (.v (.int .u64 n)) (.v (.int .u64 40))=some (.v (.int .u64 (n.fdiv 1099511627776))):=by
 simp [bin,IntKind.bits]
theorem Dq {a b:Int} {bl:Bool} {eq:List Nat}:bin .and bl eq (.v (.int .u64 a)) (.v (.int .u64 b))=some (.v (.int .u64 (bits .and .u64 a b))):=by simp [bin,eZ]
theorem DD {n:Int} (h0:0≤n) (h1:n<18446744073709551616):0≤bits .and .u64 n 255∧bits .and .u64 n 255≤255:=by
 obtain⟨m,rfl⟩:=Fp h0;have:=bits_and_u64_nat m 255 (by omega) (by omega);rw [show((255:Int))=((255:Nat):Int) from rfl,this];have h2:m &&& 255≤255:=Nat.and_le_right;omega
theorem DQ (n:Int):0≤EY.wrap n∧EY.wrap n<18446744073709551616:=by
 rw [IntKind.wrap_u64];omega
def jI (s n:Int):Int:=EY.wrap (EY.wrap (EY.wrap (s*6364136223846793005)+EY.wrap n)+1442695040888963407)
def qZ (s:Int):Int:=bits .and .u64 (s.fdiv 1099511627776) 255
theorem fi (s n:Int):0≤jI s n∧jI s n<18446744073709551616:=DQ _
theorem vv {s:Int} (h0:0≤s) (h1:s<18446744073709551616):0≤qZ s∧qZ s≤255:=by
 unfold qZ;rw [Int.fdiv_eq_ediv_of_nonneg _ (by omega)];exact DD (by omega) (by omega)
theorem Eu (c:Cur) (B:Nat) (h:c.ok B) (hB:B≤1000000000000) (hc:c.at_<c.code.length):bI [aX c]=some (.ret [I c.code[c.at_]] [aX ⟨c.code,c.at_+1,jI c.seed c.code[c.at_]⟩]):=by
 have hl:=h.len;have ha:=h.at_;have hw:ES.wrap ((c.at_:Int)+1)=(c.at_:Int)+1:=am (by omega) (by omega);have hn:=h.by_ c.code[c.at_] (EW hc);have hv:ES.wrap c.code[c.at_]=c.code[c.at_]:=am (by omega) (by omega);have hle:(c.at_:Int)+1≤(c.code.length:Int):=by omega
 rw [je];simp -implicitDefEqProofs [hc,hw,hv,hle,uE,tW,jI]
theorem ED (c:Cur) (B:Nat) (h:c.ok B) (hB:B≤1000000000000) (hc:¬c.at_<c.code.length):bI [aX c]=some (.ret [I (qZ (jI c.seed 0))] [aX ⟨c.code,c.at_+1,jI c.seed 0⟩]):=by
 have hl:=h.len;have ha:=h.at_;have hw:ES.wrap ((c.at_:Int)+1)=(c.at_:Int)+1:=am (by omega) (by omega);have hle:¬(c.at_:Int)+1≤(c.code.length:Int):=by omega
 have hq:=vv (fi c.seed 0).1 (fi c.seed 0).2;have hv:ES.wrap (qZ (jI c.seed 0))=qZ (jI c.seed 0):=am (by omega) (by omega);unfold qZ jI at hv;rw [je];simp -implicitDefEqProofs [hc,hw,hle,uE,tW,zA,Dq,hv,jI,qZ]
theorem BW (c:Cur) (B:Nat) (h:c.ok B) (hB:B≤1000000000000):∃v c',bI [aX c]=some (.ret [I v] [aX c'])∧0≤v∧v≤255∧c'.ok (B+1):=by
 have ha:=h.at_;by_cases hc:c.at_<c.code.length
 ·have hn:=h.by_ c.code[c.at_] (EW hc)
  exact⟨_,_,Eu c B h hB hc,hn.1,hn.2,⟨h.by_,h.len,Nat.succ_le_succ ha,(fi _ _).1,(fi _ _).2⟩⟩
 ·have hq:=vv (fi c.seed 0).1 (fi c.seed 0).2
  exact⟨_,_,ED c B h hB hc,hq.1,hq.2,⟨h.by_,h.len,Nat.succ_le_succ ha,(fi _ _).1,(fi _ _).2⟩⟩
theorem gi (c:Cur) (n:Int) (B:Nat) (h:c.ok B) (hB:B≤100000000000) (hn:n≤1000000000):∃v c',au [aX c,I n]=some (.ret [I v] [aX c'])∧0≤v∧(v<n∨v=0)∧c'.ok (B+2):=by
 rw [pO];by_cases h1:n≤1
 ·exact⟨0,c,by simp [h1],by omega,.inr rfl,⟨h.by_,h.len,by have:=h.at_;omega,h.lo,h.hi⟩⟩
 obtain⟨v,c1,e1,l1,u1,k1⟩:=BW c B h (by omega);have hn0:¬n=0:=by omega
 by_cases h2:200<n
 ·obtain⟨v2,c2,e2,l2,u2,k2⟩:=BW c1 (B+1) k1 (by omega)
  have w1:ES.wrap (v*256)=v*256:=am (by omega) (by omega);have w2:ES.wrap (v*256+v2)=v*256+v2:=am (by omega) (by omega);refine⟨(v*256+v2).tmod n,c2,by simp [h1,h2,e1,e2,w1,w2,hn0],Int.tmod_nonneg _ (by omega),.inl (Int.tmod_lt_of_pos _ (by omega)),k2⟩
 ·refine⟨v.tmod n,c1,by simp [h1,h2,e1,hn0],Int.tmod_nonneg _ l1,.inl (Int.tmod_lt_of_pos _ (by omega)),⟨k1.by_,k1.len,by have:=k1.at_;omega,k1.lo,k1.hi⟩⟩
theorem ug (c:Cur) (n:Int) (B:Nat) (h:c.ok B) (hB:B≤100000000000) (hn:n≤1000000000):∃(b:Bool) (c':Cur),aV [aX c,I n]=some (.ret [.v (.bool b)] [aX c'])∧c'.ok (B+2):=by
 rw [qG];obtain⟨v,c1,e1,l1,u1,k1⟩:=gi c n B h hB hn;exact⟨_,c1,by simp [e1];rfl,k1⟩
abbrev vM (l:List Int):D:=.arr 1 (l.map I)
theorem va (c:Cur) (l:List Int) (B:Nat) (h:c.ok B) (hB:B≤100000000000) (hl:l≠[]) (hn:l.length≤1000000000):∃v c',bT [aX c,vM l]=some (.ret [I v] [aX c'])∧v∈l∧c'.ok (B+2):=by
 rw [od];have hp:0<l.length:=Fw.2 hl;obtain⟨v,c1,e1,l1,u1,k1⟩:=gi c l.length B h hB (by omega);obtain⟨i,rfl⟩:=Fp l1;have hi:i<l.length:=by omega
 exact⟨l[i],c1,by simp [e1,hi],EW hi,k1⟩
theorem Cur.ok.mono {c:Cur} {B C:Nat} (h:c.ok B) (hBC:B≤C):c.ok C:=⟨h.by_,h.len,Nat.le_trans h.at_ hBC,h.lo,h.hi⟩
theorem xS {l:List Int}:aF 1 (l.map I)=some (vM l):=by
 have:jJ 1 (l.map I).length (l.map I)=true:=by
  unfold jJ;simp
 simp only [aF,this,if_true]
theorem xg (l:List Int):vr [(0,1)] [D.arr 1 [],I 0,D.v (.int .u64 0)] [eH l]=some (.agg [eH l,I 0,D.v (.int .u64 0)]):=by
 simp [vr,uB]
structure Bytes (l:List Int):Prop where
 by_:∀n∈l,0≤n∧n≤255
 len:l.length≤9223372036854775807
theorem DX {l:List Int} (h:Bytes l):Cur.ok ⟨l,0,0⟩ 0:=⟨h.by_,h.len,Fx _,Int.le_refl 0,show(0:Int)<18446744073709551616 by decide⟩
abbrev txs (l:List ByteArray):D:=.arr 1 (l.map T)
theorem qW {l:List ByteArray}:aF 1 (l.map T)=some (txs l):=by
 have:jJ 1 (l.map T).length (l.map T)=true:=by
  unfold jJ;simp
 simp only [aF,this,if_true]
theorem vU (c:Cur) (l:List ByteArray) (B:Nat) (h:c.ok B) (hB:B≤100000000000) (hl:l≠[]) (hn:l.length≤1000000000):∃v c',bf [aX c,txs l]=some (.ret [T v] [aX c'])∧v∈l∧c'.ok (B+2):=by
 rw [rv];have hp:0<l.length:=Fw.2 hl;obtain⟨v,c1,e1,l1,u1,k1⟩:=gi c l.length B h hB (by omega);obtain⟨i,rfl⟩:=Fp l1;have hi:i<l.length:=by omega
 exact⟨l[i],c1,by simp [e1,hi],EW hi,k1⟩
theorem BC (s:ByteArray) (i j:Nat):(s.extract i j).size=min j s.size - i:=by rw [ByteArray.size_extract]
set_option maxRecDepth 100000
theorem fg (a b c:Int):cZ [I a,I b,I c]=some (.ret [B (decide (b≤a∧a≤c))] []):=by
 rw [wc];by_cases h:b≤a<;>simp [h]
theorem eP (a b c:Int):cB [I a,I b,I c]=some (.ret [B (decide (b≤a∧a≤c))] []):=by
 rw [tA];by_cases h:b≤a<;>simp [h]
set_option maxRecDepth 100000
def eh {β:Type} (p:β→Bool):Nat→List β→Option Nat
 | _,[]=>none
 | i,x::l=>if p x=true then some i else eh p (i+1) l
theorem qD {β:Type} {body:List D→Option Out} (l:List β) (st:Nat→List D) (p:β→Bool) (o1:Nat→Out) (o2:Out) (hs:∀(i:Nat) (hi:i<l.length),body (st i)=some (if p l[i]=true then o1 i else .nrm (st (i+1)))) (he:body (st l.length)=some o2)
  (h1:∀i,(o1 i).ends=true) (h2:o2.ends=true) {s0:List D} (h:s0=st 0):aD body s0=some ((eh p 0 l).elim o2 o1):=by
 have e:∀(m:List β) (i:Nat),goL (fun i x (_:Unit)=>if p x=true then .inr (o1 i) else .inl ()) (fun _=>o2) i m ()=(eh p i m).elim o2 o1:=by
  intro m;induction m with
  | nil=>intro i;simp [goL,eh]
  | cons x m ih =>
   intro i;simp only [goL,eh];by_cases hp:p x=true
   ·simp [hp]
   ·simp [hp,ih]
 rw [←e];refine mQ l (fun i _=>st i) (fun _ _=>True) _ _ (fun i x a hx _=>?_) (fun _ _=>⟨he,h2⟩) () trivial h
 have hi:i<l.length:=(FC.1 hx).1;have hxe:l[i]=x:=(FC.1 hx).2;have:=hs i hi;rw [hxe] at this;by_cases hp:p x=true
 ·simpa [hp,h1] using this
 ·simpa [hp] using this
theorem aR (s:ByteArray):s.size=(aa s).length:=rfl
def az (b:UInt8):Bool:=decide (97≤(b.toNat:Int))&&decide ((b.toNat:Int)≤122)
def dY (s:ByteArray) (lo hi:Int):Bool:=lC (fun _ b=>az b) 0 (aa s)&&decide (lo≤(s.size:Int)∧(s.size:Int)≤hi)
theorem qt (s:ByteArray) (n:Int) (h:s.size≤9223372036854775807):eD [T s,I n]=some (.ret [B (dY s 1 n)] []):=by
 rw [qE];rw [aR] at h;refine aA _ (gQ (aa s) (fun i=>[T s,I n,I i]) (fun _ b=>az b) (.ret [B false] []) (.ext 0 [T s,I n]) (fun i hi=>?_) ?_ rfl rfl rfl) ?_
 ·have hw:ES.wrap ((i:Int)+1)=(i:Int)+1:=am (by omega) (by omega)
  by_cases h1:97≤(((aa s)[i]).toNat:Int)
  ·by_cases h2:(((aa s)[i]).toNat:Int)≤122
   ·simp -implicitDefEqProofs [aR,gn,hi,hw,az,h1,h2,Ft.2 h1,Ft.2 h2]
   ·simp -implicitDefEqProofs [aR,gn,hi,hw,az,h1,h2,Ft.2 h1,FI.1 h2]
  ·simp -implicitDefEqProofs [aR,gn,hi,hw,az,h1,FI.1 h1]
 ·simp -implicitDefEqProofs [aR]
 ·by_cases hg:lC (fun _ b=>az b) 0 (aa s)=true<;>simp -implicitDefEqProofs [hg,dY,fg]
theorem jC (s:ByteArray) (m n:Int) (h:s.size≤9223372036854775807):cY [T s,I m,I n]=some (.ret [B (dY s m n)] []):=by
 rw [pK];rw [aR] at h;refine aA _ (gQ (aa s) (fun i=>[T s,I m,I n,I i]) (fun _ b=>az b) (.ret [B false] []) (.ext 0 [T s,I m,I n]) (fun i hi=>?_) ?_ rfl rfl rfl) ?_
 ·have hw:ES.wrap ((i:Int)+1)=(i:Int)+1:=am (by omega) (by omega)
  by_cases h1:97≤(((aa s)[i]).toNat:Int)
  ·by_cases h2:(((aa s)[i]).toNat:Int)≤122
   ·simp -implicitDefEqProofs [aR,gn,hi,hw,az,h1,h2,Ft.2 h1,Ft.2 h2]
   ·simp -implicitDefEqProofs [aR,gn,hi,hw,az,h1,h2,Ft.2 h1,FI.1 h2]
  ·simp -implicitDefEqProofs [aR,gn,hi,hw,az,h1,FI.1 h1]
 ·simp -implicitDefEqProofs [aR]
 ·by_cases hg:lC (fun _ b=>az b) 0 (aa s)=true<;>simp -implicitDefEqProofs [hg,dY,eP]
set_option maxRecDepth 100000
theorem Bk (b:UInt8):az b=okL b:=by
 unfold az okL;congr 1<;>simp<;>omega
theorem yk:∀(l:List UInt8) (i:Nat),lC (fun _ b=>az b) i l=l.all okL
 | [],_=>rfl
 | b::l,i=>by
  simp only [lC,Fr,Bk];rw [←yk l (i+1)];congr 2
  funext _ b
  rw [Bk]
theorem nU (s:ByteArray) (lo hi:Int):dY s lo hi=((aa s).all okL&&decide (lo≤(s.size:Int)∧(s.size:Int)≤hi)):=by
 unfold dY;rw [yk]
theorem lK {β:Type} (p:β→Bool):∀(l:List β) (i:Nat),lC (fun _ b=>p b) i l=l.all p
 | [],_=>rfl
 | b::l,i=>by
  simp only [lC,Fr];rw [lK p l (i+1)]
theorem xv (s:ByteArray):∀p∈bn 45 s,p.size≤s.size:=by
 intro p hp;obtain⟨l,hl,rfl⟩:=List.mem_map.1 hp;have h1:=xX hl;have h2:∀m:List UInt8,(an 45 m).flatten.length≤m.length:=by
  intro m;induction m with
  | nil=>simp [an]
  | cons x m ih =>
   simp only [an];split
   ·simp only [Fj,Fk,Ff]
    omega
   ·cases h:an 45 m with
    | nil=>simp [qX]
    | cons q r =>
     rw [h] at ih;simp only [qX,Fj,Fh,Ff] at ih ⊢;omega
 have h3:=h2 (aa s);show l.length≤(aa s).length
 omega
theorem nR (s:ByteArray):(bM s).size=(an 45 (aa s)).flatten.length:=by simp [bM,FG]
theorem nK (e:ByteArray) (h:e.size≤1048576):dG [T e]=some (.ret [B (eF (aa e))] []):=by
 rw [nN];have e1:D.v (Fm {data:={toList:=[45]}})=T ⟨#[45]⟩:=rfl;have hl:=gB 45 (aa e);have hlen:(bn 45 e).length≤1048577:=by
  rw [bn,Fc];have:(aa e).length=e.size:=rfl;omega
 simp -implicitDefEqProofs only [e1,yD (c:=45) (s:=e) (by omega),aM,aS,fV,Fc,EX];refine aA _ (gQ (bn 45 e) (fun i=>[T e,.arr 1 ((bn 45 e).map T),I (bn 45 e).length,I i]) (fun _ x=>dY x 1 16) (.ret [B false] []) (.ext 0 [T e]) (fun i hi=>?_) ?_ rfl rfl rfl) ?_
 ·have hi':(i:Int)<((bn 45 e).length:Int):=by omega
  have hw:ES.wrap ((i:Int)+1)=((i+1:Nat):Int):=by rw [am (by omega) (by omega)];omega
  have hel:aT 1 (.arr 1 ((bn 45 e).map T)) (I (i:Int))=some [T (bn 45 e)[i]]:=by simp [hi]
  have hs:=xv e _ (EW hi);have ha:=jC (bn 45 e)[i] 1 16 (by omega);cases hc:dY (bn 45 e)[i] 1 16<;>rw [hc] at ha<;>simp -implicitDefEqProofs only [aS,de,eC,hi',decide_true,EX,gJ,if_true,hel,Fl,lc,kM,nJ,ha,aM,qd,Fq,FU,Fi,if_false,fN,hw]
 ·simp
 ·rw [lK]
  have hp:=uX e (by omega);have hw:=eP ((bM e).size:Int) 2 16;have key:eF (aa e)=(((bn 45 e).all fun x=>dY x 1 16)&&decide (2≤((bM e).size:Int)∧((bM e).size:Int)≤16)):=by
   rw [←Ae,nR];congr 1
   ·rw [bn,List.all_map]
    congr 1
    funext p
    simp only [Function.comp_apply,nU,eO];congr 1
    have:((⟨p.toArray⟩:ByteArray).size)=p.length:=by simp [FG]
    rw [this];apply decide_eq_decide.2;omega
   ·apply decide_eq_decide.2
    omega
  rw [key];cases hc:(bn 45 e).all fun x=>dY x 1 16
  ·simp -implicitDefEqProofs
  ·simp -implicitDefEqProofs [hp,hw]
set_option maxRecDepth 100000
def fZ (w x:ByteArray):Bool:=decide (bM x=w)
theorem iK (l:List ByteArray) (w:ByteArray) (h:l.length≤1048576) (hs:∀x∈l,x.size≤1048576):cH [txs l,T w]=some (.ret [I ((eh (fZ w) 0 l).elim (-1) fun j=>(j:Int))] []):=by
 rw [nV];simp -implicitDefEqProofs only [fV,Fc,EX];refine aA _ (qD l (fun i=>[T w,txs l,I l.length,I i]) (fZ w) (fun j=>.ret [I j] []) (.ext 0 []) (fun i hi=>?_) ?_ (fun _=>rfl) rfl rfl) ?_
 ·have hi':(i:Int)<(l.length:Int):=by omega
  have hw:ES.wrap ((i:Int)+1)=((i+1:Nat):Int):=by rw [am (by omega) (by omega)];omega
  have hel:aT 1 (txs l) (I (i:Int))=some [T l[i]]:=by simp [hi]
  have hp:=uX l[i] (by have:=hs _ (EW hi);omega);by_cases hc:bM l[i]=w<;>simp -implicitDefEqProofs only [aS,de,eC,hi',decide_true,EX,gJ,if_true,hel,Fl,lc,kM,nJ,hp,aM,px,hc,decide_false,Fi,if_false,fN,hw,fZ]
 ·simp
 ·cases eh (fZ w) 0 l<;>simp -implicitDefEqProofs
def uK (l:List ByteArray):Bool:=lC (fun i x=>eF (aa x)&&(eh (fZ (bM x)) 0 (l.take i)).isNone) 0 l&&decide ((l.length:Int)≤20)
theorem zG {l:List ByteArray} {i:Nat} (hi:i≤l.length):dj false 1 (txs l) (I 0) (I (i:Int))=some (txs (l.take i)):=by
 simp [dj,hi]
theorem mD (l:List ByteArray) (h:l.length≤1048576) (hs:∀x∈l,x.size≤1048576):dc [txs l]=some (.ret [B (uK l)] []):=by
 rw [mz];simp -implicitDefEqProofs only [fV,Fc,EX];unfold uK;refine aA _ (gQ l (fun i=>[txs l,txs l,I l.length,I i]) (fun i x=>eF (aa x)&&(eh (fZ (bM x)) 0 (l.take i)).isNone) (.ret [B false] []) (.ext 0 [txs l]) (fun i hi=>?_) ?_ rfl rfl rfl) ?_
 ·have hi':(i:Int)<(l.length:Int):=by omega
  have hw:ES.wrap ((i:Int)+1)=((i+1:Nat):Int):=by rw [am (by omega) (by omega)];omega
  have hel:aT 1 (txs l) (I (i:Int))=some [T l[i]]:=by simp [hi]
  have hz:=hs _ (EW hi);have hp:=uX l[i] (by omega);have hx:=nK l[i] hz;have hsl:=zG (l:=l) (i:=i) (by omega);have ha:=iK (l.take i) (bM l[i]) (by rw [Fg];omega) (fun x hx=>hs x (List.mem_of_mem_take hx));cases hc:eF (aa l[i])<;>rw [hc] at hx
  ·simp -implicitDefEqProofs only [aS,de,eC,hi',decide_true,EX,gJ,if_true,hel,Fl,lc,kM,nJ,hx,aM,qd,FU,pR,pF,mO,EZ,Fi,if_false]
  ·cases hf:eh (fZ (bM l[i])) 0 (l.take i) with
   | none =>
    rw [hf] at ha;simp -implicitDefEqProofs only [aS,de,eC,hi',decide_true,EX,gJ,if_true,hel,Fl,lc,kM,nJ,hx,aM,qd,Fq,pR,pF,mI,hsl,hp,ha,Option.elim,rR,show ¬((0:Int) ≤ -1) by decide,ge_iff_le,decide_false,mO,Fa,Option.isNone_none,Fi,if_false,fN,hw]
   | some j =>
    rw [hf] at ha;simp -implicitDefEqProofs only [aS,de,eC,hi',decide_true,EX,gJ,if_true,hel,Fl,lc,kM,nJ,hx,aM,qd,Fq,pR,pF,mI,hsl,hp,ha,Option.elim,rR,show((0:Int)≤(j:Int)) by omega,ge_iff_le,decide_true,mO,Fa,Option.isNone_some,Fi,if_false]
 ·simp
 ·cases lC (fun i x=>eF (aa x)&&(eh (fZ (bM x)) 0 (l.take i)).isNone) 0 l<;>simp -implicitDefEqProofs
set_option maxRecDepth 100000
abbrev aI (l:List Int):D:=.arr 1 (l.map I)
def bo (l:List Nat):List Int:=l.map fun n:Nat=>(n:Int)
def lL:Option (List UInt8 × List Nat)→Out
 | none=>.ret [T ⟨#[]⟩,.arr 1 [],B false] []
 | some (w,ps)=>.ext 0 [T ⟨w.toArray⟩,aI (bo ps)]
theorem gS {l m:List Int} (h:l.length+m.length≤1048576):eL 1 8 (aI l) (aI m)=some (aI (l++m)):=by
 rw [vd,if_pos (by simp only [Fc,true_or,true_and];omega)];show _=some (D.arr 1 ((l++m).map I))
 rw [Fu]
theorem gx (n:Int):aF 1 [I n]=some (aI [n]):=by simp [aF,jJ]
theorem kY (l:List Int):ie (aI l)=some (aI l):=wd fun _=>rfl
theorem oH {s:ByteArray} {i:Nat} (h:i<(aa s).length):eN (T s) (I (i:Int))=some (U (aa s)[i].toNat):=by
 rw [gn,FE h];rfl
theorem e45 (b:UInt8):decide ((b.toNat:Int)=45)=decide (b=45):=by
 apply decide_eq_decide.2;constructor
 ·intro h
  have h2:b.toNat=45:=by omega
  exact UInt8.toNat_inj.1 (by simpa using h2)
 ·rintro rfl
  rfl
theorem uM {s:ByteArray} {i:Nat} (h:i<(aa s).length):s.extract i (i+1)=⟨#[(aa s)[i]]⟩:=by
 apply gh;rw [eQ];have:((aa s).take (i+1)).drop i=[(aa s)[i]]:=by
  rw [List.take_succ_eq_append_getElem h,List.drop_append_of_le_length (by rw [Fg];omega)];simp
 rw [this];rfl
theorem Af {body:List D→Option Out} (L:List UInt8) (st:Nat→List UInt8→List Nat→List D)
  (hs:∀(i:Nat) (hi:i<L.length) (w:List UInt8) (ps:List Nat),w.length≤i→ps.length≤i→(w=[]↔i=0) →
   body (st i w ps)=some (if L[i]=45 then(if w=[]∨i+1=L.length∨L.getD (i - 1) 0=45 then lL none else .nrm (st (i+1) w (ps++[w.length]))) else .nrm (st (i+1) (w++[L[i]]) ps)))
  (he:∀(w:List UInt8) (ps:List Nat),body (st L.length w ps)=some (lL (some (w,ps)))):aD body (st 0 [] [])=some (lL (jm [] [] false L)):=by
 have key:∀(n i:Nat) (w:List UInt8) (ps:List Nat),i+n=L.length→w.length≤i→ps.length≤i→(w=[]↔i=0) →
   Runs body (st i w ps) (lL (jm w ps (decide (0<i∧L.getD (i - 1) 0=45)) (L.drop i))):=by
  intro n;induction n with
  | zero =>
   intro i w ps hi h1 h2 h3;have:i=L.length:=by omega
   subst this;rw [FN];exact Runs.one (he w ps) rfl
  | succ n ih =>
   intro i w ps hi h1 h2 h3;have hlt:i<L.length:=by omega
   have hd:L.drop i=L[i]::L.drop (i+1):=FD hlt;have hb:=hs i hlt w ps h1 h2 h3;have hnx:L.getD (i+1 - 1) 0=L[i]:=by simp [hlt]
   rw [hd];by_cases hc:L[i]=45
   ·rw [if_pos hc] at hb
    have hiff:(w=[]∨i+1=L.length∨L.getD (i - 1) 0=45)↔(w=[]∨L.drop (i+1)=[]∨decide (0<i∧L.getD (i - 1) 0=45)=true):=by
     rw [List.drop_eq_nil_iff,decide_eq_true_eq];constructor
     ·rintro(h | h | h)
      ·exact .inl h
      ·exact .inr (.inl (by omega))
      ·by_cases h0:i=0
       ·exact .inl (h3.2 h0)
       ·exact .inr (.inr ⟨by omega,h⟩)
     ·rintro(h | h | h)
      ·exact .inl h
      ·exact .inr (.inl (by omega))
      ·exact .inr (.inr h.2)
    simp only [jm,if_pos hc];by_cases hg:w=[]∨i+1=L.length∨L.getD (i - 1) 0=45
    ·rw [if_pos hg] at hb
     rw [if_pos (hiff.1 hg)];exact Runs.one hb rfl
    ·rw [if_neg hg] at hb
     rw [if_neg fun h=>hg (hiff.2 h)];have hw:w≠[]:=fun h=>hg (.inl h)
     have:=ih (i+1) w (ps++[w.length]) (by omega) (by omega) (by simp;omega) ⟨fun h=>absurd h hw,fun h=>by omega⟩;rw [hnx,hc] at this;have e:decide (0<i+1∧(45:UInt8)=45)=true:=by simp
     rw [e] at this;exact .nrm hb this
   ·rw [if_neg hc] at hb
    simp only [jm,if_neg hc];have:=ih (i+1) (w++[L[i]]) ps (by omega) (by simp;omega) (by omega) ⟨fun h=>by simp at h,fun h=>by omega⟩;rw [hnx] at this;have e:decide (0<i+1∧L[i]=45)=false:=decide_eq_false fun h=>hc h.2
    rw [e] at this;exact .nrm hb this
 have:=key L.length 0 [] [] (by omega) (by simp) (by simp) (by simp);rw [FH] at this;simpa using this.loop
set_option maxRecDepth 100000
theorem nt (s:ByteArray) (h:s.size≤9223372036854775807):eI [T s]=some (.ret [B (dY s 1 16)] []):=by
 rw [tN];simp -implicitDefEqProofs only [qt s 16 h,aM,aS]
def xZ (w:List UInt8):Bool:=w.all okL&&decide (1≤w.length∧w.length≤16)&&decide (1<w.length)
def ym:Option (List UInt8 × List Nat)→Option Out
 | none=>some (.ret [T ⟨#[]⟩,.arr 1 [],B false] [])
 | some (w,ps)=>some (.ret [T ⟨w.toArray⟩,aI (bo ps),B (xZ w)] [])
theorem vh (w:List UInt8) (c:UInt8):(⟨w.toArray⟩:ByteArray)++⟨#[c]⟩=⟨(w++[c]).toArray⟩:=by
 apply gh;rw [kS,eO,eO];rfl
theorem kr (w:List UInt8):(⟨w.toArray⟩:ByteArray).size=w.length:=by simp [FG]
theorem Ci (w:List UInt8):decide ((⟨w.toArray⟩:ByteArray)=⟨#[]⟩)=decide (w=[]):=by
 apply decide_eq_decide.2;constructor
 ·intro h
  have:=congrArg aa h;rw [eO] at this;exact this
 ·rintro rfl
  rfl
theorem AC:∀m:List UInt8,(an 45 m).flatten.length≤m.length:=by
 intro m;induction m with
 | nil=>simp [an]
 | cons x m ih =>
  simp only [an];split
  ·simp only [Fj,Fk,Ff]
   omega
  ·cases h:an 45 m with
   | nil=>simp [qX]
   | cons q r =>
    rw [h] at ih;simp only [qX,Fj,Fh,Ff] at ih ⊢;omega
theorem tv (e:ByteArray) (h:e.size≤1048576):dQ [T e]=ym (jm [] [] false (aa e)):=by
 rw [tK];have e0:D.v (Fm {data:={toList:=[]}})=T ⟨#[]⟩:=rfl;have hsz:=aR e;refine aA _ (Af (aa e) (fun i w ps=>[T e,T ⟨w.toArray⟩,aI (bo ps),I i]) (fun i hi w ps h1 h2 h3=>?_) (fun w ps=>?_)) ?_
 ·have hi':(i:Int)<(e.size:Int):=by omega
  have hw:ES.wrap ((i:Int)+1)=((i+1:Nat):Int):=by rw [am (by omega) (by omega)];omega
  have hw1:ES.wrap ((e.size:Int) - 1)=(e.size:Int) - 1:=am (by omega) (by omega);have hch:=oH hi;by_cases hc:(aa e)[i]=45
  ·rw [if_pos hc]
   have hn:(((aa e)[i].toNat:Int)=45):=by rw [hc];rfl
   by_cases hw0:w=[]
   ·subst hw0
    rw [if_pos (.inl rfl)];simp -implicitDefEqProofs [e0,hi',hch,hn,lL]
   ·have hi0:i≠0:=fun h=>hw0 (h3.2 h)
    have hem:decide ((⟨w.toArray⟩:ByteArray)=⟨#[]⟩)=false:=by rw [Ci];exact decide_eq_false hw0
    have hw2:ES.wrap ((i:Int) - 1)=((i - 1:Nat):Int):=by rw [am (by omega) (by omega)];omega
    have hch2:=oH (s:=e) (i:=i - 1) (by omega);have hgd:(aa e).getD (i - 1) 0=(aa e)[i - 1]'(by omega):=by simp [show i - 1<(aa e).length by omega]
    rw [hgd];by_cases hl:i+1=(aa e).length
    ·have hl':(i:Int)=(e.size:Int) - 1:=by omega
     rw [if_pos (.inr (.inl hl))];have hl2:((i:Int)=(e.size:Int) - 1)=True:=eq_true hl';simp -implicitDefEqProofs [e0,hi',hch,hn,hw0,hw1,hl2,lL]
    ·have hl':¬(i:Int)=(e.size:Int) - 1:=by omega
     by_cases hp:(aa e)[i - 1]'(by omega)=45
     ·have hn2:(((aa e)[i - 1]'(by omega)).toNat:Int)=45:=by rw [hp];rfl
      rw [if_pos (.inr (.inr hp))];simp -implicitDefEqProofs [e0,hi',hch,hn,hw0,hw1,hl',hw2,hch2,hn2,lL]
     ·have hn2:¬(((aa e)[i - 1]'(by omega)).toNat:Int)=45:=fun h=>hp (of_decide_eq_true ((e45 _).symm.trans (decide_eq_true h)))
      rw [if_neg (by simp [hw0,hl,hp])];have ha:=gS (l:=bo ps) (m:=[(w.length:Int)]) (by simp [bo];omega);have hna:bo (ps++[w.length])=bo ps++[(w.length:Int)]:=by simp [bo]
      simp -implicitDefEqProofs [e0,hi',hch,hn,hw0,hw1,hl',hw2,hch2,hn2,kr,gx,kY,ha,hw,hna,-vd]
  ·rw [if_neg hc]
   have hn:¬(((aa e)[i].toNat:Int)=45):=fun h=>hc (of_decide_eq_true ((e45 _).symm.trans (decide_eq_true h)))
   have hsl:=lU (s:=e) (z:=0) (i:=i) (j:=i+1) (by omega) (by omega);rw [uM hi] at hsl;have hsl':dj true 0 (T e) (I (i:Int)) (I ((i:Int)+1))=some (T ⟨#[(aa e)[i]]⟩):=by
    rw [show((i:Int)+1)=((i+1:Nat):Int) by omega];exact hsl
   have hadd:bin .add false [] (T ⟨w.toArray⟩) (T ⟨#[(aa e)[i]]⟩)=some (T ⟨(w++[(aa e)[i]]).toArray⟩):=by
    rw [ek,if_pos,vh];rw [kr];have:(⟨#[(aa e)[i]]⟩:ByteArray).size=1:=rfl;omega
   simp -implicitDefEqProofs [e0,hi',hch,hn,hw,hsl',hadd,-ek]
 ·simp -implicitDefEqProofs [hsz,lL]
 ·cases hb:jm [] [] false (aa e) with
  | none=>simp -implicitDefEqProofs [lL,ym]
  | some q =>
   obtain⟨w,ps⟩:=q;have hwl:w.length≤1048576:=by
    rw [lT] at hb;split at hb
    ·simp only [FA,FX,Fk] at hb
     have:=AC (aa e);rw [hb.1] at this;omega
    ·cases hb
   have htw:=nt ⟨w.toArray⟩ (by rw [kr];omega);have hlt:dY ⟨w.toArray⟩ 1 16=(w.all okL&&decide (1≤w.length∧w.length≤16)):=by
    rw [nU,eO,kr];congr 1
    apply decide_eq_decide.2;omega
   rw [hlt] at htw;cases hq:w.all okL&&decide (1≤w.length∧w.length≤16)
   ·rw [hq] at htw
    simp -implicitDefEqProofs only [lL,ym,kg,Nat.beq_refl,tY,if_true,aS,de,htw,aM,pR,EX,mO,Fi,if_false,xZ,hq,EZ];simp -implicitDefEqProofs
   ·rw [hq] at htw
    have hbb:xZ w=decide ((1:Int)<(w.length:Int)):=by
     unfold xZ;rw [hq,Fa];apply decide_eq_decide.2;omega
    simp -implicitDefEqProofs only [ym];rw [hbb];simp -implicitDefEqProofs [lL,htw,kr]
set_option maxRecDepth 100000
theorem tO (s:ByteArray) (h:s.size≤9223372036854775807):gD [T s]=some (.ret [B (dY s 1 16)] []):=by
 rw [tp];simp -implicitDefEqProofs only [jC s 1 16 h,aM,aS]
theorem tD (l:List ByteArray) (w:ByteArray) (h:l.length≤1048577):gz [txs l,T w]=some (.ret [B (!(l.all fun x=>!decide (x=w)))] []):=by
 rw [tR];simp -implicitDefEqProofs only [fV,Fc,EX];refine aA _ (gQ l (fun i=>[T w,txs l,I l.length,I i]) (fun _ x=>!decide (x=w)) (.ret [B true] []) (.ext 0 []) (fun i hi=>?_) ?_ rfl rfl rfl) ?_
 ·have hi':(i:Int)<(l.length:Int):=by omega
  have hw:ES.wrap ((i:Int)+1)=(i:Int)+1:=am (by omega) (by omega);by_cases h1:l[i]=w<;>simp -implicitDefEqProofs [hi,hw,h1]
 ·simp
 ·rw [lK (fun x=>!decide (x=w))]
  cases l.all fun x=>!decide (x=w)<;>simp
set_option maxRecDepth 100000
def d19 (b:UInt8):Bool:=decide (49≤b.toNat)&&decide (b.toNat≤57)
def mB:List UInt8→List Int→Int→List UInt8→Option (List UInt8 × List Int)
 | w,vs,v,[]=>some (w,vs++[v])
 | w,vs,v,b::l=>if okL b=true then mB (w++[b]) (vs++[v]) 0 l else if d19 b=true∧v=0 then mB w vs ((b.toNat:Int) - 48) l else none
theorem vF {body:List D→Option Out} (L:List UInt8) (st:Nat→List UInt8→List Int→Int→List D) (bad:Out) (fin:List UInt8→List Int→Out)
  (hs:∀(i:Nat) (hi:i<L.length) (w:List UInt8) (vs:List Int) (v:Int),w.length≤i→vs.length≤i→0≤v→v≤9 →
   body (st i w vs v)=some (if okL L[i]=true then .nrm (st (i+1) (w++[L[i]]) (vs++[v]) 0) else if d19 L[i]=true∧v=0 then .nrm (st (i+1) w vs ((L[i].toNat:Int) - 48)) else bad))
  (he:∀(w:List UInt8) (vs:List Int) (v:Int),body (st L.length w vs v)=some (fin w (vs++[v]))) (h1:bad.ends=true) (h2:∀w vs,(fin w vs).ends=true) {s0:List D} (h0:s0=st 0 [] [] 0) :
  aD body s0=some (match mB [] [] 0 L with
   | none=>bad
   | some r=>fin r.1 r.2):=by
 rw [h0];have key:∀(n i:Nat) (w:List UInt8) (vs:List Int) (v:Int),i+n=L.length→w.length≤i→vs.length≤i→0≤v→v≤9 →
   Runs body (st i w vs v) (match mB w vs v (L.drop i) with
    | none=>bad
    | some r=>fin r.1 r.2):=by
  intro n;induction n with
  | zero =>
   intro i w vs v hi a1 a2 a3 a4;have:i=L.length:=by omega
   subst this;rw [FN];exact Runs.one (he w vs v) (h2 _ _)
  | succ n ih =>
   intro i w vs v hi a1 a2 a3 a4;have hlt:i<L.length:=by omega
   have hd:L.drop i=L[i]::L.drop (i+1):=FD hlt;have hb:=hs i hlt w vs v a1 a2 a3 a4;rw [hd];simp only [mB];by_cases hc:okL L[i]=true
   ·rw [if_pos hc] at hb ⊢
    exact .nrm hb (ih (i+1) _ _ 0 (by omega) (by simp;omega) (by simp;omega) (by omega) (by omega))
   ·rw [if_neg hc] at hb ⊢
    by_cases hg:d19 L[i]=true∧v=0
    ·rw [if_pos hg] at hb ⊢
     have hd9:=hg.1;unfold d19 at hd9;simp only [Fb,decide_eq_true_eq] at hd9;exact .nrm hb (ih (i+1) _ _ _ (by omega) (by omega) (by omega) (by omega) (by omega))
    ·rw [if_neg hg] at hb ⊢
     exact Runs.one hb h1
 have:=key L.length 0 [] [] 0 (by omega) (by simp) (by simp) (by omega) (by omega);rw [FH] at this;exact this.loop
theorem ma:∀(l w:List UInt8) (vs:List Int) (v:Int) (r:List UInt8 × List Int),mB w vs v l=some r→(∀b∈w,okL b=true)→(∀x∈vs++[v],0≤x∧x≤9) →
  (∀b∈r.1,okL b=true)∧(∀x∈r.2,0≤x∧x≤9)∧r.1.length≤w.length+l.length∧(vs.length=w.length→r.2.length=r.1.length+1)
 | [],w,vs,v,r,h,h1,h2=>by
  simp only [mB,FA] at h;subst h;exact⟨h1,h2,by simp,fun e=>by simp [e]⟩
 | b::l,w,vs,v,r,h,h1,h2=>by
  simp only [mB] at h;by_cases hc:okL b=true
  ·rw [if_pos hc] at h
   obtain⟨g1,g2,g3,g4⟩:=ma l _ _ _ r h (fun x hx=>by
    rcases FF.1 hx with hx | hx
    ·exact h1 x hx
    ·rw [Fy.1 hx]
     exact hc) (fun x hx=>by
    rcases FF.1 hx with hx | hx
    ·exact h2 x hx
    ·rw [Fy.1 hx]
     omega)
   refine⟨g1,g2,?_,fun e=>g4 (by simp [e])⟩
   simp only [Fh,Ff,FQ] at g3 ⊢;omega
  ·rw [if_neg hc] at h
   by_cases hg:d19 b=true∧v=0
   ·rw [if_pos hg] at h
    have hd9:=hg.1;unfold d19 at hd9;simp only [Fb,decide_eq_true_eq] at hd9;obtain⟨g1,g2,g3,g4⟩:=ma l _ _ _ r h h1 (fun x hx=>by
     rcases FF.1 hx with hx | hx
     ·exact h2 x (List.mem_append_left _ hx)
     ·rw [Fy.1 hx]
      omega)
    refine⟨g1,g2,?_,g4⟩
    simp only [Ff];omega
   ·rw [if_neg hg] at h
    cases h
theorem yu (b:UInt8):okL b=(decide (97≤(b.toNat:Int))&&decide ((b.toNat:Int)≤122)):=by
 unfold okL;congr 1<;>apply decide_eq_decide.2<;>omega
theorem uS (b:UInt8):d19 b=(decide (49≤(b.toNat:Int))&&decide ((b.toNat:Int)≤57)):=by
 unfold d19;congr 1<;>apply decide_eq_decide.2<;>omega
theorem th (b:UInt8):fR [U b.toNat]=some (.ret [B (d19 b)] []):=by
 rw [sV,uS];by_cases h1:49≤(b.toNat:Int)
 ·simp -implicitDefEqProofs [h1]
 ·simp -implicitDefEqProofs [h1]
theorem vR (vs:List Int) (v:Int):(List.map I (vs++[v]))[vs.length]?=some (I v):=by simp
theorem An (vs:List Int) (v x:Int):(List.map I (vs++[v])).set vs.length (I x)=List.map I (vs++[x]):=by
 rw [Fu,List.set_append_right _ _ (by simp)];simp
theorem xY (vs:List Int) (v x:Int):stD 1 (aI (vs++[v])) (.ref vs.length 0) (I x)=some (aI (vs++[x])):=by
 rw [wA (vR vs v),An]
def wE (w:List UInt8) (vs:List Int):Bool:=decide (1≤(w.length:Int)∧(w.length:Int)≤6)&&vs.any fun x=>!decide (x=0)
def kp (p:ByteArray):Option (List UInt8 × List Int):=mB [] [] 0 (aa p)
def pc:Option (List UInt8 × List Int)→Option Out
 | none=>some (.ret [T ⟨#[]⟩,.arr 1 [],B false] [])
 | some r=>some (.ret [T ⟨r.1.toArray⟩,aI r.2,B (wE r.1 r.2)] [])
theorem zP (l:List Int):∀(i:Nat) (a:Int),bU (fun _ a x=>a+x) i l a=l.foldl (·+·) a:=by
 induction l with
 | nil=>intro i a;rfl
 | cons x l ih=>intro i a;simp only [bU,Fv,ih]
theorem Bg (l:List Int) (hl:l.length≤1048577) (hx:∀x∈l,0≤x∧x≤9) (i:Nat) (a:Int) (hi:i<l.length) (ha:0≤a∧a≤9*(i:Int)):ES.wrap (a+l[i])=a+l[i]∧(0≤a+l[i]∧a+l[i]≤9*((i+1:Nat):Int)):=by
 have:=hx l[i] (EW hi);exact⟨am (by omega) (by omega),by omega,by omega⟩
theorem xM (l:List Int) (hl:l.length≤1048577) (hx:∀x∈l,0≤x∧x≤9):kL [aI l]=some (.ret [I (l.foldl (·+·) 0)] []):=by
 rw [xj];simp only [fV,Fc,EX];refine aA _ (cF l (fun i a=>[I a,aI l,I l.length,I i]) (fun i a=>0≤a∧a≤9*(i:Int)) (fun _ a x=>a+x) (fun a=>.ext 0 [I a]) 0 (fun i a hi ha=>?_) (fun a _=>?_) (fun _=>rfl) (by simp) rfl) ?_
 ·have hw:ES.wrap ((i:Int)+1)=(i:Int)+1:=am (by omega) (by omega)
  obtain⟨h1,h2⟩:=Bg l hl hx i a hi ha;exact⟨by simp -implicitDefEqProofs [hi,hw,h1],h2⟩
 ·simp
 ·simp [zP]
theorem tV:∀(l:List Int) (a:Int),0≤a→(∀x∈l,0≤x∧x≤9)→0≤l.foldl (·+·) a∧(0<l.foldl (·+·) a↔0<a∨∃x∈l,¬x=0)
 | [],a,h,_=>by simp [h]
 | x::l,a,h,hx=>by
  have h1:=hx x (by simp);obtain⟨g1,g2⟩:=tV l (a+x) (by omega) fun y hy=>hx y (by simp [hy])
  refine⟨g1,?_⟩
  rw [Fv,g2];constructor
  ·rintro(k | ⟨y,hy,k⟩)
   ·by_cases h0:x=0
    ·exact .inl (by omega)
    ·exact .inr ⟨x,by simp,h0⟩
   ·exact .inr ⟨y,by simp [hy],k⟩
  ·rintro(k | ⟨y,hy,k⟩)
   ·exact .inl (by omega)
   ·rcases Fz.1 hy with rfl | hy
    ·exact .inl (by omega)
    ·exact .inr ⟨y,hy,k⟩
theorem Cy (l:List Int) (hx:∀x∈l,0≤x∧x≤9):decide (0<l.foldl (·+·) 0)=l.any fun x=>!decide (x=0):=by
 have:=(tV l 0 (by omega) hx).2;rw [FP,decide_eq_true_eq,this,List.any_eq_true];simp
theorem BE (vs:List Int) (v:Int):mA 1 (aI (vs++[v])) (I (vs.length:Int))=some (.ref vs.length 0):=by
 rw [wo,if_pos (by simp)]
theorem atV (vs:List Int) (v:Int):atD (aI (vs++[v])) (.ref vs.length 0)=some [I v]:=by
 rw [CR,vR];rfl
theorem yE (n:Int):eg (some ES) false (U n)=some (I (ES.wrap n)):=rfl
theorem me {p:ByteArray} {r:List UInt8 × List Int} (h:kp p=some r):(∀b∈r.1,okL b=true)∧(∀x∈r.2,0≤x∧x≤9)∧r.1.length≤p.size∧r.2.length=r.1.length+1:=by
 obtain⟨h1,h2,h3,h4⟩:=ma _ _ _ _ _ h (by simp) (by simp);refine⟨h1,h2,?_,h4 rfl⟩
 simpa [aR] using h3
theorem iM (p:ByteArray) (h:p.size≤1000000):cE [T p]=pc (kp p):=by
 rw [oo];have e0:D.v (Fm {data:={toList:=[]}})=T ⟨#[]⟩:=rfl;have hsz:=aR p;have hm:aF 1 [I 0]=some (aI [0]):=gx 0;rw [e0];simp -implicitDefEqProofs only [hm,EX];refine aA _ (vF (aa p) (fun i w vs v=>[T p,T ⟨w.toArray⟩,aI (vs++[v]),I i]) (.ret [T ⟨#[]⟩,.arr 1 [],B false] []) (fun w vs=>.ext 0 [T ⟨w.toArray⟩,aI vs]) (fun i hi w vs v h1 h2 h3 h4=>?_) (fun w vs v=>?_) rfl (fun _ _=>rfl) rfl) ?_
 ·have hi':(i:Int)<(p.size:Int):=by omega
  have hw:ES.wrap ((i:Int)+1)=((i+1:Nat):Int):=by rw [am (by omega) (by omega)];omega
  have hw1:∀x:Int,ES.wrap ((((vs++[x]).length:Nat):Int) - 1)=(vs.length:Int):=fun x=>by rw [Fh,Fs,am (by omega) (by omega)];omega
  have hch:=oH hi;have hdg:=th (aa p)[i];have hap:=gS (l:=vs++[v]) (m:=[0]) (by simp;omega);have hsl:=lU (s:=p) (z:=0) (i:=i) (j:=i+1) (by omega) (by omega);rw [uM hi] at hsl;have hadd:bin .add false [] (T ⟨w.toArray⟩) (T ⟨#[(aa p)[i]]⟩)=some (T ⟨(w++[(aa p)[i]]).toArray⟩):=by
   rw [ek,if_pos,vh];rw [kr];have:(⟨#[(aa p)[i]]⟩:ByteArray).size=1:=rfl;omega
  have hok:=yu (aa p)[i];have hd9:=uS (aa p)[i];have hone:=gx 0;by_cases hd:d19 (aa p)[i]=true
  ·have hno:okL (aa p)[i]=false:=by
    rw [hok];rw [hd9,Fb,decide_eq_true_eq,decide_eq_true_eq] at hd;simp;omega
   have hb:=hd;rw [hd9,Fb,decide_eq_true_eq,decide_eq_true_eq] at hb;have k1:¬97≤((aa p)[i].toNat:Int):=by omega
   have hwu:EV.wrap (((aa p)[i].toNat:Int) - 48)=((aa p)[i].toNat:Int) - 48:=by simp only [FR];omega
   have hwi:ES.wrap (((aa p)[i].toNat:Int) - 48)=((aa p)[i].toNat:Int) - 48:=am (by omega) (by omega);by_cases hv:v=0
   ·rw [if_neg (by simp [hno]),if_pos ⟨hd,hv⟩]
    simp -implicitDefEqProofs only [al,EP,EQ,ER,hi',hw1,hch,hdg,hd,BE,atV,hv,yE,hwu,hwi,xY,hw]
   ·rw [if_neg (by simp [hno]),if_neg fun k=>hv k.2]
    simp -implicitDefEqProofs only [al,EP,EQ,ER,hi',hw1,hch,hdg,hd,BE,atV,hv,k1]
  ·rw [Fe] at hd
   by_cases hc:okL (aa p)[i]=true
   ·have hb:=hc
    rw [hok,Fb,decide_eq_true_eq,decide_eq_true_eq] at hb;rw [if_pos hc];simp -implicitDefEqProofs only [al,EP,EQ,ER,hi',hw1,hch,hdg,hd,BE,atV,hb.1,hb.2,hw,hsl,hadd,hone,kY,hap]
   ·rw [if_neg hc,if_neg (by simp [hd])]
    rw [Fe,hok] at hc;by_cases k1:97≤((aa p)[i].toNat:Int)
    ·have k2:¬((aa p)[i].toNat:Int)≤122:=fun k=>by simp [k1,k] at hc
     simp -implicitDefEqProofs only [al,EP,EQ,ER,hi',hw1,hch,hdg,hd,k1,k2]
    ·simp -implicitDefEqProofs only [al,EP,EQ,ER,hi',hw1,hch,hdg,hd,k1]
 ·have hlt:¬((p.size:Int)<(p.size:Int)):=by omega
  rw [←hsz];simp -implicitDefEqProofs only [al,EP,EQ,ER,hlt]
 ·unfold kp
  cases hr:mB [] [] 0 (aa p) with
  | none=>simp -implicitDefEqProofs only [al,EP,EQ,ER,ka,pc]
  | some r =>
   obtain⟨g1,g2,g3,g4⟩:=me (p:=p) hr;have hwi:=eP (r.1.length:Int) 1 6;have hsu:=xM r.2 (by omega) g2;have hse:=Cy r.2 g2;have hsz2:=kr r.1;cases hq:decide (1≤(r.1.length:Int)∧(r.1.length:Int)≤6)
   ·rw [hq] at hwi
    simp -implicitDefEqProofs only [al,EP,EQ,ER,pc,wE,hsz2,hwi,hq,EZ]
   ·rw [hq] at hwi
    simp -implicitDefEqProofs only [al,EP,EQ,ER,pc,wE,hsz2,hwi,hq,hsu,hse,Fa]
theorem BA (vs:List Int) (v:Int):((vs++[v])++[(0:Int)]).any (fun x=>!decide (x=0))=(vs++[v]).any fun x=>!decide (x=0):=by
 simp
theorem Cq (vs:List Int) (v:Int) (h:¬v=0):(vs++[v]).any (fun x=>!decide (x=0))=true:=by
 simp [h]
theorem kn (p:ByteArray) (h:p.size≤1000000):dv [T p]=pc (kp p):=by
 rw [qq];have e0:D.v (Fm {data:={toList:=[]}})=T ⟨#[]⟩:=rfl;have hsz:=aR p;have hm:aF 1 [I 0]=some (aI [0]):=gx 0;rw [e0];simp -implicitDefEqProofs only [hm,EX];refine aA _ (vF (aa p) (fun i w vs v=>[T p,T ⟨w.toArray⟩,B ((vs++[v]).any fun x=>!decide (x=0)),aI (vs++[v]),I i]) (.ret [T ⟨#[]⟩,.arr 1 [],B false] []) (fun w vs=>.ext 0 [T ⟨w.toArray⟩,B (vs.any fun x=>!decide (x=0)),aI vs]) (fun i hi w vs v h1 h2 h3 h4=>?_) (fun w vs v=>?_) rfl (fun _ _=>rfl) rfl) ?_
 ·have hi':(i:Int)<(p.size:Int):=by omega
  have hw:ES.wrap ((i:Int)+1)=((i+1:Nat):Int):=by rw [am (by omega) (by omega)];omega
  have hw1:∀x:Int,ES.wrap ((((vs++[x]).length:Nat):Int) - 1)=(vs.length:Int):=fun x=>by rw [Fh,Fs,am (by omega) (by omega)];omega
  have hch:=oH hi;have hap:=gS (l:=vs++[v]) (m:=[0]) (by simp;omega);have hsl:=lU (s:=p) (z:=0) (i:=i) (j:=i+1) (by omega) (by omega);rw [uM hi] at hsl;have hadd:bin .add false [] (T ⟨w.toArray⟩) (T ⟨#[(aa p)[i]]⟩)=some (T ⟨(w++[(aa p)[i]]).toArray⟩):=by
   rw [ek,if_pos,vh];rw [kr];have:(⟨#[(aa p)[i]]⟩:ByteArray).size=1:=rfl;omega
  have hok:=yu (aa p)[i];have hd9:=uS (aa p)[i];have hone:=gx 0;have hany:=BA vs v;by_cases hc:okL (aa p)[i]=true
  ·have hb:=hc
   rw [hok,Fb,decide_eq_true_eq,decide_eq_true_eq] at hb;rw [if_pos hc];simp -implicitDefEqProofs only [al,EP,EQ,ER,hi',hch,hb.1,hb.2,hw,hsl,hadd,hone,kY,hap,hany]
  ·rw [if_neg hc]
   by_cases hd:d19 (aa p)[i]=true
   ·have hb:=hd
    rw [hd9,Fb,decide_eq_true_eq,decide_eq_true_eq] at hb;have k1:¬97≤((aa p)[i].toNat:Int):=by omega
    have hwu:EV.wrap (((aa p)[i].toNat:Int) - 48)=((aa p)[i].toNat:Int) - 48:=by simp only [FR];omega
    have hwi:ES.wrap (((aa p)[i].toNat:Int) - 48)=((aa p)[i].toNat:Int) - 48:=am (by omega) (by omega);have hnew:=Cq vs (((aa p)[i].toNat:Int) - 48) (by omega);by_cases hv:v=0
    ·rw [if_pos ⟨hd,hv⟩]
     simp -implicitDefEqProofs only [al,EP,EQ,ER,hi',hch,k1,hb.1,hb.2,hw1,BE,atV,hv,yE,hwu,hwi,xY,hw,hnew]
    ·rw [if_neg fun k=>hv k.2]
     simp -implicitDefEqProofs only [al,EP,EQ,ER,hi',hch,k1,hb.1,hb.2,hw1,BE,atV,hv]
   ·rw [if_neg fun k=>hd k.1]
    rw [Fe,hd9] at hd;rw [Fe,hok] at hc;by_cases k1:97≤((aa p)[i].toNat:Int)
    ·have k2:¬((aa p)[i].toNat:Int)≤122:=fun k=>by simp [k1,k] at hc
     have k3:49≤((aa p)[i].toNat:Int):=by omega
     have k4:¬((aa p)[i].toNat:Int)≤57:=by omega
     simp -implicitDefEqProofs only [al,EP,EQ,ER,hi',hch,k1,k2,k3,k4]
    ·by_cases k3:49≤((aa p)[i].toNat:Int)
     ·have k4:¬((aa p)[i].toNat:Int)≤57:=fun k=>by simp [k3,k] at hd
      simp -implicitDefEqProofs only [al,EP,EQ,ER,hi',hch,k1,k3,k4]
     ·simp -implicitDefEqProofs only [al,EP,EQ,ER,hi',hch,k1,k3]
 ·have hlt:¬((p.size:Int)<(p.size:Int)):=by omega
  rw [←hsz];simp -implicitDefEqProofs only [al,EP,EQ,ER,hlt]
 ·unfold kp
  cases hr:mB [] [] 0 (aa p) with
  | none=>simp -implicitDefEqProofs only [al,EP,EQ,ER,ka,pc]
  | some r =>
   obtain⟨g1,g2,g3,g4⟩:=me (p:=p) hr;have hwi:=fg (r.1.length:Int) 1 6;have hsz2:=kr r.1;cases hq:r.2.any fun x=>!decide (x=0)
   ·simp -implicitDefEqProofs only [al,EP,EQ,ER,pc,wE,hsz2,hq,Bool.and_false]
   ·simp -implicitDefEqProofs only [al,EP,EQ,ER,pc,wE,hsz2,hwi,hq,FJ]
set_option maxRecDepth 100000
def rG (L w:List UInt8) (at_:Nat):Bool:=decide ((L.drop at_).take w.length=w)
def vk (at_ k:Nat) (out:List Int) (v:Int):List Int:=if 1≤at_+k∧at_+k≤out.length then out.set (at_+k - 1) (max (out.getD (at_+k - 1) 0) v) else out
def wt (at_:Nat) (own out:List Int):List Int:=bU (vk at_) 0 own out
def zK (L:List UInt8) (r:List UInt8 × List Int) (out:List Int):List Int:=bU (fun at_ out _=>if rG L r.1 at_=true then wt at_ r.2 out else out) 0 L out
def tH (L:List UInt8) (out:List Int) (p:ByteArray):List Int:=(kp p).elim out fun r=>zK L r out
def ba (L:List UInt8) (ps:List ByteArray):List Int:=ps.foldl (tH L) (Fo (L.length - 1) 0)
theorem wB (at_ k:Nat) (out:List Int) (v:Int):(vk at_ k out v).length=out.length:=by
 unfold vk;split<;>simp
theorem qv {β:Type} (f:Nat→List Int→β→List Int) (h:∀i a x,(f i a x).length=a.length):∀(l:List β) (i:Nat) (a:List Int),(bU f i l a).length=a.length
 | [],_,_=>rfl
 | x::l,i,a=>by rw [bU,qv f h l,h]
theorem te (at_:Nat) (own out:List Int):(wt at_ own out).length=out.length:=qv _ (fun i a x=>wB _ _ _ _) _ _ _
theorem BS (L:List UInt8) (r:List UInt8 × List Int) (out:List Int):(zK L r out).length=out.length:=qv _ (fun i a x=>by split;exact te _ _ _;rfl) _ _ _
theorem sP (L:List UInt8) (out:List Int) (p:ByteArray):(tH L out p).length=out.length:=by
 unfold tH;cases kp p with
 | none=>rfl
 | some r=>exact BS _ _ _
theorem lQ (L:List UInt8):∀(ps:List ByteArray) (out:List Int),(ps.foldl (tH L) out).length=out.length
 | [],_=>rfl
 | p::ps,out=>by rw [Fv,lQ L ps,sP]
theorem ph {α β:Type} (f:Nat→α→β→α):∀(l m:List β) (i:Nat) (a:α),bU f i (l++m) a=bU f (i+l.length) m (bU f i l a)
 | [],m,i,a=>rfl
 | x::l,m,i,a=>by
  rw [FM,bU,ph f l m,bU,Ff];congr 1
  omega
theorem sk {α β:Type} (f:Nat→α→β→α) (n:Nat) (h:∀i a x,n≤i→f i a x=a):∀(l:List β) (i:Nat) (a:α),n≤i→bU f i l a=a
 | [],_,_,_=>rfl
 | x::l,i,a,hi=>by rw [bU,h i a x hi,sk f n h l (i+1) a (by omega)]
theorem Ax {L w:List UInt8} {at_:Nat} (h:L.length<at_+w.length) (hw:1≤w.length):rG L w at_=false:=by
 refine decide_eq_false fun e=>?_
 have:=congrArg List.length e;rw [Fg,List.length_drop] at this;omega
theorem zO (L:List UInt8) (r:List UInt8 × List Int) (out:List Int) (hw:1≤r.1.length):zK L r out=bU (fun at_ out _=>if rG L r.1 at_=true then wt at_ r.2 out else out) 0 (L.take (L.length+1 - r.1.length)) out:=by
 unfold zK;have hf:∀(i:Nat) (a:List Int) (x:UInt8),L.length+1 - r.1.length≤i→(fun at_ (out:List Int) (_:UInt8)=>if rG L r.1 at_=true then wt at_ r.2 out else out) i a x=a:=by
  intro i a x hi;simp only;rw [Ax (by omega) hw];rfl
 generalize (fun at_ (out:List Int) (_:UInt8)=>if rG L r.1 at_=true then wt at_ r.2 out else out)=f at hf ⊢
 conv=>lhs;rw [←List.take_append_drop (L.length+1 - r.1.length) L]
 rw [ph,sk f (L.length+1 - r.1.length) hf];rw [Fg];omega
theorem EJ (a b:Int):wD (I a) (I b)=some (I (max a b)):=by
 have:(if a<b then b else a)=max a b:=by
  split<;>omega
 show some (I (if a<b then b else a))=_
 rw [this]
theorem vE (n:Nat):D.arr 1 (Fo n (I 0))=aI (Fo n 0):=by
 simp [aI]
theorem fL {l:List Int} {i:Nat} (h:i<l.length):aT 1 (aI l) (I (i:Int))=some [I l[i]]:=by
 simp [h]
theorem wF (l:List Int) (i:Nat) (x:Int) (h:i<l.length):stD 1 (aI l) (.ref i 0) (I x)=some (aI (l.set i x)):=by
 rw [wA (w:=.int .i64 l[i]) (by simp [h])];simp [aI,List.map_set]
theorem yc {l:List Int} {i:Nat} (h:i<l.length):atD (aI l) (.ref i 0)=some [I l[i]]:=by
 simp [h]
theorem wN {l:List Int} {i:Nat} (h:i<l.length):mA 1 (aI l) (I (i:Int))=some (.ref i 0):=by
 rw [wo,if_pos (by simpa using h)]
theorem uR (s t:ByteArray):bp [T s,T t]=some (.ret [B (decide ((aa s).take t.size=aa t))] []):=by
 rw [fH];by_cases h:t.size≤s.size
 ·have hsl:dj true 0 (T s) (I 0) (I (t.size:Int))=some (T (s.extract 0 t.size)):=lU (s:=s) (z:=0) (i:=0) (j:=t.size) (by omega) h
  have e:decide (s.extract 0 t.size=t)=decide ((aa s).take t.size=aa t):=by
   apply decide_eq_decide.2;rw [←eQ s 0 t.size |>.trans (FH ..)];exact⟨fun e=>by rw [e],fun e=>gh e⟩
  simp -implicitDefEqProofs [h,hsl,e]
 ·have e:¬(aa s).take t.size=aa t:=by
   intro e;have:=congrArg List.length e;rw [Fg] at this;have h1:=aR s;have h2:=aR t;omega
  simp -implicitDefEqProofs [h,e]
theorem vx (s t:ByteArray):dr [T s,T t]=some (.ret [B (decide ((aa s).take t.size=aa t))] []):=by
 rw [mU];simp -implicitDefEqProofs only [uR,aM,aS]
set_option maxRecDepth 100000
theorem tv0 (v:Value) (ds:List D):aB (.tup (.v v::ds)) 0=some (.v v):=rfl
theorem tv1 (a:D) (v:Value) (ds:List D):aB (.tup (a :: .v v::ds)) 1=some (.v v):=rfl
theorem tv2 (a b:D) (v:Value) (ds:List D):aB (.tup (a::b :: .v v::ds)) 2=some (.v v):=rfl
theorem tv3 (a b c:D) (v:Value) (ds:List D):aB (.tup (a::b::c :: .v v::ds)) 3=some (.v v):=rfl
theorem ta0 (z:Nat) (l:List D) (ds:List D):aB (.tup (.arr z l::ds)) 0=some (.arr z l):=rfl
theorem ta1 (a:D) (z:Nat) (l:List D) (ds:List D):aB (.tup (a :: .arr z l::ds)) 1=some (.arr z l):=rfl
theorem tc0 (a:D) (ds:List D):bd (.tup (a::ds)) 0 = .tup (.bad::ds):=rfl
theorem tc1 (a b:D) (ds:List D):bd (.tup (a::b::ds)) 1 = .tup (a :: .bad::ds):=rfl
theorem AO (s:ByteArray):itD (T s)=some (.itr s 0):=rfl
theorem yd {s:ByteArray} {i:Nat} (h:i<(aa s).length) (ha:(aa s)[i].toNat<128):nxS (.itr s i)=some (.itr s (i+1))∧nxT (.itr s i) = .tup [B true,I i,.v (.int .i32 (aa s)[i].toNat)]:=by
 have e:s.data.toList[i]?=some (aa s)[i]:=FE h;constructor
 ·simp only [nxS,e,ha,if_true]
 ·simp only [nxT,e]
theorem AP {s:ByteArray}:nxS (.itr s (aa s).length)=some (.itr s (aa s).length)∧nxT (.itr s (aa s).length) = .tup [B false]:=by
 have e:s.data.toList[(aa s).length]?=none:=List.getElem?_eq_none (Fx _);constructor
 ·simp only [nxS,e]
 ·simp only [nxT,e]
theorem wI {body:List D→Option Out} (own:List Int) (at_ N:Nat) (st:Nat→List Int→List D) (fin:List Int→Out)
  (hs:∀(k:Nat) (hk:k<own.length) (out:List Int),out.length=N→body (st k out)=some (.nrm (st (k+1) (vk at_ k out own[k]))))
  (he:∀out:List Int,out.length=N→body (st own.length out)=some (fin out)) (h1:∀out,(fin out).ends=true) (out:List Int) (ho:out.length=N) {s0:List D} (h0:s0=st 0 out):aD body s0=some (fin (wt at_ own out)) :=
 cF own st (fun _ out=>out.length=N) (vk at_) fin out (fun k a hk ha=>⟨hs k hk a ha,by rw [wB,ha]⟩) he h1 ho h0
structure Vw (w:ByteArray):Prop where
 lo:1≤w.size
 hi:w.size≤16
 az:∀b∈aa w,b.toNat<128
structure Vp (p:ByteArray) (r:List UInt8 × List Int):Prop where
 rd:kp p=some r
 lo:1≤r.1.length
 hi:r.1.length≤6
 ln:r.2.length=r.1.length+1
 sz:p.size≤1000000
theorem Vp.of {p:ByteArray} {r:List UInt8 × List Int} (h:kp p=some r) (hp:wE r.1 r.2=true) (hs:p.size≤1000000):Vp p r:=by
 unfold wE at hp;rw [Fb,decide_eq_true_eq] at hp;obtain⟨h1,h2,h3,h4⟩:=me h;exact⟨h,by omega,by omega,h4,hs⟩
def gT (p:ByteArray):Bool:=(kp p).elim false fun r=>wE r.1 r.2
theorem zT {p:ByteArray} (h:gT p=true) (hs:p.size≤1000000):∃r,Vp p r:=by
 unfold gT at h;cases hr:kp p with
 | none=>rw [hr] at h;cases h
 | some r=>rw [hr] at h;exact⟨r,Vp.of hr h hs⟩
theorem yz {out:List Int} {at_ k:Nat} (v:Int) (h:1≤at_+k∧at_+k≤out.length):vk at_ k out v=out.set (at_+k - 1) (max (out[at_+k - 1]'(by omega)) v):=by
 unfold vk;rw [if_pos h];congr 2
 simp [show at_+k - 1<out.length by omega]
theorem gP {α β:Type} (f:α→β→α):∀(l:List β) (i:Nat) (a:α),bU (fun _ a x=>f a x) i l a=l.foldl f a
 | [],_,_=>rfl
 | x::l,i,a=>by rw [bU,gP f l,Fv]
theorem BT (a b:Int):gC [I a,I b]=some (.ret [I (max a b)] []):=by
 rw [tw];by_cases h:b<a
 ·have:max a b=a:=by omega
  simp -implicitDefEqProofs [h,this]
 ·have:max a b=b:=by omega
  simp -implicitDefEqProofs [h,this]
theorem rH (ps:List ByteArray) (w:ByteArray) (hw:Vw w) (hn:ps.length≤1048576) (hp:∀p∈ps,∃r,Vp p r):eV [txs ps,T w]=some (.ret [aI (ba (aa w) ps)] []):=by
 rw [rk];have hlo:=hw.lo;have hhi:=hw.hi;have hsz:=aR w;have hw1:ES.wrap ((w.size:Int) - 1)=(((aa w).length - 1:Nat):Int):=by rw [am (by omega) (by omega)];omega
 have hmk:vG 1 8 (I 0) (I (((aa w).length - 1:Nat):Int)) (I (((aa w).length - 1:Nat):Int))=some (aI (Fo ((aa w).length - 1) 0)):=by
  rw [we,if_pos (by omega),vE]
 simp -implicitDefEqProofs only [al,EP,EQ,ER,hw1,hmk];refine aA _ (cF ps (fun i out=>[T w,aI out,txs ps,I ps.length,I i]) (fun _ out=>out.length=(aa w).length - 1) (fun _ out p=>tH (aa w) out p) (fun out=>.ext 0 [aI out]) _ (fun i out hi ho=>⟨?_,by rw [sP,ho]⟩) (fun out ho=>?_) (fun _=>rfl) (by simp) rfl) ?_
 ·have hi':(i:Int)<(ps.length:Int):=by omega
  have hwi:ES.wrap ((i:Int)+1)=((i+1:Nat):Int):=by rw [am (by omega) (by omega)];omega
  have hel:aT 1 (txs ps) (I (i:Int))=some [T ps[i]]:=by simp [hi]
  obtain⟨r,hr⟩:=hp ps[i] (EW hi);have hln:=hr.ln;have hrhi:=hr.hi;have hrd:=iM ps[i] hr.sz;rw [hr.rd] at hrd;have hpo:tH (aa w) out ps[i]=zK (aa w) r out:=by
   unfold tH;rw [hr.rd];rfl
  rw [hpo];simp -implicitDefEqProofs only [al,EP,EQ,ER,hi',hel,hrd,pc,tv0,ta1,tv2,AO];refine aA _ (cF (aa w) (fun j out=>[T w,aI out,T ⟨r.1.toArray⟩,aI r.2,txs ps,I ps.length,I i,.itr w j]) (fun _ out=>out.length=(aa w).length - 1) (fun j out _=>if rG (aa w) r.1 j=true then wt j r.2 out else out) (fun out=>.ext 2 [T w,aI out,txs ps,I ps.length,I i]) _ (fun j out hj ho=>⟨?_,by split;rw [te,ho];exact ho⟩) (fun out ho=>?_) (fun _=>rfl) ho rfl) ?_
  ·obtain⟨hn1,hn2⟩:=yd hj (hw.az _ (EW hj))
   have hsl:=wY (s:=w) (z:=0) (i:=j) (by omega);have hpre:=vx (w.extract j w.size) ⟨r.1.toArray⟩;have hm:decide ((aa (w.extract j w.size)).take (⟨r.1.toArray⟩:ByteArray).size=aa ⟨r.1.toArray⟩)=rG (aa w) r.1 j:=by
    have ht:(aa w).take w.size=aa w:=List.take_of_length_le (Nat.le_of_eq hsz.symm);rw [eQ,ht,eO r.1,kr r.1];rfl
   rw [hm] at hpre;by_cases hmt:rG (aa w) r.1 j=true
   ·rw [if_pos hmt]
    rw [hmt] at hpre;simp -implicitDefEqProofs only [al,EP,EQ,ER,hn1,hn2,tv0,tv1,hsl,hpre];refine aA _ (wI r.2 j ((aa w).length - 1) (fun k out=>[T w,aI out,T ⟨r.1.toArray⟩,aI r.2,I j,txs ps,I ps.length,I i,.itr w (j+1),aI r.2,I r.2.length,I k]) (fun out=>.ext 4 [T w,aI out,T ⟨r.1.toArray⟩,aI r.2,txs ps,I ps.length,I i,.itr w (j+1)]) (fun k hk out ho=>?_) (fun out ho=>?_) (fun _=>rfl) out ho rfl) ?_
    ·have hk':(k:Int)<(r.2.length:Int):=by omega
     have hg:=fL hk;have hwa:ES.wrap ((j:Int)+(k:Int))=(j:Int)+(k:Int):=am (by omega) (by omega);have hwb:ES.wrap ((j:Int)+(k:Int) - 1)=(j:Int)+(k:Int) - 1:=am (by omega) (by omega);have hwc:ES.wrap ((out.length:Int) - 1)=(out.length:Int) - 1:=am (by omega) (by omega);have hwk:ES.wrap ((k:Int)+1)=((k+1:Nat):Int):=by rw [am (by omega) (by omega)];omega
     have hwt:=eP ((j:Int)+(k:Int) - 1) 0 ((out.length:Int) - 1);by_cases hin:1≤j+k∧j+k≤out.length
     ·have hb:j+k - 1<out.length:=by omega
      have hd:decide (0≤(j:Int)+(k:Int) - 1∧(j:Int)+(k:Int) - 1≤(out.length:Int) - 1)=true:=decide_eq_true (by omega);rw [hd] at hwt;have hat:(j:Int)+(k:Int) - 1=((j+k - 1:Nat):Int):=by omega
      rw [yz _ hin];rw [hat] at hwt;have hwb:=hwb.trans hat;have h1:=wN hb;have h2:=yc hb;have h3:=wF out (j+k - 1) (max out[j+k - 1] r.2[k]) hb;simp -implicitDefEqProofs only [al,EP,EQ,ER,hk',hg,hwa,hwb,hwc,hwt,h1,h2,EJ,h3,hwk]
     ·have hd:decide (0≤(j:Int)+(k:Int) - 1∧(j:Int)+(k:Int) - 1≤(out.length:Int) - 1)=false:=decide_eq_false (by omega)
      rw [hd] at hwt;unfold vk;rw [if_neg hin];simp -implicitDefEqProofs only [al,EP,EQ,ER,hk',hg,hwa,hwb,hwc,hwt,hwk]
    ·have hlt:¬((r.2.length:Int)<(r.2.length:Int)):=by omega
     simp -implicitDefEqProofs only [al,EP,EQ,ER,hlt]
    ·simp -implicitDefEqProofs only [al,EP,EQ,ER]
   ·rw [if_neg hmt]
    rw [Fe] at hmt;rw [hmt] at hpre;simp -implicitDefEqProofs only [al,EP,EQ,ER,hn1,hn2,tv0,tv1,hsl,hpre]
  ·obtain⟨hn1,hn2⟩:=AP (s:=w)
   simp -implicitDefEqProofs only [al,EP,EQ,ER,hn1,hn2,tv0]
  ·simp -implicitDefEqProofs only [al,EP,EQ,ER,hwi]
   rfl
 ·have hlt:¬((ps.length:Int)<(ps.length:Int)):=by omega
  simp -implicitDefEqProofs only [al,EP,EQ,ER,hlt]
 ·simp -implicitDefEqProofs only [al,EP,EQ,ER]
  rw [gP];rfl
theorem rB (ps:List ByteArray) (w:ByteArray) (hw:Vw w) (hn:ps.length≤1048576) (hp:∀p∈ps,∃r,Vp p r):eS [txs ps,T w]=some (.ret [aI (ba (aa w) ps)] []):=by
 rw [rp];have hlo:=hw.lo;have hhi:=hw.hi;have hsz:=aR w;have hw1:ES.wrap ((w.size:Int) - 1)=(((aa w).length - 1:Nat):Int):=by rw [am (by omega) (by omega)];omega
 have hmk:vG 1 8 (I 0) (I (((aa w).length - 1:Nat):Int)) (I (((aa w).length - 1:Nat):Int))=some (aI (Fo ((aa w).length - 1) 0)):=by
  rw [we,if_pos (by omega),vE]
 simp -implicitDefEqProofs only [al,EP,EQ,ER,hw1,hmk];refine aA _ (cF ps (fun i out=>[T w,aI out,txs ps,I ps.length,I i]) (fun _ out=>out.length=(aa w).length - 1) (fun _ out p=>tH (aa w) out p) (fun out=>.ext 0 [aI out]) _ (fun i out hi ho=>⟨?_,by rw [sP,ho]⟩) (fun out ho=>?_) (fun _=>rfl) (by simp) rfl) ?_
 ·have hi':(i:Int)<(ps.length:Int):=by omega
  have hwi:ES.wrap ((i:Int)+1)=((i+1:Nat):Int):=by rw [am (by omega) (by omega)];omega
  have hel:aT 1 (txs ps) (I (i:Int))=some [T ps[i]]:=by simp [hi]
  obtain⟨r,hr⟩:=hp ps[i] (EW hi);have hln:=hr.ln;have hrlo:=hr.lo;have hrhi:=hr.hi;have hrd:=kn ps[i] hr.sz;rw [hr.rd] at hrd;have hpo:tH (aa w) out ps[i]=zK (aa w) r out:=by
   unfold tH;rw [hr.rd];rfl
  rw [hpo,zO _ _ _ hrlo];have hlen:((aa w).take ((aa w).length+1 - r.1.length)).length=(aa w).length+1 - r.1.length:=by rw [Fg];omega
  have hszr:=kr r.1;simp -implicitDefEqProofs only [al,EP,EQ,ER,hi',hel,hrd,pc,tv0,ta1,tc1,tv2];refine aA _ (cF ((aa w).take ((aa w).length+1 - r.1.length)) (fun j out=>[T w,aI out,T ⟨r.1.toArray⟩,aI r.2,I j,txs ps,I ps.length,I i]) (fun _ out=>out.length=(aa w).length - 1) (fun j out _=>if rG (aa w) r.1 j=true then wt j r.2 out else out) (fun out=>.ext 2 [T w,aI out,txs ps,I ps.length,I i]) _ (fun j out hj ho=>⟨?_,by split;rw [te,ho];exact ho⟩) (fun out ho=>?_) (fun _=>rfl) ho rfl) ?_
  ·rw [hlen] at hj
   have hjr:j+r.1.length≤(aa w).length:=by omega
   have hwr:ES.wrap ((j:Int)+(r.1.length:Int))=((j+r.1.length:Nat):Int):=by rw [am (by omega) (by omega)];omega
   have hle:((j+r.1.length:Nat):Int)≤(w.size:Int):=by omega
   have hsl:=lU (s:=w) (z:=0) (i:=j) (j:=j+r.1.length) (by omega) (by omega);have hwj:ES.wrap ((j:Int)+1)=((j+1:Nat):Int):=by rw [am (by omega) (by omega)];omega
   have hm:decide (w.extract j (j+r.1.length)=⟨r.1.toArray⟩)=rG (aa w) r.1 j:=by
    unfold rG;apply decide_eq_decide.2;have e:aa (w.extract j (j+r.1.length))=((aa w).drop j).take r.1.length:=by
     rw [eQ,List.drop_take];congr 1
     omega
    constructor
    ·intro h
     rw [←e,h,eO]
    ·intro h
     apply gh;rw [e,h,eO]
   by_cases hmt:rG (aa w) r.1 j=true
   ·rw [if_pos hmt]
    rw [hmt] at hm;simp -implicitDefEqProofs only [al,EP,EQ,ER,hszr,hwr,hle,hsl,pP,hm];refine aA _ (wI r.2 j ((aa w).length - 1) (fun k out=>[T w,aI out,T ⟨r.1.toArray⟩,aI r.2,I j,txs ps,I ps.length,I i,aI r.2,I r.2.length,I k]) (fun out=>.ext 4 [T w,aI out,T ⟨r.1.toArray⟩,aI r.2,I j,txs ps,I ps.length,I i]) (fun k hk out ho=>?_) (fun out ho=>?_) (fun _=>rfl) out ho rfl) ?_
    ·have hk':(k:Int)<(r.2.length:Int):=by omega
     have hg:=fL hk;have hwa:ES.wrap ((j:Int)+(k:Int))=(j:Int)+(k:Int):=am (by omega) (by omega);have hwb:ES.wrap ((j:Int)+(k:Int) - 1)=(j:Int)+(k:Int) - 1:=am (by omega) (by omega);have hwc:ES.wrap ((out.length:Int) - 1)=(out.length:Int) - 1:=am (by omega) (by omega);have hwk:ES.wrap ((k:Int)+1)=((k+1:Nat):Int):=by rw [am (by omega) (by omega)];omega
     have hwt:=fg ((j:Int)+(k:Int) - 1) 0 ((out.length:Int) - 1);by_cases hin:1≤j+k∧j+k≤out.length
     ·have hb:j+k - 1<out.length:=by omega
      have hd:decide (0≤(j:Int)+(k:Int) - 1∧(j:Int)+(k:Int) - 1≤(out.length:Int) - 1)=true:=decide_eq_true (by omega);rw [hd] at hwt;have hat:(j:Int)+(k:Int) - 1=((j+k - 1:Nat):Int):=by omega
      rw [yz _ hin];rw [hat] at hwt;have hwb:=hwb.trans hat;have h1:=wN hb;have h2:=yc hb;have h3:=wF out (j+k - 1) (max out[j+k - 1] r.2[k]) hb;simp -implicitDefEqProofs only [al,EP,EQ,ER,hk',hg,hwa,hwb,hwc,hwt,h1,h2,BT,h3,hwk]
     ·have hd:decide (0≤(j:Int)+(k:Int) - 1∧(j:Int)+(k:Int) - 1≤(out.length:Int) - 1)=false:=decide_eq_false (by omega)
      rw [hd] at hwt;unfold vk;rw [if_neg hin];simp -implicitDefEqProofs only [al,EP,EQ,ER,hk',hg,hwa,hwb,hwc,hwt,hwk]
    ·have hlt:¬((r.2.length:Int)<(r.2.length:Int)):=by omega
     simp -implicitDefEqProofs only [al,EP,EQ,ER,hlt]
    ·simp -implicitDefEqProofs only [al,EP,EQ,ER,hwj]
   ·rw [if_neg hmt]
    rw [Fe] at hmt;rw [hmt] at hm;simp -implicitDefEqProofs only [al,EP,EQ,ER,hszr,hwr,hle,hsl,pP,hm,hwj]
  ·rw [hlen]
   have hwr:ES.wrap ((((aa w).length+1 - r.1.length:Nat):Int)+(r.1.length:Int))=(((aa w).length+1 - r.1.length:Nat):Int)+(r.1.length:Int):=am (by omega) (by omega);have hle:¬(((aa w).length+1 - r.1.length:Nat):Int)+(r.1.length:Int)≤(w.size:Int):=by omega
   simp -implicitDefEqProofs only [al,EP,EQ,ER,hszr,hwr,hle]
  ·simp -implicitDefEqProofs only [al,EP,EQ,ER,hwi]
 ·have hlt:¬((ps.length:Int)<(ps.length:Int)):=by omega
  simp -implicitDefEqProofs only [al,EP,EQ,ER,hlt]
 ·simp -implicitDefEqProofs only [al,EP,EQ,ER]
  rw [gP];rfl
set_option maxRecDepth 100000
theorem qj (p:ByteArray) (h:p.size≤1000000):ew [T p]=some (.ret [B (gT p)] []):=by
 rw [pS,iM p h];unfold gT;cases kp p with
 | none=>simp -implicitDefEqProofs only [al,EP,EQ,ER,pc,tv0,ta1,tv2];rfl
 | some r=>simp -implicitDefEqProofs only [al,EP,EQ,ER,pc,tv0,ta1,tv2];rfl
theorem qK (p:ByteArray) (h:p.size≤1000000):eu [T p]=some (.ret [B (gT p)] []):=by
 rw [qn,kn p h];unfold gT;cases kp p with
 | none=>simp -implicitDefEqProofs only [al,EP,EQ,ER,pc,tv0,ta1,tc1,tv2];rfl
 | some r=>simp -implicitDefEqProofs only [al,EP,EQ,ER,pc,tv0,ta1,tc1,tv2];rfl
structure HIn (ps es:List ByteArray):Prop where
 pn:ps.length≤1000000
 en:es.length≤1000000
 ps:∀p∈ps,p.size≤1000000
 es:∀e∈es,e.size≤1000000
theorem nS (ps:List ByteArray) (hn:ps.length≤1000000) (hs:∀p∈ps,p.size≤1000000):dI [txs ps]=some (.ret [B (ps.all gT&&decide ((ps.length:Int)≤20))] []):=by
 rw [nY];simp -implicitDefEqProofs only [al,EP,EQ,ER];refine aA _ (gQ ps (fun i=>[txs ps,txs ps,I ps.length,I i]) (fun _ p=>gT p) (.ret [B false] []) (.ext 0 [txs ps]) (fun i hi=>?_) ?_ rfl rfl rfl) ?_
 ·have hi':(i:Int)<(ps.length:Int):=by omega
  have hw:ES.wrap ((i:Int)+1)=((i+1:Nat):Int):=by rw [am (by omega) (by omega)];omega
  have hel:aT 1 (txs ps) (I (i:Int))=some [T ps[i]]:=by simp [hi]
  have hp:=qj ps[i] (hs _ (EW hi));cases hc:gT ps[i]<;>rw [hc] at hp<;>simp -implicitDefEqProofs only [al,EP,EQ,ER,hi',hel,hp,hw]
 ·have hlt:¬((ps.length:Int)<(ps.length:Int)):=by omega
  simp -implicitDefEqProofs only [al,EP,EQ,ER,hlt]
 ·rw [lK]
  cases ps.all gT
  ·simp -implicitDefEqProofs only [al,EP,EQ,ER,ka,EZ]
  ·simp -implicitDefEqProofs only [al,EP,EQ,ER,Fa]
theorem Bj (b:ByteArray):∀(l:List ByteArray) (i:Nat),(eh (fZ b) i l).isNone=(l.map bM).all fun y=>!decide (y=b)
 | [],_=>rfl
 | x::l,i=>by
  simp only [eh,fZ,List.map_cons,Fr];by_cases h:bM x=b
  ·simp [h]
  ·simp [h]
   rw [Bj b l (i+1)];simp
theorem xc (e:ByteArray) (h:e.size≤1048576):∃(w:ByteArray) (ps:List Nat),dQ [T e]=some (.ret [T w,aI (bo ps),B (eF (aa e))] [])∧(eF (aa e)=true→w=bM e∧ps=dA 0 (an 45 (aa e))):=by
 rw [tv e h,←yS];cases hb:jm [] [] false (aa e) with
 | none=>exact⟨⟨#[]⟩,[],rfl,fun h=>by cases h⟩
 | some q =>
  obtain⟨w,ps⟩:=q;refine⟨⟨w.toArray⟩,ps,rfl,fun _=>?_⟩
  rw [lT] at hb;split at hb
  ·simp only [FA,FX,Fk,FQ] at hb
   rw [←hb.1,←hb.2];exact⟨rfl,rfl⟩
  ·cases hb
theorem ky (s:ByteArray):aF 1 [T s]=some (txs [s]):=by simp [aF,jJ]
theorem fK (l:List ByteArray):ie (txs l)=some (txs l):=wd fun _=>rfl
theorem kK {l m:List ByteArray} (h:l.length+m.length≤1048577):eL 1 16 (txs l) (txs m)=some (txs (l++m)):=by
 rw [vd,if_pos (by simp only [Fc];omega)];show _=some (D.arr 1 ((l++m).map T))
 rw [Fu]
def DN (es:List ByteArray):Bool:=lC (fun i x=>eF (aa x)&&((es.take i).map bM).all fun y=>!decide (y=bM x)) 0 es
theorem yo (es:List ByteArray):uK es=(DN es&&decide ((es.length:Int)≤20)):=by
 unfold uK DN;congr 2
 funext i x
 rw [Bj]
theorem tm (ps es:List ByteArray) (h:HIn ps es):gw [txs ps,txs es]=some (.ret [B ((ps.all gT&&decide ((ps.length:Int)≤20))&&uK es)] []):=by
 rw [tB];have hpn:=h.pn;have hen:=h.en;simp -implicitDefEqProofs only [al,EP,EQ,ER];refine aA _ (gQ ps (fun i=>[txs ps,txs es,txs ps,I ps.length,I i]) (fun _ p=>gT p) (.ret [B false] []) (.ext 0 [txs ps,txs es]) (fun i hi=>?_) ?_ rfl rfl rfl) ?_
 ·have hi':(i:Int)<(ps.length:Int):=by omega
  have hw:ES.wrap ((i:Int)+1)=((i+1:Nat):Int):=by rw [am (by omega) (by omega)];omega
  have hel:aT 1 (txs ps) (I (i:Int))=some [T ps[i]]:=by simp [hi]
  have hp:=qK ps[i] (h.ps _ (EW hi));cases hc:gT ps[i]<;>rw [hc] at hp<;>simp -implicitDefEqProofs only [al,EP,EQ,ER,hi',hel,hp,hw]
 ·have hlt:¬((ps.length:Int)<(ps.length:Int)):=by omega
  simp -implicitDefEqProofs only [al,EP,EQ,ER,hlt]
 ·rw [lK]
  cases hall:ps.all gT
  ·simp -implicitDefEqProofs only [al,EP,EQ,ER,ka,EZ]
  ·simp -implicitDefEqProofs only [al,EP,EQ,ER,Fa]
   refine aA _ (gQ es (fun i=>[txs ps,txs es,txs ((es.take i).map bM),txs es,I es.length,I i]) (fun i x=>eF (aa x)&&((es.take i).map bM).all fun y=>!decide (y=bM x)) (.ret [B false] []) (.ext 2 [txs ps,txs es]) (fun i hi=>?_) ?_ rfl rfl rfl) ?_
   ·have hi':(i:Int)<(es.length:Int):=by omega
    have hw:ES.wrap ((i:Int)+1)=((i+1:Nat):Int):=by rw [am (by omega) (by omega)];omega
    have hel:aT 1 (txs es) (I (i:Int))=some [T es[i]]:=by simp [hi]
    obtain⟨w,qs,hb,hw2⟩:=xc es[i] (by have:=h.es _ (EW hi);omega);have hlen:((es.take i).map bM).length=i:=by rw [Fc,Fg];omega
    cases hc:eF (aa es[i])
    ·rw [hc] at hb
     simp -implicitDefEqProofs only [al,EP,EQ,ER,hi',hel,hb,tv0,ta1,tc1,tv2,EZ]
    ·rw [hc] at hb
     obtain⟨rfl,-⟩:=hw2 hc;have hhas:=tD ((es.take i).map bM) (bM es[i]) (by omega);have hap:=kK (l:=(es.take i).map bM) (m:=[bM es[i]]) (by simp only [Fs];omega);have hsn:(es.take i).map bM++[bM es[i]]=(es.take (i+1)).map bM:=by
      rw [List.take_succ_eq_append_getElem hi,Fu];rfl
     rw [hsn] at hap;have hone:=ky (bM es[i]);cases hm:((es.take i).map bM).all fun y=>!decide (y=bM es[i])
     ·rw [hm] at hhas
      simp -implicitDefEqProofs only [al,EP,EQ,ER,hi',hel,hb,tv0,ta1,tc1,tv2,hhas,Fa]
     ·rw [hm] at hhas
      simp -implicitDefEqProofs only [al,EP,EQ,ER,hi',hel,hb,tv0,ta1,tc1,tv2,hhas,Fa,hone,fK,hap,hw]
   ·have hlt:¬((es.length:Int)<(es.length:Int)):=by omega
    simp -implicitDefEqProofs only [al,EP,EQ,ER,hlt]
   ·rw [yo]
    unfold DN;cases lC (fun i x=>eF (aa x)&&((es.take i).map bM).all fun y=>!decide (y=bM x)) 0 es
    ·simp -implicitDefEqProofs only [al,EP,EQ,ER,ka,EZ,Bool.and_false]
    ·by_cases h1:(ps.length:Int)≤20<;>simp -implicitDefEqProofs only [al,EP,EQ,ER,h1,Fa,EZ]
def cz (ps es:List ByteArray) (w:ByteArray):Bool:=((ps.all gT&&decide ((ps.length:Int)≤20))&&uK es)&&dY w 1 16
theorem ec (ps es:List ByteArray) (w:ByteArray) (h:HIn ps es) (hw:w.size≤9223372036854775807):bX [txs ps,txs es,T w]=some (.ret [B (cz ps es w)] []):=by
 rw [sf];have h1:=tm ps es h;have h2:=nt w hw;unfold cz;cases hc:(ps.all gT&&decide ((ps.length:Int)≤20))&&uK es<;>rw [hc] at h1<;>simp -implicitDefEqProofs only [al,EP,EQ,ER,h1,h2,Fa,EZ]
theorem ou (ps es:List ByteArray) (w:ByteArray) (h:HIn ps es) (hw:w.size≤9223372036854775807):dT [txs ps,txs es,T w]=some (.ret [B (cz ps es w)] []):=by
 rw [oK];have h1:=nS ps h.pn h.ps;have h2:=mD es (by have:=h.en;omega) (fun x hx=>by have:=h.es x hx;omega);have h3:=tO w hw;unfold cz;cases hc:ps.all gT&&decide ((ps.length:Int)≤20)<;>rw [hc] at h1
 ·simp -implicitDefEqProofs only [al,EP,EQ,ER,h1,EZ]
 ·cases hd:uK es<;>rw [hd] at h2<;>simp -implicitDefEqProofs only [al,EP,EQ,ER,h1,h2,h3,Fa,EZ]
end Go.Proofs.YtioabeglbjlndaaDoor

end
