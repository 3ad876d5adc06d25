/-
  A part of the proof: contracts and plain forms of functions beneath the statement, made small by a program (names shortened, what is not needed left out).
-/
import Derived.Test.YtkcojipciiakdaaDoorRows
import Derived.Test.YtkcojipciiakdaaDoorTie
import Derived.Test.YtkcojipciiakdaaDoorCards
import Derived.Test.YtkcojipciiakdaaDoorM4
import Derived.Laws.OwnMore
import Derived.Laws.Bits64b
open Option renaming bind_some → JI, map → JT
open Go.IntKind renaming i64 → JJ, u64 → JP
open Bool renaming and_eq_true → JK, not_eq_true' → Ki, and_eq_false_iff → Ku, false_eq_true → Kz
open List renaming length_map → JL, length_singleton → JN, getElem_mem → JO, getD_eq_getElem?_getD → JQ, take_succ_eq_append_getElem → JU, getElem?_eq_getElem → JX, eq_nil_of_length_eq_zero → JZ, getElem_cons_succ → Kb, mem_cons → Kc, length_drop → Kf, length_append → Kg, mem_map → Kj, length_take → Kl, not_mem_nil → Km, map_cons → Kn, length_pos_iff → Ko, map_append → Kq, getElem?_eq_some_iff → Kr, length → Kt, length_nil → Kv, mem_of_getElem? → Kw, getElem?_append_right → KB, getElem?_append_left → KD, map_nil → KE, mem_append → KF, drop_eq_nil_of_le → KH, mem_map_of_mem → KJ, foldl_append → KO, cons_append → KP
open Go.Lib renaming frozen_of_heap → JM
open Go.Op renaming bytesLess → JR
open Nat renaming le_refl → JS, lt_or_ge → Ke, zero_add → Ks, zero_le → Ky, lt_of_lt_of_le → KK, lt_trichotomy → KN
open ByteArray renaming size_append → JV, empty → JW
open Go.World renaming setCell → JY, cell?_of_block → Kx
open Int renaming eq_ofNat_of_zero_le → Ka, tmod_eq_emod_of_nonneg → KC, toNat_natCast → KM
open Option.some renaming inj → Kh
open Go.Value renaming int → Kk, ownBlock → KI
open Go.Proofs renaming enters_of → Kp
open Array renaming getElem?_eq_some_iff → KA
open Go.Builtin renaming append_ → KG, firstCells → KL, lenOf → KR
open Go.RowKit.Below renaming refl → KQ
set_option maxRecDepth 100000
set_option linter.unusedSimpArgs false
set_option linter.unusedVariables false
noncomputable section
namespace Go.Proofs.YtkcojipciiakdaaDoor
open Go Go.V
set_option maxRecDepth 100000
theorem uM (x0 x1 x2:D):gH [x0,x1,x2]=(ao (eG [x0,x1]) fun c _=>(un .not (sl c 0)).bind fun z=>ifD z ((bj 4 []).bind fun a=>some (.ret [a,B false] [])) ((bj 4 []).bind fun a=>(jU x0).bind fun b=>(iq 4 40 a b).bind fun y=>(lenD false x1).bind fun z=>(bq (fun s=>(bin .lss false [] (sl s 5) (sl s 4)).bind fun z=>ifD z ((JT D.ptr (bm 1 (sl s 3) (sl s 5))).bind fun z=>((ldD false 1 z).bind aV).bind fun z=>(aa (sl s 2) (.ref 0 0)).bind fun d=>ao (gE [sl s 0,z]) fun c _=>((aa d (sl s 2)).bind fun b=>tV 4 b (sl c 0)).bind fun z=>(cQ 3 z).bind fun z=>((atD (sl s 2) z).bind (ak false 1)).bind fun z=>(bin .add false [] z (sl s 1)).bind fun z=>((aa d (sl s 2)).bind fun b=>tV 4 b (sl c 0)).bind fun e=>(cQ 3 e).bind fun f=>(stD 1 (sl s 2) f z).bind fun b=>(bin .add false [] (sl s 5) (I 1)).bind fun z=>some (.nrm [sl s 0,sl s 1,b,sl s 3,sl s 4,z])) (some (.ext 0 [sl s 2]))) [x0,x2,y,x1,z,I 0]).bind fun o=>dw o (fun i s=>ifN (i.beq 0) ((aa (sl s 0) (.ref 0 0)).bind fun z=>(aa z (sl s 0)).bind fun i=>ao (dN [i]) fun c _=>(un .not (sl c 0)).bind fun z=>ifD z ((bj 4 []).bind fun a=>some (.ret [a,B false] [])) (some (.ret [sl s 0,B true] []))) none) fun a b=>some (.ret a b))):=by kernel_rfl
theorem tM (x0 x1:D):jj [x0,x1]=(ao (gH [x0,x1,I 1]) fun c _=>(bU (.tup c) 0).bind fun y=>(bU (qh (.tup c) 0) 1).bind fun z=>some (.ret [y,z] [])):=by kernel_rfl
theorem wP (x0:D):iG [x0]=(ao (dZ [x0,I 16]) fun c _=>some (.ret [sl c 0] [])):=by kernel_rfl
theorem wu (x0:D):iP [x0]=((fy 4 x0).bind fun y=>(aa y (.ref 0 1)).bind fun z=>((atD y z).bind (ak false 1)).bind fun z=>ao (cd [z,I 1,I 99]) fun c _=>(un .not (sl c 0)).bind fun z=>ifD z (some (.ret [B false] [])) ((aa y (.ref 0 0)).bind fun z=>((atD y z).bind (ak false 1)).bind fun z=>(bin .eql false [] z (I 1)).bind fun k=>ifD k ((aa y (.ref 0 2)).bind fun z=>((atD y z).bind (ak false 1)).bind fun z=>ao (iG [z]) fun c _=>(ae D.bad (sl c 0) true (aa y (.ref 0 3))).bind fun z=>(ae (.tup []) (sl c 0) true ((atD y z).bind (ak false 1))).bind fun z=>(ae (.tup []) (sl c 0) true (bin .eql false [] z (I 0))).bind fun z=>(aR (sl c 0) z (B false)).bind fun z=>some (.ret [z] [])) ((bin .eql false [] z (I 3)).bind fun l=>ifD l ((aa y (.ref 0 2)).bind fun z=>((atD y z).bind (ak false 1)).bind fun z=>(bin .eql false [] z (.v (.string ⟨⟨[]⟩⟩))).bind fun z=>(ae D.bad z true (aa y (.ref 0 3))).bind fun h=>(ae (.tup []) z true ((atD y h).bind (ak false 1))).bind fun e=>dF z true (ao (cd [e,I 1,I 1000]) fun c _=>some (.nrm [sl c 0])) [.tup []] fun m=>(aR z (sl m 0) (B false)).bind fun z=>some (.ret [z] [])) ((bin .eql false [] z (I 2)).bind fun h=>ifD h (ifD h ((aa y (.ref 0 2)).bind fun z=>((atD y z).bind (ak false 1)).bind fun z=>(bin .eql false [] z (.v (.string ⟨⟨[]⟩⟩))).bind fun z=>(ae D.bad z true (aa y (.ref 0 3))).bind fun e=>(ae (.tup []) z true ((atD y e).bind (ak false 1))).bind fun f=>(ae (.tup []) z true (bin .eql false [] f (I 0))).bind fun d=>(aR z d (B false)).bind fun z=>some (.ret [z] [])) (some (.ret [B false] []))) ((bin .eql false [] z (I 4)).bind fun e=>ifD e (ifD e ((aa y (.ref 0 2)).bind fun z=>((atD y z).bind (ak false 1)).bind fun z=>(bin .eql false [] z (.v (.string ⟨⟨[]⟩⟩))).bind fun z=>(ae D.bad z true (aa y (.ref 0 3))).bind fun f=>(ae (.tup []) z true ((atD y f).bind (ak false 1))).bind fun d=>(ae (.tup []) z true (bin .eql false [] d (I 0))).bind fun g=>(aR z g (B false)).bind fun z=>some (.ret [z] [])) (some (.ret [B false] []))) ((bin .eql false [] z (I 5)).bind fun f=>ifD f (ifD f ((aa y (.ref 0 2)).bind fun z=>((atD y z).bind (ak false 1)).bind fun z=>(bin .eql false [] z (.v (.string ⟨⟨[]⟩⟩))).bind fun z=>(ae D.bad z true (aa y (.ref 0 3))).bind fun d=>(ae (.tup []) z true ((atD y d).bind (ak false 1))).bind fun g=>(ae (.tup []) z true (bin .eql false [] g (I 0))).bind fun j=>(aR z j (B false)).bind fun z=>some (.ret [z] [])) (some (.ret [B false] []))) ((bin .eql false [] z (I 6)).bind fun z=>ifD z ((aa y (.ref 0 2)).bind fun z=>((atD y z).bind (ak false 1)).bind fun z=>(bin .eql false [] z (.v (.string ⟨⟨[]⟩⟩))).bind fun z=>(ae D.bad z true (aa y (.ref 0 3))).bind fun d=>(ae (.tup []) z true ((atD y d).bind (ak false 1))).bind fun g=>(ae (.tup []) z true (bin .eql false [] g (I 0))).bind fun j=>(aR z j (B false)).bind fun z=>some (.ret [z] [])) (some (.ret [B false] []))))))))):=by kernel_rfl
theorem vG (x0 x1:D):fp [x0,x1]=((bin .lss false [] x0 x1).bind fun z=>ifD z (some (.ret [x0] [])) (some (.ret [x1] []))):=by kernel_rfl
theorem wg (x0 x1:D):fV [x0,x1]=((lenD false x0).bind fun z=>(bq (fun s=>(bin .lss false [] (sl s 3) (sl s 2)).bind fun z=>ifD z ((JT D.ptr (bm 2 (sl s 1) (sl s 3))).bind fun z=>((ldD true 2 z).bind aV).bind fun z=>(stD 2 (.agg [.v (.string ⟨⟨[]⟩⟩),I 0]) (.ref 0 0) z).bind fun b=>(aa b (.ref 0 0)).bind fun z=>((atD b z).bind (ak false 1)).bind fun z=>(bin .eql false [] z (sl s 0)).bind fun z=>ifD z (some (.ret [sl s 3] [])) ((bin .add false [] (sl s 3) (I 1)).bind fun z=>some (.nrm [sl s 0,sl s 1,sl s 2,z]))) (some (.ext 0 []))) [x1,x0,z,I 0]).bind fun o=>dw o (fun i _=>ifN (i.beq 0) (some (.ret [I (-1)] [])) none) fun a b=>some (.ret a b)):=by kernel_rfl
theorem yj (x0 x1:D):jA [x0,x1]=((bq (fun s=>(lenD true (sl s 1)).bind fun z=>(bin .lss false [] (sl s 3) z).bind fun z=>ifD z ((lenD true (sl s 1)).bind fun z=>(bin .sub false [] z (sl s 3)).bind fun z=>ao (fp [I 3,z]) fun c _=>(bq (fun s=>(bin .gtr false [] (sl s 5) (I 0)).bind fun z=>(ae (.tup []) z true (some (sl s 4))).bind fun d=>(ae (.tup []) z true (bin .lss false [] d (I 0))).bind fun e=>(aR z e (B false)).bind fun z=>ifD z ((bin .add false [] (sl s 3) (sl s 5)).bind fun z=>(hD true 0 (sl s 1) (sl s 3) z).bind fun z=>ao (fV [sl s 0,z]) fun c _=>(bin .sub false [] (sl s 5) (I 1)).bind fun z=>some (.nrm [sl s 0,sl s 1,sl s 2,sl s 3,sl c 0,z])) (some (.ext 2 [sl s 0,sl s 1,sl s 2,sl s 3,sl s 4]))) [sl s 0,sl s 1,sl s 2,sl s 3,I (-1),sl c 0]).bind fun o=>dw o (fun i s=>ifN (i.beq 2) ((bin .lss false [] (sl s 4) (I 0)).bind fun z=>ifD z (some (.ret [.arr 1 [],B false] [])) ((bj 1 [sl s 4]).bind fun a=>(jU a).bind fun b=>(iq 1 8 (sl s 2) b).bind fun y=>(JT D.ptr (bm 2 (sl s 0) (sl s 4))).bind fun z=>(sE 0 z).bind fun z=>((ldD false 1 z).bind aV).bind fun z=>(lenD true z).bind fun z=>(bin .add false [] (sl s 3) z).bind fun z=>some (.nrm [sl s 0,sl s 1,y,z]))) (ifN (i.beq 1) (some (.nrm [sl s 0,sl s 1,sl s 2,sl s 3])) (some (.ext i [sl s 2])))) fun a b=>some (.ret a b)) (some (.ext 0 [sl s 2]))) [x0,x1,.arr 1 [],I 0]).bind fun o=>dw o (fun i s=>ifN (i.beq 0) (some (.ret [sl s 0,B true] [])) none) fun a b=>some (.ret a b)):=by kernel_rfl
theorem vH (x0 x1:D):jT [x0,x1]=((lenD false x0).bind fun z=>(bq (fun s=>(bin .lss false [] (sl s 4) (sl s 3)).bind fun z=>ifD z ((JT D.ptr (bm 4 (sl s 2) (sl s 4))).bind fun z=>((ldD true 4 z).bind aV).bind fun z=>(stD 4 (.agg [.v (.string ⟨⟨[]⟩⟩),I 0,I 0,I 0]) (.ref 0 0) z).bind fun b=>(aa b (.ref 0 0)).bind fun z=>((atD b z).bind (ak false 1)).bind fun z=>(kV [(0,1),(1,1)] [.v (.string ⟨⟨[]⟩⟩),I 0] [z,I 1]).bind fun z=>(bj 2 [z]).bind fun a=>(jU a).bind fun b=>(iq 2 24 (sl s 1) b).bind fun y=>(bin .add false [] (sl s 4) (I 1)).bind fun z=>some (.nrm [sl s 0,y,sl s 2,sl s 3,z])) (some (.ext 0 [sl s 0,sl s 1]))) [x1,.arr 2 [],x0,z,I 0]).bind fun o=>dw o (fun i s=>ifN (i.beq 0) ((aa (sl s 1) (.ref 0 0)).bind fun z=>(aa z (sl s 1)).bind fun i=>ao (jA [i,sl s 0]) fun c _=>(bU (.tup c) 0).bind fun y=>(bU (qh (.tup c) 0) 1).bind fun z=>(un .not z).bind fun z=>ifD z (some (.ret [.arr 1 [],B false] [])) ((lenD false y).bind fun z=>(bq (fun s=>(bin .lss false [] (sl s 4) (sl s 3)).bind fun z=>ifD z ((JT D.ptr (bm 1 (sl s 2) (sl s 4))).bind fun z=>((ldD false 1 z).bind aV).bind fun z=>(aa (sl s 0) (.ref 0 0)).bind fun d=>((aa d (sl s 0)).bind fun b=>tV 2 b z).bind fun z=>(cQ 0 z).bind fun z=>((atD (sl s 0) z).bind (ak false 1)).bind fun z=>(bj 1 [z]).bind fun a=>(jU a).bind fun b=>(iq 1 16 (sl s 1) b).bind fun y=>(bin .add false [] (sl s 4) (I 1)).bind fun z=>some (.nrm [sl s 0,y,sl s 2,sl s 3,z])) (some (.ext 2 [sl s 1]))) [sl s 1,.arr 1 [],y,z,I 0]).bind fun o=>dw o (fun i s=>ifN (i.beq 2) (some (.ret [sl s 0,B true] [])) none) fun a b=>some (.ret a b))) none) fun a b=>some (.ret a b)):=by kernel_rfl
theorem wU (x0 x1:D):fX [x0,x1]=((fy 4 x0).bind fun y=>(aa y (.ref 0 1)).bind fun z=>((atD y z).bind (ak false 1)).bind fun z=>(lenD false z).bind fun c=>(bq (fun s=>(bin .lss false [] (sl s 3) (sl s 2)).bind fun z=>ifD z ((JT D.ptr (bm 4 (sl s 1) (sl s 3))).bind fun z=>(ldD true 4 z).bind fun z=>(stD 4 (.agg [I 0,.arr 1 [],B false,I 0]) (.ref 0 0) z).bind fun b=>(aa b (.ref 0 0)).bind fun z=>(((atD b z).bind (ak false 1)).bind aV).bind fun z=>(bin .eql false [] z (sl s 0)).bind fun z=>ifD z (some (.ret [sl s 3] [])) ((bin .add false [] (sl s 3) (I 1)).bind fun z=>some (.nrm [sl s 0,sl s 1,sl s 2,z]))) (some (.ext 0 []))) [x1,z,c,I 0]).bind fun o=>dw o (fun i _=>ifN (i.beq 0) (some (.ret [I (-1)] [])) none) fun a b=>some (.ret a b)):=by kernel_rfl
theorem oR (x0 x1:D):dV [x0,x1]=((fy 4 x0).bind fun y=>(bq (fun s=>(aa (sl s 1) (.ref 0 1)).bind fun z=>((atD (sl s 1) z).bind (ak false 1)).bind fun z=>(lenD false z).bind fun z=>(bin .lss false [] (sl s 2) z).bind fun z=>(ae D.bad z true (aa (sl s 1) (.ref 0 1))).bind fun c=>(ae (.tup []) z true ((atD (sl s 1) c).bind (ak false 1))).bind fun d=>(ae (.tup []) z true (some (sl s 2))).bind fun e=>(ae (.tup []) z true (JT D.ptr (bm 4 d e))).bind fun f=>(ae (.tup []) z true (sE 0 f)).bind fun g=>(ae (.tup []) z true ((ldD false 1 g).bind aV)).bind fun h=>(ae (.tup []) z true (some (sl s 0))).bind fun j=>(ae (.tup []) z true (bin .lss false [] h j)).bind fun k=>(aR z k (B false)).bind fun z=>ifD z ((bin .add false [] (sl s 2) (I 1)).bind fun z=>some (.nrm [sl s 0,sl s 1,z])) (some (.ext 0 [sl s 0,sl s 1,sl s 2]))) [x1,y,I 0]).bind fun o=>dw o (fun i s=>ifN (i.beq 0) ((aa (sl s 1) (.ref 0 1)).bind fun z=>((atD (sl s 1) z).bind (ak false 1)).bind fun z=>(lenD false z).bind fun z=>(bin .lss false [] (sl s 2) z).bind fun z=>(ae D.bad z true (aa (sl s 1) (.ref 0 1))).bind fun c=>(ae (.tup []) z true ((atD (sl s 1) c).bind (ak false 1))).bind fun d=>(ae (.tup []) z true (some (sl s 2))).bind fun e=>(ae (.tup []) z true (JT D.ptr (bm 4 d e))).bind fun f=>(ae (.tup []) z true (sE 0 f)).bind fun g=>(ae (.tup []) z true ((ldD false 1 g).bind aV)).bind fun h=>(ae (.tup []) z true (some (sl s 0))).bind fun j=>(ae (.tup []) z true (bin .eql false [] h j)).bind fun k=>(aR z k (B false)).bind fun z=>some (.ret [sl s 2,z] [])) none) fun a b=>some (.ret a b)):=by kernel_rfl
end Go.Proofs.YtkcojipciiakdaaDoor

namespace Go.Proofs.YtkcojipciiakdaaDoor
open Go.V
set_option maxRecDepth 100000
@[reducible] def Ea:TI:={n:=1,zero:=[.arr 1 []],elem:=5,ez:=1,eb:=1}
@[reducible] def HZ:TI:={n:=1,zero:=[.v (.int .u64 0)],ik:=some .u64}
@[reducible] def Iq:TI:={agg:=true,n:=3,zero:=[.arr 1 [],.v (.int .i64 0),.v (.int .u64 0)],fs:=[(0,22),(1,3),(2,62)]}
@[reducible] def kH:Cx:={K:=[.box 3 2 true,.no,Y,Y,Yr 0,Yr 0,Yr 0,Y,Yr 0,Yr 0,Yr 0,Yc,Y,Y,Yr 0,Yr 0,Yr 0,Yc,Yr 0,Yr 0,Yr 0,Y,Yc,Y,Y,Yr 0,Yr 0,Yr 0,Y,Y,Yr 0,Yr 0,Yr 0,Yr 0,Yr 0,Yr 0,Y,Y,Y,Y,Y,Y,Yr 0,Yr 0,Yr 0,Yr 0,Yr 0,Y,Yr 0,Yr 0,Yr 0,Yc,Y,Y,Y,Yr 0,Yr 0,Yr 0,Y,Y,Y,Y],T:=[(3,ty3),(5,ty5),(22,Ea),(62,HZ),(64,Iq)],S:=[],H:=[],res:=[.tmp 2],ios:=[0],G:=gl0}
def cr:List D→Option Out:=bW kH Tryd.f66
@[reducible] def kF:FS:={pm:=[.box 3 2 true],rm:=[Y],f:=cr}
theorem rA:aF gl0 Tryd.prog 66 kF:=aS (c:=kH) aH Tryd.func66 rfl rfl (by kernel_rfl)
@[reducible] def ky:Cx:={K:=[.box 3 2 true,Y,.no,.no,Y,Y,Y,Y,Yr 0,Y,Y,Y,Y,Y,Yr 0,Y,Y,Y,Y,Y],T:=[(3,ty3)],S:=[(66,kF)],H:=[],res:=[.tmp 4],ios:=[0],G:=gl0}
def aC:List D→Option Out:=bW ky Tryd.f56
@[reducible] def bJ:FS:={pm:=[.box 3 2 true,Y],rm:=[Y],f:=aC}
theorem bN:aF gl0 Tryd.prog 56 bJ:=aS (c:=ky) (af rA aH) Tryd.func56 rfl rfl (by kernel_rfl)
@[reducible] def lQ:Cx:={K:=[.box 3 2 true,Y,.no,.no,Y,Yr 0,Y,Y,Y],T:=[(3,ty3)],S:=[(56,bJ)],H:=[],res:=[.tmp 4],ios:=[0],G:=gl0}
def co:List D→Option Out:=bW lQ Tryd.f55
@[reducible] def lE:FS:={pm:=[.box 3 2 true,Y],rm:=[Y],f:=co}
theorem lA:aF gl0 Tryd.prog 55 lE:=aS (c:=lQ) (af bN aH) Tryd.func55 rfl rfl (by kernel_rfl)
@[reducible] def kv:Cx:={K:=[.box 3 2 true,.no,Yo 2 0,Yo 2 0,.no,Y,Yb,Y,Y,Y,Yb,Y,Y,Y,Y,Y,Yr 0,Y,Y,Y,Y,Y,Y,Y,Y,Yr 0,Y,Y,Y,Yo 2 0,Y,Y,Y,Yr 0,Y,Y,Y,Y,Y,Yb,Yo 2 0,Y,.via 3,Y,Y,Y,Yo 2 0,Yo 2 0],T:=[(3,ty3),(9,ty9),(40,iu),(86,DY),(97,DF)],S:=[(55,lE),(56,bJ)],H:=[(0,([0,3,6,7,8],[0,3]))],res:=[.tmp 2],ios:=[0],G:=gl0}
def cS:List D→Option Out:=bW kv Tryd.f54
@[reducible] def qy:FS:={pm:=[.box 3 2 true],rm:=[Yo 2 0],f:=cS}
theorem qW:aF gl0 Tryd.prog 54 qy:=aS (c:=kv) (af lA (af bN aH)) Tryd.func54 rfl rfl (by kernel_rfl)
@[reducible] def ki:Cx:={K:=[.box 3 2 true,Yc,.no,.no,Y,Yc,Yr 0,Yc,Y,Y,Yc,Y],T:=[(3,ty3),(30,wT)],S:=[(56,bJ)],H:=[],res:=[.tmp 4],ios:=[0],G:=gl0}
def au:List D→Option Out:=bW ki Tryd.f37
@[reducible] def ep:FS:={pm:=[.box 3 2 true,Yc],rm:=[Y],f:=au}
theorem es:aF gl0 Tryd.prog 37 ep:=aS (c:=ki) (af bN aH) Tryd.func37 rfl rfl (by kernel_rfl)
@[reducible] def jS:Cx:={K:=[.box 3 2 true,Yc,.no,.no,Yo 4 0,Yo 4 0,Y,.no,.box 2 0 false,Yr 0,Y,Yc,Y,Y,Y,Yc,Y,Yo 4 0,Yr 8,Y,Y,Y,Y,Y,Y,Yr 0,Yb,Y,Y,Yb,Yo 4 0,Y,Yr 0,Y,Y,Y,Y,Yo 4 0],T:=[(3,ty3),(9,ty9),(23,ic),(30,wT),(70,nr),(86,DY),(97,DF)],S:=[(37,ep),(56,bJ)],H:=[(0,([0,5,6,11,12,13],[0,5]))],res:=[.tmp 4],ios:=[0],G:=gl0}
def cH:List D→Option Out:=bW jS Tryd.f53
@[reducible] def qs:FS:={pm:=[.box 3 2 true,Yc],rm:=[Yo 4 0],f:=cH}
theorem qa:aF gl0 Tryd.prog 53 qs:=aS (c:=jS) (af es (af bN aH)) Tryd.func53 rfl rfl (by kernel_rfl)
@[reducible] def mD:Cx:={K:=[.box 3 2 true,Yc,.no,.no,Y,Yc,Yr 0,Yc,Y,Y,Yc,Y],T:=[(9,ty9),(40,iu)],S:=[(56,bJ)],H:=[],res:=[.tmp 4],ios:=[0],G:=gl0}
def eH:List D→Option Out:=bW mD Tryd.f81
@[reducible] def jl:FS:={pm:=[.box 3 2 true,Yc],rm:=[Y],f:=eH}
theorem mz:aF gl0 Tryd.prog 81 jl:=aS (c:=mD) (af bN aH) Tryd.func81 rfl rfl (by kernel_rfl)
@[reducible] def kt:Cx:={K:=[.box 3 2 true,.no,Y,Y,Y,Yr 0,Y,Y,Y,Y,Y,Y,Y,Yr 0,Yb,Y,Y,Y],T:=[(3,ty3),(9,ty9),(40,iu)],S:=[(56,bJ),(81,jl)],H:=[(0,([0,3,4],[0,3]))],res:=[.tmp 2],ios:=[0],G:=gl0}
def cz:List D→Option Out:=bW kt Tryd.f69
@[reducible] def gJ:FS:={pm:=[.box 3 2 true],rm:=[Y],f:=cz}
theorem kE:aF gl0 Tryd.prog 69 gJ:=aS (c:=kt) (af bN (af mz aH)) Tryd.func69 rfl rfl (by kernel_rfl)
@[reducible] def iU:Cx:={K:=[.box 3 2 true,.no,Y,Y,Y,Yr 0,Y,Y,Y,Yr 0,Yb,Y,Y,Y,Yr 0,Y,Y,Y,Y,Y,Y,Y,Y,Y,Y,Y,Yr 0,Y,Y,Yr 0,Y],T:=[(3,ty3),(9,ty9),(40,iu)],S:=[(56,bJ),(69,gJ),(81,jl)],H:=[(1,([0,3,4],[0,3]))],res:=[.tmp 2],ios:=[0],G:=gl0}
def bR:List D→Option Out:=bW iU Tryd.f70
@[reducible] def ja:FS:={pm:=[.box 3 2 true],rm:=[Y],f:=bR}
theorem nh:aF gl0 Tryd.prog 70 ja:=aS (c:=iU) (af bN (af kE (af mz aH))) Tryd.func70 rfl rfl (by kernel_rfl)
@[reducible] def ig:Cx:={K:=[.box 3 2 true,.no,.box 4 0 false,.box 4 0 false,Yr 0,Yb,Y,Yr 0,Y,Y,Y,Yr 3,Y,Y,Y,Yr 0,Y,Yr 3,Y,Y,Yr 0,Yb,Y,Yr 3,Yr 0,Y,Y,Y,Yr 0,Yb,Y,Yr 3,Y,Y,Yr 0,Yb,Y,Yr 3,Y,Y,Yr 0,Yb,Y,Yr 3,Y,Y,Yr 0,Y,Yr 3,Y],T:=[(3,ty3),(9,ty9),(30,wT),(91,Ja)],S:=[(37,ep),(56,bJ),(69,gJ),(70,ja)],H:=[],res:=[.cell 2 91],ios:=[0],G:=gl0}
def cg:List D→Option Out:=bW ig Tryd.f58
@[reducible] def mM:FS:={pm:=[.box 3 2 true],rm:=[Y],f:=cg}
theorem mK:aF gl0 Tryd.prog 58 mM:=aS (c:=ig) (af es (af bN (af kE (af nh aH)))) Tryd.func58 rfl rfl (by kernel_rfl)
open Go Go.V
set_option maxRecDepth 100000
theorem kp (x0:D):cr [x0]=((aa x0 (.ref 0 0)).bind fun z=>(aa z z).bind fun z=>(cQ 1 z).bind fun z=>(((atD x0 z).bind (ak false 1)).bind aV).bind fun z=>(aa x0 (.ref 0 0)).bind fun w=>(aa w w).bind fun zc=>(cQ 0 zc).bind fun zd=>((atD x0 zd).bind (ak false 1)).bind fun ze=>(lenD false ze).bind fun zf=>(bin .lss false [] z zf).bind fun z=>ifD z ((aa x0 (.ref 0 0)).bind fun z=>(aa z z).bind fun z=>(cQ 0 z).bind fun z=>((atD x0 z).bind (ak false 1)).bind fun z=>(aa x0 (.ref 0 0)).bind fun e=>(aa e e).bind fun g=>(cQ 1 g).bind fun h=>(((atD x0 h).bind (ak false 1)).bind aV).bind fun j=>(JT D.ptr (bm 1 z j)).bind fun z=>((ldD false 1 z).bind aV).bind fun z=>(kz (some .i64) false z).bind fun z=>(aa x0 (.ref 0 0)).bind fun c=>(aa c c).bind fun k=>(cQ 1 k).bind fun l=>(((atD x0 l).bind (ak false 1)).bind aV).bind fun m=>(bin .add false [] m (I 1)).bind fun n=>(aa c c).bind fun p=>(cQ 1 p).bind fun q=>(stD 1 x0 q n).bind fun b=>(aa b (.ref 0 0)).bind fun f=>(aa b (.ref 0 0)).bind fun d=>(aa d d).bind fun r=>(cQ 2 r).bind fun t=>(((atD b t).bind (ak false 1)).bind aV).bind fun u=>(bin .mul false [] u (.v (Kk JP 6364136223846793005))).bind fun v=>(kz (some .u64) false z).bind fun zg=>(bin .add false [] v zg).bind fun zh=>(bin .add false [] zh (.v (Kk JP 1442695040888963407))).bind fun zi=>(aa f f).bind fun zj=>(cQ 2 zj).bind fun zk=>(stD 1 b zk zi).bind fun b=>(aa b (.ref 0 0)).bind fun za=>(aa za za).bind fun zl=>(cQ 1 zl).bind fun zm=>(((atD b zm).bind (ak false 1)).bind aV).bind fun zn=>(aa b (.ref 0 0)).bind fun zb=>(aa zb zb).bind fun zo=>(cQ 0 zo).bind fun zp=>((atD b zp).bind (ak false 1)).bind fun zq=>(lenD false zq).bind fun zr=>(bin .leq false [] zn zr).bind fun zs=>ifD zs ((aa b b).bind fun _=>some (.ret [z] [b])) ((aa b (.ref 0 0)).bind fun z=>(aa z z).bind fun z=>(cQ 2 z).bind fun z=>(((atD b z).bind (ak false 1)).bind aV).bind fun z=>(bin .shr false [] z (.v (Kk JP 40))).bind fun z=>(bin .and false [] z (.v (Kk JP 255))).bind fun z=>(kz (some .i64) false z).bind fun z=>(aa b b).bind fun _=>some (.ret [z] [b]))) ((aa x0 (.ref 0 0)).bind fun z=>(aa z z).bind fun e=>(cQ 1 e).bind fun g=>(((atD x0 g).bind (ak false 1)).bind aV).bind fun h=>(bin .add false [] h (I 1)).bind fun j=>(aa z z).bind fun z=>(cQ 1 z).bind fun z=>(stD 1 x0 z j).bind fun b=>(aa b (.ref 0 0)).bind fun z=>(aa b (.ref 0 0)).bind fun c=>(aa c c).bind fun k=>(cQ 2 k).bind fun l=>(((atD b l).bind (ak false 1)).bind aV).bind fun m=>(bin .mul false [] m (.v (Kk JP 6364136223846793005))).bind fun n=>(kz (some .u64) false (I 0)).bind fun p=>(bin .add false [] n p).bind fun q=>(bin .add false [] q (.v (Kk JP 1442695040888963407))).bind fun f=>(aa z z).bind fun z=>(cQ 2 z).bind fun z=>(stD 1 b z f).bind fun b=>(aa b (.ref 0 0)).bind fun z=>(aa z z).bind fun z=>(cQ 1 z).bind fun z=>(((atD b z).bind (ak false 1)).bind aV).bind fun z=>(aa b (.ref 0 0)).bind fun d=>(aa d d).bind fun r=>(cQ 0 r).bind fun t=>((atD b t).bind (ak false 1)).bind fun u=>(lenD false u).bind fun v=>(bin .leq false [] z v).bind fun z=>ifD z ((aa b b).bind fun _=>some (.ret [I 0] [b])) ((aa b (.ref 0 0)).bind fun z=>(aa z z).bind fun z=>(cQ 2 z).bind fun z=>(((atD b z).bind (ak false 1)).bind aV).bind fun z=>(bin .shr false [] z (.v (Kk JP 40))).bind fun z=>(bin .and false [] z (.v (Kk JP 255))).bind fun z=>(kz (some .i64) false z).bind fun z=>(aa b b).bind fun _=>some (.ret [z] [b])))):=by kernel_rfl
theorem rR (x0 x1:D):aC [x0,x1]=((bin .leq false [] x1 (I 1)).bind fun z=>ifD z ((aa x0 x0).bind fun _=>some (.ret [I 0] [x0])) ((aa x0 (.ref 0 0)).bind fun z=>(cY z x0).bind fun i=>(aa i i).bind fun i=>ao (cr [i]) fun d c=>(bin .gtr false [] x1 (I 200)).bind fun z=>ifD z ((bin .mul false [] (sl d 0) (I 256)).bind fun z=>(aa (sl c 0) (.ref 0 0)).bind fun e=>(cY e (sl c 0)).bind fun i=>(aa i i).bind fun i=>ao (cr [i]) fun d c=>(bin .add false [] z (sl d 0)).bind fun z=>(bin .rem false [] z x1).bind fun z=>(aa (sl c 0) (sl c 0)).bind fun _=>some (.ret [z] [sl c 0])) ((bin .rem false [] (sl d 0) x1).bind fun z=>(aa (sl c 0) (sl c 0)).bind fun _=>some (.ret [z] [sl c 0])))):=by kernel_rfl
theorem sS (x0 x1:D):co [x0,x1]=((aa x0 (.ref 0 0)).bind fun z=>(cY z x0).bind fun i=>(aa i i).bind fun i=>ao (aC [i,x1]) fun d c=>(bin .eql false [] (sl d 0) (I 0)).bind fun z=>(aa (sl c 0) (sl c 0)).bind fun _=>some (.ret [z] [sl c 0])):=by kernel_rfl
theorem qK (x0:D):cS [x0]=((bj 1 [.v (.string ⟨⟨[97]⟩⟩),.v (.string ⟨⟨[97,98]⟩⟩),.v (.string ⟨⟨[97,98,99]⟩⟩),.v (.string ⟨⟨[98]⟩⟩),.v (.string ⟨⟨[98,98]⟩⟩),.v (.string ⟨⟨[99]⟩⟩),.v (.string ⟨⟨[100]⟩⟩),.v (.string ⟨⟨[101]⟩⟩),.v (.string ⟨⟨[102]⟩⟩),.v (.string ⟨⟨[102,102]⟩⟩),.v (.string ⟨⟨[102,105]⟩⟩),.v (.string ⟨⟨[105]⟩⟩)]).bind fun a=>(lenD false a).bind fun z=>(bq (fun s=>(bin .lss false [] (sl s 4) (sl s 3)).bind fun z=>ifD z ((JT D.ptr (bm 1 (sl s 2) (sl s 4))).bind fun z=>((ldD false 1 z).bind aV).bind fun z=>(lenD true z).bind fun j=>(bin .eql false [] j (I 1)).bind fun g=>(ae D.bad g true (aa (sl s 0) (.ref 0 0))).bind fun k=>dF g true ((cY k (sl s 0)).bind fun i=>(aa i i).bind fun i=>ao (co [i,I 12]) fun e f=>some (.nrm [sl e 0,sl f 0])) [.tup [],sl s 0] fun c=>(ae (.tup []) g true (un .not (sl c 0))).bind fun l=>(aR g l (B false)).bind fun d=>(ae (.tup []) d false (some z)).bind fun m=>(ae (.tup []) d false (lenD true m)).bind fun n=>(ae (.tup []) d false (bin .gtr false [] n (I 1))).bind fun p=>(ae (.tup []) d false (some p)).bind fun h=>(ae D.bad h true (aa (sl c 1) (.ref 0 0))).bind fun q=>dF h true ((cY q (sl c 1)).bind fun i=>(aa i i).bind fun i=>ao (co [i,I 3]) fun e f=>some (.nrm [sl e 0,sl f 0])) [.tup [],sl c 1] fun c=>(ae (.tup []) d false (aR h (sl c 0) (B false))).bind fun r=>(aR d (B true) r).bind fun t=>ifD t ((lenD true z).bind fun u=>(aa (sl c 1) (.ref 0 0)).bind fun v=>(cY v (sl c 1)).bind fun i=>(aa i i).bind fun i=>ao (aC [i,I 4]) fun e f=>(bin .add false [] (I 2) (sl e 0)).bind fun w=>(bin .mul false [] u w).bind fun za=>(bin .add false [] (I 4) za).bind fun zb=>(kV [(0,1),(1,1)] [.v (.string ⟨⟨[]⟩⟩),I 0] [z,zb]).bind fun z=>(bj 2 [z]).bind fun a=>(jU a).bind fun b=>(iq 2 24 (sl s 1) b).bind fun y=>(bin .add false [] (sl s 4) (I 1)).bind fun z=>some (.nrm [sl f 0,y,sl s 2,sl s 3,z])) ((bin .add false [] (sl s 4) (I 1)).bind fun z=>some (.nrm [sl c 1,sl s 1,sl s 2,sl s 3,z]))) (some (.ext 0 [sl s 0,sl s 1]))) [x0,.arr 2 [],a,z,I 0]).bind fun o=>dw o (fun i s=>ifN (i.beq 0) ((aa (sl s 1) (.ref 0 0)).bind fun z=>((aa z (sl s 1)).bind (lenD false)).bind fun z=>(bin .eql false [] z (I 0)).bind fun z=>ifD z ((kV [(0,1),(1,1)] [.v (.string ⟨⟨[]⟩⟩),I 0] [.v (.string ⟨⟨[97]⟩⟩),I 9]).bind fun z=>(bj 2 [z]).bind fun a=>(aa (sl s 0) (sl s 0)).bind fun _=>some (.ret [a] [sl s 0])) ((aa (sl s 0) (sl s 0)).bind fun _=>some (.ret [sl s 1] [sl s 0]))) none) fun a b=>some (.ret a b)):=by kernel_rfl
theorem qp (x0 x1:D):au [x0,x1]=((aa x0 (.ref 0 0)).bind fun z=>(lenD false x1).bind fun d=>(cY z x0).bind fun i=>(aa i i).bind fun i=>ao (aC [i,d]) fun e c=>(JT D.ptr (bm 1 x1 (sl e 0))).bind fun z=>((ldD false 1 z).bind aV).bind fun z=>(aa (sl c 0) (sl c 0)).bind fun _=>some (.ret [z] [sl c 0])):=by kernel_rfl
theorem qu (x0 x1:D):cH [x0,x1]=((aa x0 (.ref 0 0)).bind fun z=>(cY z x0).bind fun i=>(aa i i).bind fun i=>ao (aC [i,I 20]) fun d c=>(lenD false x1).bind fun z=>(bq (fun s=>(bin .lss false [] (sl s 5) (sl s 4)).bind fun z=>ifD z ((JT D.ptr (bm 2 (sl s 3) (sl s 5))).bind fun z=>((ldD true 2 z).bind aV).bind fun z=>(stD 2 (.agg [.v (.string ⟨⟨[]⟩⟩),I 0]) (.ref 0 0) z).bind fun b=>(aa b (.ref 0 0)).bind fun z=>((atD b z).bind (ak false 1)).bind fun z=>(bin .quo false [] (sl s 2) (I 10)).bind fun e=>(bin .rem false [] e (I 10)).bind fun f=>(bin .rem false [] (sl s 2) (I 10)).bind fun g=>(aa (sl s 0) (.ref 0 0)).bind fun h=>(bj 1 [I 0,I 1,I 2,I 5,I 20]).bind fun a=>(cY h (sl s 0)).bind fun i=>(aa i i).bind fun i=>ao (au [i,a]) fun d c=>(kV [(0,1),(1,1),(2,1),(3,1)] [.v (.string ⟨⟨[]⟩⟩),I 0,I 0,I 0] [z,f,g,sl d 0]).bind fun z=>(bj 4 [z]).bind fun a=>(jU a).bind fun b=>(iq 4 40 (sl s 1) b).bind fun y=>(aa (sl c 0) (.ref 0 0)).bind fun z=>(cY z (sl c 0)).bind fun i=>(aa i i).bind fun i=>ao (aC [i,I 2]) fun d c=>(bin .add false [] (I 1) (sl d 0)).bind fun z=>(bin .add false [] (sl s 2) z).bind fun z=>(bin .add false [] (sl s 5) (I 1)).bind fun j=>some (.nrm [sl c 0,y,z,sl s 3,sl s 4,j])) (some (.ext 0 [sl s 0,sl s 1]))) [sl c 0,.arr 4 [],sl d 0,x1,z,I 0]).bind fun o=>dw o (fun i s=>ifN (i.beq 0) ((aa (sl s 0) (sl s 0)).bind fun _=>some (.ret [sl s 1] [sl s 0])) none) fun a b=>some (.ret a b)):=by kernel_rfl
theorem tH (x0 x1:D):eH [x0,x1]=((aa x0 (.ref 0 0)).bind fun z=>(lenD false x1).bind fun d=>(cY z x0).bind fun i=>(aa i i).bind fun i=>ao (aC [i,d]) fun e c=>(JT D.ptr (bm 1 x1 (sl e 0))).bind fun z=>((ldD false 1 z).bind aV).bind fun z=>(aa (sl c 0) (sl c 0)).bind fun _=>some (.ret [z] [sl c 0])):=by kernel_rfl
theorem qO (x0:D):cz [x0]=((aa x0 (.ref 0 0)).bind fun z=>(cY z x0).bind fun i=>(aa i i).bind fun i=>ao (aC [i,I 6]) fun c d=>(bin .add false [] (I 1) (sl c 0)).bind fun z=>(bq (fun s=>(lenD true (sl s 1)).bind fun z=>(bin .lss false [] z (sl s 2)).bind fun z=>ifD z ((aa (sl s 0) (.ref 0 0)).bind fun z=>(bj 1 [.v (.string ⟨⟨[97]⟩⟩),.v (.string ⟨⟨[98]⟩⟩),.v (.string ⟨⟨[99]⟩⟩),.v (.string ⟨⟨[97,98]⟩⟩),.v (.string ⟨⟨[98,98]⟩⟩),.v (.string ⟨⟨[97,98,99]⟩⟩),.v (.string ⟨⟨[100]⟩⟩),.v (.string ⟨⟨[101]⟩⟩),.v (.string ⟨⟨[102]⟩⟩),.v (.string ⟨⟨[102,105]⟩⟩)]).bind fun a=>(cY z (sl s 0)).bind fun i=>(aa i i).bind fun i=>ao (eH [i,a]) fun c d=>(bin .add false [] (sl s 1) (sl c 0)).bind fun z=>some (.nrm [sl d 0,z,sl s 2])) (some (.ext 0 [sl s 0,sl s 1]))) [sl d 0,.v (.string ⟨⟨[]⟩⟩),z]).bind fun o=>dw o (fun i s=>ifN (i.beq 0) ((aa (sl s 0) (sl s 0)).bind fun _=>some (.ret [sl s 1] [sl s 0])) none) fun a b=>some (.ret a b)):=by kernel_rfl
theorem nQ (x0:D):bR [x0]=((aa x0 (.ref 0 0)).bind fun z=>(cY z x0).bind fun i=>(aa i i).bind fun i=>ao (aC [i,I 30]) fun d c=>(bin .eql false [] (sl d 0) (I 0)).bind fun z=>ifD z ((aa (sl c 0) (.ref 0 0)).bind fun z=>(bj 1 [.v (.string ⟨⟨[]⟩⟩),.v (.string ⟨⟨[65]⟩⟩),.v (.string ⟨⟨[97,32,98]⟩⟩),.v (.string ⟨⟨[97,45,98]⟩⟩)]).bind fun a=>(cY z (sl c 0)).bind fun i=>(aa i i).bind fun i=>ao (eH [i,a]) fun d c=>(aa (sl c 0) (sl c 0)).bind fun _=>some (.ret [sl d 0] [sl c 0])) ((bin .eql false [] (sl d 0) (I 1)).bind fun z=>ifD z ((aa (sl c 0) (.ref 0 0)).bind fun z=>(cY z (sl c 0)).bind fun i=>(aa i i).bind fun i=>ao (aC [i,I 2]) fun d c=>(bin .add false [] (I 16) (sl d 0)).bind fun z=>(bq (fun s=>(lenD true (sl s 1)).bind fun z=>(bin .lss false [] z (sl s 2)).bind fun z=>ifD z ((bin .add false [] (sl s 1) (.v (.string ⟨⟨[97]⟩⟩))).bind fun z=>some (.nrm [sl s 0,z,sl s 2])) (some (.ext 1 [sl s 0,sl s 1]))) [sl c 0,.v (.string ⟨⟨[]⟩⟩),z]).bind fun o=>dw o (fun i s=>ifN (i.beq 1) ((aa (sl s 0) (sl s 0)).bind fun _=>some (.ret [sl s 1] [sl s 0])) (ifN (i.beq 0) ((aa (sl s 0) (.ref 0 0)).bind fun z=>(cY z (sl s 0)).bind fun i=>(aa i i).bind fun i=>ao (cz [i]) fun d c=>(aa (sl c 0) (sl c 0)).bind fun _=>some (.ret [sl d 0] [sl c 0])) none)) fun a b=>some (.ret a b)) ((bin .eql false [] (sl d 0) (I 2)).bind fun z=>ifD z ((aa (sl c 0) (.ref 0 0)).bind fun z=>(cY z (sl c 0)).bind fun i=>(aa i i).bind fun i=>ao (cz [i]) fun d c=>(bin .add false [] (sl d 0) (.v (.string ⟨⟨[122]⟩⟩))).bind fun z=>(aa (sl c 0) (sl c 0)).bind fun _=>some (.ret [z] [sl c 0])) ((aa (sl c 0) (.ref 0 0)).bind fun z=>(cY z (sl c 0)).bind fun i=>(aa i i).bind fun i=>ao (cz [i]) fun d c=>(aa (sl c 0) (sl c 0)).bind fun _=>some (.ret [sl d 0] [sl c 0]))))):=by kernel_rfl
theorem mJ (x0:D):cg [x0]=((aa x0 (.ref 0 0)).bind fun z=>(bj 1 [I 1,I 1,I 1,I 2,I 2,I 3,I 3,I 4,I 5,I 6]).bind fun a=>(cY z x0).bind fun i=>(aa i i).bind fun i=>ao (au [i,a]) fun d c=>(aa (sl c 0) (.ref 0 0)).bind fun z=>(cY z (sl c 0)).bind fun i=>(aa i i).bind fun i=>ao (aC [i,I 3]) fun e c=>(bin .add false [] (I 1) (sl e 0)).bind fun z=>(kV [(0,1),(1,1)] [I 0,I 0,.v (.string ⟨⟨[]⟩⟩),I 0] [sl d 0,z]).bind fun z=>(stD 4 (.agg [I 0,I 0,.v (.string ⟨⟨[]⟩⟩),I 0]) (.ref 0 0) z).bind fun b=>(aa b (.ref 0 0)).bind fun z=>((atD b z).bind (ak false 1)).bind fun z=>(bin .eql false [] z (I 1)).bind fun f=>ifD f ((aa (sl c 0) (.ref 0 0)).bind fun z=>(cY z (sl c 0)).bind fun i=>(aa i i).bind fun i=>ao (cz [i]) fun d c=>(aa b (.ref 0 2)).bind fun z=>(stD 1 b z (sl d 0)).bind fun b=>(aa (sl c 0) (.ref 0 0)).bind fun z=>(cY z (sl c 0)).bind fun i=>(aa i i).bind fun i=>ao (aC [i,I 40]) fun d c=>(bin .eql false [] (sl d 0) (I 0)).bind fun z=>ifD z ((aa (sl c 0) (.ref 0 0)).bind fun z=>(bj 1 [I 0,I 7]).bind fun a=>(cY z (sl c 0)).bind fun i=>(aa i i).bind fun i=>ao (au [i,a]) fun d c=>(aa b (.ref 0 0)).bind fun z=>(stD 1 b z (sl d 0)).bind fun b=>(bF true 4 0 b).bind fun z=>(stD 4 (.agg [I 0,I 0,.v (.string ⟨⟨[]⟩⟩),I 0]) (.ref 0 0) z).bind fun b=>(bF true 4 0 b).bind fun y=>(aa (sl c 0) (sl c 0)).bind fun _=>some (.ret [y] [sl c 0])) ((bin .eql false [] (sl d 0) (I 1)).bind fun z=>ifD z ((aa (sl c 0) (.ref 0 0)).bind fun z=>(bj 1 [I 0,I 99,I 100]).bind fun a=>(cY z (sl c 0)).bind fun i=>(aa i i).bind fun i=>ao (au [i,a]) fun d c=>(aa b (.ref 0 1)).bind fun z=>(stD 1 b z (sl d 0)).bind fun b=>(bF true 4 0 b).bind fun z=>(stD 4 (.agg [I 0,I 0,.v (.string ⟨⟨[]⟩⟩),I 0]) (.ref 0 0) z).bind fun b=>(bF true 4 0 b).bind fun y=>(aa (sl c 0) (sl c 0)).bind fun _=>some (.ret [y] [sl c 0])) ((bin .eql false [] (sl d 0) (I 2)).bind fun z=>ifD z ((aa (sl c 0) (.ref 0 0)).bind fun z=>(bj 1 [I 0,I 1,I 1001]).bind fun a=>(cY z (sl c 0)).bind fun i=>(aa i i).bind fun i=>ao (au [i,a]) fun d c=>(aa b (.ref 0 3)).bind fun z=>(stD 1 b z (sl d 0)).bind fun b=>(bF true 4 0 b).bind fun z=>(stD 4 (.agg [I 0,I 0,.v (.string ⟨⟨[]⟩⟩),I 0]) (.ref 0 0) z).bind fun b=>(bF true 4 0 b).bind fun y=>(aa (sl c 0) (sl c 0)).bind fun _=>some (.ret [y] [sl c 0])) ((bin .eql false [] (sl d 0) (I 3)).bind fun z=>ifD z ((aa (sl c 0) (.ref 0 0)).bind fun z=>(cY z (sl c 0)).bind fun i=>(aa i i).bind fun i=>ao (bR [i]) fun d c=>(aa b (.ref 0 2)).bind fun z=>(stD 1 b z (sl d 0)).bind fun b=>(bF true 4 0 b).bind fun z=>(stD 4 (.agg [I 0,I 0,.v (.string ⟨⟨[]⟩⟩),I 0]) (.ref 0 0) z).bind fun b=>(bF true 4 0 b).bind fun y=>(aa (sl c 0) (sl c 0)).bind fun _=>some (.ret [y] [sl c 0])) ((bF true 4 0 b).bind fun z=>(stD 4 (.agg [I 0,I 0,.v (.string ⟨⟨[]⟩⟩),I 0]) (.ref 0 0) z).bind fun b=>(bF true 4 0 b).bind fun y=>(aa (sl c 0) (sl c 0)).bind fun _=>some (.ret [y] [sl c 0])))))) ((bin .eql false [] z (I 3)).bind fun z=>ifD z ((aa (sl c 0) (.ref 0 0)).bind fun z=>(bj 1 [I 1,I 5,I 100,I 1000]).bind fun a=>(cY z (sl c 0)).bind fun i=>(aa i i).bind fun i=>ao (au [i,a]) fun d c=>(aa b (.ref 0 3)).bind fun z=>(stD 1 b z (sl d 0)).bind fun b=>(aa (sl c 0) (.ref 0 0)).bind fun z=>(cY z (sl c 0)).bind fun i=>(aa i i).bind fun i=>ao (aC [i,I 40]) fun d c=>(bin .eql false [] (sl d 0) (I 0)).bind fun z=>ifD z ((aa (sl c 0) (.ref 0 0)).bind fun z=>(bj 1 [I 0,I 7]).bind fun a=>(cY z (sl c 0)).bind fun i=>(aa i i).bind fun i=>ao (au [i,a]) fun d c=>(aa b (.ref 0 0)).bind fun z=>(stD 1 b z (sl d 0)).bind fun b=>(bF true 4 0 b).bind fun z=>(stD 4 (.agg [I 0,I 0,.v (.string ⟨⟨[]⟩⟩),I 0]) (.ref 0 0) z).bind fun b=>(bF true 4 0 b).bind fun y=>(aa (sl c 0) (sl c 0)).bind fun _=>some (.ret [y] [sl c 0])) ((bin .eql false [] (sl d 0) (I 1)).bind fun z=>ifD z ((aa (sl c 0) (.ref 0 0)).bind fun z=>(bj 1 [I 0,I 99,I 100]).bind fun a=>(cY z (sl c 0)).bind fun i=>(aa i i).bind fun i=>ao (au [i,a]) fun d c=>(aa b (.ref 0 1)).bind fun z=>(stD 1 b z (sl d 0)).bind fun b=>(bF true 4 0 b).bind fun z=>(stD 4 (.agg [I 0,I 0,.v (.string ⟨⟨[]⟩⟩),I 0]) (.ref 0 0) z).bind fun b=>(bF true 4 0 b).bind fun y=>(aa (sl c 0) (sl c 0)).bind fun _=>some (.ret [y] [sl c 0])) ((bin .eql false [] (sl d 0) (I 2)).bind fun z=>ifD z ((aa (sl c 0) (.ref 0 0)).bind fun z=>(bj 1 [I 0,I 1,I 1001]).bind fun a=>(cY z (sl c 0)).bind fun i=>(aa i i).bind fun i=>ao (au [i,a]) fun d c=>(aa b (.ref 0 3)).bind fun z=>(stD 1 b z (sl d 0)).bind fun b=>(bF true 4 0 b).bind fun z=>(stD 4 (.agg [I 0,I 0,.v (.string ⟨⟨[]⟩⟩),I 0]) (.ref 0 0) z).bind fun b=>(bF true 4 0 b).bind fun y=>(aa (sl c 0) (sl c 0)).bind fun _=>some (.ret [y] [sl c 0])) ((bin .eql false [] (sl d 0) (I 3)).bind fun z=>ifD z ((aa (sl c 0) (.ref 0 0)).bind fun z=>(cY z (sl c 0)).bind fun i=>(aa i i).bind fun i=>ao (bR [i]) fun d c=>(aa b (.ref 0 2)).bind fun z=>(stD 1 b z (sl d 0)).bind fun b=>(bF true 4 0 b).bind fun z=>(stD 4 (.agg [I 0,I 0,.v (.string ⟨⟨[]⟩⟩),I 0]) (.ref 0 0) z).bind fun b=>(bF true 4 0 b).bind fun y=>(aa (sl c 0) (sl c 0)).bind fun _=>some (.ret [y] [sl c 0])) ((bF true 4 0 b).bind fun z=>(stD 4 (.agg [I 0,I 0,.v (.string ⟨⟨[]⟩⟩),I 0]) (.ref 0 0) z).bind fun b=>(bF true 4 0 b).bind fun y=>(aa (sl c 0) (sl c 0)).bind fun _=>some (.ret [y] [sl c 0])))))) ((aa (sl c 0) (.ref 0 0)).bind fun z=>(cY z (sl c 0)).bind fun i=>(aa i i).bind fun i=>ao (aC [i,I 40]) fun d c=>(bin .eql false [] (sl d 0) (I 0)).bind fun z=>ifD z ((aa (sl c 0) (.ref 0 0)).bind fun z=>(bj 1 [I 0,I 7]).bind fun a=>(cY z (sl c 0)).bind fun i=>(aa i i).bind fun i=>ao (au [i,a]) fun d c=>(aa b (.ref 0 0)).bind fun z=>(stD 1 b z (sl d 0)).bind fun b=>(bF true 4 0 b).bind fun z=>(stD 4 (.agg [I 0,I 0,.v (.string ⟨⟨[]⟩⟩),I 0]) (.ref 0 0) z).bind fun b=>(bF true 4 0 b).bind fun y=>(aa (sl c 0) (sl c 0)).bind fun _=>some (.ret [y] [sl c 0])) ((bin .eql false [] (sl d 0) (I 1)).bind fun z=>ifD z ((aa (sl c 0) (.ref 0 0)).bind fun z=>(bj 1 [I 0,I 99,I 100]).bind fun a=>(cY z (sl c 0)).bind fun i=>(aa i i).bind fun i=>ao (au [i,a]) fun d c=>(aa b (.ref 0 1)).bind fun z=>(stD 1 b z (sl d 0)).bind fun b=>(bF true 4 0 b).bind fun z=>(stD 4 (.agg [I 0,I 0,.v (.string ⟨⟨[]⟩⟩),I 0]) (.ref 0 0) z).bind fun b=>(bF true 4 0 b).bind fun y=>(aa (sl c 0) (sl c 0)).bind fun _=>some (.ret [y] [sl c 0])) ((bin .eql false [] (sl d 0) (I 2)).bind fun z=>ifD z ((aa (sl c 0) (.ref 0 0)).bind fun z=>(bj 1 [I 0,I 1,I 1001]).bind fun a=>(cY z (sl c 0)).bind fun i=>(aa i i).bind fun i=>ao (au [i,a]) fun d c=>(aa b (.ref 0 3)).bind fun z=>(stD 1 b z (sl d 0)).bind fun b=>(bF true 4 0 b).bind fun z=>(stD 4 (.agg [I 0,I 0,.v (.string ⟨⟨[]⟩⟩),I 0]) (.ref 0 0) z).bind fun b=>(bF true 4 0 b).bind fun y=>(aa (sl c 0) (sl c 0)).bind fun _=>some (.ret [y] [sl c 0])) ((bin .eql false [] (sl d 0) (I 3)).bind fun z=>ifD z ((aa (sl c 0) (.ref 0 0)).bind fun z=>(cY z (sl c 0)).bind fun i=>(aa i i).bind fun i=>ao (bR [i]) fun d c=>(aa b (.ref 0 2)).bind fun z=>(stD 1 b z (sl d 0)).bind fun b=>(bF true 4 0 b).bind fun z=>(stD 4 (.agg [I 0,I 0,.v (.string ⟨⟨[]⟩⟩),I 0]) (.ref 0 0) z).bind fun b=>(bF true 4 0 b).bind fun y=>(aa (sl c 0) (sl c 0)).bind fun _=>some (.ret [y] [sl c 0])) ((bF true 4 0 b).bind fun z=>(stD 4 (.agg [I 0,I 0,.v (.string ⟨⟨[]⟩⟩),I 0]) (.ref 0 0) z).bind fun b=>(bF true 4 0 b).bind fun y=>(aa (sl c 0) (sl c 0)).bind fun _=>some (.ret [y] [sl c 0])))))))):=by kernel_rfl
set_option maxRecDepth 100000
theorem bu {s:Sp} (h:aE s=true):(∀(j:Nat) (hj:j<s.2.1.length),eF s.1 s.2.1[j]=true)∧bp s.1=true∧s.2.1.length≤5∧(0≤s.2.2.1∧s.2.2.1≤9999):=by
 simp only [aE,JK,decide_eq_true_eq] at h;obtain⟨⟨⟨⟨h1,h2⟩,h3⟩,h4⟩,_⟩:=h;have key:∀(l:List Fm) (i:Nat),cW (pS s) i l=true→∀x∈l,eF s.1 x=true:=by
  intro l;induction l with
  | nil=>intro i _ x hx;simp at hx
  | cons y l ih =>
   intro i hp x hx;simp only [cW,JK,pS] at hp;rcases Kc.1 hx with rfl | hx
   ·exact hp.1.1
   ·exact ih (i+1) (by simpa [pS] using hp.2) x hx
 exact⟨fun j hj=>key _ 0 h1 _ (JO hj),h2,by omega,h4⟩
theorem mo {l:List Bx} (h:bp l=true):l.length≤32∧∀x∈l,0≤x.2.2.2∧x.2.2.2≤9999:=by
 simp only [bp,JK,decide_eq_true_eq] at h;refine⟨by omega,?_⟩
 have key:∀(m:List Bx) (i:Nat),cW (pBx l) i m=true→∀x∈m,0≤x.2.2.2∧x.2.2.2≤9999:=by
  intro m;induction m with
  | nil=>intro i _ x hx;simp at hx
  | cons y m ih =>
   intro i hp x hx;simp only [cW,JK] at hp;rcases Kc.1 hx with rfl | hx
   ·have:=hp.1
    simp only [pBx,oM,JK,decide_eq_true_eq] at this;exact this.1.1.2
   ·exact ih (i+1) hp.2 x hx
 exact key l 0 h.1
def dz (l:List Bx):Int:=(l.map fun x=>x.2.2.2).sum
def nW (l:List Fm):Int:=(l.map fun x=>(x.2.1.length:Int)).sum
def mg (s:Sp):Int:=if aE s then dz s.1+s.2.2.1+nW s.2.1 else 0
theorem ed {l:List Bx} {x:Fm} (h:eF l x=true):x.2.1.length≤40:=by
 simp only [eF,JK,Ki,decide_eq_false_iff_not] at h;omega
set_option maxRecDepth 100000
theorem xt {a b:ByteArray} (h:bd a=bd b):a=b:=by
 cases a with | mk a=>cases b with | mk b =>
  cases a with | mk a=>cases b with | mk b =>
   simp [bd] at h;rw [h]
theorem wR (s:ByteArray) (i j:Nat):bd (s.extract i j)=((bd s).take j).drop i:=by
 simp [bd,List.drop_take]
theorem HK {s:ByteArray} {z i j:Nat} (h1:i≤j) (h2:j≤s.size):hD true z (T s) (I (i:Int)) (I (j:Int))=some (T (s.extract i j)):=by
 simp only [hD,KM];rw [if_pos (by omega)]
def Pre (c:ByteArray) (w:List UInt8):Prop:=w.take (bd c).length=bd c
instance (c:ByteArray) (w:List UInt8):Decidable (Pre c w):=by unfold Pre;infer_instance
theorem Pre.len {c:ByteArray} {w:List UInt8} (h:Pre c w):(bd c).length≤w.length:=by
 have:=congrArg Kt h;rw [Kl] at this;omega
def xT (cs:List ByteArray) (w:List UInt8) (i:Nat):Prop:=∃h:i<cs.length,Pre cs[i] w∧∀(j:Nat) (hj:j<cs.length),Pre cs[j] w→(bd cs[j]).length≤(bd cs[i]).length
def sc (cs:List ByteArray) (w:List UInt8):Prop:=∀(j:Nat) (hj:j<cs.length),¬Pre cs[j] w
structure Codes (cs:List ByteArray):Prop where
 len:∀(j:Nat) (hj:j<cs.length),1≤(bd cs[j]).length∧(bd cs[j]).length≤3
 inj:∀(i j:Nat) (hi:i<cs.length) (hj:j<cs.length),cs[i]=cs[j]→i=j
theorem xT.uniq {cs:List ByteArray} {w:List UInt8} (hc:Codes cs) {i j:Nat} (hi:xT cs w i) (hj:xT cs w j):i=j:=by
 obtain⟨h1,p1,m1⟩:=hi;obtain⟨h2,p2,m2⟩:=hj;have e:(bd cs[i]).length=(bd cs[j]).length:=Nat.le_antisymm (m2 i h1 p1) (m1 j h2 p2);refine hc.inj i j h1 h2 (xt ?_)
 rw [←p1,←p2,e]
def BN (cs:List ByteArray) (w:List UInt8) (b:Int):Prop:=(b = -1∧sc cs w)∨∃k:Nat,b=k∧xT cs w k
theorem BN.best {cs:List ByteArray} {w:List UInt8} (hc:Codes cs) {b:Int} (h:BN cs w b) {i:Nat} (hi:xT cs w i):b=i:=by
 rcases h with ⟨_,h⟩ | ⟨k,rfl,h⟩
 ·exact absurd hi.2.1 (h i hi.1)
 ·rw [h.uniq hc hi]
theorem BN.none {cs:List ByteArray} {w:List UInt8} {b:Int} (h:BN cs w b) (hi:sc cs w):b = -1:=by
 rcases h with ⟨h,_⟩ | ⟨k,rfl,h⟩
 ·exact h
 ·exact absurd h.2.1 (hi k h.1)
inductive Sets (cs:List ByteArray):List UInt8→List Nat→Option (List Nat)→Prop where
 | nil {acc:List Nat}:Sets cs [] acc (some acc)
 | fail {w:List UInt8} {acc:List Nat}:w≠[]→sc cs w→Sets cs w acc none
 | step {w:List UInt8} {acc:List Nat} {i:Nat} {r:Option (List Nat)}:w≠[]→xT cs w i→Sets cs (w.drop (bd (cs.getD i JW)).length) (acc++[i]) r→Sets cs w acc r
theorem Gj {cs:List ByteArray} {w:List UInt8} (h:¬sc cs w):∃i,xT cs w i:=by
 have key:∀n,n≤cs.length→(∀(j:Nat) (hj:j<cs.length),j<n→¬Pre cs[j] w)∨∃(i:Nat) (hi:i<cs.length),i<n∧Pre cs[i] w∧∀(j:Nat) (hj:j<cs.length),j<n→Pre cs[j] w→(bd cs[j]).length≤(bd cs[i]).length:=by
  intro n;induction n with
  | zero=>exact fun _=>.inl fun j _ hj=>absurd hj (by omega)
  | succ n ih =>
   intro hn;by_cases hp:Pre cs[n] w
   ·rcases ih (by omega) with h | ⟨i,hi,h1,h2,h3⟩
    ·refine .inr ⟨n,by omega,by omega,hp,fun j hj hjn hpj=>?_⟩
     rcases Ke j n with h' | h'
     ·exact absurd hpj (h j hj h')
     ·have:j=n:=by omega
      subst this;exact JS _
    ·by_cases hl:(bd cs[n]).length≤(bd cs[i]).length
     ·refine .inr ⟨i,hi,by omega,h2,fun j hj hjn hpj=>?_⟩
      rcases Ke j n with h' | h'
      ·exact h3 j hj h' hpj
      ·have:j=n:=by omega
       subst this;exact hl
     ·refine .inr ⟨n,by omega,by omega,hp,fun j hj hjn hpj=>?_⟩
      rcases Ke j n with h' | h'
      ·exact Nat.le_trans (h3 j hj h' hpj) (by omega)
      ·have:j=n:=by omega
       subst this;exact JS _
   ·rcases ih (by omega) with h | ⟨i,hi,h1,h2,h3⟩
    ·refine .inl fun j hj hjn hpj=>?_
     rcases Ke j n with h' | h'
     ·exact h j hj h' hpj
     ·have:j=n:=by omega
      subst this;exact hp hpj
    ·refine .inr ⟨i,hi,by omega,h2,fun j hj hjn hpj=>?_⟩
     rcases Ke j n with h' | h'
     ·exact h3 j hj h' hpj
     ·have:j=n:=by omega
      subst this;exact absurd hpj hp
 rcases key cs.length (JS _) with h' | ⟨i,hi,_,h2,h3⟩
 ·exact absurd (fun j hj=>h' j hj hj) h
 ·exact⟨i,hi,h2,fun j hj=>h3 j hj hj⟩
theorem rD {cs:List ByteArray} {i:Nat} (h:i<cs.length):cs.getD i JW=cs[i]:=by
 simp [JQ,h]
theorem qj {cs:List ByteArray} (hc:Codes cs):∀(n:Nat) (w:List UInt8) (acc:List Nat),w.length≤n→∃r,Sets cs w acc r
 | 0,w,acc,h=>by
  have:w=[]:=JZ (by omega);subst this;exact⟨_,.nil⟩
 | n+1,w,acc,h=>by
  by_cases hw:w=[]
  ·subst hw
   exact⟨_,.nil⟩
  ·by_cases hN:sc cs w
   ·exact⟨_,.fail hw hN⟩
   ·obtain⟨i,hi⟩:=Gj hN
    have h1:=hc.len i hi.1;obtain⟨r,hr⟩:=qj hc n (w.drop (bd (cs.getD i JW)).length) (acc++[i]) (by
     rw [rD hi.1,Kf];have:0<w.length:=Ko.2 hw;omega)
    exact⟨r,.step hw hi hr⟩
theorem Ca {cs:List ByteArray} (hc:Codes cs) {w:List UInt8} {acc:List Nat} {r:Option (List Nat)} (h:Sets cs w acc r):(∀i∈acc,i<cs.length)→∀l,r=some l→(∀i∈l,i<cs.length)∧l.length≤acc.length+w.length:=by
 induction h with
 | nil =>
  intro h l e;cases e;exact⟨h,by simp⟩
 | fail=>intro _ l e;cases e
 | step hw hb _ ih =>
  rename_i w acc i r _;intro h l e;obtain⟨h1,h2⟩:=ih (fun j hj=>by
   rcases KF.1 hj with hj | hj
   ·exact h j hj
   ·simp at hj
    subst hj;exact hb.1) l e
  refine⟨h1,?_⟩
  rw [Kg,JN,Kf,rD hb.1] at h2;have:=hc.len i hb.1;have:=hb.2.1.len;omega
theorem CT {cs:List ByteArray} (hc:Codes cs) {body:List D→Option Out} (w:List UInt8) (st:Nat→List Nat→List D) (fin:Option (List Nat)→Out) (hfin:∀r,(fin r).ends=true)
  (h0:∀acc,acc.length≤w.length→body (st w.length acc)=some (fin (some acc))) (hf:∀at_ acc,at_<w.length→acc.length≤at_→sc cs (w.drop at_)→body (st at_ acc)=some (fin none))
  (hs:∀at_ acc i (hb:xT cs (w.drop at_) i),at_<w.length→acc.length≤at_→at_+(bd (cs[i]'hb.1)).length≤w.length→body (st at_ acc)=some (.nrm (st (at_+(bd (cs[i]'hb.1)).length) (acc++[i])))) {rest:List UInt8} {acc:List Nat} {r:Option (List Nat)} (h:Sets cs rest acc r) :
  ∀at_,at_≤w.length→acc.length≤at_→rest=w.drop at_→Runs body (st at_ acc) (fin r):=by
 induction h with
 | nil =>
  intro at_ h1 h2 h3;have:=congrArg Kt h3;rw [Kf,Kv] at this;have:at_=w.length:=by omega
  subst this;exact Runs.one (h0 _ h2) (hfin _)
 | fail hw hN =>
  intro at_ h1 h2 h3;subst h3;have:at_<w.length:=by
   rcases Ke at_ w.length with h | h
   ·exact h
   ·exact absurd (KH h) hw
  exact Runs.one (hf at_ _ this h2 hN) (hfin _)
 | step hw hb _ ih =>
  rename_i w' acc i r _;intro at_ h1 h2 h3;subst h3;have hlt:at_<w.length:=by
   rcases Ke at_ w.length with h | h
   ·exact h
   ·exact absurd (KH h) hw
  have hl:=hb.2.1.len;rw [Kf] at hl;have h1':=hc.len i hb.1;rw [rD hb.1] at ih;refine .nrm (hs at_ acc i hb hlt h2 (by omega)) (ih _ (by omega) (by rw [Kg,JN];omega) ?_)
  rw [List.drop_drop]
set_option maxRecDepth 100000
abbrev so (c:ByteArray):D:=.agg [T c,I 1]
abbrev fD (cs:List ByteArray):D:=.arr 2 (cs.map so)
abbrev qn (l:List Nat):D:=.arr 1 (l.map fun(i:Nat)=>I (i:Int))
theorem HP (c:ByteArray):(so c).isV=true:=rfl
theorem DI (l:List Nat) (i:Nat) (h:l.length≤1048576):iq 1 8 (qn l) (.arr 1 [I (i:Int)])=some (qn (l++[i])):=by
 rw [ew,if_pos (by simp only [JL,JN];omega)];simp
theorem EP (i:Nat):bj 1 [I (i:Int)]=some (.arr 1 [I (i:Int)]):=by simp [bj,gg]
theorem Eh (i:Nat):jU (.arr 1 [I (i:Int)])=some (.arr 1 [I (i:Int)]):=by simp [jU,D.isV]
theorem uV {β:Type} {p:β→Bool}:∀{l:List β} {i j:Nat},dv p i l=some j→i≤j∧∃h:j - i<l.length,p l[j - i]=true
 | [],i,j,h=>by simp [dv] at h
 | x::l,i,j,h=>by
  simp only [dv] at h;split at h
  ·rename_i hp
   cases h;exact⟨JS _,by simp,by simpa using hp⟩
  ·obtain⟨h1,h2,h3⟩:=uV h
   refine⟨by omega,by simp;omega,?_⟩
   have:j - i=(j - (i+1))+1:=by omega
   simp only [this,Kb];exact h3
theorem pR {β:Type} {p:β→Bool}:∀{l:List β} {i:Nat},dv p i l=none→∀(j:Nat) (hj:j<l.length),p l[j]=false
 | [],i,_,j,hj=>by simp at hj
 | x::l,i,h,j,hj=>by
  simp only [dv] at h;split at h
  ·cases h
  ·rename_i hp
   cases j with
   | zero=>simpa using hp
   | succ j=>exact pR h j (by simpa using hj)
def fC (cs:List ByteArray) (c:ByteArray):Int:=(dv (fun b:ByteArray=>decide (b=c)) 0 cs).elim (-1) fun j=>(j:Int)
theorem wD (cs:List ByteArray) (c:ByteArray) (h:cs.length≤1048576):fV [fD cs,T c]=some (.ret [I (fC cs c)] []):=by
 rw [wg];simp only [bw,JL,JI];refine aO _ (lM cs (fun i=>[T c,fD cs,I cs.length,I i]) (fun b:ByteArray=>decide (b=c)) (fun j=>.ret [I j] []) (.ext 0 []) (fun i hi=>?_) ?_ (fun _=>rfl) rfl rfl) ?_
 ·have hw:JJ.wrap ((i:Int)+1)=(i:Int)+1:=ax (by omega) (by omega)
  by_cases hc:cs[i]=c<;>simp -implicitDefEqProofs [hi,hw,hc]
 ·simp
 ·unfold fC
  cases dv (fun b:ByteArray=>decide (b=c)) 0 cs<;>simp -implicitDefEqProofs
theorem Ep {cs:List ByteArray} {c:ByteArray}:(fC cs c = -1∧∀(j:Nat) (hj:j<cs.length),cs[j]≠c)∨∃(j:Nat) (hj:j<cs.length),fC cs c=j∧cs[j]=c:=by
 unfold fC;cases h:dv (fun b:ByteArray=>decide (b=c)) 0 cs with
 | none=>exact .inl ⟨rfl,fun j hj=>by simpa using pR h j hj⟩
 | some j =>
  obtain⟨_,h1,h2⟩:=uV h;exact .inr ⟨j,by simpa using h1,rfl,by simpa using h2⟩
theorem vM (a b:Int):fp [I a,I b]=some (.ret [I (if a<b then a else b)] []):=by
 rw [vG];by_cases h:a<b<;>simp -implicitDefEqProofs [h]
def Dr (r:Option (List Nat)):Out:=match r with
 | some l=>.ext 0 [qn l]
 | none=>.ret [qn [],B false] []
def GE (r:Option (List Nat)):Option Out:=some (.ret [qn (r.getD []),B r.isSome] [])
theorem tq {cs:List ByteArray} (hc:Codes cs) (hl:cs.length≤1048576) (s:ByteArray) (hs:s.size≤1000) (at_:Nat) (acc:List Nat) (hlt':at_<s.size):∃m:Nat,fp [I 3,I ((s.size - at_:Nat):Int)]=some (.ret [I m] []) ∧
  ∀(R:Option Out→Prop) (body:List D→Option Out) (K:Out→Option Out),(∀(b:Int) (n:Nat),body [fD cs,T s,qn acc,I at_,I b,I n]=if 0<n∧b<0 then(((some (JJ.wrap ((at_:Int)+n)):Option Int).bind fun e=>hD true 0 (T s) (I at_) (I e)).bind fun z=>ao (fV [fD cs,z]) fun rs _=>some (.nrm [fD cs,T s,qn acc,I at_,sl rs 0,I (JJ.wrap ((n:Int) - 1))])) else some (.ext 2 [fD cs,T s,qn acc,I at_,I b])) →
    (∀b,BN cs ((bd s).drop at_) b→R (K (.ext 2 [fD cs,T s,qn acc,I at_,I b])))→R ((bq body [fD cs,T s,qn acc,I at_,I (-1),I m]).bind K):=by
 have hsz:s.size=(bd s).length:=rfl;obtain⟨m,hm1,hm2,hm3⟩:∃m:Nat,(if (3:Int)<((s.size - at_:Nat):Int) then(3:Int) else((s.size - at_:Nat):Int))=m∧m≤3∧(at_+m≤s.size∧(m=3∨at_+m=s.size)):=by
  by_cases h3:(3:Int)<((s.size - at_:Nat):Int)
  ·exact⟨3,by rw [if_pos h3];rfl,by omega,by omega,.inl rfl⟩
  ·exact⟨s.size - at_,by rw [if_neg h3],by omega,by omega,.inr (by omega)⟩
 have el:=vM 3 ((s.size - at_:Nat):Int);rw [hm1] at el;refine⟨m,el,?_⟩
 intro R body K hbody hK;refine fx R (fun a:Int × Nat=>[fD cs,T s,qn acc,I at_,I a.1,I a.2]) (fun a=>a.2≤3∧at_+a.2≤s.size∧((a.1 = -1∧∀(j:Nat) (hj:j<cs.length),Pre cs[j] ((bd s).drop at_)→(bd cs[j]).length≤a.2)∨∃k:Nat,a.1=k∧xT cs ((bd s).drop at_) k)) (fun a=>a.2)
  (fun o=>∃b,o = .ext 2 [fD cs,T s,qn acc,I at_,I b]∧BN cs ((bd s).drop at_) b) (fun a hI=>?_) (-1,m) ⟨hm2,hm3.1,.inl ⟨rfl,fun j hj hp=>?_⟩⟩ rfl (fun o ho=>?_)
 ·obtain⟨b,n⟩:=a
  obtain⟨i1,i2,i3⟩:=hI;simp only at i1 i2 i3;rw [hbody];by_cases hcond:0<n∧b<0
  ·rw [if_pos hcond]
   have hwn:JJ.wrap ((at_:Int)+n)=((at_+n:Nat):Int):=by rw [ax (by omega) (by omega)];omega
   have hwm:JJ.wrap ((n:Int) - 1)=((n - 1:Nat):Int):=by rw [ax (by omega) (by omega)];omega
   have hsl:=HK (s:=s) (z:=0) (i:=at_) (j:=at_+n) (by omega) (by omega);have hch:bd (s.extract at_ (at_+n))=((bd s).drop at_).take n:=by
    rw [wR,List.drop_take];congr 1
    omega
   simp only [JI,hwn,hwm,hsl,wD cs _ hl,aA,aG];rcases i3 with ⟨rfl,hmax⟩ | ⟨k,rfl,_⟩
   ·refine .inl ⟨(fC cs (s.extract at_ (at_+n)),n - 1),rfl,⟨by simp only;omega,by simp only;omega,?_⟩,by simp only;omega⟩
    simp only;rcases Ep (cs:=cs) (c:=s.extract at_ (at_+n)) with ⟨e1,e2⟩ | ⟨j,hj,e1,e2⟩
    ·refine .inl ⟨e1,fun j hj hp=>?_⟩
     have h1:=hmax j hj hp;rcases Ke (bd cs[j]).length n with h' | h'
     ·omega
     ·exfalso
      have:(bd cs[j]).length=n:=by omega
      refine e2 j hj (xt ?_)
      rw [hch,←hp,this]
    ·have hln:(bd cs[j]).length=n:=by
      rw [e2,hch,Kl,Kf];omega
     refine .inr ⟨j,e1,hj,?_,fun j' hj' hp'=>by rw [hln];exact hmax j' hj' hp'⟩
     unfold Pre;rw [hln,e2,hch]
   ·omega
  ·rw [if_neg hcond]
   refine .inr ⟨_,rfl,rfl,b,rfl,?_⟩
   rcases i3 with ⟨rfl,hmax⟩ | ⟨k,rfl,hk⟩
   ·refine .inl ⟨rfl,fun j hj hp=>?_⟩
    have h1:=hmax j hj hp;have h2:=(hc.len j hj).1;omega
   ·exact .inr ⟨k,rfl,hk⟩
 ·have h1:=(hc.len j hj).2
  have h2:=hp.len;rw [Kf] at h2;simp only;omega
 ·obtain⟨b,rfl,hb⟩:=ho
  exact hK b hb
theorem yK {cs:List ByteArray} (hc:Codes cs) (hl:cs.length≤1048576) (s:ByteArray) (hs:s.size≤1000) {r:Option (List Nat)} (h:Sets cs (bd s) [] r):jA [fD cs,T s]=GE r:=by
 rw [yj];have hsz:s.size=(bd s).length:=rfl;refine aO (Dr r) (Runs.loop (CT hc (bd s) (fun at_ acc=>[fD cs,T s,qn acc,I at_]) Dr (fun r=>by cases r<;>rfl) (fun acc ha=>?_) (fun at_ acc hlt ha hN=>?_) (fun at_ acc i hb hlt ha hle=>?_) h 0 (Ky _) (by simp) (by simp))) ?_
 ·simp -implicitDefEqProofs [hsz,Dr]
 ·have hw0:JJ.wrap ((s.size:Int) - at_)=((s.size - at_:Nat):Int):=by rw [ax (by omega) (by omega)];omega
  have hlt':at_<s.size:=by omega
  obtain⟨m,el,inner⟩:=tq hc hl s hs at_ acc hlt';simp -implicitDefEqProofs [hlt',hw0,el];refine inner (fun X=>X=some (Dr none)) _ _ (fun b n=>?_) (fun b hb=>?_)
  ·by_cases h1:0<n<;>by_cases h2:b<0<;>simp -implicitDefEqProofs [h1,h2]
  ·have:=hb.none hN
   subst this;simp -implicitDefEqProofs [Dr]
 ·have hw0:JJ.wrap ((s.size:Int) - at_)=((s.size - at_:Nat):Int):=by rw [ax (by omega) (by omega)];omega
  have hlt':at_<s.size:=by omega
  obtain⟨m,el,inner⟩:=tq hc hl s hs at_ acc hlt';simp -implicitDefEqProofs [hlt',hw0,el];refine inner (fun X=>X=some (.nrm [fD cs,T s,qn (acc++[i]),I ((at_+(bd (cs[i]'hb.1)).length:Nat):Int)])) _ _ (fun b n=>?_) (fun b hb'=>?_)
  ·by_cases h1:0<n<;>by_cases h2:b<0<;>simp -implicitDefEqProofs [h1,h2]
  ·have:=hb'.best hc hb
   subst this;have hi:=hb.1;have hsl:(cs[i]).size=(bd cs[i]).length:=rfl;have hwa:JJ.wrap ((at_:Int)+(bd cs[i]).length)=(at_:Int)+(bd cs[i]).length:=ax (by omega) (by omega);simp -implicitDefEqProofs [EP,Eh,DI acc i (by omega),hi,hsl,hwa,-ew]
 ·cases r<;>simp -implicitDefEqProofs [Dr,GE]
set_option maxRecDepth 100000
set_option maxRecDepth 100000
theorem nz:∀x:List UInt8,JR x x=false
 | []=>rfl
 | a::x=>by
  simp only [JR,nz x,Bool.and_false,Bool.or_false,decide_eq_false_iff_not];exact UInt8.lt_irrefl a
theorem vW:∀x y z:List UInt8,JR x y=true→JR y z=true→JR x z=true
 | _,[],_,h,_=>by simp [JR] at h
 | _,_::_,[],_,h=>by simp [JR] at h
 | [],_::_,_::_,_,_=>rfl
 | a::x,b::y,c::z,h1,h2=>by
  simp only [JR,Bool.or_eq_true,decide_eq_true_eq,JK,beq_iff_eq] at h1 h2 ⊢;rcases h1 with h1 | ⟨rfl,h1⟩
  ·rcases h2 with h2 | ⟨rfl,_⟩
   ·exact .inl (UInt8.lt_trans h1 h2)
   ·exact .inl h1
  ·rcases h2 with h2 | ⟨rfl,h2⟩
   ·exact .inl h2
   ·exact .inr ⟨rfl,vW x y z h1 h2⟩
abbrev aU (l:List Bx):List ByteArray:=l.map (·.1)
theorem tZ {β:Type} {p:Nat→β→Bool}:∀{l:List β} {i:Nat},cW p i l=true→∀(j:Nat) (hj:j<l.length),p (i+j) l[j]=true
 | [],_,_,j,hj=>by simp at hj
 | x::l,i,h,j,hj=>by
  simp only [cW,JK] at h;cases j with
  | zero=>exact h.1
  | succ j =>
   have:=tZ h.2 j (by simpa using hj);rw [show i+(j+1)=i+1+j from by omega];exact this
theorem kJ {l:List Bx} (h:bp l=true):Codes (aU l):=by
 simp only [bp,JK,decide_eq_true_eq] at h;have hp:∀(j:Nat) (hj:j<l.length),pBx l j l[j]=true:=fun j hj=>by
  have:=tZ h.1 j hj;rwa [Ks] at this
 have asc:∀(d i:Nat) (hj:i+d+1<l.length),JR (l[i]'(by omega)).1.toList l[i+d+1].1.toList=true:=by
  intro d;have one:∀(i:Nat) (hj:i+1<l.length),JR (l[i]'(by omega)).1.toList l[i+1].1.toList=true:=fun i hj=>by
   have:=hp (i+1) hj;simp only [pBx,JK,Ki,Ku,decide_eq_false_iff_not,Bool.not_eq_false'] at this;have h2:=this.1.2.resolve_left (by omega);rw [Nat.add_sub_cancel,JQ,JX (by omega)] at h2;exact h2
  induction d with
  | zero=>exact fun i hj=>one i hj
  | succ d ih=>exact fun i hj=>vW _ _ _ (ih i (by omega)) (one (i+d+1) (by omega))
 refine⟨fun j hj=>?_,fun i j hi hj e=>?_⟩
 ·have hj':j<l.length:=by simpa using hj
  have:=hp j hj';simp only [pBx,oM,ex,JK,decide_eq_true_eq] at this;have h2:=this.1.1.1.1.1.2;simp only [List.getElem_map];show 1≤(l[j].1).size∧(l[j].1).size≤3
  omega
 ·have hi':i<l.length:=by simpa using hi
  have hj':j<l.length:=by simpa using hj
  simp only [List.getElem_map] at e;rcases KN i j with h | h | h
  ·have:=asc (j - i - 1) i (by omega)
   simp only [show i+(j - i - 1)+1=j from by omega] at this;rw [e,nz] at this;cases this
  ·exact h
  ·have:=asc (i - j - 1) j (by omega)
   simp only [show j+(i - j - 1)+1=i from by omega] at this;rw [e,nz] at this;cases this
theorem Cb (l:List Bx) (c:ByteArray):fB l c=fC (aU l) c:=by
 unfold fB fC;congr 1
 have:∀(m:List Bx) (i:Nat),dv (fun b:Bx=>decide (b.1=c)) i m=dv (fun b:ByteArray=>decide (b=c)) i (m.map (·.1)):=by
  intro m;induction m with
  | nil=>intro i;rfl
  | cons x m ih =>
   intro i;simp only [Kn,dv,ih]
 exact this l 0
theorem Jf (c:ByteArray):kV [(0,1),(1,1)] [T ⟨#[]⟩,I 0] [T c,I 1]=some (so c):=by simp [kV,pI]
theorem HU (c:ByteArray):bj 2 [so c]=some (fD [c]):=by simp [bj,gg]
theorem Il (l:List ByteArray) (c:ByteArray) (h:l.length≤1048576):iq 2 24 (fD l) (fD [c])=some (fD (l++[c])):=by
 rw [ew,if_pos (by simp only [JL,JN];omega)];simp
theorem HJ (c:ByteArray):jU (fD [c])=some (fD [c]):=kb HP
theorem Hz (c:ByteArray):bj 1 [T c]=some (txs [c]):=by simp [bj,gg]
theorem HB (l:List ByteArray) (c:ByteArray) (h:l.length≤1048576):iq 1 16 (txs l) (txs [c])=some (txs (l++[c])):=by
 rw [ew,if_pos (by simp only [JL,JN];omega)];simp
theorem Ib (c:ByteArray):jU (txs [c])=some (txs [c]):=by simp [jU,D.isV]
def dX (cs:List ByteArray) (r:List Nat):List ByteArray:=r.map fun i=>cs.getD i JW
theorem sk {α:Type} {l:List α} {i:Nat} (h:i<l.length):l.take (i+1)=l.take i++[l[i]]:=JU h
theorem vC (l:List Bx) (hc:Codes (aU l)) (hl:l.length≤1048576) (s:ByteArray) (hs:s.size≤1000) {r:Option (List Nat)} (h:Sets (aU l) (bd s) [] r):jT [bxs l,T s]=some (.ret [txs (dX (aU l) (r.getD [])),B r.isSome] []):=by
 rw [vH];have et:=yK hc (by simpa using hl) s hs h;have hr:=Ca hc h (by simp);simp only [bw,JL,JI];refine aO (.ext 0 [T s,fD (aU l)]) (du l.length (fun i=>[T s,fD (aU (l.take i)),bxs l,I l.length,I i]) _ (fun i hi=>?_) ?_ rfl rfl) ?_
 ·have hw:JJ.wrap ((i:Int)+1)=(i:Int)+1:=ax (by omega) (by omega)
  have ha:=Il (aU (l.take i)) l[i].1 (by simp;omega);have hb:=Jf l[i].1;have h1:=HU l[i].1;have h2:=HJ l[i].1;have e:aU (l.take (i+1))=aU (l.take i)++[l[i].1]:=by
   unfold aU;rw [sk hi,Kq];rfl
  rw [e];generalize aU (l.take i)=q at ha;simp -implicitDefEqProofs [hi,hw,hb,h1,h2,ha,-ew]
 ·simp -implicitDefEqProofs
 ·cases r with
  | none=>simp -implicitDefEqProofs [et,GE,dX]
  | some r =>
   obtain⟨q1,q2⟩:=hr r rfl;have hsz:s.size=(bd s).length:=rfl;simp -implicitDefEqProofs [et,GE];refine aO (.ext 2 [txs (dX (aU l) r)]) (du r.length (fun i=>[fD (aU l),txs (dX (aU l) (r.take i)),qn r,I r.length,I i]) _ (fun i hi=>?_) ?_ rfl rfl) ?_
   ·have hrl:r.length≤1000:=by simp at q2;omega
    have hw:JJ.wrap ((i:Int)+1)=(i:Int)+1:=ax (by omega) (by omega);have hk:=q1 r[i] (JO hi);have ha:=HB (dX (aU l) (r.take i)) ((aU l)[r[i]]) (by simp [dX];omega);have h1:=Hz ((aU l)[r[i]]);have h2:=Ib ((aU l)[r[i]]);have e:dX (aU l) (r.take (i+1))=dX (aU l) (r.take i)++[(aU l)[r[i]]]:=by
     unfold dX;rw [sk hi,Kq,Kn,KE,rD hk]
    rw [e];generalize dX (aU l) (r.take i)=q at ha;generalize aU l=cs at hk ha h1 h2;simp -implicitDefEqProofs [hi,hk,hw,h1,h2,ha,-ew]
   ·simp -implicitDefEqProofs
   ·simp -implicitDefEqProofs
set_option maxRecDepth 100000
def sC (cs:List ByteArray) (by_:Int) (l:List Bx) (c:ByteArray):List Bx :=
 l.set (fC cs c).toNat ((l.getD (fC cs c).toNat (JW,0,0,0)).1,(l.getD (fC cs c).toNat (JW,0,0,0)).2.1,(l.getD (fC cs c).toNat (JW,0,0,0)).2.2.1,JJ.wrap ((l.getD (fC cs c).toNat (JW,0,0,0)).2.2.2+by_))
theorem Dj (cs:List ByteArray) (by_:Int) (l:List Bx) (c:ByteArray):aU (sC cs by_ l c)=aU l:=by
 unfold sC aU;rw [List.map_set];refine List.ext_getElem? fun i=>?_
 rw [List.getElem?_set];split
 ·rename_i h
  subst h;simp only [JL,List.getElem?_map,JQ];split
  ·rename_i h
   rw [JX h];rfl
  ·rename_i h
   rw [List.getElem?_eq_none (by omega)];rfl
 ·rfl
def bE (cs:List ByteArray) (by_:Int) (l:List Bx) (codes:List ByteArray):List Bx:=codes.foldl (sC cs by_) l
theorem eo (cs:List ByteArray) (by_:Int):∀(codes:List ByteArray) (l:List Bx),aU (bE cs by_ l codes)=aU l
 | [],l=>rfl
 | c::codes,l=>by
  show aU (bE cs by_ (sC cs by_ l c) codes)=aU l
  rw [eo cs by_ codes,Dj]
theorem iF {l m:List Bx} (h:oO l) (e:aU m=aU l):oO m:=by
 have hl:m.length=l.length:=by
  have:=congrArg Kt e;simpa using this
 refine⟨by rw [hl];exact h.1,fun x hx=>?_⟩
 have:x.1∈aU m:=KJ hx;rw [e] at this;obtain⟨y,hy,hy'⟩:=Kj.1 this;rw [←hy'];exact h.2 y hy
theorem ur (cs:List ByteArray) (by_:Int) (l:List Bx) (codes:List ByteArray) {i:Nat} (hi:i<codes.length):bE cs by_ l (codes.take (i+1))=sC cs by_ (bE cs by_ l (codes.take i)) codes[i]:=by
 unfold bE;rw [sk hi,KO];rfl
theorem Cf (cs:List ByteArray) (by_:Int) (m:List Bx) (c:ByteArray) (k:Nat) (hk:fC cs c=k) (hm:k<m.length):stD 1 (bxs m) (.ref k 3) (.v (.int .i64 (JJ.wrap (m[k].2.2.2+by_))))=some (bxs (sC cs by_ m c)):=by
 rw [EO (c:=[T m[k].1,I m[k].2.1,I m[k].2.2.1,I m[k].2.2.2]) (by simp [hm]) (by simp)];unfold sC;rw [hk,KM,JQ,JX hm];simp [List.map_set]
theorem wX (l:List Bx) (codes:List ByteArray) (by_:Int) (h:oO l) (hl:codes.length≤1048576) (hc:∀c∈codes,∃k:Nat,fC (aU l) c=k∧k<l.length) :
  kL [bxs l,txs codes,I by_]=some (.ret [if bp (bE (aU l) by_ l codes)=true then bxs (bE (aU l) by_ l codes) else .arr 4 [],B (bp (bE (aU l) by_ l codes))] []):=by
 rw [wi];have h0:=h.1;have ha:iq 4 40 (.arr 4 []) (bxs l)=some (bxs l):=by
  rw [ew,if_pos (by simp only [Kv,JL];omega)];rfl
 simp only [il,JI,kb xP,ha,bw,JL];refine aO (.ext 0 [bxs (bE (aU l) by_ l codes)]) (du codes.length (fun i=>[I by_,bxs (bE (aU l) by_ l (codes.take i)),txs codes,I codes.length,I i]) _ (fun i hi=>?_) ?_ rfl rfl) ?_
 ·have hw:JJ.wrap ((i:Int)+1)=(i:Int)+1:=ax (by omega) (by omega)
  have hm:=eo (aU l) by_ (codes.take i) l;obtain⟨k,hk1,hk2⟩:=hc codes[i] (JO hi);rw [ur _ _ _ _ hi];generalize bE (aU l) by_ l (codes.take i)=m at hm;have hml:m.length=l.length:=by
   have:=congrArg Kt hm;simpa using this
  have ef:=kN m codes[i] (by omega);rw [Cb,hm,hk1] at ef;have hkm:k<m.length:=by omega
  have eu:=Cf (aU l) by_ m codes[i] k hk1 hkm;simp -implicitDefEqProofs [hi,hw,ef,hkm,eu]
 ·simp -implicitDefEqProofs
 ·have eg:=iT _ (iF h (eo (aU l) by_ codes l))
  cases hg:bp (bE (aU l) by_ l codes)<;>rw [hg] at eg<;>simp -implicitDefEqProofs [eg]
theorem vg (l:List Bx) (codes:List ByteArray) (by_:Int) (h:oO l) (hl:codes.length≤60) (hg:bp l=true) (hc:∀c∈codes,∃k:Nat,fC (aU l) c=k∧k<l.length) :
  gH [bxs l,txs codes,I by_]=some (.ret [if bp (bE (aU l) by_ l codes)=true then bxs (bE (aU l) by_ l codes) else .arr 4 [],B (bp (bE (aU l) by_ l codes))] []):=by
 rw [uM];have h0:=h.1;have ha:iq 4 40 (.arr 4 []) (bxs l)=some (bxs l):=by
  rw [ew,if_pos (by simp only [Kv,JL];omega)];rfl
 have hall:kf l codes=true:=by
  have key:∀(m:List ByteArray) (i:Nat),(∀c∈m,∃k:Nat,fC (aU l) c=k∧k<l.length)→cW (fun _ c=>!decide (fB l c<0)) i m=true:=by
   intro m;induction m with
   | nil=>intro i _;rfl
   | cons c m ih =>
    intro i hm;obtain⟨k,hk,_⟩:=hm c (by simp);have hk0:¬fB l c<0:=by rw [Cb,hk];omega
    simp [cW,ih (i+1) (fun d hd=>hm d (by simp [hd])),hk0]
  exact key codes 0 hc
 have ea:=my l codes h (by omega);rw [hall,hg] at ea;have h60:(codes.length:Int)≤60:=by omega
 simp -implicitDefEqProofs only [ea,h60,decide_true,Bool.and_self,Bool.not_true,aA,aG,fj,cF,Kz,if_false,il,JI,kb xP,ha,bw,JL];refine aO (.ext 0 [bxs (bE (aU l) by_ l codes)]) (du codes.length (fun i=>[bxs l,I by_,bxs (bE (aU l) by_ l (codes.take i)),txs codes,I codes.length,I i]) _ (fun i hi=>?_) ?_ rfl rfl) ?_
 ·have hw:JJ.wrap ((i:Int)+1)=(i:Int)+1:=ax (by omega) (by omega)
  have hm:=eo (aU l) by_ (codes.take i) l;obtain⟨k,hk1,hk2⟩:=hc codes[i] (JO hi);rw [ur _ _ _ _ hi];generalize bE (aU l) by_ l (codes.take i)=m at hm;have hml:m.length=l.length:=by
   have:=congrArg Kt hm;simpa using this
  have ef:=qT l codes[i] (by omega);rw [Cb,hk1] at ef;have hkm:k<m.length:=by omega
  have eu:=Cf (aU l) by_ m codes[i] k hk1 hkm;simp -implicitDefEqProofs [hi,hw,ef,hkm,eu]
 ·simp -implicitDefEqProofs
 ·have eg:=dc _ (iF h (eo (aU l) by_ codes l))
  cases hg:bp (bE (aU l) by_ l codes)<;>rw [hg] at eg<;>simp -implicitDefEqProofs [eg,il]
theorem wA (s:ByteArray) (h:s.size≤9223372036854775807):iG [T s]=some (.ret [B (ex s 1 16)] []):=by
 rw [wP];simp [lH s 16 h]
theorem zW {l:List Bx} {r:List Nat} (hr:∀i∈r,i<(aU l).length):∀c∈dX (aU l) r,∃k:Nat,fC (aU l) c=k∧k<l.length:=by
 intro c hcm;obtain⟨i,hi,rfl⟩:=Kj.1 hcm;have hi':=hr i hi;rw [rD hi'];rcases Ep (cs:=aU l) (c:=(aU l)[i]) with ⟨_,e⟩ | ⟨j,hj,e1,e2⟩
 ·exact absurd rfl (e i hi')
 ·exact⟨j,e1,by simpa using hj⟩
set_option maxRecDepth 100000
theorem nD {β:Type} {p:β→Bool}:∀{l:List β} {i j:Nat},dv p i l=some j→i≤j∧∃h:j - i<l.length,p l[j - i]=true∧∀(k:Nat) (hk:k<l.length),k<j - i→p l[k]=false
 | [],i,j,h=>by simp [dv] at h
 | x::l,i,j,h=>by
  simp only [dv] at h;by_cases hp:p x=true
  ·rw [if_pos hp] at h
   cases h;refine⟨JS _,by simp,?_,fun k _ hk=>by omega⟩
   simpa using hp
  ·rw [if_neg hp] at h
   obtain⟨h1,h2,h3,h4⟩:=nD h;have e:j - i=(j - (i+1))+1:=by omega
   refine⟨by omega,by rw [e];simpa using h2,?_,fun k hk hlt=>?_⟩
   ·have:(x::l)[j - i]'(by rw [e];simpa using h2)=l[j - (i+1)]:=by
     simp only [e,Kb]
    rw [this];exact h3
   ·cases k with
    | zero=>simpa using hp
    | succ k =>
     rw [Kb];exact h4 k (by simpa using hk) (by omega)
def idP (n:Int) (x:Fm):Bool:=decide (x.1=n)
theorem iI (s:Sp) (n:Int) (h:cm s):fX [sp s,I n]=some (.ret [I ((dv (idP n) 0 s.2.1).elim (-1) fun j=>(j:Int))] []):=by
 rw [wU];have hl:=h.2.1;simp -implicitDefEqProofs;refine aO _ (lM s.2.1 (fun i=>[I n,fms s.2.1,I s.2.1.length,I i]) (idP n) (fun j=>.ret [I j] []) (.ext 0 []) (fun i hi=>?_) ?_ (fun _=>rfl) rfl rfl) ?_
 ·have hw:JJ.wrap ((i:Int)+1)=(i:Int)+1:=ax (by omega) (by omega)
  by_cases hc:s.2.1[i].1=n<;>simp -implicitDefEqProofs [hi,hw,hc,idP]
 ·simp
 ·cases dv (idP n) 0 s.2.1<;>simp -implicitDefEqProofs
theorem ko {s:Sp} (h:aE s=true):(∀x∈s.2.1,eF s.1 x=true)∧∀(i j:Nat) (hj:j<s.2.1.length) (hij:i<j),s.2.1[i].1<s.2.1[j].1:=by
 simp only [aE,JK] at h;have ha:=h.1.1.1.1;have key:∀(m:Nat) (k:Nat),k+m=s.2.1.length→cW (pS s) k (s.2.1.drop k)=true→∀(j:Nat) (hj:j<s.2.1.length),k≤j→pS s j s.2.1[j]=true:=by
  intro m;induction m with
  | zero=>intro k hk _ j hj hkj;omega
  | succ m ih =>
   intro k hk hp j hj hkj;rw [List.drop_eq_getElem_cons (by omega)] at hp;simp only [cW,JK] at hp;by_cases hkj':k=j
   ·subst hkj';exact hp.1
   ·exact ih (k+1) (by omega) hp.2 j hj (by omega)
 have hall:=key s.2.1.length 0 (by omega) (by rw [List.drop_zero];exact ha);refine⟨fun x hx=>?_,?_⟩
 ·obtain⟨j,hj,rfl⟩:=List.getElem_of_mem hx
  have:=hall j hj (Ky _);simp only [pS,JK] at this;exact this.1
 ·intro i j
  induction j with
  | zero=>intro _ h;omega
  | succ j ih =>
   intro hj hij;have h1:=hall (j+1) hj (Ky _);simp only [pS,JK,Ki,Ku,decide_eq_false_iff_not] at h1;have h2:s.2.1[j].1<s.2.1[j+1].1:=by
    rcases h1.2 with h2 | h2
    ·omega
    ·simp only [Nat.add_sub_cancel] at h2
     have e:(s.2.1.getD j (0,[],false,0)).1=s.2.1[j].1:=by simp [show j<s.2.1.length by omega]
     rw [e] at h2;omega
   by_cases hij':i=j
   ·subst hij';exact h2
   ·exact Int.lt_trans (ih (by omega) (by omega)) h2
def atF:List Fm→Int→Nat
 | [],_=>0
 | x::l,n=>if x.1<n then atF l n+1 else 0
def En (l:List Fm) (n:Int) (i:Nat):Prop:=i≤l.length∧(∀(k:Nat) (hk:k<l.length),k<i→l[k].1<n)∧∀hi:i<l.length,¬l[i].1<n
theorem yo:∀(l:List Fm) (n:Int),En l n (atF l n)
 | [],n=>⟨JS _,fun k hk=>by simp at hk,fun h=>by simp at h⟩
 | x::l,n=>by
  obtain⟨h1,h2,h3⟩:=yo l n;by_cases hx:x.1<n
  ·rw [atF,if_pos hx]
   refine⟨by simpa using h1,fun k hk hlt=>?_,fun hi=>?_⟩
   ·cases k with
    | zero=>exact hx
    | succ k =>
     rw [Kb];exact h2 k (by simpa using hk) (by omega)
   ·rw [Kb]
    exact h3 (by simpa using hi)
  ·rw [atF,if_neg hx]
   exact⟨Ky _,fun k _ h=>by omega,fun _=>hx⟩
theorem En.uniq {l:List Fm} {n:Int} {i j:Nat} (hi:En l n i) (hj:En l n j):i=j:=by
 rcases KN i j with h | h | h
 ·exact absurd (hj.2.1 i (KK h hj.1) h) (hi.2.2 _)
 ·exact h
 ·exact absurd (hi.2.1 j (KK h hi.1) h) (hj.2.2 _)
theorem Bm (l:List Fm) (n:Int):atF l n≤l.length:=(yo l n).1
def gC (l:List Fm) (n:Int):Bool:=if h:atF l n<l.length then decide (l[atF l n].1=n) else false
theorem lX {l:List Fm} {n:Int} (h:gC l n=true):∃hi:atF l n<l.length,l[atF l n].1=n:=by
 unfold gC at h;split at h
 ·exact⟨_,of_decide_eq_true h⟩
 ·cases h
theorem nY (s:Sp) (n:Int) (h:cm s) (hok:aE s=true):fX [sp s,I n]=some (.ret [I (if gC s.2.1 n=true then(atF s.2.1 n:Int) else -1)] []):=by
 rw [iI s n h];congr 4
 obtain⟨_,hinc⟩:=ko hok;have hat:=yo s.2.1 n;cases hf:dv (idP n) 0 s.2.1 with
 | none =>
  rw [if_neg]
  ·rfl
  intro hh;obtain⟨hi,e⟩:=lX hh;have h2:=pR hf (atF s.2.1 n) hi;simp [idP,e] at h2
 | some j =>
  obtain⟨_,h2,h3,_⟩:=nD hf;simp only [Nat.sub_zero] at h2 h3;have e:=of_decide_eq_true h3;have hj:En s.2.1 n j:=⟨Nat.le_of_lt h2,fun k hk hlt=>by rw [←e];exact hinc k j h2 hlt,fun _=>by rw [e];exact Int.lt_irrefl _⟩
  have ej:=hj.uniq hat;subst ej;rw [if_pos]
  ·rfl
  ·rw [gC,dif_pos h2]
   exact decide_eq_true e
open Go Go.Proofs Go.V Go.RowKit
set_option maxRecDepth 100000
theorem ql {w w':World} {F F':Nat→Prop}:∀(l:List D) (us:List Value),(∀d∈l,d.isV=true)→bs w F l us→bs w' F' l us
 | [],_,_,h=>h
 | d::l,us,hd,h=>by
  obtain⟨v1,v2,rfl,h1,h2⟩:=aw.1 h;refine aw.2 ⟨v1,v2,rfl,?_,ql l v2 (fun e he=>hd e (by simp [he])) h2⟩
  have:=hd d (by simp);cases d with
  | v x =>
   simp only [RepC] at h1 ⊢;exact h1
  | agg m =>
   simp only [RepC] at h1 ⊢;exact⟨qJ m v1 this h1.1,h1.2⟩
  | _=>simp [D.isV] at this
theorem kn {P:Program} (w:World) (base:Nat) (t ty e:TypeId) (i:TypeInfo) (size c:Nat) (ht:P.underlying t=some (.slice e)) (hi:P.info? e=some i)
  (v:Value) (n:Nat) (xs:List Value) (hown:w.ownsRow base e size v n xs) :
  (KG #[t,t] ty #[v,.slice none 0 c]).run P w = .ok v w:=by
 rcases hown.2 with ⟨rfl,rfl⟩ | ⟨g,cap,cur,rfl,_,_,hnc,_⟩
 ·simp [KG,run_underlying ht,sizeOf,typeInfo,hi,KR,KL]
 ·simp [KG,run_underlying ht,sizeOf,typeInfo,hi,KR,KL,hnc,storeCells]
theorem cJ {P:Program} (w:World) {ops:Array Oper} {rest:List Oper} {o:Oper} {a:Act} {Q:Exit→Act→World→Prop} (hgd:o.guard=none) (s x:Operand) (t:TypeId)
  (ho:o.op = .call {callee:=.builtin .append,args:=#[s,x],argTypes:=#[t,t]})
  (base:Nat) (e:TypeId) (i:TypeInfo) (z:Value) (size bytes:Nat) (ht:P.underlying t=some (.slice e)) (hi:P.info? e=some i) (hz:i.zero=some z)
  (hsize:i.size=size) (hby:i.bytes=bytes) (hzs:z.cells.size=size) (hsz:0<size)
  (v:Value) (n:Nat) (xs:List Value) (hs:a.eval s=v) (hown:w.ownsRow base e size v n xs)
  (A:Option Addr) (m c:Nat) (news:List Value) (hx:a.eval x = .slice A m c) (hl:news.length=m*size) (hA:m≠0→∃g o,A=some ⟨g,o,none⟩∧∀j u,news[j]?=some u→w.cell? ⟨g,o+j,none⟩=some u) (h1:∀u∈news,u.oneCell'=true)
  (h63:n+m≤maxLen) (hbytes:(n+m)*bytes≤140737488355328) (hbase:base≤w.heap.size)
  (h:∀v' w',w'.ownsRow base e size v' (n+m) (xs++news)→w.grownBy w' v.ownBlock→(v'.ownBlock=v.ownBlock∨v'.ownBlock=some w.heap.size)→wpList P ops Q rest (a.put o.dst v') w') :
  wpList P ops Q (o::rest) a w:=by
 cases A with
 | some ad =>
  refine wpList_append_own_at w hgd s x t ho base e i z size bytes ht hi hz hsize hby hzs hsz v n xs hs hown ad m c news hx hl (fun j u hj=>?_) h1 h63 hbytes hbase fun v' w' h2 h3 _ h5=>h v' w' h2 h3 h5
  have hm:m≠0:=by
   rintro rfl;have:news=[]:=JZ (by simpa using hl);subst this;simp at hj
  obtain⟨g,o,e1,h2⟩:=hA hm;cases e1;rw [show(⟨g,o,none⟩:Addr).add j=⟨g,o+j,none⟩ by cases j<;>simp [Addr.add]];exact h2 j u hj
 | none =>
  have hm:m=0:=Classical.byContradiction fun hm=>by
   obtain⟨_,_,e1,_⟩:=hA hm;cases e1
  subst hm;have hnews:news=[]:=JZ (by simpa using hl);subst hnews;refine wpList_plain hgd fun K hK'=>?_
  have hrun:=kn (P:=P) w base t o.type e i size c ht hi v n xs hown;unfold Oper.wp;simp [execOp,ho,resolve,invoke,builtin,hs,hx,hrun,Result.andThen];exact hK' _ _ (h v w (by simpa using hown) (World.grownBy.refl _ _) (.inl rfl))
theorem mb {w w0:World} {base:Nat} {e:TypeId} {z n:Nat} {v:Value} {us:List Value} {l:List D} {F:Nat→Prop} (h:w.ownsRow base e z v n us) (hn:l.length=n) (hw:∀d∈l,d.width=z) (hr:bs w0 F l us) (hf:∀d∈l,d.isV=true) :
  bh w (fun _=>False) (aM v) z (.arr z l) v:=by
 subst hn;refine⟨l,rfl,hw,?_⟩
 obtain⟨h1,⟨rfl,h2⟩ | ⟨g,cap,cur,rfl,h3,h4,h5,h6,h7,h8⟩⟩:=h
 ·exact .inl ⟨rfl,JZ h2⟩
 ·refine .inr ⟨g,0,cap,us,cur,e,rfl,h5,h4,by omega,ql l us hf hr,fun i u hi=>?_,rfl⟩
  have hlt:i<l.length*z:=by rw [←h1];exact(Kr.1 hi).1
  rw [←h8,List.getElem?_take,if_pos hlt] at hi;rw [Ks];simpa using hi
theorem mh {w:World} {base:Nat} {e:TypeId} {z n:Nat} {v:Value} {us:List Value} (h:w.ownsRow base e z v n us):∀b,aM v b→base≤b∧b<w.heap.size:=by
 intro b hb;obtain⟨_,⟨rfl,_⟩ | ⟨g,cap,cur,rfl,h3,h4,_⟩⟩:=h
 ·cases hb
 ·have hb':g=b:=Kh hb
  subst hb';exact⟨h3,(KA.1 h4).1⟩
theorem Az {w w':World} {base:Nat} {e:TypeId} {z n:Nat} {v:Value} {us:List Value} (h:w.ownsRow base e z v n us) (hk:∀b,aM v b→w'.heap[b]?=w.heap[b]?):w'.ownsRow base e z v n us:=by
 obtain⟨h1,h2 | ⟨g,cap,cur,rfl,h3,h4,h5⟩⟩:=h
 ·exact⟨h1,.inl h2⟩
 ·exact⟨h1,.inr ⟨g,cap,cur,rfl,h3,(hk g rfl).trans h4,h5⟩⟩
theorem aN {w:World} {base:Nat} {e:TypeId} {z n:Nat} {v:Value} {us:List Value} (h:w.ownsRow base e z v n us):∃A m c,v = .slice A m c:=by
 obtain⟨_,⟨rfl,_⟩ | ⟨g,cap,cur,rfl,_⟩⟩:=h
 ·exact⟨_,_,_,rfl⟩
 ·exact⟨_,_,_,rfl⟩
theorem dj {w:World} {B g:Nat} {e:TypeId} {z:Nat} (h:w.heap[g]?=some (.cells #[] e (0,0))) (hg:B≤g):w.ownsRow B e z (.slice (some ⟨g,0,none⟩) 0 0) 0 [] :=
 ⟨by simp,.inr ⟨g,0,#[],rfl,hg,h,JS _,by unfold maxLen;omega,by simp,by simp⟩⟩
theorem pT {w w':World} {row:Option Nat} {S:Nat→Prop} (h:w.grownBy w' row) (hS:∀b,row=some b→S b):KeptX S w w' :=
 ⟨h.os,h.tape,h.output,h.size,fun b hb hs=>h.block b hb fun e=>hs (hS b e.symm)⟩
theorem oe:∀(l m:List Fm) (ys zs:List Value),ys.length=l.length→bK (l++m) (ys++zs)=bK l ys++bK m zs
 | [],_,[],_,_=>rfl
 | x::l,m,y::ys,zs,h=>by
  simp only [KP,bK,oe l m ys zs (by simpa using h),List.append_assoc]
 | [],_,_::_,_,h=>by simp at h
 | _::_,_,[],_,h=>by simp at h
theorem fw:∀(l:List Fm) (ys:List Value),(∀y∈ys,∃A n c,y = .slice A n c)→∀u∈bK l ys,u.oneCell'=true
 | x::l,y::ys,h,u,hu=>by
  simp only [bK,dL,KP,List.nil_append,Kc] at hu;rcases hu with rfl | rfl | rfl | rfl | hu
  ·rfl
  ·obtain⟨A,n,c,rfl⟩:=h u (by simp)
   rfl
  ·rfl
  ·rfl
  ·exact fw l ys (fun y hy=>h y (by simp [hy])) u hu
 | [],_,_,u,hu=>by simp [bK] at hu
 | _::_,[],_,u,hu=>by simp [bK] at hu
theorem dB {w w':World} {B:Nat} {V V':Value} {ys zs:List Value} {l m:List Fm} (h:FmsAt w B V ys l) (hB:B≤w.heap.size)
  (hown:w'.ownsRow B 42 4 V' (l.length+m.length) (bK l ys++bK m zs)) (hg:w.grownBy w' V.ownBlock) (ha:V'.ownBlock=V.ownBlock∨V'.ownBlock=some w.heap.size)
  (hlen:zs.length=m.length) (hrow:∀(i:Nat) (x:Fm) (y:Value),m[i]?=some x→zs[i]?=some y→bh w (fun _=>False) (aM y) 1 (txs x.2.1) y)
  (hblk:∀(i:Nat) (y:Value) (b:Nat),zs[i]?=some y→aM y b→B≤b∧b<w.heap.size∧¬FmS V ys b)
  (hdis:∀(i j:Nat) (y z:Value),i≠j→zs[i]?=some y→zs[j]?=some z→y.ownBlock=none∨y.ownBlock≠z.ownBlock):FmsAt w' B V' (ys++zs) (l++m):=by
 have hold:=h.lt;have get:∀{j:Nat} {y:Value},(ys++zs)[j]?=some y→(j<ys.length∧ys[j]?=some y)∨(ys.length≤j∧zs[j - ys.length]?=some y):=fun {j y} hj=>by
  by_cases e:j<ys.length
  ·rw [KD e] at hj
   exact .inl ⟨e,hj⟩
  ·rw [KB (by omega)] at hj
   exact .inr ⟨by omega,hj⟩
 have k1:∀{j:Nat} {y:Value},ys[j]?=some y→∀b,aM y b→w'.heap[b]?=w.heap[b]?:=fun {j y} hj b hb=>hg.block b (hold b (.inr ⟨y,Kw hj,hb⟩)).2 fun e=>(h.blk j y b hj hb).2 e.symm
 have k2:∀{j:Nat} {y:Value},zs[j]?=some y→∀b,aM y b→w'.heap[b]?=w.heap[b]?:=fun {j y} hj b hb=>by
  obtain⟨_,h2,h3⟩:=hblk j y b hj hb;exact hg.block b h2 fun e=>h3 (.inl e.symm)
 refine⟨by simp [h.len,hlen],?_,fun j x y hj hyj=>?_,fun j y b hyj hb=>?_,fun i j y z hij hi hj=>?_⟩
 ·rw [Kg,oe _ _ _ _ h.len]
  exact hown
 ·rcases get hyj with ⟨e,hy⟩ | ⟨e,hy⟩
  ·rw [KD (by rw [←h.len];exact e)] at hj
   exact aY (h.row j x y hj hy) (k1 hy)
  ·rw [KB (by rw [←h.len];exact e),←h.len] at hj
   exact aY (hrow _ x y hj hy) (k2 hy)
 ·rcases get hyj with ⟨e,hy⟩ | ⟨e,hy⟩
  ·obtain⟨h2,h3⟩:=h.blk j y b hy hb
   have h4:=(hold b (.inr ⟨y,Kw hy,hb⟩)).2;refine⟨h2,fun e1=>?_⟩
   rcases ha with ha | ha
   ·exact h3 (ha.symm.trans e1)
   ·rw [ha] at e1
    have:=Kh e1;omega
  ·obtain⟨h2,h3,h4⟩:=hblk _ y b hy hb
   refine⟨h2,fun e1=>?_⟩
   rcases ha with ha | ha
   ·exact h4 (.inl (ha.symm.trans e1))
   ·rw [ha] at e1
    have:=Kh e1;omega
 ·have sep:∀{i j:Nat} {y z:Value},ys[i]?=some y→zs[j]?=some z→∀b,aM y b→¬aM z b:=fun {i j y z} hy hz b hb hb2=>(hblk j z b hz hb2).2.2 (.inr ⟨y,Kw hy,hb⟩)
  rcases get hi with ⟨e1,hy⟩ | ⟨e1,hy⟩<;>rcases get hj with ⟨e2,hz⟩ | ⟨e2,hz⟩
  ·exact h.dis i j y z hij hy hz
  ·cases hb:y.ownBlock with
   | none=>exact .inl rfl
   | some b=>exact .inr fun e=>sep hy hz b hb e.symm
  ·cases hb:y.ownBlock with
   | none=>exact .inl rfl
   | some b=>exact .inr fun e=>sep hz hy b e.symm hb
  ·exact hdis _ _ y z (by omega) hy hz
theorem en {w w':World} {B:Nat} {V V':Value} {ys:List Value} {l:List Fm} {x:Fm} {y:Value} (h:FmsAt w B V ys l) (hB:B≤w.heap.size)
  (hown:w'.ownsRow B 42 4 V' (l.length+1) (bK l ys++dL x y)) (hg:w.grownBy w' V.ownBlock) (ha:V'.ownBlock=V.ownBlock∨V'.ownBlock=some w.heap.size)
  (hy:bh w (fun _=>False) (aM y) 1 (txs x.2.1) y) (hb:∀b,aM y b→B≤b∧¬FmS V ys b):FmsAt w' B V' (ys++[y]) (l++[x]):=by
 refine dB h hB (m:=[x]) (zs:=[y]) (by simpa [bK] using hown) hg ha rfl (fun i x' y' hx hy'=>?_) (fun i y' b hy' hb'=>?_) fun i j y' z hij hi hj=>?_
 ·match i,hx,hy' with
  | 0,hx,hy' =>
   cases hx;cases hy';exact hy
 ·match i,hy' with
  | 0,hy' =>
   cases hy';exact⟨(hb b hb').1,dy hy b hb',(hb b hb').2⟩
 ·have h1:=(Kr.1 hi).1
  have h2:=(Kr.1 hj).1;simp at h1 h2;omega
theorem dM {w:World} {g:Nat} {x0 x1 x2 x3:Value} {t:TypeId} (h:w.heap[g]?=some (.cells #[x0,x1,x2,x3] t (0,0))):∀(j:Nat) (u:Value),[x0,x1,x2,x3][j]?=some u→w.cell? ⟨g,0+j,none⟩=some u:=by
 obtain⟨h0,h1,h2,h3⟩:=ab h;intro j u hj;rw [Ks]
 match j,hj with
 | 0,hj=>cases hj;exact h0
 | 1,hj=>cases hj;exact h1
 | 2,hj=>cases hj;exact h2
 | 3,hj=>cases hj;exact h3
theorem gr {w:World} {B g:Nat} (h:w.heap[g]?=some (.cells #[] 42 (0,0))) (hg:B≤g):FmsAt w B (.slice (some ⟨g,0,none⟩) 0 0) [] [] :=
 ⟨rfl,dj h hg,fun i x y hx=>by simp at hx,fun i y b hy=>by simp at hy,fun i j y z _ hi=>by simp at hi⟩
theorem lw (w:World) (B:Nat):FmsAt w B (.slice none 0 0) [] [] :=
 ⟨rfl,⟨rfl,.inl ⟨rfl,rfl⟩⟩,fun i x y hx=>by simp at hx,fun i y b hy=>by simp at hy,fun i j y z _ hi=>by simp at hi⟩
theorem nl {w:World} {F:Nat→Prop}:∀(l:List D) (us:List Value),(∀d∈l,d.single=true∨∃m,d = .agg m)→bs w F l us→∀u∈us,u.oneCell'=true
 | [],us,_,h,u,hu=>by
  rw [aJ.1 h] at hu;simp at hu
 | d::l,us,hd,h,u,hu=>by
  obtain⟨v1,v2,rfl,h1,h2⟩:=aw.1 h;rcases KF.1 hu with hu | hu
  ·rcases hd d (by simp) with hs | ⟨m,rfl⟩
   ·obtain⟨y,rfl,_,h3⟩:=je d v1 hs h1
    rw [List.mem_singleton.1 hu];exact h3
   ·simp only [RepC] at h1
    exact((ce m v1 h1.2 h1.1).2.1 u hu).1
  ·exact nl l v2 (fun e he=>hd e (by simp [he])) h2 u hu
theorem jE {w:World} {F:Nat→Prop} {z:Nat} {l:List D} {A:Option Addr} {n c:Nat} (h:aT w F (.arr z l) (.slice A n c)) (hk:∀d∈l,d.single=true∨∃m,d = .agg m) :
  ∃us,n=l.length∧us.length=n*z∧bs w F l us∧(∀d∈l,d.width=z)∧(∀u∈us,u.oneCell'=true)∧(n≠0→∃g o,A=some ⟨g,o,none⟩∧F g∧∀(j:Nat) (u:Value),us[j]?=some u→w.cell? ⟨g,o+j,none⟩=some u):=by
 obtain⟨A',c',us,e,hc,hr,hw,hA⟩:=h;simp only [List.cons.injEq,and_true,Value.slice.injEq] at e;obtain⟨rfl,rfl,rfl⟩:=e;refine⟨us,rfl,cP l us hr hw,hr,hw,nl l us hk hr,fun h0=>?_⟩
 obtain⟨b,o,e,hF,hcell⟩:=hA (fun e=>h0 (by rw [e];rfl));exact⟨b,o,e,hF,fun j u hj=>hcell j u hj⟩
def tz (w:World) (B:Nat) (v:Value) (s:Sp):Prop:=∃Vb Vf ys,ShopAt w B v Vb Vf ys s
def JG (w:World) (B:Nat) (V:Value) (l:List Fm):Prop:=∃ys,FmsAt w B V ys l
set_option maxRecDepth 100000
def Hid (p:Prop):Prop:=p
theorem Hid.out {p:Prop} (h:Hid p):p:=h
theorem aK {w':World} {g:Nat} {y0 y1 y2 y3:Value} {t:TypeId} (x0 x1 x2 x3:Value) (h:w'.heap[g]?=some (.cells #[y0,y1,y2,y3] t (0,0))):((((w'.setCell ⟨g,0,none⟩ x0).setCell ⟨g,1,none⟩ x1).setCell ⟨g,2,none⟩ x2).setCell ⟨g,3,none⟩ x3).heap[g]?=some (.cells #[x0,x1,x2,x3] t (0,0)):=by
 rw [heap_setCell_same _ _ _ _ _ _ (heap_setCell_same _ _ _ _ _ _ (heap_setCell_same _ _ _ _ _ _ (heap_setCell_same _ _ _ _ _ _ h)))];rfl
theorem kg {w':World} {b g:Nat} (x0 x1 x2 x3:Value) (hg:g≠b):((((w'.setCell ⟨g,0,none⟩ x0).setCell ⟨g,1,none⟩ x1).setCell ⟨g,2,none⟩ x2).setCell ⟨g,3,none⟩ x3).heap[b]?=w'.heap[b]?:=by
 rw [heap_setCell_other _ _ _ _ (by simp;omega),heap_setCell_other _ _ _ _ (by simp;omega),heap_setCell_other _ _ _ _ (by simp;omega),heap_setCell_other _ _ _ _ (by simp;omega)]
theorem ct {w w':World} {B g:Nat} (x0 x1 x2 x3:Value) (h:Below B w w') (hg:B≤g):Below B w ((((w'.setCell ⟨g,0,none⟩ x0).setCell ⟨g,1,none⟩ x1).setCell ⟨g,2,none⟩ x2).setCell ⟨g,3,none⟩ x3) :=
 (((h.setCell hg _).setCell hg _).setCell hg _).setCell hg _
theorem ShopAt.set4 {w':World} {B g:Nat} {v Vb Vf:Value} {ys:List Value} {s:Sp} (x0 x1 x2 x3:Value) (h:ShopAt w' B v Vb Vf ys s) (hg:∀b,ShS Vb Vf ys b→g≠b):ShopAt ((((w'.setCell ⟨g,0,none⟩ x0).setCell ⟨g,1,none⟩ x1).setCell ⟨g,2,none⟩ x2).setCell ⟨g,3,none⟩ x3) B v Vb Vf ys s :=
 h.keep fun b hb=>kg _ _ _ _ (hg b hb)
theorem aZ {w:World} {b:Nat} {cs:Array Value} {t:TypeId} (h:w.heap[b]?=some (.cells cs t (0,0))):w.frozen? ⟨b,0,none⟩=false∧w.frozen? ⟨b,1,none⟩=false∧w.frozen? ⟨b,2,none⟩=false∧w.frozen? ⟨b,3,none⟩=false :=
 ⟨JM h 0,JM h 1,JM h 2,JM h 3⟩
theorem zI:(Tryd.prog.info? 70).map (fun i=>(i.zero,i.size,i.bytes))=some (some (.agg #[.string ⟨#[]⟩,.int .i64 0,.int .i64 0,.int .i64 0]),4,40):=by kernel_rfl
theorem xv:(Tryd.prog.info? 9).map (fun i=>(i.zero,i.size,i.bytes))=some (some (.string ⟨#[]⟩),1,16):=by kernel_rfl
theorem uj {l:List Bx}:∀d∈l.map bx,d.single=true∨∃m,d = .agg m:=fun d hd=>by
 obtain⟨x,_,rfl⟩:=Kj.1 hd;exact .inr ⟨_,rfl⟩
theorem Ew {l:List Bx}:∀d∈l.map bx,d.isV=true:=fun d hd=>by
 obtain⟨x,_,rfl⟩:=Kj.1 hd;rfl
theorem Ha {l:List ByteArray}:∀d∈l.map T,d.single=true∨∃m,d = .agg m:=fun d hd=>by
 obtain⟨x,_,rfl⟩:=Kj.1 hd;exact .inl rfl
theorem BU {l:List ByteArray}:∀d∈l.map T,d.isV=true:=fun d hd=>by
 obtain⟨x,_,rfl⟩:=Kj.1 hd;rfl
theorem uf {l:List Fm}:∀d∈l.map fm,d.single=true∨∃m,d = .agg m:=fun d hd=>by
 obtain⟨x,_,rfl⟩:=Kj.1 hd;exact .inr ⟨_,rfl⟩
set_option maxHeartbeats 4000000 in
set_option maxRecDepth 1000000 in
theorem uN (s:Sp) (hs:cm s) (v0:Value) (w:World) (F:Nat→Prop) (hr:aT w F (sp s) v0) (hF:∀b,F b→b<w.heap.size) :
  Calls Tryd.prog 21 #[v0] w fun e w'=>∃v,e = .returned v∧tz w' w.heap.size v s∧Below w.heap.size w w':=by
 obtain⟨A,n,c,A',n',c',rfl,hb,hf⟩:=jZ hr;obtain⟨i0,hi0,hz0,hz1,hz2⟩:=info_parts zI;obtain⟨us,hn,hul,hus,huw,hu1,huA⟩:=jE hb uj;obtain⟨us2,hn2,hul2,hus2,_,_,huA2⟩:=jE hf uf;rw [JL] at hn hn2;subst hn hn2;have hbl:=hs.1.1
 go_enter Tryd.func21,Tryd.ntmps21
 have hb3:∀a b c,Below w.heap.size w (((w.alloc a).alloc b).alloc c):=fun a b c=>(((KQ _ w).alloc (JS _) _).alloc (by simp) _).alloc (by simp;omega) _
 have hA3:∀a b c,(s.1.length≠0→∃g o,A=some ⟨g,o,none⟩∧∀(j:Nat) (u:Value),us[j]?=some u→(((w.alloc a).alloc b).alloc c).cell? ⟨g,o+j,none⟩=some u):=fun a b c h0=>by
  obtain⟨g,o,e,hFg,h1⟩:=huA h0;exact⟨g,o,e,fun j u hj=>(Kx (w:=w) ((hb3 a b c).block g (hF g hFg))).trans (h1 j u hj)⟩
 go_wp2_with (at_builtin;refine cJ _ rfl _ _ 23 rfl (w.heap.size+2) 70 i0 (.agg #[.string ⟨#[]⟩,.int .i64 0,.int .i64 0,.int .i64 0]) 4 40 Tryd.underlying23 hi0 hz0 hz1 hz2 rfl (by decide) (.slice (some ⟨w.heap.size+1+1,0,none⟩) 0 0) 0 [] rfl (dj (al _ (by simp)) (by omega)) A s.1.length c us (by simp [go_sem]) hul (hA3 _ _ _) hu1 (by unfold maxLen;omega) (by omega) (by simp) ?_)
 intro v1 w4 hown1 hg1 hat1;have own1:bh w4 (fun _=>False) (aM v1) 4 (bxs s.1) v1:=mb hown1 (by simp) huw hus Ew;have hv1:=mh hown1;obtain⟨A1,n1,c1,rfl⟩:=aN hown1;have H1:w4.heap[w.heap.size]?=some (.cells #[.slice A s.1.length c,.slice A' s.2.1.length c',.int .i64 s.2.2.1,.int .i64 s.2.2.2] 26 (0,0)):=(hg1.block _ (by simp;omega) (by simp [KI];omega)).trans (aj _ (aj _ (al _ rfl)));have H2:w4.heap[w.heap.size+1]?=some (.cells #[.slice none 0 0,.slice none 0 0,.int .i64 0,.int .i64 0] 26 (0,0)):=(hg1.block _ (by simp) (by simp [KI])).trans (aj _ (al _ (by simp)));have B4:Below w.heap.size w w4:=(hb3 _ _ _).grown hg1 (by simp;omega) (fun k hk=>by have:w.heap.size+1+1=k:=Kh hk;omega);have S4:w.heap.size+1+1<w4.heap.size:=by have:=hg1.size;simp at this;omega
 have f10:=JM H1 0;have c10:=Lib.cell_of_heap H1 0;simp only [List.getElem?_toArray,List.getElem?_cons_zero,List.getElem?_cons_succ] at c10;have H1':=aj (.cells #[] 42) (heap_setCell_same _ _ 0 _ _ (.slice A1 n1 c1) H1);have H2':=aj (.cells #[] 42) ((heap_setCell_other w4 ⟨w.heap.size,0,none⟩ (w.heap.size+1) (.slice A1 n1 c1) (by simp)).trans H2);simp only [List.setIfInBounds_toArray,List.set_cons_zero] at H1';have own5:=aY (w':=(w4.setCell ⟨w.heap.size,0,none⟩ (.slice A1 n1 c1)).alloc (.cells #[] 42)) own1 fun b hb=>by
  have:=hv1 b hb;rw [fk _ (by simp [JY];omega),heap_setCell_other _ _ _ _ (by simp;omega)]
 have B5:Below w.heap.size w ((w4.setCell ⟨w.heap.size,0,none⟩ (.slice A1 n1 c1)).alloc (.cells #[] 42)):=(B4.setCell (by simp) _).alloc (by simp [JY];omega) _;have S5:((w4.setCell ⟨w.heap.size,0,none⟩ (.slice A1 n1 c1)).alloc (.cells #[] 42)).heap.size=w4.heap.size+1:=by simp [JY]
 have HF:FmsAt ((w4.setCell ⟨w.heap.size,0,none⟩ (.slice A1 n1 c1)).alloc (.cells #[] 42)) w4.heap.size (.slice (some ⟨w4.heap.size,0,none⟩) 0 0) [] []:=gr (al _ (by simp [JY])) (JS _);have c11:=(ab H1').2.1
 go_wp2
 generalize (w4.setCell ⟨w.heap.size,0,none⟩ (.slice A1 n1 c1)).alloc (.cells #[] 42)=w5 at *;clear H1 H2 f10 c10 hg1 hat1 hown1 own1 B4 hA3 huA hus hul hu1 huw hb hb3;obtain⟨i1,hi1,hy0,hy1,hy2⟩:=info_parts xv;obtain⟨i2,hi2,hx0,hx1,hx2⟩:=info_parts ij;have hln:=hs.2.1
 go_loopw [3,15] (fun vf vi wr=>∃i:Nat,vi = .int .i64 i∧i≤s.2.1.length∧JG wr w4.heap.size vf (s.2.1.take i)∧Below w4.heap.size w5 wr) (fun _ vi _=>s.2.1.length - (intOf vi).toNat)
 case atStart =>
  exact⟨0,rfl,Ky _,⟨[],by simpa using HF⟩,KQ _ _⟩
 case round =>
  obtain⟨i,rfl,hin,⟨ys,hFr⟩,hBr⟩:=hrel;have hsz:=hBr.size;by_cases hp:i<s.2.1.length
  ·have hpi:(i:Int)<(s.2.1.length:Int):=by omega
   have hBw:Below w.heap.size w wr:=B5.trans (hBr.mono (by omega));obtain⟨b,o,rfl,hFb,hcell⟩:=huA2 (by omega);obtain⟨Ax,nx,cx,u0,u1,u2,u3,hry⟩:=vy hus2 hp;have hcb:∀{k:Nat} {u:Value},us2[k]?=some u→wr.cell? ⟨b,o+k,none⟩=some u:=fun {k u} hu=>(Kx (w:=w) (hBw.block b (hF b hFb))).trans (hcell k u hu)
   have k0:=hcb u0;have k1:=hcb u1;have k2:=hcb u2;have k3:=hcb u3;simp only [←Nat.add_assoc] at k1 k2 k3;have hxl:=hs.2.2 s.2.1[i] (JO hp);have htk:=JU hp;generalize s.2.1[i]=x at *;obtain⟨ux,hnx,hxl2,hux,hxw,hx1c,hxA⟩:=jE hry Ha;rw [JL] at hnx;subst hnx;have hxA':∀p q,(x.2.1.length≠0→∃g o,Ax=some ⟨g,o,none⟩∧∀(j:Nat) (u:Value),ux[j]?=some u→((wr.alloc p).alloc q).cell? ⟨g,o+j,none⟩=some u):=fun p q h0=>by
    obtain⟨g,o,e,hFg,h1⟩:=hxA h0;exact⟨g,o,e,fun j u hj=>(Kx (w:=w) (((hBw.alloc (by omega) _).alloc (by simp;omega) _).block g (hF g hFg))).trans (h1 j u hj)⟩
   obtain⟨Vg,Vn,Vc,rfl⟩:=aN hFr.own
   go_wp2_with (at_builtin;refine cJ _ rfl _ _ 40 rfl (wr.heap.size+1) 9 i1 (.string ⟨#[]⟩) 1 16 Tryd.underlying40 hi1 hy0 hy1 hy2 rfl (by decide) (.slice (some ⟨wr.heap.size+1,0,none⟩) 0 0) 0 [] rfl (dj (al _ (by simp)) (by omega)) Ax x.2.1.length cx ux (by simp [go_sem]) hxl2 (hxA' _ _) hx1c (by unfold maxLen;omega) (by omega) (by simp) ?_)
   intro v2 w6 hown2 hg2 hat2;have own2:bh w6 (fun _=>False) (aM v2) 1 (txs x.2.1) v2:=mb hown2 (by simp) hxw hux BU;have hv2:=mh hown2;obtain⟨A2,n2,c2,rfl⟩:=aN hown2;have G1:w6.heap[wr.heap.size]?=some (.cells #[.int .i64 x.1,.slice Ax x.2.1.length cx,.bool x.2.2.1,.int .i64 x.2.2.2] 42 (0,0)):=(hg2.block _ (by simp;omega) (by simp [KI])).trans (aj _ (al _ rfl));have b6:Below wr.heap.size wr w6:=(((KQ _ wr).alloc (JS _) _).alloc (by simp) _).grown hg2 (by simp;omega) (fun k hk=>by have:wr.heap.size+1=k:=Kh hk;omega);have S6:wr.heap.size+1<w6.heap.size:=by have:=hg2.size;simp at this;omega
   have fg1:=JM G1 1;have cg1:=(ab G1).2.1;have G2:(w6.setCell ⟨wr.heap.size,1,none⟩ (.slice A2 n2 c2)).heap[wr.heap.size]?=some (.cells #[.int .i64 x.1,.slice A2 n2 c2,.bool x.2.2.1,.int .i64 x.2.2.2] 42 (0,0)):=heap_setCell_same _ _ 1 _ _ (.slice A2 n2 c2) G1;obtain⟨e0,e1,e2,e3⟩:=ab G2;have b8:Below wr.heap.size wr ((w6.setCell ⟨wr.heap.size,1,none⟩ (.slice A2 n2 c2)).alloc (.cells #[.int .i64 x.1,.slice A2 n2 c2,.bool x.2.2.1,.int .i64 x.2.2.2] 42)):=(b6.setCell (JS _) _).alloc (by simp [JY];omega) _;have hFlt:=hFr.lt;have hF8:=hFr.keep (w':=(w6.setCell ⟨wr.heap.size,1,none⟩ (.slice A2 n2 c2)).alloc (.cells #[.int .i64 x.1,.slice A2 n2 c2,.bool x.2.2.1,.int .i64 x.2.2.2] 42)) fun b hb=>b8.block b (hFlt b hb).2
   have own8:=aY (w':=(w6.setCell ⟨wr.heap.size,1,none⟩ (.slice A2 n2 c2)).alloc (.cells #[.int .i64 x.1,.slice A2 n2 c2,.bool x.2.2.1,.int .i64 x.2.2.2] 42)) own2 fun b hb=>by
    have:=hv2 b hb;rw [fk _ (by simp [JY];omega),heap_setCell_other _ _ _ _ (by simp;omega)]
   have hl8:(s.2.1.take i).length=i:=by rw [Kl];omega
   have S8:w4.heap.size≤((w6.setCell ⟨wr.heap.size,1,none⟩ (.slice A2 n2 c2)).alloc (.cells #[.int .i64 x.1,.slice A2 n2 c2,.bool x.2.2.1,.int .i64 x.2.2.2] 42)).heap.size:=by simp [JY];omega
   go_wp2_with (at_builtin;refine cJ _ rfl _ _ 24 rfl w4.heap.size 42 i2 (.agg #[.int .i64 0,.slice none 0 0,.bool false,.int .i64 0]) 4 48 Tryd.underlying24 hi2 hx0 hx1 hx2 rfl (by decide) (.slice Vg Vn Vc) _ _ rfl hF8.own (some ⟨w6.heap.size,0,none⟩) 1 1 [.int .i64 x.1,.slice A2 n2 c2,.bool x.2.2.1,.int .i64 x.2.2.2] (by simp [go_sem]) rfl (fun _=>⟨_,_,rfl,dM (al _ (by simp [JY]))⟩) (by intro u hu;simp at hu;rcases hu with rfl | rfl | rfl | rfl<;>rfl) (by unfold maxLen;omega) (by omega) S8 ?_)
   intro v3 w9 hown9 hg9 hat9;have hF9:=en (x:=x) (y:=.slice A2 n2 c2) hF8 S8 (by rw [hl8];exact hown9) hg9 (by simpa [JY] using hat9) own8 (fun b hb=>⟨by have:=(hv2 b hb).1;omega,fun h=>by have:=(hv2 b hb).1;have:=(hFlt b h).2;omega⟩);rw [←htk] at hF9;have hB9:Below w4.heap.size w5 w9:=(hBr.trans (b8.mono (by omega))).grown hg9 S8 (fun k hk=>(hFlt k (.inl hk)).1)
   go_wp2
   refine⟨⟨i+1,congrArg (Kk .i64) (by omega),by omega,⟨_,hF9⟩,hB9⟩,?_⟩
   show s.2.1.length - ((i:Int)+1).toNat<s.2.1.length - (i:Int).toNat
   omega
  ·have hpi:¬(i:Int)<(s.2.1.length:Int):=by omega
   have hie:i=s.2.1.length:=by omega
   subst hie;rw [List.take_length] at hFr;have hFlt:=hFr.lt;obtain⟨Vg,Vn,Vc,rfl⟩:=aN hFr.own;have hBw:Below w.heap.size w wr:=B5.trans (hBr.mono (by omega));have K1:=(hBr.block _ (by omega)).trans H1';have K2:=(hBr.block _ (by omega)).trans H2';have own9:=aY (w':=wr) own5 fun b hb=>hBr.block b (hv1 b hb).2
   have f1:=JM K1 1;have ck1:=(ab K1).2.1;have K3:(wr.setCell ⟨w.heap.size,1,none⟩ (.slice Vg Vn Vc)).heap[w.heap.size]?=some (.cells #[.slice A1 n1 c1,.slice Vg Vn Vc,.int .i64 s.2.2.1,.int .i64 s.2.2.2] 26 (0,0)):=heap_setCell_same _ _ 1 _ _ (.slice Vg Vn Vc) K1;have K4:(wr.setCell ⟨w.heap.size,1,none⟩ (.slice Vg Vn Vc)).heap[w.heap.size+1]?=some (.cells #[.slice none 0 0,.slice none 0 0,.int .i64 0,.int .i64 0] 26 (0,0)):=(heap_setCell_other _ _ _ _ (by simp)).trans K2;obtain⟨d0,d1,d2,d3⟩:=ab K3;obtain⟨e0,e1,e2,e3⟩:=ab K4;have g0:=JM K4 0;have g1:=JM K4 1;have g2:=JM K4 2;have g3:=JM K4 3;have hS:ShopAt wr w.heap.size (.agg #[.slice A1 n1 c1,.slice Vg Vn Vc,.int .i64 s.2.2.1,.int .i64 s.2.2.2]) (.slice A1 n1 c1) (.slice Vg Vn Vc) ys s :=
    ⟨rfl,own9,fun b hb=>by have:=(hv1 b hb).1;omega,hFr.base (by omega),fun b hb h=>by have:=(hv1 b hb).2;have:=(hFlt b h).1;omega⟩
   have hL:∀b,ShS (.slice A1 n1 c1) (.slice Vg Vn Vc) ys b→w.heap.size+1<b:=fun b hb=>by
    rcases hb with hb | hb
    ·have:=(hv1 b hb).1
     omega
    ·have:=(hFlt b hb).1
     omega
   have hS1:=hS.keep (w':=wr.setCell ⟨w.heap.size,1,none⟩ (.slice Vg Vn Vc)) fun b hb=>heap_setCell_other _ _ _ _ (by have:=hL b hb;simp;omega)
   have hB1:Below w.heap.size w (wr.setCell ⟨w.heap.size,1,none⟩ (.slice Vg Vn Vc)):=hBw.setCell (by simp) _
   go_wp2
   generalize wr.setCell ⟨w.heap.size,1,none⟩ (.slice Vg Vn Vc)=W7 at *;have H11:((((W7.setCell ⟨w.heap.size+1,0,none⟩ (.slice A1 n1 c1)).setCell ⟨w.heap.size+1,1,none⟩ (.slice Vg Vn Vc)).setCell ⟨w.heap.size+1,2,none⟩ (.int .i64 s.2.2.1)).setCell ⟨w.heap.size+1,3,none⟩ (.int .i64 s.2.2.2)).heap[w.heap.size+1]?=some (.cells #[.slice A1 n1 c1,.slice Vg Vn Vc,.int .i64 s.2.2.1,.int .i64 s.2.2.2] 26 (0,0)):=by
    rw [heap_setCell_same _ _ _ _ _ _ (heap_setCell_same _ _ _ _ _ _ (heap_setCell_same _ _ _ _ _ _ (heap_setCell_same _ _ _ _ _ _ K4)))];rfl
   obtain⟨d0,d1,d2,d3⟩:=ab H11;refine bodyPost_ret (by simp [results,Tryd.results21,go_sem,d0,d1,d2,d3];try rfl) rfl ?_
   refine⟨_,rfl,⟨_,_,ys,hS1.keep fun b hb=>?_⟩,(((hB1.setCell (by simp) _).setCell (by simp) _).setCell (by simp) _).setCell (by simp) _⟩
   have:=hL b hb;rw [heap_setCell_other _ _ _ _ (by simp;omega),heap_setCell_other _ _ _ _ (by simp;omega),heap_setCell_other _ _ _ _ (by simp;omega),heap_setCell_other _ _ _ _ (by simp;omega)]
set_option maxRecDepth 100000
def GT (w:World) (z:Nat) (d:D) (b:Value) (e:Ending) (w':World):Prop:=∃A n c,e = .returned (.tuple #[.slice A n c,b])∧bh w' (fun _=>False) (aM (.slice A n c)) z d (.slice A n c)∧(∀b,aM (.slice A n c) b→w.heap.size≤b∧b<w'.heap.size)∧Below w.heap.size w w'
theorem qm {f:Nat} {z:Nat} {pm:List Kd} {ff:List D→Option Out} {ds:List D} {d:D} {b:Value} {args:Array Value} (he:∀args w,(callFunc f args).run Tryd.prog w = .ok (.enter f args) w) (hm:aF gl0 Tryd.prog f {pm:=pm,rm:=[.own z 0 false,.dat 0],f:=ff}) (hd:ff ds=some (.ret [d,.v b] [])) (hbad:d ≠ .bad) {w:World} {F:Nat→Prop}
  (ha:cM w F (fun _=>none) 0 pm ds args.toList) (hF:∀b,F b→b<w.heap.size) :
  Calls Tryd.prog f args w (GT w z d b):=by
 refine(eE (ow:=fun _=>none) (F:=F) (ds:=ds) (rs:=[d,.v b]) (us:=[]) (args:=args) he hm hd oa ha (fun b hb=>⟨hF b hb,rfl⟩) (fun b i h=>by cases h)).mono ?_
 rintro e w' ⟨v,rfl,F',R,vs,rfl,hp⟩;have hl:=hp.len;obtain⟨u,u2,rfl⟩:=GA (hl.trans rfl);have h0:=hp.res 0;have h1:=hp.res 1;rcases h0 with h0 | h0
 ·exact absurd h0 hbad
 rcases h1 with h1 | h1
 ·cases h1
 obtain⟨hu2,_⟩:=eT.1 h1;have hu2':u2=b:=hu2;subst hu2';obtain⟨m,e1,h2,h3⟩:=h0;have hB:Below w.heap.size w w':=⟨hp.os,hp.tape,hp.output,hp.size,fun b hb=>hp.keep b hb rfl⟩
 rcases h3 with ⟨h3,h30⟩ | ⟨g,o,c,us,cs,e,h4,h5,h6,h7,h8,h9,_,h11⟩
 ·have h3':u = .slice none 0 0:=h3
  subst h3';exact⟨_,_,_,rfl,⟨m,e1,h2,.inl ⟨rfl,h30⟩⟩,(fun b hb=>by cases hb),hB⟩
 ·have h4':u = .slice (some ⟨g,o,none⟩) m.length c:=h4
  subst h4';refine⟨_,_,_,rfl,⟨m,e1,h2,.inr ⟨g,o,c,us,cs,e,rfl,h5,h6,h7,aX (fun b hb=>hb.elim) (fun b hb=>hb.elim) _ _ h8,h9,rfl⟩⟩,fun b hb=>?_,hB⟩
  have hb':g=b:=Kh hb;subst hb';exact⟨h11,(KA.1 h6).1⟩
def mvd (l:List Bx) (cs:List ByteArray) (by_:Int):List Bx:=if bp (bE (aU l) by_ l cs)=true then bE (aU l) by_ l cs else []
theorem Hp (l:List Bx) (cs:List ByteArray) (by_:Int):(if bp (bE (aU l) by_ l cs)=true then bxs (bE (aU l) by_ l cs) else .arr 4 [])=bxs (mvd l cs by_):=by
 unfold mvd;split<;>rfl
theorem tN (l:List Bx) (codes:List ByteArray) (h:oO l) (hl:codes.length≤60) (hg:bp l=true) (hc:∀c∈codes,∃k:Nat,fC (aU l) c=k∧k<l.length) :
  jj [bxs l,txs codes]=some (.ret [if bp (bE (aU l) 1 l codes)=true then bxs (bE (aU l) 1 l codes) else .arr 4 [],B (bp (bE (aU l) 1 l codes))] []):=by
 rw [tM];have e:=vg l codes 1 h hl hg hc;cases hq:bp (bE (aU l) 1 l codes)<;>rw [hq] at e<;>simp -implicitDefEqProofs at e<;>simp -implicitDefEqProofs [e]
theorem wo (l:List Bx) (codes:List ByteArray) (h:oO l) (hl:codes.length≤60) (hg:bp l=true) (hc:∀c∈codes,∃k:Nat,fC (aU l) c=k∧k<l.length) {w:World} {F F':Nat→Prop} {y y':Value} (hr:aT w F (bxs l) y) (hF:∀b,F b→b<w.heap.size) (hr':aT w F' (txs codes) y') (hF':∀b,F' b→b<w.heap.size) :
  Calls Tryd.prog 22 #[y,y'] w (GT w 4 (bxs (mvd l codes 1)) (.bool (bp (bE (aU l) 1 l codes)))) :=
 qm (ds:=[bxs l,txs codes]) (F:=fun b=>F b∨F' b) (Kp Tryd.func22 (by kernel_rfl) rfl) tF (by rw [←Hp];exact tN l codes h hl hg hc) (by simp)
  (show eZ w (fun b=>F b∨F' b) _ (.dat 2) (bxs l) y∧eZ w _ _ (.dat 2) (txs codes) y'∧True from⟨.inr (aQ (fun _ h=>.inl h) (fun _ _=>rfl) hr),.inr (aQ (fun _ h=>.inr h) (fun _ _=>rfl) hr'),trivial⟩) (fun b hb=>hb.elim (hF b) (hF' b))
theorem mS (l:List Bx) (codes:List ByteArray) (by_:Int) (h:oO l) (hl:codes.length≤1048576) (hc:∀c∈codes,∃k:Nat,fC (aU l) c=k∧k<l.length) {w:World} {F F':Nat→Prop} {y y':Value} (hr:aT w F (bxs l) y) (hF:∀b,F b→b<w.heap.size) (hr':aT w F' (txs codes) y') (hF':∀b,F' b→b<w.heap.size) :
  Calls Tryd.prog 25 #[y,y',.int .i64 by_] w (GT w 4 (bxs (mvd l codes by_)) (.bool (bp (bE (aU l) by_ l codes)))) :=
 qm (ds:=[bxs l,txs codes,I by_]) (F:=fun b=>F b∨F' b) (Kp Tryd.func25 (by kernel_rfl) rfl) wz (by rw [←Hp];exact wX l codes by_ h hl hc) (by simp)
  (show eZ w (fun b=>F b∨F' b) _ (.dat 2) (bxs l) y∧eZ w _ _ (.dat 2) (txs codes) y'∧eZ w _ _ (.dat 0) (I by_) (.int .i64 by_)∧True from⟨.inr (aQ (fun _ h=>.inl h) (fun _ _=>rfl) hr),.inr (aQ (fun _ h=>.inr h) (fun _ _=>rfl) hr'),.inr (eT.2 ⟨rfl,rfl⟩),trivial⟩) (fun b hb=>hb.elim (hF b) (hF' b))
theorem vu {f:Nat} {ff:List D→Option Out} {a:D} {b:Value} (he:∀args w,(callFunc f args).run Tryd.prog w = .ok (.enter f args) w) (hm:aF gl0 Tryd.prog f {pm:=[.dat 2],rm:=[.dat 0],f:=ff}) (hd:ff [a]=some (.ret [.v b] [])) {w:World} {F:Nat→Prop} {y:Value} (hr:aT w F a y) (hF:∀b,F b→b<w.heap.size) :
  Calls Tryd.prog f #[y] w fun e w'=>e = .returned b∧Below w.heap.size w w' :=
 nG he hm ff rfl hd rfl oa (show eZ w F _ (.dat 2) a y∧True from⟨.inr hr,trivial⟩) hF
theorem ta (s:Sp) (h:cm s) {w:World} {F:Nat→Prop} {y:Value} (hr:aT w F (sp s) y) (hF:∀b,F b→b<w.heap.size) :
  Calls Tryd.prog 23 #[y] w fun e w'=>e = .returned (.bool (aE s))∧Below w.heap.size w w' :=
 vu (Kp Tryd.func23 (by kernel_rfl) rfl) iQ (eN s h) hr hF
theorem Ai (s:Sp) (h:cm s) {w:World} {F:Nat→Prop} {y:Value} (hr:aT w F (sp s) y) (hF:∀b,F b→b<w.heap.size) :
  Calls Tryd.prog 13 #[y] w fun e w'=>e = .returned (.bool (aE s))∧Below w.heap.size w w' :=
 vu (Kp Tryd.func13 (by kernel_rfl) rfl) eL (cL s h) hr hF
theorem yC {l:List Bx} {x:Fm} (h:eF l x=true):∀c∈x.2.1,∃k:Nat,fC (aU l) c=k∧k<l.length:=by
 intro c hc;unfold eF at h;simp only [JK] at h;have h1:=h.2;unfold kf at h1;obtain⟨j,hj,rfl⟩:=List.mem_iff_getElem.1 hc;have h2:=tZ h1 j hj;simp only [Ki,decide_eq_false_iff_not,Cb] at h2;rcases Ep (cs:=aU l) (c:=x.2.1[j]) with ⟨e,_⟩ | ⟨k,hk,e1,_⟩
 ·rw [e] at h2
  omega
 ·exact⟨k,e1,by simpa using hk⟩
def mvs (l:List Bx) (fs:List Fm):List Bx:=fs.foldl (fun m f=>bE (aU m) 1 m f.2.1) l
theorem lJ:∀(fs:List Fm) (l:List Bx),aU (mvs l fs)=aU l
 | [],_=>rfl
 | f::fs,l=>by
  show aU (mvs (bE (aU l) 1 l f.2.1) fs)=aU l
  rw [lJ fs,eo]
theorem yS (l:List Bx) (fs:List Fm) (f:Fm):mvs l (fs++[f])=bE (aU (mvs l fs)) 1 (mvs l fs) f.2.1:=by
 unfold mvs;rw [KO];rfl
theorem Cj (l:List Bx) (fs:List Fm):(mvs l fs).length=l.length:=by
 have:=congrArg Kt (lJ fs l);simpa using this
def tW (s:Sp):Prop:=aE s=true∧∀j,j<s.2.1.length→bp (mvs s.1 (s.2.1.take (j+1)))=true
open Classical in
def nT (s:Sp):Bool:=decide (tW s)
open Classical in
def kc (s:Sp):Sp:=if tW s then(mvs s.1 s.2.1,[],s.2.2.1,s.2.2.2) else([],[],0,0)
theorem um {s:Sp} (h:¬tW s):nT s=false∧kc s=([],[],0,0):=⟨by simp [nT,h],by simp [kc,h]⟩
theorem xQ {s:Sp} (h:tW s):nT s=true∧kc s=(mvs s.1 s.2.1,[],s.2.2.1,s.2.2.2):=⟨by simp [nT,h],by simp [kc,h]⟩
theorem iy (w:World) (B:Nat):tz w B (.agg #[.slice none 0 0,.slice none 0 0,.int .i64 0,.int .i64 0]) ([],[],0,0) :=
 ⟨_,_,[],rfl,kI _ _ _ _,(fun b hb=>by cases hb),lw _ _,(fun b hb=>by cases hb)⟩
def Je (w:World) (p B:Nat) (X:Nat→Prop) (Vf:Value) (x y:Int) (l:List Bx):Prop :=
 ∃A n c,w.heap[p]?=some (.cells #[.slice A n c,Vf,.int .i64 x,.int .i64 y] 26 (0,0))∧bh w (fun _=>False) (aM (.slice A n c)) 4 (bxs l) (.slice A n c)∧∀b,aM (.slice A n c) b→B≤b∧¬X b
set_option maxRecDepth 100000
abbrev Stp:=Int × Int × ByteArray × Int
abbrev stp (x:Stp):D:=.agg [I x.1,I x.2.1,T x.2.2.1,I x.2.2.2]
def gw (x:Stp):Bool:=decide (1≤x.2.1∧x.2.1≤99)&&(if x.1=1 then ex x.2.2.1 1 16&&decide (x.2.2.2=0) else if x.1=3 then decide (x.2.2.1=⟨⟨[]⟩⟩)&&decide (1≤x.2.2.2∧x.2.2.2≤1000)
 else if x.1=2∨x.1=4∨x.1=5∨x.1=6 then decide (x.2.2.1=⟨⟨[]⟩⟩)&&decide (x.2.2.2=0) else false)
theorem wx (x:Stp) (h:x.2.2.1.size≤9223372036854775807):iP [stp x]=some (.ret [B (gw x)] []):=by
 rw [wu];obtain⟨k,i,w,n⟩:=x;have hw:=wA w h;simp only [gw];by_cases hi:1≤i∧i≤99
 rotate_left
 ·simp -implicitDefEqProofs [bt,hi]
 by_cases h1:k=1
 ·subst h1
  cases hl:ex w 1 16<;>simp -implicitDefEqProofs [bt,hi,hw,hl]
 by_cases h3:k=3
 ·subst h3
  by_cases hz:w=⟨⟨[]⟩⟩<;>simp -implicitDefEqProofs [bt,hi,hz]
 by_cases h2:k=2
 ·subst h2
  by_cases hz:w=⟨⟨[]⟩⟩<;>simp -implicitDefEqProofs [bt,hi,hz]
 by_cases h4:k=4
 ·subst h4
  by_cases hz:w=⟨⟨[]⟩⟩<;>simp -implicitDefEqProofs [bt,hi,hz]
 by_cases h5:k=5
 ·subst h5
  by_cases hz:w=⟨⟨[]⟩⟩<;>simp -implicitDefEqProofs [bt,hi,hz]
 by_cases h6:k=6
 ·subst h6
  by_cases hz:w=⟨⟨[]⟩⟩<;>simp -implicitDefEqProofs [bt,hi,hz]
 simp -implicitDefEqProofs [bt,hi,h1,h2,h3,h4,h5,h6]
open Classical in
def yn (l:List Bx) (w:ByteArray):Option (List Nat):=if h:Codes (aU l) then Classical.choose (qj h _ (bd w) [] (JS _)) else none
theorem xf {l:List Bx} (h:bp l=true) (w:ByteArray):Sets (aU l) (bd w) [] (yn l w):=by
 unfold yn;rw [dif_pos (kJ h)];exact Classical.choose_spec (qj (kJ h) _ (bd w) [] (JS _))
def gz (l:List Bx) (w:ByteArray):List ByteArray:=dX (aU l) ((yn l w).getD [])
def yY (l:List Bx) (w:ByteArray):Bool:=(yn l w).isSome
theorem vk {l:List Bx} (h:bp l=true) {w:ByteArray} (hb:yY l w=true):(gz l w).length≤w.size∧∀c∈gz l w,∃k:Nat,fC (aU l) c=k∧k<l.length:=by
 unfold yY at hb;unfold gz;obtain⟨r,hr⟩:=Option.isSome_iff_exists.1 hb;obtain⟨h1,h2⟩:=Ca (kJ h) (xf h w) (fun i hi=>by simp at hi) r hr;rw [hr,Option.getD_some];refine⟨?_,zW h1⟩
 simp only [Kv,Ks] at h2;simpa [dX,ee] using h2
def AH (l:List Fm) (i:Nat):Bool:=(l[i]?.map fun x=>x.2.2.1).getD false
def ie (l:List Fm) (n:Int):List Fm:=if gC l n=true then l else l.take (atF l n)++(n,[],false,0)::l.drop (atF l n)
def FP (l:List Fm) (i:Nat) (cs:List ByteArray):List Fm:=match l[i]? with
 | some x=>l.set i (x.1,x.2.1++cs,x.2.2.1,x.2.2.2)
 | none=>l
def Db (s:Sp) (n:Int) (w:ByteArray):Sp:=(bE (aU s.1) (-1) s.1 (gz s.1 w),FP (ie s.2.1 n) (atF s.2.1 n) (gz s.1 w),s.2.2.1,s.2.2.2)
def nR (s:Sp) (n:Int) (w:ByteArray):Bool:=yY s.1 w&&bp (bE (aU s.1) (-1) s.1 (gz s.1 w)) && !AH (ie s.2.1 n) (atF s.2.1 n)
def nI (s:Sp) (i:Nat) (x:Stp):Sp:=match s.2.1[i]? with
 | none=>s
 | some f =>
  if x.1=2 then(s.1,s.2.1.set i (f.1,f.2.1,true,f.2.2.2),s.2.2.1,s.2.2.2)
  else if x.1=3 then(s.1,s.2.1.set i (f.1,f.2.1,f.2.2.1,f.2.2.2+x.2.2.2),s.2.2.1,s.2.2.2+x.2.2.2)
  else if x.1=4 then(s.1,s.2.1.set i (f.1,f.2.1,false,f.2.2.2),s.2.2.1,s.2.2.2)
  else if x.1=5 then(s.1,s.2.1.set i (f.1,f.2.1.take (f.2.1.length - 1),f.2.2.1,f.2.2.2),s.2.2.1+1,s.2.2.2)
  else(bE (aU s.1) 1 s.1 f.2.1,s.2.1.take i++s.2.1.drop (i+1),s.2.2.1,s.2.2.2)
def jn (s:Sp) (i:Nat) (x:Stp):Bool:=match s.2.1[i]? with
 | none=>false
 | some f =>
  if x.1=2 then !f.2.2.1
  else if x.1=3 then f.2.2.1
  else if x.1=4 then f.2.2.1
  else if x.1=5 then !f.2.2.1 && !decide (f.2.1.length=0)
  else !f.2.2.1&&bp (bE (aU s.1) 1 s.1 f.2.1)
def mU (s:Sp) (x:Stp):Sp:=if x.1=1 then Db s x.2.1 x.2.2.1 else nI s (atF s.2.1 x.2.1) x
def nV (s:Sp) (x:Stp):Bool:=if x.1=1 then nR s x.2.1 x.2.2.1 else gC s.2.1 x.2.1&&jn s (atF s.2.1 x.2.1) x
def mO (s:Sp) (x:Stp):Bool:=gw x&&nV s x&&aE (mU s x)
def stS (s:Sp) (x:Stp):Sp:=if mO s x=true then mU s x else([],[],0,0)
theorem BA {x:Stp} (h:gw x=true):x.1=1∨x.1=2∨x.1=3∨x.1=4∨x.1=5∨x.1=6:=by
 unfold gw at h;by_cases h1:x.1=1
 ·exact .inl h1
 by_cases h3:x.1=3
 ·exact .inr (.inr (.inl h3))
 rw [if_neg h1,if_neg h3] at h;by_cases h4:x.1=2∨x.1=4∨x.1=5∨x.1=6
 ·omega
 ·rw [if_neg h4] at h
  simp at h
theorem FW {x:Stp} (h:gw x=true) (h3:x.1=3):1≤x.2.2.2∧x.2.2.2≤1000:=by
 unfold gw at h;rw [if_neg (by omega),if_pos h3] at h;simp only [JK,decide_eq_true_eq] at h;exact h.2.2
theorem Cn {x:Stp} (h:gw x=true) (h1:x.1=1):x.2.2.1.size≤16:=by
 unfold gw at h;rw [if_pos h1] at h;simp only [JK,decide_eq_true_eq,ex] at h;omega
end Go.Proofs.YtkcojipciiakdaaDoor

namespace Go.Proofs.YtkcojipciiakdaaDoor
open Go Go.V
set_option maxRecDepth 100000
structure Cur where
 code:List Int
 at_:Nat
 seed:Int
abbrev gj (l:List Int):D:=.arr 1 (l.map U)
abbrev aP (c:Cur):D:=.agg [gj c.code,I c.at_,.v (.int .u64 c.seed)]
structure Cur.ok (c:Cur) (B:Nat):Prop where
 by_:∀n∈c.code,0≤n∧n≤255
 len:c.code.length≤9223372036854775807
 at_:c.at_≤B
 lo:0≤c.seed
 hi:c.seed<18446744073709551616
theorem xL {k:IntKind} {n:Int}:kz (some .i64) false (.v (.int k n))=some (I (JJ.wrap n)):=rfl
theorem xh {k:IntKind} {n:Int}:kz (some .u64) false (.v (.int k n))=some (.v (.int .u64 (JP.wrap n))):=rfl
theorem CW {n:Int} {bl:Bool} {eq:List Nat}:bin .shr bl eq (.v (.int .u64 n)) (.v (.int .u64 40))=some (.v (.int .u64 (n.fdiv 1099511627776))):=by
 simp [bin,IntKind.bits]
theorem Hj {a b:Int} {bl:Bool} {eq:List Nat}:bin .and bl eq (.v (.int .u64 a)) (.v (.int .u64 b))=some (.v (.int .u64 (bits .and .u64 a b))):=by simp [bin,gf]
theorem Hx {n:Int} (h0:0≤n) (h1:n<18446744073709551616):0≤bits .and .u64 n 255∧bits .and .u64 n 255≤255:=by
 obtain⟨m,rfl⟩:=Ka h0;have:=bits_and_u64_nat m 255 (by omega) (by omega);rw [show((255:Int))=((255:Nat):Int) from rfl,this];have h2:m &&& 255≤255:=Nat.and_le_right;omega
theorem wrap64 (n:Int):0≤JP.wrap n∧JP.wrap n<18446744073709551616:=by
 rw [IntKind.wrap_u64];omega
def kO (s n:Int):Int:=JP.wrap (JP.wrap (JP.wrap (s*6364136223846793005)+JP.wrap n)+1442695040888963407)
def tp (s:Int):Int:=bits .and .u64 (s.fdiv 1099511627776) 255
theorem gp (s n:Int):0≤kO s n∧kO s n<18446744073709551616:=wrap64 _
theorem yR {s:Int} (h0:0≤s) (h1:s<18446744073709551616):0≤tp s∧tp s≤255:=by
 unfold tp;rw [Int.fdiv_eq_ediv_of_nonneg _ (by omega)];exact Hx (by omega) (by omega)
theorem IM (c:Cur) (B:Nat) (h:c.ok B) (hB:B≤1000000000000) (hc:c.at_<c.code.length):cr [aP c]=some (.ret [I c.code[c.at_]] [aP ⟨c.code,c.at_+1,kO c.seed c.code[c.at_]⟩]):=by
 have hl:=h.len;have ha:=h.at_;have hw:JJ.wrap ((c.at_:Int)+1)=(c.at_:Int)+1:=ax (by omega) (by omega);have hn:=h.by_ c.code[c.at_] (JO hc);have hv:JJ.wrap c.code[c.at_]=c.code[c.at_]:=ax (by omega) (by omega);have hle:(c.at_:Int)+1≤(c.code.length:Int):=by omega
 rw [kp];simp -implicitDefEqProofs [hc,hw,hv,hle,xL,xh,kO]
theorem Jk (c:Cur) (B:Nat) (h:c.ok B) (hB:B≤1000000000000) (hc:¬c.at_<c.code.length):cr [aP c]=some (.ret [I (tp (kO c.seed 0))] [aP ⟨c.code,c.at_+1,kO c.seed 0⟩]):=by
 have hl:=h.len;have ha:=h.at_;have hw:JJ.wrap ((c.at_:Int)+1)=(c.at_:Int)+1:=ax (by omega) (by omega);have hle:¬(c.at_:Int)+1≤(c.code.length:Int):=by omega
 have hq:=yR (gp c.seed 0).1 (gp c.seed 0).2;have hv:JJ.wrap (tp (kO c.seed 0))=tp (kO c.seed 0):=ax (by omega) (by omega);unfold tp kO at hv;rw [kp];simp -implicitDefEqProofs [hc,hw,hle,xL,xh,CW,Hj,hv,kO,tp]
theorem FA (c:Cur) (B:Nat) (h:c.ok B) (hB:B≤1000000000000):∃v c',cr [aP c]=some (.ret [I v] [aP c'])∧0≤v∧v≤255∧c'.ok (B+1):=by
 have ha:=h.at_;by_cases hc:c.at_<c.code.length
 ·have hn:=h.by_ c.code[c.at_] (JO hc)
  exact⟨_,_,IM c B h hB hc,hn.1,hn.2,⟨h.by_,h.len,Nat.succ_le_succ ha,(gp _ _).1,(gp _ _).2⟩⟩
 ·have hq:=yR (gp c.seed 0).1 (gp c.seed 0).2
  exact⟨_,_,Jk c B h hB hc,hq.1,hq.2,⟨h.by_,h.len,Nat.succ_le_succ ha,(gp _ _).1,(gp _ _).2⟩⟩
theorem jk (c:Cur) (n:Int) (B:Nat) (h:c.ok B) (hB:B≤100000000000) (hn:n≤1000000000):∃v c',aC [aP c,I n]=some (.ret [I v] [aP c'])∧0≤v∧(v<n∨v=0)∧c'.ok (B+2):=by
 rw [rR];by_cases h1:n≤1
 ·exact⟨0,c,by simp [h1],by omega,.inr rfl,⟨h.by_,h.len,by have:=h.at_;omega,h.lo,h.hi⟩⟩
 obtain⟨v,c1,e1,l1,u1,k1⟩:=FA c B h (by omega);have hn0:¬n=0:=by omega
 by_cases h2:200<n
 ·obtain⟨v2,c2,e2,l2,u2,k2⟩:=FA c1 (B+1) k1 (by omega)
  have w1:JJ.wrap (v*256)=v*256:=ax (by omega) (by omega);have w2:JJ.wrap (v*256+v2)=v*256+v2:=ax (by omega) (by omega);refine⟨(v*256+v2).tmod n,c2,by simp [h1,h2,e1,e2,w1,w2,hn0],Int.tmod_nonneg _ (by omega),.inl (Int.tmod_lt_of_pos _ (by omega)),k2⟩
 ·refine⟨v.tmod n,c1,by simp [h1,h2,e1,hn0],Int.tmod_nonneg _ l1,.inl (Int.tmod_lt_of_pos _ (by omega)),⟨k1.by_,k1.len,by have:=k1.at_;omega,k1.lo,k1.hi⟩⟩
theorem Eo (c:Cur) (n:Int) (B:Nat) (h:c.ok B) (hB:B≤100000000000) (hn:n≤1000000000):∃(b:Bool) (c':Cur),co [aP c,I n]=some (.ret [.v (.bool b)] [aP c'])∧c'.ok (B+2):=by
 rw [sS];obtain⟨v,c1,e1,l1,u1,k1⟩:=jk c n B h hB hn;exact⟨_,c1,by simp [e1];rfl,k1⟩
abbrev ll (l:List Int):D:=.arr 1 (l.map I)
theorem jF (c:Cur) (l:List Int) (B:Nat) (h:c.ok B) (hB:B≤100000000000) (hl:l≠[]) (hn:l.length≤1000000000):∃v c',au [aP c,ll l]=some (.ret [I v] [aP c'])∧v∈l∧c'.ok (B+2):=by
 rw [qp];have hp:0<l.length:=Ko.2 hl;obtain⟨v,c1,e1,l1,u1,k1⟩:=jk c l.length B h hB (by omega);obtain⟨i,rfl⟩:=Ka l1;have hi:i<l.length:=by omega
 exact⟨l[i],c1,by simp [e1,hi],JO hi,k1⟩
theorem Cur.ok.mono {c:Cur} {B C:Nat} (h:c.ok B) (hBC:B≤C):c.ok C:=⟨h.by_,h.len,Nat.le_trans h.at_ hBC,h.lo,h.hi⟩
theorem nU {l:List Int}:bj 1 (l.map I)=some (ll l):=by
 have:gg 1 (l.map I).length (l.map I)=true:=by
  unfold gg;simp
 simp only [bj,this,if_true]
theorem EG {l:List ByteArray}:bj 1 (l.map T)=some (txs l):=by
 have:gg 1 (l.map T).length (l.map T)=true:=by
  unfold gg;simp
 simp only [bj,this,if_true]
theorem DE (l:List Int):kV [(0,1)] [D.arr 1 [],I 0,D.v (.int .u64 0)] [gj l]=some (.agg [gj l,I 0,D.v (.int .u64 0)]):=by
 simp [kV,pI]
structure Bytes (l:List Int):Prop where
 by_:∀n∈l,0≤n∧n≤255
 len:l.length≤9223372036854775807
theorem JD {l:List Int} (h:Bytes l):Cur.ok ⟨l,0,0⟩ 0:=⟨h.by_,h.len,JS _,Int.le_refl 0,show(0:Int)<18446744073709551616 by decide⟩
theorem IK (c:Cur) (l:List ByteArray) (B:Nat) (h:c.ok B) (hB:B≤100000000000) (hl:l≠[]) (hn:l.length≤1000000000):∃v c',eH [aP c,txs l]=some (.ret [T v] [aP c'])∧v∈l∧c'.ok (B+2):=by
 rw [tH];have hp:0<l.length:=Ko.2 hl;obtain⟨v,c1,e1,l1,u1,k1⟩:=jk c l.length B h hB (by omega);obtain⟨i,rfl⟩:=Ka l1;have hi:i<l.length:=by omega
 exact⟨l[i],c1,by simp [e1,hi],JO hi,k1⟩
abbrev so2 (x:ByteArray × Int):D:=.agg [T x.1,I x.2]
abbrev sos (f:List (ByteArray × Int)):D:=.arr 2 (f.map so2)
theorem GD (x:ByteArray × Int):(so2 x).isV=true:=rfl
theorem Hf (f:List (ByteArray × Int)) (x:ByteArray × Int) (h:f.length≤1048576):iq 2 24 (sos f) (sos [x])=some (sos (f++[x])):=by
 rw [ew,if_pos (by simp only [JL,JN];omega),←Kq]
def L12:List ByteArray:=[⟨⟨[97]⟩⟩,⟨⟨[97,98]⟩⟩,⟨⟨[97,98,99]⟩⟩,⟨⟨[98]⟩⟩,⟨⟨[98,98]⟩⟩,⟨⟨[99]⟩⟩,⟨⟨[100]⟩⟩,⟨⟨[101]⟩⟩,⟨⟨[102]⟩⟩,⟨⟨[102,102]⟩⟩,⟨⟨[102,105]⟩⟩,⟨⟨[105]⟩⟩]
theorem yg:L12.length=12:=rfl
theorem Et:∀s∈L12,s.size=1∨s.size=2∨s.size=3:=by
 intro s hs;simp only [L12,Kc,Km,or_false] at hs;rcases hs with rfl | rfl | rfl | rfl | rfl | rfl | rfl | rfl | rfl | rfl | rfl | rfl
 ·exact .inl rfl
 ·exact .inr (.inl rfl)
 ·exact .inr (.inr rfl)
 ·exact .inl rfl
 ·exact .inr (.inl rfl)
 ·exact .inl rfl
 ·exact .inl rfl
 ·exact .inl rfl
 ·exact .inl rfl
 ·exact .inr (.inl rfl)
 ·exact .inr (.inl rfl)
 ·exact .inl rfl
theorem HL (a:ByteArray) (n:Int):kV [(0,1),(1,1)] [T ⟨#[]⟩,I 0] [T a,I n]=some (so2 (a,n)):=by simp [kV,pI]
def cdF (f:List (ByteArray × Int)):List ByteArray:=f.map Prod.fst
theorem Fj {l:List ByteArray} {i:Nat} {m:List ByteArray} (h:m.Sublist (l.take i)) (hi:i<l.length):m.Sublist (l.take (i+1))∧(m++[l[i]]).Sublist (l.take (i+1)):=by
 rw [JU hi];exact⟨h.trans (List.sublist_append_left _ _),h.append (List.Sublist.refl _)⟩
theorem HV (c:Cur) (B:Nat) (h:c.ok B) (hB:B≤1000000000):∃(f:List (ByteArray × Int)) (c':Cur),cS [aP c]=some (.ret [sos f] [aP c'])∧(1≤f.length∧f.length≤12)∧(cdF f).Sublist L12∧c'.ok (B+100):=by
 rw [qK];have m12:bj 1 [T ⟨⟨[97]⟩⟩,T ⟨⟨[97,98]⟩⟩,T ⟨⟨[97,98,99]⟩⟩,T ⟨⟨[98]⟩⟩,T ⟨⟨[98,98]⟩⟩,T ⟨⟨[99]⟩⟩,T ⟨⟨[100]⟩⟩,T ⟨⟨[101]⟩⟩,T ⟨⟨[102]⟩⟩,T ⟨⟨[102,102]⟩⟩,T ⟨⟨[102,105]⟩⟩,T ⟨⟨[105]⟩⟩]=some (txs L12):=EG (l:=L12);simp -implicitDefEqProofs only [m12,JI,bw,JL];refine fx (fun X=>∃f c',X=some (.ret [sos f] [aP c'])∧(1≤f.length∧f.length≤12)∧(cdF f).Sublist L12∧c'.ok (B+100)) (fun a:Cur × List (ByteArray × Int) × Nat=>[aP a.1,sos a.2.1,txs L12,I L12.length,I a.2.2])
  (fun a=>a.1.ok (B+8*a.2.2)∧(cdF a.2.1).Sublist (L12.take a.2.2)∧a.2.2≤12) (fun a=>12 - a.2.2) (fun o=>∃(c':Cur) (f:List (ByteArray × Int)),o = .ext 0 [aP c',sos f]∧c'.ok (B+96)∧(cdF f).Sublist L12) (fun a hI=>?_) (c,[],0) ⟨h.mono (by omega),by simp [cdF],by simp⟩ rfl (fun o ho=>?_)
 ·obtain⟨ca,fa,i⟩:=a
  obtain⟨h1,h2,h3⟩:=hI;simp only at h1 h2 h3;have hL:=yg;have h2l:=h2.length_le;simp only [cdF,JL,Kl] at h2l;by_cases hlt:i<L12.length
  ·have hs:=Et L12[i] (JO hlt)
   obtain⟨hn1,hn2⟩:=Fj h2 hlt;have hw:JJ.wrap ((i:Int)+1)=(i:Int)+1:=ax (by omega) (by omega);have add:∀(ca2:Cur),ca2.ok (B+8*i+2)→∃(x:ByteArray × Int) (ca3:Cur),(x.1=L12[i]∧ca3.ok (B+8*(i+1)))∧∃v:Int,aC [aP ca2,I 4]=some (.ret [I v] [aP ca3])∧(x.2=JJ.wrap (4+JJ.wrap ((L12[i].size:Int)*JJ.wrap (2+v)))):=fun ca2 hk=>by
    obtain⟨v,c3,e3,_,_,k3⟩:=jk ca2 4 _ hk (by omega) (by omega);exact⟨(L12[i],_),c3,⟨rfl,k3.mono (by omega)⟩,v,e3,rfl⟩
   have app1:∀x:ByteArray × Int,iq 2 24 (sos fa) (sos [x])=some (sos (fa++[x])):=fun x=>Hf fa x (by omega)
   have mk1:∀x:ByteArray × Int,bj 2 [so2 x]=some (sos [x]):=fun x=>by simp [bj,gg]
   have ck1:∀x:ByteArray × Int,jU (sos [x])=some (sos [x]):=fun x=>kb GD
   have grow:∀(x:ByteArray × Int) (c3:Cur),x.1=L12[i]→c3.ok (B+8*(i+1))→(c3.ok (B+8*(i+1))∧(cdF (fa++[x])).Sublist (L12.take (i+1))∧i+1≤12):=fun x c3 hx hk=>⟨hk,by
    have e:cdF (fa++[x])=cdF fa++[L12[i]]:=by simp [cdF,hx]
    rw [e];exact hn2,by omega⟩
   rcases hs with hs | hs
   ·obtain⟨b,c2,e2,k2⟩:=Eo ca 12 _ h1 (by omega) (by omega)
    cases b
    ·obtain⟨x,c3,⟨hx,hk⟩,v,e3,hv⟩:=add c2 k2
     refine .inl ⟨(c3,fa++[x],i+1),?_,grow x c3 hx hk,by simp;omega⟩
     obtain⟨xa,xb⟩:=x;simp only at hx hv;subst hx hv;simp -implicitDefEqProofs [hlt,hs,hw,e2,e3,HL,mk1,ck1,app1,-ew]
    ·refine .inl ⟨(c2,fa,i+1),?_,⟨k2.mono (by simp;omega),hn1,by simp;omega⟩,by simp;omega⟩
     simp -implicitDefEqProofs [hlt,hs,hw,e2]
   ·have hs1:¬(L12[i].size:Int)=1:=by omega
    have hs2:(1:Int)<(L12[i].size:Int):=by omega
    obtain⟨b,c2,e2,k2⟩:=Eo ca 3 _ h1 (by omega) (by omega);cases b
    ·refine .inl ⟨(c2,fa,i+1),?_,⟨k2.mono (by simp;omega),hn1,by simp;omega⟩,by simp;omega⟩
     simp -implicitDefEqProofs [hlt,hs1,hs2,hw,e2]
    ·obtain⟨x,c3,⟨hx,hk⟩,v,e3,hv⟩:=add c2 k2
     refine .inl ⟨(c3,fa++[x],i+1),?_,grow x c3 hx hk,by simp;omega⟩
     obtain⟨xa,xb⟩:=x;simp only at hx hv;subst hx hv;simp -implicitDefEqProofs [hlt,hs1,hs2,hw,e2,e3,HL,mk1,ck1,app1,-ew]
  ·refine .inr ⟨.ext 0 [aP ca,sos fa],?_,rfl,ca,fa,rfl,h1.mono (by omega),h2.trans (List.take_sublist _ _)⟩
   simp -implicitDefEqProofs [hlt]
 ·obtain⟨c1,f,rfl,k1,k3⟩:=ho
  have k2:=k3.length_le;simp only [cdF,JL,yg] at k2;by_cases h0:f=[]
  ·refine⟨[(⟨⟨[97]⟩⟩,9)],c1,?_,by simp,by simp [cdF,L12],k1.mono (by omega)⟩
   have mk1:bj 2 [so2 (⟨⟨[97]⟩⟩,9)]=some (sos [(⟨⟨[97]⟩⟩,9)]):=by simp [bj,gg]
   simp -implicitDefEqProofs [h0,HL,mk1]
  ·have hp:0<f.length:=Ko.2 h0
   refine⟨f,c1,?_,⟨hp,k2⟩,k3,k1.mono (by omega)⟩
   simp -implicitDefEqProofs [h0]
theorem JF (a:ByteArray) (r c n:Int):kV [(0,1),(1,1),(2,1),(3,1)] [T ⟨#[]⟩,I 0,I 0,I 0] [T a,I r,I c,I n]=some (bx (a,r,c,n)):=by simp [kV,pI]
theorem Hc (l:List Bx) (x:Bx) (h:l.length≤1048576):iq 4 40 (bxs l) (bxs [x])=some (bxs (l++[x])):=by
 rw [ew,if_pos (by simp only [JL,JN];omega),←Kq]
theorem HX (x:Bx):bj 4 [bx x]=some (bxs [x]):=by simp [bj,gg]
theorem HS (x:Bx):jU (bxs [x])=some (bxs [x]):=kb xP
theorem li {l:List Bx}:bp l=true↔(∀i (h:i<l.length),oM l[i]=true)∧(∀i (h:i<l.length),0<i→JR (l[i - 1]'(by omega)).1.toList l[i].1.toList=true)∧(∀i j (h:i<l.length) (hj:j<i),fP l[i] (l[j]'(by omega))=false)∧1≤l.length∧l.length≤32:=by
 have all:∀(p:Nat→Bx→Bool) (m:List Bx) (k:Nat),cW p k m=true↔∀i (h:i<m.length),p (k+i) m[i]=true:=by
  intro p m;induction m with
  | nil=>intro k;simp [cW]
  | cons x m ih =>
   intro k;simp only [cW,JK,ih];constructor
   ·rintro⟨h1,h2⟩ i hi
    cases i with
    | zero=>exact h1
    | succ i =>
     have:=h2 i (by simpa using hi);rw [show k+(i+1)=k+1+i by omega];exact this
   ·intro h
    refine⟨h 0 (by simp),fun i hi=>?_⟩
    have:=h (i+1) (by simpa using hi);rw [show k+1+i=k+(i+1) by omega];exact this
 have hp:∀i (h:i<l.length),pBx l i l[i]=true↔oM l[i]=true∧(0<i→JR (l[i - 1]'(by omega)).1.toList l[i].1.toList=true)∧∀j (hj:j<i),fP l[i] (l[j]'(by omega))=false:=by
  intro i h;simp only [pBx,JK,all,Ks,Ki,Ku,decide_eq_false_iff_not,Bool.not_eq_false',List.getElem_take,Kl,and_assoc];refine and_congr Iff.rfl (and_congr ⟨fun h0 hi=>?_,fun h0=>?_⟩ ⟨fun h0 j hj=>h0 j (by omega),fun h0 j hj=>h0 j (by omega)⟩)
  ·have:=h0.resolve_left (by omega)
   rw [JQ,JX (by omega)] at this;exact this
  ·by_cases hi:0<i
   ·right
    rw [JQ,JX (by omega)];exact h0 hi
   ·exact .inl hi
 simp only [bp,JK,decide_eq_true_eq,all,Ks];constructor
 ·rintro⟨h1,h2⟩
  exact⟨fun i hi=>((hp i hi).1 (h1 i hi)).1,fun i hi=>((hp i hi).1 (h1 i hi)).2.1,fun i j hi hj=>((hp i hi).1 (h1 i hi)).2.2 j hj,by omega,by omega⟩
 ·rintro⟨h1,h2,h3,h4⟩
  exact⟨fun i hi=>(hp i hi).2 ⟨h1 i hi,h2 i hi,fun j hj=>h3 i j hi hj⟩,by omega⟩
def CN (x:Bx):Int:=x.2.1*10+x.2.2.1
structure DrB (l:List Bx) (d:Int):Prop where
 row:∀x∈l,(0≤x.2.1∧x.2.1≤9)∧(0≤x.2.2.1∧x.2.2.1≤9)∧(0≤x.2.2.2∧x.2.2.2≤20)∧CN x<d
 rise:l.Pairwise fun x y=>CN x<CN y
theorem DrB.snoc {l:List Bx} {d e:Int} (h:DrB l d) {x:Bx} (hx:(0≤x.2.1∧x.2.1≤9)∧(0≤x.2.2.1∧x.2.2.1≤9)∧(0≤x.2.2.2∧x.2.2.2≤20)) (hd:CN x=d) (he:d<e):DrB (l++[x]) e :=
 ⟨fun y hy=>by
  rcases KF.1 hy with hy | hy
  ·obtain⟨h1,h2,h3,h4⟩:=h.row y hy
   exact⟨h1,h2,h3,by omega⟩
  ·simp at hy
   subst hy;exact⟨hx.1,hx.2.1,hx.2.2,by omega⟩,by
  rw [List.pairwise_append];refine⟨h.rise,by simp,fun y hy z hz=>?_⟩
  simp at hz;subst hz;rw [hd];exact(h.row y hy).2.2.2⟩
theorem zS:(∀s∈L12,ex s 1 3=true)∧L12.Pairwise fun a b=>JR a.toList b.toList=true:=by
 constructor
 ·intro s hs
  simp only [L12,Kc,Km,or_false] at hs;rcases hs with rfl | rfl | rfl | rfl | rfl | rfl | rfl | rfl | rfl | rfl | rfl | rfl<;>rfl
 ·decide +kernel
theorem Bu {l:List Bx} {d:Int} (h:DrB l d) (hc:(aU l).Sublist L12) (h0:0<l.length):bp l=true:=by
 have hp:=zS.2.sublist hc;have hr:=h.rise;have hl:=hc.length_le;rw [yg,JL] at hl;refine li.2 ⟨fun i hi=>?_,fun i hi h1=>?_,fun i j hi hj=>?_,h0,by omega⟩
 ·have hm:=JO hi
  obtain⟨h1,h2,h3,h4⟩:=h.row _ hm;have:=zS.1 _ (hc.subset (KJ (f:=fun b:Bx=>b.1) hm));simp only [oM,this,Bool.true_and,JK,decide_eq_true_eq];exact⟨⟨h1,h2⟩,h3.1,by omega⟩
 ·have hi':i - 1<(aU l).length:=by rw [JL];omega
  have hi'':i<(aU l).length:=by rw [JL];exact hi
  have:=List.pairwise_iff_getElem.1 hp (i - 1) i hi' hi'' (by omega);simpa using this
 ·have:=List.pairwise_iff_getElem.1 hr j i (by omega) hi hj
  simp only [fP];by_cases hq:(l[j]'(by omega)).2.1=l[i].2.1
  ·by_cases hq2:(l[j]'(by omega)).2.2.1=l[i].2.2.1
   ·exfalso
    unfold CN at this;omega
   ·simp [hq2]
  ·simp [hq]
theorem Hg (c:Cur) (f:List (ByteArray × Int)) (B:Nat) (h:c.ok B) (hB:B≤1000000000) (hf:1≤f.length∧f.length≤12) (hs:(cdF f).Sublist L12):∃(l:List Bx) (c':Cur),cH [aP c,sos f]=some (.ret [bxs l] [aP c'])∧bp l=true∧l.length≤12∧(∀x∈l,0≤x.2.2.2∧x.2.2.2≤20)∧c'.ok (B+100):=by
 rw [qu];obtain⟨v1,c1,e1,l1,u1,k1⟩:=jk c 20 B h (by omega) (by omega);simp -implicitDefEqProofs only [aI,JI,gd,e1,aA,aG,bw,JL];have m1:=nU (l:=[0,1,2,5,20]);simp only [Kn,KE] at m1;refine fx (fun X=>∃l c',X=some (.ret [bxs l] [aP c'])∧bp l=true∧l.length≤12∧(∀x∈l,0≤x.2.2.2∧x.2.2.2≤20)∧c'.ok (B+100)) (fun a:Cur × List Bx × Int=>[aP a.1,bxs a.2.1,I a.2.2,sos f,I f.length,I a.2.1.length])
  (fun a=>a.1.ok (B+2+4*a.2.1.length)∧a.2.1.length≤f.length∧(DrB a.2.1 a.2.2∧aU a.2.1=(cdF f).take a.2.1.length)∧0≤a.2.2∧a.2.2≤19+2*(a.2.1.length:Int)) (fun a=>12 - a.2.1.length) (fun o=>∃(c':Cur) (l:List Bx),o = .ext 0 [aP c',bxs l]∧c'.ok (B+96)∧l.length=f.length∧(∃d,DrB l d)∧aU l=cdF f) (fun a hI=>?_) (c1,[],v1) ⟨k1.mono (by simp),by simp,⟨⟨by simp,by simp⟩,by simp⟩,l1,by show v1≤19+2*0;omega⟩ rfl (fun o ho=>?_)
 ·obtain⟨ca,la,da⟩:=a
  obtain⟨h1,h2,⟨h3,h3'⟩,h4,h5⟩:=hI;simp only at h1 h2 h3 h3' h4 h5;by_cases hlt:la.length<f.length
  ·obtain⟨v2,c2,e2,hv2,k2⟩:=jF ca [0,1,2,5,20] _ h1 (by omega) (by simp) (by simp)
   obtain⟨v3,c3,e3,hv3,hv3',k3⟩:=jk c2 2 _ k2 (by omega) (by omega);have hw:JJ.wrap ((la.length:Int)+1)=(la.length:Int)+1:=ax (by omega) (by omega);have hd1:da.tdiv 10=da / 10:=Int.tdiv_eq_ediv_of_nonneg h4;have hd2:da.tmod 10=da % 10:=KC h4;have hd3:(JJ.wrap (da.tdiv 10)).tmod 10=da / 10:=by
    rw [hd1,ax (by omega) (by omega),KC (by omega)];omega
   have hd4:JJ.wrap (da+JJ.wrap (1+v3))=da+1+v3:=by
    rw [ax (a:=1+v3) (by omega) (by omega),ax (by omega) (by omega)];omega
   have hv20:0≤v2∧v2≤20:=by
    simp only [Kc,Km,or_false] at hv2;omega
   have ap:=Hc la (f[la.length].1,(JJ.wrap (da.tdiv 10)).tmod 10,da.tmod 10,v2) (by omega);refine .inl ⟨(c3,la++[(f[la.length].1,(JJ.wrap (da.tdiv 10)).tmod 10,da.tmod 10,v2)],JJ.wrap (da+JJ.wrap (1+v3))),?_,⟨k3.mono (by simp;omega),by simp;omega,⟨?_,?_⟩,?_,?_⟩,by simp;omega⟩
   ·simp -implicitDefEqProofs [hlt,e2,e3,hw,m1,JF,HX,HS,ap,-ew,-Kn]
   ·rw [hd3,hd4,hd2]
    exact h3.snoc (d:=da) (e:=da+1+v3) (by simp only;omega) (by simp only [CN];omega) (by omega)
   ·have hlen:la.length<(cdF f).length:=by simp [cdF];exact hlt
    simp only [Kg,JN,Kq,Kn,KE];rw [JU hlen,←h3'];simp [cdF]
   ·simp only
    omega
   ·simp only [Kg,JN]
    omega
  ·refine .inr ⟨.ext 0 [aP ca,bxs la],?_,rfl,ca,la,rfl,h1.mono (by omega),by omega,⟨_,h3⟩,?_⟩
   ·simp -implicitDefEqProofs [hlt]
   ·rw [h3',List.take_of_length_le (by simp [cdF];omega)]
 ·obtain⟨c2,l,rfl,g1,g2,⟨d,g3⟩,g4⟩:=ho
  refine⟨l,c2,?_,Bu g3 (by rw [g4];exact hs) (by omega),by omega,fun x hx=>(g3.row x hx).2.2.1,g1.mono (by omega)⟩
  simp -implicitDefEqProofs
set_option maxRecDepth 100000
theorem tS' (l:List UInt8):(D.v (Value.string {data:={toList:=l}}))=T ⟨⟨l⟩⟩:=rfl
def W10:List ByteArray:=[⟨⟨[97]⟩⟩,⟨⟨[98]⟩⟩,⟨⟨[99]⟩⟩,⟨⟨[97,98]⟩⟩,⟨⟨[98,98]⟩⟩,⟨⟨[97,98,99]⟩⟩,⟨⟨[100]⟩⟩,⟨⟨[101]⟩⟩,⟨⟨[102]⟩⟩,⟨⟨[102,105]⟩⟩]
theorem Ed:∀s∈W10,1≤s.size∧s.size≤3:=by
 intro s hs;simp only [W10,Kc,Km,or_false] at hs;rcases hs with rfl | rfl | rfl | rfl | rfl | rfl | rfl | rfl | rfl | rfl<;>exact⟨by decide,by decide⟩
theorem yD {a b:ByteArray} (h:a.size+b.size≤100000000):bin .add false [] (T a) (T b)=some (T (a++b)):=by
 rw [fW,if_pos (by omega)]
theorem FH (c:Cur) (B:Nat) (h:c.ok B) (hB:B≤1000000000):∃(s:ByteArray) (c':Cur),cz [aP c]=some (.ret [T s] [aP c'])∧s.size≤8∧c'.ok (B+20):=by
 rw [qO];obtain⟨v,c1,e1,l1,u1,k1⟩:=jk c 6 B h (by omega) (by omega);obtain⟨v,rfl⟩:=Ka l1;have hv:v<6:=by omega
 have m10:bj 1 [T ⟨⟨[97]⟩⟩,T ⟨⟨[98]⟩⟩,T ⟨⟨[99]⟩⟩,T ⟨⟨[97,98]⟩⟩,T ⟨⟨[98,98]⟩⟩,T ⟨⟨[97,98,99]⟩⟩,T ⟨⟨[100]⟩⟩,T ⟨⟨[101]⟩⟩,T ⟨⟨[102]⟩⟩,T ⟨⟨[102,105]⟩⟩]=some (txs W10):=EG (l:=W10);have hw:JJ.wrap (1+(v:Int))=((1+v:Nat):Int):=by rw [ax (by omega) (by omega)];omega
 simp -implicitDefEqProofs only [aI,JI,gd,e1,aA,aG,fG,hw,m10,tS'];refine fx (fun X=>∃s c',X=some (.ret [T s] [aP c'])∧s.size≤8∧c'.ok (B+20)) (fun a:Cur × ByteArray=>[aP a.1,T a.2,I ((1+v:Nat):Int)])
  (fun a=>a.1.ok (B+2+2*a.2.size)∧a.2.size≤8) (fun a=>8 - a.2.size) (fun o=>∃(s:ByteArray) (c':Cur),o = .ext 0 [aP c',T s]∧s.size≤8∧c'.ok (B+20)) ?_ (c1,⟨⟨[]⟩⟩) ⟨k1.mono (by show B+2≤B+2+2*0;omega),by show 0≤8;omega⟩ rfl ?_
 ·rintro⟨ca,s⟩ ⟨h1,h2⟩
  simp only at h1 h2;by_cases hn:s.size<1+v
  ·have hn':(s.size:Int)<((1+v:Nat):Int):=by omega
   obtain⟨t,c2,e2,ht,k2⟩:=IK ca W10 _ h1 (by omega) (by decide) (by decide);have hts:=Ed t ht;have ha:=yD (a:=s) (b:=t) (by omega);refine .inl ⟨(c2,s++t),?_,⟨k2.mono (by simp only [JV];omega),by simp only [JV];omega⟩,by simp only [JV];omega⟩
   simp -implicitDefEqProofs only [aG,fe,lF,JI,dU,hn',decide_true,cF,if_true,aI,gd,e2,aA,ha]
  ·have hn':¬(s.size:Int)<((1+v:Nat):Int):=by omega
   refine .inr ⟨_,?_,rfl,s,ca,rfl,h2,h1.mono (by omega)⟩
   simp -implicitDefEqProofs only [aG,fe,lF,JI,dU,hn',decide_false,cF,Kz,if_false]
 ·rintro o ⟨s,c',rfl,g1,g2⟩
  refine⟨s,c',?_,g1,g2⟩
  simp -implicitDefEqProofs only [nJ,Nat.beq_refl,zE,if_true,aG,fe,aI,JI]
def W4:List ByteArray:=[⟨⟨[]⟩⟩,⟨⟨[65]⟩⟩,⟨⟨[97,32,98]⟩⟩,⟨⟨[97,45,98]⟩⟩]
theorem GK:∀s∈W4,s.size≤3:=by
 intro s hs;simp only [W4,Kc,Km,or_false] at hs;rcases hs with rfl | rfl | rfl | rfl<;>decide
theorem CZ (c:Cur) (B:Nat) (h:c.ok B) (hB:B≤900000000):∃(s:ByteArray) (c':Cur),bR [aP c]=some (.ret [T s] [aP c'])∧s.size≤20∧c'.ok (B+30):=by
 rw [nQ];obtain⟨k,c1,e1,l1,u1,k1⟩:=jk c 30 B h (by omega) (by omega);have m4:bj 1 [T ⟨⟨[]⟩⟩,T ⟨⟨[65]⟩⟩,T ⟨⟨[97,32,98]⟩⟩,T ⟨⟨[97,45,98]⟩⟩]=some (txs W4):=EG (l:=W4);obtain⟨s,c2,e2,h2,k2⟩:=FH c1 _ k1 (by omega);simp -implicitDefEqProofs only [aI,JI,gd,e1,aA,aG,mf,m4,tS',cF,decide_eq_true_eq];by_cases q0:k=0
 ·obtain⟨t,c3,e3,ht,k3⟩:=IK c1 W4 _ k1 (by omega) (by decide) (by decide)
  have:=GK t ht;refine⟨t,c3,?_,by omega,k3.mono (by omega)⟩
  rw [if_pos q0];simp -implicitDefEqProofs only [e3,aA,aG,aI,JI]
 rw [if_neg q0];by_cases q1:k=1
 ·rw [if_pos q1]
  obtain⟨v,c3,e3,l3,u3,k3⟩:=jk c1 2 _ k1 (by omega) (by omega);obtain⟨v,rfl⟩:=Ka l3;have hw:JJ.wrap (16+(v:Int))=((16+v:Nat):Int):=by rw [ax (by omega) (by omega)];omega
  simp -implicitDefEqProofs only [e3,aA,aG,fG,hw,JI];refine fx (fun X=>∃s c',X=some (.ret [T s] [aP c'])∧s.size≤20∧c'.ok (B+30)) (fun a:ByteArray=>[aP c3,T a,I ((16+v:Nat):Int)])
   (fun a=>a.size≤20) (fun a=>20 - a.size) (fun o=>∃(s:ByteArray),o = .ext 1 [aP c3,T s]∧s.size≤20) ?_ (⟨⟨[]⟩⟩) (by show 0≤20;omega) rfl ?_
  ·intro s h2
   by_cases hn:s.size<16+v
   ·have hn':(s.size:Int)<((16+v:Nat):Int):=by omega
    have hz:(⟨⟨[97]⟩⟩:ByteArray).size=1:=rfl;have ha:=yD (a:=s) (b:=⟨⟨[97]⟩⟩) (by omega);refine .inl ⟨s++⟨⟨[97]⟩⟩,?_,by simp only [JV];omega,by simp only [JV];omega⟩
    simp -implicitDefEqProofs only [aG,fe,lF,JI,dU,hn',decide_true,cF,if_true,ha]
   ·have hn':¬(s.size:Int)<((16+v:Nat):Int):=by omega
    refine .inr ⟨_,?_,rfl,s,rfl,h2⟩
    simp -implicitDefEqProofs only [aG,fe,lF,JI,dU,hn',decide_false,cF,Kz,if_false]
  ·rintro o ⟨s,rfl,g1⟩
   refine⟨s,c3,?_,g1,k3.mono (by omega)⟩
   simp -implicitDefEqProofs only [nJ,Nat.beq_refl,zE,if_true,aG,fe,aI,JI]
 rw [if_neg q1];by_cases q2:k=2
 ·rw [if_pos q2]
  have hz:(⟨⟨[122]⟩⟩:ByteArray).size=1:=rfl;have ha:=yD (a:=s) (b:=⟨⟨[122]⟩⟩) (by omega);refine⟨s++⟨⟨[122]⟩⟩,c2,?_,by simp only [JV];omega,k2.mono (by omega)⟩
  simp -implicitDefEqProofs only [e2,aA,aG,aI,JI,ha]
 ·rw [if_neg q2]
  refine⟨s,c2,?_,by omega,k2.mono (by omega)⟩
  simp -implicitDefEqProofs only [e2,aA,aG,aI,JI]
abbrev sd (a b:Int) (t:ByteArray) (n:Int):D:=.agg [I a,I b,T t,I n]
theorem IC (a b:Int):kV [(0,1),(1,1)] [I 0,I 0,T ⟨⟨[]⟩⟩,I 0] [I a,I b]=some (sd a b ⟨⟨[]⟩⟩ 0):=by simp [kV,pI]
theorem st0 (a b:Int) (t:ByteArray) (n a' b':Int) (t':ByteArray) (n':Int):stD 4 (sd a b t n) (.ref 0 0) (sd a' b' t' n')=some (sd a' b' t' n'):=by simp [stD,D.cells,D.single,bO,D.ofCells]
theorem st1 (a b:Int) (t:ByteArray) (n v:Int):stD 1 (sd a b t n) (.ref 0 0) (I v)=some (sd v b t n):=by simp [stD,D.cells,D.single,bO,D.ofCells]
theorem st2 (a b:Int) (t:ByteArray) (n v:Int):stD 1 (sd a b t n) (.ref 0 1) (I v)=some (sd a v t n):=by simp [stD,D.cells,D.single,bO,D.ofCells]
theorem st3 (a b:Int) (t:ByteArray) (n:Int) (v:ByteArray):stD 1 (sd a b t n) (.ref 0 2) (T v)=some (sd a b v n):=by simp [stD,D.cells,D.single,bO,D.ofCells]
theorem st4 (a b:Int) (t:ByteArray) (n v:Int):stD 1 (sd a b t n) (.ref 0 3) (I v)=some (sd a b t v):=by simp [stD,D.cells,D.single,bO,D.ofCells]
theorem qd (a b:Int) (t:ByteArray) (n:Int):bF true 4 0 (sd a b t n)=some (sd a b t n):=by simp [bF,D.cells,D.ofCells,ak]
theorem at0 (a b:Int) (t:ByteArray) (n:Int):(atD (sd a b t n) (.ref 0 0)).bind (ak false 1)=some (I a):=by simp [atD,ak,D.cells]
theorem BG (c:Cur) (B:Nat) (h:c.ok B) (hB:B≤800000000):∃(x:Stp) (c':Cur),cg [aP c]=some (.ret [stp x] [aP c'])∧x.2.2.1.size≤20∧c'.ok (B+100):=by
 rw [mJ];obtain⟨k,c1,e1,-,k1⟩:=jF c [1,1,1,2,2,3,3,4,5,6] B h (by omega) (by simp) (by simp);obtain⟨i,c2,e2,l2,u2,k2⟩:=jk c1 3 _ k1 (by omega) (by omega);have m1:=nU (l:=[1,1,1,2,2,3,3,4,5,6]);have m2:=nU (l:=[0,7]);have m3:=nU (l:=[0,99,100]);have m4:=nU (l:=[0,1,1001]);have m5:=nU (l:=[1,5,100,1000]);simp only [Kn,KE] at m1 m2 m3 m4 m5;have hz:(⟨⟨[]⟩⟩:ByteArray).size=0:=rfl;have tl:∀(c3:Cur),c3.ok (B+30)→∃(v:Int) (c4:Cur),aC [aP c3,I 40]=some (.ret [I v] [aP c4])∧c4.ok (B+32):=fun c3 hk=>by
  obtain⟨v,c4,e4,_,_,k4⟩:=jk c3 40 _ hk (by omega) (by omega);exact⟨v,c4,e4,k4⟩
 have a2:∀(c4:Cur),c4.ok (B+32)→∃(v:Int) (c5:Cur),au [aP c4,ll [0,7]]=some (.ret [I v] [aP c5])∧c5.ok (B+34):=fun c4 hk=>by
  obtain⟨v,c5,e5,_,k5⟩:=jF c4 [0,7] _ hk (by omega) (by simp) (by simp);exact⟨v,c5,e5,k5⟩
 have a3:∀(c4:Cur),c4.ok (B+32)→∃(v:Int) (c5:Cur),au [aP c4,ll [0,99,100]]=some (.ret [I v] [aP c5])∧c5.ok (B+34):=fun c4 hk=>by
  obtain⟨v,c5,e5,_,k5⟩:=jF c4 [0,99,100] _ hk (by omega) (by simp) (by simp);exact⟨v,c5,e5,k5⟩
 have a4:∀(c4:Cur),c4.ok (B+32)→∃(v:Int) (c5:Cur),au [aP c4,ll [0,1,1001]]=some (.ret [I v] [aP c5])∧c5.ok (B+34):=fun c4 hk=>by
  obtain⟨v,c5,e5,_,k5⟩:=jF c4 [0,1,1001] _ hk (by omega) (by simp) (by simp);exact⟨v,c5,e5,k5⟩
 have a5:∀(c4:Cur),c4.ok (B+32)→∃(s:ByteArray) (c5:Cur),bR [aP c4]=some (.ret [T s] [aP c5])∧s.size≤20∧c5.ok (B+62):=fun c4 hk=>CZ c4 _ hk (by omega)
 simp -implicitDefEqProofs only [aI,JI,gd,e1,aA,aG,m1,e2,fG,IC,tS',st0,at0,mf,cF,decide_eq_true_eq];by_cases q1:k=1
 ·rw [if_pos q1]
  obtain⟨s,c3,e3,hs,k3⟩:=FH c2 _ k2 (by omega);obtain⟨v,c4,e4,k4⟩:=tl c3 (k3.mono (by omega));simp -implicitDefEqProofs only [e3,aA,aG,JI,aI,st3,gd,e4,mf,cF,decide_eq_true_eq,tS'];by_cases q2:v=0
  ·obtain⟨u,c5,e5,k5⟩:=a2 c4 k4
   exact⟨(u,JJ.wrap (1+i),s,0),c5,by rw [if_pos q2];simp -implicitDefEqProofs only [m2,e5,JI,aA,aG,aI,st1,qd,st0]<;>rfl,by show s.size≤20;omega,k5.mono (by omega)⟩
  rw [if_neg q2];by_cases q3:v=1
  ·obtain⟨u,c5,e5,k5⟩:=a3 c4 k4
   exact⟨(k,u,s,0),c5,by rw [if_pos q3];simp -implicitDefEqProofs only [m3,e5,JI,aA,aG,aI,st2,qd,st0]<;>rfl,by show s.size≤20;omega,k5.mono (by omega)⟩
  rw [if_neg q3];by_cases q4:v=2
  ·obtain⟨u,c5,e5,k5⟩:=a4 c4 k4
   exact⟨(k,JJ.wrap (1+i),s,u),c5,by rw [if_pos q4];simp -implicitDefEqProofs only [m4,e5,JI,aA,aG,aI,st4,qd,st0]<;>rfl,by show s.size≤20;omega,k5.mono (by omega)⟩
  rw [if_neg q4];by_cases q5:v=3
  ·obtain⟨u,c5,e5,h5,k5⟩:=a5 c4 k4
   exact⟨(k,JJ.wrap (1+i),u,0),c5,by rw [if_pos q5];simp -implicitDefEqProofs only [e5,JI,aA,aG,aI,st3,qd,st0]<;>rfl,h5,k5.mono (by omega)⟩
  ·exact⟨(k,JJ.wrap (1+i),s,0),c4,by rw [if_neg q5];simp -implicitDefEqProofs only [JI,aA,aG,aI,qd,st0]<;>rfl,by show s.size≤20;omega,k4.mono (by omega)⟩
 rw [if_neg q1];have main:∀(n:Int) (c3:Cur),c3.ok (B+30)→∃(v:Int) (c4:Cur),aC [aP c3,I 40]=some (.ret [I v] [aP c4])∧c4.ok (B+32):=fun _ c3 hk=>tl c3 hk
 by_cases q3:k=3
 ·rw [if_pos q3]
  obtain⟨n,c3,e3,_,k3⟩:=jF c2 [1,5,100,1000] _ k2 (by omega) (by simp) (by simp);obtain⟨v,c4,e4,k4⟩:=tl c3 (k3.mono (by omega));simp -implicitDefEqProofs only [m5,e3,aA,aG,JI,aI,st4,gd,e4,mf,cF,decide_eq_true_eq,tS'];by_cases q2:v=0
  ·obtain⟨u,c5,e5,k5⟩:=a2 c4 k4
   exact⟨(u,JJ.wrap (1+i),⟨⟨[]⟩⟩,n),c5,by rw [if_pos q2];simp -implicitDefEqProofs only [m2,e5,JI,aA,aG,aI,st1,qd,st0]<;>rfl,by show 0≤20;omega,k5.mono (by omega)⟩
  rw [if_neg q2];by_cases q3:v=1
  ·obtain⟨u,c5,e5,k5⟩:=a3 c4 k4
   exact⟨(k,u,⟨⟨[]⟩⟩,n),c5,by rw [if_pos q3];simp -implicitDefEqProofs only [m3,e5,JI,aA,aG,aI,st2,qd,st0]<;>rfl,by show 0≤20;omega,k5.mono (by omega)⟩
  rw [if_neg q3];by_cases q4:v=2
  ·obtain⟨u,c5,e5,k5⟩:=a4 c4 k4
   exact⟨(k,JJ.wrap (1+i),⟨⟨[]⟩⟩,u),c5,by rw [if_pos q4];simp -implicitDefEqProofs only [m4,e5,JI,aA,aG,aI,st4,qd,st0]<;>rfl,by show 0≤20;omega,k5.mono (by omega)⟩
  rw [if_neg q4];by_cases q5:v=3
  ·obtain⟨u,c5,e5,h5,k5⟩:=a5 c4 k4
   exact⟨(k,JJ.wrap (1+i),u,n),c5,by rw [if_pos q5];simp -implicitDefEqProofs only [e5,JI,aA,aG,aI,st3,qd,st0]<;>rfl,h5,k5.mono (by omega)⟩
  ·exact⟨(k,JJ.wrap (1+i),⟨⟨[]⟩⟩,n),c4,by rw [if_neg q5];simp -implicitDefEqProofs only [JI,aA,aG,aI,qd,st0]<;>rfl,by show 0≤20;omega,k4.mono (by omega)⟩
 rw [if_neg q3];obtain⟨v,c4,e4,k4⟩:=tl c2 (k2.mono (by omega));simp -implicitDefEqProofs only [aA,aG,JI,aI,gd,e4,mf,cF,decide_eq_true_eq,tS'];by_cases q2:v=0
 ·obtain⟨u,c5,e5,k5⟩:=a2 c4 k4
  exact⟨(u,JJ.wrap (1+i),⟨⟨[]⟩⟩,0),c5,by rw [if_pos q2];simp -implicitDefEqProofs only [m2,e5,JI,aA,aG,aI,st1,qd,st0]<;>rfl,by show 0≤20;omega,k5.mono (by omega)⟩
 rw [if_neg q2];by_cases q3:v=1
 ·obtain⟨u,c5,e5,k5⟩:=a3 c4 k4
  exact⟨(k,u,⟨⟨[]⟩⟩,0),c5,by rw [if_pos q3];simp -implicitDefEqProofs only [m3,e5,JI,aA,aG,aI,st2,qd,st0]<;>rfl,by show 0≤20;omega,k5.mono (by omega)⟩
 rw [if_neg q3];by_cases q4:v=2
 ·obtain⟨u,c5,e5,k5⟩:=a4 c4 k4
  exact⟨(k,JJ.wrap (1+i),⟨⟨[]⟩⟩,u),c5,by rw [if_pos q4];simp -implicitDefEqProofs only [m4,e5,JI,aA,aG,aI,st4,qd,st0]<;>rfl,by show 0≤20;omega,k5.mono (by omega)⟩
 rw [if_neg q4];by_cases q5:v=3
 ·obtain⟨u,c5,e5,h5,k5⟩:=a5 c4 k4
  exact⟨(k,JJ.wrap (1+i),u,0),c5,by rw [if_pos q5];simp -implicitDefEqProofs only [e5,JI,aA,aG,aI,st3,qd,st0]<;>rfl,h5,k5.mono (by omega)⟩
 ·exact⟨(k,JJ.wrap (1+i),⟨⟨[]⟩⟩,0),c4,by rw [if_neg q5];simp -implicitDefEqProofs only [JI,aA,aG,aI,qd,st0]<;>rfl,by show 0≤20;omega,k4.mono (by omega)⟩
end Go.Proofs.YtkcojipciiakdaaDoor

end
