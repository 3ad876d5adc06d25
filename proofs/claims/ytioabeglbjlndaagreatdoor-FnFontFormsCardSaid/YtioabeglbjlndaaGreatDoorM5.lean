/-
  A part of the proof: contracts and plain forms of functions beneath the statement, made small by a program (names shortened, what is not needed left out).
-/
import Derived.Test.YtioabeglbjlndaaGreatDoorRows
import Derived.Test.YtioabeglbjlndaaGreatDoorTie
import Derived.Test.YtioabeglbjlndaaGreatDoorCards
import Derived.Test.YtioabeglbjlndaaGreatDoorM4
import Derived.Lib.IndexBytes
import Derived.Laws.RangeString
import Derived.Laws.Bits64b
open Option renaming bind_some → EU, map → EX, map_some → Fg, map_none → FR
open Go.Value renaming int → EV
open Go.IntKind renaming i64 → EW, u64 → Fa, u8 → Fj, i32 → Ft, bits → Gk
open Go.Lib renaming decDigits → EY, parseUint10 → Fl, decDigits_one → Fp, goFieldsP → Fr, spansFromP → Fx, closeSpans → FD, atoiAll → FF, index → Gi
open Bool renaming false_eq_true → EZ, true_and → Fv, false_and → FE
open Int renaming reduceLT → Fb, reduceLE → Fc, reduceEq → Fe, eq_ofNat_of_zero_le → Ff, not_lt → FI, not_le → FV, toNat_natCast → Ga
open List renaming cons_append → Fh, getElem_mem → Fi, map_append → Fk, getElem?_eq_getElem → Fo, map_cons → Fq, length_take → Fs, drop_eq_nil_of_le → Fu, take_succ_eq_append_getElem → Fy, drop_append_of_le_length → FA, map_nil → FC, length_pos_iff → FJ, mem_singleton → FL, mem_cons → FM, drop_eq_getElem_cons → FN, getElem?_eq_some_iff → FO, all_eq_true → FP, nil_append → FQ, length_map → FT, length_append → FZ, foldl_append → Gb, take_length → Gd, mem_append → Gf, foldl_cons → Gg, length_nil → Gh
open ByteArray renaming size_append → Fm
open UInt8 renaming ofNat → Fw, toNat_inj → Ge
open Nat renaming le_refl → Fz, le_trans → FH, zero_le → FK, mod_lt → FU, pow_succ → FX, beq_refl → FY
open List.cons renaming injEq → FG, inj → FW
open Go.Utf8 renaming decode → Gc
open Go.BinOp renaming neq → Gj
set_option maxRecDepth 100000
set_option linter.unusedSimpArgs false
set_option linter.unusedVariables false
noncomputable section
namespace Go.Proofs.YtioabeglbjlndaaGreatDoor
open Go.V
set_option maxRecDepth 100000
@[reducible] def ty3:TI:={n:=1,zero:=[.v (.int .i64 0)],ik:=some .i64}
@[reducible] def ty5:TI:={n:=1,zero:=[.v (.int .u8 0)],ik:=some .u8}
@[reducible] def ty9:TI:={n:=1,zero:=[.v (.string ⟨#[]⟩)],str:=true}
@[reducible] def rU:TI:={n:=1,zero:=[.arr 1 []],elem:=5,ez:=1,eb:=1}
@[reducible] def iO:TI:={n:=1,zero:=[.arr 2 []],elem:=25,ez:=2,eb:=24}
@[reducible] def iz:TI:={agg:=true,n:=2,zero:=[.v (.string ⟨#[]⟩),.v (.int .i64 0)],fs:=[(0,9),(1,3)],eq:=[3,1]}
@[reducible] def kz:TI:={n:=1,zero:=[.arr 1 []],elem:=9,ez:=1,eb:=16}
@[reducible] def zH:TI:={n:=1,zero:=[.v (.int .u64 0)],ik:=some .u64}
@[reducible] def yC:TI:={agg:=true,n:=3,zero:=[.arr 1 [],.v (.int .i64 0),.v (.int .u64 0)],fs:=[(0,22),(1,3),(2,49)]}
@[reducible] def BJ:TI:={n:=1,zero:=[.arr 1 []],elem:=3,ez:=1,eb:=8}
@[reducible] def EN:TI:={n:=1,zero:=[.v .nilIface],ifc:=true}
@[reducible] def jh:Cx:={K:=[.box 3 2 true,.no,Y,Y,Yr 0,Yr 0,Yr 0,Y,Yr 0,Yr 0,Yr 0,Yc,Y,Y,Yr 0,Yr 0,Yr 0,Yc,Yr 0,Yr 0,Yr 0,Y,Yc,Y,Y,Yr 0,Yr 0,Yr 0,Y,Y,Yr 0,Yr 0,Yr 0,Yr 0,Yr 0,Yr 0,Y,Y,Y,Y,Y,Y,Yr 0,Yr 0,Yr 0,Yr 0,Yr 0,Y,Yr 0,Yr 0,Yr 0,Yc,Y,Y,Y,Yr 0,Yr 0,Yr 0,Y,Y,Y,Y],T:=[(3,ty3),(5,ty5),(22,rU),(49,zH),(51,yC)],S:=[],H:=[],res:=[.tmp 2],ios:=[0],G:=gl0}
def bH:List D→Option Out:=bE jh Tryz.f68
@[reducible] def jd:FS:={pm:=[.box 3 2 true],rm:=[Y],f:=bH}
theorem oY:ao gl0 Tryz.prog 68 jd:=aE (c:=jh) ax Tryz.func68 rfl rfl (by kernel_rfl)
@[reducible] def iX:Cx:={K:=[.box 3 2 true,Y,.no,.no,Y,Y,Y,Y,Yr 0,Y,Y,Y,Y,Y,Yr 0,Y,Y,Y,Y,Y],T:=[(3,ty3)],S:=[(68,jd)],H:=[],res:=[.tmp 4],ios:=[0],G:=gl0}
def am:List D→Option Out:=bE iX Tryz.f45
@[reducible] def aI:FS:={pm:=[.box 3 2 true,Y],rm:=[Y],f:=am}
theorem aQ:ao gl0 Tryz.prog 45 aI:=aE (c:=iX) (ab oY ax) Tryz.func45 rfl rfl (by kernel_rfl)
@[reducible] def ki:Cx:={K:=[.box 3 2 true,Y,.no,.no,Y,Yr 0,Y,Y,Y],T:=[(3,ty3)],S:=[(45,aI)],H:=[],res:=[.tmp 4],ios:=[0],G:=gl0}
def bq:List D→Option Out:=bE ki Tryz.f62
@[reducible] def fT:FS:={pm:=[.box 3 2 true,Y],rm:=[Y],f:=bq}
theorem jQ:ao gl0 Tryz.prog 62 fT:=aE (c:=ki) (ab aQ ax) Tryz.func62 rfl rfl (by kernel_rfl)
@[reducible] def iV:Cx:={K:=[.box 3 2 true,.no,Yo 2 0,Yo 2 0,.no,Y,Yb,Y,Y,Y,Yb,Y,Y,Y,Y,Y,Yr 0,Y,Y,Y,Y,Y,Y,Y,Y,Yr 0,Y,Y,Y,Yo 2 0,Y,Y,Y,Yr 0,Y,Y,Y,Y,Y,Yb,Yo 2 0,Y,.via 3,Y,Y,Y,Yo 2 0,Yo 2 0],T:=[(3,ty3),(9,ty9),(23,iO),(25,iz),(37,kz)],S:=[(45,aI),(62,fT)],H:=[(0,([0,3,6,7,8],[0,3]))],res:=[.tmp 2],ios:=[0],G:=gl0}
def cS:List D→Option Out:=bE iV Tryz.f44
@[reducible] def fe:FS:={pm:=[.box 3 2 true],rm:=[Yo 2 0],f:=cS}
theorem iY:ao gl0 Tryz.prog 44 fe:=aE (c:=iV) (ab aQ (ab jQ ax)) Tryz.func44 rfl rfl (by kernel_rfl)
@[reducible] def kT:Cx:={K:=[.box 3 2 true,Yc,.no,.no,Y,Yc,Yr 0,Yc,Y,Y,Yc,Y],T:=[(9,ty9),(37,kz)],S:=[(45,aI)],H:=[],res:=[.tmp 4],ios:=[0],G:=gl0}
def bz:List D→Option Out:=bE kT Tryz.f26
@[reducible] def ck:FS:={pm:=[.box 3 2 true,Yc],rm:=[Y],f:=bz}
theorem cN:ao gl0 Tryz.prog 26 ck:=aE (c:=kT) (ab aQ ax) Tryz.func26 rfl rfl (by kernel_rfl)
@[reducible] def iG:Cx:={K:=[.box 3 2 true,Yc,.no,.no,Y,Yc,Yr 0,Yc,Y,Y,Yc,Y],T:=[(3,ty3),(55,BJ)],S:=[(45,aI)],H:=[],res:=[.tmp 4],ios:=[0],G:=gl0}
def cF:List D→Option Out:=bE iG Tryz.f27
@[reducible] def eQ:FS:={pm:=[.box 3 2 true,Yc],rm:=[Y],f:=cF}
theorem iv:ao gl0 Tryz.prog 27 eQ:=aE (c:=iG) (ab aQ ax) Tryz.func27 rfl rfl (by kernel_rfl)
@[reducible] def gu:Cx:={K:=[.box 3 2 true,.no,Yo 2 0,Yo 2 0,Y,Y,Yr 0,Yo 2 0,Yr 0,.via 3,Y,Y,Yr 0,Y,Y,Y,.via 3,Y,Yr 0,Yb,Y,Yr 3,Yr 3,Y,Y,.via 3,Y,Yr 0,Yb,Y,Yr 3,Yr 3,Y,Y,Y,Y,Yr 0,Y,Y,.via 3,Y,Y,Y,.via 3,.via 3,Y,Y,Y,Y,.via 3,Y,Y,Y,Y,Yb,Y,Y,Yb,Yo 2 0,Yo 2 0],T:=[(3,ty3),(5,ty5),(9,ty9),(22,rU),(23,iO),(25,iz),(37,kz),(55,BJ)],S:=[(26,ck),(27,eQ),(44,fe),(45,aI)],H:=[(1,([0,3,5],[0,3]))],res:=[.tmp 2],ios:=[0],G:=gl0}
def bn:List D→Option Out:=bE gu Tryz.f25
@[reducible] def bV:FS:={pm:=[.box 3 2 true],rm:=[Yo 2 0],f:=bn}
theorem cX:ao gl0 Tryz.prog 25 bV:=aE (c:=gu) (ab cN (ab iv (ab iY (ab aQ ax)))) Tryz.func25 rfl rfl (by kernel_rfl)
@[reducible] def gO:Cx:={K:=[Yc,.no,Yo 2 0,.box 2 0 false,Yr 7,Yc,Yc,.box 3 2 false,Yr 7,Yo 2 0,Yr 7,Yb,Y,Yr 7,Yb,Y,Y],T:=[(3,ty3),(9,ty9),(22,rU),(23,iO),(25,iz),(37,kz),(49,zH),(51,yC),(55,BJ)],S:=[(25,bV),(26,ck),(27,eQ)],H:=[],res:=[.tmp 2,.cell 3 25],ios:=[],G:=gl0}
def dp:List D→Option Out:=bE gO Tryz.f4
@[reducible] def gQ:FS:={pm:=[Yc],rm:=[Yo 2 0,Y],f:=dp}
theorem mN:ao gl0 Tryz.prog 4 gQ:=aE (c:=gO) (ab cX (ab cN (ab iv ax))) Tryz.func4 rfl rfl (by kernel_rfl)
@[reducible] def mV:Cx:={K:=[Y,Y,Y,.no,.no,.no,Y,Y,Y,Y,Y,Y,Y,Y,Y],T:=[(3,ty3)],S:=[],H:=[],res:=[.tmp 6],ios:=[],G:=gl0}
def dT:List D→Option Out:=bE mV Tryz.f33
@[reducible] def fX:FS:={pm:=[Y,Y,Y],rm:=[Y],f:=dT}
theorem jo:ao gl0 Tryz.prog 33 fX:=aE (c:=mV) ax Tryz.func33 rfl rfl (by kernel_rfl)
@[reducible] def iZ:Cx:={K:=[Y,Y,Y,.no,.no,.no,Y,Y,Y,Y,Y,Y,Y,Y,Y,Y,Y,Y,Y,Y,Y,Y,Y,Y,Y,Y,Y,Y,Y],T:=[(3,ty3),(5,ty5),(9,ty9)],S:=[(33,fX)],H:=[(0,([0,1,2,7],[0,1,2]))],res:=[.tmp 6],ios:=[],G:=gl0}
def cV:List D→Option Out:=bE iZ Tryz.f53
@[reducible] def fu:FS:={pm:=[Y,Y,Y],rm:=[Y],f:=cV}
theorem iU:ao gl0 Tryz.prog 53 fu:=aE (c:=iZ) (ab jo ax) Tryz.func53 rfl rfl (by kernel_rfl)
@[reducible] def mT:Cx:={K:=[Y,.no,Y,Y,Y],T:=[],S:=[(53,fu)],H:=[],res:=[.tmp 2],ios:=[],G:=gl0}
def fY:List D→Option Out:=bE mT Tryz.f34
@[reducible] def ni:FS:={pm:=[Y],rm:=[Y],f:=fY}
theorem tJ:ao gl0 Tryz.prog 34 ni:=aE (c:=mT) (ab iU ax) Tryz.func34 rfl rfl (by kernel_rfl)
@[reducible] def mO:Cx:={K:=[Y,.box 2 0 false,Y,Yr 1,Y,Y,Y,Yr 1,Y,Y,Y],T:=[(3,ty3),(9,ty9),(25,iz)],S:=[(33,fX),(34,ni)],H:=[],res:=[.tmp 2],ios:=[],G:=gl0}
def ct:List D→Option Out:=bE mO Tryz.f11
@[reducible] def gm:FS:={pm:=[Y],rm:=[Y],f:=ct}
theorem jl:ao gl0 Tryz.prog 11 gm:=aE (c:=mO) (ab jo (ab tJ ax)) Tryz.func11 rfl rfl (by kernel_rfl)
@[reducible] def ng:Cx:={K:=[Yc,.no,Y,Y,.box 2 0 false,Yc,Y,Y,Y,Y,Yc,Y,Y,Y,Y,Y,Y,Y,Y,Yc,Y,Y,Yc,Yc,Y,Yr 4,Y,Y,Y,Y,Y,Yc,Y,Y],T:=[(3,ty3),(9,ty9),(23,iO),(25,iz)],S:=[(11,gm),(33,fX)],H:=[(0,([0,5,6,7],[0]))],res:=[.tmp 2],ios:=[],G:=gl0}
def bu:List D→Option Out:=bE ng Tryz.f10
@[reducible] def cA:FS:={pm:=[Yc],rm:=[Y],f:=bu}
theorem cZ:ao gl0 Tryz.prog 10 cA:=aE (c:=ng) (ab jl (ab jo ax)) Tryz.func10 rfl rfl (by kernel_rfl)
@[reducible] def kY:Cx:={K:=[Yc,Y,.no,.box 2 0 false,Yo 2 0,Y,Y,Yo 2 0,Yc,Y,Y,Y,Y,Y,Y,Y,Yo 2 0,Y,Yc,Y,Y,Y,Yc,Y,Yc,Yc,Y,Yr 3,Y,Y,Y,Y,Y,Yo 2 0,Yc,Y,Yc,Yo 2 0,Y,Yb,Yo 2 0,Yc,Y,Yc,Yo 2 0,.via 7,Y,Y,Yo 2 0,Yo 2 0],T:=[(3,ty3),(9,ty9),(23,iO),(25,iz)],S:=[(10,cA),(11,gm)],H:=[(0,([0,3,6],[0,3,6]))],res:=[.tmp 4,.tmp 5],ios:=[],G:=gl0}
def eI:List D→Option Out:=bE kY Tryz.f5
@[reducible] def kO:FS:={pm:=[Yc,Y],rm:=[Yo 2 0,Y],f:=eI}
theorem rf:ao gl0 Tryz.prog 5 kO:=aE (c:=kY) (ab cZ (ab jl ax)) Tryz.func5 rfl rfl (by kernel_rfl)
@[reducible] def qq:Cx:={K:=[Y,Y,Y,.no,.no,.no,Y,Y,Y,Y,Y,Y,Y,Y,Y],T:=[(3,ty3)],S:=[],H:=[],res:=[.tmp 6],ios:=[],G:=gl0}
def eg:List D→Option Out:=bE qq Tryz.f49
@[reducible] def gD:FS:={pm:=[Y,Y,Y],rm:=[Y],f:=eg}
theorem iT:ao gl0 Tryz.prog 49 gD:=aE (c:=qq) ax Tryz.func49 rfl rfl (by kernel_rfl)
@[reducible] def jE:Cx:={K:=[Y,Y,.no,.no,Y,Y,Y,Y,Y,Y,Y,Y,Y,Y,Y,Y,Y,Y,Y,Y,Y,Y,Y,Y,Y,Y],T:=[(3,ty3),(5,ty5),(9,ty9)],S:=[(49,gD)],H:=[(0,([0,1,5],[0,1]))],res:=[.tmp 4],ios:=[],G:=gl0}
def dy:List D→Option Out:=bE jE Tryz.f50
@[reducible] def fN:FS:={pm:=[Y,Y],rm:=[Y],f:=dy}
theorem jR:ao gl0 Tryz.prog 50 fN:=aE (c:=jE) (ab iT ax) Tryz.func50 rfl rfl (by kernel_rfl)
@[reducible] def na:Cx:={K:=[Y,.box 2 0 false,Y,Yr 1,Y,Y,Y,Yr 1,Y,Y,Y],T:=[(3,ty3),(9,ty9),(25,iz)],S:=[(49,gD),(50,fN)],H:=[],res:=[.tmp 2],ios:=[],G:=gl0}
def dR:List D→Option Out:=bE na Tryz.f29
@[reducible] def gd:FS:={pm:=[Y],rm:=[Y],f:=dR}
theorem jv:ao gl0 Tryz.prog 29 gd:=aE (c:=na) (ab iT (ab jR ax)) Tryz.func29 rfl rfl (by kernel_rfl)
@[reducible] def mX:Cx:={K:=[Yc,.no,Y,Y,.box 2 0 false,Yc,Y,Y,Y,Y,Yc,Y,Y,Y,Y,Y,Y,Y,Y,Yc,Y,Y,Yc,Yc,Y,Yr 4,Y,Y,Y,Y,Y,Yc,Y,Y],T:=[(3,ty3),(9,ty9),(23,iO),(25,iz)],S:=[(29,gd),(49,gD)],H:=[(0,([0,5,6,7],[0]))],res:=[.tmp 2],ios:=[],G:=gl0}
def bG:List D→Option Out:=bE mX Tryz.f28
@[reducible] def dg:FS:={pm:=[Yc],rm:=[Y],f:=bG}
theorem dQ:ao gl0 Tryz.prog 28 dg:=aE (c:=mX) (ab jv (ab iT ax)) Tryz.func28 rfl rfl (by kernel_rfl)
@[reducible] def nf:Cx:={K:=[Yc,Y,.no,.no,Y,Y,.box 2 0 false,Yc,Y,Y,Y,Y,Yc,Y,Yr 6,Y,Y,Y,Y,Y],T:=[(3,ty3),(9,ty9),(23,iO),(25,iz)],S:=[],H:=[(0,([1,7,8,9],[]))],res:=[.tmp 4],ios:=[],G:=gl0}
def de:List D→Option Out:=bE nf Tryz.f30
@[reducible] def eF:FS:={pm:=[Yc,Y],rm:=[Y],f:=de}
theorem gc:ao gl0 Tryz.prog 30 eF:=aE (c:=nf) ax Tryz.func30 rfl rfl (by kernel_rfl)
@[reducible] def li:Cx:={K:=[Yc,Y,.no,.box 2 0 false,Yo 2 0,Y,Y,Yo 2 0,Yc,Y,Y,Y,Y,Y,Y,Y,Y,Yc,Yr 3,Y,Y,Y,Y,Y,Yc,Y,Y,Y,Yc,Y,Yc,Yc,Y,Yr 3,Y,Y,Y,Y,Y,Yo 2 0,Yc,Y,Yc,Yo 2 0,Y,Yb,Yo 2 0,Yc,Y,Yc,Yo 2 0,.via 7,Y,Y,Yo 2 0],T:=[(3,ty3),(9,ty9),(23,iO),(25,iz)],S:=[(28,dg),(29,gd),(30,eF)],H:=[(0,([0,3,6],[0,3,6]))],res:=[.tmp 4,.tmp 5],ios:=[],G:=gl0}
def eL:List D→Option Out:=bE li Tryz.f6
@[reducible] def kV:FS:={pm:=[Yc,Y],rm:=[Yo 2 0,Y],f:=eL}
theorem qS:ao gl0 Tryz.prog 6 kV:=aE (c:=li) (ab dQ (ab jv (ab gc ax))) Tryz.func6 rfl rfl (by kernel_rfl)
@[reducible] def kU:Cx:={K:=[Yc,.no,Y,Y,.no,.box 2 0 false,Yc,Y,Y,Y,Yc,Y,Y,Yr 5,Y,Yr 5,Y,Y,Y,Y,Y,Y,Y],T:=[(3,ty3),(9,ty9),(23,iO),(25,iz)],S:=[(51,lQ)],H:=[(0,([3,6,7,8],[3]))],res:=[.tmp 2],ios:=[],G:=gl1}
def dL:List D→Option Out:=bE kU Tryz.f31
@[reducible] def gL:FS:={pm:=[Yc],rm:=[Y],f:=dL}
theorem lc:ao gl1 Tryz.prog 31 gL:=aE (c:=kU) (ab sF ax) Tryz.func31 rfl rfl (by kernel_rfl)
@[reducible] def kQ:Cx:={K:=[Yc,.no,Y,Y,Yc,Y,Y,Yc,Y],T:=[],S:=[(10,cA),(31,gL)],H:=[],res:=[.tmp 2,.tmp 3],ios:=[],G:=gl1}
def eO:List D→Option Out:=bE kQ Tryz.f7
@[reducible] def lh:FS:={pm:=[Yc],rm:=[Y,Y],f:=eO}
theorem qZ:ao gl1 Tryz.prog 7 lh:=aE (c:=kQ) (ab (aC Ex cZ) (ab lc ax)) Tryz.func7 rfl rfl (by kernel_rfl)
@[reducible] def oH (k:List D→Option Out):Cx:={K:=[Y,.no,Y,Y,Y,Y,Y,Y,Yb,Y,Y,Y,Y,Y,Y,Y,Y,Yb,Y,Y],T:=[(3,ty3),(5,ty5),(9,ty9),(22,rU)],S:=[(52,{pm:=[Y],rm:=[Y],f:=k})],H:=[],res:=[.tmp 2],ios:=[],G:=gl0}
def bh:Nat→List D→Option Out
 | 0,_=>none
 | n+1,ds=>bE (oH (bh n)) Tryz.f52 ds
def ku:List D→Option Out:=yw bh
@[reducible] def gZ:FS:={pm:=[Y],rm:=[Y],f:=ku}
theorem nw:∀n:Nat,ao gl0 Tryz.prog 52 {pm:=[Y],rm:=[Y],f:=bh n}
 | 0=>xg (fun _=>rfl)
 | n+1=>by
  have ih:=nw n;exact wQ (P:=Tryz.prog) (c:=oH (bh n)) (fn:=Tryz.f52) (pm:=gZ.pm) (rm:=gZ.rm) (by kernel_rfl) (ab ih ax) ju Tryz.func52 (by kernel_rfl) (by kernel_rfl) rfl
theorem uO:ao gl0 Tryz.prog 52 gZ:=zA nw
@[reducible] def mS:Cx:={K:=[Yc,.no,Y,Y,.no,.box 2 0 false,Yc,Y,Y,Y,Yc,Y,Y,Yr 5,Y,Yr 5,Y,Y,Y,Y,Y,Y,Y],T:=[(3,ty3),(9,ty9),(23,iO),(25,iz)],S:=[(52,gZ)],H:=[(0,([3,6,7,8],[3]))],res:=[.tmp 2],ios:=[],G:=gl0}
def dS:List D→Option Out:=bE mS Tryz.f32
@[reducible] def gi:FS:={pm:=[Yc],rm:=[Y],f:=dS}
theorem jm:ao gl0 Tryz.prog 32 gi:=aE (c:=mS) (ab uO ax) Tryz.func32 rfl rfl (by kernel_rfl)
@[reducible] def kP:Cx:={K:=[Yc,.no,Y,Y,Yc,Y,Y,Yc,Y],T:=[],S:=[(28,dg),(32,gi)],H:=[],res:=[.tmp 2,.tmp 3],ios:=[],G:=gl0}
def eN:List D→Option Out:=bE kP Tryz.f8
@[reducible] def kZ:FS:={pm:=[Yc],rm:=[Y,Y],f:=eN}
theorem qU:ao gl0 Tryz.prog 8 kZ:=aE (c:=kP) (ab dQ (ab jm ax)) Tryz.func8 rfl rfl (by kernel_rfl)
@[reducible] def nl:Cx:={K:=[Yc,Yc,.no,.no,Y,Y,Yc,Y,Yc,Y,Y,Yc,Y,Y,Y,Y,Yc,Y,Yc,Y,Yc,Y,Yc,Y,Y,Y],T:=[(3,ty3),(9,ty9),(23,iO),(25,iz)],S:=[],H:=[(0,([0,1,12,13],[]))],res:=[.tmp 4],ios:=[],G:=gl0}
def cy:List D→Option Out:=bE nl Tryz.f9
@[reducible] def nj:FS:={pm:=[Yc,Yc],rm:=[Y],f:=cy}
theorem tL:ao gl0 Tryz.prog 9 nj:=aE (c:=nl) ax Tryz.func9 rfl rfl (by kernel_rfl)
@[reducible] def mU:Cx:={K:=[Yc,Y,.no,.no,Y,Y,.box 2 0 false,Yc,Y,Y,Y,Y,Yc,Y,Yr 6,Y,Y,Y,Y,Y],T:=[(3,ty3),(9,ty9),(23,iO),(25,iz)],S:=[],H:=[(0,([1,7,8,9],[]))],res:=[.tmp 4],ios:=[],G:=gl0}
def dU:List D→Option Out:=bE mU Tryz.f35
@[reducible] def gk:FS:={pm:=[Yc,Y],rm:=[Y],f:=dU}
theorem jn:ao gl0 Tryz.prog 35 gk:=aE (c:=mU) ax Tryz.func35 rfl rfl (by kernel_rfl)
@[reducible] def il:Cx:={K:=[Yc,Y,.no,.no,Yo 2 0,Y,Y,Yc,Y,Y,Yc,Y,Y,Y,Y,Y,Y,Y,Yc,Y,Y,Y,Yo 2 0,Yo 2 0,Yc,Y,Yc,Yo 2 0,Yc,Y,Y,Yc,Yo 2 0],T:=[(3,ty3),(23,iO),(25,iz)],S:=[(10,cA),(35,gk)],H:=[],res:=[.tmp 4,.tmp 5],ios:=[],G:=gl0}
def cE:List D→Option Out:=bE il Tryz.f12
@[reducible] def iK:FS:={pm:=[Yc,Y],rm:=[Yo 2 0,Y],f:=cE}
theorem nU:ao gl0 Tryz.prog 12 iK:=aE (c:=il) (ab cZ (ab jn ax)) Tryz.func12 rfl rfl (by kernel_rfl)
@[reducible] def jI:Cx:={K:=[Y,.no,Yo 1 0,Yo 1 0,.no,Y,Y,Y,Yo 1 0,Y,Yb,Y,Y,Y,Yb,Y,.tup [Y,Y],Y,.tup [Y,Y],Y,Y,Y,Y,Yo 1 0,Yo 1 0,Y,Yb,Yo 1 0,Y,Yo 1 0],T:=[(3,ty3),(9,ty9),(37,kz),(55,BJ),(83,EN)],S:=[(59,gw),(61,lF)],H:=[(0,([3,10,11,12],[3]))],res:=[.tmp 2],ios:=[],G:=gl2}
def ep:List D→Option Out:=bE jI Tryz.f38
@[reducible] def kf:FS:={pm:=[Y],rm:=[Yo 1 0],f:=ep}
theorem pQ:ao gl2 Tryz.prog 38 kf:=aE (c:=jI) (ab (aC iw lE) (ab rX ax)) Tryz.func38 rfl rfl (by kernel_rfl)
@[reducible] def jS:Cx:={K:=[Y,.no,Yo 2 0,Y,Yo 2 0,.no,Y,Y,Yb,Yo 2 0,Y,Yb,Y,Y,Y,Yb,Y,Y,Y,Y,Yb,Yb,Y,Y,Yo 2 0,Y,Yb,Yb,Y,Y,Yb,Yo 2 0,Y,.via 4,Y,Y,Y,.via 4,Y,Y,Y,Y,Yo 2 0,Yo 2 0],T:=[(3,ty3),(9,ty9),(23,iO),(25,iz),(37,kz),(55,BJ)],S:=[(10,cA),(31,gL),(36,kW),(37,gR),(38,kf)],H:=[(0,([0,4,11,12,13],[0,4]))],res:=[.tmp 2,.tmp 3],ios:=[],G:=gl2}
def dr:List D→Option Out:=bE jS Tryz.f13
@[reducible] def jL:FS:={pm:=[Y],rm:=[Yo 2 0,Y],f:=dr}
theorem pN:ao gl2 Tryz.prog 13 jL:=aE (c:=jS) (ab (aC iw cZ) (ab (aC Eb lc) (ab (aC iw qI) (ab (aC iw mG) (ab pQ ax))))) Tryz.func13 rfl rfl (by kernel_rfl)
@[reducible] def iS:Cx:={K:=[.box 3 2 true,.no,Y,Y,Y,Yr 0,Y,Y,Y,Y,Y,Y,Y,Yr 0,Yb,Y,Y,Y],T:=[(3,ty3),(9,ty9),(37,kz)],S:=[(26,ck),(45,aI)],H:=[(0,([0,3,4],[0,3]))],res:=[.tmp 2],ios:=[0],G:=gl0}
def bg:List D→Option Out:=bE iS Tryz.f63
@[reducible] def fm:FS:={pm:=[.box 3 2 true],rm:=[Y],f:=bg}
theorem ja:ao gl0 Tryz.prog 63 fm:=aE (c:=iS) (ab cN (ab aQ ax)) Tryz.func63 rfl rfl (by kernel_rfl)
@[reducible] def gq:Cx:={K:=[.box 3 2 true,.no,Y,Y,Y,Yr 0,Y,Y,Y,Yr 0,Yb,Y,Y,Y,Yr 0,Y,Y,Y,Y,Y,Y,Y,Y,Y,Y,Y,Yr 0,Y,Y,Yr 0,Y],T:=[(3,ty3),(9,ty9),(37,kz)],S:=[(26,ck),(45,aI),(63,fm)],H:=[(1,([0,3,4],[0,3]))],res:=[.tmp 2],ios:=[0],G:=gl0}
def bA:List D→Option Out:=bE gq Tryz.f64
@[reducible] def gB:FS:={pm:=[.box 3 2 true],rm:=[Y],f:=bA}
theorem lN:ao gl0 Tryz.prog 64 gB:=aE (c:=gq) (ab cN (ab aQ (ab ja ax))) Tryz.func64 rfl rfl (by kernel_rfl)
@[reducible] def iq:Cx:={K:=[.box 3 2 true,.no,Yo 1 0,Yo 1 0,Y,Yr 0,Y,Yr 0,Y,Yr 0,Y,Y,.via 3,Y,Y,Y,Yo 1 0,Yr 0,Y,Yb,Yo 1 0,Y,Y,Y,Yr 0,Y,Y,.via 3,Yr 0,Y,Y,Yr 0,Y,Yr 3,Yo 1 0],T:=[(3,ty3),(9,ty9),(37,kz)],S:=[(45,aI),(62,fT),(63,fm),(64,gB)],H:=[(0,([0,3,4],[0,3,4]))],res:=[.tmp 2],ios:=[0],G:=gl0}
def dF:List D→Option Out:=bE iq Tryz.f39
@[reducible] def iJ:FS:={pm:=[.box 3 2 true],rm:=[Yo 1 0],f:=dF}
theorem oe:ao gl0 Tryz.prog 39 iJ:=aE (c:=iq) (ab aQ (ab jQ (ab ja (ab lN ax)))) Tryz.func39 rfl rfl (by kernel_rfl)
@[reducible] def eA:Cx:={K:=[Yc,.no,Yo 2 0,Yo 1 0,Yr 7,Yc,Yc,.box 3 2 false,Yr 7,Yo 2 0,Yr 7,Yo 1 0],T:=[(3,ty3),(22,rU),(23,iO),(37,kz),(49,zH),(51,yC)],S:=[(25,bV),(39,iJ)],H:=[],res:=[.tmp 2,.tmp 3],ios:=[],G:=gl0}
def bM:List D→Option Out:=bE eA Tryz.f14
@[reducible] def ew:FS:={pm:=[Yc],rm:=[Yo 2 0,Yo 1 0],f:=bM}
theorem iP:ao gl0 Tryz.prog 14 ew:=aE (c:=eA) (ab cX (ab oe ax)) Tryz.func14 rfl rfl (by kernel_rfl)
@[reducible] def nh:Cx:={K:=[Y,.no,Y,Y,Y],T:=[],S:=[(53,fu)],H:=[],res:=[.tmp 2],ios:=[],G:=gl0}
def gj:List D→Option Out:=bE nh Tryz.f65
@[reducible] def mZ:FS:={pm:=[Y],rm:=[Y],f:=gj}
theorem tA:ao gl0 Tryz.prog 65 mZ:=aE (c:=nh) (ab iU ax) Tryz.func65 rfl rfl (by kernel_rfl)
@[reducible] def kX:Cx:={K:=[Yc,.no,Y,.no,Y,Yc,Y,Y,Y,Yc,Y,Y,Y,Y,Y,Yc,Y,Y],T:=[(3,ty3),(9,ty9),(37,kz)],S:=[(65,mZ)],H:=[(0,([0,5,6,7],[0]))],res:=[.tmp 2],ios:=[],G:=gl0}
def eM:List D→Option Out:=bE kX Tryz.f40
@[reducible] def kN:FS:={pm:=[Yc],rm:=[Y],f:=eM}
theorem qO:ao gl0 Tryz.prog 40 kN:=aE (c:=kX) (ab tA ax) Tryz.func40 rfl rfl (by kernel_rfl)
@[reducible] def fI:Cx:={K:=[Yc,Yc,.no,.no,Y,Y,Y,Y,Y,Y,.no,Y,Yc,Y,Y,Y,Yc,Y,Y,Y,Y,Y,Y,Y,Y,Y,Yc,Y,Y,Y,Yc,Y,Y,Y,Y,Y,Y,Y,Y,Y,Y,Yc,Y,Y,Y,Y,Y,Y,Y,Y],T:=[(3,ty3),(9,ty9),(21,DZ),(37,kz)],S:=[(10,cA),(35,gk),(40,kN),(41,im)],H:=[(0,([0,1,6,7],[6])),(2,([0,1,6,7,8,9,26,27,28],[0,1,6,7,8,9]))],res:=[.tmp 4,.tmp 5],ios:=[],G:=gl0}
def cI:List D→Option Out:=bE fI Tryz.f15
@[reducible] def fG:FS:={pm:=[Yc,Yc],rm:=[Y,Y],f:=cI}
theorem lu:ao gl0 Tryz.prog 15 fG:=aE (c:=fI) (ab cZ (ab jn (ab qO (ab ny ax)))) Tryz.func15 rfl rfl (by kernel_rfl)
@[reducible] def nq:Cx:={K:=[Y,.no,Y,Y,Y],T:=[],S:=[(50,fN)],H:=[],res:=[.tmp 2],ios:=[],G:=gl0}
def fW:List D→Option Out:=bE nq Tryz.f67
@[reducible] def np:FS:={pm:=[Y],rm:=[Y],f:=fW}
theorem tq:ao gl0 Tryz.prog 67 np:=aE (c:=nq) (ab jR ax) Tryz.func67 rfl rfl (by kernel_rfl)
@[reducible] def mf:Cx:={K:=[Yc,.no,Y,.no,Y,Yc,Y,Y,Y,Yc,Y,Y,Y,Y,Y,Yc,Y,Y],T:=[(3,ty3),(9,ty9),(37,kz)],S:=[(67,np)],H:=[(0,([0,5,6,7],[0]))],res:=[.tmp 2],ios:=[],G:=gl0}
def fi:List D→Option Out:=bE mf Tryz.f42
@[reducible] def lD:FS:={pm:=[Yc],rm:=[Y],f:=fi}
theorem tb:ao gl0 Tryz.prog 42 lD:=aE (c:=mf) (ab tq ax) Tryz.func42 rfl rfl (by kernel_rfl)
@[reducible] def fH:Cx:={K:=[Yc,Yc,.no,.no,Y,Y,Y,Y,Y,Y,.no,Y,Y,Yc,Y,Y,Y,Yc,Y,Y,Y,Y,Y,Y,Y,Y,Y,Yb,Y,Yc,Y,Y,Y,Yc,Y,Y,Y,Y,Y,Y,Y,Y,Y,Y,Y,Y,Y,Y,Y,Y,Y,Y,Y,Y,Yc,Y,Y,Y,Y,Y,Y,Y,Y],T:=[(3,ty3),(5,ty5),(9,ty9),(21,DZ),(22,rU),(37,kz)],S:=[(28,dg),(30,eF),(42,lD)],H:=[(0,([0,1,6,7],[6])),(2,([0,1,6,7,8,9,29,30,31],[0,1,6,7,8,9])),(4,([0,1,6,7,8,9,11,12,29,30,31],[0,1,6,7,8,9,29,30,31]))],res:=[.tmp 4,.tmp 5],ios:=[],G:=gl0}
def cJ:List D→Option Out:=bE fH Tryz.f16
@[reducible] def fK:FS:={pm:=[Yc,Yc],rm:=[Y,Y],f:=cJ}
theorem lk:ao gl0 Tryz.prog 16 fK:=aE (c:=fH) (ab dQ (ab gc (ab tb ax))) Tryz.func16 rfl rfl (by kernel_rfl)
@[reducible] def gF:Cx:={K:=[Yc,.no,Yo 2 0,Y,Yr 7,Yc,Yc,.box 3 2 false,Yr 7,Yo 2 0,Yr 7,Yb,Y],T:=[(3,ty3),(9,ty9),(22,rU),(23,iO),(37,kz),(49,zH),(51,yC)],S:=[(25,bV),(26,ck)],H:=[],res:=[.tmp 2,.tmp 3],ios:=[],G:=gl0}
def cU:List D→Option Out:=bE gF Tryz.f43
@[reducible] def gH:FS:={pm:=[Yc],rm:=[Yo 2 0,Y],f:=cU}
theorem lY:ao gl0 Tryz.prog 43 gH:=aE (c:=gF) (ab cX (ab cN ax)) Tryz.func43 rfl rfl (by kernel_rfl)
@[reducible] def fo:Cx:={K:=[Yc,.no,Yo 2 0,Y,Yc,.tup [Yo 2 0,Y],Yo 2 0,Y],T:=[(23,iO)],S:=[(43,gH)],H:=[],res:=[.tmp 2,.tmp 3],ios:=[],G:=gl0}
def cq:List D→Option Out:=bE fo Tryz.f17
@[reducible] def fA:FS:={pm:=[Yc],rm:=[Yo 2 0,Y],f:=cq}
theorem kI:ao gl0 Tryz.prog 17 fA:=aE (c:=fo) (ab lY ax) Tryz.func17 rfl rfl (by kernel_rfl)
@[reducible] def iy:Cx:={K:=[Yc,Y,.no,.no,Yo 2 0,Y,Y,Yc,Y,Y,Yc,Y,Y,Y,Y,Y,Y,Y,Yc,Y,Y,Y,Yo 2 0,Yc,Y,Yc,Yo 2 0,Yc,Y,Y,Yc,Yo 2 0],T:=[(3,ty3),(23,iO),(25,iz)],S:=[(28,dg),(30,eF)],H:=[],res:=[.tmp 4,.tmp 5],ios:=[],G:=gl0}
def dC:List D→Option Out:=bE iy Tryz.f18
@[reducible] def ic:FS:={pm:=[Yc,Y],rm:=[Yo 2 0,Y],f:=dC}
theorem nY:ao gl0 Tryz.prog 18 ic:=aE (c:=iy) (ab dQ (ab gc ax)) Tryz.func18 rfl rfl (by kernel_rfl)
@[reducible] def jT:Cx:={K:=[Yc,Y,.no,.no,Y,Y,Y,Yc,Y,Y,Yc,Y,Y,Y,Y,Y,Y,Yc,Y,Yc,Yc,Y],T:=[(3,ty3),(9,ty9),(23,iO),(25,iz)],S:=[(10,cA),(35,gk)],H:=[],res:=[.tmp 4,.tmp 5],ios:=[],G:=gl0}
def cB:List D→Option Out:=bE jT Tryz.f19
@[reducible] def kj:FS:={pm:=[Yc,Y],rm:=[Y,Y],f:=cB}
theorem py:ao gl0 Tryz.prog 19 kj:=aE (c:=jT) (ab cZ (ab jn ax)) Tryz.func19 rfl rfl (by kernel_rfl)
@[reducible] def jB:Cx:={K:=[Yc,Y,.no,.no,Y,Y,Y,Yc,Y,Y,Yc,Y,Y,Y,Y,Y,Y,Yc,Y,Yc,Yc,Y],T:=[(3,ty3),(9,ty9),(23,iO),(25,iz)],S:=[(28,dg),(30,eF)],H:=[],res:=[.tmp 4,.tmp 5],ios:=[],G:=gl0}
def en:List D→Option Out:=bE jB Tryz.f20
@[reducible] def jW:FS:={pm:=[Yc,Y],rm:=[Y,Y],f:=en}
theorem pU:ao gl0 Tryz.prog 20 jW:=aE (c:=jB) (ab dQ (ab gc ax)) Tryz.func20 rfl rfl (by kernel_rfl)
@[reducible] def gM:Cx:={K:=[.box 3 2 true,Y,Y,.no,.no,.no,Y,Y,Y,Y,Yr 0,Y,Y,Y,Y,Y,Y,Y,Y,Y,Y,Y,Yr 0,Y,Y,Y,Y,Yr 0,Y,Y,Y,Y,Yb,Y,Yr 0,Y,Y,Y,Y,Y,Y,Y,Y,Y,Y,Y,Y,Y,Y,Y,Y,Y,Y,Y,Y,Y,Y,Y,Y,Y,Y,Y,Y,Y,Y,Y,Y,Y],T:=[(3,ty3),(5,ty5),(9,ty9),(22,rU)],S:=[(45,aI)],H:=[(0,([0,1,2,7],[0,1]))],res:=[.tmp 6],ios:=[0],G:=gl0}
def dq:List D→Option Out:=bE gM Tryz.f46
@[reducible] def gP:FS:={pm:=[.box 3 2 true,Y,Y],rm:=[Y],f:=dq}
theorem mI:ao gl0 Tryz.prog 46 gP:=aE (c:=gM) (ab aQ ax) Tryz.func46 rfl rfl (by kernel_rfl)
@[reducible] def gE:Cx:={K:=[Yc,.no,Y,Yr 7,Y,Yc,Yc,.box 3 2 false,Yr 7,Yb,Y,Yr 7,Y,Y,Y,Yr 7,Y,Y,Y,Y,Yr 7,Yb,Y,Y],T:=[(3,ty3),(9,ty9),(22,rU),(37,kz),(49,zH),(51,yC)],S:=[(26,ck),(32,gi),(44,fe),(45,aI),(46,gP)],H:=[],res:=[.tmp 2],ios:=[],G:=gl0}
def cP:List D→Option Out:=bE gE Tryz.f21
@[reducible] def gr:FS:={pm:=[Yc],rm:=[Y],f:=cP}
theorem lC:ao gl0 Tryz.prog 21 gr:=aE (c:=gE) (ab cN (ab jm (ab iY (ab aQ (ab mI ax))))) Tryz.func21 rfl rfl (by kernel_rfl)
@[reducible] def mg:Cx:={K:=[Y,Y,.no,.no,Yo 1 0,Yo 1 0,Y,Y,Y,Y,Y,Y,Y,Y,Y,Y,Y,Y,Y,Yo 1 0,Y,Y,Y,Y,Yb,Yo 1 0,Y,Y,Yo 1 0,Y,Y,Y,Yb,Yo 1 0],T:=[(3,ty3),(5,ty5),(9,ty9),(37,kz)],S:=[],H:=[(0,([0,1,5,6,7],[0,5,6]))],res:=[.tmp 4],ios:=[],G:=gl0}
def fE:List D→Option Out:=bE mg Tryz.f47
@[reducible] def lH:FS:={pm:=[Y,Y],rm:=[Yo 1 0],f:=fE}
theorem rZ:ao gl0 Tryz.prog 47 lH:=aE (c:=mg) ax Tryz.func47 rfl rfl (by kernel_rfl)
@[reducible] def mQ:Cx:={K:=[Y,.no,Y,Y,Y,Y,Y,Y,Y,Y,Y,Y,Y,Y,Y,Y,Y,Y,Y,Y,Y,Y,Y,Y,Y,Y,Y,Y,Y,Y,Y,Y,Y,Y,Y,Y,Y,Y,Y,Y,Y,Y,Y,Y],T:=[(3,ty3),(5,ty5),(9,ty9)],S:=[(49,gD)],H:=[(0,([0,3,4],[3]))],res:=[.tmp 2],ios:=[],G:=gl0}
def fZ:List D→Option Out:=bE mQ Tryz.f48
@[reducible] def nr:FS:={pm:=[Y],rm:=[Y],f:=fZ}
theorem tk:ao gl0 Tryz.prog 48 nr:=aE (c:=mQ) (ab iT ax) Tryz.func48 rfl rfl (by kernel_rfl)
@[reducible] def jY:Cx:={K:=[Y,.no,Yo 2 0,Y,Yb,Yo 2 0,.no,Y,Y,Y,Yb,Yb,Y,Y,Yb,Yb,Y,Y,Yb,Y,Y,Y,Yb,Y,Y,Y,Y,Y,Y,Y,Y,Y,Y,Y,Y,Y,Y,Y,Y,Y,Y,Y,Yo 2 0,Y,Y,Y,Y,Y,Y,Y,Y,Yb,Yo 2 0,Y,.via 5,Y,Y,Y,.via 5,Y,Y,Y,Y,Yo 2 0],T:=[(3,ty3),(5,ty5),(9,ty9),(23,iO),(25,iz),(37,kz)],S:=[(28,dg),(32,gi),(47,lH),(48,nr)],H:=[(0,([0,5,18,19,20],[0,5])),(2,([0,5,7,8,18,19,20],[0,5,7,8,18,19,20]))],res:=[.tmp 2,.tmp 3],ios:=[],G:=gl0}
def em:List D→Option Out:=bE jY Tryz.f22
@[reducible] def jZ:FS:={pm:=[Y],rm:=[Yo 2 0,Y],f:=em}
theorem pW:ao gl0 Tryz.prog 22 jZ:=aE (c:=jY) (ab dQ (ab jm (ab rZ (ab tk ax)))) Tryz.func22 rfl rfl (by kernel_rfl)
@[reducible] def jb:Cx:={K:=[Yc,.no,.box 2 0 false,Yr 7,Yb,Yc,Yc,.box 3 2 false,Yr 7,Yb,Yb,Y,Y,Y,Yb,Yr 7,Yb,Y,Y,Yb,Y],T:=[(3,ty3),(9,ty9),(22,rU),(23,iO),(25,iz),(49,zH),(51,yC)],S:=[(25,bV),(45,aI)],H:=[],res:=[.cell 2 25],ios:=[],G:=gl0}
def dZ:List D→Option Out:=bE jb Tryz.f23
@[reducible] def je:FS:={pm:=[Yc],rm:=[Y],f:=dZ}
theorem oL:ao gl0 Tryz.prog 23 je:=aE (c:=jb) (ab cX (ab aQ ax)) Tryz.func23 rfl rfl (by kernel_rfl)
@[reducible] def nt:Cx:={K:=[Y,.box 2 0 false,Y,Y,Y],T:=[(3,ty3),(9,ty9),(25,iz)],S:=[(29,gd)],H:=[],res:=[.tmp 2],ios:=[],G:=gl0}
def gh:List D→Option Out:=bE nt Tryz.f24
@[reducible] def mW:FS:={pm:=[Y],rm:=[Y],f:=gh}
theorem tN:ao gl0 Tryz.prog 24 mW:=aE (c:=nt) (ab jv ax) Tryz.func24 rfl rfl (by kernel_rfl)
open Go Go.V
set_option maxRecDepth 100000
theorem iR (x0:D):bH [x0]=((aa x0 (.ref 0 0)).bind fun z=>(aa z z).bind fun z=>(cH 1 z).bind fun z=>(((atD x0 z).bind (bv false 1)).bind bT).bind fun z=>(aa x0 (.ref 0 0)).bind fun w=>(aa w w).bind fun zc=>(cH 0 zc).bind fun zd=>((atD x0 zd).bind (bv false 1)).bind fun ze=>(lenD false ze).bind fun zf=>(bin .lss false [] z zf).bind fun z=>ifD z ((aa x0 (.ref 0 0)).bind fun z=>(aa z z).bind fun z=>(cH 0 z).bind fun z=>((atD x0 z).bind (bv false 1)).bind fun z=>(aa x0 (.ref 0 0)).bind fun e=>(aa e e).bind fun g=>(cH 1 g).bind fun h=>(((atD x0 h).bind (bv false 1)).bind bT).bind fun j=>(EX D.ptr (bF 1 z j)).bind fun z=>((ldD false 1 z).bind bT).bind fun z=>(ex (some .i64) false z).bind fun z=>(aa x0 (.ref 0 0)).bind fun c=>(aa c c).bind fun k=>(cH 1 k).bind fun l=>(((atD x0 l).bind (bv false 1)).bind bT).bind fun m=>(bin .add false [] m (I 1)).bind fun n=>(aa c c).bind fun p=>(cH 1 p).bind fun q=>(stD 1 x0 q n).bind fun b=>(aa b (.ref 0 0)).bind fun f=>(aa b (.ref 0 0)).bind fun d=>(aa d d).bind fun r=>(cH 2 r).bind fun t=>(((atD b t).bind (bv false 1)).bind bT).bind fun u=>(bin .mul false [] u (.v (EV Fa 6364136223846793005))).bind fun v=>(ex (some .u64) false z).bind fun zg=>(bin .add false [] v zg).bind fun zh=>(bin .add false [] zh (.v (EV Fa 1442695040888963407))).bind fun zi=>(aa f f).bind fun zj=>(cH 2 zj).bind fun zk=>(stD 1 b zk zi).bind fun b=>(aa b (.ref 0 0)).bind fun za=>(aa za za).bind fun zl=>(cH 1 zl).bind fun zm=>(((atD b zm).bind (bv false 1)).bind bT).bind fun zn=>(aa b (.ref 0 0)).bind fun zb=>(aa zb zb).bind fun zo=>(cH 0 zo).bind fun zp=>((atD b zp).bind (bv false 1)).bind fun zq=>(lenD false zq).bind fun zr=>(bin .leq false [] zn zr).bind fun zs=>ifD zs ((aa b b).bind fun _=>some (.ret [z] [b])) ((aa b (.ref 0 0)).bind fun z=>(aa z z).bind fun z=>(cH 2 z).bind fun z=>(((atD b z).bind (bv false 1)).bind bT).bind fun z=>(bin .shr false [] z (.v (EV Fa 40))).bind fun z=>(bin .and false [] z (.v (EV Fa 255))).bind fun z=>(ex (some .i64) false z).bind fun z=>(aa b b).bind fun _=>some (.ret [z] [b]))) ((aa x0 (.ref 0 0)).bind fun z=>(aa z z).bind fun e=>(cH 1 e).bind fun g=>(((atD x0 g).bind (bv false 1)).bind bT).bind fun h=>(bin .add false [] h (I 1)).bind fun j=>(aa z z).bind fun z=>(cH 1 z).bind fun z=>(stD 1 x0 z j).bind fun b=>(aa b (.ref 0 0)).bind fun z=>(aa b (.ref 0 0)).bind fun c=>(aa c c).bind fun k=>(cH 2 k).bind fun l=>(((atD b l).bind (bv false 1)).bind bT).bind fun m=>(bin .mul false [] m (.v (EV Fa 6364136223846793005))).bind fun n=>(ex (some .u64) false (I 0)).bind fun p=>(bin .add false [] n p).bind fun q=>(bin .add false [] q (.v (EV Fa 1442695040888963407))).bind fun f=>(aa z z).bind fun z=>(cH 2 z).bind fun z=>(stD 1 b z f).bind fun b=>(aa b (.ref 0 0)).bind fun z=>(aa z z).bind fun z=>(cH 1 z).bind fun z=>(((atD b z).bind (bv false 1)).bind bT).bind fun z=>(aa b (.ref 0 0)).bind fun d=>(aa d d).bind fun r=>(cH 0 r).bind fun t=>((atD b t).bind (bv false 1)).bind fun u=>(lenD false u).bind fun v=>(bin .leq false [] z v).bind fun z=>ifD z ((aa b b).bind fun _=>some (.ret [I 0] [b])) ((aa b (.ref 0 0)).bind fun z=>(aa z z).bind fun z=>(cH 2 z).bind fun z=>(((atD b z).bind (bv false 1)).bind bT).bind fun z=>(bin .shr false [] z (.v (EV Fa 40))).bind fun z=>(bin .and false [] z (.v (EV Fa 255))).bind fun z=>(ex (some .i64) false z).bind fun z=>(aa b b).bind fun _=>some (.ret [z] [b])))):=by kernel_rfl
theorem pw (x0 x1:D):am [x0,x1]=((bin .leq false [] x1 (I 1)).bind fun z=>ifD z ((aa x0 x0).bind fun _=>some (.ret [I 0] [x0])) ((aa x0 (.ref 0 0)).bind fun z=>(bL z x0).bind fun i=>(aa i i).bind fun i=>ai (bH [i]) fun d c=>(bin .gtr false [] x1 (I 200)).bind fun z=>ifD z ((bin .mul false [] (sl d 0) (I 256)).bind fun z=>(aa (sl c 0) (.ref 0 0)).bind fun e=>(bL e (sl c 0)).bind fun i=>(aa i i).bind fun i=>ai (bH [i]) fun d c=>(bin .add false [] z (sl d 0)).bind fun z=>(bin .rem false [] z x1).bind fun z=>(aa (sl c 0) (sl c 0)).bind fun _=>some (.ret [z] [sl c 0])) ((bin .rem false [] (sl d 0) x1).bind fun z=>(aa (sl c 0) (sl c 0)).bind fun _=>some (.ret [z] [sl c 0])))):=by kernel_rfl
theorem qj (x0 x1:D):bq [x0,x1]=((aa x0 (.ref 0 0)).bind fun z=>(bL z x0).bind fun i=>(aa i i).bind fun i=>ai (am [i,x1]) fun d c=>(bin .eql false [] (sl d 0) (I 0)).bind fun z=>(aa (sl c 0) (sl c 0)).bind fun _=>some (.ret [z] [sl c 0])):=by kernel_rfl
theorem om (x0:D):cS [x0]=((aA 1 [.v (.string ⟨⟨[97]⟩⟩),.v (.string ⟨⟨[97,98]⟩⟩),.v (.string ⟨⟨[97,98,99]⟩⟩),.v (.string ⟨⟨[98]⟩⟩),.v (.string ⟨⟨[98,98]⟩⟩),.v (.string ⟨⟨[99]⟩⟩),.v (.string ⟨⟨[100]⟩⟩),.v (.string ⟨⟨[101]⟩⟩),.v (.string ⟨⟨[102]⟩⟩),.v (.string ⟨⟨[102,102]⟩⟩),.v (.string ⟨⟨[102,105]⟩⟩),.v (.string ⟨⟨[105]⟩⟩)]).bind fun a=>(lenD false a).bind fun z=>(aS (fun s=>(bin .lss false [] (sl s 4) (sl s 3)).bind fun z=>ifD z ((EX D.ptr (bF 1 (sl s 2) (sl s 4))).bind fun z=>((ldD false 1 z).bind bT).bind fun z=>(lenD true z).bind fun j=>(bin .eql false [] j (I 1)).bind fun g=>(aj D.bad g true (aa (sl s 0) (.ref 0 0))).bind fun k=>cu g true ((bL k (sl s 0)).bind fun i=>(aa i i).bind fun i=>ai (bq [i,I 12]) fun e f=>some (.nrm [sl e 0,sl f 0])) [.tup [],sl s 0] fun c=>(aj (.tup []) g true (un .not (sl c 0))).bind fun l=>(aG g l (B false)).bind fun d=>(aj (.tup []) d false (some z)).bind fun m=>(aj (.tup []) d false (lenD true m)).bind fun n=>(aj (.tup []) d false (bin .gtr false [] n (I 1))).bind fun p=>(aj (.tup []) d false (some p)).bind fun h=>(aj D.bad h true (aa (sl c 1) (.ref 0 0))).bind fun q=>cu h true ((bL q (sl c 1)).bind fun i=>(aa i i).bind fun i=>ai (bq [i,I 3]) fun e f=>some (.nrm [sl e 0,sl f 0])) [.tup [],sl c 1] fun c=>(aj (.tup []) d false (aG h (sl c 0) (B false))).bind fun r=>(aG d (B true) r).bind fun t=>ifD t ((lenD true z).bind fun u=>(aa (sl c 1) (.ref 0 0)).bind fun v=>(bL v (sl c 1)).bind fun i=>(aa i i).bind fun i=>ai (am [i,I 4]) fun e f=>(bin .add false [] (I 2) (sl e 0)).bind fun w=>(bin .mul false [] u w).bind fun za=>(bin .add false [] (I 4) za).bind fun zb=>(iQ [(0,1),(1,1)] [.v (.string ⟨⟨[]⟩⟩),I 0] [z,zb]).bind fun z=>(aA 2 [z]).bind fun a=>(fg a).bind fun b=>(eR 2 24 (sl s 1) b).bind fun y=>(bin .add false [] (sl s 4) (I 1)).bind fun z=>some (.nrm [sl f 0,y,sl s 2,sl s 3,z])) ((bin .add false [] (sl s 4) (I 1)).bind fun z=>some (.nrm [sl c 1,sl s 1,sl s 2,sl s 3,z]))) (some (.ext 0 [sl s 0,sl s 1]))) [x0,.arr 2 [],a,z,I 0]).bind fun o=>dk o (fun i s=>ifN (i.beq 0) ((aa (sl s 1) (.ref 0 0)).bind fun z=>((aa z (sl s 1)).bind (lenD false)).bind fun z=>(bin .eql false [] z (I 0)).bind fun z=>ifD z ((iQ [(0,1),(1,1)] [.v (.string ⟨⟨[]⟩⟩),I 0] [.v (.string ⟨⟨[97]⟩⟩),I 9]).bind fun z=>(aA 2 [z]).bind fun a=>(aa (sl s 0) (sl s 0)).bind fun _=>some (.ret [a] [sl s 0])) ((aa (sl s 0) (sl s 0)).bind fun _=>some (.ret [sl s 1] [sl s 0]))) none) fun a b=>some (.ret a b)):=by kernel_rfl
theorem qN (x0 x1:D):bz [x0,x1]=((aa x0 (.ref 0 0)).bind fun z=>(lenD false x1).bind fun d=>(bL z x0).bind fun i=>(aa i i).bind fun i=>ai (am [i,d]) fun e c=>(EX D.ptr (bF 1 x1 (sl e 0))).bind fun z=>((ldD false 1 z).bind bT).bind fun z=>(aa (sl c 0) (sl c 0)).bind fun _=>some (.ret [z] [sl c 0])):=by kernel_rfl
theorem oa (x0 x1:D):cF [x0,x1]=((aa x0 (.ref 0 0)).bind fun z=>(lenD false x1).bind fun d=>(bL z x0).bind fun i=>(aa i i).bind fun i=>ai (am [i,d]) fun e c=>(EX D.ptr (bF 1 x1 (sl e 0))).bind fun z=>((ldD false 1 z).bind bT).bind fun z=>(aa (sl c 0) (sl c 0)).bind fun _=>some (.ret [z] [sl c 0])):=by kernel_rfl
theorem lU (x0:D):bn [x0]=((aa x0 (.ref 0 0)).bind fun z=>(bL z x0).bind fun i=>(aa i i).bind fun i=>ai (cS [i]) fun d c=>(aa (sl c 0) (.ref 0 0)).bind fun z=>(aa (sl d 0) (.ref 0 0)).bind fun j=>((aa j (sl d 0)).bind (lenD false)).bind fun k=>(bL z (sl c 0)).bind fun i=>(aa i i).bind fun i=>ai (am [i,k]) fun h c=>(aa (sl c 0) (.ref 0 0)).bind fun z=>(bL z (sl c 0)).bind fun i=>(aa i i).bind fun i=>ai (am [i,I 30]) fun f c=>(bin .eql false [] (sl f 0) (I 0)).bind fun z=>ifD z ((aa (sl d 0) (.ref 0 0)).bind fun z=>(aa (sl c 0) (.ref 0 0)).bind fun e=>(aA 1 [.v (.string ⟨⟨[]⟩⟩),.v (.string ⟨⟨[65]⟩⟩),.v (.string ⟨⟨[97,98,99,100]⟩⟩),.v (.string ⟨⟨[97]⟩⟩),.v (.string ⟨⟨[122,122,122]⟩⟩)]).bind fun a=>(bL e (sl c 0)).bind fun i=>(aa i i).bind fun i=>ai (bz [i,a]) fun g c=>((aa z (sl d 0)).bind fun b=>qf 2 b (sl h 0)).bind fun z=>(cH 0 z).bind fun z=>(stD 1 (sl d 0) z (sl g 0)).bind fun b=>(aa (sl c 0) (sl c 0)).bind fun _=>some (.ret [b] [sl c 0])) ((bin .eql false [] (sl f 0) (I 1)).bind fun z=>ifD z ((aa (sl d 0) (.ref 0 0)).bind fun z=>(aa (sl c 0) (.ref 0 0)).bind fun e=>(aA 1 [I 0,I 1,I 54,I 55,I (-1)]).bind fun a=>(bL e (sl c 0)).bind fun i=>(aa i i).bind fun i=>ai (cF [i,a]) fun g c=>((aa z (sl d 0)).bind fun b=>qf 2 b (sl h 0)).bind fun z=>(cH 1 z).bind fun z=>(stD 1 (sl d 0) z (sl g 0)).bind fun b=>(aa (sl c 0) (sl c 0)).bind fun _=>some (.ret [b] [sl c 0])) ((bin .eql false [] (sl f 0) (I 2)).bind fun z=>ifD z ((aa (sl c 0) (sl c 0)).bind fun _=>some (.ret [.arr 2 []] [sl c 0])) ((bin .eql false [] (sl f 0) (I 3)).bind fun z=>ifD z ((aa (sl c 0) (.ref 0 0)).bind fun z=>(bL z (sl c 0)).bind fun i=>(aa i i).bind fun i=>ai (am [i,I 2]) fun d c=>(bin .add false [] (I 32) (sl d 0)).bind fun z=>(aS (fun s=>(aa (sl s 1) (.ref 0 0)).bind fun z=>((aa z (sl s 1)).bind (lenD false)).bind fun z=>(bin .lss false [] z (sl s 2)).bind fun z=>ifD z ((aa (sl s 1) (.ref 0 0)).bind fun z=>(aa (sl s 1) (.ref 0 0)).bind fun e=>((aa e (sl s 1)).bind (lenD false)).bind fun l=>(bin .quo false [] l (I 6)).bind fun m=>(bin .add false [] (I 97) m).bind fun n=>(ex (some .u8) false n).bind fun p=>(aa (sl s 1) (.ref 0 0)).bind fun q=>((aa q (sl s 1)).bind (lenD false)).bind fun r=>(bin .rem false [] r (I 6)).bind fun t=>(bin .add false [] (I 97) t).bind fun u=>(ex (some .u8) false u).bind fun v=>(aA 1 [p,v]).bind fun a=>(lp a).bind fun w=>(iQ [(0,1),(1,1)] [.v (.string ⟨⟨[]⟩⟩),I 0] [w,I 9]).bind fun za=>(aA 2 [za]).bind fun a=>(aa z (sl s 1)).bind fun zb=>(fg a).bind fun b=>(eR 2 24 zb b).bind fun y=>some (.nrm [sl s 0,y,sl s 2])) (some (.ext 1 [sl s 0,sl s 1]))) [sl c 0,.arr 2 [],z]).bind fun o=>dk o (fun i s=>ifN (i.beq 1) ((aa (sl s 0) (sl s 0)).bind fun _=>some (.ret [sl s 1] [sl s 0])) (ifN (i.beq 0) ((aa (sl s 0) (sl s 0)).bind fun _=>some (.ret [sl s 1] [sl s 0])) none)) fun a b=>some (.ret a b)) ((aa (sl c 0) (sl c 0)).bind fun _=>some (.ret [sl d 0] [sl c 0])))))):=by kernel_rfl
theorem mH (x0:D):dp [x0]=((iQ [(0,1)] [.arr 1 [],I 0,.v (EV Fa 0)] [x0]).bind fun z=>(kv 3 z).bind fun y=>(aa y (.ref 0 0)).bind fun z=>(aa z z).bind fun d=>(bL d y).bind fun i=>(aa i i).bind fun i=>ai (bn [i]) fun e c=>(aa z z).bind fun f=>(aA 1 [.v (.string ⟨⟨[97,97]⟩⟩),.v (.string ⟨⟨[99]⟩⟩),.v (.string ⟨⟨[102,108]⟩⟩),.v (.string ⟨⟨[122,122,122]⟩⟩),.v (.string ⟨⟨[97,98,99,100]⟩⟩),.v (.string ⟨⟨[98]⟩⟩)]).bind fun a=>(bL f (sl c 0)).bind fun i=>(aa i i).bind fun i=>ai (bz [i,a]) fun g c=>(aa z z).bind fun z=>(aA 1 [I 1,I 9,I 54,I 55,I 0,I 12]).bind fun a=>(bL z (sl c 0)).bind fun i=>(aa i i).bind fun i=>ai (cF [i,a]) fun h _=>(iQ [(0,1),(1,1)] [.v (.string ⟨⟨[]⟩⟩),I 0] [sl g 0,sl h 0]).bind fun z=>(stD 2 (.agg [.v (.string ⟨⟨[]⟩⟩),I 0]) (.ref 0 0) z).bind fun b=>(fS true 2 0 b).bind fun y=>some (.ret [sl e 0,y] [])):=by kernel_rfl
theorem tD (x0 x1 x2:D):dT [x0,x1,x2]=((bin .geq false [] x0 x1).bind fun z=>(aj (.tup []) z true (some x0)).bind fun c=>(aj (.tup []) z true (some x2)).bind fun d=>(aj (.tup []) z true (bin .leq false [] c d)).bind fun e=>(aG z e (B false)).bind fun z=>some (.ret [z] [])):=by kernel_rfl
theorem pj (x0 x1 x2:D):cV [x0,x1,x2]=((aS (fun s=>(lenD true (sl s 0)).bind fun z=>(bin .lss false [] (sl s 3) z).bind fun z=>ifD z ((ec (sl s 0) (sl s 3)).bind fun z=>(bin .lss false [] z (.v (EV Fj 97))).bind fun z=>(aj (.tup []) z false (some (sl s 0))).bind fun c=>(aj (.tup []) z false (some (sl s 3))).bind fun d=>(aj (.tup []) z false (ec c d)).bind fun e=>(aj (.tup []) z false (bin .gtr false [] e (.v (EV Fj 122)))).bind fun f=>(aG z (B true) f).bind fun z=>ifD z (some (.ret [B false] [])) ((bin .add false [] (sl s 3) (I 1)).bind fun z=>some (.nrm [sl s 0,sl s 1,sl s 2,z]))) (some (.ext 0 [sl s 0,sl s 1,sl s 2]))) [x0,x1,x2,I 0]).bind fun o=>dk o (fun i s=>ifN (i.beq 0) ((lenD true (sl s 0)).bind fun z=>ai (dT [z,sl s 1,sl s 2]) fun g _=>some (.ret [sl g 0] [])) none) fun a b=>some (.ret a b)):=by kernel_rfl
theorem tj (x0:D):fY [x0]=(ai (cV [x0,I 1,I 3]) fun c _=>some (.ret [sl c 0] [])):=by kernel_rfl
theorem tE (x0:D):ct [x0]=((kv 2 x0).bind fun y=>(aa y (.ref 0 0)).bind fun z=>((atD y z).bind (bv false 1)).bind fun z=>ai (fY [z]) fun c _=>(aj D.bad (sl c 0) true (aa y (.ref 0 1))).bind fun z=>(aj (.tup []) (sl c 0) true ((atD y z).bind (bv false 1))).bind fun z=>cu (sl c 0) true (ai (dT [z,I 1,I 54]) fun c _=>some (.nrm [sl c 0])) [.tup []] fun d=>(aG (sl c 0) (sl d 0) (B false)).bind fun z=>some (.ret [z] [])):=by kernel_rfl
theorem tg (x0:D):bu [x0]=((lenD false x0).bind fun z=>(aS (fun s=>(bin .lss false [] (sl s 3) (sl s 2)).bind fun z=>ifD z ((EX D.ptr (bF 2 (sl s 1) (sl s 3))).bind fun z=>((ldD true 2 z).bind bT).bind fun z=>(stD 2 (.agg [.v (.string ⟨⟨[]⟩⟩),I 0]) (.ref 0 0) z).bind fun b=>(fS true 2 0 b).bind fun z=>ai (ct [z]) fun d _=>(un .not (sl d 0)).bind fun z=>(aj (.tup []) z false (some (sl s 3))).bind fun e=>(aj (.tup []) z false (bin .gtr false [] e (I 0))).bind fun f=>(aj (.tup []) z false (some f)).bind fun c=>(aj (.tup []) c true (some (sl s 0))).bind fun g=>(aj (.tup []) c true (some (sl s 3))).bind fun h=>(aj (.tup []) c true (bin .sub false [] h (I 1))).bind fun j=>(aj (.tup []) c true (EX D.ptr (bF 2 g j))).bind fun k=>(aj (.tup []) c true (tH 0 k)).bind fun l=>(aj (.tup []) c true ((ldD false 1 l).bind bT)).bind fun m=>(aj D.bad c true (aa b (.ref 0 0))).bind fun n=>(aj (.tup []) c true ((atD b n).bind (bv false 1))).bind fun p=>(aj (.tup []) c true (bin .geq false [] m p)).bind fun q=>(aj (.tup []) z false (aG c q (B false))).bind fun r=>(aG z (B true) r).bind fun z=>ifD z (some (.ret [B false] [])) ((bin .add false [] (sl s 3) (I 1)).bind fun z=>some (.nrm [sl s 0,sl s 1,sl s 2,z]))) (some (.ext 0 [sl s 0]))) [x0,x0,z,I 0]).bind fun o=>dk o (fun i s=>ifN (i.beq 0) ((lenD false (sl s 0)).bind fun z=>ai (dT [z,I 1,I 32]) fun d _=>some (.ret [sl d 0] [])) none) fun a b=>some (.ret a b)):=by kernel_rfl
theorem re (x0 x1:D):eI [x0,x1]=((kv 2 x1).bind fun y=>ai (bu [x0]) fun c _=>(un .not (sl c 0)).bind fun z=>(aj (.tup []) z false (fS true 2 0 y)).bind fun d=>cu z false (ai (ct [d]) fun c _=>some (.nrm [sl c 0])) [.tup []] fun e=>(aj (.tup []) z false (un .not (sl e 0))).bind fun f=>(aG z (B true) f).bind fun z=>ifD z ((aA 2 []).bind fun a=>some (.ret [a,B false] [])) ((aS (fun s=>(lenD false (sl s 0)).bind fun z=>(bin .lss false [] (sl s 2) z).bind fun z=>(aj (.tup []) z true (some (sl s 0))).bind fun g=>(aj (.tup []) z true (some (sl s 2))).bind fun h=>(aj (.tup []) z true (EX D.ptr (bF 2 g h))).bind fun j=>(aj (.tup []) z true (tH 0 j)).bind fun k=>(aj (.tup []) z true ((ldD false 1 k).bind bT)).bind fun l=>(aj D.bad z true (aa (sl s 1) (.ref 0 0))).bind fun m=>(aj (.tup []) z true ((atD (sl s 1) m).bind (bv false 1))).bind fun n=>(aj (.tup []) z true (bin .lss false [] l n)).bind fun p=>(aG z p (B false)).bind fun z=>ifD z ((bin .add false [] (sl s 2) (I 1)).bind fun z=>some (.nrm [sl s 0,sl s 1,z])) (some (.ext 0 [sl s 0,sl s 1,sl s 2]))) [x0,y,I 0]).bind fun o=>dk o (fun i s=>ifN (i.beq 0) ((aA 2 []).bind fun a=>(bZ false 2 (sl s 0) (I 0) (sl s 2)).bind fun z=>(fg z).bind fun b=>(eR 2 24 a b).bind fun y=>(fS true 2 0 (sl s 1)).bind fun z=>(aA 2 [z]).bind fun a=>(fg a).bind fun b=>(eR 2 24 y b).bind fun y=>(bS false 2 (sl s 0) (sl s 2)).bind fun z=>(fg z).bind fun b=>(eR 2 24 y b).bind fun y=>(aa y (.ref 0 0)).bind fun z=>(aa z y).bind fun i=>ai (bu [i]) fun c _=>(un .not (sl c 0)).bind fun z=>ifD z ((aA 2 []).bind fun a=>some (.ret [a,B false] [])) (some (.ret [y,B true] []))) none) fun a b=>some (.ret a b))):=by kernel_rfl
theorem wb (x0 x1 x2:D):eg [x0,x1,x2]=((bin .geq false [] x0 x1).bind fun z=>(aj (.tup []) z true (some x0)).bind fun c=>(aj (.tup []) z true (some x2)).bind fun d=>(aj (.tup []) z true (bin .leq false [] c d)).bind fun e=>(aG z e (B false)).bind fun z=>some (.ret [z] [])):=by kernel_rfl
theorem qh (x0 x1:D):dy [x0,x1]=((aS (fun s=>(lenD true (sl s 0)).bind fun z=>(bin .lss false [] (sl s 2) z).bind fun z=>ifD z ((ec (sl s 0) (sl s 2)).bind fun z=>(bin .lss false [] z (.v (EV Fj 97))).bind fun z=>(aj (.tup []) z false (some (sl s 0))).bind fun c=>(aj (.tup []) z false (some (sl s 2))).bind fun d=>(aj (.tup []) z false (ec c d)).bind fun e=>(aj (.tup []) z false (bin .gtr false [] e (.v (EV Fj 122)))).bind fun f=>(aG z (B true) f).bind fun z=>ifD z (some (.ret [B false] [])) ((bin .add false [] (sl s 2) (I 1)).bind fun z=>some (.nrm [sl s 0,sl s 1,z]))) (some (.ext 0 [sl s 0,sl s 1]))) [x0,x1,I 0]).bind fun o=>dk o (fun i s=>ifN (i.beq 0) ((lenD true (sl s 0)).bind fun z=>ai (eg [z,I 1,sl s 1]) fun g _=>some (.ret [sl g 0] [])) none) fun a b=>some (.ret a b)):=by kernel_rfl
theorem th (x0:D):dR [x0]=((kv 2 x0).bind fun y=>(aa y (.ref 0 0)).bind fun z=>((atD y z).bind (bv false 1)).bind fun z=>ai (dy [z,I 3]) fun c _=>(aj D.bad (sl c 0) true (aa y (.ref 0 1))).bind fun z=>(aj (.tup []) (sl c 0) true ((atD y z).bind (bv false 1))).bind fun z=>cu (sl c 0) true (ai (eg [z,I 1,I 54]) fun c _=>some (.nrm [sl c 0])) [.tup []] fun d=>(aG (sl c 0) (sl d 0) (B false)).bind fun z=>some (.ret [z] [])):=by kernel_rfl
theorem ua (x0:D):bG [x0]=((lenD false x0).bind fun z=>(aS (fun s=>(bin .lss false [] (sl s 3) (sl s 2)).bind fun z=>ifD z ((EX D.ptr (bF 2 (sl s 1) (sl s 3))).bind fun z=>((ldD true 2 z).bind bT).bind fun z=>(stD 2 (.agg [.v (.string ⟨⟨[]⟩⟩),I 0]) (.ref 0 0) z).bind fun b=>(fS true 2 0 b).bind fun z=>ai (dR [z]) fun d _=>(un .not (sl d 0)).bind fun z=>(aj (.tup []) z false (some (sl s 3))).bind fun e=>(aj (.tup []) z false (bin .gtr false [] e (I 0))).bind fun f=>(aj (.tup []) z false (some f)).bind fun c=>(aj (.tup []) c true (some (sl s 0))).bind fun g=>(aj (.tup []) c true (some (sl s 3))).bind fun h=>(aj (.tup []) c true (bin .sub false [] h (I 1))).bind fun j=>(aj (.tup []) c true (EX D.ptr (bF 2 g j))).bind fun k=>(aj (.tup []) c true (tH 0 k)).bind fun l=>(aj (.tup []) c true ((ldD false 1 l).bind bT)).bind fun m=>(aj D.bad c true (aa b (.ref 0 0))).bind fun n=>(aj (.tup []) c true ((atD b n).bind (bv false 1))).bind fun p=>(aj (.tup []) c true (bin .geq false [] m p)).bind fun q=>(aj (.tup []) z false (aG c q (B false))).bind fun r=>(aG z (B true) r).bind fun z=>ifD z (some (.ret [B false] [])) ((bin .add false [] (sl s 3) (I 1)).bind fun z=>some (.nrm [sl s 0,sl s 1,sl s 2,z]))) (some (.ext 0 [sl s 0]))) [x0,x0,z,I 0]).bind fun o=>dk o (fun i s=>ifN (i.beq 0) ((lenD false (sl s 0)).bind fun z=>ai (eg [z,I 1,I 32]) fun d _=>some (.ret [sl d 0] [])) none) fun a b=>some (.ret a b)):=by kernel_rfl
theorem tn (x0 x1:D):de [x0,x1]=((lenD false x0).bind fun z=>(aS (fun s=>(bin .lss false [] (sl s 3) (sl s 2)).bind fun z=>ifD z ((EX D.ptr (bF 2 (sl s 1) (sl s 3))).bind fun z=>((ldD true 2 z).bind bT).bind fun z=>(stD 2 (.agg [.v (.string ⟨⟨[]⟩⟩),I 0]) (.ref 0 0) z).bind fun b=>(aa b (.ref 0 0)).bind fun z=>((atD b z).bind (bv false 1)).bind fun z=>(bin .eql false [] z (sl s 0)).bind fun z=>ifD z (some (.ret [sl s 3] [])) ((bin .add false [] (sl s 3) (I 1)).bind fun z=>some (.nrm [sl s 0,sl s 1,sl s 2,z]))) (some (.ext 0 []))) [x1,x0,z,I 0]).bind fun o=>dk o (fun i _=>ifN (i.beq 0) (some (.ret [I (-1)] [])) none) fun a b=>some (.ret a b)):=by kernel_rfl
theorem rh (x0 x1:D):eL [x0,x1]=((kv 2 x1).bind fun y=>ai (bG [x0]) fun c _=>(un .not (sl c 0)).bind fun z=>(aj (.tup []) z false (fS true 2 0 y)).bind fun e=>cu z false (ai (dR [e]) fun c _=>some (.nrm [sl c 0])) [.tup []] fun d=>(aj (.tup []) z false (un .not (sl d 0))).bind fun f=>(aG z (B true) f).bind fun z=>(aj (.tup []) z false (some x0)).bind fun g=>(aj D.bad z false (aa y (.ref 0 0))).bind fun h=>(aj (.tup []) z false ((atD y h).bind (bv false 1))).bind fun j=>cu z false (ai (de [g,j]) fun c _=>some (.nrm [sl c 0])) [.tup []] fun d=>(aj (.tup []) z false (bin .geq false [] (sl d 0) (I 0))).bind fun k=>(aG z (B true) k).bind fun z=>ifD z (some (.ret [.arr 2 [],B false] [])) ((aS (fun s=>(lenD false (sl s 0)).bind fun z=>(bin .lss false [] (sl s 2) z).bind fun z=>(aj (.tup []) z true (some (sl s 0))).bind fun l=>(aj (.tup []) z true (some (sl s 2))).bind fun m=>(aj (.tup []) z true (EX D.ptr (bF 2 l m))).bind fun n=>(aj (.tup []) z true (tH 0 n)).bind fun p=>(aj (.tup []) z true ((ldD false 1 p).bind bT)).bind fun q=>(aj D.bad z true (aa (sl s 1) (.ref 0 0))).bind fun r=>(aj (.tup []) z true ((atD (sl s 1) r).bind (bv false 1))).bind fun t=>(aj (.tup []) z true (bin .lss false [] q t)).bind fun u=>(aG z u (B false)).bind fun z=>ifD z ((bin .add false [] (sl s 2) (I 1)).bind fun z=>some (.nrm [sl s 0,sl s 1,z])) (some (.ext 0 [sl s 0,sl s 1,sl s 2]))) [x0,y,I 0]).bind fun o=>dk o (fun i s=>ifN (i.beq 0) ((aA 2 []).bind fun a=>(bZ false 2 (sl s 0) (I 0) (sl s 2)).bind fun z=>(fg z).bind fun b=>(eR 2 24 a b).bind fun y=>(fS true 2 0 (sl s 1)).bind fun z=>(aA 2 [z]).bind fun a=>(fg a).bind fun b=>(eR 2 24 y b).bind fun y=>(bS false 2 (sl s 0) (sl s 2)).bind fun z=>(fg z).bind fun b=>(eR 2 24 y b).bind fun y=>(aa y (.ref 0 0)).bind fun z=>(aa z y).bind fun i=>ai (bG [i]) fun c _=>(un .not (sl c 0)).bind fun z=>ifD z (some (.ret [.arr 2 [],B false] [])) (some (.ret [y,B true] []))) none) fun a b=>some (.ret a b))):=by kernel_rfl
theorem qK (x0:D):dL [x0]=((lenD false x0).bind fun z=>(aS (fun s=>(bin .lss false [] (sl s 3) (sl s 2)).bind fun z=>ifD z ((EX D.ptr (bF 2 (sl s 1) (sl s 3))).bind fun z=>((ldD true 2 z).bind bT).bind fun z=>(stD 2 (.agg [.v (.string ⟨⟨[]⟩⟩),I 0]) (.ref 0 0) z).bind fun b=>(aa b (.ref 0 0)).bind fun z=>((atD b z).bind (bv false 1)).bind fun z=>(aa b (.ref 0 1)).bind fun c=>((atD b c).bind (bv false 1)).bind fun d=>ai (uy [d]) fun e _=>(bin .add false [] z (sl e 0)).bind fun z=>(bin .add false [] z (.v (.string ⟨⟨[59]⟩⟩))).bind fun z=>(bin .add false [] (sl s 0) z).bind fun z=>(bin .add false [] (sl s 3) (I 1)).bind fun f=>some (.nrm [z,sl s 1,sl s 2,f])) (some (.ext 0 [sl s 0]))) [.v (.string ⟨⟨[]⟩⟩),x0,z,I 0]).bind fun o=>dk o (fun i s=>ifN (i.beq 0) (some (.ret [sl s 0] [])) none) fun a b=>some (.ret a b)):=by kernel_rfl
theorem qJ (x0:D):eO [x0]=(ai (bu [x0]) fun c _=>(un .not (sl c 0)).bind fun z=>ifD z (some (.ret [.v (.string ⟨⟨[]⟩⟩),B false] [])) (ai (dL [x0]) fun c _=>some (.ret [sl c 0,B true] []))):=by kernel_rfl
theorem uX (n:Nat) (x0:D):bh (n+1) [x0]=((bin .lss false [] x0 (I 10)).bind fun z=>ifD z ((bin .add false [] (I 48) x0).bind fun z=>(ex (some .u8) false z).bind fun z=>(aA 1 [z]).bind fun a=>(lp a).bind fun z=>some (.ret [z] [])) ((bin .quo false [] x0 (I 10)).bind fun z=>ai (bh n [z]) fun c _=>(bin .rem false [] x0 (I 10)).bind fun z=>(bin .add false [] (I 48) z).bind fun z=>(ex (some .u8) false z).bind fun z=>(aA 1 [z]).bind fun a=>(lp a).bind fun z=>(bin .add false [] (sl c 0) z).bind fun z=>some (.ret [z] []))):=by kernel_rfl
theorem tM (x0:D):dS [x0]=((lenD false x0).bind fun z=>(aS (fun s=>(bin .lss false [] (sl s 3) (sl s 2)).bind fun z=>ifD z ((EX D.ptr (bF 2 (sl s 1) (sl s 3))).bind fun z=>((ldD true 2 z).bind bT).bind fun z=>(stD 2 (.agg [.v (.string ⟨⟨[]⟩⟩),I 0]) (.ref 0 0) z).bind fun b=>(aa b (.ref 0 0)).bind fun z=>((atD b z).bind (bv false 1)).bind fun z=>(aa b (.ref 0 1)).bind fun c=>((atD b c).bind (bv false 1)).bind fun d=>ai (ku [d]) fun e _=>(bin .add false [] z (sl e 0)).bind fun z=>(bin .add false [] z (.v (.string ⟨⟨[59]⟩⟩))).bind fun z=>(bin .add false [] (sl s 0) z).bind fun z=>(bin .add false [] (sl s 3) (I 1)).bind fun f=>some (.nrm [z,sl s 1,sl s 2,f])) (some (.ext 0 [sl s 0]))) [.v (.string ⟨⟨[]⟩⟩),x0,z,I 0]).bind fun o=>dk o (fun i s=>ifN (i.beq 0) (some (.ret [sl s 0] [])) none) fun a b=>some (.ret a b)):=by kernel_rfl
theorem qQ (x0:D):eN [x0]=(ai (bG [x0]) fun c _=>(un .not (sl c 0)).bind fun z=>ifD z (some (.ret [.v (.string ⟨⟨[]⟩⟩),B false] [])) (ai (dS [x0]) fun c _=>some (.ret [sl c 0,B true] []))):=by kernel_rfl
theorem tX (x0 x1:D):cy [x0,x1]=((lenD false x0).bind fun z=>(lenD false x1).bind fun c=>(bin .neq false [] z c).bind fun z=>ifD z (some (.ret [B false] [])) ((lenD false x0).bind fun z=>(aS (fun s=>(bin .lss false [] (sl s 3) (sl s 2)).bind fun z=>ifD z ((EX D.ptr (bF 2 (sl s 0) (sl s 3))).bind fun z=>((ldD true 2 z).bind bT).bind fun z=>(EX D.ptr (bF 2 (sl s 1) (sl s 3))).bind fun d=>((ldD true 2 d).bind bT).bind fun e=>(bin .neq false [3,1] z e).bind fun z=>ifD z (some (.ret [B false] [])) ((bin .add false [] (sl s 3) (I 1)).bind fun z=>some (.nrm [sl s 0,sl s 1,sl s 2,z]))) (some (.ext 0 []))) [x0,x1,z,I 0]).bind fun o=>dk o (fun i _=>ifN (i.beq 0) (some (.ret [B true] [])) none) fun a b=>some (.ret a b))):=by kernel_rfl
theorem tF (x0 x1:D):dU [x0,x1]=((lenD false x0).bind fun z=>(aS (fun s=>(bin .lss false [] (sl s 3) (sl s 2)).bind fun z=>ifD z ((EX D.ptr (bF 2 (sl s 1) (sl s 3))).bind fun z=>((ldD true 2 z).bind bT).bind fun z=>(stD 2 (.agg [.v (.string ⟨⟨[]⟩⟩),I 0]) (.ref 0 0) z).bind fun b=>(aa b (.ref 0 0)).bind fun z=>((atD b z).bind (bv false 1)).bind fun z=>(bin .eql false [] z (sl s 0)).bind fun z=>ifD z (some (.ret [sl s 3] [])) ((bin .add false [] (sl s 3) (I 1)).bind fun z=>some (.nrm [sl s 0,sl s 1,sl s 2,z]))) (some (.ext 0 []))) [x1,x0,z,I 0]).bind fun o=>dk o (fun i _=>ifN (i.beq 0) (some (.ret [I (-1)] [])) none) fun a b=>some (.ret a b)):=by kernel_rfl
theorem nA (x0 x1:D):cE [x0,x1]=(ai (dU [x0,x1]) fun c _=>ai (bu [x0]) fun d _=>(un .not (sl d 0)).bind fun z=>(aj (.tup []) z false (some (sl c 0))).bind fun e=>(aj (.tup []) z false (bin .lss false [] e (I 0))).bind fun f=>(aG z (B true) f).bind fun z=>(aj (.tup []) z false (some x0)).bind fun g=>(aj (.tup []) z false (lenD false g)).bind fun h=>(aj (.tup []) z false (bin .eql false [] h (I 1))).bind fun j=>(aG z (B true) j).bind fun z=>ifD z ((aA 2 []).bind fun a=>some (.ret [a,B false] [])) ((aA 2 []).bind fun a=>(bZ false 2 x0 (I 0) (sl c 0)).bind fun z=>(fg z).bind fun b=>(eR 2 24 a b).bind fun y=>(bin .add false [] (sl c 0) (I 1)).bind fun z=>(bS false 2 x0 z).bind fun z=>(fg z).bind fun b=>(eR 2 24 y b).bind fun y=>some (.ret [y,B true] []))):=by kernel_rfl
theorem pz (x0:D):ep [x0]=((aA 1 []).bind fun a=>ai (fb 60 ka [x0,.clo 60 []]) fun c _=>(lenD false (sl c 0)).bind fun z=>(aS (fun s=>(bin .lss false [] (sl s 3) (sl s 2)).bind fun z=>ifD z ((EX D.ptr (bF 1 (sl s 1) (sl s 3))).bind fun z=>((ldD false 1 z).bind bT).bind fun z=>ai (ux [z]) fun c _=>(aL (.tup c) 0).bind fun z=>(aL (.tup c) 1).bind fun d=>(xA true .neq d (.v Value.nilIface)).bind fun e=>ifD e ((aA 1 []).bind fun a=>some (.ret [a] [])) ((aA 1 [z]).bind fun a=>(fg a).bind fun b=>(eR 1 8 (sl s 0) b).bind fun y=>(bin .add false [] (sl s 3) (I 1)).bind fun z=>some (.nrm [y,sl s 1,sl s 2,z]))) (some (.ext 0 [sl s 0]))) [a,sl c 0,z,I 0]).bind fun o=>dk o (fun i s=>ifN (i.beq 0) (some (.ret [sl s 0] [])) none) fun a b=>some (.ret a b)):=by kernel_rfl
theorem pS (x0:D):dr [x0]=((aA 2 []).bind fun a=>ai (pF [x0,.v (.string ⟨⟨[59]⟩⟩)]) fun c _=>(lenD false (sl c 0)).bind fun z=>(aS (fun s=>(bin .lss false [] (sl s 4) (sl s 3)).bind fun z=>ifD z ((EX D.ptr (bF 1 (sl s 2) (sl s 4))).bind fun z=>((ldD false 1 z).bind bT).bind fun z=>ai (fO [z,.v (.string ⟨⟨[48,49,50,51,52,53,54,55,56,57]⟩⟩)]) fun c _=>ai (ep [z]) fun d _=>(lenD false (sl d 0)).bind fun z=>(bin .eql false [] z (I 1)).bind fun z=>ifD z ((EX D.ptr (bF 1 (sl d 0) (I 0))).bind fun z=>((ldD false 1 z).bind bT).bind fun z=>(iQ [(0,1),(1,1)] [.v (.string ⟨⟨[]⟩⟩),I 0] [sl c 0,z]).bind fun z=>(aA 2 [z]).bind fun a=>(fg a).bind fun b=>(eR 2 24 (sl s 1) b).bind fun y=>(bin .add false [] (sl s 4) (I 1)).bind fun z=>some (.nrm [sl s 0,y,sl s 2,sl s 3,z])) ((bin .add false [] (sl s 4) (I 1)).bind fun z=>some (.nrm [sl s 0,sl s 1,sl s 2,sl s 3,z]))) (some (.ext 0 [sl s 0,sl s 1]))) [x0,a,sl c 0,z,I 0]).bind fun o=>dk o (fun i s=>ifN (i.beq 0) ((aa (sl s 1) (.ref 0 0)).bind fun z=>(aa z (sl s 1)).bind fun i=>ai (bu [i]) fun c _=>(un .not (sl c 0)).bind fun z=>(aj D.bad z false (aa (sl s 1) (.ref 0 0))).bind fun e=>cu z false ((aa e (sl s 1)).bind fun i=>ai (dL [i]) fun c _=>some (.nrm [sl c 0])) [.tup []] fun f=>(aj (.tup []) z false (some (sl s 0))).bind fun g=>(aj (.tup []) z false (bin .neq false [] (sl f 0) g)).bind fun h=>(aG z (B true) h).bind fun z=>ifD z ((aA 2 []).bind fun a=>some (.ret [a,B false] [])) (some (.ret [sl s 1,B true] []))) none) fun a b=>some (.ret a b)):=by kernel_rfl
theorem oz (x0:D):bg [x0]=((aa x0 (.ref 0 0)).bind fun z=>(bL z x0).bind fun i=>(aa i i).bind fun i=>ai (am [i,I 6]) fun c d=>(bin .add false [] (I 1) (sl c 0)).bind fun z=>(aS (fun s=>(lenD true (sl s 1)).bind fun z=>(bin .lss false [] z (sl s 2)).bind fun z=>ifD z ((aa (sl s 0) (.ref 0 0)).bind fun z=>(aA 1 [.v (.string ⟨⟨[97]⟩⟩),.v (.string ⟨⟨[98]⟩⟩),.v (.string ⟨⟨[99]⟩⟩),.v (.string ⟨⟨[97,98]⟩⟩),.v (.string ⟨⟨[98,98]⟩⟩),.v (.string ⟨⟨[97,98,99]⟩⟩),.v (.string ⟨⟨[100]⟩⟩),.v (.string ⟨⟨[101]⟩⟩),.v (.string ⟨⟨[102]⟩⟩),.v (.string ⟨⟨[102,105]⟩⟩)]).bind fun a=>(bL z (sl s 0)).bind fun i=>(aa i i).bind fun i=>ai (bz [i,a]) fun c d=>(bin .add false [] (sl s 1) (sl c 0)).bind fun z=>some (.nrm [sl d 0,z,sl s 2])) (some (.ext 0 [sl s 0,sl s 1]))) [sl d 0,.v (.string ⟨⟨[]⟩⟩),z]).bind fun o=>dk o (fun i s=>ifN (i.beq 0) ((aa (sl s 0) (sl s 0)).bind fun _=>some (.ret [sl s 1] [sl s 0])) none) fun a b=>some (.ret a b)):=by kernel_rfl
theorem md (x0:D):bA [x0]=((aa x0 (.ref 0 0)).bind fun z=>(bL z x0).bind fun i=>(aa i i).bind fun i=>ai (am [i,I 30]) fun d c=>(bin .eql false [] (sl d 0) (I 0)).bind fun z=>ifD z ((aa (sl c 0) (.ref 0 0)).bind fun z=>(aA 1 [.v (.string ⟨⟨[]⟩⟩),.v (.string ⟨⟨[65]⟩⟩),.v (.string ⟨⟨[97,32,98]⟩⟩),.v (.string ⟨⟨[97,45,98]⟩⟩)]).bind fun a=>(bL z (sl c 0)).bind fun i=>(aa i i).bind fun i=>ai (bz [i,a]) fun d c=>(aa (sl c 0) (sl c 0)).bind fun _=>some (.ret [sl d 0] [sl c 0])) ((bin .eql false [] (sl d 0) (I 1)).bind fun z=>ifD z ((aa (sl c 0) (.ref 0 0)).bind fun z=>(bL z (sl c 0)).bind fun i=>(aa i i).bind fun i=>ai (am [i,I 2]) fun d c=>(bin .add false [] (I 16) (sl d 0)).bind fun z=>(aS (fun s=>(lenD true (sl s 1)).bind fun z=>(bin .lss false [] z (sl s 2)).bind fun z=>ifD z ((bin .add false [] (sl s 1) (.v (.string ⟨⟨[97]⟩⟩))).bind fun z=>some (.nrm [sl s 0,z,sl s 2])) (some (.ext 1 [sl s 0,sl s 1]))) [sl c 0,.v (.string ⟨⟨[]⟩⟩),z]).bind fun o=>dk o (fun i s=>ifN (i.beq 1) ((aa (sl s 0) (sl s 0)).bind fun _=>some (.ret [sl s 1] [sl s 0])) (ifN (i.beq 0) ((aa (sl s 0) (.ref 0 0)).bind fun z=>(bL z (sl s 0)).bind fun i=>(aa i i).bind fun i=>ai (bg [i]) fun d c=>(aa (sl c 0) (sl c 0)).bind fun _=>some (.ret [sl d 0] [sl c 0])) none)) fun a b=>some (.ret a b)) ((bin .eql false [] (sl d 0) (I 2)).bind fun z=>ifD z ((aa (sl c 0) (.ref 0 0)).bind fun z=>(bL z (sl c 0)).bind fun i=>(aa i i).bind fun i=>ai (bg [i]) fun d c=>(bin .add false [] (sl d 0) (.v (.string ⟨⟨[122]⟩⟩))).bind fun z=>(aa (sl c 0) (sl c 0)).bind fun _=>some (.ret [z] [sl c 0])) ((aa (sl c 0) (.ref 0 0)).bind fun z=>(bL z (sl c 0)).bind fun i=>(aa i i).bind fun i=>ai (bg [i]) fun d c=>(aa (sl c 0) (sl c 0)).bind fun _=>some (.ret [sl d 0] [sl c 0]))))):=by kernel_rfl
theorem nM (x0:D):dF [x0]=((aa x0 (.ref 0 0)).bind fun z=>(bL z x0).bind fun i=>(aa i i).bind fun i=>ai (am [i,I 6]) fun d c=>(aa (sl c 0) (.ref 0 0)).bind fun z=>(bL z (sl c 0)).bind fun i=>(aa i i).bind fun i=>ai (bq [i,I 16]) fun k c=>ifD (sl k 0) ((aa (sl c 0) (.ref 0 0)).bind fun z=>(bL z (sl c 0)).bind fun i=>(aa i i).bind fun i=>ai (am [i,I 2]) fun d c=>(bin .add false [] (I 40) (sl d 0)).bind fun z=>(aS (fun s=>(aa (sl s 1) (.ref 0 0)).bind fun z=>((aa z (sl s 1)).bind (lenD false)).bind fun z=>(bin .lss false [] z (sl s 2)).bind fun z=>ifD z ((aa (sl s 0) (.ref 0 0)).bind fun z=>(bL z (sl s 0)).bind fun i=>(aa i i).bind fun i=>ai (bg [i]) fun d c=>(aA 1 [sl d 0]).bind fun a=>(fg a).bind fun b=>(eR 1 16 (sl s 1) b).bind fun y=>some (.nrm [sl c 0,y,sl s 2])) (some (.ext 0 [sl s 0,sl s 1,sl s 2]))) [sl c 0,.arr 1 [],z]).bind fun o=>dk o (fun i s=>ifN (i.beq 0) ((bin .gtr false [] (sl s 2) (I 0)).bind fun z=>(aj D.bad z true (aa (sl s 0) (.ref 0 0))).bind fun f=>cu z true ((bL f (sl s 0)).bind fun i=>(aa i i).bind fun i=>ai (bq [i,I 16]) fun d c=>some (.nrm [sl d 0,sl c 0])) [.tup [],sl s 0] fun e=>(aG z (sl e 0) (B false)).bind fun z=>ifD z ((aa (sl s 1) (.ref 0 0)).bind fun z=>(aa (sl e 1) (.ref 0 0)).bind fun g=>(bL g (sl e 1)).bind fun i=>(aa i i).bind fun i=>ai (am [i,sl s 2]) fun d c=>(aa (sl c 0) (.ref 0 0)).bind fun h=>(bL h (sl c 0)).bind fun i=>(aa i i).bind fun i=>ai (bA [i]) fun j c=>((aa z (sl s 1)).bind fun b=>qf 1 b (sl d 0)).bind fun z=>(stD 1 (sl s 1) z (sl j 0)).bind fun b=>(aa (sl c 0) (sl c 0)).bind fun _=>some (.ret [b] [sl c 0])) ((aa (sl e 1) (sl e 1)).bind fun _=>some (.ret [sl s 1] [sl e 1]))) none) fun a b=>some (.ret a b)) ((aS (fun s=>(aa (sl s 1) (.ref 0 0)).bind fun z=>((aa z (sl s 1)).bind (lenD false)).bind fun z=>(bin .lss false [] z (sl s 2)).bind fun z=>ifD z ((aa (sl s 0) (.ref 0 0)).bind fun z=>(bL z (sl s 0)).bind fun i=>(aa i i).bind fun i=>ai (bg [i]) fun d c=>(aA 1 [sl d 0]).bind fun a=>(fg a).bind fun b=>(eR 1 16 (sl s 1) b).bind fun y=>some (.nrm [sl c 0,y,sl s 2])) (some (.ext 0 [sl s 0,sl s 1,sl s 2]))) [sl c 0,.arr 1 [],sl d 0]).bind fun o=>dk o (fun i s=>ifN (i.beq 0) ((bin .gtr false [] (sl s 2) (I 0)).bind fun z=>(aj D.bad z true (aa (sl s 0) (.ref 0 0))).bind fun f=>cu z true ((bL f (sl s 0)).bind fun i=>(aa i i).bind fun i=>ai (bq [i,I 16]) fun d c=>some (.nrm [sl d 0,sl c 0])) [.tup [],sl s 0] fun e=>(aG z (sl e 0) (B false)).bind fun z=>ifD z ((aa (sl s 1) (.ref 0 0)).bind fun z=>(aa (sl e 1) (.ref 0 0)).bind fun g=>(bL g (sl e 1)).bind fun i=>(aa i i).bind fun i=>ai (am [i,sl s 2]) fun d c=>(aa (sl c 0) (.ref 0 0)).bind fun h=>(bL h (sl c 0)).bind fun i=>(aa i i).bind fun i=>ai (bA [i]) fun j c=>((aa z (sl s 1)).bind fun b=>qf 1 b (sl d 0)).bind fun z=>(stD 1 (sl s 1) z (sl j 0)).bind fun b=>(aa (sl c 0) (sl c 0)).bind fun _=>some (.ret [b] [sl c 0])) ((aa (sl e 1) (sl e 1)).bind fun _=>some (.ret [sl s 1] [sl e 1]))) none) fun a b=>some (.ret a b))):=by kernel_rfl
theorem iN (x0:D):bM [x0]=((iQ [(0,1)] [.arr 1 [],I 0,.v (EV Fa 0)] [x0]).bind fun z=>(kv 3 z).bind fun y=>(aa y (.ref 0 0)).bind fun z=>(aa z z).bind fun c=>(bL c y).bind fun i=>(aa i i).bind fun i=>ai (bn [i]) fun d e=>(aa z z).bind fun z=>(bL z (sl e 0)).bind fun i=>(aa i i).bind fun i=>ai (dF [i]) fun f _=>some (.ret [sl d 0,sl f 0] [])):=by kernel_rfl
theorem tr (x0:D):gj [x0]=(ai (cV [x0,I 1,I 16]) fun c _=>some (.ret [sl c 0] [])):=by kernel_rfl
theorem qY (x0:D):eM [x0]=((lenD false x0).bind fun z=>(aS (fun s=>(bin .lss false [] (sl s 3) (sl s 2)).bind fun z=>ifD z ((EX D.ptr (bF 1 (sl s 1) (sl s 3))).bind fun z=>((ldD false 1 z).bind bT).bind fun z=>ai (gj [z]) fun c _=>(un .not (sl c 0)).bind fun z=>ifD z (some (.ret [B false] [])) ((bin .add false [] (sl s 3) (I 1)).bind fun z=>some (.nrm [sl s 0,sl s 1,sl s 2,z]))) (some (.ext 0 [sl s 0]))) [x0,x0,z,I 0]).bind fun o=>dk o (fun i s=>ifN (i.beq 0) ((lenD false (sl s 0)).bind fun z=>(bin .leq false [] z (I 40)).bind fun z=>some (.ret [z] [])) none) fun a b=>some (.ret a b)):=by kernel_rfl
theorem ll (x0 x1:D):cI [x0,x1]=(ai (bu [x0]) fun c _=>(un .not (sl c 0)).bind fun z=>(aj (.tup []) z false (some x1)).bind fun g=>cu z false (ai (eM [g]) fun c _=>some (.nrm [sl c 0])) [.tup []] fun d=>(aj (.tup []) z false (un .not (sl d 0))).bind fun h=>(aG z (B true) h).bind fun z=>ifD z (some (.ret [.v (.string ⟨⟨[]⟩⟩),B false] [])) ((aS (fun s=>(bin .leq false [] (sl s 3) (.v (EV Ft 122))).bind fun z=>ifD z ((vA (sl s 3)).bind fun z=>(lenD false (sl s 1)).bind fun j=>(aS (fun s=>(bin .lss false [] (sl s 8) (sl s 7)).bind fun z=>ifD z ((EX D.ptr (bF 1 (sl s 6) (sl s 8))).bind fun z=>((ldD false 1 z).bind bT).bind fun z=>(aj (.tup []) (sl s 5) false (some z)).bind fun z=>(aj (.tup []) (sl s 5) false (some (sl s 4))).bind fun e=>cu (sl s 5) false (ai (hZ [z,e]) fun c _=>some (.nrm [sl c 0])) [.tup []] fun d=>(aG (sl s 5) (B true) (sl d 0)).bind fun z=>(bin .add false [] (sl s 8) (I 1)).bind fun f=>some (.nrm [sl s 0,sl s 1,sl s 2,sl s 3,sl s 4,z,sl s 6,sl s 7,f])) (some (.ext 2 [sl s 0,sl s 1,sl s 2,sl s 3,sl s 4,sl s 5]))) [sl s 0,sl s 1,sl s 2,sl s 3,z,B false,sl s 1,j,I 0]).bind fun o=>dk o (fun i s=>ifN (i.beq 2) ((aj (.tup []) (sl s 5) true (some (sl s 0))).bind fun z=>(aj (.tup []) (sl s 5) true (some (sl s 4))).bind fun e=>cu (sl s 5) true (ai (dU [z,e]) fun c _=>some (.nrm [sl c 0])) [.tup []] fun d=>(aj (.tup []) (sl s 5) true (bin .lss false [] (sl d 0) (I 0))).bind fun z=>(aG (sl s 5) z (B false)).bind fun z=>ifD z ((bin .add false [] (sl s 2) (sl s 4)).bind fun z=>(bin .add false [] (sl s 3) (.v (EV Ft 1))).bind fun f=>some (.nrm [sl s 0,sl s 1,z,f])) ((bin .add false [] (sl s 3) (.v (EV Ft 1))).bind fun z=>some (.nrm [sl s 0,sl s 1,sl s 2,z]))) (ifN (i.beq 1) ((bin .add false [] (sl s 3) (.v (EV Ft 1))).bind fun z=>some (.nrm [sl s 0,sl s 1,sl s 2,z])) (some (.ext i [sl s 2])))) fun a b=>some (.ret a b)) (some (.ext 0 [sl s 2]))) [x0,x1,.v (.string ⟨⟨[]⟩⟩),.v (EV Ft 97)]).bind fun o=>dk o (fun i s=>ifN (i.beq 0) (some (.ret [sl s 0,B true] [])) none) fun a b=>some (.ret a b))):=by kernel_rfl
theorem tT (x0:D):fW [x0]=(ai (dy [x0,I 16]) fun c _=>some (.ret [sl c 0] [])):=by kernel_rfl
theorem sY (x0:D):fi [x0]=((lenD false x0).bind fun z=>(aS (fun s=>(bin .lss false [] (sl s 3) (sl s 2)).bind fun z=>ifD z ((EX D.ptr (bF 1 (sl s 1) (sl s 3))).bind fun z=>((ldD false 1 z).bind bT).bind fun z=>ai (fW [z]) fun c _=>(un .not (sl c 0)).bind fun z=>ifD z (some (.ret [B false] [])) ((bin .add false [] (sl s 3) (I 1)).bind fun z=>some (.nrm [sl s 0,sl s 1,sl s 2,z]))) (some (.ext 0 [sl s 0]))) [x0,x0,z,I 0]).bind fun o=>dk o (fun i s=>ifN (i.beq 0) ((lenD false (sl s 0)).bind fun z=>(bin .leq false [] z (I 40)).bind fun z=>some (.ret [z] [])) none) fun a b=>some (.ret a b)):=by kernel_rfl
theorem lq (x0 x1:D):cJ [x0,x1]=(ai (bG [x0]) fun c _=>(un .not (sl c 0)).bind fun z=>(aj (.tup []) z false (some x1)).bind fun g=>cu z false (ai (fi [g]) fun c _=>some (.nrm [sl c 0])) [.tup []] fun d=>(aj (.tup []) z false (un .not (sl d 0))).bind fun h=>(aG z (B true) h).bind fun z=>ifD z (some (.ret [.v (.string ⟨⟨[]⟩⟩),B false] [])) ((aS (fun s=>(bin .leq false [] (sl s 3) (.v (EV Ft 122))).bind fun z=>ifD z ((ex (some .u8) false (sl s 3)).bind fun z=>(aA 1 [z]).bind fun a=>(lp a).bind fun z=>(lenD false (sl s 1)).bind fun j=>(aS (fun s=>(bin .lss false [] (sl s 8) (sl s 7)).bind fun z=>ifD z ((EX D.ptr (bF 1 (sl s 6) (sl s 8))).bind fun z=>((ldD false 1 z).bind bT).bind fun z=>(aS (fun s=>(lenD true (sl s 6)).bind fun z=>(bin .lss false [] (sl s 7) z).bind fun z=>ifD z ((aj (.tup []) (sl s 5) false (some (sl s 6))).bind fun z=>(aj (.tup []) (sl s 5) false (some (sl s 7))).bind fun e=>(aj (.tup []) (sl s 5) false (some (sl s 7))).bind fun f=>(aj (.tup []) (sl s 5) false (bin .add false [] f (I 1))).bind fun k=>(aj (.tup []) (sl s 5) false (bZ true 0 z e k)).bind fun z=>(aj (.tup []) (sl s 5) false (some (sl s 4))).bind fun l=>(aj (.tup []) (sl s 5) false (bin .eql false [] z l)).bind fun z=>(aG (sl s 5) (B true) z).bind fun z=>(bin .add false [] (sl s 7) (I 1)).bind fun m=>some (.nrm [sl s 0,sl s 1,sl s 2,sl s 3,sl s 4,z,sl s 6,m,sl s 8,sl s 9,sl s 10])) (some (.ext 4 [sl s 0,sl s 1,sl s 2,sl s 3,sl s 4,sl s 5,sl s 8,sl s 9,sl s 10]))) [sl s 0,sl s 1,sl s 2,sl s 3,sl s 4,sl s 5,z,I 0,sl s 6,sl s 7,sl s 8]).bind fun o=>dk o (fun i s=>ifN (i.beq 4) ((bin .add false [] (sl s 8) (I 1)).bind fun z=>some (.nrm [sl s 0,sl s 1,sl s 2,sl s 3,sl s 4,sl s 5,sl s 6,sl s 7,z])) (ifN (i.beq 3) ((bin .add false [] (sl s 8) (I 1)).bind fun z=>some (.nrm [sl s 0,sl s 1,sl s 2,sl s 3,sl s 4,sl s 5,sl s 6,sl s 7,z])) (some (.ext i [sl s 0,sl s 1,sl s 2,sl s 3,sl s 4,sl s 5])))) fun a b=>some (.ret a b)) (some (.ext 2 [sl s 0,sl s 1,sl s 2,sl s 3,sl s 4,sl s 5]))) [sl s 0,sl s 1,sl s 2,sl s 3,z,B false,sl s 1,j,I 0]).bind fun o=>dk o (fun i s=>ifN (i.beq 2) ((aj (.tup []) (sl s 5) true (some (sl s 0))).bind fun z=>(aj (.tup []) (sl s 5) true (some (sl s 4))).bind fun e=>cu (sl s 5) true (ai (de [z,e]) fun c _=>some (.nrm [sl c 0])) [.tup []] fun d=>(aj (.tup []) (sl s 5) true (bin .lss false [] (sl d 0) (I 0))).bind fun z=>(aG (sl s 5) z (B false)).bind fun z=>ifD z ((bin .add false [] (sl s 2) (sl s 4)).bind fun z=>(bin .add false [] (sl s 3) (.v (EV Ft 1))).bind fun f=>some (.nrm [sl s 0,sl s 1,z,f])) ((bin .add false [] (sl s 3) (.v (EV Ft 1))).bind fun z=>some (.nrm [sl s 0,sl s 1,sl s 2,z]))) (ifN (i.beq 1) ((bin .add false [] (sl s 3) (.v (EV Ft 1))).bind fun z=>some (.nrm [sl s 0,sl s 1,sl s 2,z])) (some (.ext i [sl s 2])))) fun a b=>some (.ret a b)) (some (.ext 0 [sl s 2]))) [x0,x1,.v (.string ⟨⟨[]⟩⟩),.v (EV Ft 97)]).bind fun o=>dk o (fun i s=>ifN (i.beq 0) (some (.ret [sl s 0,B true] [])) none) fun a b=>some (.ret a b))):=by kernel_rfl
theorem lJ (x0:D):cU [x0]=((iQ [(0,1)] [.arr 1 [],I 0,.v (EV Fa 0)] [x0]).bind fun z=>(kv 3 z).bind fun y=>(aa y (.ref 0 0)).bind fun z=>(aa z z).bind fun c=>(bL c y).bind fun i=>(aa i i).bind fun i=>ai (bn [i]) fun d e=>(aa z z).bind fun z=>(aA 1 [.v (.string ⟨⟨[97]⟩⟩),.v (.string ⟨⟨[97,98]⟩⟩),.v (.string ⟨⟨[102]⟩⟩),.v (.string ⟨⟨[102,102]⟩⟩),.v (.string ⟨⟨[122,122]⟩⟩),.v (.string ⟨⟨[]⟩⟩)]).bind fun a=>(bL z (sl e 0)).bind fun i=>(aa i i).bind fun i=>ai (bz [i,a]) fun f _=>some (.ret [sl d 0,sl f 0] [])):=by kernel_rfl
theorem kq (x0:D):cq [x0]=(ai (cU [x0]) fun c _=>(aL (.tup c) 0).bind fun y=>(aL (eT (.tup c) 0) 1).bind fun z=>some (.ret [y,z] [])):=by kernel_rfl
theorem nL (x0 x1:D):dC [x0,x1]=(ai (de [x0,x1]) fun c _=>ai (bG [x0]) fun d _=>(un .not (sl d 0)).bind fun z=>(aj (.tup []) z false (some (sl c 0))).bind fun e=>(aj (.tup []) z false (bin .lss false [] e (I 0))).bind fun f=>(aG z (B true) f).bind fun z=>(aj (.tup []) z false (some x0)).bind fun g=>(aj (.tup []) z false (lenD false g)).bind fun h=>(aj (.tup []) z false (bin .eql false [] h (I 1))).bind fun j=>(aG z (B true) j).bind fun z=>ifD z (some (.ret [.arr 2 [],B false] [])) ((aA 2 []).bind fun a=>(bZ false 2 x0 (I 0) (sl c 0)).bind fun z=>(fg z).bind fun b=>(eR 2 24 a b).bind fun y=>(bin .add false [] (sl c 0) (I 1)).bind fun z=>(bS false 2 x0 z).bind fun z=>(fg z).bind fun b=>(eR 2 24 y b).bind fun y=>some (.ret [y,B true] []))):=by kernel_rfl
theorem pZ (x0 x1:D):cB [x0,x1]=(ai (dU [x0,x1]) fun c _=>ai (bu [x0]) fun d _=>(un .not (sl d 0)).bind fun z=>(aj (.tup []) z false (some (sl c 0))).bind fun e=>(aj (.tup []) z false (bin .lss false [] e (I 0))).bind fun f=>(aG z (B true) f).bind fun z=>ifD z (some (.ret [I 0,B false] [])) ((EX D.ptr (bF 2 x0 (sl c 0))).bind fun z=>(tH 1 z).bind fun z=>((ldD false 1 z).bind bT).bind fun z=>some (.ret [z,B true] []))):=by kernel_rfl
theorem qm (x0 x1:D):en [x0,x1]=(ai (de [x0,x1]) fun c _=>ai (bG [x0]) fun d _=>(un .not (sl d 0)).bind fun z=>(aj (.tup []) z false (some (sl c 0))).bind fun e=>(aj (.tup []) z false (bin .lss false [] e (I 0))).bind fun f=>(aG z (B true) f).bind fun z=>ifD z (some (.ret [I 0,B false] [])) ((EX D.ptr (bF 2 x0 (sl c 0))).bind fun z=>(tH 1 z).bind fun z=>((ldD false 1 z).bind bT).bind fun z=>some (.ret [z,B true] []))):=by kernel_rfl
theorem mJ (x0 x1 x2:D):dq [x0,x1,x2]=((aa x0 (.ref 0 0)).bind fun z=>(bL z x0).bind fun i=>(aa i i).bind fun i=>ai (am [i,I 2]) fun d c=>(bin .add false [] (I 1) (sl d 0)).bind fun z=>(aS (fun s=>(bin .gtr false [] (sl s 3) (I 0)).bind fun z=>(aj (.tup []) z true (some (sl s 1))).bind fun k=>(aj (.tup []) z true (lenD true k)).bind fun l=>(aj (.tup []) z true (bin .gtr false [] l (I 0))).bind fun m=>(aG z m (B false)).bind fun z=>ifD z ((aa (sl s 0) (.ref 0 0)).bind fun z=>(lenD true (sl s 1)).bind fun n=>(bL z (sl s 0)).bind fun i=>(aa i i).bind fun i=>ai (am [i,n]) fun d c=>(aa (sl c 0) (.ref 0 0)).bind fun z=>(lenD true (sl s 2)).bind fun p=>(bL z (sl c 0)).bind fun i=>(aa i i).bind fun i=>ai (am [i,p]) fun q c=>(ec (sl s 2) (sl q 0)).bind fun z=>(aA 1 [z]).bind fun a=>(lp a).bind fun z=>(aa (sl c 0) (.ref 0 0)).bind fun r=>(bL r (sl c 0)).bind fun i=>(aa i i).bind fun i=>ai (am [i,I 3]) fun j c=>(bin .eql false [] (sl j 0) (I 0)).bind fun t=>ifD t ((bZ true 0 (sl s 1) (I 0) (sl d 0)).bind fun g=>(bin .add false [] g z).bind fun z=>(bS true 0 (sl s 1) (sl d 0)).bind fun e=>(bin .add false [] z e).bind fun z=>(bin .sub false [] (sl s 3) (I 1)).bind fun f=>some (.nrm [sl c 0,z,sl s 2,f])) ((bin .eql false [] (sl j 0) (I 1)).bind fun g=>ifD g ((bZ true 0 (sl s 1) (I 0) (sl d 0)).bind fun e=>(bin .add false [] e z).bind fun z=>(bin .add false [] (sl d 0) (I 1)).bind fun f=>(bS true 0 (sl s 1) f).bind fun h=>(bin .add false [] z h).bind fun z=>(bin .sub false [] (sl s 3) (I 1)).bind fun u=>some (.nrm [sl c 0,z,sl s 2,u])) ((bZ true 0 (sl s 1) (I 0) (sl d 0)).bind fun z=>(bin .add false [] (sl d 0) (I 1)).bind fun e=>(bS true 0 (sl s 1) e).bind fun f=>(bin .add false [] z f).bind fun z=>(bin .sub false [] (sl s 3) (I 1)).bind fun h=>some (.nrm [sl c 0,z,sl s 2,h])))) (some (.ext 0 [sl s 0,sl s 1]))) [sl c 0,x1,x2,z]).bind fun o=>dk o (fun i s=>ifN (i.beq 0) ((aa (sl s 0) (sl s 0)).bind fun _=>some (.ret [sl s 1] [sl s 0])) none) fun a b=>some (.ret a b)):=by kernel_rfl
theorem mb (x0:D):cP [x0]=((iQ [(0,1)] [.arr 1 [],I 0,.v (EV Fa 0)] [x0]).bind fun z=>(kv 3 z).bind fun y=>(aa y (.ref 0 0)).bind fun z=>(aa z z).bind fun f=>(bL f y).bind fun i=>(aa i i).bind fun i=>ai (cS [i]) fun c d=>ai (dS [sl c 0]) fun c _=>(aa z z).bind fun g=>(bL g (sl d 0)).bind fun i=>(aa i i).bind fun i=>ai (am [i,I 4]) fun e d=>(bin .eql false [] (sl e 0) (I 0)).bind fun h=>ifD h ((aa z z).bind fun z=>(bL z (sl d 0)).bind fun i=>(aa i i).bind fun i=>ai (dq [i,sl c 0,.v (.string ⟨⟨[97,98,122,59,48,49,53,57]⟩⟩)]) fun c _=>some (.ret [sl c 0] [])) ((bin .eql false [] (sl e 0) (I 1)).bind fun j=>ifD j ((aa z z).bind fun z=>(aA 1 [.v (.string ⟨⟨[]⟩⟩),.v (.string ⟨⟨[59]⟩⟩),.v (.string ⟨⟨[97,57,59]⟩⟩),.v (.string ⟨⟨[97,48,57,59]⟩⟩),.v (.string ⟨⟨[98,57,59,97,57,59]⟩⟩),.v (.string ⟨⟨[97,57]⟩⟩),.v (.string ⟨⟨[57,59]⟩⟩),.v (.string ⟨⟨[97,98,99,100,57,59]⟩⟩),.v (.string ⟨⟨[102,54,59,102,105,49,48,59,105,53,59,110,49,48,59]⟩⟩)]).bind fun a=>(bL z (sl d 0)).bind fun i=>(aa i i).bind fun i=>ai (bz [i,a]) fun c _=>some (.ret [sl c 0] [])) (some (.ret [sl c 0] [])))):=by kernel_rfl
theorem rE (x0 x1:D):fE [x0,x1]=((aS (fun s=>(lenD true (sl s 0)).bind fun z=>(bin .lss false [] (sl s 4) z).bind fun z=>ifD z ((ec (sl s 0) (sl s 4)).bind fun z=>(bin .eql false [] z (sl s 1)).bind fun z=>ifD z ((bZ true 0 (sl s 0) (sl s 3) (sl s 4)).bind fun z=>(aA 1 [z]).bind fun a=>(fg a).bind fun b=>(eR 1 16 (sl s 2) b).bind fun y=>(bin .add false [] (sl s 4) (I 1)).bind fun z=>(bin .add false [] (sl s 4) (I 1)).bind fun c=>some (.nrm [sl s 0,sl s 1,y,z,c])) ((bin .add false [] (sl s 4) (I 1)).bind fun z=>some (.nrm [sl s 0,sl s 1,sl s 2,sl s 3,z]))) (some (.ext 0 [sl s 0,sl s 2,sl s 3]))) [x0,x1,.arr 1 [],I 0,I 0]).bind fun o=>dk o (fun i s=>ifN (i.beq 0) ((bS true 0 (sl s 0) (sl s 2)).bind fun z=>(aA 1 [z]).bind fun a=>(fg a).bind fun b=>(eR 1 16 (sl s 1) b).bind fun y=>some (.ret [y] [])) none) fun a b=>some (.ret a b)):=by kernel_rfl
theorem tO (x0:D):fZ [x0]=((lenD true x0).bind fun z=>ai (eg [z,I 1,I 6]) fun d _=>(un .not (sl d 0)).bind fun z=>(aj (.tup []) z false (some x0)).bind fun e=>(aj (.tup []) z false (ec e (I 0))).bind fun f=>(aj (.tup []) z false (bin .eql false [] f (.v (EV Fj 48)))).bind fun g=>(aj (.tup []) z false (some g)).bind fun c=>(aj (.tup []) c true (some x0)).bind fun h=>(aj (.tup []) c true (lenD true h)).bind fun j=>(aj (.tup []) c true (bin .gtr false [] j (I 1))).bind fun k=>(aj (.tup []) z false (aG c k (B false))).bind fun l=>(aG z (B true) l).bind fun z=>ifD z (some (.ret [I (-1)] [])) ((aS (fun s=>(lenD true (sl s 0)).bind fun z=>(bin .lss false [] (sl s 2) z).bind fun z=>ifD z ((ec (sl s 0) (sl s 2)).bind fun z=>(bin .lss false [] z (.v (EV Fj 48))).bind fun z=>(aj (.tup []) z false (some (sl s 0))).bind fun m=>(aj (.tup []) z false (some (sl s 2))).bind fun n=>(aj (.tup []) z false (ec m n)).bind fun p=>(aj (.tup []) z false (bin .gtr false [] p (.v (EV Fj 57)))).bind fun q=>(aG z (B true) q).bind fun z=>ifD z (some (.ret [I (-1)] [])) ((bin .mul false [] (I 10) (sl s 1)).bind fun z=>(ec (sl s 0) (sl s 2)).bind fun r=>(bin .sub false [] r (.v (EV Fj 48))).bind fun t=>(ex (some .i64) false t).bind fun u=>(bin .add false [] z u).bind fun z=>(bin .add false [] (sl s 2) (I 1)).bind fun v=>some (.nrm [sl s 0,z,v]))) (some (.ext 0 [sl s 1]))) [x0,I 0,I 0]).bind fun o=>dk o (fun i s=>ifN (i.beq 0) (some (.ret [sl s 0] [])) none) fun a b=>some (.ret a b))):=by kernel_rfl
theorem pJ (x0:D):em [x0]=(ai (fE [x0,.v (EV Fj 59)]) fun c _=>(lenD false (sl c 0)).bind fun z=>(bin .gtr false [] z (I 33)).bind fun z=>ifD z (some (.ret [.arr 2 [],B false] [])) ((lenD false (sl c 0)).bind fun z=>(bin .sub false [] z (I 1)).bind fun z=>(bZ false 1 (sl c 0) (I 0) z).bind fun z=>(lenD false z).bind fun g=>(aS (fun s=>(bin .lss false [] (sl s 4) (sl s 3)).bind fun z=>ifD z ((EX D.ptr (bF 1 (sl s 2) (sl s 4))).bind fun z=>((ldD false 1 z).bind bT).bind fun z=>(aS (fun s=>(lenD true (sl s 2)).bind fun z=>(bin .lss false [] (sl s 3) z).bind fun z=>(aj (.tup []) z true (some (sl s 2))).bind fun d=>(aj (.tup []) z true (some (sl s 3))).bind fun e=>(aj (.tup []) z true (ec d e)).bind fun f=>(aj (.tup []) z true (bin .geq false [] f (.v (EV Fj 97)))).bind fun h=>(aG z h (B false)).bind fun z=>(aj (.tup []) z true (some (sl s 2))).bind fun j=>(aj (.tup []) z true (some (sl s 3))).bind fun k=>(aj (.tup []) z true (ec j k)).bind fun l=>(aj (.tup []) z true (bin .leq false [] l (.v (EV Fj 122)))).bind fun m=>(aG z m (B false)).bind fun z=>ifD z ((bin .add false [] (sl s 3) (I 1)).bind fun z=>some (.nrm [sl s 0,sl s 1,sl s 2,z,sl s 4,sl s 5,sl s 6])) (some (.ext 2 [sl s 0,sl s 1,sl s 2,sl s 3,sl s 4,sl s 5,sl s 6]))) [sl s 0,sl s 1,z,I 0,sl s 2,sl s 3,sl s 4]).bind fun o=>dk o (fun i s=>ifN (i.beq 2) ((bZ true 0 (sl s 2) (I 0) (sl s 3)).bind fun z=>(bS true 0 (sl s 2) (sl s 3)).bind fun d=>ai (fZ [d]) fun c _=>(iQ [(0,1),(1,1)] [.v (.string ⟨⟨[]⟩⟩),I 0] [z,sl c 0]).bind fun z=>(aA 2 [z]).bind fun a=>(fg a).bind fun b=>(eR 2 24 (sl s 1) b).bind fun y=>(bin .add false [] (sl s 6) (I 1)).bind fun z=>some (.nrm [sl s 0,y,sl s 4,sl s 5,z])) (ifN (i.beq 1) ((bin .add false [] (sl s 6) (I 1)).bind fun z=>some (.nrm [sl s 0,sl s 1,sl s 4,sl s 5,z])) (some (.ext i [sl s 0,sl s 1])))) fun a b=>some (.ret a b)) (some (.ext 0 [sl s 0,sl s 1]))) [x0,.arr 2 [],z,g,I 0]).bind fun o=>dk o (fun i s=>ifN (i.beq 0) ((aa (sl s 1) (.ref 0 0)).bind fun z=>(aa z (sl s 1)).bind fun i=>ai (bG [i]) fun c _=>(un .not (sl c 0)).bind fun z=>(aj D.bad z false (aa (sl s 1) (.ref 0 0))).bind fun d=>cu z false ((aa d (sl s 1)).bind fun i=>ai (dS [i]) fun c _=>some (.nrm [sl c 0])) [.tup []] fun n=>(aj (.tup []) z false (some (sl s 0))).bind fun e=>(aj (.tup []) z false (bin .neq false [] (sl n 0) e)).bind fun f=>(aG z (B true) f).bind fun z=>ifD z (some (.ret [.arr 2 [],B false] [])) (some (.ret [sl s 1,B true] []))) none) fun a b=>some (.ret a b))):=by kernel_rfl
theorem ot (x0:D):dZ [x0]=((iQ [(0,1)] [.arr 1 [],I 0,.v (EV Fa 0)] [x0]).bind fun z=>(kv 3 z).bind fun y=>(aa y (.ref 0 0)).bind fun z=>(aa z z).bind fun d=>(bL d y).bind fun i=>(aa i i).bind fun i=>ai (bn [i]) fun c e=>(lenD false (sl c 0)).bind fun f=>(bin .eql false [] f (I 0)).bind fun g=>ifD g ((iQ [] [.v (.string ⟨⟨[]⟩⟩),I 0] []).bind fun z=>(stD 2 (.agg [.v (.string ⟨⟨[]⟩⟩),I 0]) (.ref 0 0) z).bind fun b=>(fS true 2 0 b).bind fun y=>some (.ret [y] [])) ((aa z z).bind fun z=>(lenD false (sl c 0)).bind fun h=>(bL z (sl e 0)).bind fun i=>(aa i i).bind fun i=>ai (am [i,h]) fun j _=>(EX D.ptr (bF 2 (sl c 0) (sl j 0))).bind fun z=>((ldD true 2 z).bind bT).bind fun z=>(stD 2 (.agg [.v (.string ⟨⟨[]⟩⟩),I 0]) (.ref 0 0) z).bind fun b=>(fS true 2 0 b).bind fun y=>some (.ret [y] []))):=by kernel_rfl
theorem tv (x0:D):gh [x0]=((kv 2 x0).bind fun y=>(fS true 2 0 y).bind fun z=>ai (dR [z]) fun c _=>some (.ret [sl c 0] [])):=by kernel_rfl
end Go.Proofs.YtioabeglbjlndaaGreatDoor

namespace Go.Proofs.YtioabeglbjlndaaGreatDoor
open Go.V
set_option maxRecDepth 100000
@[reducible] def ty4:TI:={n:=1,zero:=[.v (.bool false)],bl:=true}
@[reducible] def iM:Cx:={K:=[Yc,Yc,.no,.no,Y,Yb,.box 2 0 false,Yb,Y,Yb,Y,Y,Y,Y,Y,Yb,Y,Yb,Y,Yb,Yb,Y,Y,Y,Y,Yb,Y,Yb,Y,Yb,Y,Y,Y,Y,Y,Y,Yb,Y,Yb,Y,.box 2 0 false,Y,Y,.no,Y,Y,Y,Y,Yc,Y,Yc,Y,Y,Y,.tup [Yo 2 0,Y],Yc,.tup [Yo 2 0,Y],Yb,Y,.tup [Yo 2 0,Y],Yb,Y,.tup [Yo 2 0,Y],Yb,Y,.tup [Yo 2 0,Y],Yb,Y,.tup [Yo 2 0,Y],Yb,Y,.tup [Y,Y],Yb,.tup [Y,Y],Y,Y,.tup [Y,Y],Yb,.tup [Y,Y],Y,Y,Y,Y,Y,Y,Yb,Yb,Y,Y,Y,Y,Y,Y,Y,Y,Y,Y,Y,Y,Y,Y,Y,Yb,Y,Y,Y,Y,Y,Y,Y,Y,Y,Y,Y,Y,Y,Y,Y,Y,.tup [Yo 2 0,Y],Yb,Yr 6,Y,.tup [Yo 2 0,Y],Yb,Y,Y,Y,Y,Yb,Yb,Y,Y,Y,Y,.tup [Yo 2 0,Y],Y,.tup [Yo 2 0,Y],Yb,Y,Y,Y,Y,Yb,Yb,Y,Y,Y,.tup [Yo 2 0,Yo 1 0],Yc,.tup [Yo 2 0,Yo 1 0],Yb,Yb,.tup [Y,Y],Yb,Yb,.tup [Y,Y],Y,Y,.tup [Y,Y],Yb,Yb,.tup [Y,Y],Y,Y,.tup [Yo 2 0,Y],Yc,.tup [Yo 2 0,Y],Yb,Y,.tup [Yo 2 0,Y],Yb,Y,.tup [Yo 2 0,Y],Yb,Y,.tup [Yo 2 0,Y],Yb,Y,.tup [Yo 2 0,Y],Yb,Y,.tup [Y,Y],Yb,Y,.tup [Y,Y],Y,Y,.tup [Y,Y],Yb,Y,.tup [Y,Y],Y,Y,Yc,Y,.tup [Yo 2 0,Y],Y,.tup [Yo 2 0,Y],Yb,Y,.tup [Yo 2 0,Y],Y,.tup [Yo 2 0,Y],Yb,Y,Yc,Y,Y,Y,Y,Y,Y,Y,Y,Y,Y,Y,Y,Y,Y,Y,Yb,Yb,Y,Y,Y,Y,Y,Y,Y,Y,Y,Y,Y,Y,Y,Y,Y,Y,Y,Y,Y,Yb,Yb,Y,Y,Y,Y,Y,Y,Y,Y,Y,Y,Y,Y,Y,Y,Y,Y,Y,Y,.itr,.tup [Y,Y,Y],Y,Y,Yb,Y,Y,Y,Yb,Y,Y,.itr,.tup [Y,Y,Y],Y,Y,Y,Y,Y,Y,Y,Y,Y,Y,Y,Y,Y,.tup [Y,Y],Yb,Y,Y,Y,Y,Y,.tup [Y,Y],Y,Y,Y,Y,Y,Y,Y],T:=[(3,ty3),(4,ty4),(5,ty5),(9,ty9),(22,rU),(25,iz),(37,kz)],S:=[(4,gQ),(5,kO),(6,kV),(7,lh),(8,kZ),(9,nj),(10,cA),(11,gm),(12,iK),(13,jL),(14,ew),(15,fG),(16,fK),(17,fA),(18,ic),(19,kj),(20,jW),(21,gr),(22,jZ),(23,je),(24,mW)],H:=[(0,([19,20,23,263],[])),(2,([19,20,23,41,42,263,267,268,269],[19,20,23,41,42,263])),(4,([19,20,23,41,42,44,263,267,268,269,274],[19,20,23,41,42,263,267,268,269]))],res:=[.tmp 4],ios:=[],G:=gl2}
@[reducible] def iB:List (Nat × List Nat):=[(511,[1,5,11,12]),(1023,[1])]
def dD:List D→Option Out:=qy iM iB Tryz.f3
@[reducible] def eU:FS:={pm:=[Yc,Yc],rm:=[Y],f:=dD}
theorem nP:ao gl2 Tryz.prog 3 eU:=zG (J:=iB) (P:=Tryz.prog) (c:=iM) (fn:=Tryz.f3) (pm:=eU.pm) (rm:=eU.rm) (by kernel_rfl) (ab (aC iw mN) (ab (aC iw rf) (ab (aC iw qS) (ab (aC Eb qZ) (ab (aC iw qU) (ab (aC iw tL) (ab (aC iw cZ) (ab (aC iw jl) (ab (aC iw nU) (ab pN (ab (aC iw iP) (ab (aC iw lu) (ab (aC iw lk) (ab (aC iw kI) (ab (aC iw nY) (ab (aC iw py) (ab (aC iw pU) (ab (aC iw lC) (ab (aC iw pW) (ab (aC iw oL) (ab (aC iw tN) ax))))))))))))))))))))) ju (by kernel_rfl) Tryz.func3 (by kernel_rfl) (by kernel_rfl) rfl
open Go Go.V
set_option maxRecDepth 100000
theorem nQ (x0 x1:D):dD [x0,x1]=((lenD false x0).bind fun z=>(lenD false x1).bind fun zh=>(bin .add false [] z zh).bind fun z=>(bin .gtr false [] z (I 1048576)).bind fun z=>ifD z (some (.ret [B true] [])) (ai (dp [x0]) fun c _=>(aL (.tup c) 0).bind fun y=>(aL (eT (.tup c) 0) 1).bind fun z=>(stD 2 (.agg [.v (.string ⟨⟨[]⟩⟩),I 0]) (.ref 0 0) z).bind fun b=>(fS true 2 0 b).bind fun z=>ai (eI [y,z]) fun c _=>(aL (.tup c) 0).bind fun zd=>(aL (eT (.tup c) 0) 1).bind fun z=>(fS true 2 0 b).bind fun zi=>ai (eL [y,zi]) fun c _=>(aL (.tup c) 0).bind fun zj=>(aL (eT (.tup c) 0) 1).bind fun zk=>ai (eO [y]) fun c _=>(aL (.tup c) 0).bind fun zb=>(aL (.tup c) 1).bind fun f=>ai (eN [y]) fun c _=>(aL (.tup c) 0).bind fun zl=>(aL (.tup c) 1).bind fun zm=>(bin .neq true [] z zk).bind fun g=>(aj (.tup []) g false (some zd)).bind fun zn=>(aj (.tup []) g false (some zj)).bind fun zo=>cu g false (ai (cy [zn,zo]) fun c _=>some (.nrm [sl c 0])) [.tup []] fun d=>(aj (.tup []) g false (un .not (sl d 0))).bind fun zp=>(aG g (B true) zp).bind fun p=>(aj (.tup []) p false (some f)).bind fun zq=>(aj (.tup []) p false (some zm)).bind fun zr=>(aj (.tup []) p false (bin .neq true [] zq zr)).bind fun zs=>(aG p (B true) zs).bind fun q=>(aj (.tup []) q false (some zb)).bind fun zt=>(aj (.tup []) q false (some zl)).bind fun zu=>(aj (.tup []) q false (bin .neq false [] zt zu)).bind fun zv=>(aG q (B true) zv).bind fun h=>(aj (.tup []) h false (some f)).bind fun zw=>(aj (.tup []) h false (some y)).bind fun z_22=>cu h false (ai (bu [z_22]) fun c _=>some (.nrm [sl c 0])) [.tup []] fun d=>(aj (.tup []) h false (bin .neq true [] zw (sl d 0))).bind fun z_23=>(aG h (B true) z_23).bind fun r=>(aj (.tup []) r false (some z)).bind fun z_25=>(aj (.tup []) r false (some z_25)).bind fun k=>(aj (.tup []) k true (some f)).bind fun z_27=>(aj (.tup []) k true (un .not z_27)).bind fun z_28=>(aj (.tup []) k true (some z_28)).bind fun t=>(aj (.tup []) t false (fS true 2 0 b)).bind fun z_30=>cu t false (ai (ct [z_30]) fun c _=>some (.nrm [sl c 0])) [.tup []] fun d=>(aj (.tup []) t false (un .not (sl d 0))).bind fun z_31=>(aj (.tup []) k true (aG t (B true) z_31)).bind fun z_32=>(aj (.tup []) r false (aG k z_32 (B false))).bind fun z_33=>(aG r (B true) z_33).bind fun z_34=>ifD z_34 (some (.ret [B false] [])) (wi (fun j=>ifD z ((aa b (.ref 0 0)).bind fun z=>((atD b z).bind (bv false 1)).bind fun z=>ai (cE [zd,z]) fun c _=>(aL (.tup c) 0).bind fun l=>(aL (eT (.tup c) 0) 1).bind fun z=>(un .not z).bind fun z=>(aj (.tup []) z false (some l)).bind fun m=>(aj (.tup []) z false (some y)).bind fun e=>cu z false (ai (cy [m,e]) fun c _=>some (.nrm [sl c 0])) [.tup []] fun d=>(aj (.tup []) z false (un .not (sl d 0))).bind fun n=>(aG z (B true) n).bind fun z=>ifD z (some (.ret [B false] [])) (j [x1,y,zb,f])) (j [x1,y,zb,f])) fun s=>wi (fun j=>ifD (sl s 3) (ai (dr [sl s 2]) fun c _=>(aL (.tup c) 0).bind fun y=>(aL (eT (.tup c) 0) 1).bind fun z=>(un .not z).bind fun z=>(aj (.tup []) z false (some y)).bind fun m=>(aj (.tup []) z false (some (sl s 1))).bind fun e=>cu z false (ai (cy [m,e]) fun c _=>some (.nrm [sl c 0])) [.tup []] fun d=>(aj (.tup []) z false (un .not (sl d 0))).bind fun n=>(aG z (B true) n).bind fun z=>ifD z (some (.ret [B false] [])) (j [sl s 0])) (j [sl s 0])) fun s=>ai (bM [sl s 0]) fun c _=>(aL (.tup c) 0).bind fun y=>(aL (eT (.tup c) 0) 1).bind fun l=>ai (cI [y,l]) fun c _=>(aL (.tup c) 0).bind fun z=>(aL (.tup c) 1).bind fun m=>ai (cJ [y,l]) fun c _=>(aL (.tup c) 0).bind fun e=>(aL (.tup c) 1).bind fun n=>ai (cq [sl s 0]) fun c _=>(aL (.tup c) 0).bind fun u=>(aL (eT (.tup c) 0) 1).bind fun v=>ai (cE [u,v]) fun c _=>(aL (.tup c) 0).bind fun y_5=>(aL (eT (.tup c) 0) 1).bind fun ze=>ai (dC [u,v]) fun c _=>(aL (.tup c) 0).bind fun y_6=>(aL (eT (.tup c) 0) 1).bind fun z_40=>ai (cB [u,v]) fun c _=>(aL (.tup c) 0).bind fun z_41=>(aL (.tup c) 1).bind fun zf=>ai (en [u,v]) fun c _=>(aL (.tup c) 0).bind fun z_43=>(aL (.tup c) 1).bind fun z_44=>ai (cP [sl s 0]) fun c _=>ai (dr [sl c 0]) fun zg _=>(aL (.tup zg) 0).bind fun y_7=>(aL (eT (.tup zg) 0) 1).bind fun z_45=>ai (em [sl c 0]) fun c _=>(aL (.tup c) 0).bind fun y_8=>(aL (eT (.tup c) 0) 1).bind fun z_46=>ai (dZ [sl s 0]) fun c _=>(stD 2 (.agg [.v (.string ⟨⟨[]⟩⟩),I 0]) (.ref 0 0) (sl c 0)).bind fun b=>(bin .neq true [] m n).bind fun w=>(aj (.tup []) w false (some z)).bind fun z=>(aj (.tup []) w false (some e)).bind fun z_48=>(aj (.tup []) w false (bin .neq false [] z z_48)).bind fun z=>(aG w (B true) z).bind fun z=>(aj (.tup []) z false (some ze)).bind fun z_49=>(aj (.tup []) z false (some z_40)).bind fun z_50=>(aj (.tup []) z false (bin .neq true [] z_49 z_50)).bind fun z_51=>(aG z (B true) z_51).bind fun z=>(aj (.tup []) z false (some y_5)).bind fun z_52=>(aj (.tup []) z false (some y_6)).bind fun z_53=>cu z false (ai (cy [z_52,z_53]) fun c _=>some (.nrm [sl c 0])) [.tup []] fun d=>(aj (.tup []) z false (un .not (sl d 0))).bind fun z_54=>(aG z (B true) z_54).bind fun z=>(aj (.tup []) z false (some zf)).bind fun z_55=>(aj (.tup []) z false (some z_44)).bind fun z_56=>(aj (.tup []) z false (bin .neq true [] z_55 z_56)).bind fun z_57=>(aG z (B true) z_57).bind fun z=>(aj (.tup []) z false (some z_41)).bind fun z_58=>(aj (.tup []) z false (some z_43)).bind fun z_59=>(aj (.tup []) z false (bin .neq false [] z_58 z_59)).bind fun z_60=>(aG z (B true) z_60).bind fun z=>(aj (.tup []) z false (some z_45)).bind fun z_61=>(aj (.tup []) z false (some z_46)).bind fun z_62=>(aj (.tup []) z false (bin .neq true [] z_61 z_62)).bind fun z_63=>(aG z (B true) z_63).bind fun z=>(aj (.tup []) z false (some y_7)).bind fun z_64=>(aj (.tup []) z false (some y_8)).bind fun z_65=>cu z false (ai (cy [z_64,z_65]) fun c _=>some (.nrm [sl c 0])) [.tup []] fun d=>(aj (.tup []) z false (un .not (sl d 0))).bind fun z_66=>(aG z (B true) z_66).bind fun z=>(aj (.tup []) z false (fS true 2 0 b)).bind fun z_67=>cu z false (ai (ct [z_67]) fun c _=>some (.nrm [sl c 0])) [.tup []] fun d=>(aj (.tup []) z false (fS true 2 0 b)).bind fun z_68=>cu z false (ai (gh [z_68]) fun c _=>some (.nrm [sl c 0])) [.tup []] fun outs_1=>(aj (.tup []) z false (bin .neq true [] (sl d 0) (sl outs_1 0))).bind fun z_69=>(aG z (B true) z_69).bind fun z=>(aj (.tup []) z false (some ze)).bind fun z_70=>(aj (.tup []) z false (some z_70)).bind fun zc=>(aj (.tup []) zc true (some zf)).bind fun z_72=>(aj (.tup []) zc true (un .not z_72)).bind fun z_73=>(aj (.tup []) z false (aG zc z_73 (B false))).bind fun z_74=>(aG z (B true) z_74).bind fun z=>ifD z (some (.ret [B false] [])) ((itD e).bind fun y_9=>(aS (fun s=>(nxS (sl s 3)).bind fun y=>(aL (nxT (sl s 3)) 0).bind fun z=>ifD z ((aL (nxT (sl s 3)) 1).bind fun z=>(lenD false (sl s 1)).bind fun z_75=>(aS (fun s=>(bin .lss false [] (sl s 8) (sl s 7)).bind fun z=>ifD z ((EX D.ptr (bF 1 (sl s 6) (sl s 8))).bind fun z=>((ldD false 1 z).bind bT).bind fun z=>(itD z).bind fun y=>(aS (fun s=>(nxS (sl s 10)).bind fun y=>(aL (nxT (sl s 10)) 0).bind fun z=>ifD z ((aL (nxT (sl s 10)) 1).bind fun z=>(aj (.tup []) (sl s 4) false (some (sl s 5))).bind fun za=>(aj (.tup []) (sl s 4) false (some z)).bind fun z=>(aj (.tup []) (sl s 4) false (ec za z)).bind fun z=>(aj (.tup []) (sl s 4) false (some (sl s 2))).bind fun z_77=>(aj (.tup []) (sl s 4) false (some (sl s 3))).bind fun z_78=>(aj (.tup []) (sl s 4) false (ec z_77 z_78)).bind fun z_79=>(aj (.tup []) (sl s 4) false (bin .eql false [] z z_79)).bind fun z=>(aG (sl s 4) (B true) z).bind fun z=>some (.nrm [sl s 0,sl s 1,sl s 2,sl s 3,z,sl s 5,sl s 6,sl s 7,sl s 8,sl s 9,y])) (some (.ext 4 [sl s 0,sl s 1,sl s 2,sl s 3,sl s 4,sl s 6,sl s 7,sl s 8,sl s 9]))) [sl s 0,sl s 1,sl s 2,sl s 3,sl s 4,z,sl s 5,sl s 6,sl s 7,sl s 8,y]).bind fun o=>dk o (fun i s=>ifN (i.beq 4) ((bin .add false [] (sl s 8) (I 1)).bind fun z=>some (.nrm [sl s 0,sl s 1,sl s 2,sl s 3,sl s 4,sl s 5,sl s 6,sl s 7,z])) (ifN (i.beq 3) ((bin .add false [] (sl s 8) (I 1)).bind fun z=>some (.nrm [sl s 0,sl s 1,sl s 2,sl s 3,sl s 4,sl s 5,sl s 6,sl s 7,z])) (some (.ext i [sl s 0,sl s 1,sl s 2,sl s 3,sl s 4,sl s 5])))) fun a b=>some (.ret a b)) (some (.ext 2 [sl s 0,sl s 1,sl s 2,sl s 3,sl s 4,sl s 5]))) [sl s 0,sl s 1,sl s 2,z,B false,y,sl s 1,z_75,I 0]).bind fun o=>dk o (fun i s=>ifN (i.beq 2) ((bin .add false [] (sl s 3) (I 1)).bind fun z=>(bZ true 0 (sl s 2) (sl s 3) z).bind fun z=>ai (cB [sl s 0,z]) fun c _=>(aL (.tup c) 0).bind fun _=>(aL (.tup c) 1).bind fun z=>(un .not (sl s 4)).bind fun za=>(aj (.tup []) za false (some z)).bind fun z=>(aG za (B true) z).bind fun z=>ifD z (some (.ret [B false] [])) (some (.nrm [sl s 0,sl s 1,sl s 2,sl s 5]))) (ifN (i.beq 1) (some (.nrm [sl s 0,sl s 1,sl s 2,sl s 5])) (some (.ext i [])))) fun a b=>some (.ret a b)) (some (.ext 0 []))) [y,l,e,y_9]).bind fun o=>dk o (fun i _=>ifN (i.beq 0) (some (.ret [B true] [])) none) fun a b=>some (.ret a b))))):=by kernel_rfl
set_option maxRecDepth 100000
def qa (u:Nat):ByteArray:=⟨(EY u).toArray⟩
def dG (n:Int):ByteArray:=⟨(Lib.itoa n).toArray⟩
theorem rY (u:Nat):dG (u:Int)=qa u:=by
 unfold dG qa;rw [Lib.itoa_nonneg]
theorem nZ {u:Nat} (h:u<10):qa u=⟨#[Fw (48+u)]⟩:=by
 unfold qa;rw [Fp h]
theorem vE {u:Nat} (h:¬u<10):qa u=qa (u / 10)++⟨#[Fw (48+u % 10)]⟩:=by
 unfold qa;rw [EY,dif_neg h];apply ByteArray.ext;simp
theorem mh:∀(k u:Nat),u<10 ^ (k+1)→(qa u).size≤k+1
 | 0,u,h=>by
  rw [nZ (by simpa using h)];exact Fz _
 | k+1,u,h=>by
  by_cases hu:u<10
  ·rw [nZ hu]
   show 1≤k+1+1
   omega
  ·rw [vE hu,Fm]
   have h1:=mh k (u / 10) (by rw [FX] at h;exact Nat.div_lt_of_lt_mul (by rw [Nat.mul_comm];exact h));have h2:(⟨#[Fw (48+u % 10)]⟩:ByteArray).size=1:=rfl;omega
theorem qb (k:Nat) {n:Int} (h0:0≤n) (h1:n<10 ^ (k+1)):(dG n).size≤k+1:=by
 obtain⟨u,rfl⟩:=Ff h0;rw [rY];exact mh k u (by exact_mod_cast h1)
theorem xR (u:Nat) (h:u<10):eK [.v (.int .u8 (48+(u:Int)))]=some [Fw (48+u)]:=by
 have e:(48+(u:Int)).toNat=48+u:=by omega
 simp only [eK,e,Fg]
theorem AZ (a:Int) (h0:0≤a) (h1:a<256):Fj.wrap a=a:=by
 have:=Int.emod_eq_of_lt h0 h1;simpa [IntKind.wrap,Gk,IntKind.signed] using this
theorem vt (a:Int):aA 1 [.v (.int .u8 a)]=some (.arr 1 [.v (.int .u8 a)]):=by simp [aA,fv]
theorem rF (k u:Nat) (hu:u<10 ^ 18) (ih:bh k [I ((u / 10:Nat):Int)]=none∨bh k [I ((u / 10:Nat):Int)]=some (.ret [T (qa (u / 10))] [])) :
  (bh (k+1) [I (u:Int)]=none∧bh k [I ((u / 10:Nat):Int)]=none∧¬u<10)∨bh (k+1) [I (u:Int)]=some (.ret [T (qa u)] []):=by
 rw [uX];by_cases h:u<10
 ·right
  have h1:(u:Int)<10:=by omega
  have hw:EW.wrap (48+(u:Int))=48+(u:Int):=aw (by omega) (by omega);have hw8:=AZ (48+(u:Int)) (by omega) (by omega);simp only [cW,h1,decide_true,EU,dJ,if_true,dn,hw,ex,hw8,vt,lp,xR u h,Fg,nZ h]
 ·have h1:¬(u:Int)<10:=by omega
  have hq:EW.wrap ((u:Int).tdiv 10)=((u / 10:Nat):Int):=by
   rw [Int.tdiv_eq_ediv_of_nonneg (by omega),aw (by omega) (by omega)];omega
  have hr:(u:Int).tmod 10=((u % 10:Nat):Int):=by
   rw [Int.tmod_eq_emod_of_nonneg (by omega)];omega
  have hm:u % 10<10:=FU _ (by decide);have hw:EW.wrap (48+((u % 10:Nat):Int))=48+((u % 10:Nat):Int):=aw (by omega) (by omega);have hw8:=AZ (48+((u % 10:Nat):Int)) (by omega) (by omega);have hs:(qa (u / 10)).size+(⟨#[Fw (48+u % 10)]⟩:ByteArray).size≤1152921504606846976:=by
   have:=mh 17 (u / 10) (by omega);have h2:(⟨#[Fw (48+u % 10)]⟩:ByteArray).size=1:=rfl;omega
  rcases ih with e | e
  ·left
   refine⟨?_,e,h⟩
   simp only [cW,h1,decide_false,EU,dJ,EZ,if_false,vh,show ¬(10:Int)=0 by decide,hq,e,ai]
  ·right
   simp only [cW,h1,decide_false,EU,dJ,EZ,if_false,vh,show ¬(10:Int)=0 by decide,hq,e,be,xO,hr,dn,hw,ex,hw8,vt,lp,
    xR _ hm,Fg,aN,pg,hs,if_true,vE h]
theorem vk:∀(k u:Nat),u<10 ^ 18→bh k [I (u:Int)]=none∨bh k [I (u:Int)]=some (.ret [T (qa u)] [])
 | 0,_,_=>.inl rfl
 | k+1,u,hu=>(rF k u hu (vk k (u / 10) (by omega))).imp (fun h=>h.1) id
theorem xS:∀(k u:Nat),u<10 ^ 18→u<10 ^ (k+1)→bh (k+1) [I (u:Int)]=some (.ret [T (qa u)] [])
 | 0,u,hu,h=>by
  rcases rF 0 u hu (vk 0 _ (by omega)) with ⟨_,_,h1⟩ | h1
  ·exact absurd (by simpa using h) h1
  ·exact h1
 | k+1,u,hu,h=>by
  rcases rF (k+1) u hu (vk (k+1) _ (by omega)) with ⟨_,h1,_⟩ | h1
  ·rw [xS k (u / 10) (by omega) (by rw [FX] at h;exact Nat.div_lt_of_lt_mul (by rw [Nat.mul_comm];exact h))] at h1
   cases h1
  ·exact h1
theorem uY {n:Int} (h0:0≤n) (h1:n<1000000000000000000):ku [I n]=some (.ret [T (dG n)] []):=by
 obtain⟨u,rfl⟩:=Ff h0;have hu:u<10 ^ 18:=by omega
 rw [rY];refine Ck (fun k o ho=>?_) 18 (xS 17 u hu hu)
 rcases vk k u hu with e | e
 ·rw [e] at ho;cases ho
 ·rw [e] at ho;cases ho;rfl
theorem DV {n:Int} (h0 : -9223372036854775808≤n) (h1:n≤9223372036854775807):uy [I n]=some (.ret [T (dG n)] []):=by
 simp only [uy,h0,h1,and_self,if_true];rfl
theorem vz {a b:ByteArray} {bl:Bool} {eq:List Nat} (h:a.size+b.size≤1152921504606846976):bin .add bl eq (T a) (T b)=some (T (a++b)):=by rw [pg,if_pos h]
theorem sz1 (a:UInt8):(⟨#[a]⟩:ByteArray).size=1:=rfl
set_option maxRecDepth 100000
def ac (s:ByteArray):List UInt8:=s.data.toList
theorem dw {s:ByteArray} {k:IntKind} {i:Nat}:ec (T s) (.v (.int k (i:Int)))=((ac s)[i]?).map fun b=>U b.toNat:=by simp [ec,ac]
theorem aO (s:ByteArray):s.size=(ac s).length:=rfl
theorem eX {a b:ByteArray} (h:ac a=ac b):a=b:=by
 cases a with | mk a=>cases b with | mk b =>
  cases a with | mk a=>cases b with | mk b =>
   simp [ac] at h;rw [h]
theorem bU (s:ByteArray) (i j:Nat):ac (s.extract i j)=((ac s).take j).drop i:=by
 simp [ac,List.drop_take]
theorem iF (l:List UInt8):ac ⟨l.toArray⟩=l:=by simp [ac]
theorem Ah (s:ByteArray):(⟨(ac s).toArray⟩:ByteArray)=s:=eX (iF _)
theorem bx (a b:ByteArray):ac (a++b)=ac a++ac b:=by simp [ac]
theorem sf {s:ByteArray} {z i j:Nat} (h1:i≤j) (h2:j≤s.size):bZ true z (T s) (I (i:Int)) (I (j:Int))=some (T (s.extract i j)):=by
 simp only [bZ,Ga];rw [if_pos (by omega)]
theorem pl {s:ByteArray} {z i:Nat} (h:i≤s.size):bS true z (T s) (I (i:Int))=some (T (s.extract i s.size)):=by
 simp only [bS,Ga];rw [if_pos (by omega)]
def sK (x:UInt8):List (List UInt8)→List (List UInt8)
 | []=>[[x]]
 | h::t=>(x::h)::t
def bo (c:UInt8):List UInt8→List (List UInt8)
 | []=>[[]]
 | x::l=>if x=c then []::bo c l else sK x (bo c l)
theorem mo (c:UInt8) (l:List UInt8):bo c l≠[]:=by
 cases l with
 | nil=>simp [bo]
 | cons x l =>
  simp only [bo];split
  ·simp
  ·cases bo c l<;>simp [sK]
theorem qA {c:UInt8}:∀{l:List UInt8},c∉l→bo c l=[l]
 | [],_=>rfl
 | x::l,h=>by
  simp only [FM,not_or] at h;simp only [bo];rw [if_neg (Ne.symm h.1),qA h.2];rfl
theorem nG {c:UInt8} {b:List UInt8}:∀{a:List UInt8},c∉a→bo c (a++c::b)=a::bo c b
 | [],_=>by simp [bo]
 | x::a,h=>by
  simp only [FM,not_or] at h;rw [Fh];simp only [bo];rw [if_neg (Ne.symm h.1),nG h.2];rfl
theorem gx (c x:UInt8):∀(l:List UInt8) (o:List (List UInt8)) (p:List UInt8),bo c l=o++[p]→bo c (l++[x])=if x=c then(o++[p])++[[]] else o++[p++[x]]
 | [],o,p,h=>by
  have h:[[]]=o++[p]:=h;have:o=[]∧p=[]:=by
   cases o with
   | nil=>simpa using h.symm
   | cons y o=>cases o<;>simp at h
  obtain⟨rfl,rfl⟩:=this;simp only [FQ,bo];split<;>rfl
 | y::l,o,p,h=>by
  simp only [bo] at h;rw [Fh];simp only [bo];by_cases hy:y=c
  ·rw [if_pos hy] at h ⊢
   cases o with
   | nil=>exact absurd (FW h).2 (mo c l)
   | cons z o =>
    rw [Fh,FG] at h;obtain⟨rfl,h⟩:=h;rw [gx c x l o p h];split<;>rfl
  ·rw [if_neg hy] at h ⊢
   generalize hs:bo c l=s at h;cases s with
   | nil=>exact absurd hs (mo c l)
   | cons z s =>
    simp only [sK] at h;cases o with
    | nil =>
     have:s=[]∧p=y::z:=by
      rw [FQ,FG] at h;exact⟨h.2,h.1.symm⟩
     obtain⟨rfl,rfl⟩:=this;rw [gx c x l [] z hs];split<;>simp [sK]
    | cons w o =>
     rw [Fh,FG] at h;obtain⟨rfl,h⟩:=h;rw [gx c x l (z::o) p (by rw [hs,h];rfl)];split<;>simp [sK]
theorem od (c:UInt8):∀(l:List UInt8),(Gi l [c] = -1∧c∉l)∨∃a b,l=a++c::b∧c∉a∧Gi l [c]=a.length
 | []=>.inl ⟨by simp [Gi],by simp⟩
 | x::l=>by
  rw [Lib.index_one];simp only [Lib.indexByte];by_cases hx:x=c
  ·subst hx
   exact .inr ⟨[],l,rfl,by simp,by simp⟩
  ·have ih:=od c l
   rw [Lib.index_one] at ih;rw [if_neg (by simpa using hx)];rcases ih with ⟨h1,h2⟩ | ⟨a,b,rfl,h2,h3⟩
   ·exact .inl ⟨by rw [h1];rfl,by simp [h2,Ne.symm hx]⟩
   ·refine .inr ⟨x::a,b,rfl,by simp [h2,Ne.symm hx],?_⟩
    rw [if_neg (by rw [h3];simp),h3];simp
theorem ui (c:UInt8):∀(n:Nat) (l:List UInt8),l.length≤n→Lib.splitK [c] 0 (Lib.count l [c]) l=bo c l
 | n,l,hn=>by
  rcases od c l with ⟨h1,h2⟩ | ⟨a,b,rfl,h2,h3⟩
  ·rw [Lib.count_miss h1,qA h2]
   rfl
  ·rw [Lib.count_hit (by simp) h3,nG h2,Nat.add_comm 1]
   have hb:(a++c::b).drop (a.length+[c].length)=b:=by
    rw [←List.drop_drop];simp
   cases n with
   | zero=>simp at hn
   | succ n =>
    rw [hb];unfold Lib.splitK;rw [if_neg (by rw [h3];simp),h3];have e:((a.length:Int)).toNat=a.length:=by omega
    rw [e,hb,ui c n b (by simp at hn;omega)];simp
def aF (c:UInt8) (s:ByteArray):List ByteArray:=(bo c (ac s)).map fun l=>⟨l.toArray⟩
theorem xp (c:UInt8) (s:ByteArray):gg s ⟨#[c]⟩=aF c s:=by
 have h:(gg s ⟨#[c]⟩).map ac=bo c (ac s):=by
  have:=Lib.splitB_data ⟨#[c]⟩ 0 (Lib.countB s ⟨#[c]⟩) s;rw [show(fun x:ByteArray=>x.data.toList)=ac from rfl] at this;rw [gg,this];exact ui c _ _ (Fz _)
 have h2:(gg s ⟨#[c]⟩).map (fun x=>(⟨(ac x).toArray⟩:ByteArray))=aF c s:=by
  rw [aF,←h,List.map_map];rfl
 rw [←h2];have:(fun x:ByteArray=>(⟨(ac x).toArray⟩:ByteArray))=id:=funext Ah;rw [this,List.map_id]
theorem CX {c:UInt8} {s:ByteArray} (h:s.size<4294967281):pF [T s,T ⟨#[c]⟩]=some (.ret [.arr 1 ((aF c s).map T)] []):=by
 have h1:1≤(⟨#[c]⟩:ByteArray).size:=Fz 1;simp only [pF,h,h1,and_self,if_true,xp]
theorem nb (c:UInt8):∀(l:List UInt8),(bo c l).length≤l.length+1
 | []=>by simp [bo]
 | x::l=>by
  have ih:=nb c l;simp only [bo];split
  ·simp;omega
  ·generalize bo c l=s at ih
   cases s<;>simp [sK] at ih ⊢<;>omega
theorem vF (s:ByteArray):aA 1 [T s]=some (.arr 1 [T s]):=by simp [aA,fv]
theorem sV (l:List ByteArray):fg (.arr 1 (l.map T))=some (.arr 1 (l.map T)):=oE fun _=>rfl
theorem sU (s:ByteArray) (c:UInt8) (h:s.size≤4294967296):fE [T s,U c.toNat]=some (.ret [.arr 1 ((aF c s).map T)] []):=by
 rw [rE]
 let mk:List UInt8→ByteArray:=fun l=>⟨l.toArray⟩
 refine cn (fun r=>r=_) (fun(a:List (List UInt8) × Nat × Nat)=>[T s,U c.toNat,.arr 1 ((a.1.map mk).map T),I (a.2.1:Int),I (a.2.2:Int)])
  (fun a=>a.2.2≤s.size∧a.2.1≤a.2.2∧a.1.length≤a.2.2∧bo c ((ac s).take a.2.2)=a.1++[((ac s).take a.2.2).drop a.2.1])
  (fun a=>s.size - a.2.2) (fun o=>∃(outs:List (List UInt8)) (fr:Nat),o = .ext 0 [T s,.arr 1 ((outs.map mk).map T),I (fr:Int)]∧fr≤s.size∧outs.length≤s.size∧bo c (ac s)=outs++[(ac s).drop fr])
  ?_ ([],0,0) ⟨FK _,Fz _,Fz _,by simp [bo]⟩ rfl ?_
 ·rintro⟨outs,fr,i⟩ ⟨h1,h2,h3,h4⟩
  simp only at h1 h2 h3 h4;by_cases hi:i<s.size
  ·left
   have hl:i<(ac s).length:=by rw [←aO];exact hi
   have hi':(i:Int)<(s.size:Int):=by omega
   have hw:EW.wrap ((i:Int)+1)=((i+1:Nat):Int):=by rw [aw (by omega) (by omega)];omega
   have hch:ec (T s) (I (i:Int))=some (U ((ac s)[i].toNat:Int)):=by
    rw [dw,Fo hl];rfl
   have htk:(ac s).take (i+1)=(ac s).take i++[(ac s)[i]]:=Fy hl;have hdr:((ac s).take i++[(ac s)[i]]).drop fr=((ac s).take i).drop fr++[(ac s)[i]]:=by
    rw [FA (by rw [Fs];omega)]
   by_cases hc:(ac s)[i]=c
   ·refine⟨(outs++[((ac s).take i).drop fr],i+1,i+1),?_,⟨by simp only;omega,Fz _,by simp;omega,?_⟩,by simp only;omega⟩
    ·have hsl:=sf (s:=s) (z:=0) (i:=fr) (j:=i) h2 (by omega)
     have hmk:mk (((ac s).take i).drop fr)=s.extract fr i:=eX (by rw [bU];exact iF _);have hap:(outs.length+1)*16≤140737488355328∧outs.length+1≤1152921504606846976:=by omega
     have e2:(outs++[((ac s).take i).drop fr]).map mk=outs.map mk++[s.extract fr i]:=by rw [Fk,Fq,FC,hmk]
     have e1:((outs.map mk).map T).length+[T (s.extract fr i)].length=outs.length+1:=by simp
     have hck:fg (.arr 1 [T (s.extract fr i)])=some (.arr 1 [T (s.extract fr i)]):=sV [s.extract fr i];simp only [aN,bJ,cG,EU,cW,hi',decide_true,dJ,if_true,hch,jg,hc,hsl,vF,hck,oS,e1,hap,and_self,dn,hw,e2,Fk,Fq,FC]
    ·have:=gx c (ac s)[i] _ _ _ h4
     rw [if_pos hc,←htk] at this;simp only;have hz:((ac s).take (i+1)).drop (i+1)=[]:=Fu (by rw [Fs];omega);rw [this,hz]
   ·refine⟨(outs,fr,i+1),?_,⟨by simp only;omega,by simp only;omega,by simp only;omega,?_⟩,by simp only;omega⟩
    ·have hne:¬((ac s)[i].toNat:Int)=(c.toNat:Int):=fun e=>hc (Ge.1 (by omega))
     simp only [aN,bJ,cG,EU,cW,hi',decide_true,dJ,if_true,hch,jg,hne,decide_false,EZ,if_false,dn,hw]
    ·have:=gx c (ac s)[i] _ _ _ h4
     rw [if_neg hc,←htk] at this;simp only;rw [this,htk,hdr]
  ·right
   have hi':¬(i:Int)<(s.size:Int):=by omega
   have hie:i=s.size:=by omega
   refine⟨_,?_,rfl,outs,fr,rfl,by omega,by omega,?_⟩
   ·simp only [aN,bJ,cG,EU,cW,hi',decide_false,dJ,EZ,if_false]
   ·rw [hie,aO,Gd] at h4
    exact h4
 ·rintro o ⟨outs,fr,rfl,h1,h2,h3⟩
  have hsl:=pl (s:=s) (z:=0) (i:=fr) h1;have hmk:mk ((ac s).drop fr)=s.extract fr s.size:=eX (by rw [bU,aO,Gd];exact iF _);have hap:(outs.length+1)*16≤140737488355328∧outs.length+1≤1152921504606846976:=by omega
  have e1:((outs.map mk).map T).length+[T (s.extract fr s.size)].length=outs.length+1:=by simp
  have hck:fg (.arr 1 [T (s.extract fr s.size)])=some (.arr 1 [T (s.extract fr s.size)]):=sV [s.extract fr s.size];have e2:aF c s=outs.map mk++[s.extract fr s.size]:=by rw [aF,h3,Fk,Fq,FC];exact congrArg _ (congrArg (fun x=>[x]) hmk)
  simp only [iD,FY,rQ,if_true,aN,bJ,hsl,EU,vF,hck,oS,e1,hap,and_self,e2,Fk,Fq,FC]
set_option maxRecDepth 100000
def dig (b:UInt8):Bool:=decide (48≤b.toNat)&&decide (b.toNat≤57)
theorem kA {b:UInt8}:dig b=true↔48≤b.toNat∧b.toNat≤57:=by simp [dig]
theorem fa {u:Nat} (h:u<10):(Fw (48+u)).toNat=48+u:=by
 simp;omega
theorem uz {u:Nat} (h:u<10):dig (Fw (48+u))=true:=by
 rw [kA,fa h];omega
theorem ef {u:Nat} (h:¬u<10):EY u=EY (u / 10)++[Fw (48+u % 10)]:=by rw [EY,dif_neg h]
theorem eC {P:Nat→Prop} (h0:∀u,u<10→P u) (h1:∀u,¬u<10→P (u / 10)→P u):∀u,P u:=by
 intro u;induction u using Nat.strongRecOn with
 | _ u ih =>
  by_cases h:u<10
  ·exact h0 u h
  ·exact h1 u h (ih (u / 10) (by omega))
theorem jx:∀u,∀b∈EY u,dig b=true:=by
 refine eC (fun u h b hb=>?_) (fun u h ih b hb=>?_)
 ·rw [Fp h] at hb
  rw [FL.1 hb];exact uz h
 ·rw [ef h] at hb
  rcases Gf.1 hb with hb | hb
  ·exact ih b hb
  ·rw [FL.1 hb]
   exact uz (FU u (show 10>0 by decide))
theorem hP:∀u,EY u≠[]:=by
 refine eC (fun u h=>?_) (fun u h ih=>?_)
 ·rw [Fp h];simp
 ·rw [ef h];simp
theorem sI:∀u,0<u→∀b t,EY u=b::t→b≠48:=by
 refine eC (fun u h h0 b t e=>?_) (fun u h ih h0 b t e=>?_)
 ·rw [Fp h] at e
  obtain⟨rfl,_⟩:=FW e;intro e2;have:=congrArg UInt8.toNat e2;rw [fa h] at this;have h48:(48:UInt8).toNat=48:=rfl;omega
 ·rw [ef h] at e
  cases hd:EY (u / 10) with
  | nil=>exact absurd hd (hP _)
  | cons b' t' =>
   rw [hd,Fh] at e;obtain⟨rfl,_⟩:=FW e;exact ih (by omega) _ _ hd
def rC (a:Nat) (l:List UInt8):Nat:=l.foldl (fun a b=>a*10+(b.toNat - 48)) a
theorem Bv:∀u,rC 0 (EY u)=u:=by
 refine eC (fun u h=>?_) (fun u h ih=>?_)
 ·rw [Fp h]
  simp only [rC,Gg,List.foldl_nil,fa h];omega
 ·rw [ef h]
  simp only [rC] at ih ⊢;rw [Gb,ih];simp only [Gg,List.foldl_nil,fa (FU u (show 10>0 by decide))];omega
theorem oi:∀(l r:List UInt8) (a b:Nat),Fl a l = .ok b→Fl a (l++r)=Fl b r
 | [],r,a,b,h=>by
  simp only [Fl] at h;injection h with h;subst h;rfl
 | c::l,r,a,b,h=>by
  simp only [Fl] at h;rw [Fh];simp only [Fl];split at h
  ·rename_i h1
   rw [if_pos h1];split at h
   ·cases h
   ·rename_i h2
    rw [if_neg h2];split at h
    ·cases h
    ·rename_i h3
     rw [if_neg h3];exact oi l r _ b h
  ·cases h
theorem yJ:∀u,u<1844674407370955162→Fl 0 (EY u) = .ok u:=by
 refine eC (fun u h hu=>?_) (fun u h ih hu=>?_)
 ·rw [Fp h]
  simp only [Fl,fa h];rw [if_pos (by omega),if_neg (by omega),if_neg (by omega)];congr 1
  omega
 ·have h10:=fa (FU u (show 10>0 by decide))
  rw [ef h,oi _ _ _ _ (ih (by omega))];simp only [Fl,h10];rw [if_pos (by omega),if_neg (by omega),if_neg (by omega)];congr 1
  omega
theorem AR {u:Nat} (h:u<1844674407370955162):FF (EY u) = .ok (u:Int):=by
 have hp:=yJ u h;cases hd:EY u with
 | nil=>exact absurd hd (hP u)
 | cons c r =>
  have hc:=kA.1 (jx u c (by rw [hd];simp));rw [hd] at hp;unfold FF;simp only;rw [if_neg (by omega)];unfold Lib.parseMag;rw [if_neg (by simp),hp];simp only;have h45:¬c.toNat=45:=by omega
  rw [if_neg (by omega),if_neg (by simp [h45]),if_neg h45]
def vL (b:UInt8):Bool:=ka b.toNat
theorem sj (b:UInt8):vL b = !dig b:=by
 simp only [vL,ka,dig];by_cases h1:b.toNat<48<;>by_cases h2:57<b.toNat<;>simp [h1,h2]<;>omega
def ig:Option (List UInt8)→List UInt8→List (List UInt8)
 | none,[]=>[]
 | some c,[]=>[c]
 | none,b::l=>if vL b=true then ig none l else ig (some [b]) l
 | some c,b::l=>if vL b=true then c::ig none l else ig (some (c++[b])) l
theorem vH:∀{a:List UInt8} (l:List UInt8),(∀b∈a,dig b=false)→ig none (a++l)=ig none l
 | [],_,_=>rfl
 | x::a,l,h=>by
  rw [Fh];simp only [ig];rw [if_pos (by rw [sj,h x (by simp)];rfl)];exact vH l fun b hb=>h b (by simp [hb])
theorem vV:∀{w:List UInt8} (c l:List UInt8),(∀b∈w,dig b=true)→ig (some c) (w++l)=ig (some (c++w)) l
 | [],c,l,_=>by simp
 | x::w,c,l,h=>by
  rw [Fh];simp only [ig];rw [if_neg (by rw [sj,h x (by simp)];simp),vV (c++[x]) l fun b hb=>h b (by simp [hb])];simp
theorem zP {w:List UInt8} (hn:w≠[]) (h:∀b∈w,dig b=true):ig none w=[w]:=by
 cases w with
 | nil=>exact absurd rfl hn
 | cons y w =>
  simp only [ig];rw [if_neg (by rw [sj,h y (by simp)];simp)];have:=vV (w:=w) [y] [] fun b hb=>h b (by simp [hb])
  rw [List.append_nil] at this;rw [this];rfl
theorem uK (s:ByteArray) (hs:∀b∈ac s,b.toNat<128):∀(f pos:Nat) (st:Option Nat) (acc:List (Nat × Nat)),s.size≤pos+f→pos≤s.size→(∀a,st=some a→a<pos) →
  (FD s (Fx ka s f pos st acc)).map (fun x=>ac (s.extract x.1 x.2))=acc.map (fun x=>ac (s.extract x.1 x.2))++ig (st.map fun a=>((ac s).take pos).drop a) ((ac s).drop pos):=by
 intro f;induction f with
 | zero =>
  intro pos st acc h1 h2 h3;have hp:pos=s.size:=by omega
  have hd:(ac s).drop pos=[]:=Fu (by rw [←aO];omega);rw [hd];cases st with
  | none=>simp [Fx,FD,ig]
  | some a=>simp only [Fx,FD,ig,Fg,Fk,Fq,FC,bU,hp]
 | succ f ih =>
  intro pos st acc h1 h2 h3;by_cases hp:pos<s.size
  case neg =>
   have hpe:pos=s.size:=by omega
   have hd:(ac s).drop pos=[]:=Fu (by rw [←aO];omega);rw [hd,Lib.spansFromP_end _ _ _ _ _ _ hp];cases st with
   | none=>simp [FD,ig]
   | some a=>simp only [FD,ig,Fg,Fk,Fq,FC,bU,hpe]
  have hl:pos<(ac s).length:=by rw [←aO];exact hp
  have hb:(ac s)[pos].toNat<128:=hs _ (Fi hl);have hdec:Gc s pos=((ac s)[pos].toNat,1):=decode_ascii s pos hp hb;have hcons:(ac s).drop pos=(ac s)[pos]::(ac s).drop (pos+1):=FN hl;have htk:(ac s).take (pos+1)=(ac s).take pos++[(ac s)[pos]]:=Fy hl;rw [hcons];unfold Fx;rw [if_pos hp,hdec];simp only;by_cases hsep:ka (ac s)[pos].toNat=true
  ·rw [if_pos hsep]
   cases st with
   | none =>
    simp only [FR,ig];rw [if_pos (show vL _=true from hsep)];exact ih (pos+1) none acc (by omega) (by omega) (by simp)
   | some a =>
    simp only [Fg,ig];rw [if_pos (show vL _=true from hsep),ih (pos+1) none (acc++[(a,pos)]) (by omega) (by omega) (by simp)];simp only [Fk,Fq,FC,List.append_assoc,bU,FR,Fh,FQ]
  ·rw [if_neg hsep]
   cases st with
   | none =>
    simp only [FR,ig];rw [if_neg (show ¬vL _=true from hsep),ih (pos+1) (some pos) acc (by omega) (by omega) (by intro a ha;cases ha;omega)];simp only [Fg];rw [htk,FA (by rw [Fs];omega),Fu (by rw [Fs];omega)];rfl
   | some a =>
    have ha:=h3 a rfl;simp only [Fg,ig];rw [if_neg (show ¬vL _=true from hsep),ih (pos+1) (some a) acc (by omega) (by omega) (by intro a' ha';cases ha';omega)];simp only [Fg];rw [htk,FA (by rw [Fs];omega)]
theorem uV (s:ByteArray) (hs:∀b∈ac s,b.toNat<128):(Fr ka s).map ac=ig none (ac s):=by
 have:=uK s hs s.size 0 none [] (by omega) (FK _) (by simp);simpa [Fr,Lib.spansOfP,List.map_map,Function.comp_def] using this
def me:List ByteArray→List Int→List Int
 | [],acc=>acc
 | w::l,acc=>match FF (ac w) with
  | .ok v=>me l (acc++[v])
  | _=>[]
def gz (s:ByteArray):List Int:=me (Fr ka s) []
abbrev sJ (l:List Int):D:=.arr 1 (l.map I)
theorem fy (p:Nat→Bool) (s:ByteArray):∀(f pos:Nat) (st:Option Nat) (acc:List (Nat × Nat)),(Fx p s f pos st acc).1.length≤acc.length+f
 | 0,pos,st,acc=>by simp [Fx]
 | f+1,pos,st,acc=>by
  unfold Fx;by_cases hp:pos<s.size
  case neg =>
   rw [if_neg hp];exact Nat.le_add_right _ _
  rw [if_pos hp];by_cases hq:p (Gc s pos).1=true
  ·rw [if_pos hq]
   cases st with
   | none=>exact FH (fy p s f _ none acc) (by omega)
   | some a =>
    have h:=fy p s f (pos+(Gc s pos).2) none (acc++[(a,pos)]);rw [FZ,List.length_singleton] at h;exact FH h (by omega)
  ·rw [if_neg hq]
   cases st with
   | none=>exact FH (fy p s f _ _ acc) (by omega)
   | some a=>exact FH (fy p s f _ _ acc) (by omega)
theorem tB (p:Nat→Bool) (s:ByteArray):(Fr p s).length≤s.size+1:=by
 unfold Fr Lib.spansOfP;rw [FT];have:=fy p s s.size 0 none [];unfold FD;split
 ·simp only [FZ,List.length_cons,Gh] at this ⊢;omega
 ·simp only [Gh] at this;omega
theorem vG (p:Nat→Bool) (s:ByteArray):∀w∈Fr p s,w.size≤s.size:=by
 intro w hw;unfold Fr at hw;obtain⟨x,_,rfl⟩:=List.mem_map.1 hw;rw [aO,bU,List.length_drop,Fs,←aO];omega
theorem uP (s:ByteArray) (k:Nat) (p:Nat→Bool) (h:s.size≤4294967296):fb k p [T s,.clo k []]=some (.ret [.arr 1 ((Fr p s).map T)] []):=by
 simp only [fb,h,and_self,if_true]
theorem Cj (a:Int):aA 1 [I a]=some (sJ [a]):=by simp [aA,fv]
theorem yz (l:List Int):fg (sJ l)=some (sJ l):=oE fun _=>rfl
theorem DS (w:ByteArray) (h:w.size≤4294967296):ux [T w]=some (match FF (ac w) with
  | .ok v=>Out.ret [I v,.v .nilIface] []
  | .range=>Out.ret [I (Lib.atoiSat (ac w)),.ifc] []
  | _=>Out.ret [I 0,.ifc] []):=by
 have h2:w.size≤281474976710656:=by omega
 simp only [ux,h2,if_true];rw [show w.data.toList=ac w from rfl];cases FF (ac w)<;>rfl
theorem pV (s:ByteArray) (h:s.size≤1048576):ep [T s]=some (.ret [sJ (gz s)] []):=by
 rw [pz];have hl:=tB ka s;have hz:=vG ka s;rw [uP s _ ka (by omega)];simp only [jC,EU,be,aN,pt,FT];generalize hw:Fr ka s=ws at hl hz;have hnum:gz s=me ws []:=by rw [gz,hw]
 rw [hnum];refine cn (fun r=>r=_) (fun(a:List Int × Nat)=>[sJ a.1,.arr 1 (ws.map T),I ws.length,I (a.2:Int)]) (fun a=>a.2≤ws.length∧a.1.length≤a.2∧me (ws.drop a.2) a.1=me ws [])
  (fun a=>ws.length - a.2) (fun o=>o = .ext 0 [sJ (me ws [])]∨o = .ret [sJ (me ws [])] []) ?_ ([],0) ⟨FK _,Fz _,rfl⟩ rfl ?_
 ·rintro⟨acc,i⟩ ⟨h1,h2,h3⟩
  simp only at h1 h2 h3;by_cases hi:i<ws.length
  ·have hi':(i:Int)<(ws.length:Int):=by omega
   have hw:EW.wrap ((i:Int)+1)=((i+1:Nat):Int):=by rw [aw (by omega) (by omega)];omega
   have hat:=DS ws[i] (by have:=hz ws[i] (Fi hi);omega);have hel:bF 1 (.arr 1 (ws.map T)) (I (i:Int))=some [T ws[i]]:=by simp [hi]
   rw [FN hi] at h3;simp only [me] at h3;cases ha:FF (ac ws[i]) with
   | ok v =>
    rw [ha] at h3 hat
    left
    refine⟨(acc++[v],i+1),?_,⟨by simp only;omega,by simp;omega,h3⟩,by simp only;omega⟩
    have e1:(acc.map I).length+([v].map I).length=acc.length+1:=by simp
    have hap:(acc.length+1)*8≤140737488355328∧acc.length+1≤1152921504606846976:=by omega
    simp only [aN,bJ,EU,cW,hi',decide_true,dJ,if_true,hel,Fg,pk,oP,rK,hat,be,show aL (.tup [I v,.v .nilIface]) 0=some (I v) from rfl,
     show aL (.tup [I v,.v .nilIface]) 1=some (.v .nilIface) from rfl,show xA true Gj (.v .nilIface) (.v .nilIface)=some (B false) from rfl,EZ,if_false,Cj,yz,oS,e1,hap,and_self,dn,hw]
    rw [←Fk]
   | range =>
    rw [ha] at h3 hat
    right
    refine⟨.ret [sJ []] [],?_,rfl,.inr (by rw [←h3])⟩
    simp only [aN,bJ,EU,cW,hi',decide_true,dJ,if_true,hel,Fg,pk,oP,rK,hat,be,show ∀n:Int,aL (.tup [I n,.ifc]) 0=some (I n) from fun _=>rfl,
     show ∀n:Int,aL (.tup [I n,.ifc]) 1=some .ifc from fun _=>rfl,show xA true Gj .ifc (.v .nilIface)=some (B true) from rfl,jC]
    rfl
   | _ =>
    rw [ha] at h3 hat
    right
    refine⟨.ret [sJ []] [],?_,rfl,.inr (by rw [←h3])⟩
    simp only [aN,bJ,EU,cW,hi',decide_true,dJ,if_true,hel,Fg,pk,oP,rK,hat,be,show aL (.tup [I 0,.ifc]) 0=some (I 0) from rfl,
     show aL (.tup [I 0,.ifc]) 1=some .ifc from rfl,show xA true Gj .ifc (.v .nilIface)=some (B true) from rfl,jC]
    rfl
  ·right
   have hi':¬(i:Int)<(ws.length:Int):=by omega
   refine⟨.ext 0 [sJ acc],?_,rfl,.inl ?_⟩
   ·simp only [aN,bJ,EU,cW,hi',decide_false,dJ,EZ,if_false]
   ·rw [Fu (by omega)] at h3
    rw [←h3];rfl
 ·rintro o (rfl | rfl)
  ·simp only [iD,FY,rQ,if_true,aN]
  ·rfl
set_option maxRecDepth 100000
theorem eW (a b c:Int):eg [I a,I b,I c]=some (.ret [B (decide (b≤a∧a≤c))] []):=by
 rw [wb];by_cases h:b≤a<;>simp [h]
theorem jy (a b c:Int):dT [I a,I b,I c]=some (.ret [B (decide (b≤a∧a≤c))] []):=by
 rw [tD];by_cases h:b≤a<;>simp [h]
set_option maxRecDepth 100000
def rV (l:List UInt8):Int :=
 if (1≤l.length∧l.length≤6)∧¬(l.head?=some 48∧1<l.length)∧l.all dig=true then(rC 0 l:Int) else -1
def ke (s:ByteArray):Int:=rV (ac s)
theorem ur (l:List UInt8) (x:UInt8) (a:Nat):rC a (l++[x])=rC a l*10+(x.toNat - 48):=by simp [rC,Gb]
theorem BU:∀(n:Nat) (l:List UInt8),l.length=n→(∀b∈l,dig b=true)→rC 0 l<10 ^ n:=by
 intro n;induction n with
 | zero =>
  intro l hl _;rw [List.eq_nil_of_length_eq_zero hl];decide
 | succ n ih =>
  intro l hl hd;have hne:l≠[]:=fun e=>by rw [e] at hl;simp at hl
  have hsp:=List.dropLast_concat_getLast hne;have h1:=ih l.dropLast (by rw [List.length_dropLast];omega) fun b hb=>hd b ((List.dropLast_sublist l).subset hb)
  have h2:=kA.1 (hd _ (List.getLast_mem hne));rw [←hsp,ur,FX];omega
theorem tS (s:ByteArray) (h:s.size≤4294967296):fZ [T s]=some (.ret [I (ke s)] []):=by
 rw [tO];have hsz:s.size=(ac s).length:=rfl;by_cases h1:1≤(s.size:Int)∧(s.size:Int)≤6
 case neg =>
  have hr:ke s = -1:=by
   unfold ke rV;rw [if_neg (by rintro⟨⟨g1,g2⟩,_⟩;exact h1 (by omega))]
  rw [hr];simp -implicitDefEqProofs [eW,h1]
 have hpos:0<(ac s).length:=by omega
 have hch0:ec (T s) (I 0)=some (U ((ac s)[0].toNat:Int)):=by
  have:=dw (s:=s) (k:=.i64) (i:=0);rw [Fo hpos] at this;exact this
 have hhead:(ac s).head?=some (ac s)[0]:=by rw [List.head?_eq_getElem?,Fo hpos]
 have h48:(48:UInt8).toNat=48:=rfl;have hc48:((ac s)[0].toNat:Int)=48↔(ac s)[0]=48:=⟨fun e=>Ge.1 (by omega),fun e=>by rw [e];rfl⟩
 by_cases h2:(ac s)[0]=48∧1<(ac s).length
 ·have hr:ke s = -1:=by
   unfold ke rV;rw [if_neg (by rintro⟨_,g,_⟩;exact g ⟨by rw [hhead,h2.1],h2.2⟩)]
  have hl:(1:Int)<(s.size:Int):=by omega
  have hc:=hc48.2 h2.1;rw [hr];simp -implicitDefEqProofs [eW,h1,hch0,hc,hl]
 have hgo:∀(K:D→Option Out),((bin BinOp.eql false [] (U ((ac s)[0].toNat:Int)) (D.v (EV Fj 48))).bind fun z_3=>(aj (D.tup []) (B false) false (some z_3)).bind fun z_4=>(aj (D.tup []) z_4 true (some (T s))).bind fun z_5 =>
   (aj (D.tup []) z_4 true (lenD true z_5)).bind fun z_6=>(aj (D.tup []) z_4 true (bin BinOp.gtr false [] z_6 (D.v (EV EW 1)))).bind fun z_7=>(aj (D.tup []) (B false) false (aG z_4 z_7 (D.v (Value.bool false)))).bind K)=K (B false):=by
  intro K;by_cases e:((ac s)[0].toNat:Int)=48
  ·have:¬(1:Int)<(s.size:Int):=fun hl=>h2 ⟨hc48.1 e,by omega⟩
   simp -implicitDefEqProofs [e,this]
  ·simp -implicitDefEqProofs [e]
 simp only [cG,EU,eW,h1,and_self,decide_true,be,aN,sd,Bool.not_true,nB,EZ,if_false,hch0];have hgo':=hgo;simp only [nB,EZ,if_false,EU] at hgo';rw [hgo'];simp only [fx,EZ,if_false,EU,dJ];refine cn (fun r=>r=_) (fun(a:Nat × Nat)=>[T s,I (a.1:Int),I (a.2:Int)]) (fun a=>a.2≤s.size∧a.1=rC 0 ((ac s).take a.2)∧∀b∈(ac s).take a.2,dig b=true) (fun a=>s.size - a.2)
  (fun o=>o=if (ac s).all dig=true then .ext 0 [I (rC 0 (ac s):Int)] else .ret [I (-1)] []) ?_ (0,0) ⟨FK _,rfl,by simp⟩ rfl ?_
 ·rintro⟨n,i⟩ ⟨g1,g2,g3⟩
  simp only at g1 g2 g3;by_cases hi:i<s.size
  ·have hl:i<(ac s).length:=by rw [←hsz];exact hi
   have hi':(i:Int)<(s.size:Int):=by omega
   have hch:ec (T s) (I (i:Int))=some (U ((ac s)[i].toNat:Int)):=by
    rw [dw,Fo hl];rfl
   have htk:(ac s).take (i+1)=(ac s).take i++[(ac s)[i]]:=Fy hl;by_cases hd:dig (ac s)[i]=true
   ·left
    have hd':=kA.1 hd;have hn:n<10 ^ i:=by
     rw [g2];exact BU i _ (by rw [Fs];omega) g3
    have h10:10 ^ i≤10 ^ 6:=Nat.pow_le_pow_right (by decide) (by omega);have hw:EW.wrap ((i:Int)+1)=((i+1:Nat):Int):=by rw [aw (by omega) (by omega)];omega
    have hw1:EW.wrap (10*(n:Int))=10*(n:Int):=aw (by omega) (by omega);have hw2:Fj.wrap (((ac s)[i].toNat:Int) - 48)=((ac s)[i].toNat:Int) - 48:=AZ _ (by omega) (by omega);have hw3:EW.wrap (((ac s)[i].toNat:Int) - 48)=((ac s)[i].toNat:Int) - 48:=aw (by omega) (by omega);have hw4:EW.wrap (10*(n:Int)+(((ac s)[i].toNat:Int) - 48))=((n*10+((ac s)[i].toNat - 48):Nat):Int):=by rw [aw (by omega) (by omega)];omega
    have c1:¬((ac s)[i].toNat:Int)<48:=by omega
    have c2:¬(57:Int)<((ac s)[i].toNat:Int):=by omega
    refine⟨(n*10+((ac s)[i].toNat - 48),i+1),?_,⟨by simp only;omega,?_,?_⟩,by simp only;omega⟩
    ·simp only [aN,bJ,cG,EU,cW,hi',decide_true,dJ,if_true,hch,c1,decide_false,nB,EZ,if_false,gV,c2,fx,uR,hw1,mA,hw2,ex,hw3,dn,hw4,hw]
    ·simp only
     rw [htk,ur,g2]
    ·simp only
     rw [htk];intro b hb;rcases Gf.1 hb with hb | hb
     ·exact g3 b hb
     ·rw [FL.1 hb];exact hd
   ·right
    refine⟨.ret [I (-1)] [],?_,rfl,?_⟩
    ·by_cases c1:((ac s)[i].toNat:Int)<48
     ·simp -implicitDefEqProofs [hi',hch,c1]
     ·have c2:(57:Int)<((ac s)[i].toNat:Int):=by
       have:¬(48≤(ac s)[i].toNat∧(ac s)[i].toNat≤57):=fun e=>hd (kA.2 e)
       omega
      simp -implicitDefEqProofs [hi',hch,c1,c2]
    ·rw [if_neg]
     intro hall;exact hd (FP.1 hall _ (Fi hl))
  ·right
   have hi':¬(i:Int)<(s.size:Int):=by omega
   have hie:(ac s).take i=ac s:=List.take_of_length_le (by omega);rw [hie] at g2 g3;refine⟨.ext 0 [I (n:Int)],?_,rfl,?_⟩
   ·simp -implicitDefEqProofs [hi']
   ·rw [if_pos (FP.2 g3),g2]
 ·rintro o rfl
  by_cases ha:(ac s).all dig=true
  ·have hr:ke s=(rC 0 (ac s):Int):=by
    unfold ke rV;rw [if_pos ⟨⟨by omega,by omega⟩,fun g=>h2 ⟨by have:=g.1;rw [hhead] at this;exact Option.some.inj this,g.2⟩,ha⟩]
   rw [if_pos ha,hr];rfl
  ·have hr:ke s = -1:=by
    unfold ke rV;rw [if_neg (fun g=>ha g.2.2)]
   rw [if_neg ha,hr];rfl
theorem tK {u:Nat} (h:u<1000000):(EY u).length≤6:=mh 5 u (by omega)
theorem zK {u:Nat} (h:u<1000000):rV (EY u)=(u:Int):=by
 have h1:=hP u;have h2:=tK h;have h3:1≤(EY u).length:=FJ.2 h1;have hno:¬((EY u).head?=some 48∧1<(EY u).length):=by
  rintro⟨g1,g2⟩;by_cases hu:0<u
  ·cases hd:EY u with
   | nil=>exact h1 hd
   | cons b t =>
    rw [hd] at g1;exact sI u hu b t hd (by simpa using g1)
  ·have:u=0:=by omega
   subst this;rw [Fp (by decide)] at g2;simp at g2
 unfold rV;rw [if_pos ⟨⟨h3,h2⟩,hno,FP.2 (jx u)⟩,Bv]
theorem nX (n:Int) (h:0≤n):ac (dG n)=EY n.toNat:=by
 obtain⟨u,rfl⟩:=Ff h;rw [rY];exact iF _
theorem yS {n:Int} (h0:0≤n) (h1:n<1000000):ke (dG n)=n:=by
 unfold ke;rw [nX n h0,zK (by omega)];omega
theorem Ar {n:Int} (h0:0≤n) (h1:n<1000000):FF (ac (dG n)) = .ok n:=by
 rw [nX n h0,AR (by omega)];congr 1
 omega
theorem ru {n:Int} (h0:0≤n):ac (dG n)≠[]∧∀b∈ac (dG n),dig b=true:=by
 rw [nX n h0];exact⟨hP _,jx _⟩
theorem Ea {b:UInt8} (h:dig b=true):b.toNat<128:=by
 have:=kA.1 h;omega
theorem vS {s:ByteArray} (hs:∀b∈ac s,b.toNat<128) {ns:List Int} (hn:∀n∈ns,0≤n∧n<1000000) (h:ig none (ac s)=ns.map fun n=>ac (dG n)):gz s=ns:=by
 unfold gz;have hf:=uV s hs;rw [h] at hf;have key:∀(ws:List ByteArray) (ns:List Int) (acc:List Int),(∀n∈ns,0≤n∧n<1000000)→ws.map ac=ns.map (fun n=>ac (dG n))→me ws acc=acc++ns:=by
  intro ws;induction ws with
  | nil =>
   intro ns acc _ e;cases ns with
   | nil=>simp [me]
   | cons _ _=>simp at e
  | cons w ws ih =>
   intro ns acc hn e;cases ns with
   | nil=>simp at e
   | cons n ns =>
    rw [Fq,Fq,FG] at e;have hr:=hn n (by simp);simp only [me];rw [e.1,Ar hr.1 hr.2];simp only;rw [ih ns (acc++[n]) (fun m hm=>hn m (by simp [hm])) e.2];simp
 simpa using key _ ns [] hn hf
theorem Cr {b:UInt8} {l:List UInt8} (h:∀x∈l,dig x=true) (hb:dig b=false):b∉l:=fun hm=>by rw [h b hm] at hb;cases hb
theorem jc (c:UInt8) (s:ByteArray):∀w∈aF c s,w.size≤s.size:=by
 intro w hw;unfold aF at hw;obtain⟨l,hl,rfl⟩:=List.mem_map.1 hw;have key:∀(m:List UInt8),∀l∈bo c m,l.length≤m.length:=by
  intro m;induction m with
  | nil=>intro l hl;simp [bo] at hl;simp [hl]
  | cons x m ih =>
   intro l hl;simp only [bo] at hl;split at hl
   ·rcases FM.1 hl with rfl | hl
    ·simp
    ·have:=ih l hl
     simp;omega
   ·generalize hs:bo c m=t at hl ih
    cases t with
    | nil=>exact absurd hs (mo c m)
    | cons y t =>
     simp only [sK] at hl;rcases FM.1 hl with rfl | hl
     ·have:=ih y (by simp)
      simp;omega
     ·have:=ih l (by simp [hl])
      simp;omega
 have:=key _ l hl;rw [aO,iF];exact this
theorem tC (c:UInt8) (s:ByteArray):(aF c s).length=(bo c (ac s)).length:=by simp [aF]
set_option maxRecDepth 100000
structure Cur where
 code:List Int
 at_:Nat
 seed:Int
abbrev eV (l:List Int):D:=.arr 1 (l.map U)
abbrev bB (c:Cur):D:=.agg [eV c.code,I c.at_,.v (.int .u64 c.seed)]
structure Cur.ok (c:Cur) (B:Nat):Prop where
 by_:∀n∈c.code,0≤n∧n≤255
 len:c.code.length≤9223372036854775807
 at_:c.at_≤B
 lo:0≤c.seed
 hi:c.seed<18446744073709551616
theorem uH {k:IntKind} {n:Int}:ex (some .i64) false (.v (.int k n))=some (I (EW.wrap n)):=rfl
theorem ue {k:IntKind} {n:Int}:ex (some .u64) false (.v (.int k n))=some (.v (.int .u64 (Fa.wrap n))):=rfl
theorem yM {n:Int} {bl:Bool} {eq:List Nat}:bin .shr bl eq (.v (.int .u64 n)) (.v (.int .u64 40))=some (.v (.int .u64 (n.fdiv 1099511627776))):=by
 simp [bin,Gk]
theorem Dk {a b:Int} {bl:Bool} {eq:List Nat}:bin .and bl eq (.v (.int .u64 a)) (.v (.int .u64 b))=some (.v (.int .u64 (bits .and .u64 a b))):=by simp [bin,eS]
theorem Dw {n:Int} (h0:0≤n) (h1:n<18446744073709551616):0≤bits .and .u64 n 255∧bits .and .u64 n 255≤255:=by
 obtain⟨m,rfl⟩:=Ff h0;have:=bits_and_u64_nat m 255 (by omega) (by omega);rw [show((255:Int))=((255:Nat):Int) from rfl,this];have h2:m &&& 255≤255:=Nat.and_le_right;omega
theorem DN (n:Int):0≤Fa.wrap n∧Fa.wrap n<18446744073709551616:=by
 rw [IntKind.wrap_u64];omega
def jt (s n:Int):Int:=Fa.wrap (Fa.wrap (Fa.wrap (s*6364136223846793005)+Fa.wrap n)+1442695040888963407)
def qx (s:Int):Int:=bits .and .u64 (s.fdiv 1099511627776) 255
theorem eY (s n:Int):0≤jt s n∧jt s n<18446744073709551616:=DN _
theorem vq {s:Int} (h0:0≤s) (h1:s<18446744073709551616):0≤qx s∧qx s≤255:=by
 unfold qx;rw [Int.fdiv_eq_ediv_of_nonneg _ (by omega)];exact Dw (by omega) (by omega)
theorem Et (c:Cur) (B:Nat) (h:c.ok B) (hB:B≤1000000000000) (hc:c.at_<c.code.length):bH [bB c]=some (.ret [I c.code[c.at_]] [bB ⟨c.code,c.at_+1,jt c.seed c.code[c.at_]⟩]):=by
 have hl:=h.len;have ha:=h.at_;have hw:EW.wrap ((c.at_:Int)+1)=(c.at_:Int)+1:=aw (by omega) (by omega);have hn:=h.by_ c.code[c.at_] (Fi hc);have hv:EW.wrap c.code[c.at_]=c.code[c.at_]:=aw (by omega) (by omega);have hle:(c.at_:Int)+1≤(c.code.length:Int):=by omega
 rw [iR];simp -implicitDefEqProofs [hc,hw,hv,hle,uH,ue,jt]
theorem EE (c:Cur) (B:Nat) (h:c.ok B) (hB:B≤1000000000000) (hc:¬c.at_<c.code.length):bH [bB c]=some (.ret [I (qx (jt c.seed 0))] [bB ⟨c.code,c.at_+1,jt c.seed 0⟩]):=by
 have hl:=h.len;have ha:=h.at_;have hw:EW.wrap ((c.at_:Int)+1)=(c.at_:Int)+1:=aw (by omega) (by omega);have hle:¬(c.at_:Int)+1≤(c.code.length:Int):=by omega
 have hq:=vq (eY c.seed 0).1 (eY c.seed 0).2;have hv:EW.wrap (qx (jt c.seed 0))=qx (jt c.seed 0):=aw (by omega) (by omega);unfold qx jt at hv;rw [iR];simp -implicitDefEqProofs [hc,hw,hle,uH,ue,yM,Dk,hv,jt,qx]
theorem BD (c:Cur) (B:Nat) (h:c.ok B) (hB:B≤1000000000000):∃v c',bH [bB c]=some (.ret [I v] [bB c'])∧0≤v∧v≤255∧c'.ok (B+1):=by
 have ha:=h.at_;by_cases hc:c.at_<c.code.length
 ·have hn:=h.by_ c.code[c.at_] (Fi hc)
  exact⟨_,_,Et c B h hB hc,hn.1,hn.2,⟨h.by_,h.len,Nat.succ_le_succ ha,(eY _ _).1,(eY _ _).2⟩⟩
 ·have hq:=vq (eY c.seed 0).1 (eY c.seed 0).2
  exact⟨_,_,EE c B h hB hc,hq.1,hq.2,⟨h.by_,h.len,Nat.succ_le_succ ha,(eY _ _).1,(eY _ _).2⟩⟩
theorem dE (c:Cur) (n:Int) (B:Nat) (h:c.ok B) (hB:B≤100000000000) (hn:n≤1000000000):∃v c',am [bB c,I n]=some (.ret [I v] [bB c'])∧0≤v∧(v<n∨v=0)∧c'.ok (B+2):=by
 rw [pw];by_cases h1:n≤1
 ·exact⟨0,c,by simp [h1],by omega,.inr rfl,⟨h.by_,h.len,by have:=h.at_;omega,h.lo,h.hi⟩⟩
 obtain⟨v,c1,e1,l1,u1,k1⟩:=BD c B h (by omega);have hn0:¬n=0:=by omega
 by_cases h2:200<n
 ·obtain⟨v2,c2,e2,l2,u2,k2⟩:=BD c1 (B+1) k1 (by omega)
  have w1:EW.wrap (v*256)=v*256:=aw (by omega) (by omega);have w2:EW.wrap (v*256+v2)=v*256+v2:=aw (by omega) (by omega);refine⟨(v*256+v2).tmod n,c2,by simp [h1,h2,e1,e2,w1,w2,hn0],Int.tmod_nonneg _ (by omega),.inl (Int.tmod_lt_of_pos _ (by omega)),k2⟩
 ·refine⟨v.tmod n,c1,by simp [h1,h2,e1,hn0],Int.tmod_nonneg _ l1,.inl (Int.tmod_lt_of_pos _ (by omega)),⟨k1.by_,k1.len,by have:=k1.at_;omega,k1.lo,k1.hi⟩⟩
theorem xX (c:Cur) (n:Int) (B:Nat) (h:c.ok B) (hB:B≤100000000000) (hn:n≤1000000000):∃(b:Bool) (c':Cur),bq [bB c,I n]=some (.ret [.v (.bool b)] [bB c'])∧c'.ok (B+2):=by
 rw [qj];obtain⟨v,c1,e1,l1,u1,k1⟩:=dE c n B h hB hn;exact⟨_,c1,by simp [e1];rfl,k1⟩
abbrev xW (l:List Int):D:=.arr 1 (l.map I)
theorem xZ (c:Cur) (l:List Int) (B:Nat) (h:c.ok B) (hB:B≤100000000000) (hl:l≠[]) (hn:l.length≤1000000000):∃v c',cF [bB c,xW l]=some (.ret [I v] [bB c'])∧v∈l∧c'.ok (B+2):=by
 rw [oa];have hp:0<l.length:=FJ.2 hl;obtain⟨v,c1,e1,l1,u1,k1⟩:=dE c l.length B h hB (by omega);obtain⟨i,rfl⟩:=Ff l1;have hi:i<l.length:=by omega
 exact⟨l[i],c1,by simp [e1,hi],Fi hi,k1⟩
theorem Cur.ok.mono {c:Cur} {B C:Nat} (h:c.ok B) (hBC:B≤C):c.ok C:=⟨h.by_,h.len,FH h.at_ hBC,h.lo,h.hi⟩
theorem BC {l:List Int}:aA 1 (l.map I)=some (xW l):=by
 have:fv 1 (l.map I).length (l.map I)=true:=by
  unfold fv;simp
 simp only [aA,this,if_true]
theorem rH (l:List Int):iQ [(0,1)] [D.arr 1 [],I 0,D.v (.int .u64 0)] [eV l]=some (.agg [eV l,I 0,D.v (.int .u64 0)]):=by
 simp [iQ,qB]
structure Bytes (l:List Int):Prop where
 by_:∀n∈l,0≤n∧n≤255
 len:l.length≤9223372036854775807
theorem Bt {l:List Int} (h:Bytes l):Cur.ok ⟨l,0,0⟩ 0:=⟨h.by_,h.len,Fz _,Int.le_refl 0,show(0:Int)<18446744073709551616 by decide⟩
abbrev txs (l:List ByteArray):D:=.arr 1 (l.map T)
theorem sH {l:List ByteArray}:aA 1 (l.map T)=some (txs l):=by
 have:fv 1 (l.map T).length (l.map T)=true:=by
  unfold fv;simp
 simp only [aA,this,if_true]
theorem yO (c:Cur) (l:List ByteArray) (B:Nat) (h:c.ok B) (hB:B≤100000000000) (hl:l≠[]) (hn:l.length≤1000000000):∃v c',bz [bB c,txs l]=some (.ret [T v] [bB c'])∧v∈l∧c'.ok (B+2):=by
 rw [qN];have hp:0<l.length:=FJ.2 hl;obtain⟨v,c1,e1,l1,u1,k1⟩:=dE c l.length B h hB (by omega);obtain⟨i,rfl⟩:=Ff l1;have hi:i<l.length:=by omega
 exact⟨l[i],c1,by simp [e1,hi],Fi hi,k1⟩
theorem BX {w:ByteArray} {i:Nat} (h:i<w.size):∃b:UInt8,ec (T w) (I (i:Int))=some (U (b.toNat:Int)):=by
 have h':i<(ac w).length:=h;refine⟨(ac w)[i]'h',?_⟩
 rw [dw,Fo h'];rfl
theorem po (b:UInt8):lp (.arr 1 [U (b.toNat:Int)])=some (T ⟨#[b]⟩):=by
 have:eK [U (b.toNat:Int)]=some [b]:=by simp [eK]
 simp only [lp,this,Fg]
theorem mkU (n:Int):aA 1 [U n]=some (.arr 1 [U n]):=by simp [aA,fv]
theorem mB {a b:ByteArray} (h:a.size+b.size≤100000000):bin .add false [] (T a) (T b)=some (T (a++b)):=by
 rw [pg,if_pos (by omega)]
theorem sS (s:ByteArray) (i j:Nat):(s.extract i j).size=min j s.size - i:=by rw [ByteArray.size_extract]
theorem AO (c:Cur) (s w:ByteArray) (B:Nat) (h:c.ok B) (hB:B≤1000000000) (hs:s.size≤100000) (hw:0<w.size∧w.size≤100) :
  ∃(t:ByteArray) (c':Cur),dq [bB c,T s,T w]=some (.ret [T t] [bB c'])∧t.size≤s.size+2∧c'.ok (B+20):=by
 obtain⟨v,c1,e1,l1,u1,k1⟩:=dE c 2 B h (by omega) (by omega);obtain⟨v,rfl⟩:=Ff l1;have hw1:EW.wrap (1+(v:Int))=((1+v:Nat):Int):=by rw [aw (by omega) (by omega)];omega
 rw [mJ];simp -implicitDefEqProofs only [bQ,EU,hN,e1,be,aN,dn,hw1];refine cn (fun X=>∃t c',X=some (.ret [T t] [bB c'])∧t.size≤s.size+2∧c'.ok (B+20)) (fun a:Cur × ByteArray × Nat=>[bB a.1,T a.2.1,T w,I (a.2.2:Int)])
  (fun a=>a.1.ok (B+2+6*(2 - a.2.2))∧a.2.2≤2∧a.2.1.size+a.2.2≤s.size+2) (fun a=>a.2.2) (fun o=>∃t c',o = .ext 0 [bB c',T t]∧t.size≤s.size+2∧c'.ok (B+20)) ?_ (c1,s,1+v) ⟨k1.mono (by simp only;omega),by simp only;omega,by simp only;omega⟩ rfl ?_
 ·rintro⟨ca,t,n⟩ ⟨h1,h2,h3⟩
  simp only at h1 h2 h3;by_cases hn:0<n
  case neg =>
   have hn':¬(0:Int)<(n:Int):=by omega
   refine .inr ⟨_,?_,rfl,t,ca,rfl,by omega,h1.mono (by omega)⟩
   simp -implicitDefEqProofs only [aN,bJ,gV,hn',decide_false,EU,nT,vc,EZ,if_false,fx,dJ]
  have hn':(0:Int)<(n:Int):=by omega
  by_cases ht:0<t.size
  case neg =>
   have ht':¬(0:Int)<(t.size:Int):=by omega
   refine .inr ⟨_,?_,rfl,t,ca,rfl,by omega,h1.mono (by omega)⟩
   simp -implicitDefEqProofs only [aN,bJ,gV,hn',ht',decide_true,decide_false,cG,EU,nT,vc,EZ,if_false,if_true,fx,dJ]
  have ht':(0:Int)<(t.size:Int):=by omega
  obtain⟨i,c2,e2,l2,u2,k2⟩:=dE ca (t.size:Int) _ h1 (by omega) (by omega);obtain⟨i,rfl⟩:=Ff l2;obtain⟨j,c3,e3,l3,u3,k3⟩:=dE c2 (w.size:Int) _ k2 (by omega) (by omega);obtain⟨j,rfl⟩:=Ff l3;obtain⟨b,hb⟩:=BX (w:=w) (i:=j) (by omega);obtain⟨k,c4,e4,l4,u4,k4⟩:=dE c3 3 _ k3 (by omega) (by omega);have hwn:EW.wrap ((n:Int) - 1)=((n - 1:Nat):Int):=by rw [aw (by omega) (by omega)];omega
  have hwi:EW.wrap ((i:Int)+1)=((i+1:Nat):Int):=by rw [aw (by omega) (by omega)];omega
  have s1:bZ true 0 (T t) (I 0) (I (i:Int))=some (T (t.extract 0 i)):=sf (i:=0) (FK _) (by omega);have s2:bS true 0 (T t) (I (i:Int))=some (T (t.extract i t.size)):=pl (by omega);have s3:bS true 0 (T t) (I ((i+1:Nat):Int))=some (T (t.extract (i+1) t.size)):=pl (by omega);have z1:=sS t 0 i;have z2:=sS t i t.size;have z3:=sS t (i+1) t.size;have sb:(⟨#[b]⟩:ByteArray).size=1:=rfl;have a1:=mB (a:=t.extract 0 i) (b:=⟨#[b]⟩) (by omega);have a2:=mB (a:=t.extract 0 i++⟨#[b]⟩) (b:=t.extract i t.size) (by rw [Fm];omega);have a3:=mB (a:=t.extract 0 i++⟨#[b]⟩) (b:=t.extract (i+1) t.size) (by rw [Fm];omega);have a4:=mB (a:=t.extract 0 i) (b:=t.extract (i+1) t.size) (by omega)
  left
  by_cases q0:k=0
  ·refine⟨(c4,t.extract 0 i++⟨#[b]⟩++t.extract i t.size,n - 1),?_,⟨k4.mono (by simp only;omega),by simp only;omega,by simp only [Fm];omega⟩,by simp only;omega⟩
   simp -implicitDefEqProofs only [aN,bJ,gV,hn',ht',decide_true,cG,EU,nT,if_true,fx,dJ,bQ,hN,e2,e3,e4,be,hb,mkU,po,jg,q0,s1,s2,a1,a2,mA,hwn]
  by_cases q1:k=1
  ·refine⟨(c4,t.extract 0 i++⟨#[b]⟩++t.extract (i+1) t.size,n - 1),?_,⟨k4.mono (by simp only;omega),by simp only;omega,by simp only [Fm];omega⟩,by simp only;omega⟩
   simp -implicitDefEqProofs only [aN,bJ,gV,hn',ht',decide_true,decide_false,EZ,if_false,cG,EU,nT,if_true,fx,dJ,bQ,hN,e2,e3,e4,be,hb,mkU,po,jg,q0,q1,show ¬(1:Int)=0 by decide,s1,s3,a1,a3,mA,dn,hwi,hwn]
  ·refine⟨(c4,t.extract 0 i++t.extract (i+1) t.size,n - 1),?_,⟨k4.mono (by simp only;omega),by simp only;omega,by simp only [Fm];omega⟩,by simp only;omega⟩
   simp -implicitDefEqProofs only [aN,bJ,gV,hn',ht',decide_true,decide_false,EZ,if_false,cG,EU,nT,if_true,fx,dJ,bQ,hN,e2,e3,e4,be,hb,mkU,po,jg,q0,q1,s1,s3,a4,mA,dn,hwi,hwn]
 ·rintro o ⟨t,c',rfl,g1,g2⟩
  refine⟨t,c',?_,g1,g2⟩
  simp -implicitDefEqProofs only [iD,FY,rQ,if_true,aN,bJ,bQ,EU]
set_option maxRecDepth 100000
def dM {β:Type} (p:β→Bool):Nat→List β→Option Nat
 | _,[]=>none
 | i,x::l=>if p x=true then some i else dM p (i+1) l
theorem qg {β:Type} {body:List D→Option Out} (l:List β) (st:Nat→List D) (p:β→Bool) (o1:Nat→Out) (o2:Out) (hs:∀(i:Nat) (hi:i<l.length),body (st i)=some (if p l[i]=true then o1 i else .nrm (st (i+1)))) (he:body (st l.length)=some o2)
  (h1:∀i,(o1 i).ends=true) (h2:o2.ends=true) {s0:List D} (h:s0=st 0):aS body s0=some ((dM p 0 l).elim o2 o1):=by
 have e:∀(m:List β) (i:Nat),goL (fun i x (_:Unit)=>if p x=true then .inr (o1 i) else .inl ()) (fun _=>o2) i m ()=(dM p i m).elim o2 o1:=by
  intro m;induction m with
  | nil=>intro i;simp [goL,dM]
  | cons x m ih =>
   intro i;simp only [goL,dM];by_cases hp:p x=true
   ·simp [hp]
   ·simp [hp,ih]
 rw [←e];refine mD l (fun i _=>st i) (fun _ _=>True) _ _ (fun i x a hx _=>?_) (fun _ _=>⟨he,h2⟩) () trivial h
 have hi:i<l.length:=(FO.1 hx).1;have hxe:l[i]=x:=(FO.1 hx).2;have:=hs i hi;rw [hxe] at this;by_cases hp:p x=true
 ·simpa [hp,h1] using this
 ·simpa [hp] using this
theorem AC {a b:ByteArray} {bl:Bool} {eq:List Nat}:bin .geq bl eq (T a) (T b)=some (B (!Op.bytesLess a.toList b.toList)):=by simp [bin,lO]
def az (b:UInt8):Bool:=decide (97≤(b.toNat:Int))&&decide ((b.toNat:Int)≤122)
def ce (s:ByteArray) (lo hi:Int):Bool:=jU (fun _ b=>az b) 0 (ac s)&&decide (lo≤(s.size:Int)∧(s.size:Int)≤hi)
theorem jX (s:ByteArray) (n:Int) (h:s.size≤9223372036854775807):dy [T s,I n]=some (.ret [B (ce s 1 n)] []):=by
 rw [qh];rw [aO] at h;refine aX _ (lS (ac s) (fun i=>[T s,I n,I i]) (fun _ b=>az b) (.ret [B false] []) (.ext 0 [T s,I n]) (fun i hi=>?_) ?_ rfl rfl rfl) ?_
 ·have hw:EW.wrap ((i:Int)+1)=(i:Int)+1:=aw (by omega) (by omega)
  by_cases h1:97≤(((ac s)[i]).toNat:Int)
  ·by_cases h2:(((ac s)[i]).toNat:Int)≤122
   ·simp -implicitDefEqProofs [aO,dw,hi,hw,az,h1,h2,FI.2 h1,FI.2 h2]
   ·simp -implicitDefEqProofs [aO,dw,hi,hw,az,h1,h2,FI.2 h1,FV.1 h2]
  ·simp -implicitDefEqProofs [aO,dw,hi,hw,az,h1,FV.1 h1]
 ·simp -implicitDefEqProofs [aO]
 ·by_cases hg:jU (fun _ b=>az b) 0 (ac s)=true<;>simp -implicitDefEqProofs [hg,ce,eW]
theorem ji (s:ByteArray) (m n:Int) (h:s.size≤9223372036854775807):cV [T s,I m,I n]=some (.ret [B (ce s m n)] []):=by
 rw [pj];rw [aO] at h;refine aX _ (lS (ac s) (fun i=>[T s,I m,I n,I i]) (fun _ b=>az b) (.ret [B false] []) (.ext 0 [T s,I m,I n]) (fun i hi=>?_) ?_ rfl rfl rfl) ?_
 ·have hw:EW.wrap ((i:Int)+1)=(i:Int)+1:=aw (by omega) (by omega)
  by_cases h1:97≤(((ac s)[i]).toNat:Int)
  ·by_cases h2:(((ac s)[i]).toNat:Int)≤122
   ·simp -implicitDefEqProofs [aO,dw,hi,hw,az,h1,h2,FI.2 h1,FI.2 h2]
   ·simp -implicitDefEqProofs [aO,dw,hi,hw,az,h1,h2,FI.2 h1,FV.1 h2]
  ·simp -implicitDefEqProofs [aO,dw,hi,hw,az,h1,FV.1 h1]
 ·simp -implicitDefEqProofs [aO]
 ·by_cases hg:jU (fun _ b=>az b) 0 (ac s)=true<;>simp -implicitDefEqProofs [hg,ce,jy]
set_option maxRecDepth 100000
theorem tv0 (v:Value) (ds:List D):aL (.tup (.v v::ds)) 0=some (.v v):=rfl
theorem tv1 (a:D) (v:Value) (ds:List D):aL (.tup (a :: .v v::ds)) 1=some (.v v):=rfl
theorem ta0 (z:Nat) (l:List D) (ds:List D):aL (.tup (.arr z l::ds)) 0=some (.arr z l):=rfl
theorem ta1 (a:D) (z:Nat) (l:List D) (ds:List D):aL (.tup (a :: .arr z l::ds)) 1=some (.arr z l):=rfl
theorem tg1 (a:D) (l:List D) (ds:List D):aL (.tup (a :: .agg l::ds)) 1=some (.agg l):=rfl
theorem tc0 (a:D) (ds:List D):eT (.tup (a::ds)) 0 = .tup (.bad::ds):=rfl
theorem lB {β:Type} (p:β→Bool):∀(l:List β) (i:Nat),jU (fun _ b=>p b) i l=l.all p
 | [],_=>rfl
 | b::l,i=>by
  simp only [jU,List.all_cons];rw [lB p l (i+1)]
instance:Std.Irrefl (α:=UInt8) (·<·):=⟨UInt8.lt_irrefl⟩
instance:Trans (α:=UInt8) (β:=UInt8) (γ:=UInt8) (·<·) (·<·) (·<·):=⟨UInt8.lt_trans⟩
def ltS (a b:ByteArray):Bool:=Op.bytesLess a.toList b.toList
theorem rj {a b:ByteArray}:ltS a b=true↔ac a<ac b:=by
 unfold ltS;rw [bytesLess_eq,Lib.toList_data,Lib.toList_data,decide_eq_true_eq];rfl
theorem zE {a b c:ByteArray} (h1:ltS a b=true) (h2:ltS b c=true):ltS a c=true :=
 rj.2 (List.lt_trans (rj.1 h1) (rj.1 h2))
theorem nJ (a:ByteArray):ltS a a=false:=by
 rw [Bool.eq_false_iff];exact fun h=>List.lt_irrefl _ (rj.1 h)
theorem wI {a b:ByteArray} {bl:Bool} {eq:List Nat}:bin .lss bl eq (T a) (T b)=some (B (ltS a b)):=by simp [bin,lO,ltS]
theorem yg {a b:ByteArray} {bl:Bool} {eq:List Nat}:bin .geq bl eq (T a) (T b)=some (B (!ltS a b)):=AC
abbrev Srt:=ByteArray × Int
abbrev sr (x:Srt):D:=.agg [T x.1,I x.2]
abbrev srs (l:List Srt):D:=.arr 2 (l.map sr)
theorem fh {f:List Srt} {i:Nat} (h:i<f.length):bF 2 (srs f) (I (i:Int))=some [T f[i].1,I f[i].2]:=by simp [h]
theorem kM (a:ByteArray) (b:Int):bv true 2 [T a,I b]=some (.agg [T a,I b]):=by simp
theorem iC (c:ByteArray) (d:Int) (a:ByteArray) (b:Int):stD 2 (.agg [T c,I d]) (.ref 0 0) (.agg [T a,I b])=some (.agg [T a,I b]):=by simp
theorem eu (a:ByteArray) (b:Int):fS true 2 0 (.agg [T a,I b])=some (.agg [T a,I b]):=by simp
theorem js (a:ByteArray) (b:Int):kv 2 (.agg [T a,I b])=some (.agg [T a,I b]):=by simp
theorem gK (a:ByteArray) (b:Int):bT (.agg [T a,I b])=some (.agg [T a,I b]):=by simp
theorem nC (a c:ByteArray) (b d:Int):iQ [(0,1),(1,1)] [T a,I b] [T c,I d]=some (.agg [T c,I d]):=by simp [iQ,qB]
theorem nV (a:ByteArray) (b:Int):aA 2 [.agg [T a,I b]]=some (srs [(a,b)]):=by simp [aA,fv]
theorem hD (l:List Srt):fg (srs l)=some (srs l):=oE fun _=>rfl
theorem ee {l m:List Srt} (h:l.length+m.length≤1048577):eR 2 24 (srs l) (srs m)=some (srs (l++m)):=by
 rw [oS,if_pos (by simp only [FT];omega)];show _=some (D.arr 2 ((l++m).map sr))
 rw [Fk]
theorem oK {l:List Srt} {i:Nat} (h:i≤l.length):bZ false 2 (srs l) (I 0) (I (i:Int))=some (srs (l.take i)):=by
 simp [bZ,h]
theorem px {l:List Srt} {i:Nat} (h:i≤l.length):bS false 2 (srs l) (I (i:Int))=some (srs (l.drop i)):=by
 rw [we (by simpa using h),←List.map_drop]
def fL (x:Srt):Bool:=ce x.1 1 3&&decide (1≤x.2∧x.2≤54)
theorem tU (s:ByteArray) (h:s.size≤9223372036854775807):fY [T s]=some (.ret [B (ce s 1 3)] []):=by
 rw [tj];simp -implicitDefEqProofs only [an,Fb,Fc,Fe,ji s 1 3 h]
theorem ga (x:Srt) (h:x.1.size≤9223372036854775807):ct [sr x]=some (.ret [B (fL x)] []):=by
 rw [tE];have h1:=tU x.1 h;have h2:=jy x.2 1 54;unfold fL;cases hc:ce x.1 1 3<;>rw [hc] at h1<;>simp -implicitDefEqProofs only [an,Fb,Fc,Fe,js,h1,h2,Fv,FE]
theorem jA (x:Srt) (h:x.1.size≤9223372036854775807):dR [sr x]=some (.ret [B (fL x)] []):=by
 rw [th];have h1:=jX x.1 3 h;have h2:=eW x.2 1 54;unfold fL;cases hc:ce x.1 1 3<;>rw [hc] at h1<;>simp -implicitDefEqProofs only [an,Fb,Fc,Fe,js,h1,h2,Fv,FE]
theorem tZ (x:Srt) (h:x.1.size≤9223372036854775807):gh [sr x]=some (.ret [B (fL x)] []):=by
 rw [tv];simp -implicitDefEqProofs only [an,Fb,Fc,Fe,js,eu,jA x h]
def nxt (f:List Srt) (i:Nat) (x:Srt):Bool:=fL x&&(decide (i=0)||ltS (f.getD (i - 1) default).1 x.1)
def cr (f:List Srt):Bool:=jU (nxt f) 0 f&&decide (1≤(f.length:Int)∧(f.length:Int)≤32)
structure FIn (f:List Srt):Prop where
 ln:f.length≤1000000
 sz:∀x∈f,x.1.size≤1000000
theorem wK {body:List D→Option Out} (f:List Srt) (h:FIn f)
  (hs:∀(i:Nat) (hi:i<f.length),body [srs f,srs f,I f.length,I i]=some (if nxt f i f[i]=true then .nrm [srs f,srs f,I f.length,I ((i+1:Nat):Int)] else .ret [B false] []))
  (he:body [srs f,srs f,I f.length,I f.length]=some (.ext 0 [srs f])):aS body [srs f,srs f,I f.length,I 0]=some (if jU (nxt f) 0 f=true then .ext 0 [srs f] else .ret [B false] []) :=
 lS f (fun i=>[srs f,srs f,I f.length,I i]) (nxt f) (.ret [B false] []) (.ext 0 [srs f]) hs he rfl rfl rfl
theorem cz (f:List Srt) (h:FIn f):bu [srs f]=some (.ret [B (cr f)] []):=by
 rw [tg];have hl:=h.ln;simp -implicitDefEqProofs only [an,Fb,Fc,Fe];refine aX _ (wK f h (fun i hi=>?_) ?_) ?_
 ·have hi':(i:Int)<(f.length:Int):=by omega
  have hw:EW.wrap ((i:Int)+1)=((i+1:Nat):Int):=by rw [aw (by omega) (by omega)];omega
  have hg:=fh hi;have hsz:=h.sz _ (Fi hi);have h1:=ga f[i] (by omega);have e0:D.v (Value.string {data:={toList:=[]}})=T ⟨#[]⟩:=rfl;unfold nxt;cases hc:fL f[i]
  ·rw [hc] at h1
   simp -implicitDefEqProofs only [an,Fb,Fc,Fe,hi',hg,kM,gK,e0,iC,eu,h1,FE]
  ·rw [hc] at h1
   by_cases h0:i=0
   ·subst h0
    have hz:¬(0:Int)<((0:Nat):Int):=by decide
    simp -implicitDefEqProofs only [an,Fb,Fc,Fe,hi',hg,kM,gK,e0,iC,eu,h1,Fv,hz,Bool.true_or,hw]
   ·have hz:(0:Int)<(i:Int):=by omega
    have hwm:EW.wrap ((i:Int) - 1)=((i - 1:Nat):Int):=by rw [aw (by omega) (by omega)];omega
    have hgm:=fh (f:=f) (i:=i - 1) (by omega);have hgd:(f.getD (i - 1) default)=f[i - 1]'(by omega):=by simp [show i - 1<f.length by omega]
    rw [hgd];cases hlt:ltS (f[i - 1]'(by omega)).1 f[i].1<;>simp -implicitDefEqProofs only [an,Fb,Fc,Fe,hi',hg,kM,gK,e0,iC,eu,h1,Fv,hz,h0,Bool.false_or,hwm,hgm,yg,hlt,hw]
 ·have hlt:¬((f.length:Int)<(f.length:Int)):=by omega
  simp -implicitDefEqProofs only [an,Fb,Fc,Fe,hlt]
 ·have h2:=jy (f.length:Int) 1 32
  unfold cr;cases jU (nxt f) 0 f
  ·simp -implicitDefEqProofs only [an,Fb,Fc,Fe,jO,FE]
  ·simp -implicitDefEqProofs only [an,Fb,Fc,Fe,h2,Fv]
theorem dh (f:List Srt) (h:FIn f):bG [srs f]=some (.ret [B (cr f)] []):=by
 rw [ua];have hl:=h.ln;simp -implicitDefEqProofs only [an,Fb,Fc,Fe];refine aX _ (wK f h (fun i hi=>?_) ?_) ?_
 ·have hi':(i:Int)<(f.length:Int):=by omega
  have hw:EW.wrap ((i:Int)+1)=((i+1:Nat):Int):=by rw [aw (by omega) (by omega)];omega
  have hg:=fh hi;have hsz:=h.sz _ (Fi hi);have h1:=jA f[i] (by omega);have e0:D.v (Value.string {data:={toList:=[]}})=T ⟨#[]⟩:=rfl;unfold nxt;cases hc:fL f[i]
  ·rw [hc] at h1
   simp -implicitDefEqProofs only [an,Fb,Fc,Fe,hi',hg,kM,gK,e0,iC,eu,h1,FE]
  ·rw [hc] at h1
   by_cases h0:i=0
   ·subst h0
    have hz:¬(0:Int)<((0:Nat):Int):=by decide
    simp -implicitDefEqProofs only [an,Fb,Fc,Fe,hi',hg,kM,gK,e0,iC,eu,h1,Fv,hz,Bool.true_or,hw]
   ·have hz:(0:Int)<(i:Int):=by omega
    have hwm:EW.wrap ((i:Int) - 1)=((i - 1:Nat):Int):=by rw [aw (by omega) (by omega)];omega
    have hgm:=fh (f:=f) (i:=i - 1) (by omega);have hgd:(f.getD (i - 1) default)=f[i - 1]'(by omega):=by simp [show i - 1<f.length by omega]
    rw [hgd];cases hlt:ltS (f[i - 1]'(by omega)).1 f[i].1<;>simp -implicitDefEqProofs only [an,Fb,Fc,Fe,hi',hg,kM,gK,e0,iC,eu,h1,Fv,hz,h0,Bool.false_or,hwm,hgm,yg,hlt,hw]
 ·have hlt:¬((f.length:Int)<(f.length:Int)):=by omega
  simp -implicitDefEqProofs only [an,Fb,Fc,Fe,hlt]
 ·have h2:=eW (f.length:Int) 1 32
  unfold cr;cases jU (nxt f) 0 f
  ·simp -implicitDefEqProofs only [an,Fb,Fc,Fe,jO,FE]
  ·simp -implicitDefEqProofs only [an,Fb,Fc,Fe,h2,Fv]
end Go.Proofs.YtioabeglbjlndaaGreatDoor

end
