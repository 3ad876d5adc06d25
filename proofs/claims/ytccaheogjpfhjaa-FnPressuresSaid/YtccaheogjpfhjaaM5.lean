/-
  A part of the proof: contracts and plain forms of functions beneath the statement, made small by a program (names shortened, what is not needed left out).
-/
import Derived.Test.YtccaheogjpfhjaaRows
import Derived.Test.YtccaheogjpfhjaaM4
import Derived.Deep.Cut
import Derived.Deep.RegionHeld
import Derived.Handy
import Derived.OwnWalk
import Derived.Maps.AppendAt
import Derived.Lib.Builder
import Derived.BigCall
import Derived.WalkKit
import Derived.Deep.RegionHeld3
import Derived.BigQuiet
open List renaming setIfInBounds_toArray → Ix, set_cons_zero → Iy, set_cons_succ → Iz, replicate → IB, length_replicate → IH, getElem?_eq_some_iff → II, getElem?_eq_getElem → IM, getElem?_append_right → Jc, getElem?_append_left → Jd, mem_singleton → Jh, getElem_mem → Jj
open Go.Act renaming put → IA
open Nat renaming le_refl → IC, le_trans → IF, lt_of_lt_of_le → IJ, lt_trans → Ja, zero_le → Jb
open Go.AllReadyH renaming cons → ID, nil → IG
open Go.World renaming grownBy_alloc → IE
open Array renaming getElem?_eq_some_iff → IK, replicate → IP
open Option.some renaming injEq → IL, inj → Jl
open Go.Value renaming int → IQ, ownBlock → IW
open Go.RowKit.Below renaming refl → IU
open Int renaming toNat_of_nonneg → IV, toNat_natCast → Ji
open Go.Value.slice renaming injEq → IX
open Go.Region renaming wanted → IY, ready → Jm
open Bool renaming and_eq_true → IZ
open Go.Lib renaming cell_of_heap → Je
open Classical renaming propDecidable → Jf
open Go.Addr.mk renaming injEq → Jg
open Option renaming bind_some → Jk
open Go.IntKind renaming i64 → Jn
set_option maxRecDepth 100000
set_option linter.unusedSimpArgs false
set_option linter.unusedVariables false
noncomputable section
namespace Go.Proofs.Ytccaheogjpfhjaa
open Go.V
set_option maxRecDepth 100000
theorem fV:Try.prog.follows .mixedOrders=true:=by kernel_rfl
theorem aG {c:Cx} {S:FS} {f:FuncId} {fn:Func} (hS:∀f S,bR c.S f=some S→ay c.G Try.prog f S) (hf:Try.prog.funcs[f]?=some fn) (hres:c.res=fn.results.toList) (hF:S.f=bD c fn)
  (hb:(okT Try.prog c.T&&(!(fn.name== "runtime.NumGoroutine")&&Bk c fn S.pm S.rm))=true):ay c.G Try.prog f S:=by
 obtain⟨pm,rm,g⟩:=S;cases hF;simp only [IZ,Bool.not_eq_true'] at hb;exact vC hb.1 hS fV hf hb.2.1 hb.2.2 hres
@[reducible] def ty3:TI:={n:=1,zero:=[.v (.int .i64 0)],ik:=some .i64}
@[reducible] def ty4:TI:={n:=1,zero:=[.v (.bool false)],bl:=true}
@[reducible] def ty5:TI:={n:=1,zero:=[.v (.int .u8 0)],ik:=some .u8}
@[reducible] def Fv:TI:={n:=1,zero:=[.arr 1 []],elem:=5,ez:=1,eb:=1}
@[reducible] def td:TI:={n:=1,zero:=[.arr 2 []],elem:=81,ez:=2,eb:=16}
@[reducible] def sq:TI:={n:=1,zero:=[.arr 4 []],elem:=34,ez:=4,eb:=32}
@[reducible] def dH:TI:={n:=1,zero:=[.arr 1 []],elem:=3,ez:=1,eb:=8}
@[reducible] def rS:TI:={agg:=true,n:=4,zero:=[.v (.int .i64 0),.v (.int .i64 0),.v (.int .i64 0),.v (.bool false)],fs:=[(0,3),(1,3),(2,3),(3,4)],eq:=[1,1,1,2]}
@[reducible] def GQ:TI:={n:=1,zero:=[.v (.int .u64 0)],ik:=some .u64}
@[reducible] def GW:TI:={agg:=true,n:=3,zero:=[.arr 1 [],.v (.int .i64 0),.v (.int .u64 0)],fs:=[(0,22),(1,3),(2,41)]}
@[reducible] def Do:TI:={n:=1,zero:=[.arr 1 []],elem:=26,ez:=1,eb:=24}
@[reducible] def Gy:TI:={n:=1,zero:=[.mp []],mp:=true}
@[reducible] def vb:TI:={agg:=true,n:=2,zero:=[.v (.int .i64 0),.v (.int .i64 0)],fs:=[(0,3),(1,3)],eq:=[1,1]}
@[reducible] def It:TI:={n:=1,zero:=[.arr 1 []],elem:=4,ez:=1,eb:=1}
@[reducible] def pM:Cx:={K:=[Y,Y,Y,.no,.no,.no,Y,Y,Y,Y,Y,Y,Y,Y,Y],T:=[(3,ty3)],S:=[],H:=[],res:=[.tmp 6],ios:=[],G:=gl0}
def eS:List D→Option Out:=bD pM Try.f56
@[reducible] def lK:FS:={pm:=[Y,Y,Y],rm:=[Y],f:=eS}
theorem lN:ay gl0 Try.prog 56 lK:=aG (c:=pM) aw Try.func56 rfl rfl (by kernel_rfl)
@[reducible] def kW:Cx:={K:=[Y,.no,Y,Y,Y],T:=[],S:=[(56,lK)],H:=[],res:=[.tmp 2],ios:=[],G:=gl0}
def cz:List D→Option Out:=bD kW Try.f53
@[reducible] def kp:FS:={pm:=[Y],rm:=[Y],f:=cz}
theorem kY:ay gl0 Try.prog 53 kp:=aG (c:=kW) (ac lN aw) Try.func53 rfl rfl (by kernel_rfl)
@[reducible] def mB:Cx:={K:=[Yc,.no,Y,.no,.box 2 0 false,Yc,Y,Y,Y,Yc,Y,Yr 4,Y,Y,Y,Y,Yr 4,Y,Y,Y,Y,Y,Yc,Y,Y],T:=[(3,ty3),(24,td),(81,vb)],S:=[(53,kp)],H:=[(0,([0,5,6,7],[0]))],res:=[.tmp 2],ios:=[],G:=gl0}
def fv:List D→Option Out:=bD mB Try.f54
@[reducible] def sG:FS:={pm:=[Yc],rm:=[Y],f:=fv}
theorem sj:ay gl0 Try.prog 54 sG:=aG (c:=mB) (ac kY aw) Try.func54 rfl rfl (by kernel_rfl)
@[reducible] def pU:Cx:={K:=[Yc,Y,.no,.box 4 0 false,Y,Y,.box 2 0 false,Yc,Yr 3,Y,Yc,Y,Yr 3,Y,Yr 6,Y,Yr 6,Y,Yr 6,Y,Yr 6,Y],T:=[(3,ty3),(4,ty4),(24,td),(34,rS),(81,vb)],S:=[],H:=[],res:=[.tmp 4,.tmp 5],ios:=[],G:=gl0}
def je:List D→Option Out:=bD pU Try.f72
@[reducible] def pV:FS:={pm:=[Yc,Y],rm:=[Y,Y],f:=je}
theorem qa:ay gl0 Try.prog 72 pV:=aG (c:=pU) aw Try.func72 rfl rfl (by kernel_rfl)
@[reducible] def pK:Cx:={K:=[Yc,Yc,Y,.no,.no,.box 4 0 false,Y,Y,Y,Y,Y,.tup [Y,Y],Yc,Y,.tup [Y,Y],Y,Y,Yr 5,Y,Y,Y,Yr 5,Y,Y,Y,Y,Yr 5,Y,Y,Y,Yc,Yc,Yc,Y,Y,Y,Y,Yr 5,Y,Y,Y,Yc,Y,Y,Y,Yr 5,Y,Y,Yr 5,Y,Y,Y,Y,Y,Y,Yr 5,Y,Y,Yr 5,Y,Y,Y,Y,Y,Y,Yc,Y,Yc,Yc,Y,Yc,Y,Y],T:=[(3,ty3),(4,ty4),(26,dH),(34,rS),(46,Do)],S:=[(72,pV)],H:=[(0,([0,5,7,8,9],[])),(2,([0,5,7,8,9,10],[0,5,7,8,9]))],res:=[.tmp 6],ios:=[],G:=gl0}
def jd:List D→Option Out:=bD pK Try.f57
@[reducible] def wk:FS:={pm:=[Yc,Yc,Y],rm:=[Y],f:=jd}
theorem wl:ay gl0 Try.prog 57 wk:=aG (c:=pK) (ac qa aw) Try.func57 rfl rfl (by kernel_rfl)
@[reducible] def mx:Cx:={K:=[Yc,Y,Y,.no,.no,.no,Y,Y,Y,Yc,Y,Y,Y,Y,Yc,Y,Y,Y,Y,Y,Y,Y,Y,Y,Y,Yc,Y,Y,Yc,Y,Y,Y,Y,Y,Y],T:=[(3,ty3),(26,dH)],S:=[(56,lK)],H:=[(0,([0,1,2,9,10,11],[]))],res:=[.tmp 6],ios:=[],G:=gl0}
def cA:List D→Option Out:=bD mx Try.f31
@[reducible] def fD:FS:={pm:=[Yc,Y,Y],rm:=[Y],f:=cA}
theorem iM:ay gl0 Try.prog 31 fD:=aG (c:=mx) (ac lN aw) Try.func31 rfl rfl (by kernel_rfl)
@[reducible] def me:Cx:={K:=[Yc,Y,.no,.no,Y,.no,.box 4 0 false,Yc,Y,Y,Y,Yc,Y,Yr 6,Y,Y,Y,Y],T:=[(3,ty3),(4,ty4),(25,sq),(34,rS)],S:=[],H:=[(0,([1,7,8,9],[]))],res:=[.tmp 4],ios:=[],G:=gl0}
def ee:List D→Option Out:=bD me Try.f40
@[reducible] def iT:FS:={pm:=[Yc,Y],rm:=[Y],f:=ee}
theorem mb:ay gl0 Try.prog 40 iT:=aG (c:=me) aw Try.func40 rfl rfl (by kernel_rfl)
@[reducible] def nP:Cx:={K:=[Yc,Y,.no,.no,Yb,.mpo,.no,Yc,Y,Y,.mpo,Yc,Y,Y,Y,Yc,Yc,Y,Y,Yc,Y,Y,Y,Y,Yc,Y,Y,Yc,Y,Yc,Y,Yc,Y,Y,Y,Y,Y,Y,Y,Y,Y,Y,Y,Y,.via 5,Y,Y,.via 5],T:=[(3,ty3),(26,dH),(46,Do),(55,Gy)],S:=[],H:=[(0,([1,5,11,12,13],[5])),(2,([1,5,7,8,11,12,13],[1,5,11,12,13]))],res:=[.tmp 4],ios:=[],G:=gl0}
def fh:List D→Option Out:=bD nP Try.f41
@[reducible] def kD:FS:={pm:=[Yc,Y],rm:=[Yb],f:=fh}
theorem og:ay gl0 Try.prog 41 kD:=aG (c:=nP) aw Try.func41 rfl rfl (by kernel_rfl)
@[reducible] def nD:Cx:={K:=[Yc,Yc,.no,.no,Yb,.mpo,.no,Y,Y,Y,.no,Yc,Y,.mpo,Yc,Y,Y,Y,Yc,Y,Yc,Y,Yc,Yc,Yc,Y,Yc,Yc,Y,Y,Yc,Y,Y,Y,.via 5,Y,Y,Y,Yc,Y,Y,Y,Yc,Yc,Y,Y,Yc,Y,Y,Y,Y,Yc,Y,Yc,Y,Y,Y,.via 5,Yc,Y,Y,Yc,Y,Y,Y,Y,.via 5,Yc,Y,Yc,Y,Y,Y,Y,.via 5,Yc,Y,Yc,Y,Y,.via 5],T:=[(3,ty3),(26,dH),(46,Do),(55,Gy)],S:=[],H:=[(0,([0,5,14,15,16],[0,5])),(2,([0,5,9],[5])),(4,([0,5,9,38,39,40],[0,5,9])),(6,([0,5,9,11,12,38,39,40],[0,5,9,38,39,40]))],res:=[.tmp 4],ios:=[],G:=gl0}
def cE:List D→Option Out:=bD nD Try.f33
@[reducible] def fe:FS:={pm:=[Yc,Yc],rm:=[Yb],f:=cE}
theorem gS:ay gl0 Try.prog 33 fe:=aG (c:=nD) aw Try.func33 rfl rfl (by kernel_rfl)
@[reducible] def sM:Cx:={K:=[Y,Y,Y,.no,.no,.no,Y,Y,Y,Y,Y,Y,Y,Y,Y],T:=[(3,ty3)],S:=[],H:=[],res:=[.tmp 6],ios:=[],G:=gl0}
def fq:List D→Option Out:=bD sM Try.f60
@[reducible] def lI:FS:={pm:=[Y,Y,Y],rm:=[Y],f:=fq}
theorem nH:ay gl0 Try.prog 60 lI:=aG (c:=sM) aw Try.func60 rfl rfl (by kernel_rfl)
@[reducible] def pP:Cx:={K:=[Y,.no,Y,Y,Y],T:=[],S:=[(60,lI)],H:=[],res:=[.tmp 2],ios:=[],G:=gl0}
def cC:List D→Option Out:=bD pP Try.f66
@[reducible] def jf:FS:={pm:=[Y],rm:=[Y],f:=cC}
theorem lY:ay gl0 Try.prog 66 jf:=aG (c:=pP) (ac nH aw) Try.func66 rfl rfl (by kernel_rfl)
@[reducible] def nt:Cx:={K:=[Yc,.no,Y,.no,.box 2 0 false,Yc,Y,Y,Y,Yc,Y,Yr 4,Y,Y,Y,Y,Yr 4,Y,Y,Y,Y,Y,Yc,Y,Y],T:=[(3,ty3),(24,td),(81,vb)],S:=[(66,jf)],H:=[(0,([0,5,6,7],[0]))],res:=[.tmp 2],ios:=[],G:=gl0}
def fZ:List D→Option Out:=bD nt Try.f68
@[reducible] def nl:FS:={pm:=[Yc],rm:=[Y],f:=fZ}
theorem tw:ay gl0 Try.prog 68 nl:=aG (c:=nt) (ac lY aw) Try.func68 rfl rfl (by kernel_rfl)
@[reducible] def oa:Cx:={K:=[Y,Y,Yc,.no,.no,.no,Y,Y,Y,Y,Y,Y,Y,Y,Yc,Y,Y],T:=[],S:=[(66,jf),(68,nl)],H:=[],res:=[.tmp 6],ios:=[],G:=gl0}
def fm:List D→Option Out:=bD oa Try.f48
@[reducible] def kK:FS:={pm:=[Y,Y,Yc],rm:=[Y],f:=fm}
theorem nT:ay gl0 Try.prog 48 kK:=aG (c:=oa) (ac lY (ac tw aw)) Try.func48 rfl rfl (by kernel_rfl)
@[reducible] def nG:Cx:={K:=[Y,Y,.box 2 0 false,.no,Y,Y,Y,Yr 2,Y,Yr 2,Y,Yr 2,Y,Yr 2,Y],T:=[(3,ty3),(81,vb)],S:=[],H:=[],res:=[.tmp 4,.tmp 5],ios:=[],G:=gl0}
def fo:List D→Option Out:=bD nG Try.f61
@[reducible] def kM:FS:={pm:=[Y,Y],rm:=[Y,Y],f:=fo}
theorem nL:ay gl0 Try.prog 61 kM:=aG (c:=nG) aw Try.func61 rfl rfl (by kernel_rfl)
@[reducible] def qb:Cx:={K:=[Y,Y,Yc,Yc,.no,.no,.no,.no,Yo 1 0,Y,Yo 1 0,Y,Y,.no,.box 4 0 false,Y,Y,Y,Y,Y,Y,Y,Y,Yo 1 0,.via 10,Y,Y,Y,Y,.via 10,Y,Yr 10,Y,Yc,Y,Y,Y,Yc,Y,Yr 14,Y,Y,Y,Y,Yr 14,Y,Yc,Y,Y,Y,Y,Yr 14,Y,Y,Y,Y,Y,Y,Y,Yr 14,Y,Y,Y,Y,Y,Y,Yr 14,Y,.tup [Y,Y],Yc,Yr 14,Y,Yc,Y,Yr 14,Y,.tup [Y,Y],Y,Y,Yr 14,Y,Y,Y,Y,Y,Y,Yr 14,Y,Y,Y,Y,Y,Y,Y,Y,Y,Y,Y,Y,Y,Y,Y,Y,Yr 14,Y,Y,Y,Y,Y,Yr 14,Y,Y,Y,Y,.via 10,Y,Yr 10,Y,Y,.via 10,Y,Yr 14,Y,Yr 10,Y,Yo 1 0],T:=[(3,ty3),(4,ty4),(24,td),(25,sq),(26,dH),(34,rS),(81,vb)],S:=[(60,lI),(61,kM)],H:=[(0,([0,1,2,3,10,25,26],[0,1,2,3,10])),(2,([0,1,2,10,12,33,34,35],[10])),(4,([0,1,2,10,12,14,15,16,17,33,34,35],[0,1,2,10,12,33,34,35])),(6,([0,1,2,10,12,14,15,16,17,18,33,34,35],[0,1,2,10,12,14,15,16,17,33,34,35]))],res:=[.tmp 8,.tmp 9],ios:=[],G:=gl0}
def bM:List D→Option Out:=bD qb Try.f36
@[reducible] def cZ:FS:={pm:=[Y,Y,Yc,Yc],rm:=[Yo 1 0,Y],f:=bM}
theorem dR:ay gl0 Try.prog 36 cZ:=aG (c:=qb) (ac nH (ac nL aw)) Try.func36 rfl rfl (by kernel_rfl)
@[reducible] def nS:Cx:={K:=[Y,Y,Yc,Yc,.no,.no,.no,.no,Y,Yb,Y,Y,Y,Yc,Y,Y,.tup [Yo 1 0,Y],Y,Y,Yc,Yc,.tup [Yo 1 0,Y],Yb,Y,Y],T:=[],S:=[(36,cZ),(48,kK)],H:=[],res:=[.tmp 8],ios:=[],G:=gl0}
def bB:List D→Option Out:=bD nS Try.f34
@[reducible] def dm:FS:={pm:=[Y,Y,Yc,Yc],rm:=[Y],f:=bB}
theorem eg:ay gl0 Try.prog 34 dm:=aG (c:=nS) (ac dR (ac nT aw)) Try.func34 rfl rfl (by kernel_rfl)
@[reducible] def rv:Cx:={K:=[Yc,Y,.no,.no,Yc,Y,Yo 1 0,Y,Yc,Y,Y,Y,Yc,Y,Yc,Y,Y,Y,Y,Y,Y,Y,Yc,Y,Y,Y,Yc,Y,Yc,Y,Y,Y,Y,Yc,Yo 1 0,Yc,Y,Yc,Yo 1 0,Yo 1 0,Y,Yb,Yo 1 0,Yo 1 0,Yc,Y,Yc,Yc],T:=[(3,ty3),(26,dH)],S:=[],H:=[(0,([0,1,5],[0,1,5]))],res:=[.tmp 4],ios:=[],G:=gl0}
def dI:List D→Option Out:=bD rv Try.f62
@[reducible] def im:FS:={pm:=[Yc,Y],rm:=[Yc],f:=dI}
theorem jU:ay gl0 Try.prog 62 im:=aG (c:=rv) aw Try.func62 rfl rfl (by kernel_rfl)
@[reducible] def qE:Cx:={K:=[Yc,Y,.no,.no,Y,.no,Y,Yc,Y,Y,Y,Yc,Y,Y,Y,Y,Y],T:=[(3,ty3),(26,dH)],S:=[],H:=[(0,([1,7,8,9],[]))],res:=[.tmp 4],ios:=[],G:=gl0}
def bP:List D→Option Out:=bD qE Try.f52
@[reducible] def iv:FS:={pm:=[Yc,Y],rm:=[Y],f:=bP}
theorem jZ:ay gl0 Try.prog 52 iv:=aG (c:=qE) aw Try.func52 rfl rfl (by kernel_rfl)
@[reducible] def ni:Cx:={K:=[Yc,Y,Y,Y,Y,Y,.no,.no,.no,.no,.no,.no,Yc,Yc,Y,Y,Y,Y,Y,Y,Y,Y,Y,Y,Y,Y,Y,Y,Y,Y,Y,Yc,Y,Y,Y,Y,Y,Y,Y,Y,Y,Yc,Y,Yc,Y,Y,Y,Y,Y,Yc,Y,Y,Y,Y,Y,Y,Y,Y,Y,Y,Y,Y,Yc,Y,Yc,Yc],T:=[(3,ty3),(26,dH)],S:=[(62,im)],H:=[(0,([0,1,2,3,4,5,13,14],[13])),(2,([0,1,2,3,4,5,13,14,15],[0,1,2,3,4,5,13,14]))],res:=[.tmp 12],ios:=[],G:=gl0}
def cN:List D→Option Out:=bD ni Try.f43
@[reducible] def ga:FS:={pm:=[Yc,Y,Y,Y,Y,Y],rm:=[Yc],f:=cN}
theorem jE:ay gl0 Try.prog 43 ga:=aG (c:=ni) (ac jU aw) Try.func43 rfl rfl (by kernel_rfl)
@[reducible] def nw:Cx:={K:=[Yc,Y,Y,Yc,Y,Y,.no,.no,.no,.no,.no,.no,Yc,Y,.no,Y,.no,Y,Y,Yc,Y,Y,Y,Yc,Y,Y,Y,Y,Yc,Y,Y,Y,Yc,Y,Y,Y,Y,Y,Yc,Y,Y,Y,Yc,Y,Yc,Y,Y,Yc,Y,Yc,Y,Y,Yc],T:=[(3,ty3),(26,dH)],S:=[(43,ga),(52,iv),(62,im)],H:=[(0,([0,1,2,3,4,5,13],[3])),(2,([0,1,2,3,4,5,13,19,20,21],[0,1,2,3,4,5,13])),(4,([0,1,2,3,4,5,13,15,19,20,21,38,39,40],[0,1,2,3,4,5,13,19,20,21]))],res:=[.tmp 12],ios:=[],G:=gl0}
def eH:List D→Option Out:=bD nw Try.f63
@[reducible] def jw:FS:={pm:=[Yc,Y,Y,Yc,Y,Y],rm:=[Yc],f:=eH}
theorem nj:ay gl0 Try.prog 63 jw:=aG (c:=nw) (ac jE (ac jZ (ac jU aw))) Try.func63 rfl rfl (by kernel_rfl)
@[reducible] def ov:Cx:={K:=[Yc,Y,Y,Yc,.no,.no,.no,.no,Yc,Yc,.no,Y,Y,Yc,Y,Y,Y,Yc,Y,Yc,Y,Y,Y,Y,Y,Y,Yc,Y,Y,Y,Yc,Y,Yc,Y,Yc,Y,Y,Yc,Yc],T:=[(3,ty3),(26,dH)],S:=[(62,im),(63,jw)],H:=[(0,([0,1,2,9,13,14,15],[0,1,2,9]))],res:=[.tmp 8],ios:=[],G:=gl0}
def dr:List D→Option Out:=bD ov Try.f37
@[reducible] def iz:FS:={pm:=[Yc,Y,Y,Yc],rm:=[Yc],f:=dr}
theorem ku:ay gl0 Try.prog 37 iz:=aG (c:=ov) (ac jU (ac nj aw)) Try.func37 rfl rfl (by kernel_rfl)
@[reducible] def ot:Cx:={K:=[Yc,Y,Y,Yc,.no,.no,.no,.no,Yc,Yc,.no,Y,Y,Yc,Y,Y,Y,Yc,Y,Yc,Y,Y,Y,Y,Y,Y,Yc,Y,Y,Y,Yc,Y,Yc,Y,Yc,Y,Y,Yc,Yc],T:=[(3,ty3),(26,dH)],S:=[(62,im),(63,jw)],H:=[(0,([0,1,2,9,13,14,15],[0,1,2,9]))],res:=[.tmp 8],ios:=[],G:=gl0}
def dl:List D→Option Out:=bD ot Try.f39
@[reducible] def iB:FS:={pm:=[Yc,Y,Y,Yc],rm:=[Yc],f:=dl}
theorem kG:ay gl0 Try.prog 39 iB:=aG (c:=ot) (ac jU (ac nj aw)) Try.func39 rfl rfl (by kernel_rfl)
@[reducible] def rp:Cx:={K:=[Yc,.no,Yo 1 0,Yo 1 0,Yc,Yo 1 0],T:=[(3,ty3),(26,dH)],S:=[],H:=[],res:=[.tmp 2],ios:=[],G:=gl0}
def cD:List D→Option Out:=bD rp Try.f74
@[reducible] def jY:FS:={pm:=[Yc],rm:=[Yo 1 0],f:=cD}
theorem nf:ay gl0 Try.prog 74 jY:=aG (c:=rp) aw Try.func74 rfl rfl (by kernel_rfl)
@[reducible] def nq (k:List D→Option Out):Cx:={K:=[Yc,Y,Y,Y,Y,Yc,Y,Y,.no,.no,.no,.no,.no,.no,.no,.no,Yc,Y,Y,Y,Yc,Y,Yc,Y,Y,Y,Y,Yc,Yc,Y,Y,Yc,Yc,Y,Y,Y,Yc,Yc,Y,Y,Yc,Yc,Y,Y,Y,Yc,Y,Y,Yc,Yc,Y,Y,Yc,Y,Y,Y,Y,Y,Y,Y,Y,.tup [Yc,Y],Yc,Y,Y,Y,Y,Yc,Yo 1 0,Y,Yb,Yb,Y,Y,.tup [Yc,Y],Yc,Y,Y,Yc],T:=[(3,ty3),(26,dH)],S:=[(37,iz),(39,iB),(65,{pm:=[Yc,Y,Y,Y,Y,Yc,Y,Y],rm:=[Yc,Y],f:=k}),(74,jY)],H:=[(0,([0,1,2,3,4,5,6,7,19],[]))],res:=[.tmp 16,.tmp 17],ios:=[],G:=gl0}
def bq:Nat→List D→Option Out
 | 0,_=>none
 | n+1,ds=>bD (nq (bq n)) Try.f65 ds
def eK:List D→Option Out:=yp bq
@[reducible] def gf:FS:={pm:=[Yc,Y,Y,Y,Y,Yc,Y,Y],rm:=[Yc,Y],f:=eK}
theorem mu:∀n:Nat,ay gl0 Try.prog 65 {pm:=[Yc,Y,Y,Y,Y,Yc,Y,Y],rm:=[Yc,Y],f:=bq n}
 | 0=>uq (fun _=>rfl)
 | n+1=>by
  have ih:=mu n;exact vC (P:=Try.prog) (c:=nq (bq n)) (fn:=Try.f65) (pm:=gf.pm) (rm:=gf.rm) (by kernel_rfl) (ac ku (ac kG (ac ih (ac nf aw)))) fV Try.func65 (by kernel_rfl) (by kernel_rfl) rfl
theorem tg:ay gl0 Try.prog 65 gf:=xe mu
@[reducible] def oJ:Cx:={K:=[Y,Y,Yc,Yc,Y,.no,.no,.no,.no,.no,Yc,Y,Yb,Y,Y,Y,Yc,Y,Y,Y,Yc,Yc,Y,Y,.tup [Yo 1 0,Y],Y,Y,Yc,Yc,.tup [Yo 1 0,Y],Yb,Y,Y,Y,Y,Y,Y,Y,Y,Y,.tup [Yc,Y],Yb,Y,Y,Y,Yc,Y,Y,Y,.tup [Yc,Y],Yc,Y,Y,Yc],T:=[(3,ty3),(25,sq),(26,dH),(34,rS)],S:=[(34,dm),(36,cZ),(65,gf)],H:=[(0,([0,1,3,4,12,14,15],[]))],res:=[.tmp 10,.tmp 11],ios:=[],G:=gl0}
def fi:List D→Option Out:=bD oJ Try.f45
@[reducible] def kh:FS:={pm:=[Y,Y,Yc,Yc,Y],rm:=[Yc,Y],f:=fi}
theorem nC:ay gl0 Try.prog 45 kh:=aG (c:=oJ) (ac eg (ac dR (ac tg aw))) Try.func45 rfl rfl (by kernel_rfl)
@[reducible] def fH:Cx:={K:=[Y,Y,Yc,Yc,.no,.no,.no,.no,Yc,Y,Y,Y,Yc,Yc,.tup [Yc,Y],Yc,Y],T:=[(26,dH)],S:=[(45,kh)],H:=[],res:=[.tmp 8,.tmp 9],ios:=[],G:=gl0}
def aZ:List D→Option Out:=bD fH Try.f22
@[reducible] def dz:FS:={pm:=[Y,Y,Yc,Yc],rm:=[Yc,Y],f:=aZ}
theorem fJ:ay gl0 Try.prog 22 dz:=aG (c:=fH) (ac nC aw) Try.func22 rfl rfl (by kernel_rfl)
@[reducible] def ln:Cx:={K:=[Y,Y,Yc,Yc,.no,.no,.no,.no,Yc,Y,Y,Y,Yc,Yc,.tup [Yc,Y],Yc,Y],T:=[(26,dH)],S:=[(45,kh)],H:=[],res:=[.tmp 8,.tmp 9],ios:=[],G:=gl0}
def cf:List D→Option Out:=bD ln Try.f20
@[reducible] def il:FS:={pm:=[Y,Y,Yc,Yc],rm:=[Yc,Y],f:=cf}
theorem lA:ay gl0 Try.prog 20 il:=aG (c:=ln) (ac nC aw) Try.func20 rfl rfl (by kernel_rfl)
@[reducible] def nk:Cx:={K:=[Yc,Y,Y,.no,.no,.no,Y,Y,Y,Yc,Y,Y,Y,Y,Yc,Y,Y,Y,Y,Y,Y,Y,Y,Y,Y,Yc,Y,Y,Yc,Y,Y,Y,Y,Y,Y],T:=[(3,ty3),(26,dH)],S:=[(60,lI)],H:=[(0,([0,1,2,9,10,11],[]))],res:=[.tmp 6],ios:=[],G:=gl0}
def cQ:List D→Option Out:=bD nk Try.f35
@[reducible] def fX:FS:={pm:=[Yc,Y,Y],rm:=[Y],f:=cQ}
theorem jy:ay gl0 Try.prog 35 fX:=aG (c:=nk) (ac nH aw) Try.func35 rfl rfl (by kernel_rfl)
@[reducible] def oQ:Cx:={K:=[Y,Y,Yc,Yc,Yc,Yc,.no,.no,.no,.no,.no,.no,Y,Y,Y,Yc,Yc,Y,Y,Yc,Y,Y,Y,Y,Y,Yc,Y,Y,Y,Y],T:=[(3,ty3)],S:=[(34,dm),(35,fX)],H:=[],res:=[.tmp 12],ios:=[],G:=gl0}
def gW:List D→Option Out:=bD oQ Try.f28
@[reducible] def oI:FS:={pm:=[Y,Y,Yc,Yc,Yc,Yc],rm:=[Y],f:=gW}
theorem vE:ay gl0 Try.prog 28 oI:=aG (c:=oQ) (ac eg (ac jy aw)) Try.func28 rfl rfl (by kernel_rfl)
@[reducible] def nQ:Cx:={K:=[Y,Y,Yc,Yc,Yc,Yc,.no,.no,.no,.no,.no,.no,Yo 1 0,Yb,Y,Yc,Yc,Yo 1 0,.no,.box 4 0 false,.tup [Yo 1 0,Y],Y,Y,Yc,Yc,.tup [Yo 1 0,Y],Yb,Y,Yb,Y,Y,Yc,Yc,Yb,Y,Y,Yc,Yc,Yc,Y,Y,Y,Yc,Y,Yc,Yr 19,Y,Y,Y,Y,Yc,Yr 19,Y,Y,Y,Y,Yo 1 0,Yr 19,Y,Yb,Yo 1 0,Y,Yo 1 0],T:=[(3,ty3),(4,ty4),(25,sq),(26,dH),(34,rS)],S:=[(36,cZ),(37,iz),(39,iB),(52,iv)],H:=[(0,([15,16,17,38,39,40],[17]))],res:=[.tmp 12],ios:=[],G:=gl0}
def gU:List D→Option Out:=bD nQ Try.f29
@[reducible] def oM:FS:={pm:=[Y,Y,Yc,Yc,Yc,Yc],rm:=[Yo 1 0],f:=gU}
theorem vv:ay gl0 Try.prog 29 oM:=aG (c:=nQ) (ac dR (ac ku (ac kG (ac jZ aw)))) Try.func29 rfl rfl (by kernel_rfl)
@[reducible] def li:Cx:={K:=[Y,Y,Yc,Yc,Yc,Yc,.no,.no,.no,.no,.no,.no,Yo 1 0,Y,Y,Y,Yc,Yc,Yc,Yc,Y,Y,Y,Y,Yc,Yc,Yc,Yc,Yo 1 0],T:=[(26,dH)],S:=[(28,oI),(29,oM)],H:=[],res:=[.tmp 12,.tmp 13],ios:=[],G:=gl0}
def dq:List D→Option Out:=bD li Try.f7
@[reducible] def kR:FS:={pm:=[Y,Y,Yc,Yc,Yc,Yc],rm:=[Yo 1 0,Y],f:=dq}
theorem qq:ay gl0 Try.prog 7 kR:=aG (c:=li) (ac vE (ac vv aw)) Try.func7 rfl rfl (by kernel_rfl)
@[reducible] def pX:Cx:={K:=[Yc,Y,.no,.no,Y,Y,Y,Y,Yc,Y,Y,Y],T:=[(3,ty3)],S:=[(52,iv)],H:=[],res:=[.tmp 4],ios:=[],G:=gl0}
def fW:List D→Option Out:=bD pX Try.f42
@[reducible] def lQ:FS:={pm:=[Yc,Y],rm:=[Y],f:=fW}
theorem pH:ay gl0 Try.prog 42 lQ:=aG (c:=pX) (ac jZ aw) Try.func42 rfl rfl (by kernel_rfl)
@[reducible] def jv:Cx:={K:=[Y,Y,Yc,Yc,Y,.no,.no,.no,.no,.no,Yc,Y,Yb,Y,Y,Y,Yc,Yc,Y,Y,.tup [Yo 1 0,Y],Y,Y,Yc,Yc,.tup [Yo 1 0,Y],Yb,Y,Yb,Y,Y,Y,Yb,Y,Y,Y,Yc],T:=[(26,dH)],S:=[(34,dm),(36,cZ),(42,lQ),(43,ga)],H:=[],res:=[.tmp 10,.tmp 11],ios:=[],G:=gl0}
def dC:List D→Option Out:=bD jv Try.f15
@[reducible] def jh:FS:={pm:=[Y,Y,Yc,Yc,Y],rm:=[Yc,Y],f:=dC}
theorem om:ay gl0 Try.prog 15 jh:=aG (c:=jv) (ac eg (ac dR (ac pH (ac jE aw)))) Try.func15 rfl rfl (by kernel_rfl)
@[reducible] def kj:Cx:={K:=[Y,Y,Yc,Yc,Y,.no,.no,.no,.no,.no,Yc,Y,Yb,Y,Y,Y,Yc,Yc,Y,Y,.tup [Yo 1 0,Y],Y,Y,Yc,Yc,.tup [Yo 1 0,Y],Yb,Y,Yb,Y,Y,Y,Yb,Y,Y,Y,Yc],T:=[(26,dH)],S:=[(34,dm),(36,cZ),(42,lQ),(43,ga)],H:=[],res:=[.tmp 10,.tmp 11],ios:=[],G:=gl0}
def eF:List D→Option Out:=bD kj Try.f17
@[reducible] def kN:FS:={pm:=[Y,Y,Yc,Yc,Y],rm:=[Yc,Y],f:=eF}
theorem qr:ay gl0 Try.prog 17 kN:=aG (c:=kj) (ac eg (ac dR (ac pH (ac jE aw)))) Try.func17 rfl rfl (by kernel_rfl)
@[reducible] def gx:Cx:={K:=[Y,Y,Yc,Yc,Yc,.no,.no,.no,.no,.no,Yc,Y,Yb,Y,Y,Y,Yc,Yc,Y,Y,Y,Yc,Y,Y,Y,Y,Y,.tup [Yo 1 0,Y],Y,Y,Yc,Yc,.tup [Yo 1 0,Y],Yb,Y,Yb,Y,Y,Yc,Yc],T:=[(3,ty3),(26,dH)],S:=[(34,dm),(35,fX),(36,cZ),(39,iB)],H:=[],res:=[.tmp 10,.tmp 11],ios:=[],G:=gl0}
def bZ:List D→Option Out:=bD gx Try.f11
@[reducible] def gH:FS:={pm:=[Y,Y,Yc,Yc,Yc],rm:=[Yc,Y],f:=bZ}
theorem mf:ay gl0 Try.prog 11 gH:=aG (c:=gx) (ac eg (ac jy (ac dR (ac kG aw)))) Try.func11 rfl rfl (by kernel_rfl)
@[reducible] def gB:Cx:={K:=[Y,Y,Yc,Yc,Yc,.no,.no,.no,.no,.no,Yc,Y,Yb,Y,Y,Y,Yc,Yc,Y,Y,Y,Yc,Y,Y,Y,Y,Y,.tup [Yo 1 0,Y],Y,Y,Yc,Yc,.tup [Yo 1 0,Y],Yb,Y,Yb,Y,Y,Yc,Yc],T:=[(3,ty3),(26,dH)],S:=[(34,dm),(35,fX),(36,cZ),(37,iz)],H:=[],res:=[.tmp 10,.tmp 11],ios:=[],G:=gl0}
def bT:List D→Option Out:=bD gB Try.f9
@[reducible] def gN:FS:={pm:=[Y,Y,Yc,Yc,Yc],rm:=[Yc,Y],f:=bT}
theorem mr:ay gl0 Try.prog 9 gN:=aG (c:=gB) (ac eg (ac jy (ac dR (ac ku aw)))) Try.func9 rfl rfl (by kernel_rfl)
@[reducible] def lF:Cx:={K:=[.box 3 2 true,.no,Y,Y,Yr 0,Yr 0,Yr 0,Y,Yr 0,Yr 0,Yr 0,Yc,Y,Y,Yr 0,Yr 0,Yr 0,Yc,Yr 0,Yr 0,Yr 0,Y,Yc,Y,Y,Yr 0,Yr 0,Yr 0,Y,Y,Yr 0,Yr 0,Yr 0,Yr 0,Yr 0,Yr 0,Y,Y,Y,Y,Y,Y,Yr 0,Yr 0,Yr 0,Yr 0,Yr 0,Y,Yr 0,Yr 0,Yr 0,Yc,Y,Y,Y,Yr 0,Yr 0,Yr 0,Y,Y,Y,Y],T:=[(3,ty3),(5,ty5),(22,Fv),(41,GQ),(43,GW)],S:=[],H:=[],res:=[.tmp 2],ios:=[0],G:=gl0}
def ci:List D→Option Out:=bD lF Try.f71
@[reducible] def lB:FS:={pm:=[.box 3 2 true],rm:=[Y],f:=ci}
theorem rq:ay gl0 Try.prog 71 lB:=aG (c:=lF) aw Try.func71 rfl rfl (by kernel_rfl)
@[reducible] def ly:Cx:={K:=[.box 3 2 true,Y,.no,.no,Y,Y,Y,Y,Yr 0,Y,Y,Y,Y,Y,Yr 0,Y,Y,Y,Y,Y],T:=[(3,ty3)],S:=[(71,lB)],H:=[],res:=[.tmp 4],ios:=[0],G:=gl0}
def aC:List D→Option Out:=bD ly Try.f50
@[reducible] def cJ:FS:={pm:=[.box 3 2 true,Y],rm:=[Y],f:=aC}
theorem dL:ay gl0 Try.prog 50 cJ:=aG (c:=ly) (ac rq aw) Try.func50 rfl rfl (by kernel_rfl)
@[reducible] def kT:Cx:={K:=[.box 3 2 true,Yc,.no,.no,Y,Yc,Yr 0,Yc,Y,Y,Yc,Y],T:=[(3,ty3),(26,dH)],S:=[(50,cJ)],H:=[],res:=[.tmp 4],ios:=[0],G:=gl0}
def aR:List D→Option Out:=bD kT Try.f51
@[reducible] def dh:FS:={pm:=[.box 3 2 true,Yc],rm:=[Y],f:=aR}
theorem eB:ay gl0 Try.prog 51 dh:=aG (c:=kT) (ac dL aw) Try.func51 rfl rfl (by kernel_rfl)
@[reducible] def lE:Cx:={K:=[.box 3 2 true,.no,Y,Yr 0,Yr 0,Yb,Y,Yb,Y],T:=[(3,ty3),(26,dH)],S:=[(51,dh)],H:=[],res:=[.tmp 2],ios:=[0],G:=gl0}
def dD:List D→Option Out:=bD lE Try.f46
@[reducible] def lq:FS:={pm:=[.box 3 2 true],rm:=[Y],f:=dD}
theorem qV:ay gl0 Try.prog 46 lq:=aG (c:=lE) (ac eB aw) Try.func46 rfl rfl (by kernel_rfl)
@[reducible] def mD:Cx:={K:=[.box 3 2 true,Y,.no,.no,Y,Yr 0,Y,Y,Y],T:=[(3,ty3)],S:=[(50,cJ)],H:=[],res:=[.tmp 4],ios:=[0],G:=gl0}
def bH:List D→Option Out:=bD mD Try.f24
@[reducible] def eh:FS:={pm:=[.box 3 2 true,Y],rm:=[Y],f:=bH}
theorem fA:ay gl0 Try.prog 24 eh:=aG (c:=mD) (ac dL aw) Try.func24 rfl rfl (by kernel_rfl)
@[reducible] def kX:Cx:={K:=[.box 3 2 true,Y,Y,.no,.no,.no,Yo 2 0,Yo 2 0,Y,Y,.box 2 0 false,Y,Y,Y,Y,Y,Y,Yo 2 0,Yr 0,Y,Y,Y,Y,.via 7,Y,Y,Y,Y,Y,Yr 0,.via 7,Y,Y,.via 7,Y,Yr 7,Y,Y,Yr 0,Y,Y,Yr 10,Y,Y,Y,Yr 0,Yr 10,Y,Y,Y,Y,.via 7,Y,Y,Yr 7,Yr 7,Yr 10,Y,Y,Y,Yr 10,Yo 2 0,Y,Yb,Yo 2 0,Y,Yr 10,Y,Y,Yr 0,Yr 10,Y,Y,Y,Y,.via 7,Y,Y,Yr 7,Yr 7,Yr 10,Y,Y,Y,Yr 10,Yo 2 0,Y,Yb,Yo 2 0,.via 7,Y,Y,Y,Y,Yr 0,Y,.via 7,Y,.via 7,Y,Yr 7,Yr 7,Y,.via 7,Y,Yr 7,Yr 7,Y,Y,Yr 7,Y,Yo 2 0],T:=[(3,ty3),(24,td),(81,vb)],S:=[(24,eh),(50,cJ)],H:=[(0,([0,7,8],[0,7])),(3,([0,7,90,91],[0,7]))],res:=[.tmp 6],ios:=[0],G:=gl0}
def eA:List D→Option Out:=bD kX Try.f67
@[reducible] def kF:FS:={pm:=[.box 3 2 true,Y,Y],rm:=[Yo 2 0],f:=eA}
theorem qh:ay gl0 Try.prog 67 kF:=aG (c:=kX) (ac fA (ac dL aw)) Try.func67 rfl rfl (by kernel_rfl)
@[reducible] def jM:Cx:={K:=[.box 3 2 true,Y,Y,.no,.no,.no,Yo 2 0,Yo 2 0,Y,Y,Y,Y,Y,Y,Y,Y,Y,Y,Y,Yr 0,Y,Y,Y,Y,Yo 2 0,Yr 0,Y,Y,Yo 2 0,Yr 0,.via 7,Y,Y,Yr 0,Y,Y,Y,.via 7,Y,Yr 0,Yb,Y,Yr 7,Yr 7,Y,Y,Yo 2 0,Y,Yb,Yo 2 0,Y,Y,Yr 0,Y,Y,.via 7,Y,Y,Y,Yo 2 0,Y,Yb,Yo 2 0,Y,Y,Y,Y,Yo 2 0,Yo 2 0],T:=[(3,ty3),(24,td),(26,dH),(81,vb)],S:=[(24,eh),(50,cJ),(51,dh),(66,jf),(67,kF)],H:=[(1,([0,7,9],[0,7]))],res:=[.tmp 6],ios:=[0],G:=gl0}
def dX:List D→Option Out:=bD jM Try.f47
@[reducible] def jI:FS:={pm:=[.box 3 2 true,Y,Y],rm:=[Yo 2 0],f:=dX}
theorem pz:ay gl0 Try.prog 47 jI:=aG (c:=jM) (ac fA (ac dL (ac eB (ac lY (ac qh aw))))) Try.func47 rfl rfl (by kernel_rfl)
@[reducible] def pR:Cx:={K:=[Yc,.no,Y,Y,.no,.box 2 0 false,Yc,Y,Y,Y,Yc,Y,Y,Yr 5,Y,Yr 5,Y,Y,Y,Y,Y],T:=[(3,ty3),(24,td),(81,vb)],S:=[],H:=[(0,([3,6,7,8],[3]))],res:=[.tmp 2],ios:=[],G:=gl0}
def jg:List D→Option Out:=bD pR Try.f69
@[reducible] def pN:FS:={pm:=[Yc],rm:=[Y],f:=jg}
theorem vW:ay gl0 Try.prog 69 pN:=aG (c:=pR) aw Try.func69 rfl rfl (by kernel_rfl)
@[reducible] def rG:Cx:={K:=[Yc,Y,Y,Y,Y,Y,Y,.no,.no,.no,.box 2 0 false,.no,.no,.no,Yo 1 0,Y,Y,Y,Y,Y,Yo 1 0,Y,Y,.tup [Y,Y],Y,Y,.tup [Y,Y],Y,Y,Y,Y,Y,Y,Y,Y,Y,Y,Y,Y,Y,Y,Y,Y,Y,Y,Y,Y,Yc,Yo 1 0,Y,Y,Y,Y,Y,Y,Y,Y,Y,Y,.via 20,Y,Y,Y,Y,Y,Y,Y,Yr 20,Y,Y,.via 20,Y,Y,Y,Y,Y,Y,Y,Y,Yr 20,Yo 1 0],T:=[(3,ty3),(26,dH),(81,vb)],S:=[(61,kM),(74,jY)],H:=[(0,([1,5,6,16,17,20,21],[20])),(2,([1,5,6,16,17,20,21,22],[1,5,6,16,17,20,21]))],res:=[.tmp 14,.tmp 15],ios:=[],G:=gl0}
def jT:List D→Option Out:=bD rG Try.f75
@[reducible] def qK:FS:={pm:=[Yc,Y,Y,Y,Y,Y,Y],rm:=[Yo 1 0,Y],f:=jT}
theorem xX:ay gl0 Try.prog 75 qK:=aG (c:=rG) (ac nL (ac nf aw)) Try.func75 rfl rfl (by kernel_rfl)
@[reducible] def pO (k:List D→Option Out):Cx:={K:=[Yc,Y,Y,Yc,Yc,.no,.no,.no,.no,.no,Yo 4 0,Y,Y,Y,.box 2 0 false,.no,Y,Yb,Y,Yb,Y,Y,Yc,Y,Y,Y,Yc,Y,Yc,Y,Y,Y,Y,Y,Y,Yc,Y,Y,Yc,Y,Yc,Y,Y,Yc,Y,Y,Y,Y,Yc,Y,Yc,Y,Y,Yb,Y,Y,Y,Yb,Y,Y,Y,Yr 14,Y,Yr 14,Y,Y,Y,.tup [Yo 1 0,Y],Yc,Y,Y,Y,Y,Y,Y,.tup [Yo 1 0,Y],Yb,Y,Y,Y,.tup [Yo 4 0,Y],Yb,Y,Y,Yc,Yc,Yo 1 0,Y,Yb,Yb,.tup [Yo 4 0,Y],Yb,Y,Y,Y,Y,Y,Y,Y,Y,Y,Y,Y,Yo 4 0,Yb,Yo 4 0,Y,Y],T:=[(3,ty3),(4,ty4),(24,td),(25,sq),(26,dH),(34,rS),(81,vb),(90,It)],S:=[(52,iv),(70,{pm:=[Yc,Y,Y,Yc,Yc],rm:=[Yo 4 0,Y],f:=k}),(74,jY),(75,qK)],H:=[(0,([0,1,2,3,4,12],[0,1,2,3,4,12])),(2,([0,1,2,3,4,12,43,44,45],[])),(4,([0,1,2,3,4,12,13,14,43,44,45,53,54,55],[0,1,2,3,4,12,43,44,45]))],res:=[.tmp 10,.tmp 11],ios:=[],G:=gl0}
def ce:Nat→List D→Option Out
 | 0,_=>none
 | n+1,ds=>bD (pO (ce n)) Try.f70 ds
def lW:List D→Option Out:=yp ce
@[reducible] def jb:FS:={pm:=[Yc,Y,Y,Yc,Yc],rm:=[Yo 4 0,Y],f:=lW}
theorem nZ:∀n:Nat,ay gl0 Try.prog 70 {pm:=[Yc,Y,Y,Yc,Yc],rm:=[Yo 4 0,Y],f:=ce n}
 | 0=>uq (fun _=>rfl)
 | n+1=>by
  have ih:=nZ n;exact vC (P:=Try.prog) (c:=pO (ce n)) (fn:=Try.f70) (pm:=jb.pm) (rm:=jb.rm) (by kernel_rfl) (ac jZ (ac ih (ac nf (ac xX aw)))) fV Try.func70 (by kernel_rfl) (by kernel_rfl) rfl
theorem wb:ay gl0 Try.prog 70 jb:=xe nZ
@[reducible] def nJ:Cx:={K:=[Y,Y,Yc,.no,.no,.no,Yo 4 0,Y,.via 25,Y,Yb,Y,Yo 4 0,Y,.no,.box 4 0 false,Yc,Y,Y,Y,Y,Y,Y,Y,Y,Yo 1 0,.via 25,Y,Y,Y,Y,.via 25,Y,Yr 25,Y,.tup [Yo 4 0,Y],.via 25,Y,Y,Yc,.tup [Yo 4 0,Y],Yb,Y,Y,Y,Yc,Y,Y,Y,Y,Yb,Y,Y,Y,Yb,Y,Yr 15,Y,Y,Y,Yo 4 0,Y,Yb,Yo 4 0,Y,Y,Yo 4 0],T:=[(3,ty3),(4,ty4),(24,td),(25,sq),(26,dH),(34,rS),(81,vb)],S:=[(69,pN),(70,jb)],H:=[(0,([0,1,2,8,25,27,28],[0,1,2,8,25])),(2,([10,12,46,47],[12])),(4,([10,12,13,46,47,50,51,52],[10,12,46,47]))],res:=[.tmp 6,.tmp 7],ios:=[],G:=gl0}
def ib:List D→Option Out:=bD nJ Try.f49
@[reducible] def oC:FS:={pm:=[Y,Y,Yc],rm:=[Yo 4 0,Y],f:=ib}
theorem vk:ay gl0 Try.prog 49 oC:=aG (c:=nJ) (ac vW (ac wb aw)) Try.func49 rfl rfl (by kernel_rfl)
@[reducible] def jP:Cx:={K:=[Yc,.no,Y,Y,Yo 2 0,Yo 4 0,Yr 15,Y,Y,Yo 2 0,Yo 4 0,Y,Y,Yc,Yc,.box 3 2 false,Yr 15,Y,Yr 15,Y,Yr 15,Y,Y,Yo 2 0,Y,Y,.via 9,Y,.tup [Yo 4 0,Y],Y,Y,.via 9,.tup [Yo 4 0,Y],Yo 4 0,Y,.via 10,Y,Y,Y,Yr 15,Y,Y,Yr 15,Y,Y,Y,Yo 4 0,.via 10,Y,Yb,Yo 4 0,.via 10,Y,Y,Yb,Yo 4 0,Y,Y,.via 10,Y,Yr 15,Y,Yb,Y,Yr 10,Yr 10,Y,Y,.via 10,Y,.via 10,Y,Yr 10,Yr 10,Y,Y,Yr 10,Yr 10,Y,Y,.via 10,Y,Yr 15,Y,Yb,Y,Yr 10,Yr 10,Y,Y,Yo 2 0,Yo 4 0],T:=[(3,ty3),(4,ty4),(22,Fv),(24,td),(25,sq),(26,dH),(34,rS),(41,GQ),(43,GW)],S:=[(46,lq),(47,jI),(48,kK),(49,oC),(50,cJ),(51,dh)],H:=[],res:=[.tmp 2,.tmp 3,.tmp 4,.tmp 5],ios:=[],G:=gl0}
@[reducible] def jK:List (Nat × List Nat):=[(12,[1000000,10])]
def cS:List D→Option Out:=sU jP jK Try.f23
@[reducible] def cT:FS:={pm:=[Yc],rm:=[Y,Y,Yo 2 0,Yo 4 0],f:=cS}
theorem jQ:ay gl0 Try.prog 23 cT:=CF (Z:=jK) (P:=Try.prog) (c:=jP) (fn:=Try.f23) (pm:=cT.pm) (rm:=cT.rm) (by kernel_rfl) (ac qV (ac pz (ac nT (ac vk (ac dL (ac eB aw)))))) fV Try.func23 (by kernel_rfl) (by kernel_rfl) rfl
@[reducible] def iI:Cx:={K:=[Yc,.no,Y,Y,Yo 2 0,Yo 4 0,Yc,.tup [Y,Y,Yo 2 0,Yo 4 0],Y,Y,Yo 2 0,Yo 4 0],T:=[(24,td),(25,sq)],S:=[(23,cT)],H:=[],res:=[.tmp 2,.tmp 3,.tmp 4,.tmp 5],ios:=[],G:=gl0}
def cv:List D→Option Out:=bD iI Try.f18
@[reducible] def iK:FS:={pm:=[Yc],rm:=[Y,Y,Yo 2 0,Yo 4 0],f:=cv}
theorem nz:ay gl0 Try.prog 18 iK:=aG (c:=iI) (ac jQ aw) Try.func18 rfl rfl (by kernel_rfl)
@[reducible] def jO:Cx:={K:=[.box 3 2 true,Y,.no,.no,Yo 1 0,Yo 1 0,Y,Y,Y,Y,Y,Y,Y,Y,Y,Y,Yr 0,Y,Yo 1 0,Y,Yb,Yo 1 0,Yr 0,Y,Yo 1 0,Yr 0,Y,Y,Y,Yb,Y,Yb,Yo 1 0,Yo 1 0],T:=[(3,ty3),(26,dH)],S:=[(24,eh),(51,dh)],H:=[(0,([0,1,5,6],[0,1,5]))],res:=[.tmp 4],ios:=[0],G:=gl0}
def be:List D→Option Out:=bD jO Try.f25
@[reducible] def jL:FS:={pm:=[.box 3 2 true,Y],rm:=[Yo 1 0],f:=be}
theorem pD:ay gl0 Try.prog 25 jL:=aG (c:=jO) (ac fA (ac eB aw)) Try.func25 rfl rfl (by kernel_rfl)
@[reducible] def ie:Cx:={K:=[Yc,.no,Y,Y,Yb,Yb,Yc,Yc,Yr 19,Y,Y,Yb,Yb,Yc,Y,Yc,Y,Yc,Yc,.box 3 2 false,.tup [Y,Y,Yo 2 0,Yo 4 0],Yc,.tup [Y,Y,Yo 2 0,Yo 4 0],Y,Y,Yb,Yb,Yr 19,Yr 19,Yr 19,.tup [Yc,Y],Y,Y,Yb,Yb,.tup [Yc,Y],Yc,Y,Y,Y,Yr 19,Y,Y,.tup [Yc,Y],Y,Y,Yb,Yb,.tup [Yc,Y],Yc,Y,Y,Y,Y,Yb,Yb,Yc,Yc,Y,Y,Yb,Yb,Yr 19,Y,Yb,Yr 19,Y,Yb],T:=[(3,ty3),(22,Fv),(24,td),(25,sq),(26,dH),(41,GQ),(43,GW)],S:=[(20,il),(22,dz),(23,cT),(24,eh),(25,jL)],H:=[],res:=[.tmp 2,.tmp 3,.tmp 4,.tmp 5,.tmp 6,.tmp 7],ios:=[],G:=gl0}
def cW:List D→Option Out:=bD ie Try.f5
@[reducible] def ip:FS:={pm:=[Yc],rm:=[Y,Y,Yb,Yb,Yc,Yc],f:=cW}
theorem mR:ay gl0 Try.prog 5 ip:=aG (c:=ie) (ac lA (ac fJ (ac jQ (ac fA (ac pD aw))))) Try.func5 rfl rfl (by kernel_rfl)
@[reducible] def tZ:Cx:={K:=[Yc,Y,.no,.no,Y,.no,Y,Yc,Y,Y,Y,Yc,Y,Y,Y,Y,Y],T:=[(3,ty3),(26,dH)],S:=[],H:=[(0,([1,7,8,9],[]))],res:=[.tmp 4],ios:=[],G:=gl0}
def dS:List D→Option Out:=bD tZ Try.f13
@[reducible] def uU:FS:={pm:=[Yc,Y],rm:=[Y],f:=dS}
theorem AZ:ay gl0 Try.prog 13 uU:=aG (c:=tZ) aw Try.func13 rfl rfl (by kernel_rfl)
@[reducible] def nh:Cx:={K:=[Yc,Yc,.no,.no,Y,Y,Yc,Y,Yc,Y,Y,Yc,Y,Y,Y,Y,Yc,Y,Yc,Y,Yc,Y,Yc,Y,Y,Y],T:=[(3,ty3),(26,dH)],S:=[],H:=[(0,([0,1,12,13],[]))],res:=[.tmp 4],ios:=[],G:=gl0}
def bd:List D→Option Out:=bD nh Try.f12
@[reducible] def np:FS:={pm:=[Yc,Yc],rm:=[Y],f:=bd}
theorem tc:ay gl0 Try.prog 12 np:=aG (c:=nh) aw Try.func12 rfl rfl (by kernel_rfl)
@[reducible] def tW:Cx:={K:=[Yc,Yc,.no,.no,Y,Yc,Y,Y,Y,Yc,Y,Yc,Y,Y,Y,Y],T:=[(3,ty3),(5,ty5),(22,Fv)],S:=[],H:=[],res:=[.tmp 4],ios:=[],G:=gl0}
def nb:List D→Option Out:=bD tW Try.f4
@[reducible] def vH:FS:={pm:=[Yc,Yc],rm:=[Y],f:=nb}
theorem Bh:ay gl0 Try.prog 4 vH:=aG (c:=tW) aw Try.func4 rfl rfl (by kernel_rfl)
open Go Go.Proofs Go.V Go.RowKit Go.Lib
set_option maxRecDepth 100000
theorem lG (g j:Nat):((⟨g,0,none⟩:Addr).add j)=⟨g,j,none⟩:=by cases j<;>simp [Addr.add]
theorem uP {xs:List Value} {cur:Array Value} {n:Nat} (h:cur.toList.take n=xs):∀(i:Nat) (u:Value),xs[i]?=some u→cur[i]?=some u:=fun i u hu=>by
 subst h;rw [List.getElem?_take] at hu;split at hu
 ·simpa using hu
 ·cases hu
theorem eJ {w:World} (o:Obj) {n:Nat} (h:n=w.heap.size):(w.alloc o).heap[n]?=some o:=by
 subst h;exact Array.getElem?_push_size
theorem ck {w:World} (o:Obj) {n:Nat} {x:Obj} (h:w.heap[n]?=some x):(w.alloc o).heap[n]?=some x :=
 ((IE w o none).block n (IK.1 h).1 (by simp)).trans h
theorem sw {w:World} {o:Obj} {a:Addr} {v:Value} (h:w.cell? a=some v):(w.alloc o).cell? a=some v :=
 (IE w o none).cell h (by simp)
theorem DW:(Try.prog.info? 3).map (fun i=>(i.zero,i.size,i.bytes))=some (some (.int .i64 0),1,8):=by kernel_rfl
theorem EP:(Try.prog.info? 26).map (fun i=>(i.zero,i.size,i.bytes))=some (some (.slice none 0 0),1,24):=by kernel_rfl
theorem mv {w:World} {base e size n:Nat} {v:Value} {xs:List Value} (h:w.ownsRow base e size v (n+1) xs):∃g cap,v = .slice (some ⟨g,0,none⟩) (n+1) cap:=by
 obtain⟨_,⟨rfl,h⟩ | ⟨g,cap,cur,rfl,_⟩⟩:=h
 ·cases h
 ·exact⟨g,cap,rfl⟩
theorem du {w w':World} {B b:Nat} {o:Obj} (h:Below B w w') (hb:w.heap[b]?=some o) (hB:b<B):w'.heap[b]?=some o:=(h.block b hB).trans hb
theorem cX {w:World} {b:Nat} {o:Obj} (h:w.heap[b]?=some o):b<w.heap.size:=(IK.1 h).1
theorem GH {W:World} {b t:Nat} {a0 a1 a2 a3:Value} (h:W.heap[b]?=some (.cells #[a0,a1,a2,a3] t (0,0))) :
  W.cell? ⟨b,0,none⟩=some a0∧W.cell? ⟨b,1,none⟩=some a1∧W.cell? ⟨b,2,none⟩=some a2∧W.cell? ⟨b,3,none⟩=some a3:=by
 refine⟨?_,?_,?_,?_⟩<;>rw [Je h]<;>rfl
def iX (W:World) (B:Nat) (v:Value) (o:List Int):Prop:=∃g cap cur,v = .slice (some ⟨g,0,none⟩) o.length cap∧B≤g∧W.heap[g]?=some (.cells cur 3 (0,0)) ∧
 o.length≤cap∧cap≤cur.size∧∀(i:Nat) (u:Value),(o.map (IQ .i64))[i]?=some u→cur[i]?=some u
theorem iX.kept {W W':World} {B:Nat} {v:Value} {o:List Int} (h:iX W B v o) (hk:∀(g:Nat) (cur:Array Value),W.heap[g]?=some (.cells cur 3 (0,0))→W'.heap[g]?=W.heap[g]?):iX W' B v o:=by
 obtain⟨g,cap,cur,h1,h2,h5,h6⟩:=h;exact⟨g,cap,cur,h1,h2,(hk g cur h5).trans h5,h6⟩
theorem iX.below {W W':World} {B:Nat} {v:Value} {o:List Int} (h:iX W B v o) (hb:Below W.heap.size W W'):iX W' B v o :=
 h.kept fun g cur hg=>hb.block g (IK.1 hg).1
theorem iX.of {W:World} {B b:Nat} {v:Value} {o:List Int} (h:W.ownsRow b 3 1 v o.length (o.map (IQ .i64))) (hb:B≤b) (hn:v ≠ .slice none 0 0):iX W B v o:=by
 obtain⟨_,⟨hv,_⟩ | ⟨g,cap,cur,rfl,hge,hg,hcap,_,hcs,ht⟩⟩:=h
 ·exact absurd hv hn
 ·exact⟨g,cap,cur,rfl,by omega,hg,hcap,by omega,uP ht⟩
structure LstO (W:World) (B:Nat) (v:Value) (L:List (List Int)) (vs:List Value):Prop where
 own:W.ownsRow B 26 1 v L.length vs
 row:∀(i:Nat) (s:List Int),L[i]?=some s→∃y,vs[i]?=some y∧iX W B y s
theorem LstO.cell {W:World} {B g cap n:Nat} {L:List (List Int)} {vs:List Value} (h:LstO W B (.slice (some ⟨g,0,none⟩) n cap) L vs) {i:Nat} {s:List Int} (hi:L[i]?=some s):∃y,W.cell? ⟨g,i,none⟩=some y∧iX W B y s:=by
 obtain⟨y,h1,h2⟩:=h.row i s hi;have:=h.own.cells (g:=g) rfl i y h1;rw [lG] at this;exact⟨y,this,h2⟩
theorem LstO.below {W W':World} {B:Nat} {v:Value} {L:List (List Int)} {vs:List Value} (h:LstO W B v L vs) (hb:Below W.heap.size W W'):LstO W' B v L vs :=
 ⟨h.own.kept (row:=none) ⟨hb.os,hb.tape,hb.output,hb.size,fun k hk _=>hb.block k hk⟩ (by cases hv:v.ownBlock<;>simp),fun i s hi=>by
  obtain⟨y,h1,h2⟩:=h.row i s hi;exact⟨y,h1,h2.below hb⟩⟩
theorem LstO.ne {W:World} {B g:Nat} {v:Value} {L:List (List Int)} {vs:List Value} (h:LstO W B v L vs) {cur:Array Value} (hg:W.heap[g]?=some (.cells cur 3 (0,0))):some g≠v.ownBlock:=by
 obtain⟨_,⟨rfl,_⟩ | ⟨g',cap,cur',rfl,_,hg',_⟩⟩:=h.own
 ·simp [IW]
 ·intro e
  simp only [IW,IL] at e;rw [e,hg'] at hg;simp at hg
theorem LstO.grow {W W':World} {B:Nat} {v v' y:Value} {L:List (List Int)} {s:List Int} {vs:List Value} (h:LstO W B v L vs) (hy:iX W B y s) (ho:W'.ownsRow B 26 1 v' (L.length+1) (vs++[y])) (hg:W.grownBy W' v.ownBlock):LstO W' B v' (L++[s]) (vs++[y]):=by
 have hk:∀(g:Nat) (cur:Array Value),W.heap[g]?=some (.cells cur 3 (0,0))→W'.heap[g]?=W.heap[g]?:=fun g cur hc=>hg.block g (IK.1 hc).1 (h.ne hc)
 have hlen:vs.length=L.length:=by simpa using h.own.1
 refine⟨by rw [List.length_append];exact ho,fun i t hi=>?_⟩
 rcases Nat.lt_or_ge i L.length with h1 | h1
 ·rw [Jd h1] at hi
  obtain⟨z,z1,z2⟩:=h.row i t hi;exact⟨z,by rw [Jd (by omega)];exact z1,z2.kept hk⟩
 ·rw [Jc h1] at hi
  have h0:i - L.length=0:=by
   have:=(II.1 hi).1;simp at this;omega
  rw [h0] at hi;simp at hi;subst hi;exact⟨y,by rw [Jc (by omega),show i - vs.length=0 by omega];rfl,hy.kept hk⟩
def zU (N:Nat) (vs:List Value):Prop:=(∀y∈vs,∃b n c,y = .slice (some ⟨b,0,none⟩) n c∧b<N)∧vs.Pairwise fun a b=>a.ownBlock≠b.ownBlock
theorem zU.grow {N N':Nat} {vs:List Value} {b n c:Nat} (h:zU N vs) (hb:N≤b) (hb':b<N') (hN:N≤N'):zU N' (vs++[.slice (some ⟨b,0,none⟩) n c]):=by
 refine⟨fun y hy=>?_,List.pairwise_append.2 ⟨h.2,by simp,fun x hx y hy=>?_⟩⟩
 ·rcases List.mem_append.1 hy with hy | hy
  ·obtain⟨b',n',c',e,h1⟩:=h.1 y hy
   exact⟨b',n',c',e,by omega⟩
  ·exact⟨b,n,c,Jh.1 hy,hb'⟩
 ·obtain⟨b',n',c',rfl,h1⟩:=h.1 x hx
  rw [Jh.1 hy];simp only [IW,ne_eq,IL];omega
theorem zU.mono {N N':Nat} {vs:List Value} (h:zU N vs) (hN:N≤N'):zU N' vs:=⟨fun y hy=>by
 obtain⟨b,n,c,e,h1⟩:=h.1 y hy;exact⟨b,n,c,e,by omega⟩,h.2⟩
structure Grd (W:World) (B g cap:Nat) (bs cs:Nat→Nat) (wd ht:Nat) (f:Nat→Nat→Int):Prop where
 hB:B≤g
 out:∃cur,W.heap[g]?=some (.cells cur 26 (0,0))∧cap≤cur.size∧∀y,y<ht→cur[y]?=some (.slice (some ⟨bs y,0,none⟩) wd (cs y))
 hcap:ht≤cap
 row:∀y,y<ht→B≤bs y∧wd≤cs y∧∃cur,W.heap[bs y]?=some (.cells cur 3 (0,0))∧cs y≤cur.size∧∀x,x<wd→cur[x]?=some (.int .i64 (f y x))
 inj:∀y z,y<ht→z<ht→bs y=bs z→y=z
section
variable {W W':World} {B g cap wd ht:Nat} {bs cs:Nat→Nat} {f:Nat→Nat→Int}
theorem Grd.cell (h:Grd W B g cap bs cs wd ht f) {y:Nat} (hy:y<ht):W.cell? ⟨g,y,none⟩=some (.slice (some ⟨bs y,0,none⟩) wd (cs y)):=by
 obtain⟨cur,h1,_,h2⟩:=h.out;rw [Je h1];exact h2 y hy
theorem Grd.num (h:Grd W B g cap bs cs wd ht f) {y x:Nat} (hy:y<ht) (hx:x<wd):W.cell? ⟨bs y,x,none⟩=some (.int .i64 (f y x)):=by
 obtain⟨_,_,cur,h1,_,h2⟩:=h.row y hy;rw [Je h1];exact h2 x hx
theorem Grd.fz (h:Grd W B g cap bs cs wd ht f) {y:Nat} (hy:y<ht) (x:Nat):W.frozen? ⟨bs y,x,none⟩=false:=by
 obtain⟨_,_,cur,h1,_⟩:=h.row y hy;exact Lib.frozen_of_heap h1 x
theorem Grd.ne (h:Grd W B g cap bs cs wd ht f) {y:Nat} (hy:y<ht):g≠bs y:=by
 obtain⟨_,_,cur,h1,_⟩:=h.row y hy;obtain⟨cur',h2,_⟩:=h.out;intro e;rw [e,h1] at h2;simp at h2
theorem Grd.ltg (h:Grd W B g cap bs cs wd ht f):g<W.heap.size:=by
 obtain⟨cur',h2,_⟩:=h.out;exact cX h2
theorem Grd.ltb (h:Grd W B g cap bs cs wd ht f) {y:Nat} (hy:y<ht):bs y<W.heap.size:=by
 obtain⟨_,_,cur,h1,_⟩:=h.row y hy;exact cX h1
theorem Grd.kept (h:Grd W B g cap bs cs wd ht f) (hg:W'.heap[g]?=W.heap[g]?) (hb:∀y,y<ht→W'.heap[bs y]?=W.heap[bs y]?):Grd W' B g cap bs cs wd ht f:=by
 refine⟨h.hB,?_,h.hcap,fun y hy=>?_,h.inj⟩
 ·obtain⟨cur,h1,h2⟩:=h.out
  exact⟨cur,hg.trans h1,h2⟩
 ·obtain⟨h0,h00,cur,h1,h2⟩:=h.row y hy
  exact⟨h0,h00,cur,(hb y hy).trans h1,h2⟩
theorem Grd.below (h:Grd W B g cap bs cs wd ht f) (hb:Below W.heap.size W W'):Grd W' B g cap bs cs wd ht f :=
 h.kept (hb.block g h.ltg) fun y hy=>hb.block _ (h.ltb hy)
theorem Grd.set (h:Grd W B g cap bs cs wd ht f) {y x:Nat} (hy:y<ht) (hx:x<wd) (n:Int):Grd (W.setCell ⟨bs y,x,none⟩ (.int .i64 n)) B g cap bs cs wd ht (fun r c=>if r=y∧c=x then n else f r c):=by
 refine⟨h.hB,?_,h.hcap,fun z hz=>?_,h.inj⟩
 ·obtain⟨cur,h1,h2⟩:=h.out
  exact⟨cur,(heap_setCell_other W ⟨bs y,x,none⟩ g _ (h.ne hy)).trans h1,h2⟩
 ·obtain⟨h0,h00,cur,h1,h2,h3⟩:=h.row z hz
  by_cases e:z=y
  ·subst e
   refine⟨h0,h00,cur.setIfInBounds x (.int .i64 n),heap_setCell_same _ _ _ _ _ _ h1,by simpa using h2,fun c hc=>?_⟩
   by_cases e2:c=x
   ·subst e2
    simp [show c<cur.size by omega]
   ·rw [Array.getElem?_setIfInBounds_ne (fun h=>e2 h.symm)]
    simp only [e2,and_false,if_false];exact h3 c hc
  ·refine⟨h0,h00,cur,(heap_setCell_other W ⟨bs y,x,none⟩ _ _ (fun h4=>e (h.inj z y hz hy h4))).trans h1,h2,fun c hc=>?_⟩
   simp only [e,false_and,if_false];exact h3 c hc
theorem Grd.congr (h:Grd W B g cap bs cs wd ht f) {f':Nat→Nat→Int} (he:∀y x,y<ht→x<wd→f y x=f' y x):Grd W B g cap bs cs wd ht f':=by
 refine⟨h.hB,h.out,h.hcap,fun y hy=>?_,h.inj⟩
 obtain⟨h0,h00,cur,h1,h2,h3⟩:=h.row y hy;exact⟨h0,h00,cur,h1,h2,fun x hx=>by rw [h3 x hx,he y x hy hx]⟩
end
structure KeptG (bs:Nat→Nat) (ht:Nat) (W W':World):Prop where
 os:W'.os=W.os
 tape:W'.tape=W.tape
 output:W'.output=W.output
 size:W.heap.size≤W'.heap.size
 block:∀b,b<W.heap.size→(∀y,y<ht→b≠bs y)→W'.heap[b]?=W.heap[b]?
theorem KeptG.of {bs:Nat→Nat} {ht:Nat} {W W':World} (h:Below W.heap.size W W'):KeptG bs ht W W':=⟨h.os,h.tape,h.output,h.size,fun b hb _=>h.block b hb⟩
theorem KeptG.trans {bs:Nat→Nat} {ht:Nat} {W W' W'':World} (h:KeptG bs ht W W') (h':KeptG bs ht W' W''):KeptG bs ht W W'' :=
 ⟨h'.os.trans h.os,h'.tape.trans h.tape,h'.output.trans h.output,IF h.size h'.size,fun b hb hn=>(h'.block b (IJ hb h.size) hn).trans (h.block b hb hn)⟩
theorem KeptG.set {bs:Nat→Nat} {ht y x:Nat} {W:World} {v:Value} (hy:y<ht):KeptG bs ht W (W.setCell ⟨bs y,x,none⟩ v) :=
 ⟨rfl,rfl,rfl,by simp [World.setCell],fun b _ hn=>heap_setCell_other W ⟨bs y,x,none⟩ b v (hn y hy)⟩
theorem KeptG.below {bs:Nat→Nat} {ht B:Nat} {W W':World} (h:KeptG bs ht W W') (hB:B≤W.heap.size) (hb:∀y,y<ht→B≤bs y):Below B W W' :=
 ⟨h.os,h.tape,h.output,h.size,fun b hlt=>h.block b (by omega) fun y hy e=>by have:=hb y hy;omega⟩
theorem GZ {W:World} {B g cap wd ht:Nat} {vs:List Value} (h:LstO W B (.slice (some ⟨g,0,none⟩) ht cap) (IB ht (IB wd (-1))) vs) (hd:zU W.heap.size vs) :
  ∃bs cs,Grd W B g cap bs cs wd ht fun _ _=>-1:=by
 have hlen:vs.length=ht:=by simpa using h.own.1
 have ho:=h.own;rw [IH] at ho;have key:∀y,y<ht→∃b c,vs[y]?=some (.slice (some ⟨b,0,none⟩) wd c)∧iX W B (.slice (some ⟨b,0,none⟩) wd c) (IB wd (-1)):=fun y hy=>by
  obtain⟨v,h1,h2⟩:=h.row y (IB wd (-1)) (by simp [hy]);have h3:=h2;obtain⟨b,c,cur,rfl,_⟩:=h3;rw [IH] at h1 h2;exact⟨b,c,h1,h2⟩
 have hbs:∀y:Nat,∃b:Nat,∀b' n c,vs[y]?=some (.slice (some ⟨b',0,none⟩) n c)→b'=b:=fun y=>by
  cases hv:vs[y]? with
  | none=>exact⟨0,fun b' n c e=>by cases e⟩
  | some v =>
   by_cases hs:∃b' n c,v = .slice (some ⟨b',0,none⟩) n c
   ·obtain⟨b',n,c,rfl⟩:=hs
    exact⟨b',fun b'' n' c' e=>by simp only [IL,IX,Jg,and_true] at e;exact e.1.symm⟩
   ·exact⟨0,fun b' n c e=>absurd ⟨b',n,c,Jl e⟩ hs⟩
 have hcs:∀y:Nat,∃c:Nat,∀A n c',vs[y]?=some (.slice A n c')→c'=c:=fun y=>by
  cases hv:vs[y]? with
  | none=>exact⟨0,fun b' n c e=>by cases e⟩
  | some v =>
   by_cases hs:∃A n c,v = .slice A n c
   ·obtain⟨A,n,c,rfl⟩:=hs
    exact⟨c,fun A' n' c' e=>by simp only [IL,IX] at e;exact e.2.2.symm⟩
   ·exact⟨0,fun A n c e=>absurd ⟨A,n,c,Jl e⟩ hs⟩
 obtain⟨bs,hbs⟩:=Classical.axiomOfChoice hbs;obtain⟨cs,hcs⟩:=Classical.axiomOfChoice hcs;have key2:∀y,y<ht→vs[y]?=some (.slice (some ⟨bs y,0,none⟩) wd (cs y))∧iX W B (.slice (some ⟨bs y,0,none⟩) wd (cs y)) (IB wd (-1)):=fun y hy=>by
  obtain⟨b,c,h1,h2⟩:=key y hy;have e1:=hbs y b wd c h1;have e2:=hcs y _ wd c h1;subst e1 e2;exact⟨h1,h2⟩
 refine⟨bs,cs,?_,?_,?_,fun y hy=>?_,fun y z hy hz e=>?_⟩
 ·obtain⟨_,⟨hv,_⟩ | ⟨g',cap',cur,hv,hge,_⟩⟩:=ho
  ·cases hv
  ·cases hv;exact hge
 ·obtain⟨_,⟨hv,_⟩ | ⟨g',cap',cur,hv,hge,hg,hcap,_,hcs',ht'⟩⟩:=ho
  ·cases hv
  ·cases hv
   exact⟨cur,hg,by omega,fun y hy=>uP ht' y _ (key2 y hy).1⟩
 ·obtain⟨_,⟨hv,_⟩ | ⟨g',cap',cur,hv,hge,hg,hcap,_,hcs',ht'⟩⟩:=ho
  ·cases hv
  ·cases hv
   simpa using hcap
 ·obtain⟨b,c,cur,hv,h2,h3,h4,h5,h6⟩:=(key2 y hy).2
  simp only [IX,IL,Jg,and_true] at hv;obtain⟨e1,-,e2⟩:=hv;rw [←e1] at h2 h3;rw [←e2,IH] at h4;rw [←e2] at h5;exact⟨h2,h4,cur,h3,h5,fun x hx=>h6 x _ (by simp [hx])⟩
 ·rcases Nat.lt_trichotomy y z with h1 | h1 | h1
  ·have:=(List.pairwise_iff_getElem.1 hd.2) y z (by omega) (by omega) h1
   rw [(II.1 (key2 y hy).1).2,(II.1 (key2 z hz).1).2] at this;exact absurd (by simp [IW,e]) this
  ·exact h1
  ·have:=(List.pairwise_iff_getElem.1 hd.2) z y (by omega) (by omega) h1
   rw [(II.1 (key2 y hy).1).2,(II.1 (key2 z hz).1).2] at this;exact absurd (by simp [IW,e]) this
end Go.Proofs.Ytccaheogjpfhjaa

namespace Go.Proofs.Ytccaheogjpfhjaa
open Go Go.Proofs Go.V Go.RowKit Go.Lib
set_option maxRecDepth 100000
theorem At {α:Type} (n:Nat) (a:α):IB (n+1) a=IB n a++[a]:=List.replicate_succ'
set_option maxHeartbeats 4000000 in
set_option maxRecDepth 1000000 in
theorem vA (wd ht:Nat) (hw:wd≤8) (hh:ht≤8) (w:World):Calls Try.prog 55 #[.int .i64 (wd:Int),.int .i64 (ht:Int)] w fun e w'=>∃g cap bs cs,e = .returned (.slice (some ⟨g,0,none⟩) ht cap)∧Grd w' w.heap.size g cap bs cs wd ht (fun _ _=>-1)∧Below w.heap.size w w':=by
 obtain⟨i0,hi,hz0,hz1,hz2⟩:=info_parts DW;obtain⟨i5,hi5,hy0,hy1,hy2⟩:=info_parts EP
 go_enter Try.func55,Try.ntmps55
 go_wp2
 go_loopw [5,6] (fun vG vy wr=>∃(y g cap:Nat) (vs:List Value),vy = .int .i64 y∧y≤ht∧vG = .slice (some ⟨g,0,none⟩) y cap∧LstO wr w.heap.size vG (IB y (IB wd (-1))) vs∧zU wr.heap.size vs∧Below w.heap.size w wr) (fun _ vy _=>ht - (intOf vy).toNat)
 case atStart =>
  refine⟨0,w.heap.size,0,[],rfl,Jb _,rfl,⟨⟨rfl,.inr ⟨_,0,#[],rfl,IC _,eJ _ rfl,IC _,Jb _,rfl,rfl⟩⟩,fun i s hi=>by simp at hi⟩,⟨fun y hy=>(by cases hy),List.Pairwise.nil⟩,(IU _ w).alloc (IC _) _⟩
 case round =>
  obtain⟨y,g,cap,vs,rfl,hyl,rfl,hL,hD,hb⟩:=hrel;by_cases hp:y<ht
  ·have hpi:(y:Int)<(ht:Int):=by omega
   obtain⟨W1,rfl⟩:∃W1,W1=wr:=⟨_,rfl⟩
   go_wp2
   go_loopw [7,8] (fun vr vx wq=>∃(x b c:Nat),vx = .int .i64 x∧x≤wd∧vr = .slice (some ⟨b,0,none⟩) x c∧wq.ownsRow W1.heap.size 3 1 (.slice (some ⟨b,0,none⟩) x c) x ((IB x (-1:Int)).map (IQ .i64))∧Below W1.heap.size W1 wq) (fun _ vx _=>wd - (intOf vx).toNat)
   case atStart =>
    exact⟨0,_,_,rfl,Jb _,rfl,⟨rfl,.inr ⟨_,0,#[],rfl,IC _,eJ _ rfl,IC _,Jb _,rfl,rfl⟩⟩,(IU _ W1).alloc (IC _) _⟩
   case round =>
    obtain⟨wq,rfl⟩:∃wq,wq=wr:=⟨_,rfl⟩
    obtain⟨x,b,c,rfl,hxl,rfl,hrow,hbq⟩:=hrel;by_cases hq:x<wd
    ·have hqi:(x:Int)<(wd:Int):=by omega
     have hmx:x+1≤maxLen:=by unfold maxLen;omega
     go_wp2_with (at_builtin;refine wpList_append_own _ rfl _ _ 26 rfl W1.heap.size 3 i0 (.int .i64 0) 1 8 Try.underlying26 hi hz0 hz1 hz2 rfl (by decide) (.slice (some ⟨b,0,none⟩) x c) _ _ rfl (hrow.alloc _) ⟨wq.heap.size,0,none⟩ 1 1 [.int .i64 (-1)] rfl rfl (cell_one_new _ _ _) (by intro u hu;simp at hu;subst hu;rfl) hmx (by omega) (IF hbq.size (IE wq _ none).size) ?_;intro v2 w4 hown2 hgrow2 hnil2;obtain⟨b2,c2,rfl⟩:=mv hown2)
     refine⟨⟨x+1,b2,c2,congrArg (IQ .i64) (by omega),by omega,rfl,?_,(hbq.alloc hbq.size _).grown hgrow2 (IF hbq.size (IE wq _ none).size) (fun k hk=>(hrow.lt k hk).1)⟩,?_⟩
     ·rw [At,List.map_append]
      exact hown2
     ·show wd - ((x:Int)+1).toNat<wd - (x:Int).toNat
      omega
    ·have hqi:¬(x:Int)<(wd:Int):=by omega
     have hxe:x=wd:=by omega
     subst hxe;have hr:iX wq W1.heap.size (.slice (some ⟨b,0,none⟩) x c) (IB x (-1)):=iX.of (by rw [IH];exact hrow) (IC _) (by simp);have hbl:W1.heap.size≤b∧b<wq.heap.size:=by
      obtain⟨b',c',cur,e',hbge,hcell,_⟩:=hr;simp only [IX,IL,Jg,and_true] at e';obtain⟨rfl,-,-⟩:=e';exact⟨hbge,cX hcell⟩
     obtain⟨hbge,hblt⟩:=hbl;have hL1:=hL.below hbq;have hL2:=hL1.below ((IU _ wq).alloc (IC _) (.cells #[.slice (some ⟨b,0,none⟩) x c] 26));have hr3:iX (wq.alloc (.cells #[.slice (some ⟨b,0,none⟩) x c] 26)) w.heap.size (.slice (some ⟨b,0,none⟩) x c) (IB x (-1)):=by
      obtain⟨b',c',cur',e,h1,h2,h3⟩:=hr.below ((IU _ wq).alloc (IC _) (.cells #[.slice (some ⟨b,0,none⟩) x c] 26));exact⟨b',c',cur',e,IF hb.size h1,h2,h3⟩
     have hmx:y+1≤maxLen:=by unfold maxLen;omega
     have hown:=hL2.own;rw [IH] at hown;have hbs:w.heap.size≤(wq.alloc (.cells #[.slice (some ⟨b,0,none⟩) x c] 26)).heap.size:=IF hb.size (IF hbq.size (IE wq _ none).size)
     go_wp2_with (at_builtin;refine wpList_append_own _ rfl _ _ 46 rfl w.heap.size 26 i5 (.slice none 0 0) 1 24 Try.underlying46 hi5 hy0 hy1 hy2 rfl (by decide) (.slice (some ⟨g,0,none⟩) y cap) _ _ rfl hown ⟨wq.heap.size,0,none⟩ 1 1 [.slice (some ⟨b,0,none⟩) x c] rfl rfl (cell_one_new _ _ _) (by intro u hu;simp at hu;subst hu;rfl) hmx (by omega) hbs ?_;intro v6 w6 hown6 hgrow6 hnil6;have hL6:=hL2.grow hr3 (by rw [IH];exact hown6) hgrow6;obtain⟨g6,cap6,rfl⟩:=mv hown6)
     have hsz:=hgrow6.size;refine⟨⟨y+1,g6,cap6,_,congrArg (IQ .i64) (by omega),by omega,rfl,?_,hD.grow (b:=b) (n:=x) (c:=c) hbge (IJ (IJ hblt (IE wq _ none).size) hsz) (IF (IF hbq.size (IE wq _ none).size) hsz),?_⟩,?_⟩
     ·rw [At]
      exact hL6
     ·exact((hb.trans (hbq.mono hb.size)).alloc (IF hb.size hbq.size) _).grown hgrow6 hbs (fun k hk=>(hL2.own.lt k hk).1)
     ·show ht - ((y:Int)+1).toNat<ht - (y:Int).toNat
      omega
  ·have hpi:¬(y:Int)<(ht:Int):=by omega
   have hye:y=ht:=by omega
   subst hye;obtain⟨bs,cs,hG⟩:=GZ hL hD
   go_wp2
   go_ret
   exact⟨g,cap,rfl,⟨bs,cs,hG⟩,hb⟩
set_option maxRecDepth 100000
def mkP (f:Nat→Nat→Int) (X Y a:Nat) (n:Int) (y x:Nat):Nat→Nat→Int:=fun r c=>if Y≤r∧X≤c∧c<X+a∧(r<y∨(r=y∧c<x)) then n else f r c
def mkA (f:Nat→Nat→Int) (X Y a b:Nat) (n:Int):Nat→Nat→Int:=fun r c=>if Y≤r∧r<Y+b∧X≤c∧c<X+a then n else f r c
theorem sn (f:Nat→Nat→Int) (X Y a:Nat) (n:Int):mkP f X Y a n Y X=f:=by
 funext r c
 unfold mkP;rw [if_neg (by omega)]
theorem uG (f:Nat→Nat→Int) (X Y a:Nat) (n:Int) (y x:Nat) (hy:Y≤y) (hx:X≤x) (hx2:x<X+a):(fun r c=>if r=y∧c=x then n else mkP f X Y a n y x r c)=mkP f X Y a n y (x+1):=by
 funext r c
 unfold mkP;by_cases h:r=y∧c=x
 ·rw [if_pos h,if_pos (by omega)]
 ·rw [if_neg h]
  by_cases h2:Y≤r∧X≤c∧c<X+a∧(r<y∨(r=y∧c<x))
  ·rw [if_pos h2,if_pos (by omega)]
  ·rw [if_neg h2,if_neg (by omega)]
theorem xV (f:Nat→Nat→Int) (X Y a:Nat) (n:Int) (y:Nat) (hy:Y≤y):mkP f X Y a n y (X+a)=mkP f X Y a n (y+1) X:=by
 funext r c
 unfold mkP;by_cases h2:Y≤r∧X≤c∧c<X+a∧(r<y∨(r=y∧c<X+a))
 ·rw [if_pos h2,if_pos (by omega)]
 ·rw [if_neg h2,if_neg (by omega)]
theorem xz (f:Nat→Nat→Int) (X Y a b:Nat) (n:Int):mkP f X Y a n (Y+b) X=mkA f X Y a b n:=by
 funext r c
 unfold mkP mkA;by_cases h2:Y≤r∧r<Y+b∧X≤c∧c<X+a
 ·rw [if_pos h2,if_pos (by omega)]
 ·rw [if_neg h2,if_neg (by omega)]
abbrev plV (n X Y:Int) (t:Bool):Value:=.agg #[.int .i64 n,.int .i64 X,.int .i64 Y,.bool t]
abbrev plO (n X Y:Int) (t:Bool):Obj:=.cells #[.int .i64 n,.int .i64 X,.int .i64 Y,.bool t] 34 (0,0)
theorem au {W:World} {b:Nat} {n X Y:Int} {t:Bool} (h:W.heap[b]?=some (plO n X Y t)):W.cell? ⟨b,0,none⟩=some (.int .i64 n)∧W.cell? ⟨b,1,none⟩=some (.int .i64 X)∧W.cell? ⟨b,2,none⟩=some (.int .i64 Y)∧W.cell? ⟨b,3,none⟩=some (.bool t):=GH h
set_option maxHeartbeats 4000000 in
set_option maxRecDepth 1000000 in
theorem wP (w:World) (B g cap wd ht:Nat) (bs cs:Nat→Nat) (f:Nat→Nat→Int) (hG:Grd w B g cap bs cs wd ht f) (hw8:wd≤8) (hh8:ht≤8) (pv:Value) (k:Int) (X Y a b:Nat) (t:Bool) (n:Int)
  (ha:X+a≤wd) (hb:Y+b≤ht)
  (hsz:∀W,Below w.heap.size w W→Calls Try.prog 72 #[pv,plV k X Y t] W fun e W'=>e = .returned (.tuple #[.int .i64 (a:Int),.int .i64 (b:Int)])∧Below W.heap.size W W') :
  Calls Try.prog 58 #[.slice (some ⟨g,0,none⟩) ht cap,pv,plV k X Y t,.int .i64 n] w fun e w'=>e = .returned (.tuple #[])∧Grd w' B g cap bs cs wd ht (mkA f X Y a b n)∧KeptG bs ht w w':=by
 go_enter Try.func58,Try.ntmps58
 have B1:Below w.heap.size w (w.alloc (plO k X Y t)):=(IU _ w).alloc (IC _) _;have p1:(w.alloc (plO k X Y t)).heap[w.heap.size]?=some (plO k X Y t):=eJ _ rfl;have hc1:=hsz _ B1;have l1:w.heap.size<(w.alloc (plO k X Y t)).heap.size:=cX p1
 go_wp2_with (go_at_call 72;refine hc1.mono ?_;rintro e w2 ⟨rfl,hB2⟩;have p2:=du hB2 p1 l1;have d0:=(au p2).1;have d1:=(au p2).2.1;have d2:=(au p2).2.2.1;have d3:=(au p2).2.2.2)
 have B2:Below w.heap.size w w2:=B1.trans (hB2.mono B1.size);have hG2:=hG.below B2;have l2:w.heap.size<w2.heap.size:=cX p2;clear d0 d1 d2 d3 hc1 p1 l1;generalize w.alloc (plO k X Y t)=W1 at *;clear hB2 B1;obtain⟨N,hN⟩:∃N,N=w.heap.size:=⟨_,rfl⟩
 have hNb:∀y,y<ht→N≠bs y:=fun y hy=>by have:=hG.ltb hy;omega
 rw [←hN] at p2 l2 ⊢;have K2:KeptG bs ht w w2:=KeptG.of B2;have HN:Hid _:=hN;clear hN hsz
 go_loopw [10] (fun vy wr=>∃(y:Nat),vy = .int .i64 y∧Y≤y∧y≤Y+b∧Grd wr B g cap bs cs wd ht (mkP f X Y a n y X)∧KeptG bs ht w2 wr) (fun vy _=>Y+b - (intOf vy).toNat)
 case atStart=>exact⟨Y,rfl,IC _,by omega,by rw [sn];exact hG2,KeptG.of (IU _ _)⟩
 case round =>
  obtain⟨y,rfl,hy1,hy2,hGr,hK⟩:=hrel;have pr:=(hK.block N l2 hNb).trans p2;obtain⟨c0,c1,c2,c3⟩:=au pr;by_cases hp:y<Y+b
  ·have hpi:(y:Int)<(Y:Int)+(b:Int):=by omega
   have hyt:y<ht:=by omega
   have hyi:(y:Int)<(ht:Int):=by omega
   obtain⟨W1,rfl⟩:∃W1,W1=wr:=⟨_,rfl⟩
   go_wp2
   clear c0 c1 c2 c3
   go_loopw [11] (fun vx wr=>∃(x:Nat),vx = .int .i64 x∧X≤x∧x≤X+a∧Grd wr B g cap bs cs wd ht (mkP f X Y a n y x)∧KeptG bs ht w2 wr) (fun vx _=>X+a - (intOf vx).toNat)
   case atStart=>exact⟨X,rfl,IC _,by omega,hGr,hK⟩
   case round =>
    clear pr hGr hK;obtain⟨x,rfl,hx1,hx2,hGx,hKx⟩:=hrel;have pr:=(hKx.block N l2 hNb).trans p2;obtain⟨c0,c1,c2,c3⟩:=au pr;by_cases hq:x<X+a
    ·have hqi:(x:Int)<(X:Int)+(a:Int):=by omega
     have hxt:x<wd:=by omega
     have hxi:(x:Int)<(wd:Int):=by omega
     have e1:=hGx.cell hyt;have e2:=hGx.num hyt hxt;have e3:=hGx.fz hyt x;have hS:=hGx.set hyt hxt n;rw [uG f X Y a n y x hy1 hx1 hq] at hS;have hKS:=hKx.trans (KeptG.set (v:=.int .i64 n) (x:=x) hyt)
     go_wp2
     refine⟨⟨x+1,congrArg (IQ .i64) (by omega),by omega,by omega,hS,hKS⟩,?_⟩
     show X+a - ((x:Int)+1).toNat<X+a - (x:Int).toNat
     omega
    ·have hqi:¬(x:Int)<(X:Int)+(a:Int):=by omega
     have hxe:x=X+a:=by omega
     rw [hxe,xV f X Y a n y hy1] at hGx;clear hxe
     go_wp2
     refine⟨⟨y+1,congrArg (IQ .i64) (by omega),by omega,by omega,hGx,hKx⟩,?_⟩
     show Y+b - ((y:Int)+1).toNat<Y+b - (y:Int).toNat
     omega
  ·have hpi:¬(y:Int)<(Y:Int)+(b:Int):=by omega
   have hye:y=Y+b:=by omega
   rw [hye,xz] at hGr;clear hye
   go_wp2
   go_end0
   exact⟨rfl,hGr,K2.trans hK⟩
set_option maxRecDepth 100000
abbrev Pl:=Int × Int × Int × Bool
abbrev Ps:=List (Int × Int)
def aX (n:Int):Bool:=decide (1≤n∧n≤8)
def eT (l:Ps):Bool:=l.all (fun p=>aX p.1&&aX p.2)&&decide (l.length≤8)
def szI (l:Ps) (p:Pl):Int × Int:=if p.2.2.2=true then((l.getD p.1.toNat (0,0)).2,(l.getD p.1.toNat (0,0)).1) else l.getD p.1.toNat (0,0)
def szN (l:Ps) (p:Pl):Nat × Nat:=((szI l p).1.toNat,(szI l p).2.toNat)
abbrev Gr:=Nat→Nat→Int
def Du (f:Gr) (X Y:Int) (a b:Nat):Prop:=∀y x:Nat,Y≤y→(y:Int)<Y+b→X≤x→(x:Int)<X+a→f y x = -1
def jk (wd ht:Nat) (f:Gr) (l:Ps) (p:Pl):Prop:=0≤p.2.1∧0≤p.2.2.1∧p.2.1+(szN l p).1≤wd∧p.2.2.1+(szN l p).2≤ht∧Du f p.2.1 p.2.2.1 (szN l p).1 (szN l p).2
open Classical in
def jR (wd ht:Nat) (f:Gr) (l:Ps) (p:Pl):Bool:=decide (jk wd ht f l p)
def tE (l:Ps) (q:Option Int) (p:Pl):Bool:=decide (0≤p.1∧p.1≤(l.length:Int) - 1)&&match q with | none=>true | some q=>decide (q<p.1)
def qk (f:Gr) (l:Ps) (p:Pl):Gr:=mkA f p.2.1.toNat p.2.2.1.toNat (szN l p).1 (szN l p).2 p.1
def chG (l:Ps) (wd ht:Nat):Option Int→Gr→List Pl→Option Gr
 | _,f,[]=>some f
 | q,f,p::ps=>if (tE l q p&&jR wd ht f l p)=true then chG l wd ht (some p.1) (qk f l p) ps else none
def cG (w h:Int) (l:Ps) (ps:List Pl):Option Gr:=if (aX w&&aX h&&eT l)=true then chG l w.toNat h.toNat none (fun _ _=>-1) ps else none
def dV (ps:List Pl):Nat→Option Int
 | 0=>none
 | i+1=>ps[i]?.map (·.1)
theorem wO {l:Ps} (hl:eT l=true) {p:Pl} (h0:0≤p.1) (h1:p.1≤(l.length:Int) - 1):((szN l p).1:Int)=(szI l p).1∧((szN l p).2:Int)=(szI l p).2∧1≤(szN l p).1∧(szN l p).1≤8∧1≤(szN l p).2∧(szN l p).2≤8:=by
 have hi:p.1.toNat<l.length:=by omega
 unfold eT at hl;simp only [IZ,List.all_eq_true] at hl;have h2:=hl.1 l[p.1.toNat] (Jj hi);simp only [aX,IZ,decide_eq_true_eq] at h2;have e:l.getD p.1.toNat (0,0)=l[p.1.toNat]:=by rw [List.getD_eq_getElem?_getD,IM hi];rfl
 unfold szN szI;rw [e];split<;>simp only<;>omega
theorem Grd.base {W:World} {B B' g cap wd ht:Nat} {bs cs:Nat→Nat} {f:Gr} (h:Grd W B g cap bs cs wd ht f) (hB:B'≤B):Grd W B' g cap bs cs wd ht f :=
 ⟨IF hB h.hB,h.out,h.hcap,fun y hy=>⟨IF hB (h.row y hy).1,(h.row y hy).2⟩,h.inj⟩
theorem uH (w:World):Below w.heap.size w w.drew:=⟨rfl,rfl,rfl,IC _,fun k hk=>rfl⟩
abbrev DK (p:Pl):Value:=plV p.1 p.2.1 p.2.2.1 p.2.2.2
def Hl (b:Bool):Value→Bool
 | .bool c=>c==b
 | _=>false
theorem CT {ops:Array Oper} {o:Oper} {tmps:Array Value} {j d:Nat} {want:Bool} {x:Value} (hg:o.guard=some (j,want)) (hd:(ops[j]?).bind (·.dst)=some d) (ht:tmps[d]?=some x)
  (hx:Hl want x=false):IY o (yielded ops tmps)=false:=by
 simp only [IY,hg,yielded,hd,Jk,ht];cases x<;>simp_all [Hl]
theorem ak {ops:Array Oper} {o:Oper} {tmps:Array Value} {j d:Nat} {want:Bool} (hg:o.guard=some (j,want)) (hd:(ops[j]?).bind (·.dst)=some d) (ht:tmps[d]?=some (.bool want)):IY o (yielded ops tmps)=true:=by
 simp [IY,hg,yielded,hd,Jk,ht]
theorem aq {P:Program} {ops:Array Oper} {Q:Exit→Act→World→Prop} {md:Region.Mode} {S:World→Prop} {i d j e:Nat} {want:Bool} {x:Value} {oi:Oper} {fuel:Nat} {listed:Array Bool} {a:Act} {w:World} (hi:ops[i]?=some oi) (hdst:oi.dst=some d)
  (hs:Region.noSelect ops=true) (hf:Region.free md ops listed i=true) (hr:(Jm md ops listed).contains i=true) (hQ:∀c a w,Q (.panic c) (a.put (some d) undef) w→Q (.panic c) a w)
  (hg:oi.guard=some (j,want)) (hd:(ops[j]?).bind (·.dst)=some e) (ht:a.tmps[e]?=some x) (hx:Hl want x=false) (hS:S w)
  (h:wpAnyH P md ops Q S fuel (listed.setIfInBounds i true) (a.put (some d) undef) w):wpAnyH P md ops Q S (fuel+1) listed a w :=
 wpAnyH_take hi hs hf hr (by rw [hdst];exact hQ) (Or.inr ⟨CT hg hd ht hx,rfl⟩) hS (by rw [hdst];exact h)
theorem aa {P:Program} {ops:Array Oper} {Q:Exit→Act→World→Prop} {md:Region.Mode} {S:World→Prop} {i d:Nat} {v:Value} {oi:Oper} {fuel:Nat} {listed:Array Bool} {a:Act} {w:World} (hi:ops[i]?=some oi) (hdst:oi.dst=some d)
  (hs:Region.noSelect ops=true) (hf:Region.free md ops listed i=true) (hr:(Jm md ops listed).contains i=true) (hQ:∀c a w,Q (.panic c) (a.put (some d) v) w→Q (.panic c) a w)
  (hw:IY oi (yielded ops a.tmps)=true) (hy:∀w,S w→(execOp a.eval oi).run P w = .ok (.value v) w) (hS:S w)
  (h:wpAnyH P md ops Q S fuel (listed.setIfInBounds i true) (a.put (some d) v) w):wpAnyH P md ops Q S (fuel+1) listed a w :=
 wpAnyH_take hi hs hf hr (by rw [hdst];exact hQ) (Or.inl ⟨hw,hy⟩) hS (by rw [hdst];exact h)
def Ho (w:World) (r:Option Gr) (wd ht:Nat) (e:Ending) (w':World):Prop :=
 Below w.heap.size w w'∧((r=none∧e = .returned (.tuple #[.slice none 0 0,.bool false]))∨∃f g cap bs cs,r=some f∧e = .returned (.tuple #[.slice (some ⟨g,0,none⟩) ht cap,.bool true])∧Grd w' w.heap.size g cap bs cs wd ht f)
set_option maxHeartbeats 8000000 in
set_option maxRecDepth 1000000 in
theorem Aw (w:World) (wi hi:Int) (l:Ps) (ps:List Pl) (pA:Option Addr) (pc:Nat) (A:Option Addr) (c:Nat) (hlen:ps.length≤1048576)
  (hA:∀i,i<ps.length→∃b o,A=some ⟨b,o,none⟩∧b<w.heap.size∧∀i (p:Pl),ps[i]?=some p→w.cell? ⟨b,o+i*4,none⟩=some (.int .i64 p.1)∧w.cell? ⟨b,o+i*4+1,none⟩=some (.int .i64 p.2.1)∧w.cell? ⟨b,o+i*4+2,none⟩=some (.int .i64 p.2.2.1)∧w.cell? ⟨b,o+i*4+3,none⟩=some (.bool p.2.2.2))
  (hcs:∀W n,Below w.heap.size w W→Calls Try.prog 53 #[.int .i64 n] W fun e W'=>e = .returned (.bool (aX n))∧Below W.heap.size W W')
  (hap:∀W,Below w.heap.size w W→Calls Try.prog 54 #[.slice pA l.length pc] W fun e W'=>e = .returned (.bool (eT l))∧Below W.heap.size W W')
  (hwi:∀W (x lo hi:Int),Below w.heap.size w W→Calls Try.prog 56 #[.int .i64 x,.int .i64 lo,.int .i64 hi] W fun e W'=>e = .returned (.bool (decide (lo≤x∧x≤hi)))∧Below W.heap.size W W')
  (hsz:eT l=true→∀W p,p∈ps→0≤p.1→p.1≤(l.length:Int) - 1→Below w.heap.size w W→Calls Try.prog 72 #[.slice pA l.length pc,DK p] W fun e W'=>e = .returned (.tuple #[.int .i64 ((szN l p).1:Int),.int .i64 ((szN l p).2:Int)])∧Below W.heap.size W W')
  (hro:eT l=true→∀W p wd ht g cap bs cs f,p∈ps→0≤p.1→p.1≤(l.length:Int) - 1→1≤wd→1≤ht→wd≤8→ht≤8→Below w.heap.size w W→Grd W w.heap.size g cap bs cs wd ht f→Calls Try.prog 57 #[.slice (some ⟨g,0,none⟩) ht cap,.slice pA l.length pc,DK p] W fun e W'=>e = .returned (.bool (jR wd ht f l p))∧Below W.heap.size W W') :
  Calls Try.prog 30 #[.int .i64 wi,.int .i64 hi,.slice pA l.length pc,.slice A ps.length c] w fun e w'=>Ho w (cG wi hi l ps) wi.toNat hi.toNat e w':=by
 go_enter Try.func30,Try.ntmps30
 have B0:Below w.heap.size w w:=IU _ w;have hcw:=hcs w wi B0;cases h1:aX wi
 ·have hno:cG wi hi l ps=none:=by unfold cG;rw [h1];rfl
  rw [h1] at hcw
  go_wp2_with (go_at_call 53;refine hcw.mono ?_;rintro e w2 ⟨rfl,hB2⟩)
  go_ret2
  exact⟨hB2,.inl ⟨hno,rfl⟩⟩
 rw [h1] at hcw;cases h2:aX hi
 ·have hno:cG wi hi l ps=none:=by unfold cG;rw [h1,h2];rfl
  have hch:∀W,Below w.heap.size w W→_:=fun W hW=>hcs W hi hW
  rw [h2] at hch
  go_wp2_with (first
   | (go_at_call 53;refine(hch _ hB2).mono ?_;rintro e w3 ⟨rfl,hB3⟩)
   | (go_at_call 53;refine hcw.mono ?_;rintro e w2 ⟨rfl,hB2⟩))
  go_ret2
  exact⟨hB2.trans (hB3.mono hB2.size),.inl ⟨hno,rfl⟩⟩
 have hch:∀W,Below w.heap.size w W→_:=fun W hW=>hcs W hi hW
 rw [h2] at hch;cases h3:eT l
 ·have hno:cG wi hi l ps=none:=by unfold cG;rw [h1,h2,h3];rfl
  rw [h3] at hap
  go_wp2_with (first
   | (go_at_call 54;refine(hap _ (hB2.trans (hB3.mono hB2.size))).mono ?_;rintro e w4 ⟨rfl,hB4⟩)
   | (go_at_call 53;refine(hch _ hB2).mono ?_;rintro e w3 ⟨rfl,hB3⟩)
   | (go_at_call 53;refine hcw.mono ?_;rintro e w2 ⟨rfl,hB2⟩))
  go_ret2
  have hB5:=hB2.trans (hB3.mono hB2.size);exact⟨hB5.trans (hB4.mono hB5.size),.inl ⟨hno,rfl⟩⟩
 rw [h3] at hap;have hyes:cG wi hi l ps=chG l wi.toNat hi.toNat none (fun _ _=>-1) ps:=by unfold cG;rw [h1,h2,h3];rfl
 have hsz:=hsz h3;have hro:=hro h3;have hl8:l.length≤8:=by
  unfold eT at h3;simp only [IZ,decide_eq_true_eq] at h3;exact h3.2
 obtain⟨wd,rfl⟩:∃n:Nat,wi=n:=⟨wi.toNat,by simp only [aX,decide_eq_true_eq] at h1;omega⟩
 obtain⟨ht,rfl⟩:∃n:Nat,hi=n:=⟨hi.toNat,by simp only [aX,decide_eq_true_eq] at h2;omega⟩
 have hw8:1≤wd∧wd≤8:=by simp only [aX,decide_eq_true_eq] at h1;omega
 have hh8:1≤ht∧ht≤8:=by simp only [aX,decide_eq_true_eq] at h2;omega
 rw [Ji,Ji] at hyes ⊢;rw [hyes];have hsk:∀p:Pl,0≤p.1→p.1≤(l.length:Int) - 1→_:=fun p=>wO (p:=p) h3
 clear hyes h1 h2 h3;have hem:=vA wd ht hw8.2 hh8.2
 go_wp2_with (first
  | (go_at_call 54;refine(hap _ (hB2.trans (hB3.mono hB2.size))).mono ?_;rintro e w4 ⟨rfl,hB4⟩)
  | (go_at_call 53;refine(hch _ hB2).mono ?_;rintro e w3 ⟨rfl,hB3⟩)
  | (go_at_call 53;refine hcw.mono ?_;rintro e w2 ⟨rfl,hB2⟩)
  | (go_at_call 55;refine(hem _).mono ?_;rintro e w5 ⟨g,cap,bs,cs,rfl,hG,hB5⟩))
 have B4:Below w.heap.size w w4:=(hB2.trans (hB3.mono hB2.size)).trans (hB4.mono (hB2.trans (hB3.mono hB2.size)).size);have B5:Below w.heap.size w w5:=B4.trans (hB5.mono B4.size);replace hG:=hG.base B4.size;clear hB2 hB3 hB4 B4 hcw hch hap hem hcs
 go_loopw [31] (fun vi wr=>∃(i:Nat) (f:Gr),vi = .int .i64 i∧i≤ps.length∧chG l wd ht none (fun _ _=>-1) ps=chG l wd ht (dV ps i) f (ps.drop i)∧Grd wr w.heap.size g cap bs cs wd ht f∧Below w.heap.size w wr) (fun vi _=>ps.length - (intOf vi).toNat)
 case atStart=>exact⟨0,_,rfl,Jb _,rfl,hG,B5⟩
 case round =>
  clear hG B5 hB5;obtain⟨i,f,rfl,hil,hch,hG,hB⟩:=hrel;by_cases hp:i<ps.length
  ·have hpi:(i:Int)<(ps.length:Int):=by omega
   obtain⟨b,o,rfl,hb,hcells⟩:=hA i hp;obtain⟨k1,k2,k3,k4⟩:=hcells i ps[i] (IM hp);have hmem:ps[i]∈ps:=Jj hp;rw [List.drop_eq_getElem_cons hp] at hch;obtain⟨q1,q2,q3,q4⟩:wr.cell? ⟨b,o+i*4,none⟩=some (.int .i64 ps[i].1)∧wr.cell? ⟨b,o+i*4+1,none⟩=some (.int .i64 ps[i].2.1)∧wr.cell? ⟨b,o+i*4+2,none⟩=some (.int .i64 ps[i].2.2.1)∧wr.cell? ⟨b,o+i*4+3,none⟩=some (.bool ps[i].2.2.2) :=
    ⟨(hB.cell hb).trans k1,(hB.cell hb).trans k2,(hB.cell hb).trans k3,(hB.cell hb).trans k4⟩
   clear k1 k2 k3 k4;have hsz':=fun W=>hsz W _ hmem
   have hro':=fun W wd ht g cap bs cs f=>hro W _ wd ht g cap bs cs f hmem
   have hskp:=hsk ps[i];have hpv:∀j,i=j+1→wr.cell? ⟨b,o+j*4,none⟩=some (.int .i64 (ps[j]?.getD (0,0,0,false)).1)∧dV ps i=some (ps[j]?.getD (0,0,0,false)).1:=fun j hj=>by
    have hjl:j<ps.length:=by omega
    refine⟨(hB.cell hb).trans ?_,?_⟩
    ·rw [IM hjl]
     exact(hcells j ps[j] (IM hjl)).1
    ·rw [hj]
     simp [dV,hjl]
   have hnx:dV ps (i+1)=some ps[i].1:=by simp [dV,hp]
   generalize ps[i]=p at *;obtain⟨n,X,Y,t⟩:=p;simp only at q1 q2 q3 q4 hskp hnx;have hwi1:=fun W=>hwi W n 0 ((l.length:Int) - 1)
   clear hwi
   go_upto_region 7 with fail
   have hwl:Jn.wrap ((l.length:Int) - 1)=(l.length:Int) - 1:=ai (by omega) (by omega);have P1:(wr.alloc (plO n X Y t)).heap[wr.heap.size]?=some (plO n X Y t):=eJ _ rfl;have L1:wr.heap.size<(wr.alloc (plO n X Y t)).heap.size:=cX P1;have B1:Below wr.heap.size wr (wr.alloc (plO n X Y t)):=(IU _ wr).alloc (IC _) _;have BB1:Below w.heap.size w (wr.alloc (plO n X Y t)):=hB.trans (B1.mono hB.size);have hG1:Grd (wr.alloc (plO n X Y t)) w.heap.size g cap bs cs wd ht f:=hG.below B1;have hpv1:∀j,i=j+1→(wr.alloc (plO n X Y t)).cell? ⟨b,o+j*4,none⟩=some (.int .i64 (ps[j]?.getD (0,0,0,false)).1)∧dV ps i=some (ps[j]?.getD (0,0,0,false)).1:=fun j hj=>⟨sw (hpv j hj).1,(hpv j hj).2⟩
   have hbr:b<wr.heap.size:=IJ hb hB.size;clear hpv q1 q2 q3 q4 hcells hA;obtain⟨N,hN⟩:∃N,N=wr.heap.size:=⟨_,rfl⟩
   rw [←hN] at P1 L1 hbr ⊢;clear hN;generalize wr.alloc (plO n X Y t)=W1 at *;obtain⟨d0,d1,d2,d3⟩:=au P1;have BD:Below w.heap.size w W1.drew:=BB1.trans ((uH W1).mono BB1.size);have hGD:Grd W1.drew w.heap.size g cap bs cs wd ht f:=hG1.below (uH W1);have PD:W1.drew.heap[N]?=some (plO n X Y t):=P1;have LD:N<W1.drew.heap.size:=L1;cases hv:decide (0≤n∧n≤(l.length:Int) - 1)
   ·have hno:chG l wd ht none (fun _ _=>-1) ps=none:=by
     rw [hch,chG,if_neg (by unfold tE;rw [hv];simp)]
    have HNO:Hid _:=hno;rw [hv] at hwi1;clear hch hno;refine wp_region_held_drew (S:=fun X2=>X2.cell? ⟨N,0,none⟩=some (.int .i64 n)∧X2.cell? ⟨N,1,none⟩=some (.int .i64 X)∧X2.cell? ⟨N,2,none⟩=some (.int .i64 Y)∧X2.cell? ⟨N,3,none⟩=some (.bool t)) (by kernel_rfl) (show _ from⟨d0,d1,d2,d3⟩) (fun hHeld=>?_)
    change wpAnyH _ _ _ _ _ 29 (IP 29 false) _ _
    refine aa (i:=0) (d:=36) (v:=?va1) rfl rfl (by kernel_rfl) (by kernel_rfl) (by kernel_rfl) (fun _ _ _ h=>h) (by rfl) ?ya1 hHeld ?ra1
    case ya1=>(intro w0 hSw;obtain⟨hSw0,hSw1,hSw2,hSw3⟩:=hSw;go_simp;try with_reducible rfl)
    (try simp only [IA,Ix,Iy,Iz])
    refine aa (i:=1) (d:=37) (v:=?va2) rfl rfl (by kernel_rfl) (by kernel_rfl) (by kernel_rfl) (fun _ _ _ h=>h) (by rfl) ?ya2 hHeld ?ra2
    case ya2=>(intro w0 hSw;obtain⟨hSw0,hSw1,hSw2,hSw3⟩:=hSw;go_simp;try with_reducible rfl)
    (try simp only [IA,Ix,Iy,Iz])
    refine aa (i:=2) (d:=38) (v:=?va3) rfl rfl (by kernel_rfl) (by kernel_rfl) (by kernel_rfl) (fun _ _ _ h=>h) (by rfl) ?ya3 hHeld ?ra3
    case ya3=>(intro w0 hSw;obtain⟨hSw0,hSw1,hSw2,hSw3⟩:=hSw;go_simp;try with_reducible rfl)
    (try simp only [IA,Ix,Iy,Iz])
    refine aa (i:=3) (d:=39) (v:=?va4) rfl rfl (by kernel_rfl) (by kernel_rfl) (by kernel_rfl) (fun _ _ _ h=>h) (by rfl) ?ya4 hHeld ?ra4
    case ya4=>(intro w0 hSw;obtain⟨hSw0,hSw1,hSw2,hSw3⟩:=hSw;go_simp;try with_reducible rfl)
    (try simp only [IA,Ix,Iy,Iz])
    refine aa (i:=4) (d:=40) (v:=?va5) rfl rfl (by kernel_rfl) (by kernel_rfl) (by kernel_rfl) (fun _ _ _ h=>h) (by rfl) ?ya5 hHeld ?ra5
    case ya5=>(intro w0 hSw;obtain⟨hSw0,hSw1,hSw2,hSw3⟩:=hSw;go_simp;try with_reducible rfl)
    (try simp only [IA,Ix,Iy,Iz])
    refine wpAnyH_ready (rs:=[5]) (by kernel_rfl) (by simp) ?_
    refine ID (o:=_) rfl (fun K hK=>?_) IG
    go_simp
    refine(hwi1 _ BD).mono ?_
    rintro e w2 ⟨rfl,hB2⟩;have P2:=du hB2 PD LD;have d0:=(au P2).1;have d1:=(au P2).2.1;have d2:=(au P2).2.2.1;have d3:=(au P2).2.2.2;refine hK.out _ _ (show _ from⟨d0,d1,d2,d3⟩) (fun hHeld=>?_)
    clear hK K
    (try simp only [IA,Ix,Iy,Iz])
    refine aa (i:=6) (d:=42) (v:=?va6) rfl rfl (by kernel_rfl) (by kernel_rfl) (by kernel_rfl) (fun _ _ _ h=>h) (by rfl) ?ya6 hHeld ?ra6
    case ya6=>(intro w0 hSw;obtain⟨hSw0,hSw1,hSw2,hSw3⟩:=hSw;go_simp;try with_reducible rfl)
    (try simp only [IA,Ix,Iy,Iz])
    refine aa (i:=7) (d:=43) (v:=?va7) rfl rfl (by kernel_rfl) (by kernel_rfl) (by kernel_rfl) (fun _ _ _ h=>h) (by rfl) ?ya7 hHeld ?ra7
    case ya7=>(intro w0 hSw;obtain⟨hSw0,hSw1,hSw2,hSw3⟩:=hSw;go_simp;try with_reducible rfl)
    (try simp only [IA,Ix,Iy,Iz])
    refine aq (i:=8) (d:=44) (j:=7) (e:=43) (want:=false) rfl rfl (by kernel_rfl) (by kernel_rfl) (by kernel_rfl) (fun _ _ _ h=>h) rfl rfl rfl rfl hHeld ?ra8
    (try simp only [IA,Ix,Iy,Iz])
    refine aq (i:=9) (d:=45) (j:=7) (e:=43) (want:=false) rfl rfl (by kernel_rfl) (by kernel_rfl) (by kernel_rfl) (fun _ _ _ h=>h) rfl rfl rfl rfl hHeld ?ra9
    (try simp only [IA,Ix,Iy,Iz])
    refine aq (i:=10) (d:=46) (j:=7) (e:=43) (want:=false) rfl rfl (by kernel_rfl) (by kernel_rfl) (by kernel_rfl) (fun _ _ _ h=>h) rfl rfl rfl rfl hHeld ?ra10
    (try simp only [IA,Ix,Iy,Iz])
    refine aq (i:=11) (d:=47) (j:=10) (e:=46) (want:=true) rfl rfl (by kernel_rfl) (by kernel_rfl) (by kernel_rfl) (fun _ _ _ h=>h) rfl rfl rfl rfl hHeld ?ra11
    (try simp only [IA,Ix,Iy,Iz])
    refine aq (i:=12) (d:=48) (j:=10) (e:=46) (want:=true) rfl rfl (by kernel_rfl) (by kernel_rfl) (by kernel_rfl) (fun _ _ _ h=>h) rfl rfl rfl rfl hHeld ?ra12
    (try simp only [IA,Ix,Iy,Iz])
    refine aq (i:=13) (d:=49) (j:=10) (e:=46) (want:=true) rfl rfl (by kernel_rfl) (by kernel_rfl) (by kernel_rfl) (fun _ _ _ h=>h) rfl rfl rfl rfl hHeld ?ra13
    (try simp only [IA,Ix,Iy,Iz])
    refine aq (i:=14) (d:=50) (j:=10) (e:=46) (want:=true) rfl rfl (by kernel_rfl) (by kernel_rfl) (by kernel_rfl) (fun _ _ _ h=>h) rfl rfl rfl rfl hHeld ?ra14
    (try simp only [IA,Ix,Iy,Iz])
    refine aq (i:=15) (d:=51) (j:=10) (e:=46) (want:=true) rfl rfl (by kernel_rfl) (by kernel_rfl) (by kernel_rfl) (fun _ _ _ h=>h) rfl rfl rfl rfl hHeld ?ra15
    (try simp only [IA,Ix,Iy,Iz])
    refine aq (i:=16) (d:=52) (j:=10) (e:=46) (want:=true) rfl rfl (by kernel_rfl) (by kernel_rfl) (by kernel_rfl) (fun _ _ _ h=>h) rfl rfl rfl rfl hHeld ?ra16
    (try simp only [IA,Ix,Iy,Iz])
    refine aq (i:=17) (d:=53) (j:=10) (e:=46) (want:=true) rfl rfl (by kernel_rfl) (by kernel_rfl) (by kernel_rfl) (fun _ _ _ h=>h) rfl rfl rfl rfl hHeld ?ra17
    (try simp only [IA,Ix,Iy,Iz])
    refine aq (i:=18) (d:=54) (j:=10) (e:=46) (want:=true) rfl rfl (by kernel_rfl) (by kernel_rfl) (by kernel_rfl) (fun _ _ _ h=>h) rfl rfl rfl rfl hHeld ?ra18
    (try simp only [IA,Ix,Iy,Iz])
    refine aq (i:=19) (d:=55) (j:=10) (e:=46) (want:=true) rfl rfl (by kernel_rfl) (by kernel_rfl) (by kernel_rfl) (fun _ _ _ h=>h) rfl rfl rfl rfl hHeld ?ra19
    (try simp only [IA,Ix,Iy,Iz])
    refine aq (i:=20) (d:=56) (j:=7) (e:=43) (want:=false) rfl rfl (by kernel_rfl) (by kernel_rfl) (by kernel_rfl) (fun _ _ _ h=>h) rfl rfl rfl rfl hHeld ?ra20
    (try simp only [IA,Ix,Iy,Iz])
    refine aa (i:=21) (d:=57) (v:=?va21) rfl rfl (by kernel_rfl) (by kernel_rfl) (by kernel_rfl) (fun _ _ _ h=>h) (by rfl) ?ya21 hHeld ?ra21
    case ya21=>(intro w0 hSw;obtain⟨hSw0,hSw1,hSw2,hSw3⟩:=hSw;go_simp;try with_reducible rfl)
    (try simp only [IA,Ix,Iy,Iz])
    refine aa (i:=22) (d:=58) (v:=?va22) rfl rfl (by kernel_rfl) (by kernel_rfl) (by kernel_rfl) (fun _ _ _ h=>h) (by rfl) ?ya22 hHeld ?ra22
    case ya22=>(intro w0 hSw;obtain⟨hSw0,hSw1,hSw2,hSw3⟩:=hSw;go_simp;try with_reducible rfl)
    (try simp only [IA,Ix,Iy,Iz])
    refine aq (i:=23) (d:=59) (j:=22) (e:=58) (want:=false) rfl rfl (by kernel_rfl) (by kernel_rfl) (by kernel_rfl) (fun _ _ _ h=>h) rfl rfl rfl rfl hHeld ?ra23
    (try simp only [IA,Ix,Iy,Iz])
    refine aq (i:=24) (d:=60) (j:=22) (e:=58) (want:=false) rfl rfl (by kernel_rfl) (by kernel_rfl) (by kernel_rfl) (fun _ _ _ h=>h) rfl rfl rfl rfl hHeld ?ra24
    (try simp only [IA,Ix,Iy,Iz])
    refine aq (i:=25) (d:=61) (j:=22) (e:=58) (want:=false) rfl rfl (by kernel_rfl) (by kernel_rfl) (by kernel_rfl) (fun _ _ _ h=>h) rfl rfl rfl rfl hHeld ?ra25
    (try simp only [IA,Ix,Iy,Iz])
    refine aq (i:=26) (d:=62) (j:=22) (e:=58) (want:=false) rfl rfl (by kernel_rfl) (by kernel_rfl) (by kernel_rfl) (fun _ _ _ h=>h) rfl rfl rfl rfl hHeld ?ra26
    (try simp only [IA,Ix,Iy,Iz])
    refine aq (i:=27) (d:=63) (j:=22) (e:=58) (want:=false) rfl rfl (by kernel_rfl) (by kernel_rfl) (by kernel_rfl) (fun _ _ _ h=>h) rfl rfl rfl rfl hHeld ?ra27
    (try simp only [IA,Ix,Iy,Iz])
    refine aa (i:=28) (d:=64) (v:=?va28) rfl rfl (by kernel_rfl) (by kernel_rfl) (by kernel_rfl) (fun _ _ _ h=>h) (by rfl) ?ya28 hHeld ?ra28
    case ya28=>(intro w0 hSw;obtain⟨hSw0,hSw1,hSw2,hSw3⟩:=hSw;go_simp;try with_reducible rfl)
    (try simp only [IA,Ix,Iy,Iz])
    refine wpAnyH_done (by kernel_rfl) ?_ _
    go_wp2
    go_ret2
    exact⟨BD.trans (hB2.mono BD.size),.inl ⟨HNO.out,rfl⟩⟩
   rw [hv] at hwi1;obtain⟨n0,n1⟩:=of_decide_eq_true hv;have hskq:=hskp n0 n1;have hroom:=fun W h1 h2=>hro' W wd ht g cap bs cs f n0 n1 hw8.1 hh8.1 hw8.2 hh8.2 h1 h2
   clear hv;by_cases hi0:i=0
   ·subst hi0
    clear hpv1;have hlt:True:=trivial;cases hr:jR wd ht f l (n,X,Y,t)
    ·have hno:chG l wd ht none (fun _ _=>-1) ps=none:=by
      rw [hch,chG,if_neg (by rw [hr];simp)]
     have HNO:Hid _:=hno;rw [hr] at hroom;clear hch hno;refine wp_region_held_drew (S:=fun X2=>X2.cell? ⟨N,0,none⟩=some (.int .i64 n)∧X2.cell? ⟨N,1,none⟩=some (.int .i64 X)∧X2.cell? ⟨N,2,none⟩=some (.int .i64 Y)∧X2.cell? ⟨N,3,none⟩=some (.bool t)) (by kernel_rfl) (show _ from⟨d0,d1,d2,d3⟩) (fun hHeld=>?_)
     change wpAnyH _ _ _ _ _ 29 (IP 29 false) _ _
     refine aa (i:=0) (d:=36) (v:=?vb1) rfl rfl (by kernel_rfl) (by kernel_rfl) (by kernel_rfl) (fun _ _ _ h=>h) (by rfl) ?yb1 hHeld ?rb1
     case yb1=>(intro w0 hSw;obtain⟨hSw0,hSw1,hSw2,hSw3⟩:=hSw;go_simp;try with_reducible rfl)
     (try simp only [IA,Ix,Iy,Iz])
     refine aa (i:=1) (d:=37) (v:=?vb2) rfl rfl (by kernel_rfl) (by kernel_rfl) (by kernel_rfl) (fun _ _ _ h=>h) (by rfl) ?yb2 hHeld ?rb2
     case yb2=>(intro w0 hSw;obtain⟨hSw0,hSw1,hSw2,hSw3⟩:=hSw;go_simp;try with_reducible rfl)
     (try simp only [IA,Ix,Iy,Iz])
     refine aa (i:=2) (d:=38) (v:=?vb3) rfl rfl (by kernel_rfl) (by kernel_rfl) (by kernel_rfl) (fun _ _ _ h=>h) (by rfl) ?yb3 hHeld ?rb3
     case yb3=>(intro w0 hSw;obtain⟨hSw0,hSw1,hSw2,hSw3⟩:=hSw;go_simp;try with_reducible rfl)
     (try simp only [IA,Ix,Iy,Iz])
     refine aa (i:=3) (d:=39) (v:=?vb4) rfl rfl (by kernel_rfl) (by kernel_rfl) (by kernel_rfl) (fun _ _ _ h=>h) (by rfl) ?yb4 hHeld ?rb4
     case yb4=>(intro w0 hSw;obtain⟨hSw0,hSw1,hSw2,hSw3⟩:=hSw;go_simp;try with_reducible rfl)
     (try simp only [IA,Ix,Iy,Iz])
     refine aa (i:=4) (d:=40) (v:=?vb5) rfl rfl (by kernel_rfl) (by kernel_rfl) (by kernel_rfl) (fun _ _ _ h=>h) (by rfl) ?yb5 hHeld ?rb5
     case yb5=>(intro w0 hSw;obtain⟨hSw0,hSw1,hSw2,hSw3⟩:=hSw;go_simp;try with_reducible rfl)
     (try simp only [IA,Ix,Iy,Iz])
     refine wpAnyH_ready (rs:=[5]) (by kernel_rfl) (by simp) ?_
     refine ID (o:=_) rfl (fun K hK=>?_) IG
     go_simp
     refine(hwi1 _ BD).mono ?_
     rintro e w2 ⟨rfl,hB2⟩;have P2:=du hB2 PD LD;have d0:=(au P2).1;have d1:=(au P2).2.1;have d2:=(au P2).2.2.1;have d3:=(au P2).2.2.2;refine hK.out _ _ (show _ from⟨d0,d1,d2,d3⟩) (fun hHeld=>?_)
     clear hK K
     (try simp only [IA,Ix,Iy,Iz])
     refine aa (i:=6) (d:=42) (v:=?vb6) rfl rfl (by kernel_rfl) (by kernel_rfl) (by kernel_rfl) (fun _ _ _ h=>h) (by rfl) ?yb6 hHeld ?rb6
     case yb6=>(intro w0 hSw;obtain⟨hSw0,hSw1,hSw2,hSw3⟩:=hSw;go_simp;try with_reducible rfl)
     (try simp only [IA,Ix,Iy,Iz])
     refine aa (i:=7) (d:=43) (v:=?vb7) rfl rfl (by kernel_rfl) (by kernel_rfl) (by kernel_rfl) (fun _ _ _ h=>h) (by rfl) ?yb7 hHeld ?rb7
     case yb7=>(intro w0 hSw;obtain⟨hSw0,hSw1,hSw2,hSw3⟩:=hSw;go_simp;try with_reducible rfl)
     (try simp only [IA,Ix,Iy,Iz])
     refine aa (i:=8) (d:=44) (v:=?vb8) rfl rfl (by kernel_rfl) (by kernel_rfl) (by kernel_rfl) (fun _ _ _ h=>h) (ak (j:=7) (d:=43) (want:=false) rfl rfl rfl) ?yb8 hHeld ?rb8
     case yb8=>(intro w0 hSw;obtain⟨hSw0,hSw1,hSw2,hSw3⟩:=hSw;go_simp;try with_reducible rfl)
     (try simp only [IA,Ix,Iy,Iz])
     refine aa (i:=9) (d:=45) (v:=?vb9) rfl rfl (by kernel_rfl) (by kernel_rfl) (by kernel_rfl) (fun _ _ _ h=>h) (ak (j:=7) (d:=43) (want:=false) rfl rfl rfl) ?yb9 hHeld ?rb9
     case yb9=>(intro w0 hSw;obtain⟨hSw0,hSw1,hSw2,hSw3⟩:=hSw;go_simp;try with_reducible rfl)
     (try simp only [IA,Ix,Iy,Iz])
     refine aa (i:=10) (d:=46) (v:=?vb10) rfl rfl (by kernel_rfl) (by kernel_rfl) (by kernel_rfl) (fun _ _ _ h=>h) (ak (j:=7) (d:=43) (want:=false) rfl rfl rfl) ?yb10 hHeld ?rb10
     case yb10=>(intro w0 hSw;obtain⟨hSw0,hSw1,hSw2,hSw3⟩:=hSw;go_simp;try with_reducible rfl)
     (try simp only [IA,Ix,Iy,Iz])
     refine aq (i:=11) (d:=47) (j:=10) (e:=46) (want:=true) rfl rfl (by kernel_rfl) (by kernel_rfl) (by kernel_rfl) (fun _ _ _ h=>h) rfl rfl rfl rfl hHeld ?rb11
     (try simp only [IA,Ix,Iy,Iz])
     refine aq (i:=12) (d:=48) (j:=10) (e:=46) (want:=true) rfl rfl (by kernel_rfl) (by kernel_rfl) (by kernel_rfl) (fun _ _ _ h=>h) rfl rfl rfl rfl hHeld ?rb12
     (try simp only [IA,Ix,Iy,Iz])
     refine aq (i:=13) (d:=49) (j:=10) (e:=46) (want:=true) rfl rfl (by kernel_rfl) (by kernel_rfl) (by kernel_rfl) (fun _ _ _ h=>h) rfl rfl rfl rfl hHeld ?rb13
     (try simp only [IA,Ix,Iy,Iz])
     refine aq (i:=14) (d:=50) (j:=10) (e:=46) (want:=true) rfl rfl (by kernel_rfl) (by kernel_rfl) (by kernel_rfl) (fun _ _ _ h=>h) rfl rfl rfl rfl hHeld ?rb14
     (try simp only [IA,Ix,Iy,Iz])
     refine aq (i:=15) (d:=51) (j:=10) (e:=46) (want:=true) rfl rfl (by kernel_rfl) (by kernel_rfl) (by kernel_rfl) (fun _ _ _ h=>h) rfl rfl rfl rfl hHeld ?rb15
     (try simp only [IA,Ix,Iy,Iz])
     refine aq (i:=16) (d:=52) (j:=10) (e:=46) (want:=true) rfl rfl (by kernel_rfl) (by kernel_rfl) (by kernel_rfl) (fun _ _ _ h=>h) rfl rfl rfl rfl hHeld ?rb16
     (try simp only [IA,Ix,Iy,Iz])
     refine aq (i:=17) (d:=53) (j:=10) (e:=46) (want:=true) rfl rfl (by kernel_rfl) (by kernel_rfl) (by kernel_rfl) (fun _ _ _ h=>h) rfl rfl rfl rfl hHeld ?rb17
     (try simp only [IA,Ix,Iy,Iz])
     refine aq (i:=18) (d:=54) (j:=10) (e:=46) (want:=true) rfl rfl (by kernel_rfl) (by kernel_rfl) (by kernel_rfl) (fun _ _ _ h=>h) rfl rfl rfl rfl hHeld ?rb18
     (try simp only [IA,Ix,Iy,Iz])
     refine aq (i:=19) (d:=55) (j:=10) (e:=46) (want:=true) rfl rfl (by kernel_rfl) (by kernel_rfl) (by kernel_rfl) (fun _ _ _ h=>h) rfl rfl rfl rfl hHeld ?rb19
     (try simp only [IA,Ix,Iy,Iz])
     refine aa (i:=20) (d:=56) (v:=?vb20) rfl rfl (by kernel_rfl) (by kernel_rfl) (by kernel_rfl) (fun _ _ _ h=>h) (ak (j:=7) (d:=43) (want:=false) rfl rfl rfl) ?yb20 hHeld ?rb20
     case yb20=>(intro w0 hSw;obtain⟨hSw0,hSw1,hSw2,hSw3⟩:=hSw;go_simp;try with_reducible rfl)
     (try simp only [IA,Ix,Iy,Iz])
     refine aa (i:=21) (d:=57) (v:=?vb21) rfl rfl (by kernel_rfl) (by kernel_rfl) (by kernel_rfl) (fun _ _ _ h=>h) (by rfl) ?yb21 hHeld ?rb21
     case yb21=>(intro w0 hSw;obtain⟨hSw0,hSw1,hSw2,hSw3⟩:=hSw;go_simp;try with_reducible rfl)
     (try simp only [IA,Ix,Iy,Iz])
     refine aa (i:=22) (d:=58) (v:=?vb22) rfl rfl (by kernel_rfl) (by kernel_rfl) (by kernel_rfl) (fun _ _ _ h=>h) (by rfl) ?yb22 hHeld ?rb22
     case yb22=>(intro w0 hSw;obtain⟨hSw0,hSw1,hSw2,hSw3⟩:=hSw;go_simp;try with_reducible rfl)
     (try simp only [IA,Ix,Iy,Iz])
     refine aa (i:=23) (d:=59) (v:=?vb23) rfl rfl (by kernel_rfl) (by kernel_rfl) (by kernel_rfl) (fun _ _ _ h=>h) (ak (j:=22) (d:=58) (want:=false) rfl rfl rfl) ?yb23 hHeld ?rb23
     case yb23=>(intro w0 hSw;obtain⟨hSw0,hSw1,hSw2,hSw3⟩:=hSw;go_simp;try with_reducible rfl)
     (try simp only [IA,Ix,Iy,Iz])
     refine aa (i:=24) (d:=60) (v:=?vb24) rfl rfl (by kernel_rfl) (by kernel_rfl) (by kernel_rfl) (fun _ _ _ h=>h) (ak (j:=22) (d:=58) (want:=false) rfl rfl rfl) ?yb24 hHeld ?rb24
     case yb24=>(intro w0 hSw;obtain⟨hSw0,hSw1,hSw2,hSw3⟩:=hSw;go_simp;try with_reducible rfl)
     (try simp only [IA,Ix,Iy,Iz])
     refine aa (i:=25) (d:=61) (v:=?vb25) rfl rfl (by kernel_rfl) (by kernel_rfl) (by kernel_rfl) (fun _ _ _ h=>h) (ak (j:=22) (d:=58) (want:=false) rfl rfl rfl) ?yb25 hHeld ?rb25
     case yb25=>(intro w0 hSw;obtain⟨hSw0,hSw1,hSw2,hSw3⟩:=hSw;go_simp;try with_reducible rfl)
     (try simp only [IA,Ix,Iy,Iz])
     refine wpAnyH_ready (rs:=[26]) (by kernel_rfl) (by simp) ?_
     refine ID (o:=_) rfl (fun K hK=>?_) IG
     go_simp
     refine(hroom _ (BD.trans (hB2.mono BD.size)) (hGD.below hB2)).mono ?_
     rintro e w3 ⟨rfl,hB3⟩;have P3:=du hB3 P2 (cX P2);have d0:=(au P3).1;have d1:=(au P3).2.1;have d2:=(au P3).2.2.1;have d3:=(au P3).2.2.2;refine hK.out _ _ (show _ from⟨d0,d1,d2,d3⟩) (fun hHeld=>?_)
     clear hK K
     (try simp only [IA,Ix,Iy,Iz])
     refine aa (i:=27) (d:=63) (v:=?vb26) rfl rfl (by kernel_rfl) (by kernel_rfl) (by kernel_rfl) (fun _ _ _ h=>h) (ak (j:=22) (d:=58) (want:=false) rfl rfl rfl) ?yb26 hHeld ?rb26
     case yb26=>(intro w0 hSw;obtain⟨hSw0,hSw1,hSw2,hSw3⟩:=hSw;go_simp;try with_reducible rfl)
     (try simp only [IA,Ix,Iy,Iz])
     refine aa (i:=28) (d:=64) (v:=?vb27) rfl rfl (by kernel_rfl) (by kernel_rfl) (by kernel_rfl) (fun _ _ _ h=>h) (by rfl) ?yb27 hHeld ?rb27
     case yb27=>(intro w0 hSw;obtain⟨hSw0,hSw1,hSw2,hSw3⟩:=hSw;go_simp;try with_reducible rfl)
     (try simp only [IA,Ix,Iy,Iz])
     refine wpAnyH_done (by kernel_rfl) ?_ _
     go_wp2
     go_ret2
     have BB2:=BD.trans (hB2.mono BD.size);exact⟨BB2.trans (hB3.mono BB2.size),.inl ⟨HNO.out,rfl⟩⟩
    ·have hyes:chG l wd ht none (fun _ _=>-1) ps=chG l wd ht (dV ps (0+1)) (qk f l (n,X,Y,t)) (ps.drop (0+1)):=by
      rw [hch,chG,if_pos (by rw [hr];simp [tE,dV,n0,n1,hlt]),hnx]
     rw [hr] at hroom;obtain⟨r1,r2,r3,r4,-⟩:jk wd ht f l (n,X,Y,t):=by
      unfold jR at hr;exact(@decide_eq_true_iff _ (Jf _)).1 hr
     simp only at r1 r2 r3 r4;have hX:=IV r1;have hY:=IV r2;have hput:qk f l (n,X,Y,t)=mkA f X.toNat Y.toNat (szN l (n,X,Y,t)).1 (szN l (n,X,Y,t)).2 n:=rfl;rw [hput] at hyes;have hszm:=fun W=>hsz' W n0 n1
     obtain⟨a,ha⟩:∃a,a=(szN l (n,X,Y,t)).1:=⟨_,rfl⟩
     obtain⟨b2,hb2⟩:∃a,a=(szN l (n,X,Y,t)).2:=⟨_,rfl⟩
     rw [←ha,←hb2] at hyes;rw [←ha] at r3;rw [←hb2] at r4;simp only [←ha,←hb2] at hszm;have hxa:X.toNat+a≤wd:=by omega
     have hyb:Y.toNat+b2≤ht:=by omega
     have HY:Hid _:=hyes;have HX:Hid _:=hX;have HYY:Hid _:=hY;clear ha hb2 hput hyes hch hskq hskp r1 r2 r3 r4 hX hY;refine wp_region_held_drew (S:=fun X2=>X2.cell? ⟨N,0,none⟩=some (.int .i64 n)∧X2.cell? ⟨N,1,none⟩=some (.int .i64 X)∧X2.cell? ⟨N,2,none⟩=some (.int .i64 Y)∧X2.cell? ⟨N,3,none⟩=some (.bool t)) (by kernel_rfl) (show _ from⟨d0,d1,d2,d3⟩) (fun hHeld=>?_)
     change wpAnyH _ _ _ _ _ 29 (IP 29 false) _ _
     refine aa (i:=0) (d:=36) (v:=?vc1) rfl rfl (by kernel_rfl) (by kernel_rfl) (by kernel_rfl) (fun _ _ _ h=>h) (by rfl) ?yc1 hHeld ?rc1
     case yc1=>(intro w0 hSw;obtain⟨hSw0,hSw1,hSw2,hSw3⟩:=hSw;go_simp;try with_reducible rfl)
     (try simp only [IA,Ix,Iy,Iz])
     refine aa (i:=1) (d:=37) (v:=?vc2) rfl rfl (by kernel_rfl) (by kernel_rfl) (by kernel_rfl) (fun _ _ _ h=>h) (by rfl) ?yc2 hHeld ?rc2
     case yc2=>(intro w0 hSw;obtain⟨hSw0,hSw1,hSw2,hSw3⟩:=hSw;go_simp;try with_reducible rfl)
     (try simp only [IA,Ix,Iy,Iz])
     refine aa (i:=2) (d:=38) (v:=?vc3) rfl rfl (by kernel_rfl) (by kernel_rfl) (by kernel_rfl) (fun _ _ _ h=>h) (by rfl) ?yc3 hHeld ?rc3
     case yc3=>(intro w0 hSw;obtain⟨hSw0,hSw1,hSw2,hSw3⟩:=hSw;go_simp;try with_reducible rfl)
     (try simp only [IA,Ix,Iy,Iz])
     refine aa (i:=3) (d:=39) (v:=?vc4) rfl rfl (by kernel_rfl) (by kernel_rfl) (by kernel_rfl) (fun _ _ _ h=>h) (by rfl) ?yc4 hHeld ?rc4
     case yc4=>(intro w0 hSw;obtain⟨hSw0,hSw1,hSw2,hSw3⟩:=hSw;go_simp;try with_reducible rfl)
     (try simp only [IA,Ix,Iy,Iz])
     refine aa (i:=4) (d:=40) (v:=?vc5) rfl rfl (by kernel_rfl) (by kernel_rfl) (by kernel_rfl) (fun _ _ _ h=>h) (by rfl) ?yc5 hHeld ?rc5
     case yc5=>(intro w0 hSw;obtain⟨hSw0,hSw1,hSw2,hSw3⟩:=hSw;go_simp;try with_reducible rfl)
     (try simp only [IA,Ix,Iy,Iz])
     refine wpAnyH_ready (rs:=[5]) (by kernel_rfl) (by simp) ?_
     refine ID (o:=_) rfl (fun K hK=>?_) IG
     go_simp
     refine(hwi1 _ BD).mono ?_
     rintro e w2 ⟨rfl,hB2⟩;have P2:=du hB2 PD LD;have d0:=(au P2).1;have d1:=(au P2).2.1;have d2:=(au P2).2.2.1;have d3:=(au P2).2.2.2;refine hK.out _ _ (show _ from⟨d0,d1,d2,d3⟩) (fun hHeld=>?_)
     clear hK K
     (try simp only [IA,Ix,Iy,Iz])
     refine aa (i:=6) (d:=42) (v:=?vc6) rfl rfl (by kernel_rfl) (by kernel_rfl) (by kernel_rfl) (fun _ _ _ h=>h) (by rfl) ?yc6 hHeld ?rc6
     case yc6=>(intro w0 hSw;obtain⟨hSw0,hSw1,hSw2,hSw3⟩:=hSw;go_simp;try with_reducible rfl)
     (try simp only [IA,Ix,Iy,Iz])
     refine aa (i:=7) (d:=43) (v:=?vc7) rfl rfl (by kernel_rfl) (by kernel_rfl) (by kernel_rfl) (fun _ _ _ h=>h) (by rfl) ?yc7 hHeld ?rc7
     case yc7=>(intro w0 hSw;obtain⟨hSw0,hSw1,hSw2,hSw3⟩:=hSw;go_simp;try with_reducible rfl)
     (try simp only [IA,Ix,Iy,Iz])
     refine aa (i:=8) (d:=44) (v:=?vc8) rfl rfl (by kernel_rfl) (by kernel_rfl) (by kernel_rfl) (fun _ _ _ h=>h) (ak (j:=7) (d:=43) (want:=false) rfl rfl rfl) ?yc8 hHeld ?rc8
     case yc8=>(intro w0 hSw;obtain⟨hSw0,hSw1,hSw2,hSw3⟩:=hSw;go_simp;try with_reducible rfl)
     (try simp only [IA,Ix,Iy,Iz])
     refine aa (i:=9) (d:=45) (v:=?vc9) rfl rfl (by kernel_rfl) (by kernel_rfl) (by kernel_rfl) (fun _ _ _ h=>h) (ak (j:=7) (d:=43) (want:=false) rfl rfl rfl) ?yc9 hHeld ?rc9
     case yc9=>(intro w0 hSw;obtain⟨hSw0,hSw1,hSw2,hSw3⟩:=hSw;go_simp;try with_reducible rfl)
     (try simp only [IA,Ix,Iy,Iz])
     refine aa (i:=10) (d:=46) (v:=?vc10) rfl rfl (by kernel_rfl) (by kernel_rfl) (by kernel_rfl) (fun _ _ _ h=>h) (ak (j:=7) (d:=43) (want:=false) rfl rfl rfl) ?yc10 hHeld ?rc10
     case yc10=>(intro w0 hSw;obtain⟨hSw0,hSw1,hSw2,hSw3⟩:=hSw;go_simp;try with_reducible rfl)
     (try simp only [IA,Ix,Iy,Iz])
     refine aq (i:=11) (d:=47) (j:=10) (e:=46) (want:=true) rfl rfl (by kernel_rfl) (by kernel_rfl) (by kernel_rfl) (fun _ _ _ h=>h) rfl rfl rfl rfl hHeld ?rc11
     (try simp only [IA,Ix,Iy,Iz])
     refine aq (i:=12) (d:=48) (j:=10) (e:=46) (want:=true) rfl rfl (by kernel_rfl) (by kernel_rfl) (by kernel_rfl) (fun _ _ _ h=>h) rfl rfl rfl rfl hHeld ?rc12
     (try simp only [IA,Ix,Iy,Iz])
     refine aq (i:=13) (d:=49) (j:=10) (e:=46) (want:=true) rfl rfl (by kernel_rfl) (by kernel_rfl) (by kernel_rfl) (fun _ _ _ h=>h) rfl rfl rfl rfl hHeld ?rc13
     (try simp only [IA,Ix,Iy,Iz])
     refine aq (i:=14) (d:=50) (j:=10) (e:=46) (want:=true) rfl rfl (by kernel_rfl) (by kernel_rfl) (by kernel_rfl) (fun _ _ _ h=>h) rfl rfl rfl rfl hHeld ?rc14
     (try simp only [IA,Ix,Iy,Iz])
     refine aq (i:=15) (d:=51) (j:=10) (e:=46) (want:=true) rfl rfl (by kernel_rfl) (by kernel_rfl) (by kernel_rfl) (fun _ _ _ h=>h) rfl rfl rfl rfl hHeld ?rc15
     (try simp only [IA,Ix,Iy,Iz])
     refine aq (i:=16) (d:=52) (j:=10) (e:=46) (want:=true) rfl rfl (by kernel_rfl) (by kernel_rfl) (by kernel_rfl) (fun _ _ _ h=>h) rfl rfl rfl rfl hHeld ?rc16
     (try simp only [IA,Ix,Iy,Iz])
     refine aq (i:=17) (d:=53) (j:=10) (e:=46) (want:=true) rfl rfl (by kernel_rfl) (by kernel_rfl) (by kernel_rfl) (fun _ _ _ h=>h) rfl rfl rfl rfl hHeld ?rc17
     (try simp only [IA,Ix,Iy,Iz])
     refine aq (i:=18) (d:=54) (j:=10) (e:=46) (want:=true) rfl rfl (by kernel_rfl) (by kernel_rfl) (by kernel_rfl) (fun _ _ _ h=>h) rfl rfl rfl rfl hHeld ?rc18
     (try simp only [IA,Ix,Iy,Iz])
     refine aq (i:=19) (d:=55) (j:=10) (e:=46) (want:=true) rfl rfl (by kernel_rfl) (by kernel_rfl) (by kernel_rfl) (fun _ _ _ h=>h) rfl rfl rfl rfl hHeld ?rc19
     (try simp only [IA,Ix,Iy,Iz])
     refine aa (i:=20) (d:=56) (v:=?vc20) rfl rfl (by kernel_rfl) (by kernel_rfl) (by kernel_rfl) (fun _ _ _ h=>h) (ak (j:=7) (d:=43) (want:=false) rfl rfl rfl) ?yc20 hHeld ?rc20
     case yc20=>(intro w0 hSw;obtain⟨hSw0,hSw1,hSw2,hSw3⟩:=hSw;go_simp;try with_reducible rfl)
     (try simp only [IA,Ix,Iy,Iz])
     refine aa (i:=21) (d:=57) (v:=?vc21) rfl rfl (by kernel_rfl) (by kernel_rfl) (by kernel_rfl) (fun _ _ _ h=>h) (by rfl) ?yc21 hHeld ?rc21
     case yc21=>(intro w0 hSw;obtain⟨hSw0,hSw1,hSw2,hSw3⟩:=hSw;go_simp;try with_reducible rfl)
     (try simp only [IA,Ix,Iy,Iz])
     refine aa (i:=22) (d:=58) (v:=?vc22) rfl rfl (by kernel_rfl) (by kernel_rfl) (by kernel_rfl) (fun _ _ _ h=>h) (by rfl) ?yc22 hHeld ?rc22
     case yc22=>(intro w0 hSw;obtain⟨hSw0,hSw1,hSw2,hSw3⟩:=hSw;go_simp;try with_reducible rfl)
     (try simp only [IA,Ix,Iy,Iz])
     refine aa (i:=23) (d:=59) (v:=?vc23) rfl rfl (by kernel_rfl) (by kernel_rfl) (by kernel_rfl) (fun _ _ _ h=>h) (ak (j:=22) (d:=58) (want:=false) rfl rfl rfl) ?yc23 hHeld ?rc23
     case yc23=>(intro w0 hSw;obtain⟨hSw0,hSw1,hSw2,hSw3⟩:=hSw;go_simp;try with_reducible rfl)
     (try simp only [IA,Ix,Iy,Iz])
     refine aa (i:=24) (d:=60) (v:=?vc24) rfl rfl (by kernel_rfl) (by kernel_rfl) (by kernel_rfl) (fun _ _ _ h=>h) (ak (j:=22) (d:=58) (want:=false) rfl rfl rfl) ?yc24 hHeld ?rc24
     case yc24=>(intro w0 hSw;obtain⟨hSw0,hSw1,hSw2,hSw3⟩:=hSw;go_simp;try with_reducible rfl)
     (try simp only [IA,Ix,Iy,Iz])
     refine aa (i:=25) (d:=61) (v:=?vc25) rfl rfl (by kernel_rfl) (by kernel_rfl) (by kernel_rfl) (fun _ _ _ h=>h) (ak (j:=22) (d:=58) (want:=false) rfl rfl rfl) ?yc25 hHeld ?rc25
     case yc25=>(intro w0 hSw;obtain⟨hSw0,hSw1,hSw2,hSw3⟩:=hSw;go_simp;try with_reducible rfl)
     (try simp only [IA,Ix,Iy,Iz])
     refine wpAnyH_ready (rs:=[26]) (by kernel_rfl) (by simp) ?_
     refine ID (o:=_) rfl (fun K hK=>?_) IG
     go_simp
     refine(hroom _ (BD.trans (hB2.mono BD.size)) (hGD.below hB2)).mono ?_
     rintro e w3 ⟨rfl,hB3⟩;have P3:=du hB3 P2 (cX P2);have d0:=(au P3).1;have d1:=(au P3).2.1;have d2:=(au P3).2.2.1;have d3:=(au P3).2.2.2;refine hK.out _ _ (show _ from⟨d0,d1,d2,d3⟩) (fun hHeld=>?_)
     clear hK K
     (try simp only [IA,Ix,Iy,Iz])
     refine aa (i:=27) (d:=63) (v:=?vc26) rfl rfl (by kernel_rfl) (by kernel_rfl) (by kernel_rfl) (fun _ _ _ h=>h) (ak (j:=22) (d:=58) (want:=false) rfl rfl rfl) ?yc26 hHeld ?rc26
     case yc26=>(intro w0 hSw;obtain⟨hSw0,hSw1,hSw2,hSw3⟩:=hSw;go_simp;try with_reducible rfl)
     (try simp only [IA,Ix,Iy,Iz])
     refine aa (i:=28) (d:=64) (v:=?vc27) rfl rfl (by kernel_rfl) (by kernel_rfl) (by kernel_rfl) (fun _ _ _ h=>h) (by rfl) ?yc27 hHeld ?rc27
     case yc27=>(intro w0 hSw;obtain⟨hSw0,hSw1,hSw2,hSw3⟩:=hSw;go_simp;try with_reducible rfl)
     (try simp only [IA,Ix,Iy,Iz])
     refine wpAnyH_done (by kernel_rfl) ?_ _
     have BB2:=BD.trans (hB2.mono BD.size);have BB3:=BB2.trans (hB3.mono BB2.size);have hG3:=(hGD.below hB2).below hB3;have hmk:=wP w3 w.heap.size g cap wd ht bs cs f hG3 hw8.2 hh8.2 (.slice pA l.length pc) n X.toNat Y.toNat a b2 t n hxa hyb (fun W hW=>by rw [HX.out,HYY.out];exact hszm W (BB3.trans (hW.mono BB3.size)));rw [HX.out,HYY.out] at hmk
     go_wp2_with (go_at_call 58;refine hmk.mono ?_;rintro e w4 ⟨rfl,hG4,hK4⟩)
     refine⟨⟨0+1,_,congrArg (IQ .i64) (by omega),by omega,HY.out,hG4,BB3.trans (hK4.below BB3.size fun y hy=>(hG.row y hy).1)⟩,?_⟩
     show ps.length - ((0:Int)+1).toNat<ps.length - (0:Int).toNat
     omega
   ·obtain⟨j,rfl⟩:∃j,i=j+1:=⟨i - 1,by omega⟩
    clear hi0;replace hpv1:=hpv1 j rfl;have hi1:(((j+1:Nat):Int)>0)=True:=eq_true (by omega);have hwj3:Jn.wrap (j:Int)=(j:Int):=ai (by omega) (by omega);have hjl:(j:Int)<(ps.length:Int):=by omega
    have hj0:(0:Int)≤(j:Int):=by omega
    generalize (ps[j]?.getD (0,0,0,false)).1=q at *;obtain⟨ep,hpq⟩:=hpv1;have epd:W1.drew.cell? ⟨b,o+j*4,none⟩=some (.int .i64 q):=ep;by_cases hlt:q<n
    ·have hge:¬q≥n:=by omega
     rw [hpq] at hch;cases hr:jR wd ht f l (n,X,Y,t)
     ·have hno:chG l wd ht none (fun _ _=>-1) ps=none:=by
       rw [hch,chG,if_neg (by rw [hr];simp)]
      have HNO:Hid _:=hno;rw [hr] at hroom;clear hch hno;refine wp_region_held_drew (S:=fun X2=>X2.cell? ⟨N,0,none⟩=some (.int .i64 n)∧X2.cell? ⟨N,1,none⟩=some (.int .i64 X)∧X2.cell? ⟨N,2,none⟩=some (.int .i64 Y)∧X2.cell? ⟨N,3,none⟩=some (.bool t)∧X2.cell? ⟨b,o+j*4,none⟩=some (.int .i64 q)) (by kernel_rfl) (show _ from⟨d0,d1,d2,d3,ep⟩) (fun hHeld=>?_)
      change wpAnyH _ _ _ _ _ 29 (IP 29 false) _ _
      refine aa (i:=0) (d:=36) (v:=?vd1) rfl rfl (by kernel_rfl) (by kernel_rfl) (by kernel_rfl) (fun _ _ _ h=>h) (by rfl) ?yd1 hHeld ?rd1
      case yd1=>(intro w0 hSw;obtain⟨hSw0,hSw1,hSw2,hSw3,hSw4⟩:=hSw;go_simp;try with_reducible rfl)
      (try simp only [IA,Ix,Iy,Iz])
      refine aa (i:=1) (d:=37) (v:=?vd2) rfl rfl (by kernel_rfl) (by kernel_rfl) (by kernel_rfl) (fun _ _ _ h=>h) (by rfl) ?yd2 hHeld ?rd2
      case yd2=>(intro w0 hSw;obtain⟨hSw0,hSw1,hSw2,hSw3,hSw4⟩:=hSw;go_simp;try with_reducible rfl)
      (try simp only [IA,Ix,Iy,Iz])
      refine aa (i:=2) (d:=38) (v:=?vd3) rfl rfl (by kernel_rfl) (by kernel_rfl) (by kernel_rfl) (fun _ _ _ h=>h) (by rfl) ?yd3 hHeld ?rd3
      case yd3=>(intro w0 hSw;obtain⟨hSw0,hSw1,hSw2,hSw3,hSw4⟩:=hSw;go_simp;try with_reducible rfl)
      (try simp only [IA,Ix,Iy,Iz])
      refine aa (i:=3) (d:=39) (v:=?vd4) rfl rfl (by kernel_rfl) (by kernel_rfl) (by kernel_rfl) (fun _ _ _ h=>h) (by rfl) ?yd4 hHeld ?rd4
      case yd4=>(intro w0 hSw;obtain⟨hSw0,hSw1,hSw2,hSw3,hSw4⟩:=hSw;go_simp;try with_reducible rfl)
      (try simp only [IA,Ix,Iy,Iz])
      refine aa (i:=4) (d:=40) (v:=?vd5) rfl rfl (by kernel_rfl) (by kernel_rfl) (by kernel_rfl) (fun _ _ _ h=>h) (by rfl) ?yd5 hHeld ?rd5
      case yd5=>(intro w0 hSw;obtain⟨hSw0,hSw1,hSw2,hSw3,hSw4⟩:=hSw;go_simp;try with_reducible rfl)
      (try simp only [IA,Ix,Iy,Iz])
      refine wpAnyH_ready (rs:=[5]) (by kernel_rfl) (by simp) ?_
      refine ID (o:=_) rfl (fun K hK=>?_) IG
      go_simp
      refine(hwi1 _ BD).mono ?_
      rintro e w2 ⟨rfl,hB2⟩;have P2:=du hB2 PD LD;have d0:=(au P2).1;have d1:=(au P2).2.1;have d2:=(au P2).2.2.1;have d3:=(au P2).2.2.2;have ep:=(hB2.cell (Ja hbr LD)).trans epd;refine hK.out _ _ (show _ from⟨d0,d1,d2,d3,ep⟩) (fun hHeld=>?_)
      clear hK K
      (try simp only [IA,Ix,Iy,Iz])
      refine aa (i:=6) (d:=42) (v:=?vd6) rfl rfl (by kernel_rfl) (by kernel_rfl) (by kernel_rfl) (fun _ _ _ h=>h) (by rfl) ?yd6 hHeld ?rd6
      case yd6=>(intro w0 hSw;obtain⟨hSw0,hSw1,hSw2,hSw3,hSw4⟩:=hSw;go_simp;try with_reducible rfl)
      (try simp only [IA,Ix,Iy,Iz])
      refine aa (i:=7) (d:=43) (v:=?vd7) rfl rfl (by kernel_rfl) (by kernel_rfl) (by kernel_rfl) (fun _ _ _ h=>h) (by rfl) ?yd7 hHeld ?rd7
      case yd7=>(intro w0 hSw;obtain⟨hSw0,hSw1,hSw2,hSw3,hSw4⟩:=hSw;go_simp;try with_reducible rfl)
      (try simp only [IA,Ix,Iy,Iz])
      refine aa (i:=8) (d:=44) (v:=?vd8) rfl rfl (by kernel_rfl) (by kernel_rfl) (by kernel_rfl) (fun _ _ _ h=>h) (ak (j:=7) (d:=43) (want:=false) rfl rfl rfl) ?yd8 hHeld ?rd8
      case yd8=>(intro w0 hSw;obtain⟨hSw0,hSw1,hSw2,hSw3,hSw4⟩:=hSw;go_simp;try with_reducible rfl)
      (try simp only [IA,Ix,Iy,Iz])
      refine aa (i:=9) (d:=45) (v:=?vd9) rfl rfl (by kernel_rfl) (by kernel_rfl) (by kernel_rfl) (fun _ _ _ h=>h) (ak (j:=7) (d:=43) (want:=false) rfl rfl rfl) ?yd9 hHeld ?rd9
      case yd9=>(intro w0 hSw;obtain⟨hSw0,hSw1,hSw2,hSw3,hSw4⟩:=hSw;go_simp;try with_reducible rfl)
      (try simp only [IA,Ix,Iy,Iz])
      refine aa (i:=10) (d:=46) (v:=?vd10) rfl rfl (by kernel_rfl) (by kernel_rfl) (by kernel_rfl) (fun _ _ _ h=>h) (ak (j:=7) (d:=43) (want:=false) rfl rfl rfl) ?yd10 hHeld ?rd10
      case yd10=>(intro w0 hSw;obtain⟨hSw0,hSw1,hSw2,hSw3,hSw4⟩:=hSw;go_simp;try with_reducible rfl)
      (try simp only [IA,Ix,Iy,Iz])
      refine aa (i:=11) (d:=47) (v:=?vd11) rfl rfl (by kernel_rfl) (by kernel_rfl) (by kernel_rfl) (fun _ _ _ h=>h) (ak (j:=10) (d:=46) (want:=true) rfl rfl rfl) ?yd11 hHeld ?rd11
      case yd11=>(intro w0 hSw;obtain⟨hSw0,hSw1,hSw2,hSw3,hSw4⟩:=hSw;go_simp;try with_reducible rfl)
      (try simp only [IA,Ix,Iy,Iz])
      refine aa (i:=12) (d:=48) (v:=?vd12) rfl rfl (by kernel_rfl) (by kernel_rfl) (by kernel_rfl) (fun _ _ _ h=>h) (ak (j:=10) (d:=46) (want:=true) rfl rfl rfl) ?yd12 hHeld ?rd12
      case yd12=>(intro w0 hSw;obtain⟨hSw0,hSw1,hSw2,hSw3,hSw4⟩:=hSw;go_simp;try with_reducible rfl)
      (try simp only [IA,Ix,Iy,Iz])
      refine aa (i:=13) (d:=49) (v:=?vd13) rfl rfl (by kernel_rfl) (by kernel_rfl) (by kernel_rfl) (fun _ _ _ h=>h) (ak (j:=10) (d:=46) (want:=true) rfl rfl rfl) ?yd13 hHeld ?rd13
      case yd13=>(intro w0 hSw;obtain⟨hSw0,hSw1,hSw2,hSw3,hSw4⟩:=hSw;go_simp;try with_reducible rfl)
      (try simp only [IA,Ix,Iy,Iz])
      refine aa (i:=14) (d:=50) (v:=?vd14) rfl rfl (by kernel_rfl) (by kernel_rfl) (by kernel_rfl) (fun _ _ _ h=>h) (ak (j:=10) (d:=46) (want:=true) rfl rfl rfl) ?yd14 hHeld ?rd14
      case yd14=>(intro w0 hSw;obtain⟨hSw0,hSw1,hSw2,hSw3,hSw4⟩:=hSw;go_simp;try with_reducible rfl)
      (try simp only [IA,Ix,Iy,Iz])
      refine aa (i:=15) (d:=51) (v:=?vd15) rfl rfl (by kernel_rfl) (by kernel_rfl) (by kernel_rfl) (fun _ _ _ h=>h) (ak (j:=10) (d:=46) (want:=true) rfl rfl rfl) ?yd15 hHeld ?rd15
      case yd15=>(intro w0 hSw;obtain⟨hSw0,hSw1,hSw2,hSw3,hSw4⟩:=hSw;go_simp;try with_reducible rfl)
      (try simp only [IA,Ix,Iy,Iz])
      refine aa (i:=16) (d:=52) (v:=?vd16) rfl rfl (by kernel_rfl) (by kernel_rfl) (by kernel_rfl) (fun _ _ _ h=>h) (ak (j:=10) (d:=46) (want:=true) rfl rfl rfl) ?yd16 hHeld ?rd16
      case yd16=>(intro w0 hSw;obtain⟨hSw0,hSw1,hSw2,hSw3,hSw4⟩:=hSw;go_simp;try with_reducible rfl)
      (try simp only [IA,Ix,Iy,Iz])
      refine aa (i:=17) (d:=53) (v:=?vd17) rfl rfl (by kernel_rfl) (by kernel_rfl) (by kernel_rfl) (fun _ _ _ h=>h) (ak (j:=10) (d:=46) (want:=true) rfl rfl rfl) ?yd17 hHeld ?rd17
      case yd17=>(intro w0 hSw;obtain⟨hSw0,hSw1,hSw2,hSw3,hSw4⟩:=hSw;go_simp;try with_reducible rfl)
      (try simp only [IA,Ix,Iy,Iz])
      refine aa (i:=18) (d:=54) (v:=?vd18) rfl rfl (by kernel_rfl) (by kernel_rfl) (by kernel_rfl) (fun _ _ _ h=>h) (ak (j:=10) (d:=46) (want:=true) rfl rfl rfl) ?yd18 hHeld ?rd18
      case yd18=>(intro w0 hSw;obtain⟨hSw0,hSw1,hSw2,hSw3,hSw4⟩:=hSw;go_simp;try with_reducible rfl)
      (try simp only [IA,Ix,Iy,Iz])
      refine aa (i:=19) (d:=55) (v:=?vd19) rfl rfl (by kernel_rfl) (by kernel_rfl) (by kernel_rfl) (fun _ _ _ h=>h) (ak (j:=10) (d:=46) (want:=true) rfl rfl rfl) ?yd19 hHeld ?rd19
      case yd19=>(intro w0 hSw;obtain⟨hSw0,hSw1,hSw2,hSw3,hSw4⟩:=hSw;go_simp;try with_reducible rfl)
      (try simp only [IA,Ix,Iy,Iz])
      refine aa (i:=20) (d:=56) (v:=?vd20) rfl rfl (by kernel_rfl) (by kernel_rfl) (by kernel_rfl) (fun _ _ _ h=>h) (ak (j:=7) (d:=43) (want:=false) rfl rfl rfl) ?yd20 hHeld ?rd20
      case yd20=>(intro w0 hSw;obtain⟨hSw0,hSw1,hSw2,hSw3,hSw4⟩:=hSw;go_simp;try with_reducible rfl)
      (try simp only [IA,Ix,Iy,Iz])
      refine aa (i:=21) (d:=57) (v:=?vd21) rfl rfl (by kernel_rfl) (by kernel_rfl) (by kernel_rfl) (fun _ _ _ h=>h) (by rfl) ?yd21 hHeld ?rd21
      case yd21=>(intro w0 hSw;obtain⟨hSw0,hSw1,hSw2,hSw3,hSw4⟩:=hSw;go_simp;try with_reducible rfl)
      (try simp only [IA,Ix,Iy,Iz])
      refine aa (i:=22) (d:=58) (v:=?vd22) rfl rfl (by kernel_rfl) (by kernel_rfl) (by kernel_rfl) (fun _ _ _ h=>h) (by rfl) ?yd22 hHeld ?rd22
      case yd22=>(intro w0 hSw;obtain⟨hSw0,hSw1,hSw2,hSw3,hSw4⟩:=hSw;go_simp;try with_reducible rfl)
      (try simp only [IA,Ix,Iy,Iz])
      refine aa (i:=23) (d:=59) (v:=?vd23) rfl rfl (by kernel_rfl) (by kernel_rfl) (by kernel_rfl) (fun _ _ _ h=>h) (ak (j:=22) (d:=58) (want:=false) rfl rfl rfl) ?yd23 hHeld ?rd23
      case yd23=>(intro w0 hSw;obtain⟨hSw0,hSw1,hSw2,hSw3,hSw4⟩:=hSw;go_simp;try with_reducible rfl)
      (try simp only [IA,Ix,Iy,Iz])
      refine aa (i:=24) (d:=60) (v:=?vd24) rfl rfl (by kernel_rfl) (by kernel_rfl) (by kernel_rfl) (fun _ _ _ h=>h) (ak (j:=22) (d:=58) (want:=false) rfl rfl rfl) ?yd24 hHeld ?rd24
      case yd24=>(intro w0 hSw;obtain⟨hSw0,hSw1,hSw2,hSw3,hSw4⟩:=hSw;go_simp;try with_reducible rfl)
      (try simp only [IA,Ix,Iy,Iz])
      refine aa (i:=25) (d:=61) (v:=?vd25) rfl rfl (by kernel_rfl) (by kernel_rfl) (by kernel_rfl) (fun _ _ _ h=>h) (ak (j:=22) (d:=58) (want:=false) rfl rfl rfl) ?yd25 hHeld ?rd25
      case yd25=>(intro w0 hSw;obtain⟨hSw0,hSw1,hSw2,hSw3,hSw4⟩:=hSw;go_simp;try with_reducible rfl)
      (try simp only [IA,Ix,Iy,Iz])
      refine wpAnyH_ready (rs:=[26]) (by kernel_rfl) (by simp) ?_
      refine ID (o:=_) rfl (fun K hK=>?_) IG
      go_simp
      refine(hroom _ (BD.trans (hB2.mono BD.size)) (hGD.below hB2)).mono ?_
      rintro e w3 ⟨rfl,hB3⟩;have P3:=du hB3 P2 (cX P2);have d0:=(au P3).1;have d1:=(au P3).2.1;have d2:=(au P3).2.2.1;have d3:=(au P3).2.2.2;have ep:=(hB3.cell (IJ (Ja hbr LD) hB2.size)).trans ep;refine hK.out _ _ (show _ from⟨d0,d1,d2,d3,ep⟩) (fun hHeld=>?_)
      clear hK K
      (try simp only [IA,Ix,Iy,Iz])
      refine aa (i:=27) (d:=63) (v:=?vd26) rfl rfl (by kernel_rfl) (by kernel_rfl) (by kernel_rfl) (fun _ _ _ h=>h) (ak (j:=22) (d:=58) (want:=false) rfl rfl rfl) ?yd26 hHeld ?rd26
      case yd26=>(intro w0 hSw;obtain⟨hSw0,hSw1,hSw2,hSw3,hSw4⟩:=hSw;go_simp;try with_reducible rfl)
      (try simp only [IA,Ix,Iy,Iz])
      refine aa (i:=28) (d:=64) (v:=?vd27) rfl rfl (by kernel_rfl) (by kernel_rfl) (by kernel_rfl) (fun _ _ _ h=>h) (by rfl) ?yd27 hHeld ?rd27
      case yd27=>(intro w0 hSw;obtain⟨hSw0,hSw1,hSw2,hSw3,hSw4⟩:=hSw;go_simp;try with_reducible rfl)
      (try simp only [IA,Ix,Iy,Iz])
      refine wpAnyH_done (by kernel_rfl) ?_ _
      go_wp2
      go_ret2
      have BB2:=BD.trans (hB2.mono BD.size);exact⟨BB2.trans (hB3.mono BB2.size),.inl ⟨HNO.out,rfl⟩⟩
     ·have hyes:chG l wd ht none (fun _ _=>-1) ps=chG l wd ht (dV ps ((j+1)+1)) (qk f l (n,X,Y,t)) (ps.drop ((j+1)+1)):=by
       rw [hch,chG,if_pos (by rw [hr];simp [tE,dV,n0,n1,hlt]),hnx]
      rw [hr] at hroom;obtain⟨r1,r2,r3,r4,-⟩:jk wd ht f l (n,X,Y,t):=by
       unfold jR at hr;exact(@decide_eq_true_iff _ (Jf _)).1 hr
      simp only at r1 r2 r3 r4;have hX:=IV r1;have hY:=IV r2;have hput:qk f l (n,X,Y,t)=mkA f X.toNat Y.toNat (szN l (n,X,Y,t)).1 (szN l (n,X,Y,t)).2 n:=rfl;rw [hput] at hyes;have hszm:=fun W=>hsz' W n0 n1
      obtain⟨a,ha⟩:∃a,a=(szN l (n,X,Y,t)).1:=⟨_,rfl⟩
      obtain⟨b2,hb2⟩:∃a,a=(szN l (n,X,Y,t)).2:=⟨_,rfl⟩
      rw [←ha,←hb2] at hyes;rw [←ha] at r3;rw [←hb2] at r4;simp only [←ha,←hb2] at hszm;have hxa:X.toNat+a≤wd:=by omega
      have hyb:Y.toNat+b2≤ht:=by omega
      have HY:Hid _:=hyes;have HX:Hid _:=hX;have HYY:Hid _:=hY;clear ha hb2 hput hyes hch hskq hskp r1 r2 r3 r4 hX hY;refine wp_region_held_drew (S:=fun X2=>X2.cell? ⟨N,0,none⟩=some (.int .i64 n)∧X2.cell? ⟨N,1,none⟩=some (.int .i64 X)∧X2.cell? ⟨N,2,none⟩=some (.int .i64 Y)∧X2.cell? ⟨N,3,none⟩=some (.bool t)∧X2.cell? ⟨b,o+j*4,none⟩=some (.int .i64 q)) (by kernel_rfl) (show _ from⟨d0,d1,d2,d3,ep⟩) (fun hHeld=>?_)
      change wpAnyH _ _ _ _ _ 29 (IP 29 false) _ _
      refine aa (i:=0) (d:=36) (v:=?ve1) rfl rfl (by kernel_rfl) (by kernel_rfl) (by kernel_rfl) (fun _ _ _ h=>h) (by rfl) ?ye1 hHeld ?re1
      case ye1=>(intro w0 hSw;obtain⟨hSw0,hSw1,hSw2,hSw3,hSw4⟩:=hSw;go_simp;try with_reducible rfl)
      (try simp only [IA,Ix,Iy,Iz])
      refine aa (i:=1) (d:=37) (v:=?ve2) rfl rfl (by kernel_rfl) (by kernel_rfl) (by kernel_rfl) (fun _ _ _ h=>h) (by rfl) ?ye2 hHeld ?re2
      case ye2=>(intro w0 hSw;obtain⟨hSw0,hSw1,hSw2,hSw3,hSw4⟩:=hSw;go_simp;try with_reducible rfl)
      (try simp only [IA,Ix,Iy,Iz])
      refine aa (i:=2) (d:=38) (v:=?ve3) rfl rfl (by kernel_rfl) (by kernel_rfl) (by kernel_rfl) (fun _ _ _ h=>h) (by rfl) ?ye3 hHeld ?re3
      case ye3=>(intro w0 hSw;obtain⟨hSw0,hSw1,hSw2,hSw3,hSw4⟩:=hSw;go_simp;try with_reducible rfl)
      (try simp only [IA,Ix,Iy,Iz])
      refine aa (i:=3) (d:=39) (v:=?ve4) rfl rfl (by kernel_rfl) (by kernel_rfl) (by kernel_rfl) (fun _ _ _ h=>h) (by rfl) ?ye4 hHeld ?re4
      case ye4=>(intro w0 hSw;obtain⟨hSw0,hSw1,hSw2,hSw3,hSw4⟩:=hSw;go_simp;try with_reducible rfl)
      (try simp only [IA,Ix,Iy,Iz])
      refine aa (i:=4) (d:=40) (v:=?ve5) rfl rfl (by kernel_rfl) (by kernel_rfl) (by kernel_rfl) (fun _ _ _ h=>h) (by rfl) ?ye5 hHeld ?re5
      case ye5=>(intro w0 hSw;obtain⟨hSw0,hSw1,hSw2,hSw3,hSw4⟩:=hSw;go_simp;try with_reducible rfl)
      (try simp only [IA,Ix,Iy,Iz])
      refine wpAnyH_ready (rs:=[5]) (by kernel_rfl) (by simp) ?_
      refine ID (o:=_) rfl (fun K hK=>?_) IG
      go_simp
      refine(hwi1 _ BD).mono ?_
      rintro e w2 ⟨rfl,hB2⟩;have P2:=du hB2 PD LD;have d0:=(au P2).1;have d1:=(au P2).2.1;have d2:=(au P2).2.2.1;have d3:=(au P2).2.2.2;have ep:=(hB2.cell (Ja hbr LD)).trans epd;refine hK.out _ _ (show _ from⟨d0,d1,d2,d3,ep⟩) (fun hHeld=>?_)
      clear hK K
      (try simp only [IA,Ix,Iy,Iz])
      refine aa (i:=6) (d:=42) (v:=?ve6) rfl rfl (by kernel_rfl) (by kernel_rfl) (by kernel_rfl) (fun _ _ _ h=>h) (by rfl) ?ye6 hHeld ?re6
      case ye6=>(intro w0 hSw;obtain⟨hSw0,hSw1,hSw2,hSw3,hSw4⟩:=hSw;go_simp;try with_reducible rfl)
      (try simp only [IA,Ix,Iy,Iz])
      refine aa (i:=7) (d:=43) (v:=?ve7) rfl rfl (by kernel_rfl) (by kernel_rfl) (by kernel_rfl) (fun _ _ _ h=>h) (by rfl) ?ye7 hHeld ?re7
      case ye7=>(intro w0 hSw;obtain⟨hSw0,hSw1,hSw2,hSw3,hSw4⟩:=hSw;go_simp;try with_reducible rfl)
      (try simp only [IA,Ix,Iy,Iz])
      refine aa (i:=8) (d:=44) (v:=?ve8) rfl rfl (by kernel_rfl) (by kernel_rfl) (by kernel_rfl) (fun _ _ _ h=>h) (ak (j:=7) (d:=43) (want:=false) rfl rfl rfl) ?ye8 hHeld ?re8
      case ye8=>(intro w0 hSw;obtain⟨hSw0,hSw1,hSw2,hSw3,hSw4⟩:=hSw;go_simp;try with_reducible rfl)
      (try simp only [IA,Ix,Iy,Iz])
      refine aa (i:=9) (d:=45) (v:=?ve9) rfl rfl (by kernel_rfl) (by kernel_rfl) (by kernel_rfl) (fun _ _ _ h=>h) (ak (j:=7) (d:=43) (want:=false) rfl rfl rfl) ?ye9 hHeld ?re9
      case ye9=>(intro w0 hSw;obtain⟨hSw0,hSw1,hSw2,hSw3,hSw4⟩:=hSw;go_simp;try with_reducible rfl)
      (try simp only [IA,Ix,Iy,Iz])
      refine aa (i:=10) (d:=46) (v:=?ve10) rfl rfl (by kernel_rfl) (by kernel_rfl) (by kernel_rfl) (fun _ _ _ h=>h) (ak (j:=7) (d:=43) (want:=false) rfl rfl rfl) ?ye10 hHeld ?re10
      case ye10=>(intro w0 hSw;obtain⟨hSw0,hSw1,hSw2,hSw3,hSw4⟩:=hSw;go_simp;try with_reducible rfl)
      (try simp only [IA,Ix,Iy,Iz])
      refine aa (i:=11) (d:=47) (v:=?ve11) rfl rfl (by kernel_rfl) (by kernel_rfl) (by kernel_rfl) (fun _ _ _ h=>h) (ak (j:=10) (d:=46) (want:=true) rfl rfl rfl) ?ye11 hHeld ?re11
      case ye11=>(intro w0 hSw;obtain⟨hSw0,hSw1,hSw2,hSw3,hSw4⟩:=hSw;go_simp;try with_reducible rfl)
      (try simp only [IA,Ix,Iy,Iz])
      refine aa (i:=12) (d:=48) (v:=?ve12) rfl rfl (by kernel_rfl) (by kernel_rfl) (by kernel_rfl) (fun _ _ _ h=>h) (ak (j:=10) (d:=46) (want:=true) rfl rfl rfl) ?ye12 hHeld ?re12
      case ye12=>(intro w0 hSw;obtain⟨hSw0,hSw1,hSw2,hSw3,hSw4⟩:=hSw;go_simp;try with_reducible rfl)
      (try simp only [IA,Ix,Iy,Iz])
      refine aa (i:=13) (d:=49) (v:=?ve13) rfl rfl (by kernel_rfl) (by kernel_rfl) (by kernel_rfl) (fun _ _ _ h=>h) (ak (j:=10) (d:=46) (want:=true) rfl rfl rfl) ?ye13 hHeld ?re13
      case ye13=>(intro w0 hSw;obtain⟨hSw0,hSw1,hSw2,hSw3,hSw4⟩:=hSw;go_simp;try with_reducible rfl)
      (try simp only [IA,Ix,Iy,Iz])
      refine aa (i:=14) (d:=50) (v:=?ve14) rfl rfl (by kernel_rfl) (by kernel_rfl) (by kernel_rfl) (fun _ _ _ h=>h) (ak (j:=10) (d:=46) (want:=true) rfl rfl rfl) ?ye14 hHeld ?re14
      case ye14=>(intro w0 hSw;obtain⟨hSw0,hSw1,hSw2,hSw3,hSw4⟩:=hSw;go_simp;try with_reducible rfl)
      (try simp only [IA,Ix,Iy,Iz])
      refine aa (i:=15) (d:=51) (v:=?ve15) rfl rfl (by kernel_rfl) (by kernel_rfl) (by kernel_rfl) (fun _ _ _ h=>h) (ak (j:=10) (d:=46) (want:=true) rfl rfl rfl) ?ye15 hHeld ?re15
      case ye15=>(intro w0 hSw;obtain⟨hSw0,hSw1,hSw2,hSw3,hSw4⟩:=hSw;go_simp;try with_reducible rfl)
      (try simp only [IA,Ix,Iy,Iz])
      refine aa (i:=16) (d:=52) (v:=?ve16) rfl rfl (by kernel_rfl) (by kernel_rfl) (by kernel_rfl) (fun _ _ _ h=>h) (ak (j:=10) (d:=46) (want:=true) rfl rfl rfl) ?ye16 hHeld ?re16
      case ye16=>(intro w0 hSw;obtain⟨hSw0,hSw1,hSw2,hSw3,hSw4⟩:=hSw;go_simp;try with_reducible rfl)
      (try simp only [IA,Ix,Iy,Iz])
      refine aa (i:=17) (d:=53) (v:=?ve17) rfl rfl (by kernel_rfl) (by kernel_rfl) (by kernel_rfl) (fun _ _ _ h=>h) (ak (j:=10) (d:=46) (want:=true) rfl rfl rfl) ?ye17 hHeld ?re17
      case ye17=>(intro w0 hSw;obtain⟨hSw0,hSw1,hSw2,hSw3,hSw4⟩:=hSw;go_simp;try with_reducible rfl)
      (try simp only [IA,Ix,Iy,Iz])
      refine aa (i:=18) (d:=54) (v:=?ve18) rfl rfl (by kernel_rfl) (by kernel_rfl) (by kernel_rfl) (fun _ _ _ h=>h) (ak (j:=10) (d:=46) (want:=true) rfl rfl rfl) ?ye18 hHeld ?re18
      case ye18=>(intro w0 hSw;obtain⟨hSw0,hSw1,hSw2,hSw3,hSw4⟩:=hSw;go_simp;try with_reducible rfl)
      (try simp only [IA,Ix,Iy,Iz])
      refine aa (i:=19) (d:=55) (v:=?ve19) rfl rfl (by kernel_rfl) (by kernel_rfl) (by kernel_rfl) (fun _ _ _ h=>h) (ak (j:=10) (d:=46) (want:=true) rfl rfl rfl) ?ye19 hHeld ?re19
      case ye19=>(intro w0 hSw;obtain⟨hSw0,hSw1,hSw2,hSw3,hSw4⟩:=hSw;go_simp;try with_reducible rfl)
      (try simp only [IA,Ix,Iy,Iz])
      refine aa (i:=20) (d:=56) (v:=?ve20) rfl rfl (by kernel_rfl) (by kernel_rfl) (by kernel_rfl) (fun _ _ _ h=>h) (ak (j:=7) (d:=43) (want:=false) rfl rfl rfl) ?ye20 hHeld ?re20
      case ye20=>(intro w0 hSw;obtain⟨hSw0,hSw1,hSw2,hSw3,hSw4⟩:=hSw;go_simp;try with_reducible rfl)
      (try simp only [IA,Ix,Iy,Iz])
      refine aa (i:=21) (d:=57) (v:=?ve21) rfl rfl (by kernel_rfl) (by kernel_rfl) (by kernel_rfl) (fun _ _ _ h=>h) (by rfl) ?ye21 hHeld ?re21
      case ye21=>(intro w0 hSw;obtain⟨hSw0,hSw1,hSw2,hSw3,hSw4⟩:=hSw;go_simp;try with_reducible rfl)
      (try simp only [IA,Ix,Iy,Iz])
      refine aa (i:=22) (d:=58) (v:=?ve22) rfl rfl (by kernel_rfl) (by kernel_rfl) (by kernel_rfl) (fun _ _ _ h=>h) (by rfl) ?ye22 hHeld ?re22
      case ye22=>(intro w0 hSw;obtain⟨hSw0,hSw1,hSw2,hSw3,hSw4⟩:=hSw;go_simp;try with_reducible rfl)
      (try simp only [IA,Ix,Iy,Iz])
      refine aa (i:=23) (d:=59) (v:=?ve23) rfl rfl (by kernel_rfl) (by kernel_rfl) (by kernel_rfl) (fun _ _ _ h=>h) (ak (j:=22) (d:=58) (want:=false) rfl rfl rfl) ?ye23 hHeld ?re23
      case ye23=>(intro w0 hSw;obtain⟨hSw0,hSw1,hSw2,hSw3,hSw4⟩:=hSw;go_simp;try with_reducible rfl)
      (try simp only [IA,Ix,Iy,Iz])
      refine aa (i:=24) (d:=60) (v:=?ve24) rfl rfl (by kernel_rfl) (by kernel_rfl) (by kernel_rfl) (fun _ _ _ h=>h) (ak (j:=22) (d:=58) (want:=false) rfl rfl rfl) ?ye24 hHeld ?re24
      case ye24=>(intro w0 hSw;obtain⟨hSw0,hSw1,hSw2,hSw3,hSw4⟩:=hSw;go_simp;try with_reducible rfl)
      (try simp only [IA,Ix,Iy,Iz])
      refine aa (i:=25) (d:=61) (v:=?ve25) rfl rfl (by kernel_rfl) (by kernel_rfl) (by kernel_rfl) (fun _ _ _ h=>h) (ak (j:=22) (d:=58) (want:=false) rfl rfl rfl) ?ye25 hHeld ?re25
      case ye25=>(intro w0 hSw;obtain⟨hSw0,hSw1,hSw2,hSw3,hSw4⟩:=hSw;go_simp;try with_reducible rfl)
      (try simp only [IA,Ix,Iy,Iz])
      refine wpAnyH_ready (rs:=[26]) (by kernel_rfl) (by simp) ?_
      refine ID (o:=_) rfl (fun K hK=>?_) IG
      go_simp
      refine(hroom _ (BD.trans (hB2.mono BD.size)) (hGD.below hB2)).mono ?_
      rintro e w3 ⟨rfl,hB3⟩;have P3:=du hB3 P2 (cX P2);have d0:=(au P3).1;have d1:=(au P3).2.1;have d2:=(au P3).2.2.1;have d3:=(au P3).2.2.2;have ep:=(hB3.cell (IJ (Ja hbr LD) hB2.size)).trans ep;refine hK.out _ _ (show _ from⟨d0,d1,d2,d3,ep⟩) (fun hHeld=>?_)
      clear hK K
      (try simp only [IA,Ix,Iy,Iz])
      refine aa (i:=27) (d:=63) (v:=?ve26) rfl rfl (by kernel_rfl) (by kernel_rfl) (by kernel_rfl) (fun _ _ _ h=>h) (ak (j:=22) (d:=58) (want:=false) rfl rfl rfl) ?ye26 hHeld ?re26
      case ye26=>(intro w0 hSw;obtain⟨hSw0,hSw1,hSw2,hSw3,hSw4⟩:=hSw;go_simp;try with_reducible rfl)
      (try simp only [IA,Ix,Iy,Iz])
      refine aa (i:=28) (d:=64) (v:=?ve27) rfl rfl (by kernel_rfl) (by kernel_rfl) (by kernel_rfl) (fun _ _ _ h=>h) (by rfl) ?ye27 hHeld ?re27
      case ye27=>(intro w0 hSw;obtain⟨hSw0,hSw1,hSw2,hSw3,hSw4⟩:=hSw;go_simp;try with_reducible rfl)
      (try simp only [IA,Ix,Iy,Iz])
      refine wpAnyH_done (by kernel_rfl) ?_ _
      have BB2:=BD.trans (hB2.mono BD.size);have BB3:=BB2.trans (hB3.mono BB2.size);have hG3:=(hGD.below hB2).below hB3;have hmk:=wP w3 w.heap.size g cap wd ht bs cs f hG3 hw8.2 hh8.2 (.slice pA l.length pc) n X.toNat Y.toNat a b2 t n hxa hyb (fun W hW=>by rw [HX.out,HYY.out];exact hszm W (BB3.trans (hW.mono BB3.size)));rw [HX.out,HYY.out] at hmk
      go_wp2_with (go_at_call 58;refine hmk.mono ?_;rintro e w4 ⟨rfl,hG4,hK4⟩)
      refine⟨⟨(j+1)+1,_,congrArg (IQ .i64) (by omega),by omega,HY.out,hG4,BB3.trans (hK4.below BB3.size fun y hy=>(hG.row y hy).1)⟩,?_⟩
      show ps.length - (((j+1):Int)+1).toNat<ps.length - ((j+1):Int).toNat
      omega
    ·have hge:q≥n:=by omega
     have hno:chG l wd ht none (fun _ _=>-1) ps=none:=by
      rw [hch,hpq,chG,if_neg (by simp [tE,hlt])]
     have HNO:Hid _:=hno;clear hch hno;refine wp_region_held_drew (S:=fun X2=>X2.cell? ⟨N,0,none⟩=some (.int .i64 n)∧X2.cell? ⟨N,1,none⟩=some (.int .i64 X)∧X2.cell? ⟨N,2,none⟩=some (.int .i64 Y)∧X2.cell? ⟨N,3,none⟩=some (.bool t)∧X2.cell? ⟨b,o+j*4,none⟩=some (.int .i64 q)) (by kernel_rfl) (show _ from⟨d0,d1,d2,d3,ep⟩) (fun hHeld=>?_)
     change wpAnyH _ _ _ _ _ 29 (IP 29 false) _ _
     refine aa (i:=0) (d:=36) (v:=?vf1) rfl rfl (by kernel_rfl) (by kernel_rfl) (by kernel_rfl) (fun _ _ _ h=>h) (by rfl) ?yf1 hHeld ?rf1
     case yf1=>(intro w0 hSw;obtain⟨hSw0,hSw1,hSw2,hSw3,hSw4⟩:=hSw;go_simp;try with_reducible rfl)
     (try simp only [IA,Ix,Iy,Iz])
     refine aa (i:=1) (d:=37) (v:=?vf2) rfl rfl (by kernel_rfl) (by kernel_rfl) (by kernel_rfl) (fun _ _ _ h=>h) (by rfl) ?yf2 hHeld ?rf2
     case yf2=>(intro w0 hSw;obtain⟨hSw0,hSw1,hSw2,hSw3,hSw4⟩:=hSw;go_simp;try with_reducible rfl)
     (try simp only [IA,Ix,Iy,Iz])
     refine aa (i:=2) (d:=38) (v:=?vf3) rfl rfl (by kernel_rfl) (by kernel_rfl) (by kernel_rfl) (fun _ _ _ h=>h) (by rfl) ?yf3 hHeld ?rf3
     case yf3=>(intro w0 hSw;obtain⟨hSw0,hSw1,hSw2,hSw3,hSw4⟩:=hSw;go_simp;try with_reducible rfl)
     (try simp only [IA,Ix,Iy,Iz])
     refine aa (i:=3) (d:=39) (v:=?vf4) rfl rfl (by kernel_rfl) (by kernel_rfl) (by kernel_rfl) (fun _ _ _ h=>h) (by rfl) ?yf4 hHeld ?rf4
     case yf4=>(intro w0 hSw;obtain⟨hSw0,hSw1,hSw2,hSw3,hSw4⟩:=hSw;go_simp;try with_reducible rfl)
     (try simp only [IA,Ix,Iy,Iz])
     refine aa (i:=4) (d:=40) (v:=?vf5) rfl rfl (by kernel_rfl) (by kernel_rfl) (by kernel_rfl) (fun _ _ _ h=>h) (by rfl) ?yf5 hHeld ?rf5
     case yf5=>(intro w0 hSw;obtain⟨hSw0,hSw1,hSw2,hSw3,hSw4⟩:=hSw;go_simp;try with_reducible rfl)
     (try simp only [IA,Ix,Iy,Iz])
     refine wpAnyH_ready (rs:=[5]) (by kernel_rfl) (by simp) ?_
     refine ID (o:=_) rfl (fun K hK=>?_) IG
     go_simp
     refine(hwi1 _ BD).mono ?_
     rintro e w2 ⟨rfl,hB2⟩;have P2:=du hB2 PD LD;have d0:=(au P2).1;have d1:=(au P2).2.1;have d2:=(au P2).2.2.1;have d3:=(au P2).2.2.2;have ep:=(hB2.cell (Ja hbr LD)).trans epd;refine hK.out _ _ (show _ from⟨d0,d1,d2,d3,ep⟩) (fun hHeld=>?_)
     clear hK K
     (try simp only [IA,Ix,Iy,Iz])
     refine aa (i:=6) (d:=42) (v:=?vf6) rfl rfl (by kernel_rfl) (by kernel_rfl) (by kernel_rfl) (fun _ _ _ h=>h) (by rfl) ?yf6 hHeld ?rf6
     case yf6=>(intro w0 hSw;obtain⟨hSw0,hSw1,hSw2,hSw3,hSw4⟩:=hSw;go_simp;try with_reducible rfl)
     (try simp only [IA,Ix,Iy,Iz])
     refine aa (i:=7) (d:=43) (v:=?vf7) rfl rfl (by kernel_rfl) (by kernel_rfl) (by kernel_rfl) (fun _ _ _ h=>h) (by rfl) ?yf7 hHeld ?rf7
     case yf7=>(intro w0 hSw;obtain⟨hSw0,hSw1,hSw2,hSw3,hSw4⟩:=hSw;go_simp;try with_reducible rfl)
     (try simp only [IA,Ix,Iy,Iz])
     refine aa (i:=8) (d:=44) (v:=?vf8) rfl rfl (by kernel_rfl) (by kernel_rfl) (by kernel_rfl) (fun _ _ _ h=>h) (ak (j:=7) (d:=43) (want:=false) rfl rfl rfl) ?yf8 hHeld ?rf8
     case yf8=>(intro w0 hSw;obtain⟨hSw0,hSw1,hSw2,hSw3,hSw4⟩:=hSw;go_simp;try with_reducible rfl)
     (try simp only [IA,Ix,Iy,Iz])
     refine aa (i:=9) (d:=45) (v:=?vf9) rfl rfl (by kernel_rfl) (by kernel_rfl) (by kernel_rfl) (fun _ _ _ h=>h) (ak (j:=7) (d:=43) (want:=false) rfl rfl rfl) ?yf9 hHeld ?rf9
     case yf9=>(intro w0 hSw;obtain⟨hSw0,hSw1,hSw2,hSw3,hSw4⟩:=hSw;go_simp;try with_reducible rfl)
     (try simp only [IA,Ix,Iy,Iz])
     refine aa (i:=10) (d:=46) (v:=?vf10) rfl rfl (by kernel_rfl) (by kernel_rfl) (by kernel_rfl) (fun _ _ _ h=>h) (ak (j:=7) (d:=43) (want:=false) rfl rfl rfl) ?yf10 hHeld ?rf10
     case yf10=>(intro w0 hSw;obtain⟨hSw0,hSw1,hSw2,hSw3,hSw4⟩:=hSw;go_simp;try with_reducible rfl)
     (try simp only [IA,Ix,Iy,Iz])
     refine aa (i:=11) (d:=47) (v:=?vf11) rfl rfl (by kernel_rfl) (by kernel_rfl) (by kernel_rfl) (fun _ _ _ h=>h) (ak (j:=10) (d:=46) (want:=true) rfl rfl rfl) ?yf11 hHeld ?rf11
     case yf11=>(intro w0 hSw;obtain⟨hSw0,hSw1,hSw2,hSw3,hSw4⟩:=hSw;go_simp;try with_reducible rfl)
     (try simp only [IA,Ix,Iy,Iz])
     refine aa (i:=12) (d:=48) (v:=?vf12) rfl rfl (by kernel_rfl) (by kernel_rfl) (by kernel_rfl) (fun _ _ _ h=>h) (ak (j:=10) (d:=46) (want:=true) rfl rfl rfl) ?yf12 hHeld ?rf12
     case yf12=>(intro w0 hSw;obtain⟨hSw0,hSw1,hSw2,hSw3,hSw4⟩:=hSw;go_simp;try with_reducible rfl)
     (try simp only [IA,Ix,Iy,Iz])
     refine aa (i:=13) (d:=49) (v:=?vf13) rfl rfl (by kernel_rfl) (by kernel_rfl) (by kernel_rfl) (fun _ _ _ h=>h) (ak (j:=10) (d:=46) (want:=true) rfl rfl rfl) ?yf13 hHeld ?rf13
     case yf13=>(intro w0 hSw;obtain⟨hSw0,hSw1,hSw2,hSw3,hSw4⟩:=hSw;go_simp;try with_reducible rfl)
     (try simp only [IA,Ix,Iy,Iz])
     refine aa (i:=14) (d:=50) (v:=?vf14) rfl rfl (by kernel_rfl) (by kernel_rfl) (by kernel_rfl) (fun _ _ _ h=>h) (ak (j:=10) (d:=46) (want:=true) rfl rfl rfl) ?yf14 hHeld ?rf14
     case yf14=>(intro w0 hSw;obtain⟨hSw0,hSw1,hSw2,hSw3,hSw4⟩:=hSw;go_simp;try with_reducible rfl)
     (try simp only [IA,Ix,Iy,Iz])
     refine aa (i:=15) (d:=51) (v:=?vf15) rfl rfl (by kernel_rfl) (by kernel_rfl) (by kernel_rfl) (fun _ _ _ h=>h) (ak (j:=10) (d:=46) (want:=true) rfl rfl rfl) ?yf15 hHeld ?rf15
     case yf15=>(intro w0 hSw;obtain⟨hSw0,hSw1,hSw2,hSw3,hSw4⟩:=hSw;go_simp;try with_reducible rfl)
     (try simp only [IA,Ix,Iy,Iz])
     refine aa (i:=16) (d:=52) (v:=?vf16) rfl rfl (by kernel_rfl) (by kernel_rfl) (by kernel_rfl) (fun _ _ _ h=>h) (ak (j:=10) (d:=46) (want:=true) rfl rfl rfl) ?yf16 hHeld ?rf16
     case yf16=>(intro w0 hSw;obtain⟨hSw0,hSw1,hSw2,hSw3,hSw4⟩:=hSw;go_simp;try with_reducible rfl)
     (try simp only [IA,Ix,Iy,Iz])
     refine aa (i:=17) (d:=53) (v:=?vf17) rfl rfl (by kernel_rfl) (by kernel_rfl) (by kernel_rfl) (fun _ _ _ h=>h) (ak (j:=10) (d:=46) (want:=true) rfl rfl rfl) ?yf17 hHeld ?rf17
     case yf17=>(intro w0 hSw;obtain⟨hSw0,hSw1,hSw2,hSw3,hSw4⟩:=hSw;go_simp;try with_reducible rfl)
     (try simp only [IA,Ix,Iy,Iz])
     refine aa (i:=18) (d:=54) (v:=?vf18) rfl rfl (by kernel_rfl) (by kernel_rfl) (by kernel_rfl) (fun _ _ _ h=>h) (ak (j:=10) (d:=46) (want:=true) rfl rfl rfl) ?yf18 hHeld ?rf18
     case yf18=>(intro w0 hSw;obtain⟨hSw0,hSw1,hSw2,hSw3,hSw4⟩:=hSw;go_simp;try with_reducible rfl)
     (try simp only [IA,Ix,Iy,Iz])
     refine aa (i:=19) (d:=55) (v:=?vf19) rfl rfl (by kernel_rfl) (by kernel_rfl) (by kernel_rfl) (fun _ _ _ h=>h) (ak (j:=10) (d:=46) (want:=true) rfl rfl rfl) ?yf19 hHeld ?rf19
     case yf19=>(intro w0 hSw;obtain⟨hSw0,hSw1,hSw2,hSw3,hSw4⟩:=hSw;go_simp;try with_reducible rfl)
     (try simp only [IA,Ix,Iy,Iz])
     refine aa (i:=20) (d:=56) (v:=?vf20) rfl rfl (by kernel_rfl) (by kernel_rfl) (by kernel_rfl) (fun _ _ _ h=>h) (ak (j:=7) (d:=43) (want:=false) rfl rfl rfl) ?yf20 hHeld ?rf20
     case yf20=>(intro w0 hSw;obtain⟨hSw0,hSw1,hSw2,hSw3,hSw4⟩:=hSw;go_simp;try with_reducible rfl)
     (try simp only [IA,Ix,Iy,Iz])
     refine aa (i:=21) (d:=57) (v:=?vf21) rfl rfl (by kernel_rfl) (by kernel_rfl) (by kernel_rfl) (fun _ _ _ h=>h) (by rfl) ?yf21 hHeld ?rf21
     case yf21=>(intro w0 hSw;obtain⟨hSw0,hSw1,hSw2,hSw3,hSw4⟩:=hSw;go_simp;try with_reducible rfl)
     (try simp only [IA,Ix,Iy,Iz])
     refine aa (i:=22) (d:=58) (v:=?vf22) rfl rfl (by kernel_rfl) (by kernel_rfl) (by kernel_rfl) (fun _ _ _ h=>h) (by rfl) ?yf22 hHeld ?rf22
     case yf22=>(intro w0 hSw;obtain⟨hSw0,hSw1,hSw2,hSw3,hSw4⟩:=hSw;go_simp;try with_reducible rfl)
     (try simp only [IA,Ix,Iy,Iz])
     refine aq (i:=23) (d:=59) (j:=22) (e:=58) (want:=false) rfl rfl (by kernel_rfl) (by kernel_rfl) (by kernel_rfl) (fun _ _ _ h=>h) rfl rfl rfl rfl hHeld ?rf23
     (try simp only [IA,Ix,Iy,Iz])
     refine aq (i:=24) (d:=60) (j:=22) (e:=58) (want:=false) rfl rfl (by kernel_rfl) (by kernel_rfl) (by kernel_rfl) (fun _ _ _ h=>h) rfl rfl rfl rfl hHeld ?rf24
     (try simp only [IA,Ix,Iy,Iz])
     refine aq (i:=25) (d:=61) (j:=22) (e:=58) (want:=false) rfl rfl (by kernel_rfl) (by kernel_rfl) (by kernel_rfl) (fun _ _ _ h=>h) rfl rfl rfl rfl hHeld ?rf25
     (try simp only [IA,Ix,Iy,Iz])
     refine aq (i:=26) (d:=62) (j:=22) (e:=58) (want:=false) rfl rfl (by kernel_rfl) (by kernel_rfl) (by kernel_rfl) (fun _ _ _ h=>h) rfl rfl rfl rfl hHeld ?rf26
     (try simp only [IA,Ix,Iy,Iz])
     refine aq (i:=27) (d:=63) (j:=22) (e:=58) (want:=false) rfl rfl (by kernel_rfl) (by kernel_rfl) (by kernel_rfl) (fun _ _ _ h=>h) rfl rfl rfl rfl hHeld ?rf27
     (try simp only [IA,Ix,Iy,Iz])
     refine aa (i:=28) (d:=64) (v:=?vf28) rfl rfl (by kernel_rfl) (by kernel_rfl) (by kernel_rfl) (fun _ _ _ h=>h) (by rfl) ?yf28 hHeld ?rf28
     case yf28=>(intro w0 hSw;obtain⟨hSw0,hSw1,hSw2,hSw3,hSw4⟩:=hSw;go_simp;try with_reducible rfl)
     (try simp only [IA,Ix,Iy,Iz])
     refine wpAnyH_done (by kernel_rfl) ?_ _
     go_wp2
     go_ret2
     exact⟨BD.trans (hB2.mono BD.size),.inl ⟨HNO.out,rfl⟩⟩
  ·have hpi:¬(i:Int)<(ps.length:Int):=by omega
   have hdr:ps.drop i=[]:=List.drop_eq_nil_of_le (by omega);rw [hdr,chG] at hch
   go_wp2
   go_ret2
   exact⟨hB,.inr ⟨f,g,cap,bs,cs,rfl,rfl,hG⟩⟩
end Go.Proofs.Ytccaheogjpfhjaa

end
