/-
  A part of the proof: contracts and plain forms of functions beneath the statement, made small by a program (names shortened, what is not needed left out).
-/
import Derived.Test.YtjafgdefcggjcaaGreatDoorRows
import Derived.Test.YtjafgdefcggjcaaGreatDoorTie
import Derived.Test.YtjafgdefcggjcaaGreatDoorCards
import Derived.Test.YtjafgdefcggjcaaGreatDoorM4
set_option linter.unusedSimpArgs false
set_option linter.unusedVariables false
noncomputable section
namespace Go.Proofs.YtjafgdefcggjcaaGreatDoor
open Go.V
set_option maxRecDepth 100000
@[reducible] def ty4:TI:={n:=1,zero:=[.v (.bool false)],bl:=true}
@[reducible] def ty5:TI:={n:=1,zero:=[.v (.int .u8 0)],ik:=some .u8}
@[reducible] def fY:TI:={agg:=true,n:=3,zero:=[.v (.int .i64 0),.v (.int .i64 0),.v (.int .i64 0)],fs:=[(0,3),(1,3),(2,3)],eq:=[1,1,1]}
@[reducible] def fZ:TI:={n:=1,zero:=[.arr 2 []],elem:=75,ez:=2,eb:=16}
@[reducible] def aho:TI:={n:=1,zero:=[.arr 1 []],elem:=5,ez:=1,eb:=1}
@[reducible] def Ez:TI:={n:=1,zero:=[.arr 3 []],elem:=121,ez:=3,eb:=24}
@[reducible] def mr:TI:={n:=1,zero:=[.arr 2 []],elem:=147,ez:=2,eb:=16}
@[reducible] def VK:TI:={agg:=true,n:=10,zero:=[.v (.int .i64 0),.v (.int .i64 0),.v (.int .i64 0),.arr 2 [],.arr 1 [],.v (.string ⟨#[]⟩),.arr 2 [],.arr 1 [],.arr 1 [],.v (.int .i64 0)],fs:=[(0,29),(3,33),(4,38),(5,9),(6,57),(7,38),(8,38),(9,3)]}
@[reducible] def ahj:TI:={n:=1,zero:=[.v .nilIface],ifc:=true}
@[reducible] def mq:TI:={agg:=true,n:=2,zero:=[.v (.int .i64 0),.v (.int .i64 0)],fs:=[(0,3),(1,3)],eq:=[1,1]}
@[reducible] def ZX:TI:={n:=1,zero:=[.arr 3 []],elem:=29,ez:=3,eb:=24}
@[reducible] def Ea:TI:={agg:=true,n:=2,zero:=[.v (.int .i64 0),.v (.bool false)],fs:=[(0,3),(1,4)],eq:=[1,2]}
@[reducible] def MF:TI:={n:=1,zero:=[.arr 1 []],elem:=38,ez:=1,eb:=24}
@[reducible] def adu:TI:={n:=1,zero:=[.arr 2 []],elem:=217,ez:=2,eb:=16}
@[reducible] def adB:TI:={agg:=true,n:=2,zero:=[.v (.int .i64 0),.v (.bool false)],fs:=[(0,3),(1,4)],eq:=[1,2]}
@[reducible] def afs:TI:={n:=1,zero:=[.arr 1 []],elem:=234,ez:=1,eb:=24}
@[reducible] def afx:TI:={n:=1,zero:=[.arr 1 []],elem:=214,ez:=1,eb:=24}
@[reducible] def AG:Cx:={K:=[kd0,kd0,.no,.no,.own 1 0 false,.own 1 0 false,kd0,kd0,kd0,kd0,kd0,kd0,kd0,kd0,kd0,kd0,kd0,kd0,kd0,.own 1 0 false,kd0,kd0,kd0,kd0,kd1,.own 1 0 false,kd0,kd0,.own 1 0 false,kd0,kd0,kd0,kd1,.own 1 0 false],T:=[(3,ty3),(5,ty5),(9,ty9),(62,Jm)],S:=[],H:=[(0,([0,1,5,6,7],[0,5,6]))],res:=[.tmp 4],ios:=[],G:=gl0}
def bU:List D→Option Out:=aS AG Tryz.f73
@[reducible] def gY:FS:={pm:=[kd0,kd0],rm:=[.own 1 0 false],f:=bU}
theorem jS:au gl0 Tryz.prog 73 gY:=ax (c:=AG) al Tryz.func73 rfl rfl (by kernel_rfl)
@[reducible] def zw:Cx:={K:=[kd0,.no,kd0,kd0,kd0,kd0,kd0,kd0,kd0,kd0,kd0,kd0,kd0,kd0,kd0,kd0,kd0,kd0,kd0,kd0,kd0,kd0,kd0,kd0,kd0],T:=[(9,ty9)],S:=[],H:=[],res:=[.tmp 2],ios:=[],G:=gl0}
def bo:List D→Option Out:=aS zw Tryz.f74
@[reducible] def yp:FS:={pm:=[kd0],rm:=[kd0],f:=bo}
theorem Py:au gl0 Tryz.prog 74 yp:=ax (c:=zw) al Tryz.func74 rfl rfl (by kernel_rfl)
@[reducible] def KI:Cx:={K:=[kd0,kd0,kd0,.no,.no,.no,kd0,kd0,kd0,kd0,kd0,kd0,kd0,kd0,kd0],T:=[(3,ty3)],S:=[],H:=[],res:=[.tmp 6],ios:=[],G:=gl0}
def bW:List D→Option Out:=aS KI Tryz.f129
@[reducible] def dj:FS:={pm:=[kd0,kd0,kd0],rm:=[kd0],f:=bW}
theorem dE:au gl0 Tryz.prog 129 dj:=ax (c:=KI) al Tryz.func129 rfl rfl (by kernel_rfl)
@[reducible] def DD:Cx:={K:=[kd0,.no,kd0,kd0,kd0,kd0,kd0,kd0,kd0,kd0,kd0,kd0,kd0,kd0,kd0,kd0,kd0,kd0,kd0,kd0,kd0,kd0,kd0,kd0,kd0,kd0,kd0,kd0,kd0,kd0,kd0,kd0,kd0,kd0,kd0,kd0,kd0,kd0,kd0,kd0,kd0,kd0,kd0,kd0],T:=[(3,ty3),(5,ty5),(9,ty9)],S:=[(129,dj)],H:=[(0,([0,3,4],[3]))],res:=[.tmp 2],ios:=[],G:=gl0}
def dQ:List D→Option Out:=aS DD Tryz.f138
@[reducible] def oZ:FS:={pm:=[kd0],rm:=[kd0],f:=dQ}
theorem ud:au gl0 Tryz.prog 138 oZ:=ax (c:=DD) (ab dE al) Tryz.func138 rfl rfl (by kernel_rfl)
@[reducible] def Dl:Cx:={K:=[kd0,.box 2 0 false,kd0,.ref 1,kd0,kd0,kd0,.ref 1,kd0,kd0,kd0],T:=[(3,ty3),(75,mq)],S:=[(129,dj)],H:=[],res:=[.tmp 2],ios:=[],G:=gl0}
def oE:List D→Option Out:=aS Dl Tryz.f84
@[reducible] def CM:FS:={pm:=[kd0],rm:=[kd0],f:=oE}
theorem Qw:au gl0 Tryz.prog 84 CM:=ax (c:=Dl) (ab dE al) Tryz.func84 rfl rfl (by kernel_rfl)
@[reducible] def Cs:Cx:={K:=[kd2,.no,kd0,kd0,.box 2 0 false,kd2,kd0,kd0,kd0,kd0,kd2,kd0,kd0,kd0,kd0,kd0,kd0,kd0,kd0,kd2,kd0,kd0,kd2,kd2,kd0,.ref 4,kd0,kd0,kd0,kd0,kd0,kd2,kd0,kd0],T:=[(3,ty3),(33,fZ),(75,mq)],S:=[(84,CM)],H:=[(0,([0,5,6,7],[0]))],res:=[.tmp 2],ios:=[],G:=gl0}
def gz:List D→Option Out:=aS Cs Tryz.f66
@[reducible] def ln:FS:={pm:=[kd2],rm:=[kd0],f:=gz}
theorem oK:au gl0 Tryz.prog 66 ln:=ax (c:=Cs) (ab Qw al) Tryz.func66 rfl rfl (by kernel_rfl)
@[reducible] def Ko:Cx:={K:=[kd2,.no,kd2,kd0,kd2,kd0,kd0,kd2],T:=[(33,fZ)],S:=[(66,ln)],H:=[],res:=[.tmp 2,.tmp 3],ios:=[],G:=gl0}
def pK:List D→Option Out:=aS Ko Tryz.f139
@[reducible] def yz:FS:={pm:=[kd2],rm:=[kd2,kd0],f:=pK}
theorem KK:au gl0 Tryz.prog 139 yz:=ax (c:=Ko) (ab oK al) Tryz.func139 rfl rfl (by kernel_rfl)
@[reducible] def tc:Cx:={K:=[kd0,.no,kd2,kd0,kd1,.own 2 0 false,.no,kd0,kd1,kd0,kd1,kd1,kd0,kd0,kd0,kd1,kd1,kd0,kd0,kd1,kd0,kd0,kd0,kd1,kd1,kd0,kd0,kd1,kd0,kd0,kd0,kd1,kd0,kd0,kd1,kd1,kd0,kd0,.own 2 0 false,kd1,kd1,kd0,kd0,kd1,kd1,kd0,kd0,kd0,kd1,.own 2 0 false,kd0,.via 5,.tup [kd2,kd0],kd2,kd0],T:=[(3,ty3),(9,ty9),(33,fZ),(62,Jm),(75,mq)],S:=[(73,gY),(138,oZ),(139,yz)],H:=[(0,([5,27,28,29],[5]))],res:=[.tmp 2,.tmp 3],ios:=[],G:=gl0}
@[reducible] def tJ:List (Nat × List Nat):=[(13,[5])]
def js:List D→Option Out:=vl tc tJ Tryz.f93
@[reducible] def jB:FS:={pm:=[kd0],rm:=[kd2,kd0],f:=js}
theorem Hq:au gl0 Tryz.prog 93 jB:=qW (Z:=tJ) (P:=Tryz.prog) (c:=tc) (fn:=Tryz.f93) (pm:=jB.pm) (rm:=jB.rm) (by kernel_rfl) (ab jS (ab ud (ab KK al))) fw Tryz.func93 (by kernel_rfl) (by kernel_rfl) rfl
@[reducible] def Co:Cx:={K:=[kd0,kd0,.no,.no,kd0,kd0,kd0,kd0],T:=[],S:=[],H:=[],res:=[.tmp 4],ios:=[],G:=gl0}
def cf:List D→Option Out:=aS Co Tryz.f94
@[reducible] def oI:FS:={pm:=[kd0,kd0],rm:=[kd0],f:=cf}
theorem ue:au gl0 Tryz.prog 94 oI:=ax (c:=Co) al Tryz.func94 rfl rfl (by kernel_rfl)
@[reducible] def Ec:Cx:={K:=[kd0,.no,kd0,kd0,kd0,kd0,kd0,kd0,kd0,kd0,kd0,kd0,kd0,kd0,kd0,kd0,kd0,kd0,kd0,kd0,kd0,kd0,kd0,kd0,kd0,kd0,kd0,kd0,kd0,kd0,kd0,kd0,kd0,kd0,kd0,kd0,kd0,kd0,kd0,kd0,kd0,kd0,kd0,kd0],T:=[(3,ty3),(5,ty5),(9,ty9)],S:=[(129,dj)],H:=[(0,([0,3,4],[3]))],res:=[.tmp 2],ios:=[],G:=gl0}
def iS:List D→Option Out:=aS Ec Tryz.f141
@[reducible] def Dk:FS:={pm:=[kd0],rm:=[kd0],f:=iS}
theorem PY:au gl0 Tryz.prog 141 Dk:=ax (c:=Ec) (ab dE al) Tryz.func141 rfl rfl (by kernel_rfl)
@[reducible] def zD:Cx:={K:=[kd0,.box 3 0 false,.own 1 0 false,.ref 1,kd0,.ref 1,kd0,.ref 1,kd0,.own 1 0 false],T:=[(3,ty3),(29,fY),(38,cY)],S:=[],H:=[],res:=[.tmp 2],ios:=[],G:=gl0}
def jK:List D→Option Out:=aS zD Tryz.f145
@[reducible] def rL:FS:={pm:=[kd0],rm:=[.own 1 0 false],f:=jK}
theorem AH:au gl0 Tryz.prog 145 rL:=ax (c:=zD) al Tryz.func145 rfl rfl (by kernel_rfl)
@[reducible] def HI:Cx:={K:=[kd2,kd0,kd0,.no,.no,.no,kd0,.no,kd0,kd2,kd0,kd0,kd0,kd2,kd0,kd0,kd0,kd0,kd0,kd0,kd0],T:=[(3,ty3),(38,cY)],S:=[(129,dj)],H:=[(0,([1,2,9,10,11],[]))],res:=[.tmp 6],ios:=[],G:=gl0}
def nb:List D→Option Out:=aS HI Tryz.f149
@[reducible] def wg:FS:={pm:=[kd2,kd0,kd0],rm:=[kd0],f:=nb}
theorem FM:au gl0 Tryz.prog 149 wg:=ax (c:=HI) (ab dE al) Tryz.func149 rfl rfl (by kernel_rfl)
@[reducible] def Eg:Cx:={K:=[kd0,.box 3 0 false,kd0,kd0,kd1,kd0],T:=[(3,ty3),(29,fY)],S:=[(145,rL),(149,wg)],H:=[],res:=[.tmp 2],ios:=[],G:=gl0}
def gA:List D→Option Out:=aS Eg Tryz.f142
@[reducible] def lp:FS:={pm:=[kd0],rm:=[kd0],f:=gA}
theorem oM:au gl0 Tryz.prog 142 lp:=ax (c:=Eg) (ab AH (ab FM al)) Tryz.func142 rfl rfl (by kernel_rfl)
@[reducible] def Kr:Cx:={K:=[kd0,.box 3 0 false,.box 3 0 false,kd0,kd0,kd0,kd0,kd0,kd0],T:=[(3,ty3),(29,fY)],S:=[(142,lp)],H:=[],res:=[.cell 2 29,.tmp 3],ios:=[],G:=gl0}
def pr:List D→Option Out:=aS Kr Tryz.f140
@[reducible] def Au:FS:={pm:=[kd0],rm:=[kd0,kd0],f:=pr}
theorem Kk:au gl0 Tryz.prog 140 Au:=ax (c:=Kr) (ab oM al) Tryz.func140 rfl rfl (by kernel_rfl)
@[reducible] def vr:Cx:={K:=[kd0,.no,.box 3 0 false,kd0,kd1,kd0,kd1,kd1,kd0,kd0,kd0,kd1,kd1,kd0,kd0,kd1,kd1,kd0,kd0,kd1,kd1,kd0,kd0,kd0,.tup [kd0,kd0],kd0,kd0],T:=[(3,ty3),(9,ty9),(29,fY),(62,Jm)],S:=[(73,gY),(140,Au),(141,Dk)],H:=[],res:=[.cell 2 29,.tmp 3],ios:=[],G:=gl0}
def ke:List D→Option Out:=aS vr Tryz.f95
@[reducible] def vq:FS:={pm:=[kd0],rm:=[kd0,kd0],f:=ke}
theorem JI:au gl0 Tryz.prog 95 vq:=ax (c:=vr) (ab jS (ab Kk (ab PY al))) Tryz.func95 rfl rfl (by kernel_rfl)
@[reducible] def Cz:Cx:={K:=[kd0,kd0,.box 3 0 false,.box 3 0 false,.box 3 0 false,.ref 2,kd0,.ref 3,kd0,kd0,.ref 2,kd0,.ref 3,kd0,kd0,.ref 2,kd0,.ref 3,kd0,kd0,kd0],T:=[(3,ty3),(29,fY)],S:=[],H:=[],res:=[.cell 4 29],ios:=[],G:=gl0}
def oS:List D→Option Out:=aS Cz Tryz.f143
@[reducible] def Dz:FS:={pm:=[kd0,kd0],rm:=[kd0],f:=oS}
theorem PM:au gl0 Tryz.prog 143 Dz:=ax (c:=Cz) al Tryz.func143 rfl rfl (by kernel_rfl)
@[reducible] def uX:Cx:={K:=[kd2,.no,.box 3 0 false,kd0,.box 3 0 false,.no,.box 3 0 false,kd2,kd0,kd0,kd0,kd2,kd0,kd0,kd0,kd2,kd0,kd0,kd0,kd0,kd0,kd0,kd0,kd0,kd0,kd0,.tup [kd0,kd0],kd0,kd0],T:=[(3,ty3),(29,fY),(128,ZX)],S:=[(140,Au),(142,lp),(143,Dz)],H:=[(0,([2,4,11,12,13],[2,4]))],res:=[.cell 2 29,.tmp 3],ios:=[],G:=gl0}
def kD:List D→Option Out:=aS uX Tryz.f96
@[reducible] def vM:FS:={pm:=[kd2],rm:=[kd0,kd0],f:=kD}
theorem IJ:au gl0 Tryz.prog 96 vM:=ax (c:=uX) (ab Kk (ab oM (ab PM al))) Tryz.func96 rfl rfl (by kernel_rfl)
@[reducible] def FN (k:List D→Option Out):Cx:={K:=[kd0,.no,kd0,kd0,kd0,kd0,kd0,kd0,kd1,kd0,kd0,kd0,kd0,kd0,kd0,kd0,kd0,kd1,kd0,kd0],T:=[(3,ty3),(5,ty5),(9,ty9),(43,aho)],S:=[(61,{pm:=[kd0],rm:=[kd0],f:=k})],H:=[],res:=[.tmp 2],ios:=[],G:=gl0}
def cP:Nat→List D→Option Out
 | 0,_=>none
 | n+1,ds=>aS (FN (cP n)) Tryz.f61 ds
def cd:List D→Option Out:=aaL cP
@[reducible] def fd:FS:={pm:=[kd0],rm:=[kd0],f:=cd}
theorem CS:∀n:Nat,au gl0 Tryz.prog 61 {pm:=[kd0],rm:=[kd0],f:=cP n}
 | 0=>Yd (fun _=>rfl)
 | n+1=>by
  have ih:=CS n
  exact XF (P:=Tryz.prog) (c:=FN (cP n)) (fn:=Tryz.f61) (pm:=fd.pm) (rm:=fd.rm) (by kernel_rfl) (ab ih al) fw Tryz.func61 (by kernel_rfl) (by kernel_rfl) rfl
theorem kv:au gl0 Tryz.prog 61 fd:=abr CS
@[reducible] def DZ:Cx:={K:=[kd0,.box 3 0 false,kd0,.ref 1,kd0,kd0,kd0,.ref 1,kd0,kd0,kd0,kd0,.ref 1,kd0,kd0,kd0],T:=[(3,ty3),(9,ty9),(29,fY)],S:=[(61,fd)],H:=[],res:=[.tmp 2],ios:=[],G:=gl0}
def gx:List D→Option Out:=aS DZ Tryz.f63
@[reducible] def tR:FS:={pm:=[kd0],rm:=[kd0],f:=gx}
theorem Ci:au gl0 Tryz.prog 63 tR:=ax (c:=DZ) (ab kv al) Tryz.func63 rfl rfl (by kernel_rfl)
@[reducible] def qv:Cx:={K:=[.box 10 2 true,kd0,kd0,.no,.no,.no,kd0,kd2,kd0,.box 3 0 false,kd0,kd0,kd0,.tup [kd2,kd0],kd0,.tup [kd2,kd0],kd2,kd0,kd0,.ref 0,kd2,.ref 0,.ref 0,kd0,kd0,.tup [kd0,kd0],kd0,.tup [kd0,kd0],kd0,kd0,kd0,kd0,kd0,kd0,kd0,.tup [kd0,kd0],.ref 0,.ref 0,.ref 0,kd0,kd0,kd1,.tup [kd0,kd0],kd0,kd0,kd0,kd0,.ref 0,kd0,.ref 0,.ref 0,kd0,kd0,kd0,kd0],T:=[(3,ty3),(9,ty9),(29,fY),(33,fZ),(38,cY),(57,mr),(59,VK),(75,mq),(128,ZX)],S:=[(63,tR),(93,jB),(94,oI),(95,vq),(96,vM)],H:=[],res:=[.tmp 6],ios:=[0],G:=gl0}
def gJ:List D→Option Out:=aS qv Tryz.f75
@[reducible] def qo:FS:={pm:=[.box 10 2 true,kd0,kd0],rm:=[kd0],f:=gJ}
theorem Bv:au gl0 Tryz.prog 75 qo:=ax (c:=qv) (ab Ci (ab Hq (ab ue (ab JI (ab IJ al))))) Tryz.func75 rfl rfl (by kernel_rfl)
@[reducible] def xf:Cx:={K:=[kd0,.no,kd0,kd0,kd0,kd0,kd0,kd0,kd0,kd0,kd0,kd0,kd0,kd0,kd0,kd0,kd0,kd0,kd0,kd0,kd0,kd0,kd0,kd0,kd0,kd0],T:=[(3,ty3),(5,ty5),(9,ty9)],S:=[(138,oZ)],H:=[],res:=[.tmp 2,.tmp 3],ios:=[],G:=gl0}
def lI:List D→Option Out:=aS xf Tryz.f97
@[reducible] def xo:FS:={pm:=[kd0],rm:=[kd0,kd0],f:=lI}
theorem Lx:au gl0 Tryz.prog 97 xo:=ax (c:=xf) (ab ud al) Tryz.func97 rfl rfl (by kernel_rfl)
@[reducible] def Ch:Cx:={K:=[kd2,kd0,.no,.no,kd1,kd0,.own 1 0 false,.no,kd0,kd0,kd0,kd2,kd0,kd0,kd0,kd2,kd0,.tup [kd0,kd0],kd0,.tup [kd0,kd0],kd0,kd0,kd0,kd0,.own 1 0 false,kd0,kd1,.own 1 0 false,kd0,.via 6,.via 6,kd0,kd0,kd0],T:=[(3,ty3),(9,ty9),(38,cY),(62,Jm)],S:=[(97,xo)],H:=[(0,([1,6,11,12,13],[1,6]))],res:=[.tmp 4,.tmp 5],ios:=[],G:=gl0}
def oQ:List D→Option Out:=aS Ch Tryz.f76
@[reducible] def DC:FS:={pm:=[kd2,kd0],rm:=[kd1,kd0],f:=oQ}
theorem QO:au gl0 Tryz.prog 76 DC:=ax (c:=Ch) (ab Lx al) Tryz.func76 rfl rfl (by kernel_rfl)
@[reducible] def yP:Cx:={K:=[kd0,.box 3 0 false,kd0,.ref 1,kd0,.ref 1,kd0,kd0,.ref 1,kd0,kd0],T:=[(3,ty3),(29,fY)],S:=[],H:=[],res:=[.tmp 2],ios:=[],G:=gl0}
def fN:List D→Option Out:=aS yP Tryz.f144
@[reducible] def rB:FS:={pm:=[kd0],rm:=[kd0],f:=fN}
theorem Ak:au gl0 Tryz.prog 144 rB:=ax (c:=yP) al Tryz.func144 rfl rfl (by kernel_rfl)
@[reducible] def xt:Cx:={K:=[kd0,kd0,.box 3 0 false,.no,.box 3 0 false,.box 3 0 false,kd0,.box 3 0 false,kd0,kd0,kd0,kd0,kd0,kd0,kd0,kd0,kd0,kd0,kd0,kd0,kd0,kd0,kd0,kd0,kd0,.ref 2,kd0,kd0,kd0,kd0,kd0,.ref 7,.ref 2,kd0,kd0,kd0,kd0,kd0,.ref 7,kd0,.ref 7,kd0,kd0,.ref 7,kd0,kd0,.ref 7,.ref 7,kd0,.ref 2,kd0,kd0,kd0,kd0,kd0,.ref 2,kd0,.ref 7,kd0,kd0,.ref 2,kd0,.ref 7,kd0,kd0,.ref 2,kd0,.ref 7,kd0,kd0,kd0],T:=[(3,ty3),(29,fY)],S:=[(129,dj),(142,lp),(144,rB)],H:=[],res:=[.cell 4 29,.cell 5 29,.tmp 6],ios:=[],G:=gl0}
def lJ:List D→Option Out:=aS xt Tryz.f98
@[reducible] def xL:FS:={pm:=[kd0,kd0],rm:=[kd0,kd0,kd0],f:=lJ}
theorem LQ:au gl0 Tryz.prog 98 xL:=ax (c:=xt) (ab dE (ab oM (ab Ak al))) Tryz.func98 rfl rfl (by kernel_rfl)
@[reducible] def xB:Cx:={K:=[kd0,.box 3 0 false,.own 1 0 false,kd0,.own 1 0 false,.no,kd0,kd0,kd0,kd0,kd0,kd0,kd0,kd0,kd0,kd0,kd1,kd0,kd0,kd0,kd1,kd0,.own 1 0 false,kd0,kd0,kd0,kd0,kd0,kd1,.own 1 0 false,kd0,.own 1 0 false],T:=[(3,ty3),(29,fY),(38,cY)],S:=[(142,lp),(144,rB),(145,rL)],H:=[(0,([1,4,16,17,18],[4]))],res:=[.tmp 2,.tmp 3],ios:=[],G:=gl0}
def lK:List D→Option Out:=aS xB Tryz.f99
@[reducible] def ya:FS:={pm:=[kd0],rm:=[.own 1 0 false,kd0],f:=lK}
theorem Le:au gl0 Tryz.prog 99 ya:=ax (c:=xB) (ab oM (ab Ak (ab AH al))) Tryz.func99 rfl rfl (by kernel_rfl)
@[reducible] def HD:Cx:={K:=[kd0,.no,kd0,kd0,kd0,kd0,kd0,kd0,kd0,kd0,kd0],T:=[(3,ty3),(9,ty9)],S:=[(61,fd)],H:=[],res:=[.tmp 2],ios:=[],G:=gl0}
def fi:List D→Option Out:=aS HD Tryz.f105
@[reducible] def qT:FS:={pm:=[kd0],rm:=[kd0],f:=fi}
theorem wb:au gl0 Tryz.prog 105 qT:=ax (c:=HD) (ab kv al) Tryz.func105 rfl rfl (by kernel_rfl)
@[reducible] def Dn:Cx:={K:=[kd2,.no,kd0,kd0,kd0,kd0,kd2,kd0,kd0,kd0,kd0,kd2,kd0,kd0,kd0,kd0,kd0,kd0,kd0,kd0,kd0,kd0,kd0],T:=[(3,ty3),(9,ty9),(38,cY)],S:=[(105,qT)],H:=[(0,([3,6,7,8],[3]))],res:=[.tmp 2],ios:=[],G:=gl0}
def iT:List D→Option Out:=aS Dn Tryz.f100
@[reducible] def ut:FS:={pm:=[kd2],rm:=[kd0],f:=iT}
theorem CB:au gl0 Tryz.prog 100 ut:=ax (c:=Dn) (ab wb al) Tryz.func100 rfl rfl (by kernel_rfl)
@[reducible] def xH:Cx:={K:=[kd0,.no,kd0,kd0,kd0],T:=[],S:=[(129,dj)],H:=[],res:=[.tmp 2],ios:=[],G:=gl0}
def iI:List D→Option Out:=aS xH Tryz.f146
@[reducible] def pU:FS:={pm:=[kd0],rm:=[kd0],f:=iI}
theorem xU:au gl0 Tryz.prog 146 pU:=ax (c:=xH) (ab dE al) Tryz.func146 rfl rfl (by kernel_rfl)
@[reducible] def zR:Cx:={K:=[kd0,kd0,.no,.no,kd0,kd0,kd0,kd0,kd0,kd0],T:=[(3,ty3)],S:=[],H:=[],res:=[.tmp 4],ios:=[],G:=gl0}
def jV:List D→Option Out:=aS zR Tryz.f187
@[reducible] def rj:FS:={pm:=[kd0,kd0],rm:=[kd0],f:=jV}
theorem yM:au gl0 Tryz.prog 187 rj:=ax (c:=zR) al Tryz.func187 rfl rfl (by kernel_rfl)
@[reducible] def xp:Cx:={K:=[kd2,kd0,.no,.no,.own 1 1 false,.own 1 0 false,kd0,.own 1 1 false,kd0,.box 2 0 false,.own 1 0 false,kd0,kd0,kd0,kd0,kd0,kd0,kd0,kd0,.own 1 0 false,kd1,.own 1 0 false,.via 5,.ref 5,.via 5,.own 1 1 false,kd2,kd0,kd0,kd0,kd0,kd2,kd0,kd0,kd0,kd0,kd0,kd0,kd0,.ref 9,kd0,kd0,kd0,kd0,.ref 9,kd0,kd0,kd0,kd0,kd0,kd0,kd0,kd0,.via 7,kd0,.ref 7,kd1,kd0,kd0,.ref 9,kd0,kd0,kd0,kd1,kd0,kd0,kd0,kd0,.own 1 0 false,kd0,kd1,.own 1 0 false,.own 1 1 false,.via 10,kd1,.own 1 1 false,kd0,.own 1 1 false],T:=[(3,ty3),(33,fZ),(38,cY),(75,mq),(164,MF)],S:=[(187,rj)],H:=[(0,([0,1,5,6],[0,1,5])),(2,([1,7,26,27,28],[7])),(4,([1,7,8,9,10,11,26,27,28],[1,7,10,26,27,28])),(6,([1,7,8,9,10,11,12,13,26,27,28],[1,7,8,9,10,11,12,26,27,28]))],res:=[.tmp 4],ios:=[],G:=gl0}
@[reducible] def xc:List (Nat × List Nat):=[(7,[5]),(21,[10])]
def gb:List D→Option Out:=vl xp xc Tryz.f148
@[reducible] def iJ:FS:={pm:=[kd2,kd0],rm:=[.own 1 1 false],f:=gb}
theorem xi:au gl0 Tryz.prog 148 iJ:=qW (Z:=xc) (P:=Tryz.prog) (c:=xp) (fn:=Tryz.f148) (pm:=iJ.pm) (rm:=iJ.rm) (by kernel_rfl) (ab yM al) fw Tryz.func148 (by kernel_rfl) (by kernel_rfl) rfl
@[reducible] def CN:Cx:={K:=[kd2,kd0,.no,.no,.own 1 0 false,kd0,kd1,.own 1 0 false,kd0,kd0,kd2,kd0,kd1,kd1,kd2,kd0,kd1,kd1,kd0,kd1,kd0,kd0,kd2,kd0,.own 1 0 false,kd2,kd0,kd0,kd0,kd0,kd0,kd0,kd2,kd0,kd2,kd2,kd0,kd0,kd2,kd0,kd2,kd2,kd0,kd0,kd0,kd1,kd0,kd1,kd1,kd0,kd0,kd2,kd0,kd2,kd2,kd0,kd0,kd0,kd1,kd0,kd0,kd0,kd1,kd0,kd0,kd1,kd1,kd0,kd1,kd0,kd0,kd0,kd0,.via 7,kd0,kd0,.ref 7,kd0,kd0,kd2,kd0,kd2,kd2,kd0,kd0,kd0,.own 1 0 false],T:=[(3,ty3),(33,fZ),(38,cY),(75,mq),(164,MF)],S:=[(148,iJ),(187,rj)],H:=[(0,([0,1,6,7,8],[7])),(2,([0,1,6,7,8,9],[0,1,6,7,8,9]))],res:=[.tmp 4,.tmp 5],ios:=[],G:=gl0}
def ou:List D→Option Out:=aS CN Tryz.f147
@[reducible] def CY:FS:={pm:=[kd2,kd0],rm:=[.own 1 0 false,kd0],f:=ou}
theorem Rc:au gl0 Tryz.prog 147 CY:=ax (c:=CN) (ab xi (ab yM al)) Tryz.func147 rfl rfl (by kernel_rfl)
@[reducible] def De:Cx:={K:=[kd2,kd0,.no,.no,kd1,kd0,kd2,kd0,kd0,kd0,kd0,kd0,kd0,kd0,kd2,kd0,.tup [.own 1 0 false,kd0],kd1,kd0],T:=[(38,cY)],S:=[(66,ln),(146,pU),(147,CY)],H:=[],res:=[.tmp 4,.tmp 5],ios:=[],G:=gl0}
def oW:List D→Option Out:=aS De Tryz.f101
@[reducible] def Eh:FS:={pm:=[kd2,kd0],rm:=[kd1,kd0],f:=oW}
theorem PH:au gl0 Tryz.prog 101 Eh:=ax (c:=De) (ab oK (ab xU (ab Rc al))) Tryz.func101 rfl rfl (by kernel_rfl)
@[reducible] def CW:Cx:={K:=[kd2,kd2,.no,.no,.own 2 0 false,.own 2 0 false,kd0,kd0,.own 2 0 false,kd2,.own 2 0 false,kd2,kd0,kd0,kd0,kd0,kd2,kd0,.via 5,kd0,.ref 5,.ref 5,kd0,kd0,kd0,.ref 5,.ref 5,kd0,.own 2 0 false],T:=[(3,ty3),(33,fZ),(38,cY),(75,mq)],S:=[],H:=[(0,([5,11,12,13],[5]))],res:=[.tmp 4],ios:=[],G:=gl0}
def oY:List D→Option Out:=aS CW Tryz.f102
@[reducible] def CA:FS:={pm:=[kd2,kd2],rm:=[.own 2 0 false],f:=oY}
theorem Qn:au gl0 Tryz.prog 102 CA:=ax (c:=CW) al Tryz.func102 rfl rfl (by kernel_rfl)
@[reducible] def Ip:Cx:={K:=[kd2,kd0,kd0,.no,.no,.no,.own 2 0 false,kd0,.own 2 0 false,kd0,kd2,kd0,kd0,kd0,kd2,kd0,kd2,kd2,kd0,kd0,kd0,kd0,kd0,kd0,.own 2 0 false,kd2,.own 2 0 false,kd0,kd2,kd0,kd0,kd0,kd2,kd0,kd2,kd2,kd0,kd0,kd0,kd0,.via 8,kd0,.ref 8,.ref 8,kd0,kd0,kd0,.ref 8,.ref 8,.own 2 0 false,.own 2 0 false,kd2,kd0,kd2,.own 2 0 false,kd0,kd0,kd0,kd1,.own 2 0 false,kd2,kd0,kd2,.own 2 0 false],T:=[(3,ty3),(33,fZ),(75,mq)],S:=[],H:=[(0,([0,1,2,7],[0,1,2,7]))],res:=[.tmp 6],ios:=[],G:=gl0}
def mD:List D→Option Out:=aS Ip Tryz.f83
@[reducible] def Hs:FS:={pm:=[kd2,kd0,kd0],rm:=[.own 2 0 false],f:=mD}
theorem TP:au gl0 Tryz.prog 83 Hs:=ax (c:=Ip) al Tryz.func83 rfl rfl (by kernel_rfl)
@[reducible] def As:Cx:={K:=[kd2,kd0,kd0,.no,.no,.no,kd2,kd0,.via 41,kd2,kd0,kd0,kd0,kd0,kd2,kd0,kd0,kd0,kd0,kd0,kd0,kd2,kd0,kd2,kd2,kd0,kd0,kd0,kd0,kd0,kd2,kd0,kd2,kd2,kd0,kd0,kd0,kd0,kd0,.own 2 0 false,kd2,.own 2 0 false,.via 41,kd0,.ref 41,.ref 41,kd0,kd0,.ref 41,.ref 41,.via 41,kd0,kd1,kd2,kd0,kd2,kd2,kd0,kd0,kd0,kd1,.tup [kd2,kd0],kd2,kd0],T:=[(3,ty3),(33,fZ),(75,mq)],S:=[(66,ln),(83,Hs),(129,dj),(139,yz)],H:=[],res:=[.tmp 6,.tmp 7],ios:=[],G:=gl0}
def mR:List D→Option Out:=aS As Tryz.f103
@[reducible] def zy:FS:={pm:=[kd2,kd0,kd0],rm:=[kd2,kd0],f:=mR}
theorem PE:au gl0 Tryz.prog 103 zy:=ax (c:=As) (ab oK (ab TP (ab dE (ab KK al)))) Tryz.func103 rfl rfl (by kernel_rfl)
@[reducible] def Cv:Cx:={K:=[kd2,.no,kd0,kd0,.no,.box 2 0 false,kd2,kd0,kd0,kd0,kd2,kd0,kd0,.ref 5,kd0,kd0,kd0,.ref 5,kd0,kd0,kd0,kd0,kd0,kd0,kd0],T:=[(3,ty3),(9,ty9),(33,fZ),(75,mq)],S:=[(61,fd)],H:=[(0,([3,6,7,8],[3]))],res:=[.tmp 2],ios:=[],G:=gl0}
def ll:List D→Option Out:=aS Cv Tryz.f67
@[reducible] def CX:FS:={pm:=[kd2],rm:=[kd0],f:=ll}
theorem RG:au gl0 Tryz.prog 67 CX:=ax (c:=Cv) (ab kv al) Tryz.func67 rfl rfl (by kernel_rfl)
@[reducible] def ta:Cx:={K:=[kd2,kd0,.no,.no,kd0,kd0,kd1,kd0,kd2,kd0,kd0,kd0,kd0,kd0,kd0,kd0,kd2,kd1,kd2,kd0,kd1,kd1,kd0,kd0,kd0,kd0,kd0,kd1,kd0,kd1,kd0,kd0,kd0,kd0,kd0],T:=[(3,ty3),(33,fZ),(38,cY),(75,mq),(164,MF)],S:=[(66,ln),(146,pU),(148,iJ)],H:=[(0,([1,6,7],[]))],res:=[.tmp 4,.tmp 5],ios:=[],G:=gl0}
def jw:List D→Option Out:=aS ta Tryz.f104
@[reducible] def tn:FS:={pm:=[kd2,kd0],rm:=[kd0,kd0],f:=jw}
theorem Ga:au gl0 Tryz.prog 104 tn:=ax (c:=ta) (ab oK (ab xU (ab xi al))) Tryz.func104 rfl rfl (by kernel_rfl)
@[reducible] def pq:Cx:={K:=[.box 10 2 true,kd0,kd2,.no,.no,.no,kd0,.box 3 0 false,.box 3 0 false,kd0,kd1,kd0,kd1,kd0,kd2,kd0,kd0,kd0,kd0,kd0,kd0,.tup [kd0,kd0,kd0],.ref 0,.ref 0,.ref 0,kd0,kd2,kd2,kd0,.tup [kd0,kd0,kd0],kd0,kd0,kd0,kd0,.ref 0,kd0,.ref 0,.ref 0,kd0,kd0,kd0,kd0,kd0,kd0,.tup [.own 1 0 false,kd0],.ref 0,.ref 0,.ref 0,kd0,.tup [.own 1 0 false,kd0],kd1,kd0,kd1,kd0,kd0,kd0,kd0,kd0,.tup [kd1,kd0],.ref 0,.ref 0,.ref 0,kd2,kd2,kd2,kd0,.tup [kd1,kd0],kd1,kd0,kd0,kd0,.ref 0,.ref 0,.ref 0,.ref 0,kd2,kd1,kd1,.ref 0,.ref 0,kd1,kd0,kd0,kd0,.tup [kd2,kd0],.ref 0,.ref 0,.ref 0,kd2,kd2,kd2,kd0,kd2,kd2,kd0,.tup [kd2,kd0],kd2,kd0,kd0,.ref 0,kd2,.ref 0,.ref 0,kd2,kd0,kd0,kd0,.tup [kd0,kd0],.ref 0,.ref 0,.ref 0,kd2,kd2,kd2,kd0,.tup [kd0,kd0],kd0,kd0,kd0,kd0,kd0,kd0],T:=[(3,ty3),(9,ty9),(29,fY),(33,fZ),(38,cY),(57,mr),(59,VK),(75,mq)],S:=[(63,tR),(67,CX),(94,oI),(98,xL),(99,ya),(100,ut),(101,Eh),(102,CA),(103,zy),(104,tn),(105,qT)],H:=[],res:=[.tmp 6],ios:=[0],G:=gl0}
def cy:List D→Option Out:=aS pq Tryz.f77
@[reducible] def pt:FS:={pm:=[.box 10 2 true,kd0,kd2],rm:=[kd0],f:=cy}
theorem yO:au gl0 Tryz.prog 77 pt:=ax (c:=pq) (ab Ci (ab RG (ab ue (ab LQ (ab Le (ab CB (ab PH (ab Qn (ab PE (ab Ga (ab wb al))))))))))) Tryz.func77 rfl rfl (by kernel_rfl)
@[reducible] def Gp:Cx:={K:=[kd2,.no,.own 1 0 false,.own 1 0 false,kd2,.own 1 0 false],T:=[(3,ty3),(38,cY)],S:=[],H:=[],res:=[.tmp 2],ios:=[],G:=gl0}
def gp:List D→Option Out:=aS Gp Tryz.f46
@[reducible] def mz:FS:={pm:=[kd2],rm:=[.own 1 0 false],f:=gp}
theorem qK:au gl0 Tryz.prog 46 mz:=ax (c:=Gp) al Tryz.func46 rfl rfl (by kernel_rfl)
@[reducible] def Dy:Cx:={K:=[kd2,.no,kd0,kd2,kd0,kd0,kd0,kd2,kd0,kd0],T:=[(3,ty3),(38,cY)],S:=[(129,dj),(149,wg)],H:=[],res:=[.tmp 2],ios:=[],G:=gl0}
def iQ:List D→Option Out:=aS Dy Tryz.f106
@[reducible] def ot:FS:={pm:=[kd2],rm:=[kd0],f:=iQ}
theorem tZ:au gl0 Tryz.prog 106 ot:=ax (c:=Dy) (ab dE (ab FM al)) Tryz.func106 rfl rfl (by kernel_rfl)
@[reducible] def xT:Cx:={K:=[kd2,.no,kd1,kd1,.no,kd0,kd0,kd2,kd0,kd0,kd0,kd2,kd0,kd0,kd1,kd0,kd0,kd0,kd1,kd0,kd1,kd0,kd0,kd0,kd0,kd0,kd0,kd1,kd0,kd1,.own 1 0 false,kd0,kd1,.own 1 0 false,kd1,kd0,kd1,kd1,kd0,kd1],T:=[(3,ty3),(38,cY)],S:=[(46,mz)],H:=[(0,([3,7,8,9],[3])),(2,([3,5,6,7,8,9],[3,5,6,7,8,9]))],res:=[.tmp 2],ios:=[],G:=gl0}
def lL:List D→Option Out:=aS xT Tryz.f150
@[reducible] def xG:FS:={pm:=[kd2],rm:=[kd1],f:=lL}
theorem Li:au gl0 Tryz.prog 150 xG:=ax (c:=xT) (ab qK al) Tryz.func150 rfl rfl (by kernel_rfl)
@[reducible] def vI:Cx:={K:=[kd2,.no,kd0,kd0,kd2,kd0,kd0,kd2,kd1,kd2,kd0,kd0,kd0,kd1,kd0],T:=[(3,ty3),(38,cY)],S:=[(106,ot),(150,xG)],H:=[],res:=[.tmp 2,.tmp 3],ios:=[],G:=gl0}
def kl:List D→Option Out:=aS vI Tryz.f107
@[reducible] def uT:FS:={pm:=[kd2],rm:=[kd0,kd0],f:=kl}
theorem Jz:au gl0 Tryz.prog 107 uT:=ax (c:=vI) (ab tZ (ab Li al)) Tryz.func107 rfl rfl (by kernel_rfl)
@[reducible] def Cc:Cx:={K:=[kd0,.no,kd0,kd0,kd0,kd0,kd0,kd0,kd0],T:=[(3,ty3)],S:=[],H:=[],res:=[.tmp 2],ios:=[],G:=gl0}
def kY:List D→Option Out:=aS Cc Tryz.f151
@[reducible] def Cb:FS:={pm:=[kd0],rm:=[kd0],f:=kY}
theorem PU:au gl0 Tryz.prog 151 Cb:=ax (c:=Cc) al Tryz.func151 rfl rfl (by kernel_rfl)
@[reducible] def qu:Cx:={K:=[kd2,.no,kd0,kd0,kd0,kd0,kd0,kd0,kd0,kd0,kd2,kd0,kd0,kd2,kd0,kd0,kd0,kd0,kd0,kd0,kd0,kd2,kd0,kd0,kd0,kd0,kd2,kd0,kd0,kd2,kd0,kd2,kd0,kd2,kd0,kd0,kd0,kd0,kd0,kd0,kd2,kd0,kd2,kd0,kd2,kd0,kd0,kd2,kd0,kd0,kd0,kd0,kd0,kd0,kd0,kd0,kd0,kd0,kd0,kd0,kd0,kd0,kd0,kd0,kd0,kd0,kd0,kd0],T:=[(3,ty3),(38,cY)],S:=[(106,ot),(151,Cb)],H:=[(0,([0,5,6,14,15],[5,6])),(2,([0,5,6,7,8,14,15],[0,5,6,14,15]))],res:=[.tmp 2,.tmp 3,.tmp 4],ios:=[],G:=gl0}
def gK:List D→Option Out:=aS qu Tryz.f108
@[reducible] def qd:FS:={pm:=[kd2],rm:=[kd0,kd0,kd0],f:=gK}
theorem BH:au gl0 Tryz.prog 108 qd:=ax (c:=qu) (ab tZ (ab PU al)) Tryz.func108 rfl rfl (by kernel_rfl)
@[reducible] def DX:Cx:={K:=[kd0,.box 3 0 false,kd0,.ref 1,kd0,kd0,kd0,.ref 1,kd0,kd0,kd0,kd0,.ref 1,kd0,kd0,kd0],T:=[(3,ty3),(121,jR)],S:=[(129,dj)],H:=[],res:=[.tmp 2],ios:=[],G:=gl0}
def oD:List D→Option Out:=aS DX Tryz.f188
@[reducible] def DG:FS:={pm:=[kd0],rm:=[kd0],f:=oD}
theorem Rx:au gl0 Tryz.prog 188 DG:=ax (c:=DX) (ab dE al) Tryz.func188 rfl rfl (by kernel_rfl)
@[reducible] def Cg:Cx:={K:=[kd2,.no,kd0,kd0,.box 3 0 false,kd2,kd0,kd0,kd0,kd0,kd2,kd0,kd0,kd0,kd0,kd0,kd0,kd0,kd0,kd2,kd0,kd0,kd2,kd2,kd0,.ref 4,kd0,kd0,kd0,kd0,kd0,kd2,kd0,kd0],T:=[(3,ty3),(48,Ez),(121,jR)],S:=[(188,DG)],H:=[(0,([0,5,6,7],[0]))],res:=[.tmp 2],ios:=[],G:=gl0}
def gw:List D→Option Out:=aS Cg Tryz.f152
@[reducible] def lq:FS:={pm:=[kd2],rm:=[kd0],f:=gw}
theorem oJ:au gl0 Tryz.prog 152 lq:=ax (c:=Cg) (ab Rx al) Tryz.func152 rfl rfl (by kernel_rfl)
@[reducible] def yr:Cx:={K:=[kd0,kd0,.no,.box 3 0 false,kd0,kd0,kd0,.ref 3,kd0,kd0,kd0,.ref 3,kd0,kd0,kd0,.ref 3,kd0,kd0,kd0],T:=[(3,ty3),(121,jR)],S:=[],H:=[],res:=[.tmp 4],ios:=[],G:=gl0}
def gU:List D→Option Out:=aS yr Tryz.f189
@[reducible] def rQ:FS:={pm:=[kd0,kd0],rm:=[kd0],f:=gU}
theorem zu:au gl0 Tryz.prog 189 rQ:=ax (c:=yr) al Tryz.func189 rfl rfl (by kernel_rfl)
@[reducible] def Dr:Cx:={K:=[kd0,kd0,.box 3 0 false,.no,kd0,.ref 2,kd0,kd0,kd0,.ref 2,kd0,kd0,kd0,kd0,.ref 2,kd0,kd0,kd0,kd0,kd0,kd0,kd0,kd0],T:=[(3,ty3),(9,ty9),(121,jR)],S:=[(61,fd)],H:=[],res:=[.tmp 4],ios:=[],G:=gl0}
def kZ:List D→Option Out:=aS Dr Tryz.f190
@[reducible] def tO:FS:={pm:=[kd0,kd0],rm:=[kd0],f:=kZ}
theorem DA:au gl0 Tryz.prog 190 tO:=ax (c:=Dr) (ab kv al) Tryz.func190 rfl rfl (by kernel_rfl)
@[reducible] def DK:Cx:={K:=[kd0,.no,.own 3 0 false,kd0,.own 3 0 false,kd0,kd0,kd1,.no,kd0,kd1,.box 3 0 false,.own 3 0 false,kd0,kd1,kd1,kd1,kd0,kd0,kd1,kd0,kd0,kd0,kd1,kd0,kd0,kd1,kd1,kd0,kd0,kd1,kd1,kd0,kd0,kd1,kd1,kd0,kd0,kd1,kd1,kd0,kd0,kd0,.own 3 0 false,.via 4,.own 3 0 false,kd0,kd1,.own 3 0 false,.via 12,kd0,kd0,kd0,kd0,kd0,kd0,kd0,kd0,kd0,kd0,kd0,kd0,kd0,kd0,kd0,kd0,kd0,kd0,kd0,kd0,.own 3 0 false,kd0,.own 3 0 false,kd0],T:=[(3,ty3),(9,ty9),(48,Ez),(62,Jm),(121,jR)],S:=[(73,gY),(138,oZ),(152,lq),(189,rQ),(190,tO)],H:=[(0,([4,5,6,19,20,21],[4,5]))],res:=[.tmp 2,.tmp 3],ios:=[],G:=gl0}
def oU:List D→Option Out:=aS DK Tryz.f155
@[reducible] def Dc:FS:={pm:=[kd0],rm:=[.own 3 0 false,kd0],f:=oU}
theorem PL:au gl0 Tryz.prog 155 Dc:=ax (c:=DK) (ab jS (ab ud (ab oJ (ab zu (ab DA al))))) Tryz.func155 rfl rfl (by kernel_rfl)
@[reducible] def sv:Cx:={K:=[kd0,.no,.own 3 0 false,kd0,.own 3 0 false,kd0,.tup [.own 3 0 false,kd0],kd0,.tup [.own 3 0 false,kd0],.own 3 0 false,kd0,kd0,kd0,kd0,kd0,kd0,kd0,kd0,kd0,kd0,.own 3 0 false],T:=[(3,ty3),(9,ty9),(48,Ez)],S:=[(155,Dc)],H:=[],res:=[.tmp 2,.tmp 3],ios:=[],G:=gl0}
def dy:List D→Option Out:=aS sv Tryz.f110
@[reducible] def lO:FS:={pm:=[kd0],rm:=[.own 3 0 false,kd0],f:=dy}
theorem ru:au gl0 Tryz.prog 110 lO:=ax (c:=sv) (ab PL al) Tryz.func110 rfl rfl (by kernel_rfl)
@[reducible] def DY:Cx:={K:=[kd2,.no,kd0,kd0,kd0,.no,.box 3 0 false,kd2,kd0,kd0,kd0,kd2,kd0,kd0,kd0,kd0,kd0,kd0,kd0,kd0,kd0,kd0,kd0],T:=[(3,ty3),(9,ty9),(48,Ez),(121,jR)],S:=[(189,rQ),(190,tO)],H:=[(0,([3,4,7,8,9],[3]))],res:=[.tmp 2],ios:=[],G:=gl0}
def oC:List D→Option Out:=aS DY Tryz.f154
@[reducible] def Cf:FS:={pm:=[kd2],rm:=[kd0],f:=oC}
theorem QW:au gl0 Tryz.prog 154 Cf:=ax (c:=DY) (ab zu (ab DA al)) Tryz.func154 rfl rfl (by kernel_rfl)
@[reducible] def Kh:Cx:={K:=[kd0,.no,kd0,kd0,kd0,kd0,kd0,kd0],T:=[(3,ty3),(9,ty9)],S:=[],H:=[],res:=[.tmp 2,.tmp 3],ios:=[],G:=gl0}
def sX:List D→Option Out:=aS Kh Tryz.f153
@[reducible] def KW:FS:={pm:=[kd0],rm:=[kd0,kd0],f:=sX}
theorem XO:au gl0 Tryz.prog 153 KW:=ax (c:=Kh) al Tryz.func153 rfl rfl (by kernel_rfl)
@[reducible] def sJ:Cx:={K:=[kd0,kd0,.no,.box 3 0 false,kd0,kd0,kd1,kd0,kd1,.tup [.own 3 0 false,kd0],kd0,.tup [.own 3 0 false,kd0],kd1,kd0,.own 3 0 false,kd1,.own 3 0 false,kd0,kd1,kd1,kd0,kd0,kd0,kd1,kd0,kd0,kd0,kd1,kd0,.tup [kd0,kd0],kd0,kd0],T:=[(3,ty3),(48,Ez),(121,jR)],S:=[(110,lO),(152,lq),(153,KW),(154,Cf)],H:=[],res:=[.tmp 4,.tmp 5],ios:=[],G:=gl0}
def jA:List D→Option Out:=aS sJ Tryz.f109
@[reducible] def tH:FS:={pm:=[kd0,kd0],rm:=[kd0,kd0],f:=jA}
theorem GR:au gl0 Tryz.prog 109 tH:=ax (c:=sJ) (ab ru (ab oJ (ab XO (ab QW al)))) Tryz.func109 rfl rfl (by kernel_rfl)
@[reducible] def Gi:Cx:={K:=[kd0,.no,kd0,kd0,kd0],T:=[],S:=[(129,dj)],H:=[],res:=[.tmp 2],ios:=[],G:=gl0}
def qL:List D→Option Out:=aS Gi Tryz.f156
@[reducible] def FT:FS:={pm:=[kd0],rm:=[kd0],f:=qL}
theorem Uv:au gl0 Tryz.prog 156 FT:=ax (c:=Gi) (ab dE al) Tryz.func156 rfl rfl (by kernel_rfl)
@[reducible] def zI:Cx:={K:=[kd0,kd0,.no,.box 3 0 false,kd0,.ref 3,kd0,kd0,kd0,.ref 3,kd0,kd0,kd0,kd0,.ref 3,kd0,kd0,kd0,.ref 3,kd0,kd0],T:=[(3,ty3),(121,jR)],S:=[],H:=[],res:=[.tmp 4],ios:=[],G:=gl0}
def jM:List D→Option Out:=aS zI Tryz.f157
@[reducible] def rA:FS:={pm:=[kd0,kd0],rm:=[kd0],f:=jM}
theorem yU:au gl0 Tryz.prog 157 rA:=ax (c:=zI) al Tryz.func157 rfl rfl (by kernel_rfl)
@[reducible] def tw:Cx:={K:=[kd2,kd0,kd0,.no,.no,.no,kd0,kd0,.no,.box 3 0 false,kd2,kd0,kd0,kd0,kd0,kd0,kd0,kd0,kd0,kd0,kd0,kd0,kd0,kd2,kd0,kd0,kd0,kd2,kd0,.ref 9,kd0,kd0,kd0,kd0,kd0,kd0,kd0,kd0],T:=[(3,ty3),(48,Ez),(121,jR)],S:=[(129,dj),(152,lq),(156,FT),(157,rA)],H:=[(0,([1,2,23,24,25],[1]))],res:=[.tmp 6,.tmp 7],ios:=[],G:=gl0}
def jc:List D→Option Out:=aS tw Tryz.f111
@[reducible] def sY:FS:={pm:=[kd2,kd0,kd0],rm:=[kd0,kd0],f:=jc}
theorem Im:au gl0 Tryz.prog 111 sY:=ax (c:=tw) (ab dE (ab oJ (ab Uv (ab yU al)))) Tryz.func111 rfl rfl (by kernel_rfl)
@[reducible] def tL:Cx:={K:=[kd2,kd0,.no,.no,kd0,kd0,kd0,kd0,kd0,kd0,.box 3 0 false,kd2,kd0,kd0,kd0,kd0,kd0,kd0,kd0,kd0,kd2,kd0,kd0,kd0,kd2,kd0,kd0,kd0,kd0,kd2,kd0,kd0,kd0,kd0,kd0,kd0,kd0,kd0,kd0,kd0,kd0,kd0,kd0,kd0,kd0,kd0],T:=[(3,ty3),(48,Ez),(121,jR)],S:=[(129,dj),(152,lq),(157,rA)],H:=[(0,([1,7,8,24,25,26],[7,8]))],res:=[.tmp 4,.tmp 5,.tmp 6],ios:=[],G:=gl0}
def jf:List D→Option Out:=aS tL Tryz.f112
@[reducible] def tm:FS:={pm:=[kd2,kd0],rm:=[kd0,kd0,kd0],f:=jf}
theorem Hr:au gl0 Tryz.prog 112 tm:=ax (c:=tL) (ab dE (ab oJ (ab yU al))) Tryz.func112 rfl rfl (by kernel_rfl)
@[reducible] def DJ:Cx:={K:=[kd2,.no,kd0,.no,.box 2 0 false,kd2,kd0,kd0,kd0,kd2,kd0,.ref 4,kd0,kd0,kd0,kd0,kd2,kd0,kd0],T:=[(3,ty3),(4,ty4),(57,mr),(147,Ea)],S:=[(129,dj)],H:=[(0,([0,5,6,7],[0]))],res:=[.tmp 2],ios:=[],G:=gl0}
def kP:List D→Option Out:=aS DJ Tryz.f113
@[reducible] def tP:FS:={pm:=[kd2],rm:=[kd0],f:=kP}
theorem DW:au gl0 Tryz.prog 113 tP:=ax (c:=DJ) (ab dE al) Tryz.func113 rfl rfl (by kernel_rfl)
@[reducible] def Eb:Cx:={K:=[kd2,.no,kd0,kd0,kd0,kd0,.no,.box 2 0 false,kd2,kd0,kd0,kd0,kd2,kd0,.ref 7,kd0,kd0,kd0,kd0,kd0,kd0,kd0,kd0,kd0],T:=[(3,ty3),(4,ty4),(57,mr),(147,Ea)],S:=[],H:=[(0,([4,5,8,9,10],[4,5]))],res:=[.tmp 2,.tmp 3],ios:=[],G:=gl0}
def kQ:List D→Option Out:=aS Eb Tryz.f158
@[reducible] def uj:FS:={pm:=[kd2],rm:=[kd0,kd0],f:=kQ}
theorem CK:au gl0 Tryz.prog 158 uj:=ax (c:=Eb) al Tryz.func158 rfl rfl (by kernel_rfl)
@[reducible] def Cr:Cx:={K:=[kd2,.no,.own 1 0 false,.own 1 0 false,kd0,kd2,kd0,kd0,kd0,kd0,kd0,kd0,.own 1 0 false,kd2,kd0,kd2,kd0,kd0,kd1,.own 1 0 false,.own 1 0 false],T:=[(3,ty3),(38,cY)],S:=[],H:=[(0,([0,3,4],[3]))],res:=[.tmp 2],ios:=[],G:=gl0}
def kT:List D→Option Out:=aS Cr Tryz.f222
@[reducible] def Dx:FS:={pm:=[kd2],rm:=[.own 1 0 false],f:=kT}
theorem Qs:au gl0 Tryz.prog 222 Dx:=ax (c:=Cr) al Tryz.func222 rfl rfl (by kernel_rfl)
@[reducible] def FP:Cx:={K:=[kd2,kd2,kd0,.no,.no,.no,.own 1 0 false,kd0,kd2,.own 1 0 false,kd2,.own 1 0 false,kd2,.own 1 0 false,kd2,.own 1 0 false],T:=[(3,ty3),(38,cY)],S:=[(46,mz)],H:=[],res:=[.tmp 6],ios:=[],G:=gl0}
def mK:List D→Option Out:=aS FP Tryz.f221
@[reducible] def Gn:FS:={pm:=[kd2,kd2,kd0],rm:=[.own 1 0 false],f:=mK}
theorem Us:au gl0 Tryz.prog 221 Gn:=ax (c:=FP) (ab qK al) Tryz.func221 rfl rfl (by kernel_rfl)
@[reducible] def CQ:Cx:={K:=[kd2,.no,kd1,kd0,kd0,.own 1 1 false,kd0,.no,.box 2 0 false,.own 1 1 false,kd0,kd0,kd0,kd0,.tup [kd0,kd0],kd2,.tup [kd0,kd0],kd0,kd0,kd0,kd0,kd0,kd0,kd0,kd0,kd0,.own 1 1 false,kd0,kd0,kd1,kd1,.own 1 1 false,kd2,kd0,kd0,kd0,kd2,kd0,.ref 8,kd0,kd0,kd0,kd0,kd0,kd0,kd0,kd0,kd0,kd0,kd0,kd0,kd0,.own 1 1 false,.via 5,kd0,kd0,kd0,kd0,kd0,.ref 5,kd1,.via 5,kd0,kd0,kd0,kd0,kd0,kd0,kd0,kd0,.ref 5,kd1,kd1,.ref 8,kd0,kd1,kd1,.own 1 1 false,kd0,kd0,kd0,kd0,kd0,kd0,kd0,kd0,kd0,kd0,kd0,kd0,kd0,.own 1 1 false,.via 5,kd0,kd0,kd0,kd0,kd0,.ref 5,kd1,.via 5,kd0,kd0,kd0,kd0,kd0,kd0,kd0,kd0,.ref 5,kd1,kd1,.ref 8,kd0,kd1,kd1,.own 1 1 false,kd0,kd0,.own 1 1 false,kd0,.via 5,.ref 5,kd1],T:=[(3,ty3),(4,ty4),(38,cY),(57,mr),(147,Ea),(164,MF)],S:=[(158,uj),(221,Gn),(222,Dx)],H:=[(0,([0,3,4,5,6],[0,3,4,5])),(2,([3,4,5,32,33,34],[5])),(4,([3,4,5,8,9,10,32,33,34],[3,4,5,9,32,33,34])),(6,([3,4,5,8,9,10,11,32,33,34],[3,4,5,8,9,10,32,33,34])),(8,([3,4,5,8,9,12,32,33,34],[3,4,5,9,32,33,34])),(10,([3,4,5,8,9,12,13,32,33,34],[3,4,5,8,9,12,32,33,34]))],res:=[.tmp 2],ios:=[],G:=gl0}
def lu:List D→Option Out:=aS CQ Tryz.f191
@[reducible] def DL:FS:={pm:=[kd2],rm:=[kd1],f:=lu}
theorem QN:au gl0 Tryz.prog 191 DL:=ax (c:=CQ) (ab CK (ab Us (ab Qs al))) Tryz.func191 rfl rfl (by kernel_rfl)
@[reducible] def CR:Cx:={K:=[kd0,kd0,.no,.no,kd0,kd0,kd0,kd0,kd0,kd0],T:=[(3,ty3)],S:=[],H:=[],res:=[.tmp 4],ios:=[],G:=gl0}
def oN:List D→Option Out:=aS CR Tryz.f223
@[reducible] def Dh:FS:={pm:=[kd0,kd0],rm:=[kd0],f:=oN}
theorem RK:au gl0 Tryz.prog 223 Dh:=ax (c:=CR) al Tryz.func223 rfl rfl (by kernel_rfl)
@[reducible] def Hc:Cx:={K:=[kd0,.no,kd0,kd0,kd0,kd0,kd0],T:=[],S:=[(223,Dh)],H:=[],res:=[.tmp 2],ios:=[],G:=gl0}
def iH:List D→Option Out:=aS Hc Tryz.f192
@[reducible] def GF:FS:={pm:=[kd0],rm:=[kd0],f:=iH}
theorem Ui:au gl0 Tryz.prog 192 GF:=ax (c:=Hc) (ab RK al) Tryz.func192 rfl rfl (by kernel_rfl)
@[reducible] def yY:Cx:={K:=[kd2,.no,.own 1 0 false,.own 1 0 false,kd1,.own 1 0 false,.own 1 0 false,kd0,kd0,kd0,kd0,kd2,kd1,kd1,kd0,.own 1 0 false,kd1,kd0,.own 1 0 false,kd1,kd0,kd0,kd0,kd0,kd1,kd0,kd0,kd0,kd0,kd0,kd0,kd0,kd0,kd0,kd0,kd0,.via 5,kd0,kd0,kd0,kd0,.ref 5,.via 6,kd0,kd0,kd0,kd0,.ref 6,kd0,.own 1 0 false,.own 1 0 false],T:=[(3,ty3),(38,cY)],S:=[(191,DL),(192,GF)],H:=[(0,([5,6,19,20,21],[5,6]))],res:=[.tmp 2,.tmp 3],ios:=[],G:=gl0}
def jH:List D→Option Out:=aS yY Tryz.f159
@[reducible] def Ah:FS:={pm:=[kd2],rm:=[.own 1 0 false,.own 1 0 false],f:=jH}
theorem Mt:au gl0 Tryz.prog 159 Ah:=ax (c:=yY) (ab QN (ab Ui al)) Tryz.func159 rfl rfl (by kernel_rfl)
@[reducible] def th:Cx:={K:=[kd2,.no,kd0,kd0,kd0,kd0,kd1,kd1,kd0,kd0,kd0,kd2,kd0,kd0,.tup [kd0,kd0],kd2,.tup [kd0,kd0],kd0,kd0,.tup [.own 1 0 false,.own 1 0 false],kd2,.tup [.own 1 0 false,.own 1 0 false],kd1,kd1,kd1,kd0,kd0,kd0,kd0,kd1,kd0,kd0,kd0,kd0,kd0,kd0,kd0,kd0,kd0,kd0,kd0,kd0,kd0,kd0,kd0,kd0,kd0],T:=[(3,ty3),(9,ty9),(38,cY)],S:=[(61,fd),(113,tP),(158,uj),(159,Ah)],H:=[(0,([4,8,24,25,26],[8]))],res:=[.tmp 2,.tmp 3],ios:=[],G:=gl0}
def gh:List D→Option Out:=aS th Tryz.f114
@[reducible] def tK:FS:={pm:=[kd2],rm:=[kd0,kd0],f:=gh}
theorem Gs:au gl0 Tryz.prog 114 tK:=ax (c:=th) (ab kv (ab DW (ab CK (ab Mt al)))) Tryz.func114 rfl rfl (by kernel_rfl)
@[reducible] def qa:Cx:={K:=[.box 10 2 true,kd0,kd2,.no,.no,.no,kd0,kd1,kd0,kd0,kd0,kd0,kd0,kd0,kd0,kd1,kd0,kd1,kd0,kd0,kd0,kd1,kd0,kd0,kd0,kd0,kd1,kd0,kd0,kd0,kd0,kd0,.ref 0,.ref 0,.ref 0,kd2,.own 1 0 false,kd2,kd2,kd0,kd1,kd1,kd1,kd0,kd0,.ref 0,kd1,.ref 0,.ref 0,kd1,kd0,kd0,kd0,kd0,.tup [kd0,kd0],.ref 0,.ref 0,.ref 0,kd2,.tup [kd0,kd0],kd0,kd0,kd0,kd0,kd0,kd0,.tup [kd0,kd0,kd0],.ref 0,.ref 0,.ref 0,kd2,.tup [kd0,kd0,kd0],kd0,kd0,kd0,kd0,kd0,kd1,kd0,kd0,kd0,.tup [kd0,kd0],.ref 0,.ref 0,.ref 0,kd0,kd2,kd2,kd0,kd2,kd2,kd0,kd2,kd2,kd0,kd0,.tup [kd0,kd0],kd0,kd0,kd0,kd0,.ref 0,kd0,.ref 0,.ref 0,.tup [.own 3 0 false,kd0],kd0,.tup [.own 3 0 false,kd0],kd1,kd0,kd1,kd0,kd0,kd0,kd0,.tup [.own 3 0 false,kd0],.ref 0,.ref 0,.ref 0,kd0,.tup [.own 3 0 false,kd0],kd1,kd0,.tup [kd0,kd0],kd1,kd2,kd2,kd0,kd2,kd2,kd0,.tup [kd0,kd0],kd0,kd0,kd0,kd0,kd0,kd0,kd0,kd0,.tup [.own 3 0 false,kd0],.ref 0,.ref 0,.ref 0,kd0,.tup [.own 3 0 false,kd0],kd1,kd0,.tup [kd0,kd0,kd0],kd1,kd2,kd2,kd0,.tup [kd0,kd0,kd0],kd0,kd0,kd0,kd0,kd0,kd0,kd0,kd0,kd0,.own 2 0 false,.ref 0,.ref 0,.ref 0,kd2,.own 2 0 false,kd2,kd2,kd0,kd0,kd1,kd1,kd1,kd0,kd0,.ref 0,kd1,.ref 0,.ref 0,kd1,kd0,kd0,.tup [kd0,kd0],.ref 0,.ref 0,.ref 0,kd2,.tup [kd0,kd0],kd0,kd0,kd0],T:=[(3,ty3),(4,ty4),(9,ty9),(29,fY),(33,fZ),(38,cY),(48,Ez),(57,mr),(59,VK),(121,jR),(147,Ea)],S:=[(46,mz),(61,fd),(94,oI),(100,ut),(105,qT),(106,ot),(107,uT),(108,qd),(109,tH),(110,lO),(111,sY),(112,tm),(113,tP),(114,tK)],H:=[],res:=[.tmp 6],ios:=[0],G:=gl0}
def cL:List D→Option Out:=aS qa Tryz.f78
@[reducible] def qc:FS:={pm:=[.box 10 2 true,kd0,kd2],rm:=[kd0],f:=cL}
theorem Bz:au gl0 Tryz.prog 78 qc:=ax (c:=qa) (ab qK (ab kv (ab ue (ab CB (ab wb (ab tZ (ab Jz (ab BH (ab GR (ab ru (ab Im (ab Hr (ab DW (ab Gs al)))))))))))))) Tryz.func78 rfl rfl (by kernel_rfl)
@[reducible] def qB:Cx:={K:=[.box 10 2 true,kd0,.no,.no,kd0,kd1,kd0,kd0,kd1,kd0,kd0,kd1,kd1,kd1,kd0,kd0,kd0,kd0,kd0,kd0,kd0,kd0,kd0,kd1,kd0,kd0,kd0,kd0,kd0,kd0,.ref 0,kd0,kd0,kd0,kd0,kd0,kd0,kd0,.tup [kd1,kd0],kd1,kd1,kd0,.tup [kd1,kd0],kd1,kd0,kd0,kd0,kd0,kd0,kd0,kd0,kd0,kd0,kd0,.ref 0,kd0,kd1,kd0,.ref 0,kd0,kd1,kd0],T:=[(3,ty3),(9,ty9),(62,Jm)],S:=[(73,gY),(74,yp),(75,qo),(76,DC),(77,pt),(78,qc)],H:=[],res:=[.tmp 4],ios:=[0],G:=gl0}
def kJ:List D→Option Out:=aS qB Tryz.f57
@[reducible] def qx:FS:={pm:=[.box 10 2 true,kd0],rm:=[kd0],f:=kJ}
theorem BF:au gl0 Tryz.prog 57 qx:=ax (c:=qB) (ab jS (ab Py (ab Bv (ab QO (ab yO (ab Bz al)))))) Tryz.func57 rfl rfl (by kernel_rfl)
@[reducible] def vw:Cx:={K:=[kd0,.no,.own 1 0 false,.own 1 0 false,.no,kd0,kd0,kd0,.own 1 0 false,kd0,kd1,kd0,kd0,kd0,kd1,kd0,.tup [kd0,kd0],kd0,.tup [kd0,kd0],kd0,kd0,kd0,kd0,.own 1 0 false,.own 1 0 false,kd0,kd1,.own 1 0 false,kd0,.own 1 0 false],T:=[(3,ty3),(9,ty9),(38,cY),(62,Jm),(69,ahj)],S:=[(116,rH),(131,pE)],H:=[(0,([3,10,11,12],[3]))],res:=[.tmp 2],ios:=[],G:=gl2}
def fx:List D→Option Out:=aS vw Tryz.f86
@[reducible] def kw:FS:={pm:=[kd0],rm:=[.own 1 0 false],f:=fx}
theorem oa:au gl2 Tryz.prog 86 kw:=ax (c:=vw) (ab rI (ab (aI mw zB) al)) Tryz.func86 rfl rfl (by kernel_rfl)
@[reducible] def zZ:Cx:={K:=[kd0,.no,kd0,kd0,kd0],T:=[],S:=[(52,dq)],H:=[],res:=[.tmp 2],ios:=[],G:=gl0}
def gS:List D→Option Out:=aS zZ Tryz.f51
@[reducible] def yI:FS:={pm:=[kd0],rm:=[kd0],f:=gS}
theorem NL:au gl0 Tryz.prog 51 yI:=ax (c:=zZ) (ab dp al) Tryz.func51 rfl rfl (by kernel_rfl)
@[reducible] def DF:Cx:={K:=[kd0,.box 3 0 false,kd0,.ref 1,kd0,kd0,kd0,.ref 1,kd0,kd0,kd0,kd0,.ref 1,kd0,kd0,kd0],T:=[(3,ty3),(29,fY)],S:=[(51,yI)],H:=[],res:=[.tmp 2],ios:=[],G:=gl0}
def dR:List D→Option Out:=aS DF Tryz.f35
@[reducible] def lc:FS:={pm:=[kd0],rm:=[kd0],f:=dR}
theorem oq:au gl0 Tryz.prog 35 lc:=ax (c:=DF) (ab NL al) Tryz.func35 rfl rfl (by kernel_rfl)
@[reducible] def uW:Cx:={K:=[kd0,kd0,.box 3 0 false,.box 3 0 false,.box 3 0 false,.ref 2,kd0,.ref 3,kd0,kd0,.ref 2,kd0,.ref 3,kd0,kd0,.ref 2,kd0,.ref 3,kd0,kd0,kd0],T:=[(3,ty3),(29,fY)],S:=[],H:=[],res:=[.cell 4 29],ios:=[],G:=gl0}
def kf:List D→Option Out:=aS uW Tryz.f199
@[reducible] def uS:FS:={pm:=[kd0,kd0],rm:=[kd0],f:=kf}
theorem IQ:au gl0 Tryz.prog 199 uS:=ax (c:=uW) al Tryz.func199 rfl rfl (by kernel_rfl)
@[reducible] def vT:Cx:={K:=[kd2,.no,.box 3 0 false,kd0,.box 3 0 false,.no,.box 3 0 false,kd0,kd2,kd0,kd0,kd0,kd2,kd0,kd0,kd0,kd0,kd0,kd0,kd0,kd0,kd0,kd2,kd0,kd0,kd0,kd0,kd0,kd0,kd0,kd0,kd0],T:=[(3,ty3),(29,fY),(128,ZX)],S:=[(35,lc),(199,uS)],H:=[(0,([0,2,4,8,9,10],[0,2,4]))],res:=[.cell 2 29,.tmp 3],ios:=[],G:=gl0}
def kt:List D→Option Out:=aS vT Tryz.f164
@[reducible] def vR:FS:={pm:=[kd2],rm:=[kd0,kd0],f:=kt}
theorem IW:au gl0 Tryz.prog 164 vR:=ax (c:=vT) (ab oq (ab IQ al)) Tryz.func164 rfl rfl (by kernel_rfl)
@[reducible] def tb:Cx:={K:=[kd0,.box 3 0 false,kd0,.ref 1,kd0,.ref 1,kd0,kd0,.ref 1,kd0,kd0],T:=[(3,ty3),(29,fY)],S:=[],H:=[],res:=[.tmp 2],ios:=[],G:=gl0}
def dh:List D→Option Out:=aS tb Tryz.f200
@[reducible] def jx:FS:={pm:=[kd0],rm:=[kd0],f:=dh}
theorem np:au gl0 Tryz.prog 200 jx:=ax (c:=tb) al Tryz.func200 rfl rfl (by kernel_rfl)
@[reducible] def xy:Cx:={K:=[kd0,kd0,.box 3 0 false,.no,.box 3 0 false,.box 3 0 false,kd0,.box 3 0 false,.box 3 0 false,kd0,kd0,kd0,kd0,kd0,kd0,kd0,kd0,kd0,kd0,kd0,kd0,kd0,kd0,kd0,.ref 2,kd0,kd0,kd0,kd0,kd0,kd0,.ref 2,kd0,kd0,kd0,kd0,kd0,kd0,.ref 7,.ref 7,kd0,.ref 7,kd0,kd0,.ref 7,kd0,kd0,.ref 7,.ref 2,kd0,.ref 7,kd0,kd0,.ref 2,kd0,.ref 7,kd0,kd0,.ref 2,kd0,.ref 7,kd0,kd0,kd0,kd0,kd0,kd0,kd0,kd0,kd0,kd0],T:=[(3,ty3),(29,fY)],S:=[(35,lc),(52,dq),(200,jx)],H:=[],res:=[.cell 4 29,.cell 5 29,.tmp 6],ios:=[],G:=gl0}
def lB:List D→Option Out:=aS xy Tryz.f165
@[reducible] def wY:FS:={pm:=[kd0,kd0],rm:=[kd0,kd0,kd0],f:=lB}
theorem LY:au gl0 Tryz.prog 165 wY:=ax (c:=xy) (ab oq (ab dp (ab np al))) Tryz.func165 rfl rfl (by kernel_rfl)
@[reducible] def zV:Cx:={K:=[kd0,.box 3 0 false,kd0,kd0,kd0,kd0,kd0,kd0,kd0,kd0],T:=[(3,ty3),(29,fY)],S:=[(35,lc),(200,jx)],H:=[],res:=[.tmp 2],ios:=[],G:=gl0}
def mW:List D→Option Out:=aS zV Tryz.f207
@[reducible] def Ai:FS:={pm:=[kd0],rm:=[kd0],f:=mW}
theorem Oj:au gl0 Tryz.prog 207 Ai:=ax (c:=zV) (ab oq (ab np al)) Tryz.func207 rfl rfl (by kernel_rfl)
@[reducible] def xW:Cx:={K:=[kd0,.box 3 0 false,.own 1 0 false,kd0,kd0,kd0,kd0,kd0,.own 1 0 false,kd0,kd0,.ref 1,kd0,kd0,kd0,kd0,.ref 1,kd0,kd0,kd0,kd0,.ref 1,kd0,kd0,kd0,kd0,.own 1 0 false],T:=[(3,ty3),(29,fY),(38,cY)],S:=[(200,jx),(207,Ai)],H:=[],res:=[.tmp 2,.tmp 3],ios:=[],G:=gl0}
def lH:List D→Option Out:=aS xW Tryz.f174
@[reducible] def xK:FS:={pm:=[kd0],rm:=[.own 1 0 false,kd0],f:=lH}
theorem LD:au gl0 Tryz.prog 174 xK:=ax (c:=xW) (ab np (ab Oj al)) Tryz.func174 rfl rfl (by kernel_rfl)
@[reducible] def xZ:Cx:={K:=[kd0,.box 3 0 false,kd0,.ref 1,kd0,.ref 1,kd0,.ref 1,kd0,kd1,kd0],T:=[(3,ty3),(29,fY),(38,cY)],S:=[(134,pf)],H:=[],res:=[.tmp 2],ios:=[],G:=gl1}
def ga:List D→Option Out:=aS xZ Tryz.f163
@[reducible] def lw:FS:={pm:=[kd0],rm:=[kd0],f:=ga}
theorem pR:au gl1 Tryz.prog 163 lw:=ax (c:=xZ) (ab pF al) Tryz.func163 rfl rfl (by kernel_rfl)
@[reducible] def vL:Cx:={K:=[kd0,.no,.box 3 0 false,kd0,kd1,.box 3 0 false,kd0,kd1,kd1,kd0,kd0,kd0,kd1,kd1,kd0,kd1,kd1,kd0,kd1,kd1,kd0,kd0,kd0,kd0,kd0,kd0,kd0,kd0,kd0,kd0,kd0,kd0,kd0],T:=[(3,ty3),(9,ty9),(29,fY),(38,cY)],S:=[(35,lc),(86,kw),(163,lw)],H:=[],res:=[.cell 2 29,.tmp 3],ios:=[],G:=gl2}
def gW:List D→Option Out:=aS vL Tryz.f118
@[reducible] def nM:FS:={pm:=[kd0],rm:=[kd0,kd0],f:=gW}
theorem vE:au gl2 Tryz.prog 118 nM:=ax (c:=vL) (ab (aI mw oq) (ab oa (ab (aI BZ pR) al))) Tryz.func118 rfl rfl (by kernel_rfl)
@[reducible] def zW:Cx:={K:=[kd2,.no,kd0,kd0,.box 2 0 false,kd2,kd0,kd0,kd0,kd0,kd2,kd0,.ref 4,kd0,kd0,kd0,kd0,.ref 4,kd0,kd0,kd0,kd0,kd0,kd0,kd0,kd0,kd2,kd0,kd0,kd2,kd2,kd0,.ref 4,kd0,kd0,kd0,kd0,kd0,kd2,kd0,kd0],T:=[(3,ty3),(33,fZ),(75,mq)],S:=[(52,dq)],H:=[(0,([0,5,6,7],[0]))],res:=[.tmp 2],ios:=[],G:=gl0}
def eM:List D→Option Out:=aS zW Tryz.f36
@[reducible] def ic:FS:={pm:=[kd2],rm:=[kd0],f:=eM}
theorem jF:au gl0 Tryz.prog 36 ic:=ax (c:=zW) (ab dp al) Tryz.func36 rfl rfl (by kernel_rfl)
@[reducible] def sG:Cx:={K:=[kd2,kd0,kd0,.no,.no,.no,.own 2 0 false,kd0,.own 2 0 false,kd0,kd2,kd0,kd0,kd0,kd2,kd0,kd2,kd2,kd0,kd0,kd0,kd0,kd0,kd0,kd0,kd2,kd0,kd0,kd0,kd2,kd0,kd2,kd2,kd0,kd0,kd0,kd0,.own 2 0 false,kd2,.own 2 0 false,.via 8,kd0,.ref 8,.ref 8,kd0,kd0,kd0,.ref 8,.ref 8,.own 2 0 false,.own 2 0 false,kd2,kd0,kd2,.own 2 0 false,kd0,kd0,kd0,kd1,.own 2 0 false,kd2,kd0,kd2,.own 2 0 false],T:=[(3,ty3),(33,fZ),(75,mq)],S:=[],H:=[(0,([0,1,2,7],[0,1,2,7]))],res:=[.tmp 6],ios:=[],G:=gl0}
def gj:List D→Option Out:=aS sG Tryz.f204
@[reducible] def sP:FS:={pm:=[kd2,kd0,kd0],rm:=[.own 2 0 false],f:=gj}
theorem GH:au gl0 Tryz.prog 204 sP:=ax (c:=sG) al Tryz.func204 rfl rfl (by kernel_rfl)
@[reducible] def qC:Cx:={K:=[kd2,.no,kd2,kd0,kd2,kd0,kd0,kd1,kd2],T:=[(33,fZ),(75,mq)],S:=[(36,ic)],H:=[],res:=[.tmp 2,.tmp 3],ios:=[],G:=gl0}
def gI:List D→Option Out:=aS qC Tryz.f203
@[reducible] def pW:FS:={pm:=[kd2],rm:=[kd2,kd0],f:=gI}
theorem BS:au gl0 Tryz.prog 203 pW:=ax (c:=qC) (ab jF al) Tryz.func203 rfl rfl (by kernel_rfl)
@[reducible] def zn:Cx:={K:=[kd2,kd0,kd0,.no,.no,.no,kd2,kd0,.via 42,kd2,kd0,kd0,kd0,kd0,kd2,kd0,kd0,kd0,kd0,kd0,kd0,kd2,kd0,kd2,kd2,kd0,kd0,kd0,kd0,kd0,kd2,kd0,kd2,kd2,kd0,kd0,kd0,kd0,kd0,kd1,.own 2 0 false,kd2,.own 2 0 false,.via 42,kd0,.ref 42,.ref 42,kd0,kd0,.ref 42,.ref 42,.via 42,kd0,kd1,kd2,kd0,kd2,kd2,kd0,kd0,kd0,kd1,.tup [kd2,kd0],kd2,kd0],T:=[(3,ty3),(33,fZ),(75,mq)],S:=[(36,ic),(52,dq),(203,pW),(204,sP)],H:=[],res:=[.tmp 6,.tmp 7],ios:=[],G:=gl0}
def nx:List D→Option Out:=aS zn Tryz.f169
@[reducible] def zo:FS:={pm:=[kd2,kd0,kd0],rm:=[kd2,kd0],f:=nx}
theorem MI:au gl0 Tryz.prog 169 zo:=ax (c:=zn) (ab jF (ab dp (ab BS (ab GH al)))) Tryz.func169 rfl rfl (by kernel_rfl)
@[reducible] def qt:Cx:={K:=[kd0,.no,kd0,kd0,kd0],T:=[],S:=[(52,dq)],H:=[],res:=[.tmp 2],ios:=[],G:=gl0}
def fa:List D→Option Out:=aS qt Tryz.f201
@[reducible] def kI:FS:={pm:=[kd0],rm:=[kd0],f:=fa}
theorem qf:au gl0 Tryz.prog 201 kI:=ax (c:=qt) (ab dp al) Tryz.func201 rfl rfl (by kernel_rfl)
@[reducible] def uZ:Cx:={K:=[kd2,.no,.own 1 0 false,.own 1 0 false,.own 1 0 false,.own 1 0 false,.no,.box 2 0 false,.own 1 0 false,.own 1 0 false,kd2,kd0,kd0,kd0,kd2,kd0,.own 1 0 false,.ref 7,kd0,kd1,.own 1 0 false,.own 1 0 false,.ref 7,kd0,kd1,.own 1 0 false,kd0,.own 1 0 false,.own 1 0 false],T:=[(3,ty3),(33,fZ),(38,cY),(75,mq)],S:=[],H:=[(0,([4,5,10,11,12],[4,5]))],res:=[.tmp 2,.tmp 3],ios:=[],G:=gl0}
def ib:List D→Option Out:=aS uZ Tryz.f231
@[reducible] def nX:FS:={pm:=[kd2],rm:=[.own 1 0 false,.own 1 0 false],f:=ib}
theorem uL:au gl0 Tryz.prog 231 nX:=ax (c:=uZ) al Tryz.func231 rfl rfl (by kernel_rfl)
@[reducible] def Cp:Cx:={K:=[kd2,kd2,kd0,.no,.no,.no,.own 1 1 false,.via 18,kd0,.own 1 1 false,kd0,kd0,.via 38,kd0,kd0,kd0,kd0,kd0,.own 1 0 false,kd0,kd0,kd0,kd0,kd0,.via 18,kd0,.ref 18,.via 18,.own 1 1 false,kd2,kd0,kd0,kd0,kd0,kd2,kd0,kd0,kd0,.own 1 0 false,.via 38,kd0,kd0,kd0,kd0,.via 38,kd0,.ref 38,kd0,kd2,kd0,kd2,kd0,kd0,kd0,kd0,kd0,kd0,kd0,kd0,kd0,kd0,kd0,.via 9,kd0,.ref 9,kd1,kd0,kd0,kd0,kd0,kd0,kd1,kd0,kd0,kd0,kd0,.via 38,kd0,.ref 38,kd0,kd0,kd0,kd0,kd0,kd0,.via 38,kd0,.ref 38,kd0,kd0,kd0,kd0,.via 38,kd0,kd0,kd0,kd0,.ref 38,kd0,.own 1 1 false,.via 38,kd1,.own 1 1 false,kd0,.own 1 1 false],T:=[(3,ty3),(38,cY),(164,MF)],S:=[],H:=[(0,([0,1,2,7,8,18],[0,1,2,7,18])),(2,([1,2,9,29,30,31],[9])),(4,([1,2,9,10,11,12,29,30,31,38,40,41],[1,2,9,12,29,30,31,38])),(6,([1,2,9,10,11,12,13,14,29,30,31,38,40,41],[1,2,9,10,11,12,29,30,31,38,40,41]))],res:=[.tmp 6],ios:=[],G:=gl0}
@[reducible] def CF:List (Nat × List Nat):=[(6,[18]),(22,[38])]
def iU:List D→Option Out:=vl Cp CF Tryz.f234
@[reducible] def lk:FS:={pm:=[kd2,kd2,kd0],rm:=[.own 1 1 false],f:=iU}
theorem Df:au gl0 Tryz.prog 234 lk:=qW (Z:=CF) (P:=Tryz.prog) (c:=Cp) (fn:=Tryz.f234) (pm:=lk.pm) (rm:=lk.rm) (by kernel_rfl) al fw Tryz.func234 (by kernel_rfl) (by kernel_rfl) rfl
@[reducible] def Ef:Cx:={K:=[kd2,kd2,kd0,.no,.no,.no,kd1,kd1,.via 27,kd0,kd0,kd0,kd2,kd2,kd0,kd1,kd1,kd2,kd0,kd1,kd1,kd0,kd1,kd0,kd0,kd2,kd0,.own 1 0 false,kd2,kd0,kd0,kd0,kd0,kd0,kd0,kd2,kd0,kd2,kd0,kd0,kd2,kd0,kd2,kd0,kd0,kd0,kd0,kd0,kd0,kd0,kd1,kd0,kd1,kd1,kd0,kd0,kd2,kd0,kd2,kd0,kd0,kd0,kd1,kd0,kd0,kd0,kd0,kd0,kd0,kd0,kd1,kd0,kd0,kd1,kd1,kd0,kd1,kd0,kd0,kd0,.via 27,kd0,kd0,.ref 27,kd0,kd0,kd2,kd0,kd2,kd0,kd0,kd0,.via 27],T:=[(3,ty3),(38,cY),(164,MF)],S:=[(234,lk)],H:=[(0,([0,1,2,7,8,9,27],[8,27])),(2,([0,1,2,7,8,9,10,27],[0,1,2,7,8,9,27]))],res:=[.tmp 6],ios:=[],G:=gl0,N:=[6]}
@[reducible] def Ct:List (Nat × List Nat):=[(15,[27])]
def ov:List D→Option Out:=vl Ef Ct Tryz.f232
@[reducible] def oR:FS:={pm:=[kd2,kd2,kd0],rm:=[kd1],f:=ov}
theorem Rd:au gl0 Tryz.prog 232 oR:=qW (Z:=Ct) (P:=Tryz.prog) (c:=Ef) (fn:=Tryz.f232) (pm:=oR.pm) (rm:=oR.rm) (by kernel_rfl) (ab Df al) fw Tryz.func232 (by kernel_rfl) (by kernel_rfl) rfl
@[reducible] def Dq:Cx:={K:=[kd2,kd0,.no,.no,kd1,kd1,kd1,.tup [.own 1 0 false,.own 1 0 false],kd2,.tup [.own 1 0 false,.own 1 0 false],kd1,kd1,kd1,kd1,kd0,kd1],T:=[(38,cY)],S:=[(231,nX),(232,oR)],H:=[],res:=[.tmp 4],ios:=[],G:=gl0,N:=[4,15]}
def oV:List D→Option Out:=aS Dq Tryz.f202
@[reducible] def CD:FS:={pm:=[kd2,kd0],rm:=[kd1],f:=oV}
theorem Rb:au gl0 Tryz.prog 202 CD:=ax (c:=Dq) (ab uL (ab Rd al)) Tryz.func202 rfl rfl (by kernel_rfl)
@[reducible] def DT:Cx:={K:=[kd2,kd0,.no,.no,kd1,kd0,kd1,kd2,kd0,kd0,kd0,kd0,kd0,kd0,kd0,kd1,kd2,kd0,kd1,kd1,kd0,kd1,kd1],T:=[(3,ty3),(38,cY)],S:=[(36,ic),(201,kI),(202,CD)],H:=[],res:=[.tmp 4,.tmp 5],ios:=[],G:=gl0}
def oG:List D→Option Out:=aS DT Tryz.f167
@[reducible] def CP:FS:={pm:=[kd2,kd0],rm:=[kd1,kd0],f:=oG}
theorem RE:au gl0 Tryz.prog 167 CP:=ax (c:=DT) (ab jF (ab qf (ab Rb al))) Tryz.func167 rfl rfl (by kernel_rfl)
@[reducible] def xr:Cx:={K:=[kd2,.no,kd1,kd1,kd1,.tup [.own 1 0 false,.own 1 0 false],kd2,.tup [.own 1 0 false,.own 1 0 false],kd1,kd1,kd1,kd1,kd1,kd2,kd0,kd1,kd1],T:=[(3,ty3),(33,fZ),(38,cY),(75,mq),(164,MF)],S:=[(231,nX),(234,lk)],H:=[],res:=[.tmp 2],ios:=[],G:=gl0}
def lA:List D→Option Out:=aS xr Tryz.f208
@[reducible] def xX:FS:={pm:=[kd2],rm:=[kd1],f:=lA}
theorem LN:au gl0 Tryz.prog 208 xX:=ax (c:=xr) (ab uL (ab Df al)) Tryz.func208 rfl rfl (by kernel_rfl)
@[reducible] def sM:Cx:={K:=[kd2,kd0,.no,.no,kd0,kd0,kd1,kd0,kd2,kd0,kd0,kd0,kd0,kd0,kd0,kd0,kd2,kd1,kd0,kd0,kd0,kd0,kd0,kd1,kd0,kd1,kd0,kd0,kd0,kd0,kd0],T:=[(3,ty3),(38,cY)],S:=[(36,ic),(201,kI),(208,xX)],H:=[(0,([1,6,7],[]))],res:=[.tmp 4,.tmp 5],ios:=[],G:=gl0}
def jv:List D→Option Out:=aS sM Tryz.f175
@[reducible] def tG:FS:={pm:=[kd2,kd0],rm:=[kd0,kd0],f:=jv}
theorem FC:au gl0 Tryz.prog 175 tG:=ax (c:=sM) (ab jF (ab qf (ab LN al))) Tryz.func175 rfl rfl (by kernel_rfl)
@[reducible] def KG:Cx:={K:=[kd2,kd2,.no,.no,.own 2 0 false,.own 2 0 false,kd0,kd0,.own 2 0 false,kd2,.own 2 0 false,kd2,kd0,kd0,kd0,kd0,kd2,kd0,.via 5,kd0,.ref 5,.ref 5,kd0,kd0,kd0,.ref 5,.ref 5,kd0,.own 2 0 false],T:=[(3,ty3),(33,fZ),(38,cY),(75,mq)],S:=[],H:=[(0,([5,11,12,13],[5]))],res:=[.tmp 4],ios:=[],G:=gl0}
def sZ:List D→Option Out:=aS KG Tryz.f168
@[reducible] def Ks:FS:={pm:=[kd2,kd2],rm:=[.own 2 0 false],f:=sZ}
theorem XH:au gl0 Tryz.prog 168 Ks:=ax (c:=KG) al Tryz.func168 rfl rfl (by kernel_rfl)
@[reducible] def ph:Cx:={K:=[kd0,.no,kd0,kd0,kd0,kd0],T:=[(3,ty3),(9,ty9)],S:=[],H:=[],res:=[.tmp 2],ios:=[],G:=gl0}
def gd:List D→Option Out:=aS ph Tryz.f68
@[reducible] def pG:FS:={pm:=[kd0],rm:=[kd0],f:=gd}
theorem zU:au gl0 Tryz.prog 68 pG:=ax (c:=ph) al Tryz.func68 rfl rfl (by kernel_rfl)
@[reducible] def uK:Cx:={K:=[kd0,.no,kd0,kd0,kd0],T:=[],S:=[(52,dq)],H:=[],res:=[.tmp 2],ios:=[],G:=gl0}
def hY:List D→Option Out:=aS uK Tryz.f182
@[reducible] def oh:FS:={pm:=[kd0],rm:=[kd0],f:=hY}
theorem vu:au gl0 Tryz.prog 182 oh:=ax (c:=uK) (ab dp al) Tryz.func182 rfl rfl (by kernel_rfl)
@[reducible] def CI:Cx:={K:=[kd0,.box 3 0 false,kd0,.ref 1,kd0,kd0,kd0,.ref 1,kd0,kd0,kd0,kd0,.ref 1,kd0,kd0,kd0],T:=[(3,ty3),(121,jR)],S:=[(52,dq),(182,oh)],H:=[],res:=[.tmp 2],ios:=[],G:=gl0}
def kV:List D→Option Out:=aS CI Tryz.f133
@[reducible] def ux:FS:={pm:=[kd0],rm:=[kd0],f:=kV}
theorem Ca:au gl0 Tryz.prog 133 ux:=ax (c:=CI) (ab dp (ab vu al)) Tryz.func133 rfl rfl (by kernel_rfl)
@[reducible] def xI:Cx:={K:=[kd2,.no,kd0,kd0,.box 3 0 false,kd2,kd0,kd0,kd0,kd0,kd2,kd0,kd0,kd0,kd0,kd0,kd0,kd0,kd0,kd2,kd0,kd0,kd2,kd2,kd0,.ref 4,kd0,kd0,kd0,kd0,kd0,kd2,kd0,kd0],T:=[(3,ty3),(48,Ez),(121,jR)],S:=[(133,ux)],H:=[(0,([0,5,6,7],[0]))],res:=[.tmp 2],ios:=[],G:=gl0}
def eV:List D→Option Out:=aS xI Tryz.f87
@[reducible] def iN:FS:={pm:=[kd2],rm:=[kd0],f:=eV}
theorem lE:au gl0 Tryz.prog 87 iN:=ax (c:=xI) (ab Ca al) Tryz.func87 rfl rfl (by kernel_rfl)
@[reducible] def uJ:Cx:={K:=[kd0,.no,.own 3 0 false,kd0,.own 3 0 false,kd0,kd0,kd0,kd0,kd0,kd1,.box 3 0 false,.own 3 0 false,.own 3 0 false,.tup [kd0,kd0,kd0],kd0,kd0,kd0,.tup [kd0,kd0,kd0],kd0,kd0,kd0,kd0,kd1,kd0,kd0,kd0,kd1,kd0,kd0,kd0,.own 3 0 false,kd0,kd1,kd1,kd0,kd1,kd1,kd0,kd1,kd1,kd0,kd0,.own 3 0 false,.via 4,.own 3 0 false,kd0,kd1,.own 3 0 false,.via 12,kd0,kd0,kd0,kd0,kd0,kd0,kd0,kd0,kd0,kd0,kd0,kd0,.own 3 0 false,kd0,.own 3 0 false,kd0,kd0,kd0,kd0,kd0,kd0,kd0,kd0],T:=[(3,ty3),(9,ty9),(38,cY),(48,Ez),(121,jR)],S:=[(85,Da),(86,kw),(87,iN),(88,xO),(89,Gx)],H:=[(0,([0,4,5,6],[2,3]))],res:=[.tmp 2,.tmp 3],ios:=[],G:=gl2}
def kx:List D→Option Out:=aS uJ Tryz.f69
@[reducible] def vg:FS:={pm:=[kd0],rm:=[.own 3 0 false,kd0],f:=kx}
theorem Jk:au gl2 Tryz.prog 69 vg:=ax (c:=uJ) (ab (aI mw CL) (ab oa (ab (aI mw lE) (ab (aI BZ xv) (ab (aI mw FO) al))))) Tryz.func69 rfl rfl (by kernel_rfl)
@[reducible] def rM:Cx:={K:=[kd0,.no,.own 3 0 false,kd0,.own 3 0 false,kd0,kd0,kd0,kd0,.own 3 0 false,.tup [.own 3 0 false,kd0],kd0,.tup [.own 3 0 false,kd0],.own 3 0 false,kd0,kd0,kd0,kd0,kd0,.own 3 0 false,.own 3 0 false],T:=[(3,ty3),(9,ty9),(48,Ez),(121,jR)],S:=[(68,pG),(69,vg)],H:=[],res:=[.tmp 2,.tmp 3],ios:=[],G:=gl2}
def eB:List D→Option Out:=aS rM Tryz.f53
@[reducible] def iD:FS:={pm:=[kd0],rm:=[.own 3 0 false,kd0],f:=eB}
theorem lN:au gl2 Tryz.prog 53 iD:=ax (c:=rM) (ab (aI mw zU) (ab Jk al)) Tryz.func53 rfl rfl (by kernel_rfl)
@[reducible] def Hn:Cx:={K:=[kd0,.no,kd0,kd0,kd0],T:=[],S:=[(52,dq)],H:=[],res:=[.tmp 2],ios:=[],G:=gl0}
def qO:List D→Option Out:=aS Hn Tryz.f205
@[reducible] def Ia:FS:={pm:=[kd0],rm:=[kd0],f:=qO}
theorem TV:au gl0 Tryz.prog 205 Ia:=ax (c:=Hn) (ab dp al) Tryz.func205 rfl rfl (by kernel_rfl)
@[reducible] def yV:Cx:={K:=[kd2,.no,kd0,.no,kd0,kd2,kd0,kd0,kd0,kd2,kd0,kd0,kd0,kd0,kd0,kd2,kd0,kd0],T:=[(3,ty3),(38,cY)],S:=[(52,dq),(205,Ia)],H:=[(0,([0,5,6,7],[0]))],res:=[.tmp 2],ios:=[],G:=gl0}
def hD:List D→Option Out:=aS yV Tryz.f171
@[reducible] def nf:FS:={pm:=[kd2],rm:=[kd0],f:=hD}
theorem sm:au gl0 Tryz.prog 171 nf:=ax (c:=yV) (ab dp (ab TV al)) Tryz.func171 rfl rfl (by kernel_rfl)
@[reducible] def Ic:Cx:={K:=[kd2,kd0,kd0,.no,.no,.no,kd0,kd0,kd0,kd0,kd0,kd2,kd0,kd0,kd0,kd0,kd2,kd0,kd0,kd0,kd2,kd0,kd2,kd0,kd0,kd0,kd0,kd2,kd0,kd0,kd0,kd0,kd0,kd0,kd0,kd0],T:=[(3,ty3),(38,cY)],S:=[],H:=[(0,([0,1,2,7],[7]))],res:=[.tmp 6],ios:=[],G:=gl0}
def mE:List D→Option Out:=aS Ic Tryz.f210
@[reducible] def Fm:FS:={pm:=[kd2,kd0,kd0],rm:=[kd0],f:=mE}
theorem TY:au gl0 Tryz.prog 210 Fm:=ax (c:=Ic) al Tryz.func210 rfl rfl (by kernel_rfl)
@[reducible] def qz:Cx:={K:=[kd2,.no,kd0,kd0,kd0,kd0,kd0,kd0,kd0,kd2,kd0,kd0,kd2,kd0,kd0,kd0,kd0,kd2,kd0,kd0,kd2,kd0,kd0,kd0,kd0,kd0,kd0,kd0,kd0,kd0,kd0,kd0],T:=[(3,ty3),(38,cY)],S:=[(171,nf),(210,Fm)],H:=[(0,([0,5,6,13,14],[5,6]))],res:=[.tmp 2,.tmp 3,.tmp 4],ios:=[],G:=gl0}
def gG:List D→Option Out:=aS qz Tryz.f177
@[reducible] def qr:FS:={pm:=[kd2],rm:=[kd0,kd0,kd0],f:=gG}
theorem BA:au gl0 Tryz.prog 177 qr:=ax (c:=qz) (ab sm (ab TY al)) Tryz.func177 rfl rfl (by kernel_rfl)
@[reducible] def qs:Cx:={K:=[kd0,.no,kd0,kd0,kd0],T:=[],S:=[(52,dq)],H:=[],res:=[.tmp 2],ios:=[],G:=gl0}
def eY:List D→Option Out:=aS qs Tryz.f211
@[reducible] def kK:FS:={pm:=[kd0],rm:=[kd0],f:=eY}
theorem qi:au gl0 Tryz.prog 211 kK:=ax (c:=qs) (ab dp al) Tryz.func211 rfl rfl (by kernel_rfl)
@[reducible] def DE:Cx:={K:=[kd0,.box 3 0 false,kd0,.ref 1,kd0,kd0,kd0,.ref 1,kd0,kd0,kd0,.ref 1,kd0,.ref 1,kd0,kd0],T:=[(3,ty3),(121,jR)],S:=[],H:=[],res:=[.tmp 2],ios:=[],G:=gl0}
def lf:List D→Option Out:=aS DE Tryz.f212
@[reducible] def uk:FS:={pm:=[kd0],rm:=[kd0],f:=lf}
theorem Dw:au gl0 Tryz.prog 212 uk:=ax (c:=DE) al Tryz.func212 rfl rfl (by kernel_rfl)
@[reducible] def tu:Cx:={K:=[kd2,kd0,kd0,.no,.no,.no,kd0,kd0,.no,.box 3 0 false,kd2,kd0,kd0,kd0,kd0,kd0,kd0,kd0,kd0,kd0,kd0,kd0,kd0,kd2,kd0,kd0,kd0,kd2,kd0,.ref 9,kd0,kd0,kd0,kd0,kd0,kd0,kd0,kd0,kd0],T:=[(3,ty3),(48,Ez),(121,jR)],S:=[(87,iN),(182,oh),(211,kK),(212,uk)],H:=[(0,([1,2,23,24,25],[1]))],res:=[.tmp 6,.tmp 7],ios:=[],G:=gl0}
def jk:List D→Option Out:=aS tu Tryz.f178
@[reducible] def sF:FS:={pm:=[kd2,kd0,kd0],rm:=[kd0,kd0],f:=jk}
theorem FR:au gl0 Tryz.prog 178 sF:=ax (c:=tu) (ab lE (ab vu (ab qi (ab Dw al)))) Tryz.func178 rfl rfl (by kernel_rfl)
@[reducible] def sL:Cx:={K:=[kd2,kd0,.no,.no,kd0,kd0,kd0,kd0,kd0,kd0,.box 3 0 false,kd2,kd0,kd0,kd0,kd0,kd0,kd0,kd0,kd0,kd2,kd0,kd0,kd0,kd2,kd0,kd0,kd0,kd0,kd2,kd0,kd0,kd0,kd0,kd0,kd0,kd0,kd0,kd0,kd0,kd0,kd0,kd0,kd0,kd0,kd0,kd0],T:=[(3,ty3),(48,Ez),(121,jR)],S:=[(87,iN),(211,kK),(212,uk)],H:=[(0,([1,7,8,24,25,26],[7,8]))],res:=[.tmp 4,.tmp 5,.tmp 6],ios:=[],G:=gl0}
def jq:List D→Option Out:=aS sL Tryz.f179
@[reducible] def sR:FS:={pm:=[kd2,kd0],rm:=[kd0,kd0,kd0],f:=jq}
theorem HE:au gl0 Tryz.prog 179 sR:=ax (c:=sL) (ab lE (ab qi (ab Dw al))) Tryz.func179 rfl rfl (by kernel_rfl)
@[reducible] def wZ:Cx:={K:=[kd2,.no,kd0,.no,.box 2 0 false,kd2,kd0,kd0,kd0,kd2,kd0,.ref 4,kd0,kd0,kd0,.ref 4,kd0,kd0,kd0,kd0,kd2,kd0,kd0],T:=[(3,ty3),(4,ty4),(57,mr),(147,Ea)],S:=[],H:=[(0,([0,5,6,7],[0]))],res:=[.tmp 2],ios:=[],G:=gl0}
def dr:List D→Option Out:=aS wZ Tryz.f173
@[reducible] def xY:FS:={pm:=[kd2],rm:=[kd0],f:=dr}
theorem pN:au gl0 Tryz.prog 173 xY:=ax (c:=wZ) al Tryz.func173 rfl rfl (by kernel_rfl)
@[reducible] def vA:Cx:={K:=[kd2,.no,kd0,kd0,kd0,kd0,.no,.box 2 0 false,kd2,kd0,kd0,kd0,kd2,kd0,.ref 7,kd0,kd0,kd0,kd0,kd0,kd0,kd0,kd0,kd0],T:=[(3,ty3),(4,ty4),(57,mr),(147,Ea)],S:=[],H:=[(0,([4,5,8,9,10],[4,5]))],res:=[.tmp 2,.tmp 3],ios:=[],G:=gl0}
def ex:List D→Option Out:=aS vA Tryz.f213
@[reducible] def vy:FS:={pm:=[kd2],rm:=[kd0,kd0],f:=ex}
theorem vV:au gl0 Tryz.prog 213 vy:=ax (c:=vA) al Tryz.func213 rfl rfl (by kernel_rfl)
@[reducible] def Oa:Cx:={K:=[kd2,kd2,kd0,.no,.no,.no,.own 2 0 false,.own 2 0 false,kd0,.own 2 0 false,kd2,kd0,kd0,kd0,kd0,kd0,kd0,.own 2 0 false,kd2,kd0,kd2,kd2,kd0,kd2,kd0,kd2,kd2,kd0,kd0,kd0,kd1,.own 2 0 false,kd0,.own 2 0 false,kd2,.own 2 0 false,.own 2 0 false,kd2,.own 2 0 false,.via 7,.own 2 0 false],T:=[(3,ty3),(4,ty4),(214,adu),(217,adB)],S:=[],H:=[(0,([0,1,2,7,8],[0,2,7]))],res:=[.tmp 6],ios:=[],G:=gl0}
def rh:List D→Option Out:=aS Oa Tryz.f254
@[reducible] def MO:FS:={pm:=[kd2,kd2,kd0],rm:=[.own 2 0 false],f:=rh}
theorem YD:au gl0 Tryz.prog 254 MO:=ax (c:=Oa) al Tryz.func254 rfl rfl (by kernel_rfl)
@[reducible] def xh:Cx:={K:=[kd2,kd0,.no,.box 2 0 false,.own 1 1 false,kd0,kd0,.own 1 1 false,kd0,.own 1 1 false,kd0,.no,kd2,.own 1 1 false,kd0,kd2,kd0,kd2,kd2,kd2,kd0,.own 1 1 false,.ref 3,kd0,kd0,kd0,kd0,kd0,kd0,kd0,kd0,.own 1 1 false,kd2,kd0,kd2,kd2,kd0,kd0,kd0,kd0,.own 1 1 false,kd2,kd0,kd2,kd2,kd0,kd2,kd2,kd2,kd0,kd0,kd0,kd0,kd2,kd2,kd0,kd2,kd2,.ref 3,kd0,kd1,kd1,.own 1 1 false,kd0,.own 1 1 false,.via 9,kd1,.own 1 1 false,.own 1 1 false,kd2,kd0,kd0,kd0,kd2,kd2,.own 1 1 false,kd0,kd0,kd0,kd0,kd0,kd0,.own 1 1 false,kd2,kd0,kd2,kd2,kd2,kd0,kd0,kd0,kd0,kd2,kd2,.ref 3,kd0,kd1,kd1,.own 1 1 false,.own 1 1 false,.via 13,kd1,.own 1 1 false,kd0,.own 1 1 false],T:=[(3,ty3),(4,ty4),(147,Ea),(214,adu),(217,adB),(233,afs),(234,afx)],S:=[(254,MO)],H:=[(0,([0,3,5,7,8],[7])),(2,([0,3,5,7,8,9,36,37],[0,3,5,7,8,9])),(4,([3,6,7,69,70,71],[7])),(6,([3,6,7,12,13,14,69,70,71],[3,6,7,13,69,70,71]))],res:=[.tmp 4],ios:=[],G:=gl0}
@[reducible] def xj:List (Nat × List Nat):=[(13,[9]),(23,[13])]
def lz:List D→Option Out:=vl xh xj Tryz.f248
@[reducible] def lM:FS:={pm:=[kd2,kd0],rm:=[.own 1 1 false],f:=lz}
theorem LC:au gl0 Tryz.prog 248 lM:=qW (Z:=xj) (P:=Tryz.prog) (c:=xh) (fn:=Tryz.f248) (pm:=lM.pm) (rm:=lM.rm) (by kernel_rfl) (ab YD al) fw Tryz.func248 (by kernel_rfl) (by kernel_rfl) rfl
@[reducible] def CC:Cx:={K:=[kd2,.no,kd1,kd0,kd0,.own 1 1 false,kd0,.own 1 1 false,kd0,.no,.box 2 0 false,.tup [kd0,kd0],kd2,.tup [kd0,kd0],kd0,kd0,.own 1 1 false,kd0,kd0,kd0,kd0,kd0,.own 1 1 false,kd0,kd0,kd0,kd0,kd0,.own 1 1 false,kd0,kd0,kd0,kd0,kd0,kd0,kd1,kd1,.own 1 1 false,.own 1 1 false,.via 7,kd1,.own 1 1 false,kd2,kd0,kd0,kd0,kd2,kd0,.via 5,kd0,.own 1 1 false,kd0,.via 5,.ref 5,kd1,kd1,kd1],T:=[(3,ty3),(4,ty4),(57,mr),(147,Ea),(214,adu),(217,adB),(233,afs),(234,afx)],S:=[(213,vy),(248,lM)],H:=[(0,([0,3,4,5,6],[0,5])),(2,([0,3,4,5,6,7,8],[0,3,4,5,6,7])),(4,([5,42,43,44],[5]))],res:=[.tmp 2],ios:=[],G:=gl0}
@[reducible] def Dm:List (Nat × List Nat):=[(11,[7])]
def fm:List D→Option Out:=vl CC Dm Tryz.f236
@[reducible] def uc:FS:={pm:=[kd2],rm:=[kd1],f:=fm}
theorem Qc:au gl0 Tryz.prog 236 uc:=qW (Z:=Dm) (P:=Tryz.prog) (c:=CC) (fn:=Tryz.f236) (pm:=uc.pm) (rm:=uc.rm) (by kernel_rfl) (ab vV (ab LC al)) fw Tryz.func236 (by kernel_rfl) (by kernel_rfl) rfl
@[reducible] def AC:Cx:={K:=[kd0,.no,kd0,kd0,kd0],T:=[],S:=[],H:=[],res:=[.tmp 2],ios:=[],G:=gl0}
def jU:List D→Option Out:=aS AC Tryz.f119
@[reducible] def Ab:FS:={pm:=[kd0],rm:=[kd0],f:=jU}
theorem Nu:au gl0 Tryz.prog 119 Ab:=ax (c:=AC) al Tryz.func119 rfl rfl (by kernel_rfl)
@[reducible] def rU:Cx:={K:=[kd0,kd0,.no,.no,kd0,kd0,kd0,kd0,kd0],T:=[],S:=[(117,rR)],H:=[],res:=[.tmp 4],ios:=[],G:=gl1}
def ce:List D→Option Out:=aS rU Tryz.f170
@[reducible] def fC:FS:={pm:=[kd0,kd0],rm:=[kd0],f:=ce}
theorem iy:au gl1 Tryz.prog 170 fC:=ax (c:=rU) (ab sg al) Tryz.func170 rfl rfl (by kernel_rfl)
@[reducible] def zK:Cx:={K:=[kd0,.no,kd1,kd0,kd1,kd1,kd0,kd0,kd0,kd0,kd1,kd1,kd0,kd0,kd0,kd0,kd1,kd0,kd0,kd0,kd0,kd0,kd0,kd0,kd0,kd0,kd0,kd0],T:=[(3,ty3),(9,ty9),(62,Jm)],S:=[(70,xQ),(71,pD),(72,qA)],H:=[],res:=[.tmp 2,.tmp 3],ios:=[],G:=gl0}
def mN:List D→Option Out:=aS zK Tryz.f54
@[reducible] def zC:FS:={pm:=[kd0],rm:=[kd1,kd0],f:=mN}
theorem Nq:au gl0 Tryz.prog 54 zC:=ax (c:=zK) (ab xJ (ab yW (ab Bo al))) Tryz.func54 rfl rfl (by kernel_rfl)
@[reducible] def yT:Cx:={K:=[kd0,.no,kd1,kd0,kd1,kd0,kd0,kd0,kd0,kd0,kd0,kd0,kd0,kd0,kd0,kd0,kd0,kd0,kd0,kd0,kd0,kd1,kd1,kd1,kd0,kd0,kd1,kd1,kd1,kd0,kd0],T:=[(3,ty3),(5,ty5),(9,ty9),(62,Jm)],S:=[(73,gY)],H:=[],res:=[.tmp 2,.tmp 3],ios:=[],G:=gl0}
def ni:List D→Option Out:=aS yT Tryz.f55
@[reducible] def Pu:FS:={pm:=[kd0],rm:=[kd1,kd0],f:=ni}
theorem Ow:au gl0 Tryz.prog 55 Pu:=ax (c:=yT) (ab jS al) Tryz.func55 rfl rfl (by kernel_rfl)
@[reducible] def Ft:Cx:={K:=[kd2,kd0,.no,.no,kd2,kd0,.own 1 0 false,kd0,kd2,kd0,kd0,kd0,kd2,kd0,kd2,kd0,kd0,kd0,kd0,kd0,kd0,kd0,kd2,kd0,kd0,kd0,kd2,kd0,kd2,kd0,kd0,kd0,kd0,kd2,.own 1 0 false,kd2,kd0,kd2,.own 1 0 false,.own 1 0 false,kd0,kd1,.own 1 0 false,.own 1 0 false,kd2,kd0,kd2,kd2],T:=[(3,ty3),(38,cY)],S:=[],H:=[(0,([0,1,5],[0,1,5]))],res:=[.tmp 4],ios:=[],G:=gl0}
def qJ:List D→Option Out:=aS Ft Tryz.f47
@[reducible] def Hx:FS:={pm:=[kd2,kd0],rm:=[kd2],f:=qJ}
theorem TB:au gl0 Tryz.prog 47 Hx:=ax (c:=Ft) al Tryz.func47 rfl rfl (by kernel_rfl)
@[reducible] def Dt:Cx:={K:=[kd0,kd0,.box 2 0 false,.box 2 0 false,kd0,.ref 2,kd0,.ref 3,kd0,kd0,.ref 2,kd0,.ref 3,kd0,kd0],T:=[(3,ty3),(75,mq)],S:=[],H:=[],res:=[.tmp 4],ios:=[],G:=gl0}
def oz:List D→Option Out:=aS Dt Tryz.f45
@[reducible] def Cw:FS:={pm:=[kd0,kd0],rm:=[kd0],f:=oz}
theorem QX:au gl0 Tryz.prog 45 Cw:=ax (c:=Dt) al Tryz.func45 rfl rfl (by kernel_rfl)
@[reducible] def zG:Cx:={K:=[kd2,kd2,.no,.no,kd0,kd0,kd2,kd0,kd2,kd0,kd0,kd0,kd2,kd0,kd0,kd0,kd0,kd2,kd0,kd2,kd0,kd2,kd0,kd2,kd0,kd0,kd0],T:=[(3,ty3),(33,fZ),(75,mq)],S:=[(45,Cw)],H:=[(0,([0,1,5],[]))],res:=[.tmp 4],ios:=[],G:=gl0}
def jG:List D→Option Out:=aS zG Tryz.f22
@[reducible] def zM:FS:={pm:=[kd2,kd2],rm:=[kd0],f:=jG}
theorem MB:au gl0 Tryz.prog 22 zM:=ax (c:=zG) (ab QX al) Tryz.func22 rfl rfl (by kernel_rfl)
@[reducible] def vU:Cx:={K:=[.own 2 0 true,kd0,.no,.no,kd0,kd0,kd0,.via 0,kd0,kd0,kd0,kd0,.via 0,kd0,kd0,.ref 0,.ref 0,kd0,kd0,.via 0,kd0,kd0,.ref 0,.ref 0,kd0,kd0,kd0],T:=[(3,ty3),(33,fZ),(75,mq)],S:=[],H:=[(0,([0,1,5],[0,1]))],res:=[.tmp 4],ios:=[0],G:=gl0}
def kr:List D→Option Out:=aS vU Tryz.f23
@[reducible] def uG:FS:={pm:=[.own 2 0 true,kd0],rm:=[kd0],f:=kr}
theorem IU:au gl0 Tryz.prog 23 uG:=ax (c:=vU) al Tryz.func23 rfl rfl (by kernel_rfl)
@[reducible] def vJ:Cx:={K:=[kd2,kd0,.no,.no,kd0,kd0,kd0,kd2,kd0,kd0,kd0,kd0,kd2,kd0,kd2,kd2,kd0,kd0,kd0,kd0,kd0,kd2,kd0,kd2,kd2,kd0,kd0,kd0,kd0,kd0,kd0],T:=[(3,ty3),(33,fZ),(75,mq)],S:=[],H:=[(0,([0,1,5],[1]))],res:=[.tmp 4],ios:=[],G:=gl0}
def gZ:List D→Option Out:=aS vJ Tryz.f24
@[reducible] def vd:FS:={pm:=[kd2,kd0],rm:=[kd0],f:=gZ}
theorem Jr:au gl0 Tryz.prog 24 vd:=ax (c:=vJ) al Tryz.func24 rfl rfl (by kernel_rfl)
@[reducible] def CE:Cx:={K:=[kd2,kd2,.no,.no,kd0,kd0,kd2,kd0,kd2,kd0,kd0,kd0,kd2,kd0,kd0,kd0,kd0,kd2,kd0,kd2,kd0,kd2,kd0,kd2,kd0,kd0],T:=[(3,ty3),(38,cY)],S:=[],H:=[(0,([0,1,5],[]))],res:=[.tmp 4],ios:=[],G:=gl0}
def kW:List D→Option Out:=aS CE Tryz.f27
@[reducible] def CZ:FS:={pm:=[kd2,kd2],rm:=[kd0],f:=kW}
theorem QZ:au gl0 Tryz.prog 27 CZ:=ax (c:=CE) al Tryz.func27 rfl rfl (by kernel_rfl)
@[reducible] def xn:Cx:={K:=[.own 1 0 true,kd0,.no,.no,kd0,kd0,kd0,.via 0,kd0,kd0,kd0,kd0,.via 0,kd0,kd0,.ref 0,kd0,kd0,kd0],T:=[(3,ty3),(38,cY)],S:=[],H:=[(0,([0,1,5],[0,1]))],res:=[.tmp 4],ios:=[0],G:=gl0}
def lF:List D→Option Out:=aS xn Tryz.f28
@[reducible] def xS:FS:={pm:=[.own 1 0 true,kd0],rm:=[kd0],f:=lF}
theorem Lg:au gl0 Tryz.prog 28 xS:=ax (c:=xn) al Tryz.func28 rfl rfl (by kernel_rfl)
@[reducible] def xk:Cx:={K:=[kd2,kd0,.no,.no,kd0,kd0,kd0,kd2,kd0,kd0,kd0,kd0,kd2,kd0,kd2,kd0,kd0,kd0,kd0,kd0,kd0],T:=[(3,ty3),(38,cY)],S:=[],H:=[(0,([0,1,5],[1]))],res:=[.tmp 4],ios:=[],G:=gl0}
def iO:List D→Option Out:=aS xk Tryz.f29
@[reducible] def xN:FS:={pm:=[kd2,kd0],rm:=[kd0],f:=iO}
theorem Lo:au gl0 Tryz.prog 29 xN:=ax (c:=xk) al Tryz.func29 rfl rfl (by kernel_rfl)
@[reducible] def CH:Cx:={K:=[kd0,kd0,.box 3 0 false,.box 3 0 false,kd0,.ref 2,kd0,.ref 3,kd0,kd0,.ref 2,kd0,.ref 3,kd0,kd0,.ref 2,kd0,.ref 3,kd0,kd0],T:=[(3,ty3),(29,fY)],S:=[],H:=[],res:=[.tmp 4],ios:=[],G:=gl0}
def pb:List D→Option Out:=aS CH Tryz.f19
@[reducible] def Ed:FS:={pm:=[kd0,kd0],rm:=[kd0],f:=pb}
theorem Qi:au gl0 Tryz.prog 19 Ed:=ax (c:=CH) al Tryz.func19 rfl rfl (by kernel_rfl)
end Go.Proofs.YtjafgdefcggjcaaGreatDoor

end
