/-
  A part of the proof: contracts and plain forms of functions beneath the statement, made small by a program (names shortened, what is not needed left out).
-/
import Derived.Test.YtjafgdefcggjcaaGreatDoorRows
import Derived.Test.YtjafgdefcggjcaaGreatDoorTie
import Derived.Test.YtjafgdefcggjcaaGreatDoorCards
import Derived.Test.YtjafgdefcggjcaaGreatDoorM4
set_option maxRecDepth 100000
set_option linter.unusedSimpArgs false
set_option linter.unusedVariables false
noncomputable section
namespace Go.Proofs.YtjafgdefcggjcaaGreatDoor
open Go.V
set_option maxRecDepth 100000
@[reducible] def ty4:TI:={n:=1,zero:=[.v (.bool false)],bl:=true}
@[reducible] def ty5:TI:={n:=1,zero:=[.v (.int .u8 0)],ik:=some .u8}
@[reducible] def jg:TI:={agg:=true,n:=3,zero:=[.v (.int .i64 0),.v (.int .i64 0),.v (.int .i64 0)],fs:=[(0,3),(1,3),(2,3)],eq:=[1,1,1]}
@[reducible] def jv:TI:={n:=1,zero:=[.arr 2 []],elem:=75,ez:=2,eb:=16}
@[reducible] def afj:TI:={n:=1,zero:=[.arr 1 []],elem:=5,ez:=1,eb:=1}
@[reducible] def Fi:TI:={n:=1,zero:=[.arr 3 []],elem:=121,ez:=3,eb:=24}
@[reducible] def re:TI:={n:=1,zero:=[.arr 2 []],elem:=147,ez:=2,eb:=16}
@[reducible] def abZ:TI:={agg:=true,n:=10,zero:=[.v (.int .i64 0),.v (.int .i64 0),.v (.int .i64 0),.arr 2 [],.arr 1 [],.v (.string ⟨#[]⟩),.arr 2 [],.arr 1 [],.arr 1 [],.v (.int .i64 0)],fs:=[(0,29),(3,33),(4,38),(5,9),(6,57),(7,38),(8,38),(9,3)]}
@[reducible] def aih:TI:={n:=1,zero:=[.v .nilIface],ifc:=true}
@[reducible] def qo:TI:={agg:=true,n:=2,zero:=[.v (.int .i64 0),.v (.int .i64 0)],fs:=[(0,3),(1,3)],eq:=[1,1]}
@[reducible] def ahW:TI:={n:=1,zero:=[.v (.int .u64 0)],ik:=some .u64}
@[reducible] def ahR:TI:={agg:=true,n:=3,zero:=[.arr 1 [],.v (.int .i64 0),.v (.int .u64 0)],fs:=[(0,43),(1,3),(2,79)]}
@[reducible] def Zx:TI:={n:=1,zero:=[.arr 3 []],elem:=29,ez:=3,eb:=24}
@[reducible] def DH:TI:={agg:=true,n:=2,zero:=[.v (.int .i64 0),.v (.bool false)],fs:=[(0,3),(1,4)],eq:=[1,2]}
@[reducible] def NN:TI:={n:=1,zero:=[.arr 1 []],elem:=38,ez:=1,eb:=24}
@[reducible] def adI:TI:={n:=1,zero:=[.arr 2 []],elem:=217,ez:=2,eb:=16}
@[reducible] def acT:TI:={agg:=true,n:=2,zero:=[.v (.int .i64 0),.v (.bool false)],fs:=[(0,3),(1,4)],eq:=[1,2]}
@[reducible] def afY:TI:={n:=1,zero:=[.arr 1 []],elem:=234,ez:=1,eb:=24}
@[reducible] def afQ:TI:={n:=1,zero:=[.arr 1 []],elem:=214,ez:=1,eb:=24}
@[reducible] def Ad:Cx:={K:=[Y,Y,.no,.no,Yo 1 0,Yo 1 0,Y,Y,Y,Y,Y,Y,Y,Y,Y,Y,Y,Y,Y,Yo 1 0,Y,Y,Y,Y,Yb,Yo 1 0,Y,Y,Yo 1 0,Y,Y,Y,Yb,Yo 1 0],T:=[(3,ty3),(5,ty5),(9,ty9),(62,EU)],S:=[],H:=[(0,([0,1,5,6,7],[0,5,6]))],res:=[.tmp 4],ios:=[],G:=gl0}
def cg:List D→Option Out:=ba Ad Tryz.f73
@[reducible] def hY:FS:={pm:=[Y,Y],rm:=[Yo 1 0],f:=cg}
theorem ka:aw gl0 Tryz.prog 73 hY:=az (c:=Ad) al Tryz.func73 rfl rfl (by kernel_rfl)
@[reducible] def Au:Cx:={K:=[Y,.no,Y,Y,Y,Y,Y,Y,Y,Y,Y,Y,Y,Y,Y,Y,Y,Y,Y,Y,Y,Y,Y,Y,Y],T:=[(9,ty9)],S:=[],H:=[],res:=[.tmp 2],ios:=[],G:=gl0}
abbrev Bm:List (Nat × List Nat):=[(26,[3,4]),(107,[3,9]),(431,[3,13]),(1727,[3,20])]
def br:List D→Option Out:=CF Au Bm Tryz.f74
@[reducible] def nN:FS:={pm:=[Y],rm:=[Y],f:=br}
theorem Nn:aw gl0 Tryz.prog 74 nN:=Jk (J:=Bm) (P:=Tryz.prog) (c:=Au) (fn:=Tryz.f74) (pm:=nN.pm) (rm:=nN.rm) (by kernel_rfl) al dD (by kernel_rfl) Tryz.func74 (by kernel_rfl) (by kernel_rfl) rfl
@[reducible] def Ku:Cx:={K:=[Y,Y,Y,.no,.no,.no,Y,Y,Y,Y,Y,Y,Y,Y,Y],T:=[(3,ty3)],S:=[],H:=[],res:=[.tmp 6],ios:=[],G:=gl0}
def cj:List D→Option Out:=ba Ku Tryz.f129
@[reducible] def dw:FS:={pm:=[Y,Y,Y],rm:=[Y],f:=cj}
theorem dU:aw gl0 Tryz.prog 129 dw:=az (c:=Ku) al Tryz.func129 rfl rfl (by kernel_rfl)
@[reducible] def CT:Cx:={K:=[Y,.no,Y,Y,Y,Y,Y,Y,Y,Y,Y,Y,Y,Y,Y,Y,Y,Y,Y,Y,Y,Y,Y,Y,Y,Y,Y,Y,Y,Y,Y,Y,Y,Y,Y,Y,Y,Y,Y,Y,Y,Y,Y,Y],T:=[(3,ty3),(5,ty5),(9,ty9)],S:=[(129,dw)],H:=[(0,([0,3,4],[3]))],res:=[.tmp 2],ios:=[],G:=gl0}
def eB:List D→Option Out:=ba CT Tryz.f138
@[reducible] def pl:FS:={pm:=[Y],rm:=[Y],f:=eB}
theorem uC:aw gl0 Tryz.prog 138 pl:=az (c:=CT) (ab dU al) Tryz.func138 rfl rfl (by kernel_rfl)
@[reducible] def Dt:Cx:={K:=[Y,.box 2 0 false,Y,Yr 1,Y,Y,Y,Yr 1,Y,Y,Y],T:=[(3,ty3),(75,qo)],S:=[(129,dw)],H:=[],res:=[.tmp 2],ios:=[],G:=gl0}
def pi:List D→Option Out:=ba Dt Tryz.f84
@[reducible] def Dl:FS:={pm:=[Y],rm:=[Y],f:=pi}
theorem Qf:aw gl0 Tryz.prog 84 Dl:=az (c:=Dt) (ab dU al) Tryz.func84 rfl rfl (by kernel_rfl)
@[reducible] def Du:Cx:={K:=[Yc,.no,Y,Y,.box 2 0 false,Yc,Y,Y,Y,Y,Yc,Y,Y,Y,Y,Y,Y,Y,Y,Yc,Y,Y,Yc,Yc,Y,Yr 4,Y,Y,Y,Y,Y,Yc,Y,Y],T:=[(3,ty3),(33,jv),(75,qo)],S:=[(84,Dl)],H:=[(0,([0,5,6,7],[0]))],res:=[.tmp 2],ios:=[],G:=gl0}
def fJ:List D→Option Out:=ba Du Tryz.f66
@[reducible] def jt:FS:={pm:=[Yc],rm:=[Y],f:=fJ}
theorem lz:aw gl0 Tryz.prog 66 jt:=az (c:=Du) (ab Qf al) Tryz.func66 rfl rfl (by kernel_rfl)
@[reducible] def Kb:Cx:={K:=[Yc,.no,Yc,Y,Yc,Y,Y,Yc],T:=[(33,jv)],S:=[(66,jt)],H:=[],res:=[.tmp 2,.tmp 3],ios:=[],G:=gl0}
def qe:List D→Option Out:=ba Kb Tryz.f139
@[reducible] def AY:FS:={pm:=[Yc],rm:=[Yc,Y],f:=qe}
theorem Kh:aw gl0 Tryz.prog 139 AY:=az (c:=Kb) (ab lz al) Tryz.func139 rfl rfl (by kernel_rfl)
@[reducible] def tr:Cx:={K:=[Y,.no,Yc,Y,Yb,Yo 2 0,.no,Y,Yb,Y,Yb,Yb,Y,Y,Y,Yb,Yb,Y,Y,Yb,Y,Y,Y,Yb,Yb,Y,Y,Yb,Y,Y,Y,Yb,Y,Y,Yb,Yb,Y,Y,Yo 2 0,Yb,Yb,Y,Y,Yb,Yb,Y,Y,Y,Yb,Yo 2 0,Y,.via 5,.tup [Yc,Y],Yc,Y],T:=[(3,ty3),(9,ty9),(33,jv),(62,EU),(75,qo)],S:=[(73,hY),(138,pl),(139,AY)],H:=[(0,([5,27,28,29],[5]))],res:=[.tmp 2,.tmp 3],ios:=[],G:=gl0}
abbrev tE:List (Nat × List Nat):=[(13,[5])]
def jI:List D→Option Out:=vp tr tE Tryz.f93
@[reducible] def jG:FS:={pm:=[Y],rm:=[Yc,Y],f:=jI}
theorem Ih:aw gl0 Tryz.prog 93 jG:=rG (Z:=tE) (P:=Tryz.prog) (c:=tr) (fn:=Tryz.f93) (pm:=jG.pm) (rm:=jG.rm) (by kernel_rfl) (ab ka (ab uC (ab Kh al))) dD Tryz.func93 (by kernel_rfl) (by kernel_rfl) rfl
@[reducible] def Dg:Cx:={K:=[Y,Y,.no,.no,Y,Y,Y,Y],T:=[],S:=[],H:=[],res:=[.tmp 4],ios:=[],G:=gl0}
def cv:List D→Option Out:=ba Dg Tryz.f94
@[reducible] def pf:FS:={pm:=[Y,Y],rm:=[Y],f:=cv}
theorem uG:aw gl0 Tryz.prog 94 pf:=az (c:=Dg) al Tryz.func94 rfl rfl (by kernel_rfl)
@[reducible] def DK:Cx:={K:=[Y,.no,Y,Y,Y,Y,Y,Y,Y,Y,Y,Y,Y,Y,Y,Y,Y,Y,Y,Y,Y,Y,Y,Y,Y,Y,Y,Y,Y,Y,Y,Y,Y,Y,Y,Y,Y,Y,Y,Y,Y,Y,Y,Y],T:=[(3,ty3),(5,ty5),(9,ty9)],S:=[(129,dw)],H:=[(0,([0,3,4],[3]))],res:=[.tmp 2],ios:=[],G:=gl0}
def jr:List D→Option Out:=ba DK Tryz.f141
@[reducible] def Dj:FS:={pm:=[Y],rm:=[Y],f:=jr}
theorem Rr:aw gl0 Tryz.prog 141 Dj:=az (c:=DK) (ab dU al) Tryz.func141 rfl rfl (by kernel_rfl)
@[reducible] def zX:Cx:={K:=[Y,.box 3 0 false,Yo 1 0,Yr 1,Y,Yr 1,Y,Yr 1,Y,Yo 1 0],T:=[(3,ty3),(29,jg),(38,dJ)],S:=[],H:=[],res:=[.tmp 2],ios:=[],G:=gl0}
def kl:List D→Option Out:=ba zX Tryz.f145
@[reducible] def sT:FS:={pm:=[Y],rm:=[Yo 1 0],f:=kl}
theorem Be:aw gl0 Tryz.prog 145 sT:=az (c:=zX) al Tryz.func145 rfl rfl (by kernel_rfl)
@[reducible] def HF:Cx:={K:=[Yc,Y,Y,.no,.no,.no,Y,.no,Y,Yc,Y,Y,Y,Yc,Y,Y,Y,Y,Y,Y,Y],T:=[(3,ty3),(38,dJ)],S:=[(129,dw)],H:=[(0,([1,2,9,10,11],[]))],res:=[.tmp 6],ios:=[],G:=gl0}
def nq:List D→Option Out:=ba HF Tryz.f149
@[reducible] def wz:FS:={pm:=[Yc,Y,Y],rm:=[Y],f:=nq}
theorem Gs:aw gl0 Tryz.prog 149 wz:=az (c:=HF) (ab dU al) Tryz.func149 rfl rfl (by kernel_rfl)
@[reducible] def DE:Cx:={K:=[Y,.box 3 0 false,Y,Y,Yb,Y],T:=[(3,ty3),(29,jg)],S:=[(145,sT),(149,wz)],H:=[],res:=[.tmp 2],ios:=[],G:=gl0}
def gI:List D→Option Out:=ba DE Tryz.f142
@[reducible] def ly:FS:={pm:=[Y],rm:=[Y],f:=gI}
theorem pd:aw gl0 Tryz.prog 142 ly:=az (c:=DE) (ab Be (ab Gs al)) Tryz.func142 rfl rfl (by kernel_rfl)
@[reducible] def Kv:Cx:={K:=[Y,.box 3 0 false,.box 3 0 false,Y,Y,Y,Y,Y,Y],T:=[(3,ty3),(29,jg)],S:=[(142,ly)],H:=[],res:=[.cell 2 29,.tmp 3],ios:=[],G:=gl0}
def pO:List D→Option Out:=ba Kv Tryz.f140
@[reducible] def Ay:FS:={pm:=[Y],rm:=[Y,Y],f:=pO}
theorem KF:aw gl0 Tryz.prog 140 Ay:=az (c:=Kv) (ab pd al) Tryz.func140 rfl rfl (by kernel_rfl)
@[reducible] def vx:Cx:={K:=[Y,.no,.box 3 0 false,Y,Yb,Y,Yb,Yb,Y,Y,Y,Yb,Yb,Y,Y,Yb,Yb,Y,Y,Yb,Yb,Y,Y,Y,.tup [Y,Y],Y,Y],T:=[(3,ty3),(9,ty9),(29,jg),(62,EU)],S:=[(73,hY),(140,Ay),(141,Dj)],H:=[],res:=[.cell 2 29,.tmp 3],ios:=[],G:=gl0}
def kJ:List D→Option Out:=ba vx Tryz.f95
@[reducible] def vf:FS:={pm:=[Y],rm:=[Y,Y],f:=kJ}
theorem JP:aw gl0 Tryz.prog 95 vf:=az (c:=vx) (ab ka (ab KF (ab Rr al))) Tryz.func95 rfl rfl (by kernel_rfl)
@[reducible] def DZ:Cx:={K:=[Y,Y,.box 3 0 false,.box 3 0 false,.box 3 0 false,Yr 2,Y,Yr 3,Y,Y,Yr 2,Y,Yr 3,Y,Y,Yr 2,Y,Yr 3,Y,Y,Y],T:=[(3,ty3),(29,jg)],S:=[],H:=[],res:=[.cell 4 29],ios:=[],G:=gl0}
def pw:List D→Option Out:=ba DZ Tryz.f143
@[reducible] def DF:FS:={pm:=[Y,Y],rm:=[Y],f:=pw}
theorem PZ:aw gl0 Tryz.prog 143 DF:=az (c:=DZ) al Tryz.func143 rfl rfl (by kernel_rfl)
@[reducible] def wj:Cx:={K:=[Yc,.no,.box 3 0 false,Y,.box 3 0 false,.no,.box 3 0 false,Yc,Y,Y,Y,Yc,Y,Y,Y,Yc,Y,Y,Y,Y,Y,Y,Y,Y,Y,Y,.tup [Y,Y],Y,Y],T:=[(3,ty3),(29,jg),(128,Zx)],S:=[(140,Ay),(142,ly),(143,DF)],H:=[(0,([2,4,11,12,13],[2,4]))],res:=[.cell 2 29,.tmp 3],ios:=[],G:=gl0}
def kU:List D→Option Out:=ba wj Tryz.f96
@[reducible] def vw:FS:={pm:=[Yc],rm:=[Y,Y],f:=kU}
theorem Jf:aw gl0 Tryz.prog 96 vw:=az (c:=wj) (ab KF (ab pd (ab PZ al))) Tryz.func96 rfl rfl (by kernel_rfl)
@[reducible] def Ho (k:List D→Option Out):Cx:={K:=[Y,.no,Y,Y,Y,Y,Y,Y,Yb,Y,Y,Y,Y,Y,Y,Y,Y,Yb,Y,Y],T:=[(3,ty3),(5,ty5),(9,ty9),(43,afj)],S:=[(61,{pm:=[Y],rm:=[Y],f:=k})],H:=[],res:=[.tmp 2],ios:=[],G:=gl0}
def cV:Nat→List D→Option Out
 | 0,_=>none
 | n+1,ds=>ba (Ho (cV n)) Tryz.f61 ds
def bL:List D→Option Out:=aau cV
@[reducible] def fa:FS:={pm:=[Y],rm:=[Y],f:=bL}
theorem CM:∀n:Nat,aw gl0 Tryz.prog 61 {pm:=[Y],rm:=[Y],f:=cV n}
 | 0=>Xx (fun _=>rfl)
 | n+1=>by
  have ih:=CM n;exact Vr (P:=Tryz.prog) (c:=Ho (cV n)) (fn:=Tryz.f61) (pm:=fa.pm) (rm:=fa.rm) (by kernel_rfl) (ab ih al) dD Tryz.func61 (by kernel_rfl) (by kernel_rfl) rfl
theorem iN:aw gl0 Tryz.prog 61 fa:=abk CM
@[reducible] def Ey:Cx:={K:=[Y,.box 3 0 false,Y,Yr 1,Y,Y,Y,Yr 1,Y,Y,Y,Y,Yr 1,Y,Y,Y],T:=[(3,ty3),(9,ty9),(29,jg)],S:=[(61,fa)],H:=[],res:=[.tmp 2],ios:=[],G:=gl0}
def fM:List D→Option Out:=ba Ey Tryz.f63
@[reducible] def pq:FS:={pm:=[Y],rm:=[Y],f:=fM}
theorem uE:aw gl0 Tryz.prog 63 pq:=az (c:=Ey) (ab iN al) Tryz.func63 rfl rfl (by kernel_rfl)
@[reducible] def qX:Cx:={K:=[.box 10 2 true,Y,Y,.no,.no,.no,Y,Yc,Y,.box 3 0 false,Y,Y,Y,.tup [Yc,Y],Y,.tup [Yc,Y],Yc,Y,Y,Yr 0,Yc,Yr 0,Yr 0,Y,Y,.tup [Y,Y],Y,.tup [Y,Y],Y,Y,Y,Y,Y,Y,Y,.tup [Y,Y],Yr 0,Yr 0,Yr 0,Y,Y,Yb,.tup [Y,Y],Y,Y,Y,Y,Yr 0,Y,Yr 0,Yr 0,Y,Y,Y,Y],T:=[(3,ty3),(9,ty9),(29,jg),(33,jv),(38,dJ),(57,re),(59,abZ),(75,qo),(128,Zx)],S:=[(63,pq),(93,jG),(94,pf),(95,vf),(96,vw)],H:=[],res:=[.tmp 6],ios:=[0],G:=gl0}
def gS:List D→Option Out:=ba qX Tryz.f75
@[reducible] def qx:FS:={pm:=[.box 10 2 true,Y,Y],rm:=[Y],f:=gS}
theorem Ce:aw gl0 Tryz.prog 75 qx:=az (c:=qX) (ab uE (ab Ih (ab uG (ab JP (ab Jf al))))) Tryz.func75 rfl rfl (by kernel_rfl)
@[reducible] def yH:Cx:={K:=[Y,.no,Y,Y,Y,Y,Y,Y,Y,Y,Y,Y,Y,Y,Y,Y,Y,Y,Y,Y,Y,Y,Y,Y,Y,Y],T:=[(3,ty3),(5,ty5),(9,ty9)],S:=[(138,pl)],H:=[],res:=[.tmp 2,.tmp 3],ios:=[],G:=gl0}
def lR:List D→Option Out:=ba yH Tryz.f97
@[reducible] def yc:FS:={pm:=[Y],rm:=[Y,Y],f:=lR}
theorem Lp:aw gl0 Tryz.prog 97 yc:=az (c:=yH) (ab uC al) Tryz.func97 rfl rfl (by kernel_rfl)
@[reducible] def Da:Cx:={K:=[Yc,Y,.no,.no,Yb,Y,Yo 1 0,.no,Y,Y,Y,Yc,Y,Y,Y,Yc,Y,.tup [Y,Y],Y,.tup [Y,Y],Y,Y,Y,Y,Yo 1 0,Y,Yb,Yo 1 0,Y,.via 6,.via 6,Y,Y,Y],T:=[(3,ty3),(9,ty9),(38,dJ),(62,EU)],S:=[(97,yc)],H:=[(0,([1,6,11,12,13],[1,6]))],res:=[.tmp 4,.tmp 5],ios:=[],G:=gl0}
def pu:List D→Option Out:=ba Da Tryz.f76
@[reducible] def CW:FS:={pm:=[Yc,Y],rm:=[Yb,Y],f:=pu}
theorem Rm:aw gl0 Tryz.prog 76 CW:=az (c:=Da) (ab Lp al) Tryz.func76 rfl rfl (by kernel_rfl)
@[reducible] def AP:Cx:={K:=[Y,.box 3 0 false,Y,Yr 1,Y,Yr 1,Y,Y,Yr 1,Y,Y],T:=[(3,ty3),(29,jg)],S:=[],H:=[],res:=[.tmp 2],ios:=[],G:=gl0}
def fX:List D→Option Out:=ba AP Tryz.f144
@[reducible] def sF:FS:={pm:=[Y],rm:=[Y],f:=fX}
theorem yW:aw gl0 Tryz.prog 144 sF:=az (c:=AP) al Tryz.func144 rfl rfl (by kernel_rfl)
@[reducible] def xH:Cx:={K:=[Y,Y,.box 3 0 false,.no,.box 3 0 false,.box 3 0 false,Y,.box 3 0 false,Y,Y,Y,Y,Y,Y,Y,Y,Y,Y,Y,Y,Y,Y,Y,Y,Y,Yr 2,Y,Y,Y,Y,Y,Yr 7,Yr 2,Y,Y,Y,Y,Y,Yr 7,Y,Yr 7,Y,Y,Yr 7,Y,Y,Yr 7,Yr 7,Y,Yr 2,Y,Y,Y,Y,Y,Yr 2,Y,Yr 7,Y,Y,Yr 2,Y,Yr 7,Y,Y,Yr 2,Y,Yr 7,Y,Y,Y],T:=[(3,ty3),(29,jg)],S:=[(129,dw),(142,ly),(144,sF)],H:=[],res:=[.cell 4 29,.cell 5 29,.tmp 6],ios:=[],G:=gl0}
def lP:List D→Option Out:=ba xH Tryz.f98
@[reducible] def xG:FS:={pm:=[Y,Y],rm:=[Y,Y,Y],f:=lP}
theorem LD:aw gl0 Tryz.prog 98 xG:=az (c:=xH) (ab dU (ab pd (ab yW al))) Tryz.func98 rfl rfl (by kernel_rfl)
@[reducible] def yf:Cx:={K:=[Y,.box 3 0 false,Yo 1 0,Y,Yo 1 0,.no,Y,Y,Y,Y,Y,Y,Y,Y,Y,Y,Yb,Y,Y,Y,Yb,Y,Yo 1 0,Y,Y,Y,Y,Y,Yb,Yo 1 0,Y,Yo 1 0],T:=[(3,ty3),(29,jg),(38,dJ)],S:=[(142,ly),(144,sF),(145,sT)],H:=[(0,([1,4,16,17,18],[4]))],res:=[.tmp 2,.tmp 3],ios:=[],G:=gl0}
def mb:List D→Option Out:=ba yf Tryz.f99
@[reducible] def xO:FS:={pm:=[Y],rm:=[Yo 1 0,Y],f:=mb}
theorem Lc:aw gl0 Tryz.prog 99 xO:=az (c:=yf) (ab pd (ab yW (ab Be al))) Tryz.func99 rfl rfl (by kernel_rfl)
@[reducible] def HL:Cx:={K:=[Y,.no,Y,Y,Y,Y,Y,Y,Y,Y,Y],T:=[(3,ty3),(9,ty9)],S:=[(61,fa)],H:=[],res:=[.tmp 2],ios:=[],G:=gl0}
def fB:List D→Option Out:=ba HL Tryz.f105
@[reducible] def rg:FS:={pm:=[Y],rm:=[Y],f:=fB}
theorem wK:aw gl0 Tryz.prog 105 rg:=az (c:=HL) (ab iN al) Tryz.func105 rfl rfl (by kernel_rfl)
@[reducible] def Ee:Cx:={K:=[Yc,.no,Y,Y,Y,Y,Yc,Y,Y,Y,Y,Yc,Y,Y,Y,Y,Y,Y,Y,Y,Y,Y,Y],T:=[(3,ty3),(9,ty9),(38,dJ)],S:=[(105,rg)],H:=[(0,([3,6,7,8],[3]))],res:=[.tmp 2],ios:=[],G:=gl0}
def jn:List D→Option Out:=ba Ee Tryz.f100
@[reducible] def uF:FS:={pm:=[Yc],rm:=[Y],f:=jn}
theorem DW:aw gl0 Tryz.prog 100 uF:=az (c:=Ee) (ab wK al) Tryz.func100 rfl rfl (by kernel_rfl)
@[reducible] def yd:Cx:={K:=[Y,.no,Y,Y,Y],T:=[],S:=[(129,dw)],H:=[],res:=[.tmp 2],ios:=[],G:=gl0}
def jf:List D→Option Out:=ba yd Tryz.f146
@[reducible] def qj:FS:={pm:=[Y],rm:=[Y],f:=jf}
theorem xV:aw gl0 Tryz.prog 146 qj:=az (c:=yd) (ab dU al) Tryz.func146 rfl rfl (by kernel_rfl)
@[reducible] def zN:Cx:={K:=[Y,Y,.no,.no,Y,Y,Y,Y,Y,Y],T:=[(3,ty3)],S:=[],H:=[],res:=[.tmp 4],ios:=[],G:=gl0}
def ku:List D→Option Out:=ba zN Tryz.f187
@[reducible] def rY:FS:={pm:=[Y,Y],rm:=[Y],f:=ku}
theorem zE:aw gl0 Tryz.prog 187 rY:=az (c:=zN) al Tryz.func187 rfl rfl (by kernel_rfl)
@[reducible] def xS:Cx:={K:=[Yc,Y,.no,.no,Yo 1 1,Yo 1 0,Y,Yo 1 1,Y,.box 2 0 false,Yo 1 0,Y,Y,Y,Y,Y,Y,Y,Y,Yo 1 0,Yb,Yo 1 0,.via 5,Yr 5,.via 5,Yo 1 1,Yc,Y,Y,Y,Y,Yc,Y,Y,Y,Y,Y,Y,Y,Yr 9,Y,Y,Y,Y,Yr 9,Y,Y,Y,Y,Y,Y,Y,Y,.via 7,Y,Yr 7,Yb,Y,Y,Yr 9,Y,Y,Y,Yb,Y,Y,Y,Y,Yo 1 0,Y,Yb,Yo 1 0,Yo 1 1,.via 10,Yb,Yo 1 1,Y,Yo 1 1],T:=[(3,ty3),(33,jv),(38,dJ),(75,qo),(164,NN)],S:=[(187,rY)],H:=[(0,([0,1,5,6],[0,1,5])),(2,([1,7,26,27,28],[7])),(4,([1,7,8,9,10,11,26,27,28],[1,7,10,26,27,28])),(6,([1,7,8,9,10,11,12,13,26,27,28],[1,7,8,9,10,11,12,26,27,28]))],res:=[.tmp 4],ios:=[],G:=gl0}
abbrev xL:List (Nat × List Nat):=[(7,[5]),(21,[10])]
def gr:List D→Option Out:=vp xS xL Tryz.f148
@[reducible] def ji:FS:={pm:=[Yc,Y],rm:=[Yo 1 1],f:=gr}
theorem yG:aw gl0 Tryz.prog 148 ji:=rG (Z:=xL) (P:=Tryz.prog) (c:=xS) (fn:=Tryz.f148) (pm:=ji.pm) (rm:=ji.rm) (by kernel_rfl) (ab zE al) dD Tryz.func148 (by kernel_rfl) (by kernel_rfl) rfl
@[reducible] def Eo:Cx:={K:=[Yc,Y,.no,.no,Yo 1 0,Y,Yb,Yo 1 0,Y,Y,Yc,Y,Yb,Yb,Yc,Y,Yb,Yb,Y,Yb,Y,Y,Yc,Y,Yo 1 0,Yc,Y,Y,Y,Y,Y,Y,Yc,Y,Yc,Yc,Y,Y,Yc,Y,Yc,Yc,Y,Y,Y,Yb,Y,Yb,Yb,Y,Y,Yc,Y,Yc,Yc,Y,Y,Y,Yb,Y,Y,Y,Yb,Y,Y,Yb,Yb,Y,Yb,Y,Y,Y,Y,.via 7,Y,Y,Yr 7,Y,Y,Yc,Y,Yc,Yc,Y,Y,Y,Yo 1 0],T:=[(3,ty3),(33,jv),(38,dJ),(75,qo),(164,NN)],S:=[(148,ji),(187,rY)],H:=[(0,([0,1,6,7,8],[7])),(2,([0,1,6,7,8,9],[0,1,6,7,8,9]))],res:=[.tmp 4,.tmp 5],ios:=[],G:=gl0}
def pA:List D→Option Out:=ba Eo Tryz.f147
@[reducible] def Es:FS:={pm:=[Yc,Y],rm:=[Yo 1 0,Y],f:=pA}
theorem Py:aw gl0 Tryz.prog 147 Es:=az (c:=Eo) (ab yG (ab zE al)) Tryz.func147 rfl rfl (by kernel_rfl)
@[reducible] def Ek:Cx:={K:=[Yc,Y,.no,.no,Yb,Y,Yc,Y,Y,Y,Y,Y,Y,Y,Yc,Y,.tup [Yo 1 0,Y],Yb,Y],T:=[(38,dJ)],S:=[(66,jt),(146,qj),(147,Es)],H:=[],res:=[.tmp 4,.tmp 5],ios:=[],G:=gl0}
def ph:List D→Option Out:=ba Ek Tryz.f101
@[reducible] def DI:FS:={pm:=[Yc,Y],rm:=[Yb,Y],f:=ph}
theorem Pz:aw gl0 Tryz.prog 101 DI:=az (c:=Ek) (ab lz (ab xV (ab Py al))) Tryz.func101 rfl rfl (by kernel_rfl)
@[reducible] def DB:Cx:={K:=[Yc,Yc,.no,.no,Yo 2 0,Yo 2 0,Y,Y,Yo 2 0,Yc,Yo 2 0,Yc,Y,Y,Y,Y,Yc,Y,.via 5,Y,Yr 5,Yr 5,Y,Y,Y,Yr 5,Yr 5,Y,Yo 2 0],T:=[(3,ty3),(33,jv),(38,dJ),(75,qo)],S:=[],H:=[(0,([5,11,12,13],[5]))],res:=[.tmp 4],ios:=[],G:=gl0}
def oU:List D→Option Out:=ba DB Tryz.f102
@[reducible] def Eu:FS:={pm:=[Yc,Yc],rm:=[Yo 2 0],f:=oU}
theorem Pt:aw gl0 Tryz.prog 102 Eu:=az (c:=DB) al Tryz.func102 rfl rfl (by kernel_rfl)
@[reducible] def Ir:Cx:={K:=[Yc,Y,Y,.no,.no,.no,Yo 2 0,Y,Yo 2 0,Y,Yc,Y,Y,Y,Yc,Y,Yc,Yc,Y,Y,Y,Y,Y,Y,Yo 2 0,Yc,Yo 2 0,Y,Yc,Y,Y,Y,Yc,Y,Yc,Yc,Y,Y,Y,Y,.via 8,Y,Yr 8,Yr 8,Y,Y,Y,Yr 8,Yr 8,Yo 2 0,Yo 2 0,Yc,Y,Yc,Yo 2 0,Y,Y,Y,Yb,Yo 2 0,Yc,Y,Yc,Yo 2 0],T:=[(3,ty3),(33,jv),(75,qo)],S:=[],H:=[(0,([0,1,2,7],[0,1,2,7]))],res:=[.tmp 6],ios:=[],G:=gl0}
def kK:List D→Option Out:=ba Ir Tryz.f83
@[reducible] def wF:FS:={pm:=[Yc,Y,Y],rm:=[Yo 2 0],f:=kK}
theorem Hh:aw gl0 Tryz.prog 83 wF:=az (c:=Ir) al Tryz.func83 rfl rfl (by kernel_rfl)
@[reducible] def Bb:Cx:={K:=[Yc,Y,Y,.no,.no,.no,Yc,Y,.via 41,Yc,Y,Y,Y,Y,Yc,Y,Y,Y,Y,Y,Y,Yc,Y,Yc,Yc,Y,Y,Y,Y,Y,Yc,Y,Yc,Yc,Y,Y,Y,Y,Y,Yo 2 0,Yc,Yo 2 0,.via 41,Y,Yr 41,Yr 41,Y,Y,Yr 41,Yr 41,.via 41,Y,Yb,Yc,Y,Yc,Yc,Y,Y,Y,Yb,.tup [Yc,Y],Yc,Y],T:=[(3,ty3),(33,jv),(75,qo)],S:=[(66,jt),(83,wF),(129,dw),(139,AY)],H:=[],res:=[.tmp 6,.tmp 7],ios:=[],G:=gl0}
def nM:List D→Option Out:=ba Bb Tryz.f103
@[reducible] def zJ:FS:={pm:=[Yc,Y,Y],rm:=[Yc,Y],f:=nM}
theorem Nw:aw gl0 Tryz.prog 103 zJ:=az (c:=Bb) (ab lz (ab Hh (ab dU (ab Kh al)))) Tryz.func103 rfl rfl (by kernel_rfl)
@[reducible] def Dd:Cx:={K:=[Yc,.no,Y,Y,.no,.box 2 0 false,Yc,Y,Y,Y,Yc,Y,Y,Yr 5,Y,Y,Y,Yr 5,Y,Y,Y,Y,Y,Y,Y],T:=[(3,ty3),(9,ty9),(33,jv),(75,qo)],S:=[(61,fa)],H:=[(0,([3,6,7,8],[3]))],res:=[.tmp 2],ios:=[],G:=gl0}
def jq:List D→Option Out:=ba Dd Tryz.f67
@[reducible] def ux:FS:={pm:=[Yc],rm:=[Y],f:=jq}
theorem DA:aw gl0 Tryz.prog 67 ux:=az (c:=Dd) (ab iN al) Tryz.func67 rfl rfl (by kernel_rfl)
@[reducible] def ui:Cx:={K:=[Yc,Y,.no,.no,Y,Y,Yb,Y,Yc,Y,Y,Y,Y,Y,Y,Y,Yc,Yb,Yc,Y,Yb,Yb,Y,Y,Y,Y,Y,Yb,Y,Yb,Y,Y,Y,Y,Y],T:=[(3,ty3),(33,jv),(38,dJ),(75,qo),(164,NN)],S:=[(66,jt),(146,qj),(148,ji)],H:=[(0,([1,6,7],[]))],res:=[.tmp 4,.tmp 5],ios:=[],G:=gl0}
def jW:List D→Option Out:=ba ui Tryz.f104
@[reducible] def tw:FS:={pm:=[Yc,Y],rm:=[Y,Y],f:=jW}
theorem Hj:aw gl0 Tryz.prog 104 tw:=az (c:=ui) (ab lz (ab xV (ab yG al))) Tryz.func104 rfl rfl (by kernel_rfl)
@[reducible] def pR:Cx:={K:=[.box 10 2 true,Y,Yc,.no,.no,.no,Y,.box 3 0 false,.box 3 0 false,Y,Yb,Y,Yb,Y,Yc,Y,Y,Y,Y,Y,Y,.tup [Y,Y,Y],Yr 0,Yr 0,Yr 0,Y,Yc,Yc,Y,.tup [Y,Y,Y],Y,Y,Y,Y,Yr 0,Y,Yr 0,Yr 0,Y,Y,Y,Y,Y,Y,.tup [Yo 1 0,Y],Yr 0,Yr 0,Yr 0,Y,.tup [Yo 1 0,Y],Yb,Y,Yb,Y,Y,Y,Y,Y,.tup [Yb,Y],Yr 0,Yr 0,Yr 0,Yc,Yc,Yc,Y,.tup [Yb,Y],Yb,Y,Y,Y,Yr 0,Yr 0,Yr 0,Yr 0,Yc,Yb,Yb,Yr 0,Yr 0,Yb,Y,Y,Y,.tup [Yc,Y],Yr 0,Yr 0,Yr 0,Yc,Yc,Yc,Y,Yc,Yc,Y,.tup [Yc,Y],Yc,Y,Y,Yr 0,Yc,Yr 0,Yr 0,Yc,Y,Y,Y,.tup [Y,Y],Yr 0,Yr 0,Yr 0,Yc,Yc,Yc,Y,.tup [Y,Y],Y,Y,Y,Y,Y,Y],T:=[(3,ty3),(9,ty9),(29,jg),(33,jv),(38,dJ),(57,re),(59,abZ),(75,qo)],S:=[(63,pq),(67,ux),(94,pf),(98,xG),(99,xO),(100,uF),(101,DI),(102,Eu),(103,zJ),(104,tw),(105,rg)],H:=[],res:=[.tmp 6],ios:=[0],G:=gl0}
def cI:List D→Option Out:=ba pR Tryz.f77
@[reducible] def pQ:FS:={pm:=[.box 10 2 true,Y,Yc],rm:=[Y],f:=cI}
theorem AN:aw gl0 Tryz.prog 77 pQ:=az (c:=pR) (ab uE (ab DA (ab uG (ab LD (ab Lc (ab DW (ab Pz (ab Pt (ab Nw (ab Hj (ab wK al))))))))))) Tryz.func77 rfl rfl (by kernel_rfl)
@[reducible] def Hf:Cx:={K:=[Yc,.no,Yo 1 0,Yo 1 0,Yc,Yo 1 0],T:=[(3,ty3),(38,dJ)],S:=[],H:=[],res:=[.tmp 2],ios:=[],G:=gl0}
def gC:List D→Option Out:=ba Hf Tryz.f46
@[reducible] def nI:FS:={pm:=[Yc],rm:=[Yo 1 0],f:=gC}
theorem ri:aw gl0 Tryz.prog 46 nI:=az (c:=Hf) al Tryz.func46 rfl rfl (by kernel_rfl)
@[reducible] def Ev:Cx:={K:=[Yc,.no,Y,Yc,Y,Y,Y,Yc,Y,Y],T:=[(3,ty3),(38,dJ)],S:=[(129,dw),(149,wz)],H:=[],res:=[.tmp 2],ios:=[],G:=gl0}
def ju:List D→Option Out:=ba Ev Tryz.f106
@[reducible] def pb:FS:={pm:=[Yc],rm:=[Y],f:=ju}
theorem ut:aw gl0 Tryz.prog 106 pb:=az (c:=Ev) (ab dU (ab Gs al)) Tryz.func106 rfl rfl (by kernel_rfl)
@[reducible] def yD:Cx:={K:=[Yc,.no,Yb,Yb,.no,Y,Y,Yc,Y,Y,Y,Yc,Y,Y,Yb,Y,Y,Y,Yb,Y,Yb,Y,Y,Y,Y,Y,Y,Yb,Y,Yb,Yo 1 0,Y,Yb,Yo 1 0,Yb,Y,Yb,Yb,Y,Yb],T:=[(3,ty3),(38,dJ)],S:=[(46,nI)],H:=[(0,([3,7,8,9],[3])),(2,([3,5,6,7,8,9],[3,5,6,7,8,9]))],res:=[.tmp 2],ios:=[],G:=gl0}
def lQ:List D→Option Out:=ba yD Tryz.f150
@[reducible] def xP:FS:={pm:=[Yc],rm:=[Yb],f:=lQ}
theorem LP:aw gl0 Tryz.prog 150 xP:=az (c:=yD) (ab ri al) Tryz.func150 rfl rfl (by kernel_rfl)
@[reducible] def vL:Cx:={K:=[Yc,.no,Y,Y,Yc,Y,Y,Yc,Yb,Yc,Y,Y,Y,Yb,Y],T:=[(3,ty3),(38,dJ)],S:=[(106,pb),(150,xP)],H:=[],res:=[.tmp 2,.tmp 3],ios:=[],G:=gl0}
def kL:List D→Option Out:=ba vL Tryz.f107
@[reducible] def vX:FS:={pm:=[Yc],rm:=[Y,Y],f:=kL}
theorem Jl:aw gl0 Tryz.prog 107 vX:=az (c:=vL) (ab ut (ab LP al)) Tryz.func107 rfl rfl (by kernel_rfl)
@[reducible] def CK:Cx:={K:=[Y,.no,Y,Y,Y,Y,Y,Y,Y],T:=[(3,ty3)],S:=[],H:=[],res:=[.tmp 2],ios:=[],G:=gl0}
def lp:List D→Option Out:=ba CK Tryz.f151
@[reducible] def El:FS:={pm:=[Y],rm:=[Y],f:=lp}
theorem QP:aw gl0 Tryz.prog 151 El:=az (c:=CK) al Tryz.func151 rfl rfl (by kernel_rfl)
@[reducible] def qF:Cx:={K:=[Yc,.no,Y,Y,Y,Y,Y,Y,Y,Y,Yc,Y,Y,Yc,Y,Y,Y,Y,Y,Y,Y,Yc,Y,Y,Y,Y,Yc,Y,Y,Yc,Y,Yc,Y,Yc,Y,Y,Y,Y,Y,Y,Yc,Y,Yc,Y,Yc,Y,Y,Yc,Y,Y,Y,Y,Y,Y,Y,Y,Y,Y,Y,Y,Y,Y,Y,Y,Y,Y,Y,Y],T:=[(3,ty3),(38,dJ)],S:=[(106,pb),(151,El)],H:=[(0,([0,5,6,14,15],[5,6])),(2,([0,5,6,7,8,14,15],[0,5,6,14,15]))],res:=[.tmp 2,.tmp 3,.tmp 4],ios:=[],G:=gl0}
def gQ:List D→Option Out:=ba qF Tryz.f108
@[reducible] def qI:FS:={pm:=[Yc],rm:=[Y,Y,Y],f:=gQ}
theorem Co:aw gl0 Tryz.prog 108 qI:=az (c:=qF) (ab ut (ab QP al)) Tryz.func108 rfl rfl (by kernel_rfl)
@[reducible] def CI:Cx:={K:=[Y,.box 3 0 false,Y,Yr 1,Y,Y,Y,Yr 1,Y,Y,Y,Y,Yr 1,Y,Y,Y],T:=[(3,ty3),(121,kp)],S:=[(129,dw)],H:=[],res:=[.tmp 2],ios:=[],G:=gl0}
def py:List D→Option Out:=ba CI Tryz.f188
@[reducible] def Db:FS:={pm:=[Y],rm:=[Y],f:=py}
theorem QK:aw gl0 Tryz.prog 188 Db:=az (c:=CI) (ab dU al) Tryz.func188 rfl rfl (by kernel_rfl)
@[reducible] def Dz:Cx:={K:=[Yc,.no,Y,Y,.box 3 0 false,Yc,Y,Y,Y,Y,Yc,Y,Y,Y,Y,Y,Y,Y,Y,Yc,Y,Y,Yc,Yc,Y,Yr 4,Y,Y,Y,Y,Y,Yc,Y,Y],T:=[(3,ty3),(48,Fi),(121,kp)],S:=[(188,Db)],H:=[(0,([0,5,6,7],[0]))],res:=[.tmp 2],ios:=[],G:=gl0}
def gH:List D→Option Out:=ba Dz Tryz.f152
@[reducible] def lH:FS:={pm:=[Yc],rm:=[Y],f:=gH}
theorem pc:aw gl0 Tryz.prog 152 lH:=az (c:=Dz) (ab QK al) Tryz.func152 rfl rfl (by kernel_rfl)
@[reducible] def AD:Cx:={K:=[Y,Y,.no,.box 3 0 false,Y,Y,Y,Yr 3,Y,Y,Y,Yr 3,Y,Y,Y,Yr 3,Y,Y,Y],T:=[(3,ty3),(121,kp)],S:=[],H:=[],res:=[.tmp 4],ios:=[],G:=gl0}
def ie:List D→Option Out:=ba AD Tryz.f189
@[reducible] def sb:FS:={pm:=[Y,Y],rm:=[Y],f:=ie}
theorem zx:aw gl0 Tryz.prog 189 sb:=az (c:=AD) al Tryz.func189 rfl rfl (by kernel_rfl)
@[reducible] def CH:Cx:={K:=[Y,Y,.box 3 0 false,.no,Y,Yr 2,Y,Y,Y,Yr 2,Y,Y,Y,Y,Yr 2,Y,Y,Y,Y,Y,Y,Y,Y],T:=[(3,ty3),(9,ty9),(121,kp)],S:=[(61,fa)],H:=[],res:=[.tmp 4],ios:=[],G:=gl0}
def lN:List D→Option Out:=ba CH Tryz.f190
@[reducible] def uT:FS:={pm:=[Y,Y],rm:=[Y],f:=lN}
theorem CL:aw gl0 Tryz.prog 190 uT:=az (c:=CH) (ab iN al) Tryz.func190 rfl rfl (by kernel_rfl)
@[reducible] def Ep:Cx:={K:=[Y,.no,Yo 3 0,Y,Yo 3 0,Y,Y,Yb,.no,Y,Yb,.box 3 0 false,Yo 3 0,Y,Yb,Yb,Yb,Y,Y,Yb,Y,Y,Y,Yb,Y,Y,Yb,Yb,Y,Y,Yb,Yb,Y,Y,Yb,Yb,Y,Y,Yb,Yb,Y,Y,Y,Yo 3 0,.via 4,Yo 3 0,Y,Yb,Yo 3 0,.via 12,Y,Y,Y,Y,Y,Y,Y,Y,Y,Y,Y,Y,Y,Y,Y,Y,Y,Y,Y,Y,Yo 3 0,Y,Yo 3 0,Y],T:=[(3,ty3),(9,ty9),(48,Fi),(62,EU),(121,kp)],S:=[(73,hY),(138,pl),(152,lH),(189,sb),(190,uT)],H:=[(0,([4,5,6,19,20,21],[4,5]))],res:=[.tmp 2,.tmp 3],ios:=[],G:=gl0}
def pr:List D→Option Out:=ba Ep Tryz.f155
@[reducible] def DM:FS:={pm:=[Y],rm:=[Yo 3 0,Y],f:=pr}
theorem Rh:aw gl0 Tryz.prog 155 DM:=az (c:=Ep) (ab ka (ab uC (ab pc (ab zx (ab CL al))))) Tryz.func155 rfl rfl (by kernel_rfl)
@[reducible] def sO:Cx:={K:=[Y,.no,Yo 3 0,Y,Yo 3 0,Y,.tup [Yo 3 0,Y],Y,.tup [Yo 3 0,Y],Yo 3 0,Y,Y,Y,Y,Y,Y,Y,Y,Y,Y,Yo 3 0],T:=[(3,ty3),(9,ty9),(48,Fi)],S:=[(155,DM)],H:=[],res:=[.tmp 2,.tmp 3],ios:=[],G:=gl0}
def dR:List D→Option Out:=ba sO Tryz.f110
@[reducible] def mp:FS:={pm:=[Y],rm:=[Yo 3 0,Y],f:=dR}
theorem sd:aw gl0 Tryz.prog 110 mp:=az (c:=sO) (ab Rh al) Tryz.func110 rfl rfl (by kernel_rfl)
@[reducible] def ED:Cx:={K:=[Yc,.no,Y,Y,Y,.no,.box 3 0 false,Yc,Y,Y,Y,Yc,Y,Y,Y,Y,Y,Y,Y,Y,Y,Y,Y],T:=[(3,ty3),(9,ty9),(48,Fi),(121,kp)],S:=[(189,sb),(190,uT)],H:=[(0,([3,4,7,8,9],[3]))],res:=[.tmp 2],ios:=[],G:=gl0}
def oX:List D→Option Out:=ba ED Tryz.f154
@[reducible] def CU:FS:={pm:=[Yc],rm:=[Y],f:=oX}
theorem Qw:aw gl0 Tryz.prog 154 CU:=az (c:=ED) (ab zx (ab CL al)) Tryz.func154 rfl rfl (by kernel_rfl)
@[reducible] def Kr:Cx:={K:=[Y,.no,Y,Y,Y,Y,Y,Y],T:=[(3,ty3),(9,ty9)],S:=[],H:=[],res:=[.tmp 2,.tmp 3],ios:=[],G:=gl0}
def tb:List D→Option Out:=ba Kr Tryz.f153
@[reducible] def Ki:FS:={pm:=[Y],rm:=[Y,Y],f:=tb}
theorem Vp:aw gl0 Tryz.prog 153 Ki:=az (c:=Kr) al Tryz.func153 rfl rfl (by kernel_rfl)
@[reducible] def th:Cx:={K:=[Y,Y,.no,.box 3 0 false,Y,Y,Yb,Y,Yb,.tup [Yo 3 0,Y],Y,.tup [Yo 3 0,Y],Yb,Y,Yo 3 0,Yb,Yo 3 0,Y,Yb,Yb,Y,Y,Y,Yb,Y,Y,Y,Yb,Y,.tup [Y,Y],Y,Y],T:=[(3,ty3),(48,Fi),(121,kp)],S:=[(110,mp),(152,lH),(153,Ki),(154,CU)],H:=[],res:=[.tmp 4,.tmp 5],ios:=[],G:=gl0}
def jz:List D→Option Out:=ba th Tryz.f109
@[reducible] def td:FS:={pm:=[Y,Y],rm:=[Y,Y],f:=jz}
theorem FU:aw gl0 Tryz.prog 109 td:=az (c:=th) (ab sd (ab pc (ab Vp (ab Qw al)))) Tryz.func109 rfl rfl (by kernel_rfl)
@[reducible] def GS:Cx:={K:=[Y,.no,Y,Y,Y],T:=[],S:=[(129,dw)],H:=[],res:=[.tmp 2],ios:=[],G:=gl0}
def rv:List D→Option Out:=ba GS Tryz.f156
@[reducible] def GF:FS:={pm:=[Y],rm:=[Y],f:=rv}
theorem SJ:aw gl0 Tryz.prog 156 GF:=az (c:=GS) (ab dU al) Tryz.func156 rfl rfl (by kernel_rfl)
@[reducible] def zC:Cx:={K:=[Y,Y,.no,.box 3 0 false,Y,Yr 3,Y,Y,Y,Yr 3,Y,Y,Y,Y,Yr 3,Y,Y,Y,Yr 3,Y,Y],T:=[(3,ty3),(121,kp)],S:=[],H:=[],res:=[.tmp 4],ios:=[],G:=gl0}
def kh:List D→Option Out:=ba zC Tryz.f157
@[reducible] def rX:FS:={pm:=[Y,Y],rm:=[Y],f:=kh}
theorem AV:aw gl0 Tryz.prog 157 rX:=az (c:=zC) al Tryz.func157 rfl rfl (by kernel_rfl)
@[reducible] def tZ:Cx:={K:=[Yc,Y,Y,.no,.no,.no,Y,Y,.no,.box 3 0 false,Yc,Y,Y,Y,Y,Y,Y,Y,Y,Y,Y,Y,Y,Yc,Y,Y,Y,Yc,Y,Yr 9,Y,Y,Y,Y,Y,Y,Y,Y],T:=[(3,ty3),(48,Fi),(121,kp)],S:=[(129,dw),(152,lH),(156,GF),(157,rX)],H:=[(0,([1,2,23,24,25],[1]))],res:=[.tmp 6,.tmp 7],ios:=[],G:=gl0}
def jL:List D→Option Out:=ba tZ Tryz.f111
@[reducible] def ub:FS:={pm:=[Yc,Y,Y],rm:=[Y,Y],f:=jL}
theorem Hg:aw gl0 Tryz.prog 111 ub:=az (c:=tZ) (ab dU (ab pc (ab SJ (ab AV al)))) Tryz.func111 rfl rfl (by kernel_rfl)
@[reducible] def tn:Cx:={K:=[Yc,Y,.no,.no,Y,Y,Y,Y,Y,Y,.box 3 0 false,Yc,Y,Y,Y,Y,Y,Y,Y,Y,Yc,Y,Y,Y,Yc,Y,Y,Y,Y,Yc,Y,Y,Y,Y,Y,Y,Y,Y,Y,Y,Y,Y,Y,Y,Y,Y],T:=[(3,ty3),(48,Fi),(121,kp)],S:=[(129,dw),(152,lH),(157,rX)],H:=[(0,([1,7,8,24,25,26],[7,8]))],res:=[.tmp 4,.tmp 5,.tmp 6],ios:=[],G:=gl0}
def jF:List D→Option Out:=ba tn Tryz.f112
@[reducible] def tK:FS:={pm:=[Yc,Y],rm:=[Y,Y,Y],f:=jF}
theorem Hv:aw gl0 Tryz.prog 112 tK:=az (c:=tn) (ab dU (ab pc (ab AV al))) Tryz.func112 rfl rfl (by kernel_rfl)
@[reducible] def DU:Cx:={K:=[Yc,.no,Y,.no,.box 2 0 false,Yc,Y,Y,Y,Yc,Y,Yr 4,Y,Y,Y,Y,Yc,Y,Y],T:=[(3,ty3),(4,ty4),(57,re),(147,DH)],S:=[(129,dw)],H:=[(0,([0,5,6,7],[0]))],res:=[.tmp 2],ios:=[],G:=gl0}
def lI:List D→Option Out:=ba DU Tryz.f113
@[reducible] def uR:FS:={pm:=[Yc],rm:=[Y],f:=lI}
theorem Ex:aw gl0 Tryz.prog 113 uR:=az (c:=DU) (ab dU al) Tryz.func113 rfl rfl (by kernel_rfl)
@[reducible] def DY:Cx:={K:=[Yc,.no,Y,Y,Y,Y,.no,.box 2 0 false,Yc,Y,Y,Y,Yc,Y,Yr 7,Y,Y,Y,Y,Y,Y,Y,Y,Y],T:=[(3,ty3),(4,ty4),(57,re),(147,DH)],S:=[],H:=[(0,([4,5,8,9,10],[4,5]))],res:=[.tmp 2,.tmp 3],ios:=[],G:=gl0}
def lA:List D→Option Out:=ba DY Tryz.f158
@[reducible] def uL:FS:={pm:=[Yc],rm:=[Y,Y],f:=lA}
theorem DQ:aw gl0 Tryz.prog 158 uL:=az (c:=DY) al Tryz.func158 rfl rfl (by kernel_rfl)
@[reducible] def CE:Cx:={K:=[Yc,.no,Yo 1 0,Yo 1 0,Y,Yc,Y,Y,Y,Y,Y,Y,Yo 1 0,Yc,Y,Yc,Y,Y,Yb,Yo 1 0,Yo 1 0],T:=[(3,ty3),(38,dJ)],S:=[],H:=[(0,([0,3,4],[3]))],res:=[.tmp 2],ios:=[],G:=gl0}
def lD:List D→Option Out:=ba CE Tryz.f222
@[reducible] def Ed:FS:={pm:=[Yc],rm:=[Yo 1 0],f:=lD}
theorem Rj:aw gl0 Tryz.prog 222 Ed:=az (c:=CE) al Tryz.func222 rfl rfl (by kernel_rfl)
@[reducible] def Io:Cx:={K:=[Yc,Yc,Y,.no,.no,.no,Yo 1 0,Y,Yc,Yo 1 0,Yc,Yo 1 0,Yc,Yo 1 0,Yc,Yo 1 0],T:=[(3,ty3),(38,dJ)],S:=[(46,nI)],H:=[],res:=[.tmp 6],ios:=[],G:=gl0}
def nQ:List D→Option Out:=ba Io Tryz.f221
@[reducible] def HG:FS:={pm:=[Yc,Yc,Y],rm:=[Yo 1 0],f:=nQ}
theorem Te:aw gl0 Tryz.prog 221 HG:=az (c:=Io) (ab ri al) Tryz.func221 rfl rfl (by kernel_rfl)
@[reducible] def CY:Cx:={K:=[Yc,.no,Yb,Y,Y,Yo 1 1,Y,.no,.box 2 0 false,Yo 1 1,Y,Y,Y,Y,.tup [Y,Y],Yc,.tup [Y,Y],Y,Y,Y,Y,Y,Y,Y,Y,Y,Yo 1 1,Y,Y,Yb,Yb,Yo 1 1,Yc,Y,Y,Y,Yc,Y,Yr 8,Y,Y,Y,Y,Y,Y,Y,Y,Y,Y,Y,Y,Y,Yo 1 1,.via 5,Y,Y,Y,Y,Y,Yr 5,Yb,.via 5,Y,Y,Y,Y,Y,Y,Y,Y,Yr 5,Yb,Yb,Yr 8,Y,Yb,Yb,Yo 1 1,Y,Y,Y,Y,Y,Y,Y,Y,Y,Y,Y,Y,Y,Yo 1 1,.via 5,Y,Y,Y,Y,Y,Yr 5,Yb,.via 5,Y,Y,Y,Y,Y,Y,Y,Y,Yr 5,Yb,Yb,Yr 8,Y,Yb,Yb,Yo 1 1,Y,Y,Yo 1 1,Y,.via 5,Yr 5,Yb],T:=[(3,ty3),(4,ty4),(38,dJ),(57,re),(147,DH),(164,NN)],S:=[(158,uL),(221,HG),(222,Ed)],H:=[(0,([0,3,4,5,6],[0,3,4,5])),(2,([3,4,5,32,33,34],[5])),(4,([3,4,5,8,9,10,32,33,34],[3,4,5,9,32,33,34])),(6,([3,4,5,8,9,10,11,32,33,34],[3,4,5,8,9,10,32,33,34])),(8,([3,4,5,8,9,12,32,33,34],[3,4,5,9,32,33,34])),(10,([3,4,5,8,9,12,13,32,33,34],[3,4,5,8,9,12,32,33,34]))],res:=[.tmp 2],ios:=[],G:=gl0}
def lq:List D→Option Out:=ba CY Tryz.f191
@[reducible] def Dy:FS:={pm:=[Yc],rm:=[Yb],f:=lq}
theorem PT:aw gl0 Tryz.prog 191 Dy:=az (c:=CY) (ab DQ (ab Te (ab Rj al))) Tryz.func191 rfl rfl (by kernel_rfl)
@[reducible] def Dr:Cx:={K:=[Y,Y,.no,.no,Y,Y,Y,Y,Y,Y],T:=[(3,ty3)],S:=[],H:=[],res:=[.tmp 4],ios:=[],G:=gl0}
def oV:List D→Option Out:=ba Dr Tryz.f223
@[reducible] def CJ:FS:={pm:=[Y,Y],rm:=[Y],f:=oV}
theorem Qq:aw gl0 Tryz.prog 223 CJ:=az (c:=Dr) al Tryz.func223 rfl rfl (by kernel_rfl)
@[reducible] def Hm:Cx:={K:=[Y,.no,Y,Y,Y,Y,Y],T:=[],S:=[(223,CJ)],H:=[],res:=[.tmp 2],ios:=[],G:=gl0}
def iR:List D→Option Out:=ba Hm Tryz.f192
@[reducible] def Hd:FS:={pm:=[Y],rm:=[Y],f:=iR}
theorem TK:aw gl0 Tryz.prog 192 Hd:=az (c:=Hm) (ab Qq al) Tryz.func192 rfl rfl (by kernel_rfl)
@[reducible] def zK:Cx:={K:=[Yc,.no,Yo 1 0,Yo 1 0,Yb,Yo 1 0,Yo 1 0,Y,Y,Y,Y,Yc,Yb,Yb,Y,Yo 1 0,Yb,Y,Yo 1 0,Yb,Y,Y,Y,Y,Yb,Y,Y,Y,Y,Y,Y,Y,Y,Y,Y,Y,.via 5,Y,Y,Y,Y,Yr 5,.via 6,Y,Y,Y,Y,Yr 6,Y,Yo 1 0,Yo 1 0],T:=[(3,ty3),(38,dJ)],S:=[(191,Dy),(192,Hd)],H:=[(0,([5,6,19,20,21],[5,6]))],res:=[.tmp 2,.tmp 3],ios:=[],G:=gl0}
def kf:List D→Option Out:=ba zK Tryz.f159
@[reducible] def As:FS:={pm:=[Yc],rm:=[Yo 1 0,Yo 1 0],f:=kf}
theorem Mz:aw gl0 Tryz.prog 159 As:=az (c:=zK) (ab PT (ab TK al)) Tryz.func159 rfl rfl (by kernel_rfl)
@[reducible] def tj:Cx:={K:=[Yc,.no,Y,Y,Y,Y,Yb,Yb,Y,Y,Y,Yc,Y,Y,.tup [Y,Y],Yc,.tup [Y,Y],Y,Y,.tup [Yo 1 0,Yo 1 0],Yc,.tup [Yo 1 0,Yo 1 0],Yb,Yb,Yb,Y,Y,Y,Y,Yb,Y,Y,Y,Y,Y,Y,Y,Y,Y,Y,Y,Y,Y,Y,Y,Y,Y],T:=[(3,ty3),(9,ty9),(38,dJ)],S:=[(61,fa),(113,uR),(158,uL),(159,As)],H:=[(0,([4,8,24,25,26],[8]))],res:=[.tmp 2,.tmp 3],ios:=[],G:=gl0}
def gD:List D→Option Out:=ba tj Tryz.f114
@[reducible] def tD:FS:={pm:=[Yc],rm:=[Y,Y],f:=gD}
theorem Gt:aw gl0 Tryz.prog 114 tD:=az (c:=tj) (ab iN (ab Ex (ab DQ (ab Mz al)))) Tryz.func114 rfl rfl (by kernel_rfl)
@[reducible] def qO:Cx:={K:=[.box 10 2 true,Y,Yc,.no,.no,.no,Y,Yb,Y,Y,Y,Y,Y,Y,Y,Yb,Y,Yb,Y,Y,Y,Yb,Y,Y,Y,Y,Yb,Y,Y,Y,Y,Y,Yr 0,Yr 0,Yr 0,Yc,Yo 1 0,Yc,Yc,Y,Yb,Yb,Yb,Y,Y,Yr 0,Yb,Yr 0,Yr 0,Yb,Y,Y,Y,Y,.tup [Y,Y],Yr 0,Yr 0,Yr 0,Yc,.tup [Y,Y],Y,Y,Y,Y,Y,Y,.tup [Y,Y,Y],Yr 0,Yr 0,Yr 0,Yc,.tup [Y,Y,Y],Y,Y,Y,Y,Y,Yb,Y,Y,Y,.tup [Y,Y],Yr 0,Yr 0,Yr 0,Y,Yc,Yc,Y,Yc,Yc,Y,Yc,Yc,Y,Y,.tup [Y,Y],Y,Y,Y,Y,Yr 0,Y,Yr 0,Yr 0,.tup [Yo 3 0,Y],Y,.tup [Yo 3 0,Y],Yb,Y,Yb,Y,Y,Y,Y,.tup [Yo 3 0,Y],Yr 0,Yr 0,Yr 0,Y,.tup [Yo 3 0,Y],Yb,Y,.tup [Y,Y],Yb,Yc,Yc,Y,Yc,Yc,Y,.tup [Y,Y],Y,Y,Y,Y,Y,Y,Y,Y,.tup [Yo 3 0,Y],Yr 0,Yr 0,Yr 0,Y,.tup [Yo 3 0,Y],Yb,Y,.tup [Y,Y,Y],Yb,Yc,Yc,Y,.tup [Y,Y,Y],Y,Y,Y,Y,Y,Y,Y,Y,Y,Yo 2 0,Yr 0,Yr 0,Yr 0,Yc,Yo 2 0,Yc,Yc,Y,Y,Yb,Yb,Yb,Y,Y,Yr 0,Yb,Yr 0,Yr 0,Yb,Y,Y,.tup [Y,Y],Yr 0,Yr 0,Yr 0,Yc,.tup [Y,Y],Y,Y,Y],T:=[(3,ty3),(4,ty4),(9,ty9),(29,jg),(33,jv),(38,dJ),(48,Fi),(57,re),(59,abZ),(121,kp),(147,DH)],S:=[(46,nI),(61,fa),(94,pf),(100,uF),(105,rg),(106,pb),(107,vX),(108,qI),(109,td),(110,mp),(111,ub),(112,tK),(113,uR),(114,tD)],H:=[],res:=[.tmp 6],ios:=[0],G:=gl0}
def cS:List D→Option Out:=ba qO Tryz.f78
@[reducible] def qA:FS:={pm:=[.box 10 2 true,Y,Yc],rm:=[Y],f:=cS}
theorem CB:aw gl0 Tryz.prog 78 qA:=az (c:=qO) (ab ri (ab iN (ab uG (ab DW (ab wK (ab ut (ab Jl (ab Co (ab FU (ab sd (ab Hg (ab Hv (ab Ex (ab Gt al)))))))))))))) Tryz.func78 rfl rfl (by kernel_rfl)
@[reducible] def qM:Cx:={K:=[.box 10 2 true,Y,.no,.no,Y,Yb,Y,Y,Yb,Y,Y,Yb,Yb,Yb,Y,Y,Y,Y,Y,Y,Y,Y,Y,Yb,Y,Y,Y,Y,Y,Y,Yr 0,Y,Y,Y,Y,Y,Y,Y,.tup [Yb,Y],Yb,Yb,Y,.tup [Yb,Y],Yb,Y,Y,Y,Y,Y,Y,Y,Y,Y,Y,Yr 0,Y,Yb,Y,Yr 0,Y,Yb,Y],T:=[(3,ty3),(9,ty9),(62,EU)],S:=[(73,hY),(74,nN),(75,qx),(76,CW),(77,pQ),(78,qA)],H:=[],res:=[.tmp 4],ios:=[0],G:=gl0}
def lc:List D→Option Out:=ba qM Tryz.f57
@[reducible] def qC:FS:={pm:=[.box 10 2 true,Y],rm:=[Y],f:=lc}
theorem Cw:aw gl0 Tryz.prog 57 qC:=az (c:=qM) (ab ka (ab Nn (ab Ce (ab Rm (ab AN (ab CB al)))))) Tryz.func57 rfl rfl (by kernel_rfl)
@[reducible] def vU:Cx:={K:=[Y,.no,Yo 1 0,Yo 1 0,.no,Y,Y,Y,Yo 1 0,Y,Yb,Y,Y,Y,Yb,Y,.tup [Y,Y],Y,.tup [Y,Y],Y,Y,Y,Y,Yo 1 0,Yo 1 0,Y,Yb,Yo 1 0,Y,Yo 1 0],T:=[(3,ty3),(9,ty9),(38,dJ),(62,EU),(69,aih)],S:=[(116,sL),(131,pV)],H:=[(0,([3,10,11,12],[3]))],res:=[.tmp 2],ios:=[],G:=gl2}
def fR:List D→Option Out:=ba vU Tryz.f86
@[reducible] def kF:FS:={pm:=[Y],rm:=[Yo 1 0],f:=fR}
theorem oJ:aw gl2 Tryz.prog 86 kF:=az (c:=vU) (ab sS (ab (aN qi Bj) al)) Tryz.func86 rfl rfl (by kernel_rfl)
@[reducible] def Ak:Cx:={K:=[Y,.no,Y,Y,Y],T:=[],S:=[(52,dM)],H:=[],res:=[.tmp 2],ios:=[],G:=gl0}
def iy:List D→Option Out:=ba Ak Tryz.f51
@[reducible] def AR:FS:={pm:=[Y],rm:=[Y],f:=iy}
theorem NW:aw gl0 Tryz.prog 51 AR:=az (c:=Ak) (ab dC al) Tryz.func51 rfl rfl (by kernel_rfl)
@[reducible] def Do:Cx:={K:=[Y,.box 3 0 false,Y,Yr 1,Y,Y,Y,Yr 1,Y,Y,Y,Y,Yr 1,Y,Y,Y],T:=[(3,ty3),(29,jg)],S:=[(51,AR)],H:=[],res:=[.tmp 2],ios:=[],G:=gl0}
def eC:List D→Option Out:=ba Do Tryz.f35
@[reducible] def lL:FS:={pm:=[Y],rm:=[Y],f:=eC}
theorem oY:aw gl0 Tryz.prog 35 lL:=az (c:=Do) (ab NW al) Tryz.func35 rfl rfl (by kernel_rfl)
@[reducible] def vQ:Cx:={K:=[Y,Y,.box 3 0 false,.box 3 0 false,.box 3 0 false,Yr 2,Y,Yr 3,Y,Y,Yr 2,Y,Yr 3,Y,Y,Yr 2,Y,Yr 3,Y,Y,Y],T:=[(3,ty3),(29,jg)],S:=[],H:=[],res:=[.cell 4 29],ios:=[],G:=gl0}
def kC:List D→Option Out:=ba vQ Tryz.f199
@[reducible] def vu:FS:={pm:=[Y,Y],rm:=[Y],f:=kC}
theorem Ji:aw gl0 Tryz.prog 199 vu:=az (c:=vQ) al Tryz.func199 rfl rfl (by kernel_rfl)
@[reducible] def vc:Cx:={K:=[Yc,.no,.box 3 0 false,Y,.box 3 0 false,.no,.box 3 0 false,Y,Yc,Y,Y,Y,Yc,Y,Y,Y,Y,Y,Y,Y,Y,Y,Yc,Y,Y,Y,Y,Y,Y,Y,Y,Y],T:=[(3,ty3),(29,jg),(128,Zx)],S:=[(35,lL),(199,vu)],H:=[(0,([0,2,4,8,9,10],[0,2,4]))],res:=[.cell 2 29,.tmp 3],ios:=[],G:=gl0}
def kz:List D→Option Out:=ba vc Tryz.f164
@[reducible] def wi:FS:={pm:=[Yc],rm:=[Y,Y],f:=kz}
theorem IB:aw gl0 Tryz.prog 164 wi:=az (c:=vc) (ab oY (ab Ji al)) Tryz.func164 rfl rfl (by kernel_rfl)
@[reducible] def uf:Cx:={K:=[Y,.box 3 0 false,Y,Yr 1,Y,Yr 1,Y,Y,Yr 1,Y,Y],T:=[(3,ty3),(29,jg)],S:=[],H:=[],res:=[.tmp 2],ios:=[],G:=gl0}
def dy:List D→Option Out:=ba uf Tryz.f200
@[reducible] def jV:FS:={pm:=[Y],rm:=[Y],f:=dy}
theorem nu:aw gl0 Tryz.prog 200 jV:=az (c:=uf) al Tryz.func200 rfl rfl (by kernel_rfl)
@[reducible] def xN:Cx:={K:=[Y,Y,.box 3 0 false,.no,.box 3 0 false,.box 3 0 false,Y,.box 3 0 false,.box 3 0 false,Y,Y,Y,Y,Y,Y,Y,Y,Y,Y,Y,Y,Y,Y,Y,Yr 2,Y,Y,Y,Y,Y,Y,Yr 2,Y,Y,Y,Y,Y,Y,Yr 7,Yr 7,Y,Yr 7,Y,Y,Yr 7,Y,Y,Yr 7,Yr 2,Y,Yr 7,Y,Y,Yr 2,Y,Yr 7,Y,Y,Yr 2,Y,Yr 7,Y,Y,Y,Y,Y,Y,Y,Y,Y,Y],T:=[(3,ty3),(29,jg)],S:=[(35,lL),(52,dM),(200,jV)],H:=[],res:=[.cell 4 29,.cell 5 29,.tmp 6],ios:=[],G:=gl0}
def ma:List D→Option Out:=ba xN Tryz.f165
@[reducible] def yw:FS:={pm:=[Y,Y],rm:=[Y,Y,Y],f:=ma}
theorem LH:aw gl0 Tryz.prog 165 yw:=az (c:=xN) (ab oY (ab dC (ab nu al))) Tryz.func165 rfl rfl (by kernel_rfl)
@[reducible] def AC:Cx:={K:=[Y,.box 3 0 false,Y,Y,Y,Y,Y,Y,Y,Y],T:=[(3,ty3),(29,jg)],S:=[(35,lL),(200,jV)],H:=[],res:=[.tmp 2],ios:=[],G:=gl0}
def nC:List D→Option Out:=ba AC Tryz.f207
@[reducible] def zM:FS:={pm:=[Y],rm:=[Y],f:=nC}
theorem Pl:aw gl0 Tryz.prog 207 zM:=az (c:=AC) (ab oY (ab nu al)) Tryz.func207 rfl rfl (by kernel_rfl)
@[reducible] def xD:Cx:={K:=[Y,.box 3 0 false,Yo 1 0,Y,Y,Y,Y,Y,Yo 1 0,Y,Y,Yr 1,Y,Y,Y,Y,Yr 1,Y,Y,Y,Y,Yr 1,Y,Y,Y,Y,Yo 1 0],T:=[(3,ty3),(29,jg),(38,dJ)],S:=[(200,jV),(207,zM)],H:=[],res:=[.tmp 2,.tmp 3],ios:=[],G:=gl0}
def lS:List D→Option Out:=ba xD Tryz.f174
@[reducible] def xW:FS:={pm:=[Y],rm:=[Yo 1 0,Y],f:=lS}
theorem LF:aw gl0 Tryz.prog 174 xW:=az (c:=xD) (ab nu (ab Pl al)) Tryz.func174 rfl rfl (by kernel_rfl)
@[reducible] def yC:Cx:={K:=[Y,.box 3 0 false,Y,Yr 1,Y,Yr 1,Y,Yr 1,Y,Yb,Y],T:=[(3,ty3),(29,jg),(38,dJ)],S:=[(134,pG)],H:=[],res:=[.tmp 2],ios:=[],G:=gl1}
def gu:List D→Option Out:=ba yC Tryz.f163
@[reducible] def lY:FS:={pm:=[Y],rm:=[Y],f:=gu}
theorem qn:aw gl1 Tryz.prog 163 lY:=az (c:=yC) (ab pE al) Tryz.func163 rfl rfl (by kernel_rfl)
@[reducible] def vo:Cx:={K:=[Y,.no,.box 3 0 false,Y,Yb,.box 3 0 false,Y,Yb,Yb,Y,Y,Y,Yb,Yb,Y,Yb,Yb,Y,Yb,Yb,Y,Y,Y,Y,Y,Y,Y,Y,Y,Y,Y,Y,Y],T:=[(3,ty3),(9,ty9),(29,jg),(38,dJ)],S:=[(35,lL),(86,kF),(163,lY)],H:=[],res:=[.cell 2 29,.tmp 3],ios:=[],G:=gl2}
def im:List D→Option Out:=ba vo Tryz.f118
@[reducible] def oL:FS:={pm:=[Y],rm:=[Y,Y],f:=im}
theorem wg:aw gl2 Tryz.prog 118 oL:=az (c:=vo) (ab (aN qi oY) (ab oJ (ab (aN CD qn) al))) Tryz.func118 rfl rfl (by kernel_rfl)
@[reducible] def Aq:Cx:={K:=[Yc,.no,Y,Y,.box 2 0 false,Yc,Y,Y,Y,Y,Yc,Y,Yr 4,Y,Y,Y,Y,Yr 4,Y,Y,Y,Y,Y,Y,Y,Y,Yc,Y,Y,Yc,Yc,Y,Yr 4,Y,Y,Y,Y,Y,Yc,Y,Y],T:=[(3,ty3),(33,jv),(75,qo)],S:=[(52,dM)],H:=[(0,([0,5,6,7],[0]))],res:=[.tmp 2],ios:=[],G:=gl0}
def fg:List D→Option Out:=ba Aq Tryz.f36
@[reducible] def iA:FS:={pm:=[Yc],rm:=[Y],f:=fg}
theorem kg:aw gl0 Tryz.prog 36 iA:=az (c:=Aq) (ab dC al) Tryz.func36 rfl rfl (by kernel_rfl)
@[reducible] def tz:Cx:={K:=[Yc,Y,Y,.no,.no,.no,Yo 2 0,Y,Yo 2 0,Y,Yc,Y,Y,Y,Yc,Y,Yc,Yc,Y,Y,Y,Y,Y,Y,Y,Yc,Y,Y,Y,Yc,Y,Yc,Yc,Y,Y,Y,Y,Yo 2 0,Yc,Yo 2 0,.via 8,Y,Yr 8,Yr 8,Y,Y,Y,Yr 8,Yr 8,Yo 2 0,Yo 2 0,Yc,Y,Yc,Yo 2 0,Y,Y,Y,Yb,Yo 2 0,Yc,Y,Yc,Yo 2 0],T:=[(3,ty3),(33,jv),(75,qo)],S:=[],H:=[(0,([0,1,2,7],[0,1,2,7]))],res:=[.tmp 6],ios:=[],G:=gl0}
def gw:List D→Option Out:=ba tz Tryz.f204
@[reducible] def sZ:FS:={pm:=[Yc,Y,Y],rm:=[Yo 2 0],f:=gw}
theorem Iq:aw gl0 Tryz.prog 204 sZ:=az (c:=tz) al Tryz.func204 rfl rfl (by kernel_rfl)
@[reducible] def qu:Cx:={K:=[Yc,.no,Yc,Y,Yc,Y,Y,Yb,Yc],T:=[(33,jv),(75,qo)],S:=[(36,iA)],H:=[],res:=[.tmp 2,.tmp 3],ios:=[],G:=gl0}
def gY:List D→Option Out:=ba qu Tryz.f203
@[reducible] def qT:FS:={pm:=[Yc],rm:=[Yc,Y],f:=gY}
theorem Cu:aw gl0 Tryz.prog 203 qT:=az (c:=qu) (ab kg al) Tryz.func203 rfl rfl (by kernel_rfl)
@[reducible] def Am:Cx:={K:=[Yc,Y,Y,.no,.no,.no,Yc,Y,.via 42,Yc,Y,Y,Y,Y,Yc,Y,Y,Y,Y,Y,Y,Yc,Y,Yc,Yc,Y,Y,Y,Y,Y,Yc,Y,Yc,Yc,Y,Y,Y,Y,Y,Yb,Yo 2 0,Yc,Yo 2 0,.via 42,Y,Yr 42,Yr 42,Y,Y,Yr 42,Yr 42,.via 42,Y,Yb,Yc,Y,Yc,Yc,Y,Y,Y,Yb,.tup [Yc,Y],Yc,Y],T:=[(3,ty3),(33,jv),(75,qo)],S:=[(36,iA),(52,dM),(203,qT),(204,sZ)],H:=[],res:=[.tmp 6,.tmp 7],ios:=[],G:=gl0}
def nf:List D→Option Out:=ba Am Tryz.f169
@[reducible] def AA:FS:={pm:=[Yc,Y,Y],rm:=[Yc,Y],f:=nf}
theorem Mn:aw gl0 Tryz.prog 169 AA:=az (c:=Am) (ab kg (ab dC (ab Cu (ab Iq al)))) Tryz.func169 rfl rfl (by kernel_rfl)
@[reducible] def qZ:Cx:={K:=[Y,.no,Y,Y,Y],T:=[],S:=[(52,dM)],H:=[],res:=[.tmp 2],ios:=[],G:=gl0}
def fv:List D→Option Out:=ba qZ Tryz.f201
@[reducible] def li:FS:={pm:=[Y],rm:=[Y],f:=fv}
theorem qY:aw gl0 Tryz.prog 201 li:=az (c:=qZ) (ab dC al) Tryz.func201 rfl rfl (by kernel_rfl)
@[reducible] def vK:Cx:={K:=[Yc,.no,Yo 1 0,Yo 1 0,Yo 1 0,Yo 1 0,.no,.box 2 0 false,Yo 1 0,Yo 1 0,Yc,Y,Y,Y,Yc,Y,Yo 1 0,Yr 7,Y,Yb,Yo 1 0,Yo 1 0,Yr 7,Y,Yb,Yo 1 0,Y,Yo 1 0,Yo 1 0],T:=[(3,ty3),(33,jv),(38,dJ),(75,qo)],S:=[],H:=[(0,([4,5,10,11,12],[4,5]))],res:=[.tmp 2,.tmp 3],ios:=[],G:=gl0}
def ij:List D→Option Out:=ba vK Tryz.f231
@[reducible] def oF:FS:={pm:=[Yc],rm:=[Yo 1 0,Yo 1 0],f:=ij}
theorem vt:aw gl0 Tryz.prog 231 oF:=az (c:=vK) al Tryz.func231 rfl rfl (by kernel_rfl)
@[reducible] def DP:Cx:={K:=[Yc,Yc,Y,.no,.no,.no,Yo 1 1,.via 18,Y,Yo 1 1,Y,Y,.via 38,Y,Y,Y,Y,Y,Yo 1 0,Y,Y,Y,Y,Y,.via 18,Y,Yr 18,.via 18,Yo 1 1,Yc,Y,Y,Y,Y,Yc,Y,Y,Y,Yo 1 0,.via 38,Y,Y,Y,Y,.via 38,Y,Yr 38,Y,Yc,Y,Yc,Y,Y,Y,Y,Y,Y,Y,Y,Y,Y,Y,.via 9,Y,Yr 9,Yb,Y,Y,Y,Y,Y,Yb,Y,Y,Y,Y,.via 38,Y,Yr 38,Y,Y,Y,Y,Y,Y,.via 38,Y,Yr 38,Y,Y,Y,Y,.via 38,Y,Y,Y,Y,Yr 38,Y,Yo 1 1,.via 38,Yb,Yo 1 1,Y,Yo 1 1],T:=[(3,ty3),(38,dJ),(164,NN)],S:=[],H:=[(0,([0,1,2,7,8,18],[0,1,2,7,18])),(2,([1,2,9,29,30,31],[9])),(4,([1,2,9,10,11,12,29,30,31,38,40,41],[1,2,9,12,29,30,31,38])),(6,([1,2,9,10,11,12,13,14,29,30,31,38,40,41],[1,2,9,10,11,12,29,30,31,38,40,41]))],res:=[.tmp 6],ios:=[],G:=gl0}
abbrev Dw:List (Nat × List Nat):=[(6,[18]),(22,[38])]
def js:List D→Option Out:=vp DP Dw Tryz.f234
@[reducible] def lE:FS:={pm:=[Yc,Yc,Y],rm:=[Yo 1 1],f:=js}
theorem CX:aw gl0 Tryz.prog 234 lE:=rG (Z:=Dw) (P:=Tryz.prog) (c:=DP) (fn:=Tryz.f234) (pm:=lE.pm) (rm:=lE.rm) (by kernel_rfl) al dD Tryz.func234 (by kernel_rfl) (by kernel_rfl) rfl
@[reducible] def EB:Cx:={K:=[Yc,Yc,Y,.no,.no,.no,Yb,Yb,.via 27,Y,Y,Y,Yc,Yc,Y,Yb,Yb,Yc,Y,Yb,Yb,Y,Yb,Y,Y,Yc,Y,Yo 1 0,Yc,Y,Y,Y,Y,Y,Y,Yc,Y,Yc,Y,Y,Yc,Y,Yc,Y,Y,Y,Y,Y,Y,Y,Yb,Y,Yb,Yb,Y,Y,Yc,Y,Yc,Y,Y,Y,Yb,Y,Y,Y,Y,Y,Y,Y,Yb,Y,Y,Yb,Yb,Y,Yb,Y,Y,Y,.via 27,Y,Y,Yr 27,Y,Y,Yc,Y,Yc,Y,Y,Y,.via 27],T:=[(3,ty3),(38,dJ),(164,NN)],S:=[(234,lE)],H:=[(0,([0,1,2,7,8,9,27],[8,27])),(2,([0,1,2,7,8,9,10,27],[0,1,2,7,8,9,27]))],res:=[.tmp 6],ios:=[],G:=gl0,N:=[6]}
abbrev CG:List (Nat × List Nat):=[(15,[27])]
def oW:List D→Option Out:=vp EB CG Tryz.f232
@[reducible] def po:FS:={pm:=[Yc,Yc,Y],rm:=[Yb],f:=oW}
theorem QQ:aw gl0 Tryz.prog 232 po:=rG (Z:=CG) (P:=Tryz.prog) (c:=EB) (fn:=Tryz.f232) (pm:=po.pm) (rm:=po.rm) (by kernel_rfl) (ab CX al) dD Tryz.func232 (by kernel_rfl) (by kernel_rfl) rfl
@[reducible] def DC:Cx:={K:=[Yc,Y,.no,.no,Yb,Yb,Yb,.tup [Yo 1 0,Yo 1 0],Yc,.tup [Yo 1 0,Yo 1 0],Yb,Yb,Yb,Yb,Y,Yb],T:=[(38,dJ)],S:=[(231,oF),(232,po)],H:=[],res:=[.tmp 4],ios:=[],G:=gl0,N:=[4,15]}
def pz:List D→Option Out:=ba DC Tryz.f202
@[reducible] def CN:FS:={pm:=[Yc,Y],rm:=[Yb],f:=pz}
theorem QE:aw gl0 Tryz.prog 202 CN:=az (c:=DC) (ab vt (ab QQ al)) Tryz.func202 rfl rfl (by kernel_rfl)
@[reducible] def DO:Cx:={K:=[Yc,Y,.no,.no,Yb,Y,Yb,Yc,Y,Y,Y,Y,Y,Y,Y,Yb,Yc,Y,Yb,Yb,Y,Yb,Yb],T:=[(3,ty3),(38,dJ)],S:=[(36,iA),(201,li),(202,CN)],H:=[],res:=[.tmp 4,.tmp 5],ios:=[],G:=gl0}
def pj:List D→Option Out:=ba DO Tryz.f167
@[reducible] def CQ:FS:={pm:=[Yc,Y],rm:=[Yb,Y],f:=pj}
theorem Qs:aw gl0 Tryz.prog 167 CQ:=az (c:=DO) (ab kg (ab qY (ab QE al))) Tryz.func167 rfl rfl (by kernel_rfl)
@[reducible] def xZ:Cx:={K:=[Yc,.no,Yb,Yb,Yb,.tup [Yo 1 0,Yo 1 0],Yc,.tup [Yo 1 0,Yo 1 0],Yb,Yb,Yb,Yb,Yb,Yc,Y,Yb,Yb],T:=[(3,ty3),(33,jv),(38,dJ),(75,qo),(164,NN)],S:=[(231,oF),(234,lE)],H:=[],res:=[.tmp 2],ios:=[],G:=gl0}
def lU:List D→Option Out:=ba xZ Tryz.f208
@[reducible] def xR:FS:={pm:=[Yc],rm:=[Yb],f:=lU}
theorem Lz:aw gl0 Tryz.prog 208 xR:=az (c:=xZ) (ab vt (ab CX al)) Tryz.func208 rfl rfl (by kernel_rfl)
@[reducible] def um:Cx:={K:=[Yc,Y,.no,.no,Y,Y,Yb,Y,Yc,Y,Y,Y,Y,Y,Y,Y,Yc,Yb,Y,Y,Y,Y,Y,Yb,Y,Yb,Y,Y,Y,Y,Y],T:=[(3,ty3),(38,dJ)],S:=[(36,iA),(201,li),(208,xR)],H:=[(0,([1,6,7],[]))],res:=[.tmp 4,.tmp 5],ios:=[],G:=gl0}
def jM:List D→Option Out:=ba um Tryz.f175
@[reducible] def tG:FS:={pm:=[Yc,Y],rm:=[Y,Y],f:=jM}
theorem It:aw gl0 Tryz.prog 175 tG:=az (c:=um) (ab kg (ab qY (ab Lz al))) Tryz.func175 rfl rfl (by kernel_rfl)
@[reducible] def Km:Cx:={K:=[Yc,Yc,.no,.no,Yo 2 0,Yo 2 0,Y,Y,Yo 2 0,Yc,Yo 2 0,Yc,Y,Y,Y,Y,Yc,Y,.via 5,Y,Yr 5,Yr 5,Y,Y,Y,Yr 5,Yr 5,Y,Yo 2 0],T:=[(3,ty3),(33,jv),(38,dJ),(75,qo)],S:=[],H:=[(0,([5,11,12,13],[5]))],res:=[.tmp 4],ios:=[],G:=gl0}
def ul:List D→Option Out:=ba Km Tryz.f168
@[reducible] def KA:FS:={pm:=[Yc,Yc],rm:=[Yo 2 0],f:=ul}
theorem VO:aw gl0 Tryz.prog 168 KA:=az (c:=Km) al Tryz.func168 rfl rfl (by kernel_rfl)
@[reducible] def pJ:Cx:={K:=[Y,.no,Y,Y,Y,Y],T:=[(3,ty3),(9,ty9)],S:=[],H:=[],res:=[.tmp 2],ios:=[],G:=gl0}
def gB:List D→Option Out:=ba pJ Tryz.f68
@[reducible] def pK:FS:={pm:=[Y],rm:=[Y],f:=gB}
theorem Ax:aw gl0 Tryz.prog 68 pK:=az (c:=pJ) al Tryz.func68 rfl rfl (by kernel_rfl)
@[reducible] def wm:Cx:={K:=[Y,.no,Y,Y,Y],T:=[],S:=[(52,dM)],H:=[],res:=[.tmp 2],ios:=[],G:=gl0}
def iu:List D→Option Out:=ba wm Tryz.f182
@[reducible] def oK:FS:={pm:=[Y],rm:=[Y],f:=iu}
theorem wa:aw gl0 Tryz.prog 182 oK:=az (c:=wm) (ab dC al) Tryz.func182 rfl rfl (by kernel_rfl)
@[reducible] def Df:Cx:={K:=[Y,.box 3 0 false,Y,Yr 1,Y,Y,Y,Yr 1,Y,Y,Y,Y,Yr 1,Y,Y,Y],T:=[(3,ty3),(121,kp)],S:=[(52,dM),(182,oK)],H:=[],res:=[.tmp 2],ios:=[],G:=gl0}
def lj:List D→Option Out:=ba Df Tryz.f133
@[reducible] def uz:FS:={pm:=[Y],rm:=[Y],f:=lj}
theorem CR:aw gl0 Tryz.prog 133 uz:=az (c:=Df) (ab dC (ab wa al)) Tryz.func133 rfl rfl (by kernel_rfl)
@[reducible] def yr:Cx:={K:=[Yc,.no,Y,Y,.box 3 0 false,Yc,Y,Y,Y,Y,Yc,Y,Y,Y,Y,Y,Y,Y,Y,Yc,Y,Y,Yc,Yc,Y,Yr 4,Y,Y,Y,Y,Y,Yc,Y,Y],T:=[(3,ty3),(48,Fi),(121,kp)],S:=[(133,uz)],H:=[(0,([0,5,6,7],[0]))],res:=[.tmp 2],ios:=[],G:=gl0}
def fq:List D→Option Out:=ba yr Tryz.f87
@[reducible] def jj:FS:={pm:=[Yc],rm:=[Y],f:=fq}
theorem md:aw gl0 Tryz.prog 87 jj:=az (c:=yr) (ab CR al) Tryz.func87 rfl rfl (by kernel_rfl)
@[reducible] def vO:Cx:={K:=[Y,.no,Yo 3 0,Y,Yo 3 0,Y,Y,Y,Y,Y,Yb,.box 3 0 false,Yo 3 0,Yo 3 0,.tup [Y,Y,Y],Y,Y,Y,.tup [Y,Y,Y],Y,Y,Y,Y,Yb,Y,Y,Y,Yb,Y,Y,Y,Yo 3 0,Y,Yb,Yb,Y,Yb,Yb,Y,Yb,Yb,Y,Y,Yo 3 0,.via 4,Yo 3 0,Y,Yb,Yo 3 0,.via 12,Y,Y,Y,Y,Y,Y,Y,Y,Y,Y,Y,Y,Yo 3 0,Y,Yo 3 0,Y,Y,Y,Y,Y,Y,Y,Y],T:=[(3,ty3),(9,ty9),(38,dJ),(48,Fi),(121,kp)],S:=[(85,De),(86,kF),(87,jj),(88,yB),(89,HS)],H:=[(0,([0,4,5,6],[2,3]))],res:=[.tmp 2,.tmp 3],ios:=[],G:=gl2}
def kP:List D→Option Out:=ba vO Tryz.f69
@[reducible] def ww:FS:={pm:=[Y],rm:=[Yo 3 0,Y],f:=kP}
theorem Js:aw gl2 Tryz.prog 69 ww:=az (c:=vO) (ab (aN qi EA) (ab oJ (ab (aN qi md) (ab (aN CD yj) (ab (aN qi HB) al))))) Tryz.func69 rfl rfl (by kernel_rfl)
@[reducible] def so:Cx:={K:=[Y,.no,Yo 3 0,Y,Yo 3 0,Y,Y,Y,Y,Yo 3 0,.tup [Yo 3 0,Y],Y,.tup [Yo 3 0,Y],Yo 3 0,Y,Y,Y,Y,Y,Yo 3 0,Yo 3 0],T:=[(3,ty3),(9,ty9),(48,Fi),(121,kp)],S:=[(68,pK),(69,ww)],H:=[],res:=[.tmp 2,.tmp 3],ios:=[],G:=gl2}
def eU:List D→Option Out:=ba so Tryz.f53
@[reducible] def iX:FS:={pm:=[Y],rm:=[Yo 3 0,Y],f:=eU}
theorem mi:aw gl2 Tryz.prog 53 iX:=az (c:=so) (ab (aN qi Ax) (ab Js al)) Tryz.func53 rfl rfl (by kernel_rfl)
@[reducible] def FT:Cx:={K:=[Y,.no,Y,Y,Y],T:=[],S:=[(52,dM)],H:=[],res:=[.tmp 2],ios:=[],G:=gl0}
def rj:List D→Option Out:=ba FT Tryz.f205
@[reducible] def Gw:FS:={pm:=[Y],rm:=[Y],f:=rj}
theorem Uk:aw gl0 Tryz.prog 205 Gw:=az (c:=FT) (ab dC al) Tryz.func205 rfl rfl (by kernel_rfl)
@[reducible] def AG:Cx:={K:=[Yc,.no,Y,.no,Y,Yc,Y,Y,Y,Yc,Y,Y,Y,Y,Y,Yc,Y,Y],T:=[(3,ty3),(38,dJ)],S:=[(52,dM),(205,Gw)],H:=[(0,([0,5,6,7],[0]))],res:=[.tmp 2],ios:=[],G:=gl0}
def ia:List D→Option Out:=ba AG Tryz.f171
@[reducible] def mY:FS:={pm:=[Yc],rm:=[Y],f:=ia}
theorem sx:aw gl0 Tryz.prog 171 mY:=az (c:=AG) (ab dC (ab Uk al)) Tryz.func171 rfl rfl (by kernel_rfl)
@[reducible] def Gg:Cx:={K:=[Yc,Y,Y,.no,.no,.no,Y,Y,Y,Y,Y,Yc,Y,Y,Y,Y,Yc,Y,Y,Y,Yc,Y,Yc,Y,Y,Y,Y,Yc,Y,Y,Y,Y,Y,Y,Y,Y],T:=[(3,ty3),(38,dJ)],S:=[],H:=[(0,([0,1,2,7],[7]))],res:=[.tmp 6],ios:=[],G:=gl0}
def nO:List D→Option Out:=ba Gg Tryz.f210
@[reducible] def Hq:FS:={pm:=[Yc,Y,Y],rm:=[Y],f:=nO}
theorem Tb:aw gl0 Tryz.prog 210 Hq:=az (c:=Gg) al Tryz.func210 rfl rfl (by kernel_rfl)
@[reducible] def qy:Cx:={K:=[Yc,.no,Y,Y,Y,Y,Y,Y,Y,Yc,Y,Y,Yc,Y,Y,Y,Y,Yc,Y,Y,Yc,Y,Y,Y,Y,Y,Y,Y,Y,Y,Y,Y],T:=[(3,ty3),(38,dJ)],S:=[(171,mY),(210,Hq)],H:=[(0,([0,5,6,13,14],[5,6]))],res:=[.tmp 2,.tmp 3,.tmp 4],ios:=[],G:=gl0}
def gW:List D→Option Out:=ba qy Tryz.f177
@[reducible] def qD:FS:={pm:=[Yc],rm:=[Y,Y,Y],f:=gW}
theorem BV:aw gl0 Tryz.prog 177 qD:=az (c:=qy) (ab sx (ab Tb al)) Tryz.func177 rfl rfl (by kernel_rfl)
@[reducible] def qL:Cx:={K:=[Y,.no,Y,Y,Y],T:=[],S:=[(52,dM)],H:=[],res:=[.tmp 2],ios:=[],G:=gl0}
def fw:List D→Option Out:=ba qL Tryz.f211
@[reducible] def kZ:FS:={pm:=[Y],rm:=[Y],f:=fw}
theorem qz:aw gl0 Tryz.prog 211 kZ:=az (c:=qL) (ab dC al) Tryz.func211 rfl rfl (by kernel_rfl)
@[reducible] def DR:Cx:={K:=[Y,.box 3 0 false,Y,Yr 1,Y,Y,Y,Yr 1,Y,Y,Y,Yr 1,Y,Yr 1,Y,Y],T:=[(3,ty3),(121,kp)],S:=[],H:=[],res:=[.tmp 2],ios:=[],G:=gl0}
def lJ:List D→Option Out:=ba DR Tryz.f212
@[reducible] def uP:FS:={pm:=[Y],rm:=[Y],f:=lJ}
theorem Ef:aw gl0 Tryz.prog 212 uP:=az (c:=DR) al Tryz.func212 rfl rfl (by kernel_rfl)
@[reducible] def tc:Cx:={K:=[Yc,Y,Y,.no,.no,.no,Y,Y,.no,.box 3 0 false,Yc,Y,Y,Y,Y,Y,Y,Y,Y,Y,Y,Y,Y,Yc,Y,Y,Y,Yc,Y,Yr 9,Y,Y,Y,Y,Y,Y,Y,Y,Y],T:=[(3,ty3),(48,Fi),(121,kp)],S:=[(87,jj),(182,oK),(211,kZ),(212,uP)],H:=[(0,([1,2,23,24,25],[1]))],res:=[.tmp 6,.tmp 7],ios:=[],G:=gl0}
def jD:List D→Option Out:=ba tc Tryz.f178
@[reducible] def tk:FS:={pm:=[Yc,Y,Y],rm:=[Y,Y],f:=jD}
theorem Gi:aw gl0 Tryz.prog 178 tk:=az (c:=tc) (ab md (ab wa (ab qz (ab Ef al)))) Tryz.func178 rfl rfl (by kernel_rfl)
@[reducible] def tO:Cx:={K:=[Yc,Y,.no,.no,Y,Y,Y,Y,Y,Y,.box 3 0 false,Yc,Y,Y,Y,Y,Y,Y,Y,Y,Yc,Y,Y,Y,Yc,Y,Y,Y,Y,Yc,Y,Y,Y,Y,Y,Y,Y,Y,Y,Y,Y,Y,Y,Y,Y,Y,Y],T:=[(3,ty3),(48,Fi),(121,kp)],S:=[(87,jj),(211,kZ),(212,uP)],H:=[(0,([1,7,8,24,25,26],[7,8]))],res:=[.tmp 4,.tmp 5,.tmp 6],ios:=[],G:=gl0}
def jB:List D→Option Out:=ba tO Tryz.f179
@[reducible] def tM:FS:={pm:=[Yc,Y],rm:=[Y,Y,Y],f:=jB}
theorem Hk:aw gl0 Tryz.prog 179 tM:=az (c:=tO) (ab md (ab qz (ab Ef al))) Tryz.func179 rfl rfl (by kernel_rfl)
@[reducible] def xU:Cx:={K:=[Yc,.no,Y,.no,.box 2 0 false,Yc,Y,Y,Y,Yc,Y,Yr 4,Y,Y,Y,Yr 4,Y,Y,Y,Y,Yc,Y,Y],T:=[(3,ty3),(4,ty4),(57,re),(147,DH)],S:=[],H:=[(0,([0,5,6,7],[0]))],res:=[.tmp 2],ios:=[],G:=gl0}
def dN:List D→Option Out:=ba xU Tryz.f173
@[reducible] def yE:FS:={pm:=[Yc],rm:=[Y],f:=dN}
theorem qt:aw gl0 Tryz.prog 173 yE:=az (c:=xU) al Tryz.func173 rfl rfl (by kernel_rfl)
@[reducible] def vG:Cx:={K:=[Yc,.no,Y,Y,Y,Y,.no,.box 2 0 false,Yc,Y,Y,Y,Yc,Y,Yr 7,Y,Y,Y,Y,Y,Y,Y,Y,Y],T:=[(3,ty3),(4,ty4),(57,re),(147,DH)],S:=[],H:=[(0,([4,5,8,9,10],[4,5]))],res:=[.tmp 2,.tmp 3],ios:=[],G:=gl0}
def eS:List D→Option Out:=ba vG Tryz.f213
@[reducible] def vD:FS:={pm:=[Yc],rm:=[Y,Y],f:=eS}
theorem vY:aw gl0 Tryz.prog 213 vD:=az (c:=vG) al Tryz.func213 rfl rfl (by kernel_rfl)
@[reducible] def Ni:Cx:={K:=[Yc,Yc,Y,.no,.no,.no,Yo 2 0,Yo 2 0,Y,Yo 2 0,Yc,Y,Y,Y,Y,Y,Y,Yo 2 0,Yc,Y,Yc,Yc,Y,Yc,Y,Yc,Yc,Y,Y,Y,Yb,Yo 2 0,Y,Yo 2 0,Yc,Yo 2 0,Yo 2 0,Yc,Yo 2 0,.via 7,Yo 2 0],T:=[(3,ty3),(4,ty4),(214,adI),(217,acT)],S:=[],H:=[(0,([0,1,2,7,8],[0,2,7]))],res:=[.tmp 6],ios:=[],G:=gl0}
def rS:List D→Option Out:=ba Ni Tryz.f254
@[reducible] def MO:FS:={pm:=[Yc,Yc,Y],rm:=[Yo 2 0],f:=rS}
theorem XJ:aw gl0 Tryz.prog 254 MO:=az (c:=Ni) al Tryz.func254 rfl rfl (by kernel_rfl)
@[reducible] def yu:Cx:={K:=[Yc,Y,.no,.box 2 0 false,Yo 1 1,Y,Y,Yo 1 1,Y,Yo 1 1,Y,.no,Yc,Yo 1 1,Y,Yc,Y,Yc,Yc,Yc,Y,Yo 1 1,Yr 3,Y,Y,Y,Y,Y,Y,Y,Y,Yo 1 1,Yc,Y,Yc,Yc,Y,Y,Y,Y,Yo 1 1,Yc,Y,Yc,Yc,Y,Yc,Yc,Yc,Y,Y,Y,Y,Yc,Yc,Y,Yc,Yc,Yr 3,Y,Yb,Yb,Yo 1 1,Y,Yo 1 1,.via 9,Yb,Yo 1 1,Yo 1 1,Yc,Y,Y,Y,Yc,Yc,Yo 1 1,Y,Y,Y,Y,Y,Y,Yo 1 1,Yc,Y,Yc,Yc,Yc,Y,Y,Y,Y,Yc,Yc,Yr 3,Y,Yb,Yb,Yo 1 1,Yo 1 1,.via 13,Yb,Yo 1 1,Y,Yo 1 1],T:=[(3,ty3),(4,ty4),(147,DH),(214,adI),(217,acT),(233,afY),(234,afQ)],S:=[(254,MO)],H:=[(0,([0,3,5,7,8],[7])),(2,([0,3,5,7,8,9,36,37],[0,3,5,7,8,9])),(4,([3,6,7,69,70,71],[7])),(6,([3,6,7,12,13,14,69,70,71],[3,6,7,13,69,70,71]))],res:=[.tmp 4],ios:=[],G:=gl0}
abbrev yi:List (Nat × List Nat):=[(13,[9]),(23,[13])]
def lW:List D→Option Out:=vp yu yi Tryz.f248
@[reducible] def lT:FS:={pm:=[Yc,Y],rm:=[Yo 1 1],f:=lW}
theorem LC:aw gl0 Tryz.prog 248 lT:=rG (Z:=yi) (P:=Tryz.prog) (c:=yu) (fn:=Tryz.f248) (pm:=lT.pm) (rm:=lT.rm) (by kernel_rfl) (ab XJ al) dD Tryz.func248 (by kernel_rfl) (by kernel_rfl) rfl
@[reducible] def Ej:Cx:={K:=[Yc,.no,Yb,Y,Y,Yo 1 1,Y,Yo 1 1,Y,.no,.box 2 0 false,.tup [Y,Y],Yc,.tup [Y,Y],Y,Y,Yo 1 1,Y,Y,Y,Y,Y,Yo 1 1,Y,Y,Y,Y,Y,Yo 1 1,Y,Y,Y,Y,Y,Y,Yb,Yb,Yo 1 1,Yo 1 1,.via 7,Yb,Yo 1 1,Yc,Y,Y,Y,Yc,Y,.via 5,Y,Yo 1 1,Y,.via 5,Yr 5,Yb,Yb,Yb],T:=[(3,ty3),(4,ty4),(57,re),(147,DH),(214,adI),(217,acT),(233,afY),(234,afQ)],S:=[(213,vD),(248,lT)],H:=[(0,([0,3,4,5,6],[0,5])),(2,([0,3,4,5,6,7,8],[0,3,4,5,6,7])),(4,([5,42,43,44],[5]))],res:=[.tmp 2],ios:=[],G:=gl0}
abbrev Dv:List (Nat × List Nat):=[(11,[7])]
def fN:List D→Option Out:=vp Ej Dv Tryz.f236
@[reducible] def uA:FS:={pm:=[Yc],rm:=[Yb],f:=fN}
theorem Qu:aw gl0 Tryz.prog 236 uA:=rG (Z:=Dv) (P:=Tryz.prog) (c:=Ej) (fn:=Tryz.f236) (pm:=uA.pm) (rm:=uA.rm) (by kernel_rfl) (ab vY (ab LC al)) dD Tryz.func236 (by kernel_rfl) (by kernel_rfl) rfl
@[reducible] def An:Cx:={K:=[Y,.no,Y,Y,Y],T:=[],S:=[],H:=[],res:=[.tmp 2],ios:=[],G:=gl0}
def ko:List D→Option Out:=ba An Tryz.f119
@[reducible] def Aw:FS:={pm:=[Y],rm:=[Y],f:=ko}
theorem MI:aw gl0 Tryz.prog 119 Aw:=az (c:=An) al Tryz.func119 rfl rfl (by kernel_rfl)
@[reducible] def rM:Cx:={K:=[Y,Y,.no,.no,Y,Y,Y,Y,Y],T:=[],S:=[(117,sq)],H:=[],res:=[.tmp 4],ios:=[],G:=gl1}
def cu:List D→Option Out:=ba rM Tryz.f170
@[reducible] def gd:FS:={pm:=[Y,Y],rm:=[Y],f:=cu}
theorem iZ:aw gl1 Tryz.prog 170 gd:=az (c:=rM) (ab rW al) Tryz.func170 rfl rfl (by kernel_rfl)
@[reducible] def zA:Cx:={K:=[Y,.no,Yb,Y,Yb,Yb,Y,Y,Y,Y,Yb,Yb,Y,Y,Y,Y,Yb,Y,Y,Y,Y,Y,Y,Y,Y,Y,Y,Y],T:=[(3,ty3),(9,ty9),(62,EU)],S:=[(70,yJ),(71,pD),(72,qK)],H:=[],res:=[.tmp 2,.tmp 3],ios:=[],G:=gl0}
def mZ:List D→Option Out:=ba zA Tryz.f54
@[reducible] def Ah:FS:={pm:=[Y],rm:=[Yb,Y],f:=mZ}
theorem OA:aw gl0 Tryz.prog 54 Ah:=az (c:=zA) (ab xM (ab Ar (ab CA al))) Tryz.func54 rfl rfl (by kernel_rfl)
@[reducible] def Ba:Cx:={K:=[Y,.no,Yb,Y,Yb,Y,Y,Y,Y,Y,Y,Y,Y,Y,Y,Y,Y,Y,Y,Y,Y,Yb,Yb,Yb,Y,Y,Yb,Yb,Yb,Y,Y],T:=[(3,ty3),(5,ty5),(9,ty9),(62,EU)],S:=[(73,hY)],H:=[],res:=[.tmp 2,.tmp 3],ios:=[],G:=gl0}
def nP:List D→Option Out:=ba Ba Tryz.f55
@[reducible] def NQ:FS:={pm:=[Y],rm:=[Yb,Y],f:=nP}
theorem NX:aw gl0 Tryz.prog 55 NQ:=az (c:=Ba) (ab ka al) Tryz.func55 rfl rfl (by kernel_rfl)
@[reducible] def HI:Cx:={K:=[Yc,Y,.no,.no,Yc,Y,Yo 1 0,Y,Yc,Y,Y,Y,Yc,Y,Yc,Y,Y,Y,Y,Y,Y,Y,Yc,Y,Y,Y,Yc,Y,Yc,Y,Y,Y,Y,Yc,Yo 1 0,Yc,Y,Yc,Yo 1 0,Yo 1 0,Y,Yb,Yo 1 0,Yo 1 0,Yc,Y,Yc,Yc],T:=[(3,ty3),(38,dJ)],S:=[],H:=[(0,([0,1,5],[0,1,5]))],res:=[.tmp 4],ios:=[],G:=gl0}
def rz:List D→Option Out:=ba HI Tryz.f47
@[reducible] def Hw:FS:={pm:=[Yc,Y],rm:=[Yc],f:=rz}
theorem TB:aw gl0 Tryz.prog 47 Hw:=az (c:=HI) al Tryz.func47 rfl rfl (by kernel_rfl)
@[reducible] def tW:Cx:={K:=[.box 3 2 true,.no,Y,Y,Yr 0,Yr 0,Yr 0,Y,Yr 0,Yr 0,Yr 0,Yc,Y,Y,Yr 0,Yr 0,Yr 0,Yc,Yr 0,Yr 0,Yr 0,Y,Yc,Y,Y,Yr 0,Yr 0,Yr 0,Y,Y,Yr 0,Yr 0,Yr 0,Yr 0,Yr 0,Yr 0,Y,Y,Y,Y,Y,Y,Yr 0,Yr 0,Yr 0,Yr 0,Yr 0,Y,Yr 0,Yr 0,Yr 0,Yc,Y,Y,Y,Yr 0,Yr 0,Yr 0,Y,Y,Y,Y],T:=[(3,ty3),(5,ty5),(43,afj),(79,ahW),(81,ahR)],S:=[],H:=[],res:=[.tmp 2],ios:=[0],G:=gl0}
def eF:List D→Option Out:=ba tW Tryz.f60
@[reducible] def tN:FS:={pm:=[.box 3 2 true],rm:=[Y],f:=eF}
theorem FY:aw gl0 Tryz.prog 60 tN:=az (c:=tW) al Tryz.func60 rfl rfl (by kernel_rfl)
@[reducible] def tX:Cx:={K:=[.box 3 2 true,Y,.no,.no,Y,Y,Y,Y,Yr 0,Y,Y,Y,Y,Y,Yr 0,Y,Y,Y,Y,Y],T:=[(3,ty3)],S:=[(60,tN)],H:=[],res:=[.tmp 4],ios:=[0],G:=gl0}
def aJ:List D→Option Out:=ba tX Tryz.f49
@[reducible] def dz:FS:={pm:=[.box 3 2 true,Y],rm:=[Y],f:=aJ}
theorem eG:aw gl0 Tryz.prog 49 dz:=az (c:=tX) (ab FY al) Tryz.func49 rfl rfl (by kernel_rfl)
@[reducible] def va:Cx:={K:=[.box 3 2 true,Y,.no,.no,Y,Yr 0,Y,Y,Y],T:=[(3,ty3)],S:=[(49,dz)],H:=[],res:=[.tmp 4],ios:=[0],G:=gl0}
def fQ:List D→Option Out:=ba va Tryz.f48
@[reducible] def ot:FS:={pm:=[.box 3 2 true,Y],rm:=[Y],f:=fQ}
theorem wy:aw gl0 Tryz.prog 48 ot:=az (c:=va) (ab eG al) Tryz.func48 rfl rfl (by kernel_rfl)
@[reducible] def yI:Cx:={K:=[.box 3 2 true,Yc,.no,.no,Y,Yc,Yr 0,Yc,Y,Y,Yc,Y],T:=[(9,ty9),(62,EU)],S:=[(49,dz)],H:=[],res:=[.tmp 4],ios:=[0],G:=gl0}
def bO:List D→Option Out:=ba yI Tryz.f62
@[reducible] def ym:FS:={pm:=[.box 3 2 true,Yc],rm:=[Y],f:=bO}
theorem LJ:aw gl0 Tryz.prog 62 ym:=az (c:=yI) (ab eG al) Tryz.func62 rfl rfl (by kernel_rfl)
@[reducible] def rO:Cx:={K:=[.box 3 2 true,Yc,.no,.no,Y,Yc,Yr 0,Yc,Y,Y,Yc,Y],T:=[(3,ty3),(38,dJ)],S:=[(49,dz)],H:=[],res:=[.tmp 4],ios:=[0],G:=gl0}
def de:List D→Option Out:=ba rO Tryz.f82
@[reducible] def mv:FS:={pm:=[.box 3 2 true,Yc],rm:=[Y],f:=de}
theorem sR:aw gl0 Tryz.prog 82 mv:=az (c:=rO) (ab eG al) Tryz.func82 rfl rfl (by kernel_rfl)
@[reducible] def ta:Cx:={K:=[.box 3 2 true,.no,.box 3 0 false,.box 3 0 false,Yr 0,Y,Yr 0,Y,Yr 0,Y,Y,Yr 0,Y,Yr 0,Yb,Y,Yr 3,Y],T:=[(3,ty3),(29,jg),(38,dJ)],S:=[(48,ot),(49,dz),(82,mv)],H:=[],res:=[.cell 2 29],ios:=[0],G:=gl0}
def jP:List D→Option Out:=ba ta Tryz.f64
@[reducible] def tI:FS:={pm:=[.box 3 2 true],rm:=[Y],f:=jP}
theorem He:aw gl0 Tryz.prog 64 tI:=az (c:=ta) (ab wy (ab eG (ab sR al))) Tryz.func64 rfl rfl (by kernel_rfl)
@[reducible] def sW:Cx:={K:=[.box 3 2 true,.no,Yo 2 0,Yo 2 0,Y,Y,Yr 0,Y,Y,Y,Y,Y,.via 3,Yr 0,Yb,Y,Yr 0,Y,Yo 2 0,Yr 0,Y,Y,Y,Yr 0,Y,Y,.via 3,Y,Y,Y,.via 3,.via 3,Y,Y,Y,Yr 0,Y,Y,Yb,Yo 2 0,Y,Y,Yo 2 0,Yr 0,Yb,Y,Yr 0,Yb,Y,Y,Yb,Yo 2 0,Y,Y,.via 3,Y,Y,.via 3,Yr 0,Yb,Y,Yr 3,Yr 3,Yo 2 0],T:=[(3,ty3),(33,jv),(38,dJ),(75,qo)],S:=[(49,dz),(82,mv),(83,wF)],H:=[(0,([0,3,4],[0,3])),(3,([0,3,5],[0,3]))],res:=[.tmp 2],ios:=[0],G:=gl0}
def jd:List D→Option Out:=ba sW Tryz.f65
@[reducible] def sM:FS:={pm:=[.box 3 2 true],rm:=[Yo 2 0],f:=jd}
theorem Ff:aw gl0 Tryz.prog 65 sM:=az (c:=sW) (ab eG (ab sR (ab Hh al))) Tryz.func65 rfl rfl (by kernel_rfl)
@[reducible] def mH:Cx:={K:=[.box 3 2 true,.no,Y,Y,Y,Yb,Yr 0,Y,Y,Yr 0,Y,Y,Y,Yr 0,Y,Y,Y,Y,Yr 0,Yb,Y,Yr 0,Y,Y,Y,Y,Y,Yr 0,Y,Y,Y,Y,Yb,Y,Y,Y,Y,Yr 0,Yb,Yb,Y,Yb,Y,Y,Y,Y,Y,Yr 0,Yb,Y,Yr 0,Y,Y,Yb,Y,Y,Y,Y,Yr 0,Yb,Y,Y,Y,Yr 0,Y,Yb,Y,Y,Y,Y,Y,Yr 0,Y,Y,Y,Y,Yb,Y,Y,Y,Yr 0,Yb,Y,Y,Y,Y,Y,Y,Y,Yr 0,Y,Y,Y,Y,Yr 0,Y,Yb,Y,Y,Y,Y,Yr 0,Y,Y,Y,Y,Yb,Y,Y,Y,Yr 0,Yb,Y,Yr 0,Yb,Y],T:=[(3,ty3),(9,ty9),(62,EU)],S:=[(49,dz),(61,fa),(62,ym),(63,pq),(64,tI),(65,sM),(66,jt),(67,ux)],H:=[],res:=[.tmp 2],ios:=[0],G:=gl0}
abbrev mN:List (Nat × List Nat):=[(7,[0]),(58,[0,3,4,14,15]),(943,[0,3,4,14,34]),(3775,[0,3,4,14,44]),(60415,[0,3,4,14,68]),(966655,[0,3,4,14,83])]
def dS:List D→Option Out:=CF mH mN Tryz.f50
@[reducible] def fh:FS:={pm:=[.box 3 2 true],rm:=[Y],f:=dS}
theorem vA:aw gl0 Tryz.prog 50 fh:=Jk (J:=mN) (P:=Tryz.prog) (c:=mH) (fn:=Tryz.f50) (pm:=fh.pm) (rm:=fh.rm) (by kernel_rfl) (ab eG (ab iN (ab LJ (ab uE (ab He (ab Ff (ab lz (ab DA al)))))))) dD (by kernel_rfl) Tryz.func50 (by kernel_rfl) (by kernel_rfl) rfl
@[reducible] def qJ:Cx:={K:=[Yc,.no,Y,Yr 10,Y,Y,Y,Y,Yc,Yc,.box 3 2 false,Yr 10,Y,Yr 10,Y,Y,Y,Y,Y,Y,Yr 10,Y,Y,Y,Yr 10,Y,Y,Y,Y,Y,Y,Y,Y,Y,Y,Yr 10,Y,Y,Y,Y,Y,Y,Y,Y,Y,Y,Y,Y,Yr 10,Y,Y,Y,Y,Y,Y,Y,Y,Y,Y,Y],T:=[(3,ty3),(9,ty9),(43,afj),(79,ahW),(81,ahR)],S:=[(48,ot),(49,dz),(50,fh)],H:=[(0,([3,4,5,10],[3,4,10])),(3,([4,6],[4])),(5,([4,7],[4]))],res:=[.tmp 2],ios:=[],G:=gl0}
def gR:List D→Option Out:=ba qJ Tryz.f31
@[reducible] def qS:FS:={pm:=[Yc],rm:=[Y],f:=gR}
theorem Cq:aw gl0 Tryz.prog 31 qS:=az (c:=qJ) (ab wy (ab eG (ab vA al))) Tryz.func31 rfl rfl (by kernel_rfl)
@[reducible] def MT:Cx:={K:=[Yc,Yc,.no,.no,Y,Yc,Y,Y,Y,Yc,Y,Yc,Y,Y,Y,Y],T:=[(3,ty3),(5,ty5),(43,afj)],S:=[],H:=[],res:=[.tmp 4],ios:=[],G:=gl0}
def wN:List D→Option Out:=ba MT Tryz.f30
@[reducible] def Ob:FS:={pm:=[Yc,Yc],rm:=[Y],f:=wN}
theorem YE:aw gl0 Tryz.prog 30 Ob:=az (c:=MT) al Tryz.func30 rfl rfl (by kernel_rfl)
@[reducible] def yA:Cx:={K:=[Yc,Yc,.no,.no,Y,Y,Yc,Y,Yc,Y,Y,Yc,Y,Y,Y,Y,Yc,Y,Yc,Y,Yc,Y,Yc,Y,Y,Y],T:=[(3,ty3),(38,dJ)],S:=[],H:=[(0,([0,1,12,13],[]))],res:=[.tmp 4],ios:=[],G:=gl0}
def lX:List D→Option Out:=ba yA Tryz.f32
@[reducible] def xY:FS:={pm:=[Yc,Yc],rm:=[Y],f:=lX}
theorem KY:aw gl0 Tryz.prog 32 xY:=az (c:=yA) al Tryz.func32 rfl rfl (by kernel_rfl)
end Go.Proofs.YtjafgdefcggjcaaGreatDoor

end
