/-
  A part of the proof: contracts and plain forms of functions beneath the statement, made small by a program (names shortened, what is not needed left out).
-/
import Derived.Test.YtjafgdefcggjcaaGreatDoorRows
import Derived.Test.YtjafgdefcggjcaaGreatDoorTie
import Derived.Test.YtjafgdefcggjcaaGreatDoorCards
import Derived.Test.YtjafgdefcggjcaaGreatDoorM4
set_option maxRecDepth 100000
set_option linter.unusedSimpArgs false
set_option linter.unusedVariables false
noncomputable section
namespace Go.Proofs.YtjafgdefcggjcaaGreatDoor
open Go.V
set_option maxRecDepth 100000
@[reducible] def ty4:TI:={n:=1,zero:=[.v (.bool false)],bl:=true}
@[reducible] def ty5:TI:={n:=1,zero:=[.v (.int .u8 0)],ik:=some .u8}
@[reducible] def gQ:TI:={agg:=true,n:=3,zero:=[.v (.int .i64 0),.v (.int .i64 0),.v (.int .i64 0)],fs:=[(0,3),(1,3),(2,3)],eq:=[1,1,1]}
@[reducible] def gS:TI:={n:=1,zero:=[.arr 2 []],elem:=75,ez:=2,eb:=16}
@[reducible] def acu:TI:={n:=1,zero:=[.arr 1 []],elem:=5,ez:=1,eb:=1}
@[reducible] def CJ:TI:={n:=1,zero:=[.arr 3 []],elem:=121,ez:=3,eb:=24}
@[reducible] def oq:TI:={n:=1,zero:=[.arr 2 []],elem:=147,ez:=2,eb:=16}
@[reducible] def Zu:TI:={agg:=true,n:=10,zero:=[.v (.int .i64 0),.v (.int .i64 0),.v (.int .i64 0),.arr 2 [],.arr 1 [],.v (.string ⟨#[]⟩),.arr 2 [],.arr 1 [],.arr 1 [],.v (.int .i64 0)],fs:=[(0,29),(3,33),(4,38),(5,9),(6,57),(7,38),(8,38),(9,3)]}
@[reducible] def aiw:TI:={n:=1,zero:=[.v .nilIface],ifc:=true}
@[reducible] def om:TI:={agg:=true,n:=2,zero:=[.v (.int .i64 0),.v (.int .i64 0)],fs:=[(0,3),(1,3)],eq:=[1,1]}
@[reducible] def agE:TI:={n:=1,zero:=[.v (.int .u64 0)],ik:=some .u64}
@[reducible] def agx:TI:={agg:=true,n:=3,zero:=[.arr 1 [],.v (.int .i64 0),.v (.int .u64 0)],fs:=[(0,43),(1,3),(2,79)]}
@[reducible] def aam:TI:={n:=1,zero:=[.arr 3 []],elem:=29,ez:=3,eb:=24}
@[reducible] def ET:TI:={agg:=true,n:=2,zero:=[.v (.int .i64 0),.v (.bool false)],fs:=[(0,3),(1,4)],eq:=[1,2]}
@[reducible] def Ov:TI:={n:=1,zero:=[.arr 1 []],elem:=38,ez:=1,eb:=24}
@[reducible] def acS:TI:={n:=1,zero:=[.arr 2 []],elem:=217,ez:=2,eb:=16}
@[reducible] def acm:TI:={agg:=true,n:=2,zero:=[.v (.int .i64 0),.v (.bool false)],fs:=[(0,3),(1,4)],eq:=[1,2]}
@[reducible] def af1:TI:={n:=1,zero:=[.arr 1 []],elem:=234,ez:=1,eb:=24}
@[reducible] def af7:TI:={n:=1,zero:=[.arr 1 []],elem:=214,ez:=1,eb:=24}
@[reducible] def AE:Cx:={K:=[Y,Y,.no,.no,Yo 1 0,Yo 1 0,Y,Y,Y,Y,Y,Y,Y,Y,Y,Y,Y,Y,Y,Yo 1 0,Y,Y,Y,Y,Yb,Yo 1 0,Y,Y,Yo 1 0,Y,Y,Y,Yb,Yo 1 0],T:=[(3,ty3),(5,ty5),(9,ty9),(62,Iw)],S:=[],H:=[(0,([0,1,5,6,7],[0,5,6]))],res:=[.tmp 4],ios:=[],G:=gl0}
def ce:List D→Option Out:=aX AE Tryz.f73
@[reducible] def iq:FS:={pm:=[Y,Y],rm:=[Yo 1 0],f:=ce}
theorem kw:au gl0 Tryz.prog 73 iq:=ay (c:=AE) al Tryz.func73 rfl rfl (by kernel_rfl)
@[reducible] def zN:Cx:={K:=[Y,.no,Y,Y,Y,Y,Y,Y,Y,Y,Y,Y,Y,Y,Y,Y,Y,Y,Y,Y,Y,Y,Y,Y,Y],T:=[(9,ty9)],S:=[],H:=[],res:=[.tmp 2],ios:=[],G:=gl0}
abbrev Bd:List (Nat × List Nat):=[(26,[3,4]),(107,[3,9]),(431,[3,13]),(1727,[3,20])]
def bp:List D→Option Out:=Ej zN Bd Tryz.f74
@[reducible] def nE:FS:={pm:=[Y],rm:=[Y],f:=bp}
theorem Pd:au gl0 Tryz.prog 74 nE:=Kb (J:=Bd) (P:=Tryz.prog) (c:=zN) (fn:=Tryz.f74) (pm:=nE.pm) (rm:=nE.rm) (by kernel_rfl) al dI (by kernel_rfl) Tryz.func74 (by kernel_rfl) (by kernel_rfl) rfl
@[reducible] def LD:Cx:={K:=[Y,Y,Y,.no,.no,.no,Y,Y,Y,Y,Y,Y,Y,Y,Y],T:=[(3,ty3)],S:=[],H:=[],res:=[.tmp 6],ios:=[],G:=gl0}
def ci:List D→Option Out:=aX LD Tryz.f129
@[reducible] def dC:FS:={pm:=[Y,Y,Y],rm:=[Y],f:=ci}
theorem ef:au gl0 Tryz.prog 129 dC:=ay (c:=LD) al Tryz.func129 rfl rfl (by kernel_rfl)
@[reducible] def Do:Cx:={K:=[Y,.no,Y,Y,Y,Y,Y,Y,Y,Y,Y,Y,Y,Y,Y,Y,Y,Y,Y,Y,Y,Y,Y,Y,Y,Y,Y,Y,Y,Y,Y,Y,Y,Y,Y,Y,Y,Y,Y,Y,Y,Y,Y,Y],T:=[(3,ty3),(5,ty5),(9,ty9)],S:=[(129,dC)],H:=[(0,([0,3,4],[3]))],res:=[.tmp 2],ios:=[],G:=gl0}
def eB:List D→Option Out:=aX Do Tryz.f138
@[reducible] def pU:FS:={pm:=[Y],rm:=[Y],f:=eB}
theorem uZ:au gl0 Tryz.prog 138 pU:=ay (c:=Do) (ab ef al) Tryz.func138 rfl rfl (by kernel_rfl)
@[reducible] def CX:Cx:={K:=[Y,.box 2 0 false,Y,Yr 1,Y,Y,Y,Yr 1,Y,Y,Y],T:=[(3,ty3),(75,om)],S:=[(129,dC)],H:=[],res:=[.tmp 2],ios:=[],G:=gl0}
def px:List D→Option Out:=aX CX Tryz.f84
@[reducible] def EQ:FS:={pm:=[Y],rm:=[Y],f:=px}
theorem Sb:au gl0 Tryz.prog 84 EQ:=ay (c:=CX) (ab ef al) Tryz.func84 rfl rfl (by kernel_rfl)
@[reducible] def CY:Cx:={K:=[Yc,.no,Y,Y,.box 2 0 false,Yc,Y,Y,Y,Y,Yc,Y,Y,Y,Y,Y,Y,Y,Y,Yc,Y,Y,Yc,Yc,Y,Yr 4,Y,Y,Y,Y,Y,Yc,Y,Y],T:=[(3,ty3),(33,gS),(75,om)],S:=[(84,EQ)],H:=[(0,([0,5,6,7],[0]))],res:=[.tmp 2],ios:=[],G:=gl0}
def fJ:List D→Option Out:=aX CY Tryz.f66
@[reducible] def jw:FS:={pm:=[Yc],rm:=[Y],f:=fJ}
theorem lR:au gl0 Tryz.prog 66 jw:=ay (c:=CY) (ab Sb al) Tryz.func66 rfl rfl (by kernel_rfl)
@[reducible] def Lc:Cx:={K:=[Yc,.no,Yc,Y,Yc,Y,Y,Yc],T:=[(33,gS)],S:=[(66,jw)],H:=[],res:=[.tmp 2,.tmp 3],ios:=[],G:=gl0}
def qh:List D→Option Out:=aX Lc Tryz.f139
@[reducible] def Bk:FS:={pm:=[Yc],rm:=[Yc,Y],f:=qh}
theorem Lj:au gl0 Tryz.prog 139 Bk:=ay (c:=Lc) (ab lR al) Tryz.func139 rfl rfl (by kernel_rfl)
@[reducible] def uA:Cx:={K:=[Y,.no,Yc,Y,Yb,Yo 2 0,.no,Y,Yb,Y,Yb,Yb,Y,Y,Y,Yb,Yb,Y,Y,Yb,Y,Y,Y,Yb,Yb,Y,Y,Yb,Y,Y,Y,Yb,Y,Y,Yb,Yb,Y,Y,Yo 2 0,Yb,Yb,Y,Y,Yb,Yb,Y,Y,Y,Yb,Yo 2 0,Y,.via 5,.tup [Yc,Y],Yc,Y],T:=[(3,ty3),(9,ty9),(33,gS),(62,Iw),(75,om)],S:=[(73,iq),(138,pU),(139,Bk)],H:=[(0,([5,27,28,29],[5]))],res:=[.tmp 2,.tmp 3],ios:=[],G:=gl0}
abbrev tZ:List (Nat × List Nat):=[(13,[5])]
def jR:List D→Option Out:=vM uA tZ Tryz.f93
@[reducible] def jP:FS:={pm:=[Y],rm:=[Yc,Y],f:=jR}
theorem Ie:au gl0 Tryz.prog 93 jP:=rW (Z:=tZ) (P:=Tryz.prog) (c:=uA) (fn:=Tryz.f93) (pm:=jP.pm) (rm:=jP.rm) (by kernel_rfl) (ab kw (ab uZ (ab Lj al))) dI Tryz.func93 (by kernel_rfl) (by kernel_rfl) rfl
@[reducible] def DX:Cx:={K:=[Y,Y,.no,.no,Y,Y,Y,Y],T:=[],S:=[],H:=[],res:=[.tmp 4],ios:=[],G:=gl0}
def cu:List D→Option Out:=aX DX Tryz.f94
@[reducible] def pw:FS:={pm:=[Y,Y],rm:=[Y],f:=cu}
theorem uP:au gl0 Tryz.prog 94 pw:=ay (c:=DX) al Tryz.func94 rfl rfl (by kernel_rfl)
@[reducible] def DC:Cx:={K:=[Y,.no,Y,Y,Y,Y,Y,Y,Y,Y,Y,Y,Y,Y,Y,Y,Y,Y,Y,Y,Y,Y,Y,Y,Y,Y,Y,Y,Y,Y,Y,Y,Y,Y,Y,Y,Y,Y,Y,Y,Y,Y,Y,Y],T:=[(3,ty3),(5,ty5),(9,ty9)],S:=[(129,dC)],H:=[(0,([0,3,4],[3]))],res:=[.tmp 2],ios:=[],G:=gl0}
def ju:List D→Option Out:=aX DC Tryz.f141
@[reducible] def Dt:FS:={pm:=[Y],rm:=[Y],f:=ju}
theorem QC:au gl0 Tryz.prog 141 Dt:=ay (c:=DC) (ab ef al) Tryz.func141 rfl rfl (by kernel_rfl)
@[reducible] def BD:Cx:={K:=[Y,.box 3 0 false,Yo 1 0,Yr 1,Y,Yr 1,Y,Yr 1,Y,Yo 1 0],T:=[(3,ty3),(29,gQ),(38,dq)],S:=[],H:=[],res:=[.tmp 2],ios:=[],G:=gl0}
def kv:List D→Option Out:=aX BD Tryz.f145
@[reducible] def th:FS:={pm:=[Y],rm:=[Yo 1 0],f:=kv}
theorem BE:au gl0 Tryz.prog 145 th:=ay (c:=BD) al Tryz.func145 rfl rfl (by kernel_rfl)
@[reducible] def Hr:Cx:={K:=[Yc,Y,Y,.no,.no,.no,Y,.no,Y,Yc,Y,Y,Y,Yc,Y,Y,Y,Y,Y,Y,Y],T:=[(3,ty3),(38,dq)],S:=[(129,dC)],H:=[(0,([1,2,9,10,11],[]))],res:=[.tmp 6],ios:=[],G:=gl0}
def nC:List D→Option Out:=aX Hr Tryz.f149
@[reducible] def xL:FS:={pm:=[Yc,Y,Y],rm:=[Y],f:=nC}
theorem Ig:au gl0 Tryz.prog 149 xL:=ay (c:=Hr) (ab ef al) Tryz.func149 rfl rfl (by kernel_rfl)
@[reducible] def EA:Cx:={K:=[Y,.box 3 0 false,Y,Y,Yb,Y],T:=[(3,ty3),(29,gQ)],S:=[(145,th),(149,xL)],H:=[],res:=[.tmp 2],ios:=[],G:=gl0}
def gO:List D→Option Out:=aX EA Tryz.f142
@[reducible] def lO:FS:={pm:=[Y],rm:=[Y],f:=gO}
theorem pT:au gl0 Tryz.prog 142 lO:=ay (c:=EA) (ab BE (ab Ig al)) Tryz.func142 rfl rfl (by kernel_rfl)
@[reducible] def KV:Cx:={K:=[Y,.box 3 0 false,.box 3 0 false,Y,Y,Y,Y,Y,Y],T:=[(3,ty3),(29,gQ)],S:=[(142,lO)],H:=[],res:=[.cell 2 29,.tmp 3],ios:=[],G:=gl0}
def qp:List D→Option Out:=aX KV Tryz.f140
@[reducible] def AP:FS:={pm:=[Y],rm:=[Y,Y],f:=qp}
theorem KS:au gl0 Tryz.prog 140 AP:=ay (c:=KV) (ab pT al) Tryz.func140 rfl rfl (by kernel_rfl)
@[reducible] def wy:Cx:={K:=[Y,.no,.box 3 0 false,Y,Yb,Y,Yb,Yb,Y,Y,Y,Yb,Yb,Y,Y,Yb,Yb,Y,Y,Yb,Yb,Y,Y,Y,.tup [Y,Y],Y,Y],T:=[(3,ty3),(9,ty9),(29,gQ),(62,Iw)],S:=[(73,iq),(140,AP),(141,Dt)],H:=[],res:=[.cell 2 29,.tmp 3],ios:=[],G:=gl0}
def kY:List D→Option Out:=aX wy Tryz.f95
@[reducible] def vT:FS:={pm:=[Y],rm:=[Y,Y],f:=kY}
theorem Kg:au gl0 Tryz.prog 95 vT:=ay (c:=wy) (ab kw (ab KS (ab QC al))) Tryz.func95 rfl rfl (by kernel_rfl)
@[reducible] def Db:Cx:={K:=[Y,Y,.box 3 0 false,.box 3 0 false,.box 3 0 false,Yr 2,Y,Yr 3,Y,Y,Yr 2,Y,Yr 3,Y,Y,Yr 2,Y,Yr 3,Y,Y,Y],T:=[(3,ty3),(29,gQ)],S:=[],H:=[],res:=[.cell 4 29],ios:=[],G:=gl0}
def pJ:List D→Option Out:=aX Db Tryz.f143
@[reducible] def Ec:FS:={pm:=[Y,Y],rm:=[Y],f:=pJ}
theorem Qu:au gl0 Tryz.prog 143 Ec:=ay (c:=Db) al Tryz.func143 rfl rfl (by kernel_rfl)
@[reducible] def wT:Cx:={K:=[Yc,.no,.box 3 0 false,Y,.box 3 0 false,.no,.box 3 0 false,Yc,Y,Y,Y,Yc,Y,Y,Y,Yc,Y,Y,Y,Y,Y,Y,Y,Y,Y,Y,.tup [Y,Y],Y,Y],T:=[(3,ty3),(29,gQ),(128,aam)],S:=[(140,AP),(142,lO),(143,Ec)],H:=[(0,([2,4,11,12,13],[2,4]))],res:=[.cell 2 29,.tmp 3],ios:=[],G:=gl0}
def kU:List D→Option Out:=aX wT Tryz.f96
@[reducible] def wo:FS:={pm:=[Yc],rm:=[Y,Y],f:=kU}
theorem Kf:au gl0 Tryz.prog 96 wo:=ay (c:=wT) (ab KS (ab pT (ab Qu al))) Tryz.func96 rfl rfl (by kernel_rfl)
@[reducible] def IF (k:List D→Option Out):Cx:={K:=[Y,.no,Y,Y,Y,Y,Y,Y,Yb,Y,Y,Y,Y,Y,Y,Y,Y,Yb,Y,Y],T:=[(3,ty3),(5,ty5),(9,ty9),(43,acu)],S:=[(61,{pm:=[Y],rm:=[Y],f:=k})],H:=[],res:=[.tmp 2],ios:=[],G:=gl0}
def cX:Nat→List D→Option Out
 | 0,_=>none
 | n+1,ds=>aX (IF (cX n)) Tryz.f61 ds
def bK:List D→Option Out:=abd cX
@[reducible] def eZ:FS:={pm:=[Y],rm:=[Y],f:=bK}
theorem Dh:∀n:Nat,au gl0 Tryz.prog 61 {pm:=[Y],rm:=[Y],f:=cX n}
 | 0=>Yy (fun _=>rfl)
 | n+1=>by
  have ih:=Dh n;exact XB (P:=Tryz.prog) (c:=IF (cX n)) (fn:=Tryz.f61) (pm:=eZ.pm) (rm:=eZ.rm) (by kernel_rfl) (ab ih al) dI Tryz.func61 (by kernel_rfl) (by kernel_rfl) rfl
theorem jh:au gl0 Tryz.prog 61 eZ:=abc Dh
@[reducible] def Dc:Cx:={K:=[Y,.box 3 0 false,Y,Yr 1,Y,Y,Y,Yr 1,Y,Y,Y,Y,Yr 1,Y,Y,Y],T:=[(3,ty3),(9,ty9),(29,gQ)],S:=[(61,eZ)],H:=[],res:=[.tmp 2],ios:=[],G:=gl0}
def fK:List D→Option Out:=aX Dc Tryz.f63
@[reducible] def py:FS:={pm:=[Y],rm:=[Y],f:=fK}
theorem vk:au gl0 Tryz.prog 63 py:=ay (c:=Dc) (ab jh al) Tryz.func63 rfl rfl (by kernel_rfl)
@[reducible] def rf:Cx:={K:=[.box 10 2 true,Y,Y,.no,.no,.no,Y,Yc,Y,.box 3 0 false,Y,Y,Y,.tup [Yc,Y],Y,.tup [Yc,Y],Yc,Y,Y,Yr 0,Yc,Yr 0,Yr 0,Y,Y,.tup [Y,Y],Y,.tup [Y,Y],Y,Y,Y,Y,Y,Y,Y,.tup [Y,Y],Yr 0,Yr 0,Yr 0,Y,Y,Yb,.tup [Y,Y],Y,Y,Y,Y,Yr 0,Y,Yr 0,Yr 0,Y,Y,Y,Y],T:=[(3,ty3),(9,ty9),(29,gQ),(33,gS),(38,dq),(57,oq),(59,Zu),(75,om),(128,aam)],S:=[(63,py),(93,jP),(94,pw),(95,vT),(96,wo)],H:=[],res:=[.tmp 6],ios:=[0],G:=gl0}
def ic:List D→Option Out:=aX rf Tryz.f75
@[reducible] def rk:FS:={pm:=[.box 10 2 true,Y,Y],rm:=[Y],f:=ic}
theorem CO:au gl0 Tryz.prog 75 rk:=ay (c:=rf) (ab vk (ab Ie (ab uP (ab Kg (ab Kf al))))) Tryz.func75 rfl rfl (by kernel_rfl)
@[reducible] def yB:Cx:={K:=[Y,.no,Y,Y,Y,Y,Y,Y,Y,Y,Y,Y,Y,Y,Y,Y,Y,Y,Y,Y,Y,Y,Y,Y,Y,Y],T:=[(3,ty3),(5,ty5),(9,ty9)],S:=[(138,pU)],H:=[],res:=[.tmp 2,.tmp 3],ios:=[],G:=gl0}
def mq:List D→Option Out:=aX yB Tryz.f97
@[reducible] def xS:FS:={pm:=[Y],rm:=[Y,Y],f:=mq}
theorem Mr:au gl0 Tryz.prog 97 xS:=ay (c:=yB) (ab uZ al) Tryz.func97 rfl rfl (by kernel_rfl)
@[reducible] def Dl:Cx:={K:=[Yc,Y,.no,.no,Yb,Y,Yo 1 0,.no,Y,Y,Y,Yc,Y,Y,Y,Yc,Y,.tup [Y,Y],Y,.tup [Y,Y],Y,Y,Y,Y,Yo 1 0,Y,Yb,Yo 1 0,Y,.via 6,.via 6,Y,Y,Y],T:=[(3,ty3),(9,ty9),(38,dq),(62,Iw)],S:=[(97,xS)],H:=[(0,([1,6,11,12,13],[1,6]))],res:=[.tmp 4,.tmp 5],ios:=[],G:=gl0}
def pC:List D→Option Out:=aX Dl Tryz.f76
@[reducible] def EU:FS:={pm:=[Yc,Y],rm:=[Yb,Y],f:=pC}
theorem RO:au gl0 Tryz.prog 76 EU:=ay (c:=Dl) (ab Mr al) Tryz.func76 rfl rfl (by kernel_rfl)
@[reducible] def Ah:Cx:={K:=[Y,.box 3 0 false,Y,Yr 1,Y,Yr 1,Y,Y,Yr 1,Y,Y],T:=[(3,ty3),(29,gQ)],S:=[],H:=[],res:=[.tmp 2],ios:=[],G:=gl0}
def fY:List D→Option Out:=aX Ah Tryz.f144
@[reducible] def tj:FS:={pm:=[Y],rm:=[Y],f:=fY}
theorem Az:au gl0 Tryz.prog 144 tj:=ay (c:=Ah) al Tryz.func144 rfl rfl (by kernel_rfl)
@[reducible] def yq:Cx:={K:=[Y,Y,.box 3 0 false,.no,.box 3 0 false,.box 3 0 false,Y,.box 3 0 false,Y,Y,Y,Y,Y,Y,Y,Y,Y,Y,Y,Y,Y,Y,Y,Y,Y,Yr 2,Y,Y,Y,Y,Y,Yr 7,Yr 2,Y,Y,Y,Y,Y,Yr 7,Y,Yr 7,Y,Y,Yr 7,Y,Y,Yr 7,Yr 7,Y,Yr 2,Y,Y,Y,Y,Y,Yr 2,Y,Yr 7,Y,Y,Yr 2,Y,Yr 7,Y,Y,Yr 2,Y,Yr 7,Y,Y,Y],T:=[(3,ty3),(29,gQ)],S:=[(129,dC),(142,lO),(144,tj)],H:=[],res:=[.cell 4 29,.cell 5 29,.tmp 6],ios:=[],G:=gl0}
def mo:List D→Option Out:=aX yq Tryz.f98
@[reducible] def yA:FS:={pm:=[Y,Y],rm:=[Y,Y,Y],f:=mo}
theorem LX:au gl0 Tryz.prog 98 yA:=ay (c:=yq) (ab ef (ab pT (ab Az al))) Tryz.func98 rfl rfl (by kernel_rfl)
@[reducible] def xQ:Cx:={K:=[Y,.box 3 0 false,Yo 1 0,Y,Yo 1 0,.no,Y,Y,Y,Y,Y,Y,Y,Y,Y,Y,Yb,Y,Y,Y,Yb,Y,Yo 1 0,Y,Y,Y,Y,Y,Yb,Yo 1 0,Y,Yo 1 0],T:=[(3,ty3),(29,gQ),(38,dq)],S:=[(142,lO),(144,tj),(145,th)],H:=[(0,([1,4,16,17,18],[4]))],res:=[.tmp 2,.tmp 3],ios:=[],G:=gl0}
def mn:List D→Option Out:=aX xQ Tryz.f99
@[reducible] def ye:FS:={pm:=[Y],rm:=[Yo 1 0,Y],f:=mn}
theorem Mw:au gl0 Tryz.prog 99 ye:=ay (c:=xQ) (ab pT (ab Az (ab BE al))) Tryz.func99 rfl rfl (by kernel_rfl)
@[reducible] def HD:Cx:={K:=[Y,.no,Y,Y,Y,Y,Y,Y,Y,Y,Y],T:=[(3,ty3),(9,ty9)],S:=[(61,eZ)],H:=[],res:=[.tmp 2],ios:=[],G:=gl0}
def fE:List D→Option Out:=aX HD Tryz.f105
@[reducible] def rE:FS:={pm:=[Y],rm:=[Y],f:=fE}
theorem xo:au gl0 Tryz.prog 105 rE:=ay (c:=HD) (ab jh al) Tryz.func105 rfl rfl (by kernel_rfl)
@[reducible] def Dx:Cx:={K:=[Yc,.no,Y,Y,Y,Y,Yc,Y,Y,Y,Y,Yc,Y,Y,Y,Y,Y,Y,Y,Y,Y,Y,Y],T:=[(3,ty3),(9,ty9),(38,dq)],S:=[(105,rE)],H:=[(0,([3,6,7,8],[3]))],res:=[.tmp 2],ios:=[],G:=gl0}
def jz:List D→Option Out:=aX Dx Tryz.f100
@[reducible] def vc:FS:={pm:=[Yc],rm:=[Y],f:=jz}
theorem Ef:au gl0 Tryz.prog 100 vc:=ay (c:=Dx) (ab xo al) Tryz.func100 rfl rfl (by kernel_rfl)
@[reducible] def yJ:Cx:={K:=[Y,.no,Y,Y,Y],T:=[],S:=[(129,dC)],H:=[],res:=[.tmp 2],ios:=[],G:=gl0}
def jn:List D→Option Out:=aX yJ Tryz.f146
@[reducible] def qD:FS:={pm:=[Y],rm:=[Y],f:=jn}
theorem ym:au gl0 Tryz.prog 146 qD:=ay (c:=yJ) (ab ef al) Tryz.func146 rfl rfl (by kernel_rfl)
@[reducible] def Bg:Cx:={K:=[Y,Y,.no,.no,Y,Y,Y,Y,Y,Y],T:=[(3,ty3)],S:=[],H:=[],res:=[.tmp 4],ios:=[],G:=gl0}
def kG:List D→Option Out:=aX Bg Tryz.f187
@[reducible] def sI:FS:={pm:=[Y,Y],rm:=[Y],f:=kG}
theorem AV:au gl0 Tryz.prog 187 sI:=ay (c:=Bg) al Tryz.func187 rfl rfl (by kernel_rfl)
@[reducible] def xU:Cx:={K:=[Yc,Y,.no,.no,Yo 1 1,Yo 1 0,Y,Yo 1 1,Y,.box 2 0 false,Yo 1 0,Y,Y,Y,Y,Y,Y,Y,Y,Yo 1 0,Yb,Yo 1 0,.via 5,Yr 5,.via 5,Yo 1 1,Yc,Y,Y,Y,Y,Yc,Y,Y,Y,Y,Y,Y,Y,Yr 9,Y,Y,Y,Y,Yr 9,Y,Y,Y,Y,Y,Y,Y,Y,.via 7,Y,Yr 7,Yb,Y,Y,Yr 9,Y,Y,Y,Yb,Y,Y,Y,Y,Yo 1 0,Y,Yb,Yo 1 0,Yo 1 1,.via 10,Yb,Yo 1 1,Y,Yo 1 1],T:=[(3,ty3),(33,gS),(38,dq),(75,om),(164,Ov)],S:=[(187,sI)],H:=[(0,([0,1,5,6],[0,1,5])),(2,([1,7,26,27,28],[7])),(4,([1,7,8,9,10,11,26,27,28],[1,7,10,26,27,28])),(6,([1,7,8,9,10,11,12,13,26,27,28],[1,7,8,9,10,11,12,26,27,28]))],res:=[.tmp 4],ios:=[],G:=gl0}
abbrev yD:List (Nat × List Nat):=[(7,[5]),(21,[10])]
def gA:List D→Option Out:=vM xU yD Tryz.f148
@[reducible] def jr:FS:={pm:=[Yc,Y],rm:=[Yo 1 1],f:=gA}
theorem xW:au gl0 Tryz.prog 148 jr:=rW (Z:=yD) (P:=Tryz.prog) (c:=xU) (fn:=Tryz.f148) (pm:=jr.pm) (rm:=jr.rm) (by kernel_rfl) (ab AV al) dI Tryz.func148 (by kernel_rfl) (by kernel_rfl) rfl
@[reducible] def De:Cx:={K:=[Yc,Y,.no,.no,Yo 1 0,Y,Yb,Yo 1 0,Y,Y,Yc,Y,Yb,Yb,Yc,Y,Yb,Yb,Y,Yb,Y,Y,Yc,Y,Yo 1 0,Yc,Y,Y,Y,Y,Y,Y,Yc,Y,Yc,Yc,Y,Y,Yc,Y,Yc,Yc,Y,Y,Y,Yb,Y,Yb,Yb,Y,Y,Yc,Y,Yc,Yc,Y,Y,Y,Yb,Y,Y,Y,Yb,Y,Y,Yb,Yb,Y,Yb,Y,Y,Y,Y,.via 7,Y,Y,Yr 7,Y,Y,Yc,Y,Yc,Yc,Y,Y,Y,Yo 1 0],T:=[(3,ty3),(33,gS),(38,dq),(75,om),(164,Ov)],S:=[(148,jr),(187,sI)],H:=[(0,([0,1,6,7,8],[7])),(2,([0,1,6,7,8,9],[0,1,6,7,8,9]))],res:=[.tmp 4,.tmp 5],ios:=[],G:=gl0}
def pP:List D→Option Out:=aX De Tryz.f147
@[reducible] def Ez:FS:={pm:=[Yc,Y],rm:=[Yo 1 0,Y],f:=pP}
theorem QV:au gl0 Tryz.prog 147 Ez:=ay (c:=De) (ab xW (ab AV al)) Tryz.func147 rfl rfl (by kernel_rfl)
@[reducible] def EL:Cx:={K:=[Yc,Y,.no,.no,Yb,Y,Yc,Y,Y,Y,Y,Y,Y,Y,Yc,Y,.tup [Yo 1 0,Y],Yb,Y],T:=[(38,dq)],S:=[(66,jw),(146,qD),(147,Ez)],H:=[],res:=[.tmp 4,.tmp 5],ios:=[],G:=gl0}
def pj:List D→Option Out:=aX EL Tryz.f101
@[reducible] def DT:FS:={pm:=[Yc,Y],rm:=[Yb,Y],f:=pj}
theorem QU:au gl0 Tryz.prog 101 DT:=ay (c:=EL) (ab lR (ab ym (ab QV al))) Tryz.func101 rfl rfl (by kernel_rfl)
@[reducible] def Dm:Cx:={K:=[Yc,Yc,.no,.no,Yo 2 0,Yo 2 0,Y,Y,Yo 2 0,Yc,Yo 2 0,Yc,Y,Y,Y,Y,Yc,Y,.via 5,Y,Yr 5,Yr 5,Y,Y,Y,Yr 5,Yr 5,Y,Yo 2 0],T:=[(3,ty3),(33,gS),(38,dq),(75,om)],S:=[],H:=[(0,([5,11,12,13],[5]))],res:=[.tmp 4],ios:=[],G:=gl0}
def pR:List D→Option Out:=aX Dm Tryz.f102
@[reducible] def DB:FS:={pm:=[Yc,Yc],rm:=[Yo 2 0],f:=pR}
theorem Rv:au gl0 Tryz.prog 102 DB:=ay (c:=Dm) al Tryz.func102 rfl rfl (by kernel_rfl)
@[reducible] def Ho:Cx:={K:=[Yc,Y,Y,.no,.no,.no,Yo 2 0,Y,Yo 2 0,Y,Yc,Y,Y,Y,Yc,Y,Yc,Yc,Y,Y,Y,Y,Y,Y,Yo 2 0,Yc,Yo 2 0,Y,Yc,Y,Y,Y,Yc,Y,Yc,Yc,Y,Y,Y,Y,.via 8,Y,Yr 8,Yr 8,Y,Y,Y,Yr 8,Yr 8,Yo 2 0,Yo 2 0,Yc,Y,Yc,Yo 2 0,Y,Y,Y,Yb,Yo 2 0,Yc,Y,Yc,Yo 2 0],T:=[(3,ty3),(33,gS),(75,om)],S:=[],H:=[(0,([0,1,2,7],[0,1,2,7]))],res:=[.tmp 6],ios:=[],G:=gl0}
def lc:List D→Option Out:=aX Ho Tryz.f83
@[reducible] def xK:FS:={pm:=[Yc,Y,Y],rm:=[Yo 2 0],f:=lc}
theorem GJ:au gl0 Tryz.prog 83 xK:=ay (c:=Ho) al Tryz.func83 rfl rfl (by kernel_rfl)
@[reducible] def zH:Cx:={K:=[Yc,Y,Y,.no,.no,.no,Yc,Y,.via 41,Yc,Y,Y,Y,Y,Yc,Y,Y,Y,Y,Y,Y,Yc,Y,Yc,Yc,Y,Y,Y,Y,Y,Yc,Y,Yc,Yc,Y,Y,Y,Y,Y,Yo 2 0,Yc,Yo 2 0,.via 41,Y,Yr 41,Yr 41,Y,Y,Yr 41,Yr 41,.via 41,Y,Yb,Yc,Y,Yc,Yc,Y,Y,Y,Yb,.tup [Yc,Y],Yc,Y],T:=[(3,ty3),(33,gS),(75,om)],S:=[(66,jw),(83,xK),(129,dC),(139,Bk)],H:=[],res:=[.tmp 6,.tmp 7],ios:=[],G:=gl0}
def nM:List D→Option Out:=aX zH Tryz.f103
@[reducible] def Bt:FS:={pm:=[Yc,Y,Y],rm:=[Yc,Y],f:=nM}
theorem PA:au gl0 Tryz.prog 103 Bt:=ay (c:=zH) (ab lR (ab GJ (ab ef (ab Lj al)))) Tryz.func103 rfl rfl (by kernel_rfl)
@[reducible] def DI:Cx:={K:=[Yc,.no,Y,Y,.no,.box 2 0 false,Yc,Y,Y,Y,Yc,Y,Y,Yr 5,Y,Y,Y,Yr 5,Y,Y,Y,Y,Y,Y,Y],T:=[(3,ty3),(9,ty9),(33,gS),(75,om)],S:=[(61,eZ)],H:=[(0,([3,6,7,8],[3]))],res:=[.tmp 2],ios:=[],G:=gl0}
def jy:List D→Option Out:=aX DI Tryz.f67
@[reducible] def vo:FS:={pm:=[Yc],rm:=[Y],f:=jy}
theorem Eo:au gl0 Tryz.prog 67 vo:=ay (c:=DI) (ab jh al) Tryz.func67 rfl rfl (by kernel_rfl)
@[reducible] def tK:Cx:={K:=[Yc,Y,.no,.no,Y,Y,Yb,Y,Yc,Y,Y,Y,Y,Y,Y,Y,Yc,Yb,Yc,Y,Yb,Yb,Y,Y,Y,Y,Y,Yb,Y,Yb,Y,Y,Y,Y,Y],T:=[(3,ty3),(33,gS),(38,dq),(75,om),(164,Ov)],S:=[(66,jw),(146,qD),(148,jr)],H:=[(0,([1,6,7],[]))],res:=[.tmp 4,.tmp 5],ios:=[],G:=gl0}
def jW:List D→Option Out:=aX tK Tryz.f104
@[reducible] def tJ:FS:={pm:=[Yc,Y],rm:=[Y,Y],f:=jW}
theorem GN:au gl0 Tryz.prog 104 tJ:=ay (c:=tK) (ab lR (ab ym (ab xW al))) Tryz.func104 rfl rfl (by kernel_rfl)
@[reducible] def qx:Cx:={K:=[.box 10 2 true,Y,Yc,.no,.no,.no,Y,.box 3 0 false,.box 3 0 false,Y,Yb,Y,Yb,Y,Yc,Y,Y,Y,Y,Y,Y,.tup [Y,Y,Y],Yr 0,Yr 0,Yr 0,Y,Yc,Yc,Y,.tup [Y,Y,Y],Y,Y,Y,Y,Yr 0,Y,Yr 0,Yr 0,Y,Y,Y,Y,Y,Y,.tup [Yo 1 0,Y],Yr 0,Yr 0,Yr 0,Y,.tup [Yo 1 0,Y],Yb,Y,Yb,Y,Y,Y,Y,Y,.tup [Yb,Y],Yr 0,Yr 0,Yr 0,Yc,Yc,Yc,Y,.tup [Yb,Y],Yb,Y,Y,Y,Yr 0,Yr 0,Yr 0,Yr 0,Yc,Yb,Yb,Yr 0,Yr 0,Yb,Y,Y,Y,.tup [Yc,Y],Yr 0,Yr 0,Yr 0,Yc,Yc,Yc,Y,Yc,Yc,Y,.tup [Yc,Y],Yc,Y,Y,Yr 0,Yc,Yr 0,Yr 0,Yc,Y,Y,Y,.tup [Y,Y],Yr 0,Yr 0,Yr 0,Yc,Yc,Yc,Y,.tup [Y,Y],Y,Y,Y,Y,Y,Y],T:=[(3,ty3),(9,ty9),(29,gQ),(33,gS),(38,dq),(57,oq),(59,Zu),(75,om)],S:=[(63,py),(67,vo),(94,pw),(98,yA),(99,ye),(100,vc),(101,DT),(102,DB),(103,Bt),(104,tJ),(105,rE)],H:=[],res:=[.tmp 6],ios:=[0],G:=gl0}
def cH:List D→Option Out:=aX qx Tryz.f77
@[reducible] def qo:FS:={pm:=[.box 10 2 true,Y,Yc],rm:=[Y],f:=cH}
theorem AZ:au gl0 Tryz.prog 77 qo:=ay (c:=qx) (ab vk (ab Eo (ab uP (ab LX (ab Mw (ab Ef (ab QU (ab Rv (ab PA (ab GN (ab xo al))))))))))) Tryz.func77 rfl rfl (by kernel_rfl)
@[reducible] def Ir:Cx:={K:=[Yc,.no,Yo 1 0,Yo 1 0,Yc,Yo 1 0],T:=[(3,ty3),(38,dq)],S:=[],H:=[],res:=[.tmp 2],ios:=[],G:=gl0}
def gB:List D→Option Out:=aX Ir Tryz.f46
@[reducible] def nW:FS:={pm:=[Yc],rm:=[Yo 1 0],f:=gB}
theorem rD:au gl0 Tryz.prog 46 nW:=ay (c:=Ir) al Tryz.func46 rfl rfl (by kernel_rfl)
@[reducible] def Eb:Cx:={K:=[Yc,.no,Y,Yc,Y,Y,Y,Yc,Y,Y],T:=[(3,ty3),(38,dq)],S:=[(129,dC),(149,xL)],H:=[],res:=[.tmp 2],ios:=[],G:=gl0}
def jB:List D→Option Out:=aX Eb Tryz.f106
@[reducible] def pu:FS:={pm:=[Yc],rm:=[Y],f:=jB}
theorem uU:au gl0 Tryz.prog 106 pu:=ay (c:=Eb) (ab ef (ab Ig al)) Tryz.func106 rfl rfl (by kernel_rfl)
@[reducible] def xY:Cx:={K:=[Yc,.no,Yb,Yb,.no,Y,Y,Yc,Y,Y,Y,Yc,Y,Y,Yb,Y,Y,Y,Yb,Y,Yb,Y,Y,Y,Y,Y,Y,Yb,Y,Yb,Yo 1 0,Y,Yb,Yo 1 0,Yb,Y,Yb,Yb,Y,Yb],T:=[(3,ty3),(38,dq)],S:=[(46,nW)],H:=[(0,([3,7,8,9],[3])),(2,([3,5,6,7,8,9],[3,5,6,7,8,9]))],res:=[.tmp 2],ios:=[],G:=gl0}
def mj:List D→Option Out:=aX xY Tryz.f150
@[reducible] def yi:FS:={pm:=[Yc],rm:=[Yb],f:=mj}
theorem LM:au gl0 Tryz.prog 150 yi:=ay (c:=xY) (ab rD al) Tryz.func150 rfl rfl (by kernel_rfl)
@[reducible] def wi:Cx:={K:=[Yc,.no,Y,Y,Yc,Y,Y,Yc,Yb,Yc,Y,Y,Y,Yb,Y],T:=[(3,ty3),(38,dq)],S:=[(106,pu),(150,yi)],H:=[],res:=[.tmp 2,.tmp 3],ios:=[],G:=gl0}
def kW:List D→Option Out:=aX wi Tryz.f107
@[reducible] def wP:FS:={pm:=[Yc],rm:=[Y,Y],f:=kW}
theorem JL:au gl0 Tryz.prog 107 wP:=ay (c:=wi) (ab uU (ab LM al)) Tryz.func107 rfl rfl (by kernel_rfl)
@[reducible] def DD:Cx:={K:=[Y,.no,Y,Y,Y,Y,Y,Y,Y],T:=[(3,ty3)],S:=[],H:=[],res:=[.tmp 2],ios:=[],G:=gl0}
def ma:List D→Option Out:=aX DD Tryz.f151
@[reducible] def Ed:FS:={pm:=[Y],rm:=[Y],f:=ma}
theorem Rp:au gl0 Tryz.prog 151 Ed:=ay (c:=DD) al Tryz.func151 rfl rfl (by kernel_rfl)
@[reducible] def rA:Cx:={K:=[Yc,.no,Y,Y,Y,Y,Y,Y,Y,Y,Yc,Y,Y,Yc,Y,Y,Y,Y,Y,Y,Y,Yc,Y,Y,Y,Y,Yc,Y,Y,Yc,Y,Yc,Y,Yc,Y,Y,Y,Y,Y,Y,Yc,Y,Yc,Y,Yc,Y,Y,Yc,Y,Y,Y,Y,Y,Y,Y,Y,Y,Y,Y,Y,Y,Y,Y,Y,Y,Y,Y,Y],T:=[(3,ty3),(38,dq)],S:=[(106,pu),(151,Ed)],H:=[(0,([0,5,6,14,15],[5,6])),(2,([0,5,6,7,8,14,15],[0,5,6,14,15]))],res:=[.tmp 2,.tmp 3,.tmp 4],ios:=[],G:=gl0}
def gZ:List D→Option Out:=aX rA Tryz.f108
@[reducible] def qI:FS:={pm:=[Yc],rm:=[Y,Y,Y],f:=gZ}
theorem CD:au gl0 Tryz.prog 108 qI:=ay (c:=rA) (ab uU (ab Rp al)) Tryz.func108 rfl rfl (by kernel_rfl)
@[reducible] def DQ:Cx:={K:=[Y,.box 3 0 false,Y,Yr 1,Y,Y,Y,Yr 1,Y,Y,Y,Y,Yr 1,Y,Y,Y],T:=[(3,ty3),(121,kn)],S:=[(129,dC)],H:=[],res:=[.tmp 2],ios:=[],G:=gl0}
def pF:List D→Option Out:=aX DQ Tryz.f188
@[reducible] def DS:FS:={pm:=[Y],rm:=[Y],f:=pF}
theorem Qs:au gl0 Tryz.prog 188 DS:=ay (c:=DQ) (ab ef al) Tryz.func188 rfl rfl (by kernel_rfl)
@[reducible] def Dj:Cx:={K:=[Yc,.no,Y,Y,.box 3 0 false,Yc,Y,Y,Y,Y,Yc,Y,Y,Y,Y,Y,Y,Y,Y,Yc,Y,Y,Yc,Yc,Y,Yr 4,Y,Y,Y,Y,Y,Yc,Y,Y],T:=[(3,ty3),(48,CJ),(121,kn)],S:=[(188,DS)],H:=[(0,([0,5,6,7],[0]))],res:=[.tmp 2],ios:=[],G:=gl0}
def gN:List D→Option Out:=aX Dj Tryz.f152
@[reducible] def lJ:FS:={pm:=[Yc],rm:=[Y],f:=gN}
theorem pK:au gl0 Tryz.prog 152 lJ:=ay (c:=Dj) (ab Qs al) Tryz.func152 rfl rfl (by kernel_rfl)
@[reducible] def AO:Cx:={K:=[Y,Y,.no,.box 3 0 false,Y,Y,Y,Yr 3,Y,Y,Y,Yr 3,Y,Y,Y,Yr 3,Y,Y,Y],T:=[(3,ty3),(121,kn)],S:=[],H:=[],res:=[.tmp 4],ios:=[],G:=gl0}
def iz:List D→Option Out:=aX AO Tryz.f189
@[reducible] def sk:FS:={pm:=[Y,Y],rm:=[Y],f:=iz}
theorem Bn:au gl0 Tryz.prog 189 sk:=ay (c:=AO) al Tryz.func189 rfl rfl (by kernel_rfl)
@[reducible] def DW:Cx:={K:=[Y,Y,.box 3 0 false,.no,Y,Yr 2,Y,Y,Y,Yr 2,Y,Y,Y,Y,Yr 2,Y,Y,Y,Y,Y,Y,Y,Y],T:=[(3,ty3),(9,ty9),(121,kn)],S:=[(61,eZ)],H:=[],res:=[.tmp 4],ios:=[],G:=gl0}
def lQ:List D→Option Out:=aX DW Tryz.f190
@[reducible] def vh:FS:={pm:=[Y,Y],rm:=[Y],f:=lQ}
theorem EN:au gl0 Tryz.prog 190 vh:=ay (c:=DW) (ab jh al) Tryz.func190 rfl rfl (by kernel_rfl)
@[reducible] def En:Cx:={K:=[Y,.no,Yo 3 0,Y,Yo 3 0,Y,Y,Yb,.no,Y,Yb,.box 3 0 false,Yo 3 0,Y,Yb,Yb,Yb,Y,Y,Yb,Y,Y,Y,Yb,Y,Y,Yb,Yb,Y,Y,Yb,Yb,Y,Y,Yb,Yb,Y,Y,Yb,Yb,Y,Y,Y,Yo 3 0,.via 4,Yo 3 0,Y,Yb,Yo 3 0,.via 12,Y,Y,Y,Y,Y,Y,Y,Y,Y,Y,Y,Y,Y,Y,Y,Y,Y,Y,Y,Y,Yo 3 0,Y,Yo 3 0,Y],T:=[(3,ty3),(9,ty9),(48,CJ),(62,Iw),(121,kn)],S:=[(73,iq),(138,pU),(152,lJ),(189,sk),(190,vh)],H:=[(0,([4,5,6,19,20,21],[4,5]))],res:=[.tmp 2,.tmp 3],ios:=[],G:=gl0}
def pB:List D→Option Out:=aX En Tryz.f155
@[reducible] def DO:FS:={pm:=[Y],rm:=[Yo 3 0,Y],f:=pB}
theorem Rl:au gl0 Tryz.prog 155 DO:=ay (c:=En) (ab kw (ab uZ (ab pK (ab Bn (ab EN al))))) Tryz.func155 rfl rfl (by kernel_rfl)
@[reducible] def sb:Cx:={K:=[Y,.no,Yo 3 0,Y,Yo 3 0,Y,.tup [Yo 3 0,Y],Y,.tup [Yo 3 0,Y],Yo 3 0,Y,Y,Y,Y,Y,Y,Y,Y,Y,Y,Yo 3 0],T:=[(3,ty3),(9,ty9),(48,CJ)],S:=[(155,DO)],H:=[],res:=[.tmp 2,.tmp 3],ios:=[],G:=gl0}
def dR:List D→Option Out:=aX sb Tryz.f110
@[reducible] def mI:FS:={pm:=[Y],rm:=[Yo 3 0,Y],f:=dR}
theorem sD:au gl0 Tryz.prog 110 mI:=ay (c:=sb) (ab Rl al) Tryz.func110 rfl rfl (by kernel_rfl)
@[reducible] def Ey:Cx:={K:=[Yc,.no,Y,Y,Y,.no,.box 3 0 false,Yc,Y,Y,Y,Yc,Y,Y,Y,Y,Y,Y,Y,Y,Y,Y,Y],T:=[(3,ty3),(9,ty9),(48,CJ),(121,kn)],S:=[(189,sk),(190,vh)],H:=[(0,([3,4,7,8,9],[3]))],res:=[.tmp 2],ios:=[],G:=gl0}
def pz:List D→Option Out:=aX Ey Tryz.f154
@[reducible] def EJ:FS:={pm:=[Yc],rm:=[Y],f:=pz}
theorem QO:au gl0 Tryz.prog 154 EJ:=ay (c:=Ey) (ab Bn (ab EN al)) Tryz.func154 rfl rfl (by kernel_rfl)
@[reducible] def Ls:Cx:={K:=[Y,.no,Y,Y,Y,Y,Y,Y],T:=[(3,ty3),(9,ty9)],S:=[],H:=[],res:=[.tmp 2,.tmp 3],ios:=[],G:=gl0}
def tP:List D→Option Out:=aX Ls Tryz.f153
@[reducible] def KX:FS:={pm:=[Y],rm:=[Y,Y],f:=tP}
theorem Xi:au gl0 Tryz.prog 153 KX:=ay (c:=Ls) al Tryz.func153 rfl rfl (by kernel_rfl)
@[reducible] def uy:Cx:={K:=[Y,Y,.no,.box 3 0 false,Y,Y,Yb,Y,Yb,.tup [Yo 3 0,Y],Y,.tup [Yo 3 0,Y],Yb,Y,Yo 3 0,Yb,Yo 3 0,Y,Yb,Yb,Y,Y,Y,Yb,Y,Y,Y,Yb,Y,.tup [Y,Y],Y,Y],T:=[(3,ty3),(48,CJ),(121,kn)],S:=[(110,mI),(152,lJ),(153,KX),(154,EJ)],H:=[],res:=[.tmp 4,.tmp 5],ios:=[],G:=gl0}
def jN:List D→Option Out:=aX uy Tryz.f109
@[reducible] def ua:FS:={pm:=[Y,Y],rm:=[Y,Y],f:=jN}
theorem HJ:au gl0 Tryz.prog 109 ua:=ay (c:=uy) (ab sD (ab pK (ab Xi (ab QO al)))) Tryz.func109 rfl rfl (by kernel_rfl)
@[reducible] def Gs:Cx:={K:=[Y,.no,Y,Y,Y],T:=[],S:=[(129,dC)],H:=[],res:=[.tmp 2],ios:=[],G:=gl0}
def rF:List D→Option Out:=aX Gs Tryz.f156
@[reducible] def IL:FS:={pm:=[Y],rm:=[Y],f:=rF}
theorem TD:au gl0 Tryz.prog 156 IL:=ay (c:=Gs) (ab ef al) Tryz.func156 rfl rfl (by kernel_rfl)
@[reducible] def AA:Cx:={K:=[Y,Y,.no,.box 3 0 false,Y,Yr 3,Y,Y,Y,Yr 3,Y,Y,Y,Y,Yr 3,Y,Y,Y,Yr 3,Y,Y],T:=[(3,ty3),(121,kn)],S:=[],H:=[],res:=[.tmp 4],ios:=[],G:=gl0}
def kp:List D→Option Out:=aX AA Tryz.f157
@[reducible] def sf:FS:={pm:=[Y,Y],rm:=[Y],f:=kp}
theorem AC:au gl0 Tryz.prog 157 sf:=ay (c:=AA) al Tryz.func157 rfl rfl (by kernel_rfl)
@[reducible] def tN:Cx:={K:=[Yc,Y,Y,.no,.no,.no,Y,Y,.no,.box 3 0 false,Yc,Y,Y,Y,Y,Y,Y,Y,Y,Y,Y,Y,Y,Yc,Y,Y,Y,Yc,Y,Yr 9,Y,Y,Y,Y,Y,Y,Y,Y],T:=[(3,ty3),(48,CJ),(121,kn)],S:=[(129,dC),(152,lJ),(156,IL),(157,sf)],H:=[(0,([1,2,23,24,25],[1]))],res:=[.tmp 6,.tmp 7],ios:=[],G:=gl0}
def ka:List D→Option Out:=aX tN Tryz.f111
@[reducible] def tG:FS:={pm:=[Yc,Y,Y],rm:=[Y,Y],f:=ka}
theorem Hb:au gl0 Tryz.prog 111 tG:=ay (c:=tN) (ab ef (ab pK (ab TD (ab AC al)))) Tryz.func111 rfl rfl (by kernel_rfl)
@[reducible] def tH:Cx:={K:=[Yc,Y,.no,.no,Y,Y,Y,Y,Y,Y,.box 3 0 false,Yc,Y,Y,Y,Y,Y,Y,Y,Y,Yc,Y,Y,Y,Yc,Y,Y,Y,Y,Yc,Y,Y,Y,Y,Y,Y,Y,Y,Y,Y,Y,Y,Y,Y,Y,Y],T:=[(3,ty3),(48,CJ),(121,kn)],S:=[(129,dC),(152,lJ),(157,sf)],H:=[(0,([1,7,8,24,25,26],[7,8]))],res:=[.tmp 4,.tmp 5,.tmp 6],ios:=[],G:=gl0}
def jQ:List D→Option Out:=aX tH Tryz.f112
@[reducible] def uL:FS:={pm:=[Yc,Y],rm:=[Y,Y,Y],f:=jQ}
theorem GO:au gl0 Tryz.prog 112 uL:=ay (c:=tH) (ab ef (ab pK (ab AC al))) Tryz.func112 rfl rfl (by kernel_rfl)
@[reducible] def EI:Cx:={K:=[Yc,.no,Y,.no,.box 2 0 false,Yc,Y,Y,Y,Yc,Y,Yr 4,Y,Y,Y,Y,Yc,Y,Y],T:=[(3,ty3),(4,ty4),(57,oq),(147,ET)],S:=[(129,dC)],H:=[(0,([0,5,6,7],[0]))],res:=[.tmp 2],ios:=[],G:=gl0}
def lM:List D→Option Out:=aX EI Tryz.f113
@[reducible] def vb:FS:={pm:=[Yc],rm:=[Y],f:=lM}
theorem EG:au gl0 Tryz.prog 113 vb:=ay (c:=EI) (ab ef al) Tryz.func113 rfl rfl (by kernel_rfl)
@[reducible] def DL:Cx:={K:=[Yc,.no,Y,Y,Y,Y,.no,.box 2 0 false,Yc,Y,Y,Y,Yc,Y,Yr 7,Y,Y,Y,Y,Y,Y,Y,Y,Y],T:=[(3,ty3),(4,ty4),(57,oq),(147,ET)],S:=[],H:=[(0,([4,5,8,9,10],[4,5]))],res:=[.tmp 2,.tmp 3],ios:=[],G:=gl0}
def lH:List D→Option Out:=aX DL Tryz.f158
@[reducible] def vp:FS:={pm:=[Yc],rm:=[Y,Y],f:=lH}
theorem DZ:au gl0 Tryz.prog 158 vp:=ay (c:=DL) al Tryz.func158 rfl rfl (by kernel_rfl)
@[reducible] def EW:Cx:={K:=[Yc,.no,Yo 1 0,Yo 1 0,Y,Yc,Y,Y,Y,Y,Y,Y,Yo 1 0,Yc,Y,Yc,Y,Y,Yb,Yo 1 0,Yo 1 0],T:=[(3,ty3),(38,dq)],S:=[],H:=[(0,([0,3,4],[3]))],res:=[.tmp 2],ios:=[],G:=gl0}
def lG:List D→Option Out:=aX EW Tryz.f222
@[reducible] def DP:FS:={pm:=[Yc],rm:=[Yo 1 0],f:=lG}
theorem Qq:au gl0 Tryz.prog 222 DP:=ay (c:=EW) al Tryz.func222 rfl rfl (by kernel_rfl)
@[reducible] def Ha:Cx:={K:=[Yc,Yc,Y,.no,.no,.no,Yo 1 0,Y,Yc,Yo 1 0,Yc,Yo 1 0,Yc,Yo 1 0,Yc,Yo 1 0],T:=[(3,ty3),(38,dq)],S:=[(46,nW)],H:=[],res:=[.tmp 6],ios:=[],G:=gl0}
def nk:List D→Option Out:=aX Ha Tryz.f221
@[reducible] def ID:FS:={pm:=[Yc,Yc,Y],rm:=[Yo 1 0],f:=nk}
theorem UR:au gl0 Tryz.prog 221 ID:=ay (c:=Ha) (ab rD al) Tryz.func221 rfl rfl (by kernel_rfl)
@[reducible] def Dg:Cx:={K:=[Yc,.no,Yb,Y,Y,Yo 1 1,Y,.no,.box 2 0 false,Yo 1 1,Y,Y,Y,Y,.tup [Y,Y],Yc,.tup [Y,Y],Y,Y,Y,Y,Y,Y,Y,Y,Y,Yo 1 1,Y,Y,Yb,Yb,Yo 1 1,Yc,Y,Y,Y,Yc,Y,Yr 8,Y,Y,Y,Y,Y,Y,Y,Y,Y,Y,Y,Y,Y,Yo 1 1,.via 5,Y,Y,Y,Y,Y,Yr 5,Yb,.via 5,Y,Y,Y,Y,Y,Y,Y,Y,Yr 5,Yb,Yb,Yr 8,Y,Yb,Yb,Yo 1 1,Y,Y,Y,Y,Y,Y,Y,Y,Y,Y,Y,Y,Y,Yo 1 1,.via 5,Y,Y,Y,Y,Y,Yr 5,Yb,.via 5,Y,Y,Y,Y,Y,Y,Y,Y,Yr 5,Yb,Yb,Yr 8,Y,Yb,Yb,Yo 1 1,Y,Y,Yo 1 1,Y,.via 5,Yr 5,Yb],T:=[(3,ty3),(4,ty4),(38,dq),(57,oq),(147,ET),(164,Ov)],S:=[(158,vp),(221,ID),(222,DP)],H:=[(0,([0,3,4,5,6],[0,3,4,5])),(2,([3,4,5,32,33,34],[5])),(4,([3,4,5,8,9,10,32,33,34],[3,4,5,9,32,33,34])),(6,([3,4,5,8,9,10,11,32,33,34],[3,4,5,8,9,10,32,33,34])),(8,([3,4,5,8,9,12,32,33,34],[3,4,5,9,32,33,34])),(10,([3,4,5,8,9,12,13,32,33,34],[3,4,5,8,9,12,32,33,34]))],res:=[.tmp 2],ios:=[],G:=gl0}
def lF:List D→Option Out:=aX Dg Tryz.f191
@[reducible] def DY:FS:={pm:=[Yc],rm:=[Yb],f:=lF}
theorem Qv:au gl0 Tryz.prog 191 DY:=ay (c:=Dg) (ab DZ (ab UR (ab Qq al))) Tryz.func191 rfl rfl (by kernel_rfl)
@[reducible] def CZ:Cx:={K:=[Y,Y,.no,.no,Y,Y,Y,Y,Y,Y],T:=[(3,ty3)],S:=[],H:=[],res:=[.tmp 4],ios:=[],G:=gl0}
def pQ:List D→Option Out:=aX CZ Tryz.f223
@[reducible] def Dp:FS:={pm:=[Y,Y],rm:=[Y],f:=pQ}
theorem Qk:au gl0 Tryz.prog 223 Dp:=ay (c:=CZ) al Tryz.func223 rfl rfl (by kernel_rfl)
@[reducible] def Hq:Cx:={K:=[Y,.no,Y,Y,Y,Y,Y],T:=[],S:=[(223,Dp)],H:=[],res:=[.tmp 2],ios:=[],G:=gl0}
def jd:List D→Option Out:=aX Hq Tryz.f192
@[reducible] def Ja:FS:={pm:=[Y],rm:=[Y],f:=jd}
theorem Vi:au gl0 Tryz.prog 192 Ja:=ay (c:=Hq) (ab Qk al) Tryz.func192 rfl rfl (by kernel_rfl)
@[reducible] def Bs:Cx:={K:=[Yc,.no,Yo 1 0,Yo 1 0,Yb,Yo 1 0,Yo 1 0,Y,Y,Y,Y,Yc,Yb,Yb,Y,Yo 1 0,Yb,Y,Yo 1 0,Yb,Y,Y,Y,Y,Yb,Y,Y,Y,Y,Y,Y,Y,Y,Y,Y,Y,.via 5,Y,Y,Y,Y,Yr 5,.via 6,Y,Y,Y,Y,Yr 6,Y,Yo 1 0,Yo 1 0],T:=[(3,ty3),(38,dq)],S:=[(191,DY),(192,Ja)],H:=[(0,([5,6,19,20,21],[5,6]))],res:=[.tmp 2,.tmp 3],ios:=[],G:=gl0}
def kE:List D→Option Out:=aX Bs Tryz.f159
@[reducible] def zI:FS:={pm:=[Yc],rm:=[Yo 1 0,Yo 1 0],f:=kE}
theorem Ok:au gl0 Tryz.prog 159 zI:=ay (c:=Bs) (ab Qv (ab Vi al)) Tryz.func159 rfl rfl (by kernel_rfl)
@[reducible] def tI:Cx:={K:=[Yc,.no,Y,Y,Y,Y,Yb,Yb,Y,Y,Y,Yc,Y,Y,.tup [Y,Y],Yc,.tup [Y,Y],Y,Y,.tup [Yo 1 0,Yo 1 0],Yc,.tup [Yo 1 0,Yo 1 0],Yb,Yb,Yb,Y,Y,Y,Y,Yb,Y,Y,Y,Y,Y,Y,Y,Y,Y,Y,Y,Y,Y,Y,Y,Y,Y],T:=[(3,ty3),(9,ty9),(38,dq)],S:=[(61,eZ),(113,vb),(158,vp),(159,zI)],H:=[(0,([4,8,24,25,26],[8]))],res:=[.tmp 2,.tmp 3],ios:=[],G:=gl0}
def gK:List D→Option Out:=aX tI Tryz.f114
@[reducible] def ug:FS:={pm:=[Yc],rm:=[Y,Y],f:=gK}
theorem HK:au gl0 Tryz.prog 114 ug:=ay (c:=tI) (ab jh (ab EG (ab DZ (ab Ok al)))) Tryz.func114 rfl rfl (by kernel_rfl)
@[reducible] def rq:Cx:={K:=[.box 10 2 true,Y,Yc,.no,.no,.no,Y,Yb,Y,Y,Y,Y,Y,Y,Y,Yb,Y,Yb,Y,Y,Y,Yb,Y,Y,Y,Y,Yb,Y,Y,Y,Y,Y,Yr 0,Yr 0,Yr 0,Yc,Yo 1 0,Yc,Yc,Y,Yb,Yb,Yb,Y,Y,Yr 0,Yb,Yr 0,Yr 0,Yb,Y,Y,Y,Y,.tup [Y,Y],Yr 0,Yr 0,Yr 0,Yc,.tup [Y,Y],Y,Y,Y,Y,Y,Y,.tup [Y,Y,Y],Yr 0,Yr 0,Yr 0,Yc,.tup [Y,Y,Y],Y,Y,Y,Y,Y,Yb,Y,Y,Y,.tup [Y,Y],Yr 0,Yr 0,Yr 0,Y,Yc,Yc,Y,Yc,Yc,Y,Yc,Yc,Y,Y,.tup [Y,Y],Y,Y,Y,Y,Yr 0,Y,Yr 0,Yr 0,.tup [Yo 3 0,Y],Y,.tup [Yo 3 0,Y],Yb,Y,Yb,Y,Y,Y,Y,.tup [Yo 3 0,Y],Yr 0,Yr 0,Yr 0,Y,.tup [Yo 3 0,Y],Yb,Y,.tup [Y,Y],Yb,Yc,Yc,Y,Yc,Yc,Y,.tup [Y,Y],Y,Y,Y,Y,Y,Y,Y,Y,.tup [Yo 3 0,Y],Yr 0,Yr 0,Yr 0,Y,.tup [Yo 3 0,Y],Yb,Y,.tup [Y,Y,Y],Yb,Yc,Yc,Y,.tup [Y,Y,Y],Y,Y,Y,Y,Y,Y,Y,Y,Y,Yo 2 0,Yr 0,Yr 0,Yr 0,Yc,Yo 2 0,Yc,Yc,Y,Y,Yb,Yb,Yb,Y,Y,Yr 0,Yb,Yr 0,Yr 0,Yb,Y,Y,.tup [Y,Y],Yr 0,Yr 0,Yr 0,Yc,.tup [Y,Y],Y,Y,Y],T:=[(3,ty3),(4,ty4),(9,ty9),(29,gQ),(33,gS),(38,dq),(48,CJ),(57,oq),(59,Zu),(121,kn),(147,ET)],S:=[(46,nW),(61,eZ),(94,pw),(100,vc),(105,rE),(106,pu),(107,wP),(108,qI),(109,ua),(110,mI),(111,tG),(112,uL),(113,vb),(114,ug)],H:=[],res:=[.tmp 6],ios:=[0],G:=gl0}
def cW:List D→Option Out:=aX rq Tryz.f78
@[reducible] def rg:FS:={pm:=[.box 10 2 true,Y,Yc],rm:=[Y],f:=cW}
theorem CK:au gl0 Tryz.prog 78 rg:=ay (c:=rq) (ab rD (ab jh (ab uP (ab Ef (ab xo (ab uU (ab JL (ab CD (ab HJ (ab sD (ab Hb (ab GO (ab EG (ab HK al)))))))))))))) Tryz.func78 rfl rfl (by kernel_rfl)
@[reducible] def qM:Cx:={K:=[.box 10 2 true,Y,.no,.no,Y,Yb,Y,Y,Yb,Y,Y,Yb,Yb,Yb,Y,Y,Y,Y,Y,Y,Y,Y,Y,Yb,Y,Y,Y,Y,Y,Y,Yr 0,Y,Y,Y,Y,Y,Y,Y,.tup [Yb,Y],Yb,Yb,Y,.tup [Yb,Y],Yb,Y,Y,Y,Y,Y,Y,Y,Y,Y,Y,Yr 0,Y,Yb,Y,Yr 0,Y,Yb,Y],T:=[(3,ty3),(9,ty9),(62,Iw)],S:=[(73,iq),(74,nE),(75,rk),(76,EU),(77,qo),(78,rg)],H:=[],res:=[.tmp 4],ios:=[0],G:=gl0}
def lz:List D→Option Out:=aX qM Tryz.f57
@[reducible] def rv:FS:={pm:=[.box 10 2 true,Y],rm:=[Y],f:=lz}
theorem CS:au gl0 Tryz.prog 57 rv:=ay (c:=qM) (ab kw (ab Pd (ab CO (ab RO (ab AZ (ab CK al)))))) Tryz.func57 rfl rfl (by kernel_rfl)
@[reducible] def wN:Cx:={K:=[Y,.no,Yo 1 0,Yo 1 0,.no,Y,Y,Y,Yo 1 0,Y,Yb,Y,Y,Y,Yb,Y,.tup [Y,Y],Y,.tup [Y,Y],Y,Y,Y,Y,Yo 1 0,Yo 1 0,Y,Yb,Yo 1 0,Y,Yo 1 0],T:=[(3,ty3),(9,ty9),(38,dq),(62,Iw),(69,aiw)],S:=[(116,tq),(131,qa)],H:=[(0,([3,10,11,12],[3]))],res:=[.tmp 2],ios:=[],G:=gl2}
def fQ:List D→Option Out:=aX wN Tryz.f86
@[reducible] def kM:FS:={pm:=[Y],rm:=[Yo 1 0],f:=fQ}
theorem oT:au gl2 Tryz.prog 86 kM:=ay (c:=wN) (ab rZ (ab (aJ mN Bu) al)) Tryz.func86 rfl rfl (by kernel_rfl)
@[reducible] def zL:Cx:={K:=[Y,.no,Y,Y,Y],T:=[],S:=[(52,dK)],H:=[],res:=[.tmp 2],ios:=[],G:=gl0}
def ig:List D→Option Out:=aX zL Tryz.f51
@[reducible] def Bp:FS:={pm:=[Y],rm:=[Y],f:=ig}
theorem OY:au gl0 Tryz.prog 51 Bp:=ay (c:=zL) (ab dL al) Tryz.func51 rfl rfl (by kernel_rfl)
@[reducible] def DN:Cx:={K:=[Y,.box 3 0 false,Y,Yr 1,Y,Y,Y,Yr 1,Y,Y,Y,Y,Yr 1,Y,Y,Y],T:=[(3,ty3),(29,gQ)],S:=[(51,Bp)],H:=[],res:=[.tmp 2],ios:=[],G:=gl0}
def dG:List D→Option Out:=aX DN Tryz.f35
@[reducible] def jx:FS:={pm:=[Y],rm:=[Y],f:=dG}
theorem mb:au gl0 Tryz.prog 35 jx:=ay (c:=DN) (ab OY al) Tryz.func35 rfl rfl (by kernel_rfl)
@[reducible] def vH:Cx:={K:=[Y,Y,.box 3 0 false,.box 3 0 false,.box 3 0 false,Yr 2,Y,Yr 3,Y,Y,Yr 2,Y,Yr 3,Y,Y,Yr 2,Y,Yr 3,Y,Y,Y],T:=[(3,ty3),(29,gQ)],S:=[],H:=[],res:=[.cell 4 29],ios:=[],G:=gl0}
def kK:List D→Option Out:=aX vH Tryz.f199
@[reducible] def vw:FS:={pm:=[Y,Y],rm:=[Y],f:=kK}
theorem Jw:au gl0 Tryz.prog 199 vw:=ay (c:=vH) al Tryz.func199 rfl rfl (by kernel_rfl)
@[reducible] def wg:Cx:={K:=[Yc,.no,.box 3 0 false,Y,.box 3 0 false,.no,.box 3 0 false,Y,Yc,Y,Y,Y,Yc,Y,Y,Y,Y,Y,Y,Y,Y,Y,Yc,Y,Y,Y,Y,Y,Y,Y,Y,Y],T:=[(3,ty3),(29,gQ),(128,aam)],S:=[(35,jx),(199,vw)],H:=[(0,([0,2,4,8,9,10],[0,2,4]))],res:=[.cell 2 29,.tmp 3],ios:=[],G:=gl0}
def kN:List D→Option Out:=aX wg Tryz.f164
@[reducible] def wx:FS:={pm:=[Yc],rm:=[Y,Y],f:=kN}
theorem Ks:au gl0 Tryz.prog 164 wx:=ay (c:=wg) (ab mb (ab Jw al)) Tryz.func164 rfl rfl (by kernel_rfl)
@[reducible] def uI:Cx:={K:=[Y,.box 3 0 false,Y,Yr 1,Y,Yr 1,Y,Y,Yr 1,Y,Y],T:=[(3,ty3),(29,gQ)],S:=[],H:=[],res:=[.tmp 2],ios:=[],G:=gl0}
def dB:List D→Option Out:=aX uI Tryz.f200
@[reducible] def jX:FS:={pm:=[Y],rm:=[Y],f:=dB}
theorem od:au gl0 Tryz.prog 200 jX:=ay (c:=uI) al Tryz.func200 rfl rfl (by kernel_rfl)
@[reducible] def xZ:Cx:={K:=[Y,Y,.box 3 0 false,.no,.box 3 0 false,.box 3 0 false,Y,.box 3 0 false,.box 3 0 false,Y,Y,Y,Y,Y,Y,Y,Y,Y,Y,Y,Y,Y,Y,Y,Yr 2,Y,Y,Y,Y,Y,Y,Yr 2,Y,Y,Y,Y,Y,Y,Yr 7,Yr 7,Y,Yr 7,Y,Y,Yr 7,Y,Y,Yr 7,Yr 2,Y,Yr 7,Y,Y,Yr 2,Y,Yr 7,Y,Y,Yr 2,Y,Yr 7,Y,Y,Y,Y,Y,Y,Y,Y,Y,Y],T:=[(3,ty3),(29,gQ)],S:=[(35,jx),(52,dK),(200,jX)],H:=[],res:=[.cell 4 29,.cell 5 29,.tmp 6],ios:=[],G:=gl0}
def mi:List D→Option Out:=aX xZ Tryz.f165
@[reducible] def xT:FS:={pm:=[Y,Y],rm:=[Y,Y,Y],f:=mi}
theorem Mo:au gl0 Tryz.prog 165 xT:=ay (c:=xZ) (ab mb (ab dL (ab od al))) Tryz.func165 rfl rfl (by kernel_rfl)
@[reducible] def BC:Cx:={K:=[Y,.box 3 0 false,Y,Y,Y,Y,Y,Y,Y,Y],T:=[(3,ty3),(29,gQ)],S:=[(35,jx),(200,jX)],H:=[],res:=[.tmp 2],ios:=[],G:=gl0}
def oh:List D→Option Out:=aX BC Tryz.f207
@[reducible] def Ap:FS:={pm:=[Y],rm:=[Y],f:=oh}
theorem Nl:au gl0 Tryz.prog 207 Ap:=ay (c:=BC) (ab mb (ab od al)) Tryz.func207 rfl rfl (by kernel_rfl)
@[reducible] def yR:Cx:={K:=[Y,.box 3 0 false,Yo 1 0,Y,Y,Y,Y,Y,Yo 1 0,Y,Y,Yr 1,Y,Y,Y,Y,Yr 1,Y,Y,Y,Y,Yr 1,Y,Y,Y,Y,Yo 1 0],T:=[(3,ty3),(29,gQ),(38,dq)],S:=[(200,jX),(207,Ap)],H:=[],res:=[.tmp 2,.tmp 3],ios:=[],G:=gl0}
def mf:List D→Option Out:=aX yR Tryz.f174
@[reducible] def yO:FS:={pm:=[Y],rm:=[Yo 1 0,Y],f:=mf}
theorem Mz:au gl0 Tryz.prog 174 yO:=ay (c:=yR) (ab od (ab Nl al)) Tryz.func174 rfl rfl (by kernel_rfl)
@[reducible] def xV:Cx:={K:=[Y,.box 3 0 false,Y,Yr 1,Y,Yr 1,Y,Yr 1,Y,Yb,Y],T:=[(3,ty3),(29,gQ),(38,dq)],S:=[(134,pX)],H:=[],res:=[.tmp 2],ios:=[],G:=gl1}
def gz:List D→Option Out:=aX xV Tryz.f163
@[reducible] def my:FS:={pm:=[Y],rm:=[Y],f:=gz}
theorem qE:au gl1 Tryz.prog 163 my:=ay (c:=xV) (ab qc al) Tryz.func163 rfl rfl (by kernel_rfl)
@[reducible] def vR:Cx:={K:=[Y,.no,.box 3 0 false,Y,Yb,.box 3 0 false,Y,Yb,Yb,Y,Y,Y,Yb,Yb,Y,Yb,Yb,Y,Yb,Yb,Y,Y,Y,Y,Y,Y,Y,Y,Y,Y,Y,Y,Y],T:=[(3,ty3),(9,ty9),(29,gQ),(38,dq)],S:=[(35,jx),(86,kM),(163,my)],H:=[],res:=[.cell 2 29,.tmp 3],ios:=[],G:=gl2}
def il:List D→Option Out:=aX vR Tryz.f118
@[reducible] def pc:FS:={pm:=[Y],rm:=[Y,Y],f:=il}
theorem vW:au gl2 Tryz.prog 118 pc:=ay (c:=vR) (ab (aJ mN mb) (ab oT (ab (aJ CL qE) al))) Tryz.func118 rfl rfl (by kernel_rfl)
@[reducible] def BJ:Cx:={K:=[Yc,.no,Y,Y,.box 2 0 false,Yc,Y,Y,Y,Y,Yc,Y,Yr 4,Y,Y,Y,Y,Yr 4,Y,Y,Y,Y,Y,Y,Y,Y,Yc,Y,Y,Yc,Yc,Y,Yr 4,Y,Y,Y,Y,Y,Yc,Y,Y],T:=[(3,ty3),(33,gS),(75,om)],S:=[(52,dK)],H:=[(0,([0,5,6,7],[0]))],res:=[.tmp 2],ios:=[],G:=gl0}
def eE:List D→Option Out:=aX BJ Tryz.f36
@[reducible] def gb:FS:={pm:=[Yc],rm:=[Y],f:=eE}
theorem iD:au gl0 Tryz.prog 36 gb:=ay (c:=BJ) (ab dL al) Tryz.func36 rfl rfl (by kernel_rfl)
@[reducible] def ul:Cx:={K:=[Yc,Y,Y,.no,.no,.no,Yo 2 0,Y,Yo 2 0,Y,Yc,Y,Y,Y,Yc,Y,Yc,Yc,Y,Y,Y,Y,Y,Y,Y,Yc,Y,Y,Y,Yc,Y,Yc,Yc,Y,Y,Y,Y,Yo 2 0,Yc,Yo 2 0,.via 8,Y,Yr 8,Yr 8,Y,Y,Y,Yr 8,Yr 8,Yo 2 0,Yo 2 0,Yc,Y,Yc,Yo 2 0,Y,Y,Y,Yb,Yo 2 0,Yc,Y,Yc,Yo 2 0],T:=[(3,ty3),(33,gS),(75,om)],S:=[],H:=[(0,([0,1,2,7],[0,1,2,7]))],res:=[.tmp 6],ios:=[],G:=gl0}
def gI:List D→Option Out:=aX ul Tryz.f204
@[reducible] def ud:FS:={pm:=[Yc,Y,Y],rm:=[Yo 2 0],f:=gI}
theorem IU:au gl0 Tryz.prog 204 ud:=ay (c:=ul) al Tryz.func204 rfl rfl (by kernel_rfl)
@[reducible] def qK:Cx:={K:=[Yc,.no,Yc,Y,Yc,Y,Y,Yb,Yc],T:=[(33,gS),(75,om)],S:=[(36,gb)],H:=[],res:=[.tmp 2,.tmp 3],ios:=[],G:=gl0}
def gY:List D→Option Out:=aX qK Tryz.f203
@[reducible] def qV:FS:={pm:=[Yc],rm:=[Yc,Y],f:=gY}
theorem CQ:au gl0 Tryz.prog 203 qV:=ay (c:=qK) (ab iD al) Tryz.func203 rfl rfl (by kernel_rfl)
@[reducible] def zV:Cx:={K:=[Yc,Y,Y,.no,.no,.no,Yc,Y,.via 42,Yc,Y,Y,Y,Y,Yc,Y,Y,Y,Y,Y,Y,Yc,Y,Yc,Yc,Y,Y,Y,Y,Y,Yc,Y,Yc,Yc,Y,Y,Y,Y,Y,Yb,Yo 2 0,Yc,Yo 2 0,.via 42,Y,Yr 42,Yr 42,Y,Y,Yr 42,Yr 42,.via 42,Y,Yb,Yc,Y,Yc,Yc,Y,Y,Y,Yb,.tup [Yc,Y],Yc,Y],T:=[(3,ty3),(33,gS),(75,om)],S:=[(36,gb),(52,dK),(203,qV),(204,ud)],H:=[],res:=[.tmp 6,.tmp 7],ios:=[],G:=gl0}
def oe:List D→Option Out:=aX zV Tryz.f169
@[reducible] def zO:FS:={pm:=[Yc,Y,Y],rm:=[Yc,Y],f:=oe}
theorem PH:au gl0 Tryz.prog 169 zO:=ay (c:=zV) (ab iD (ab dL (ab CQ (ab IU al)))) Tryz.func169 rfl rfl (by kernel_rfl)
@[reducible] def qY:Cx:={K:=[Y,.no,Y,Y,Y],T:=[],S:=[(52,dK)],H:=[],res:=[.tmp 2],ios:=[],G:=gl0}
def fx:List D→Option Out:=aX qY Tryz.f201
@[reducible] def lE:FS:={pm:=[Y],rm:=[Y],f:=fx}
theorem ri:au gl0 Tryz.prog 201 lE:=ay (c:=qY) (ab dL al) Tryz.func201 rfl rfl (by kernel_rfl)
@[reducible] def wC:Cx:={K:=[Yc,.no,Yo 1 0,Yo 1 0,Yo 1 0,Yo 1 0,.no,.box 2 0 false,Yo 1 0,Yo 1 0,Yc,Y,Y,Y,Yc,Y,Yo 1 0,Yr 7,Y,Yb,Yo 1 0,Yo 1 0,Yr 7,Y,Yb,Yo 1 0,Y,Yo 1 0,Yo 1 0],T:=[(3,ty3),(33,gS),(38,dq),(75,om)],S:=[],H:=[(0,([4,5,10,11,12],[4,5]))],res:=[.tmp 2,.tmp 3],ios:=[],G:=gl0}
def iB:List D→Option Out:=aX wC Tryz.f231
@[reducible] def oR:FS:={pm:=[Yc],rm:=[Yo 1 0,Yo 1 0],f:=iB}
theorem vt:au gl0 Tryz.prog 231 oR:=ay (c:=wC) al Tryz.func231 rfl rfl (by kernel_rfl)
@[reducible] def EV:Cx:={K:=[Yc,Yc,Y,.no,.no,.no,Yo 1 1,.via 18,Y,Yo 1 1,Y,Y,.via 38,Y,Y,Y,Y,Y,Yo 1 0,Y,Y,Y,Y,Y,.via 18,Y,Yr 18,.via 18,Yo 1 1,Yc,Y,Y,Y,Y,Yc,Y,Y,Y,Yo 1 0,.via 38,Y,Y,Y,Y,.via 38,Y,Yr 38,Y,Yc,Y,Yc,Y,Y,Y,Y,Y,Y,Y,Y,Y,Y,Y,.via 9,Y,Yr 9,Yb,Y,Y,Y,Y,Y,Yb,Y,Y,Y,Y,.via 38,Y,Yr 38,Y,Y,Y,Y,Y,Y,.via 38,Y,Yr 38,Y,Y,Y,Y,.via 38,Y,Y,Y,Y,Yr 38,Y,Yo 1 1,.via 38,Yb,Yo 1 1,Y,Yo 1 1],T:=[(3,ty3),(38,dq),(164,Ov)],S:=[],H:=[(0,([0,1,2,7,8,18],[0,1,2,7,18])),(2,([1,2,9,29,30,31],[9])),(4,([1,2,9,10,11,12,29,30,31,38,40,41],[1,2,9,12,29,30,31,38])),(6,([1,2,9,10,11,12,13,14,29,30,31,38,40,41],[1,2,9,10,11,12,29,30,31,38,40,41]))],res:=[.tmp 6],ios:=[],G:=gl0}
abbrev Da:List (Nat × List Nat):=[(6,[18]),(22,[38])]
def jv:List D→Option Out:=vM EV Da Tryz.f234
@[reducible] def lZ:FS:={pm:=[Yc,Yc,Y],rm:=[Yo 1 1],f:=jv}
theorem Er:au gl0 Tryz.prog 234 lZ:=rW (Z:=Da) (P:=Tryz.prog) (c:=EV) (fn:=Tryz.f234) (pm:=lZ.pm) (rm:=lZ.rm) (by kernel_rfl) al dI Tryz.func234 (by kernel_rfl) (by kernel_rfl) rfl
@[reducible] def DG:Cx:={K:=[Yc,Yc,Y,.no,.no,.no,Yb,Yb,.via 27,Y,Y,Y,Yc,Yc,Y,Yb,Yb,Yc,Y,Yb,Yb,Y,Yb,Y,Y,Yc,Y,Yo 1 0,Yc,Y,Y,Y,Y,Y,Y,Yc,Y,Yc,Y,Y,Yc,Y,Yc,Y,Y,Y,Y,Y,Y,Y,Yb,Y,Yb,Yb,Y,Y,Yc,Y,Yc,Y,Y,Y,Yb,Y,Y,Y,Y,Y,Y,Y,Yb,Y,Y,Yb,Yb,Y,Yb,Y,Y,Y,.via 27,Y,Y,Yr 27,Y,Y,Yc,Y,Yc,Y,Y,Y,.via 27],T:=[(3,ty3),(38,dq),(164,Ov)],S:=[(234,lZ)],H:=[(0,([0,1,2,7,8,9,27],[8,27])),(2,([0,1,2,7,8,9,10,27],[0,1,2,7,8,9,27]))],res:=[.tmp 6],ios:=[],G:=gl0,N:=[6]}
abbrev Df:List (Nat × List Nat):=[(15,[27])]
def pr:List D→Option Out:=vM DG Df Tryz.f232
@[reducible] def pE:FS:={pm:=[Yc,Yc,Y],rm:=[Yb],f:=pr}
theorem Qh:au gl0 Tryz.prog 232 pE:=rW (Z:=Df) (P:=Tryz.prog) (c:=DG) (fn:=Tryz.f232) (pm:=pE.pm) (rm:=pE.rm) (by kernel_rfl) (ab Er al) dI Tryz.func232 (by kernel_rfl) (by kernel_rfl) rfl
@[reducible] def DV:Cx:={K:=[Yc,Y,.no,.no,Yb,Yb,Yb,.tup [Yo 1 0,Yo 1 0],Yc,.tup [Yo 1 0,Yo 1 0],Yb,Yb,Yb,Yb,Y,Yb],T:=[(38,dq)],S:=[(231,oR),(232,pE)],H:=[],res:=[.tmp 4],ios:=[],G:=gl0,N:=[4,15]}
def pt:List D→Option Out:=aX DV Tryz.f202
@[reducible] def EH:FS:={pm:=[Yc,Y],rm:=[Yb],f:=pt}
theorem QS:au gl0 Tryz.prog 202 EH:=ay (c:=DV) (ab vt (ab Qh al)) Tryz.func202 rfl rfl (by kernel_rfl)
@[reducible] def EF:Cx:={K:=[Yc,Y,.no,.no,Yb,Y,Yb,Yc,Y,Y,Y,Y,Y,Y,Y,Yb,Yc,Y,Yb,Yb,Y,Yb,Yb],T:=[(3,ty3),(38,dq)],S:=[(36,gb),(201,lE),(202,EH)],H:=[],res:=[.tmp 4,.tmp 5],ios:=[],G:=gl0}
def pq:List D→Option Out:=aX EF Tryz.f167
@[reducible] def Es:FS:={pm:=[Yc,Y],rm:=[Yb,Y],f:=pq}
theorem RB:au gl0 Tryz.prog 167 Es:=ay (c:=EF) (ab iD (ab ri (ab QS al))) Tryz.func167 rfl rfl (by kernel_rfl)
@[reducible] def yg:Cx:={K:=[Yc,.no,Yb,Yb,Yb,.tup [Yo 1 0,Yo 1 0],Yc,.tup [Yo 1 0,Yo 1 0],Yb,Yb,Yb,Yb,Yb,Yc,Y,Yb,Yb],T:=[(3,ty3),(33,gS),(38,dq),(75,om),(164,Ov)],S:=[(231,oR),(234,lZ)],H:=[],res:=[.tmp 2],ios:=[],G:=gl0}
def mv:List D→Option Out:=aX yg Tryz.f208
@[reducible] def xR:FS:={pm:=[Yc],rm:=[Yb],f:=mv}
theorem LZ:au gl0 Tryz.prog 208 xR:=ay (c:=yg) (ab vt (ab Er al)) Tryz.func208 rfl rfl (by kernel_rfl)
@[reducible] def uB:Cx:={K:=[Yc,Y,.no,.no,Y,Y,Yb,Y,Yc,Y,Y,Y,Y,Y,Y,Y,Yc,Yb,Y,Y,Y,Y,Y,Yb,Y,Yb,Y,Y,Y,Y,Y],T:=[(3,ty3),(38,dq)],S:=[(36,gb),(201,lE),(208,xR)],H:=[(0,([1,6,7],[]))],res:=[.tmp 4,.tmp 5],ios:=[],G:=gl0}
def jL:List D→Option Out:=aX uB Tryz.f175
@[reducible] def tC:FS:={pm:=[Yc,Y],rm:=[Y,Y],f:=jL}
theorem Ib:au gl0 Tryz.prog 175 tC:=ay (c:=uB) (ab iD (ab ri (ab LZ al))) Tryz.func175 rfl rfl (by kernel_rfl)
@[reducible] def LA:Cx:={K:=[Yc,Yc,.no,.no,Yo 2 0,Yo 2 0,Y,Y,Yo 2 0,Yc,Yo 2 0,Yc,Y,Y,Y,Y,Yc,Y,.via 5,Y,Yr 5,Yr 5,Y,Y,Y,Yr 5,Yr 5,Y,Yo 2 0],T:=[(3,ty3),(33,gS),(38,dq),(75,om)],S:=[],H:=[(0,([5,11,12,13],[5]))],res:=[.tmp 4],ios:=[],G:=gl0}
def tX:List D→Option Out:=aX LA Tryz.f168
@[reducible] def KN:FS:={pm:=[Yc,Yc],rm:=[Yo 2 0],f:=tX}
theorem Ya:au gl0 Tryz.prog 168 KN:=ay (c:=LA) al Tryz.func168 rfl rfl (by kernel_rfl)
@[reducible] def qq:Cx:={K:=[Y,.no,Y,Y,Y,Y],T:=[(3,ty3),(9,ty9)],S:=[],H:=[],res:=[.tmp 2],ios:=[],G:=gl0}
def gD:List D→Option Out:=aX qq Tryz.f68
@[reducible] def qs:FS:={pm:=[Y],rm:=[Y],f:=gD}
theorem Bq:au gl0 Tryz.prog 68 qs:=ay (c:=qq) al Tryz.func68 rfl rfl (by kernel_rfl)
@[reducible] def vz:Cx:={K:=[Y,.no,Y,Y,Y],T:=[],S:=[(52,dK)],H:=[],res:=[.tmp 2],ios:=[],G:=gl0}
def iy:List D→Option Out:=aX vz Tryz.f182
@[reducible] def oW:FS:={pm:=[Y],rm:=[Y],f:=iy}
theorem wq:au gl0 Tryz.prog 182 oW:=ay (c:=vz) (ab dL al) Tryz.func182 rfl rfl (by kernel_rfl)
@[reducible] def EM:Cx:={K:=[Y,.box 3 0 false,Y,Yr 1,Y,Y,Y,Yr 1,Y,Y,Y,Y,Yr 1,Y,Y,Y],T:=[(3,ty3),(121,kn)],S:=[(52,dK),(182,oW)],H:=[],res:=[.tmp 2],ios:=[],G:=gl0}
def lT:List D→Option Out:=aX EM Tryz.f133
@[reducible] def vq:FS:={pm:=[Y],rm:=[Y],f:=lT}
theorem Dr:au gl0 Tryz.prog 133 vq:=ay (c:=EM) (ab dL (ab wq al)) Tryz.func133 rfl rfl (by kernel_rfl)
@[reducible] def xX:Cx:={K:=[Yc,.no,Y,Y,.box 3 0 false,Yc,Y,Y,Y,Y,Yc,Y,Y,Y,Y,Y,Y,Y,Y,Yc,Y,Y,Yc,Yc,Y,Yr 4,Y,Y,Y,Y,Y,Yc,Y,Y],T:=[(3,ty3),(48,CJ),(121,kn)],S:=[(133,vq)],H:=[(0,([0,5,6,7],[0]))],res:=[.tmp 2],ios:=[],G:=gl0}
def fp:List D→Option Out:=aX xX Tryz.f87
@[reducible] def jm:FS:={pm:=[Yc],rm:=[Y],f:=fp}
theorem mu:au gl0 Tryz.prog 87 jm:=ay (c:=xX) (ab Dr al) Tryz.func87 rfl rfl (by kernel_rfl)
@[reducible] def wR:Cx:={K:=[Y,.no,Yo 3 0,Y,Yo 3 0,Y,Y,Y,Y,Y,Yb,.box 3 0 false,Yo 3 0,Yo 3 0,.tup [Y,Y,Y],Y,Y,Y,.tup [Y,Y,Y],Y,Y,Y,Y,Yb,Y,Y,Y,Yb,Y,Y,Y,Yo 3 0,Y,Yb,Yb,Y,Yb,Yb,Y,Yb,Yb,Y,Y,Yo 3 0,.via 4,Yo 3 0,Y,Yb,Yo 3 0,.via 12,Y,Y,Y,Y,Y,Y,Y,Y,Y,Y,Y,Y,Yo 3 0,Y,Yo 3 0,Y,Y,Y,Y,Y,Y,Y,Y],T:=[(3,ty3),(9,ty9),(38,dq),(48,CJ),(121,kn)],S:=[(85,Em),(86,kM),(87,jm),(88,xP),(89,HY)],H:=[(0,([0,4,5,6],[2,3]))],res:=[.tmp 2,.tmp 3],ios:=[],G:=gl2}
def lg:List D→Option Out:=aX wR Tryz.f69
@[reducible] def vu:FS:={pm:=[Y],rm:=[Yo 3 0,Y],f:=lg}
theorem Ki:au gl2 Tryz.prog 69 vu:=ay (c:=wR) (ab (aJ mN Eu) (ab oT (ab (aJ mN mu) (ab (aJ CL yE) (ab (aJ mN GM) al))))) Tryz.func69 rfl rfl (by kernel_rfl)
@[reducible] def tn:Cx:={K:=[Y,.no,Yo 3 0,Y,Yo 3 0,Y,Y,Y,Y,Yo 3 0,.tup [Yo 3 0,Y],Y,.tup [Yo 3 0,Y],Yo 3 0,Y,Y,Y,Y,Y,Yo 3 0,Yo 3 0],T:=[(3,ty3),(9,ty9),(48,CJ),(121,kn)],S:=[(68,qs),(69,vu)],H:=[],res:=[.tmp 2,.tmp 3],ios:=[],G:=gl2}
def dS:List D→Option Out:=aX tn Tryz.f53
@[reducible] def gc:FS:={pm:=[Y],rm:=[Yo 3 0,Y],f:=dS}
theorem iQ:au gl2 Tryz.prog 53 gc:=ay (c:=tn) (ab (aJ mN Bq) (ab Ki al)) Tryz.func53 rfl rfl (by kernel_rfl)
@[reducible] def Hn:Cx:={K:=[Y,.no,Y,Y,Y],T:=[],S:=[(52,dK)],H:=[],res:=[.tmp 2],ios:=[],G:=gl0}
def rM:List D→Option Out:=aX Hn Tryz.f205
@[reducible] def GV:FS:={pm:=[Y],rm:=[Y],f:=rM}
theorem TN:au gl0 Tryz.prog 205 GV:=ay (c:=Hn) (ab dL al) Tryz.func205 rfl rfl (by kernel_rfl)
@[reducible] def zR:Cx:={K:=[Yc,.no,Y,.no,Y,Yc,Y,Y,Y,Yc,Y,Y,Y,Y,Y,Yc,Y,Y],T:=[(3,ty3),(38,dq)],S:=[(52,dK),(205,GV)],H:=[(0,([0,5,6,7],[0]))],res:=[.tmp 2],ios:=[],G:=gl0}
def iC:List D→Option Out:=aX zR Tryz.f171
@[reducible] def nz:FS:={pm:=[Yc],rm:=[Y],f:=iC}
theorem sR:au gl0 Tryz.prog 171 nz:=ay (c:=zR) (ab dL (ab TN al)) Tryz.func171 rfl rfl (by kernel_rfl)
@[reducible] def Gy:Cx:={K:=[Yc,Y,Y,.no,.no,.no,Y,Y,Y,Y,Y,Yc,Y,Y,Y,Y,Yc,Y,Y,Y,Yc,Y,Yc,Y,Y,Y,Y,Yc,Y,Y,Y,Y,Y,Y,Y,Y],T:=[(3,ty3),(38,dq)],S:=[],H:=[(0,([0,1,2,7],[7]))],res:=[.tmp 6],ios:=[],G:=gl0}
def nI:List D→Option Out:=aX Gy Tryz.f210
@[reducible] def HG:FS:={pm:=[Yc,Y,Y],rm:=[Y],f:=nI}
theorem Vh:au gl0 Tryz.prog 210 HG:=ay (c:=Gy) al Tryz.func210 rfl rfl (by kernel_rfl)
@[reducible] def rc:Cx:={K:=[Yc,.no,Y,Y,Y,Y,Y,Y,Y,Yc,Y,Y,Yc,Y,Y,Y,Y,Yc,Y,Y,Yc,Y,Y,Y,Y,Y,Y,Y,Y,Y,Y,Y],T:=[(3,ty3),(38,dq)],S:=[(171,nz),(210,HG)],H:=[(0,([0,5,6,13,14],[5,6]))],res:=[.tmp 2,.tmp 3,.tmp 4],ios:=[],G:=gl0}
def ib:List D→Option Out:=aX rc Tryz.f177
@[reducible] def rh:FS:={pm:=[Yc],rm:=[Y,Y,Y],f:=ib}
theorem CM:au gl0 Tryz.prog 177 rh:=ay (c:=rc) (ab sR (ab Vh al)) Tryz.func177 rfl rfl (by kernel_rfl)
@[reducible] def qT:Cx:={K:=[Y,.no,Y,Y,Y],T:=[],S:=[(52,dK)],H:=[],res:=[.tmp 2],ios:=[],G:=gl0}
def fw:List D→Option Out:=aX qT Tryz.f211
@[reducible] def lw:FS:={pm:=[Y],rm:=[Y],f:=fw}
theorem qP:au gl0 Tryz.prog 211 lw:=ay (c:=qT) (ab dL al) Tryz.func211 rfl rfl (by kernel_rfl)
@[reducible] def EO:Cx:={K:=[Y,.box 3 0 false,Y,Yr 1,Y,Y,Y,Yr 1,Y,Y,Y,Yr 1,Y,Yr 1,Y,Y],T:=[(3,ty3),(121,kn)],S:=[],H:=[],res:=[.tmp 2],ios:=[],G:=gl0}
def mc:List D→Option Out:=aX EO Tryz.f212
@[reducible] def vm:FS:={pm:=[Y],rm:=[Y],f:=mc}
theorem Ea:au gl0 Tryz.prog 212 vm:=ay (c:=EO) al Tryz.func212 rfl rfl (by kernel_rfl)
@[reducible] def uk:Cx:={K:=[Yc,Y,Y,.no,.no,.no,Y,Y,.no,.box 3 0 false,Yc,Y,Y,Y,Y,Y,Y,Y,Y,Y,Y,Y,Y,Yc,Y,Y,Y,Yc,Y,Yr 9,Y,Y,Y,Y,Y,Y,Y,Y,Y],T:=[(3,ty3),(48,CJ),(121,kn)],S:=[(87,jm),(182,oW),(211,lw),(212,vm)],H:=[(0,([1,2,23,24,25],[1]))],res:=[.tmp 6,.tmp 7],ios:=[],G:=gl0}
def jU:List D→Option Out:=aX uk Tryz.f178
@[reducible] def uu:FS:={pm:=[Yc,Y,Y],rm:=[Y,Y],f:=jU}
theorem HL:au gl0 Tryz.prog 178 uu:=ay (c:=uk) (ab mu (ab wq (ab qP (ab Ea al)))) Tryz.func178 rfl rfl (by kernel_rfl)
@[reducible] def uf:Cx:={K:=[Yc,Y,.no,.no,Y,Y,Y,Y,Y,Y,.box 3 0 false,Yc,Y,Y,Y,Y,Y,Y,Y,Y,Yc,Y,Y,Y,Yc,Y,Y,Y,Y,Yc,Y,Y,Y,Y,Y,Y,Y,Y,Y,Y,Y,Y,Y,Y,Y,Y,Y],T:=[(3,ty3),(48,CJ),(121,kn)],S:=[(87,jm),(211,lw),(212,vm)],H:=[(0,([1,7,8,24,25,26],[7,8]))],res:=[.tmp 4,.tmp 5,.tmp 6],ios:=[],G:=gl0}
def jJ:List D→Option Out:=aX uf Tryz.f179
@[reducible] def uz:FS:={pm:=[Yc,Y],rm:=[Y,Y,Y],f:=jJ}
theorem Hp:au gl0 Tryz.prog 179 uz:=ay (c:=uf) (ab mu (ab qP (ab Ea al))) Tryz.func179 rfl rfl (by kernel_rfl)
@[reducible] def yH:Cx:={K:=[Yc,.no,Y,.no,.box 2 0 false,Yc,Y,Y,Y,Yc,Y,Yr 4,Y,Y,Y,Yr 4,Y,Y,Y,Y,Yc,Y,Y],T:=[(3,ty3),(4,ty4),(57,oq),(147,ET)],S:=[],H:=[(0,([0,5,6,7],[0]))],res:=[.tmp 2],ios:=[],G:=gl0}
def dN:List D→Option Out:=aX yH Tryz.f173
@[reducible] def yj:FS:={pm:=[Yc],rm:=[Y],f:=dN}
theorem qB:au gl0 Tryz.prog 173 yj:=ay (c:=yH) al Tryz.func173 rfl rfl (by kernel_rfl)
@[reducible] def wD:Cx:={K:=[Yc,.no,Y,Y,Y,Y,.no,.box 2 0 false,Yc,Y,Y,Y,Yc,Y,Yr 7,Y,Y,Y,Y,Y,Y,Y,Y,Y],T:=[(3,ty3),(4,ty4),(57,oq),(147,ET)],S:=[],H:=[(0,([4,5,8,9,10],[4,5]))],res:=[.tmp 2,.tmp 3],ios:=[],G:=gl0}
def eU:List D→Option Out:=aX wD Tryz.f213
@[reducible] def wL:FS:={pm:=[Yc],rm:=[Y,Y],f:=eU}
theorem vI:au gl0 Tryz.prog 213 wL:=ay (c:=wD) al Tryz.func213 rfl rfl (by kernel_rfl)
@[reducible] def OC:Cx:={K:=[Yc,Yc,Y,.no,.no,.no,Yo 2 0,Yo 2 0,Y,Yo 2 0,Yc,Y,Y,Y,Y,Y,Y,Yo 2 0,Yc,Y,Yc,Yc,Y,Yc,Y,Yc,Yc,Y,Y,Y,Yb,Yo 2 0,Y,Yo 2 0,Yc,Yo 2 0,Yo 2 0,Yc,Yo 2 0,.via 7,Yo 2 0],T:=[(3,ty3),(4,ty4),(214,acS),(217,acm)],S:=[],H:=[(0,([0,1,2,7,8],[0,2,7]))],res:=[.tmp 6],ios:=[],G:=gl0}
def sG:List D→Option Out:=aX OC Tryz.f254
@[reducible] def Oh:FS:={pm:=[Yc,Yc,Y],rm:=[Yo 2 0],f:=sG}
theorem Zp:au gl0 Tryz.prog 254 Oh:=ay (c:=OC) al Tryz.func254 rfl rfl (by kernel_rfl)
@[reducible] def yu:Cx:={K:=[Yc,Y,.no,.box 2 0 false,Yo 1 1,Y,Y,Yo 1 1,Y,Yo 1 1,Y,.no,Yc,Yo 1 1,Y,Yc,Y,Yc,Yc,Yc,Y,Yo 1 1,Yr 3,Y,Y,Y,Y,Y,Y,Y,Y,Yo 1 1,Yc,Y,Yc,Yc,Y,Y,Y,Y,Yo 1 1,Yc,Y,Yc,Yc,Y,Yc,Yc,Yc,Y,Y,Y,Y,Yc,Yc,Y,Yc,Yc,Yr 3,Y,Yb,Yb,Yo 1 1,Y,Yo 1 1,.via 9,Yb,Yo 1 1,Yo 1 1,Yc,Y,Y,Y,Yc,Yc,Yo 1 1,Y,Y,Y,Y,Y,Y,Yo 1 1,Yc,Y,Yc,Yc,Yc,Y,Y,Y,Y,Yc,Yc,Yr 3,Y,Yb,Yb,Yo 1 1,Yo 1 1,.via 13,Yb,Yo 1 1,Y,Yo 1 1],T:=[(3,ty3),(4,ty4),(147,ET),(214,acS),(217,acm),(233,af1),(234,af7)],S:=[(254,Oh)],H:=[(0,([0,3,5,7,8],[7])),(2,([0,3,5,7,8,9,36,37],[0,3,5,7,8,9])),(4,([3,6,7,69,70,71],[7])),(6,([3,6,7,12,13,14,69,70,71],[3,6,7,13,69,70,71]))],res:=[.tmp 4],ios:=[],G:=gl0}
abbrev yb:List (Nat × List Nat):=[(13,[9]),(23,[13])]
def mp:List D→Option Out:=vM yu yb Tryz.f248
@[reducible] def mg:FS:={pm:=[Yc,Y],rm:=[Yo 1 1],f:=mp}
theorem LI:au gl0 Tryz.prog 248 mg:=rW (Z:=yb) (P:=Tryz.prog) (c:=yu) (fn:=Tryz.f248) (pm:=mg.pm) (rm:=mg.rm) (by kernel_rfl) (ab Zp al) dI Tryz.func248 (by kernel_rfl) (by kernel_rfl) rfl
@[reducible] def DR:Cx:={K:=[Yc,.no,Yb,Y,Y,Yo 1 1,Y,Yo 1 1,Y,.no,.box 2 0 false,.tup [Y,Y],Yc,.tup [Y,Y],Y,Y,Yo 1 1,Y,Y,Y,Y,Y,Yo 1 1,Y,Y,Y,Y,Y,Yo 1 1,Y,Y,Y,Y,Y,Y,Yb,Yb,Yo 1 1,Yo 1 1,.via 7,Yb,Yo 1 1,Yc,Y,Y,Y,Yc,Y,.via 5,Y,Yo 1 1,Y,.via 5,Yr 5,Yb,Yb,Yb],T:=[(3,ty3),(4,ty4),(57,oq),(147,ET),(214,acS),(217,acm),(233,af1),(234,af7)],S:=[(213,wL),(248,mg)],H:=[(0,([0,3,4,5,6],[0,5])),(2,([0,3,4,5,6,7,8],[0,3,4,5,6,7])),(4,([5,42,43,44],[5]))],res:=[.tmp 2],ios:=[],G:=gl0}
abbrev ER:List (Nat × List Nat):=[(11,[7])]
def fM:List D→Option Out:=vM DR ER Tryz.f236
@[reducible] def uN:FS:={pm:=[Yc],rm:=[Yb],f:=fM}
theorem Qz:au gl0 Tryz.prog 236 uN:=rW (Z:=ER) (P:=Tryz.prog) (c:=DR) (fn:=Tryz.f236) (pm:=uN.pm) (rm:=uN.rm) (by kernel_rfl) (ab vI (ab LI al)) dI Tryz.func236 (by kernel_rfl) (by kernel_rfl) rfl
@[reducible] def Ay:Cx:={K:=[Y,.no,Y,Y,Y],T:=[],S:=[],H:=[],res:=[.tmp 2],ios:=[],G:=gl0}
def ku:List D→Option Out:=aX Ay Tryz.f119
@[reducible] def An:FS:={pm:=[Y],rm:=[Y],f:=ku}
theorem OJ:au gl0 Tryz.prog 119 An:=ay (c:=Ay) al Tryz.func119 rfl rfl (by kernel_rfl)
@[reducible] def sW:Cx:={K:=[Y,Y,.no,.no,Y,Y,Y,Y,Y],T:=[],S:=[(117,rX)],H:=[],res:=[.tmp 4],ios:=[],G:=gl1}
def cv:List D→Option Out:=aX sW Tryz.f170
@[reducible] def gh:FS:={pm:=[Y,Y],rm:=[Y],f:=cv}
theorem jb:au gl1 Tryz.prog 170 gh:=ay (c:=sW) (ab sS al) Tryz.func170 rfl rfl (by kernel_rfl)
@[reducible] def Au:Cx:={K:=[Y,.no,Yb,Y,Yb,Yb,Y,Y,Y,Y,Yb,Yb,Y,Y,Y,Y,Yb,Y,Y,Y,Y,Y,Y,Y,Y,Y,Y,Y],T:=[(3,ty3),(9,ty9),(62,Iw)],S:=[(70,yd),(71,qn),(72,qJ)],H:=[],res:=[.tmp 2,.tmp 3],ios:=[],G:=gl0}
def gf:List D→Option Out:=aX Au Tryz.f54
@[reducible] def tw:FS:={pm:=[Y],rm:=[Yb,Y],f:=gf}
theorem zQ:au gl0 Tryz.prog 54 tw:=ay (c:=Au) (ab yp (ab AH (ab Cr al))) Tryz.func54 rfl rfl (by kernel_rfl)
@[reducible] def Bh:Cx:={K:=[Y,.no,Yb,Y,Yb,Y,Y,Y,Y,Y,Y,Y,Y,Y,Y,Y,Y,Y,Y,Y,Y,Yb,Yb,Yb,Y,Y,Yb,Yb,Yb,Y,Y],T:=[(3,ty3),(5,ty5),(9,ty9),(62,Iw)],S:=[(73,iq)],H:=[],res:=[.tmp 2,.tmp 3],ios:=[],G:=gl0}
def gg:List D→Option Out:=aX Bh Tryz.f55
@[reducible] def Bf:FS:={pm:=[Y],rm:=[Yb,Y],f:=gg}
theorem AF:au gl0 Tryz.prog 55 Bf:=ay (c:=Bh) (ab kw al) Tryz.func55 rfl rfl (by kernel_rfl)
@[reducible] def IJ:Cx:={K:=[Yc,Y,.no,.no,Yc,Y,Yo 1 0,Y,Yc,Y,Y,Y,Yc,Y,Yc,Y,Y,Y,Y,Y,Y,Y,Yc,Y,Y,Y,Yc,Y,Yc,Y,Y,Y,Y,Yc,Yo 1 0,Yc,Y,Yc,Yo 1 0,Yo 1 0,Y,Yb,Yo 1 0,Yo 1 0,Yc,Y,Yc,Yc],T:=[(3,ty3),(38,dq)],S:=[],H:=[(0,([0,1,5],[0,1,5]))],res:=[.tmp 4],ios:=[],G:=gl0}
def rH:List D→Option Out:=aX IJ Tryz.f47
@[reducible] def GI:FS:={pm:=[Yc,Y],rm:=[Yc],f:=rH}
theorem Va:au gl0 Tryz.prog 47 GI:=ay (c:=IJ) al Tryz.func47 rfl rfl (by kernel_rfl)
@[reducible] def tM:Cx:={K:=[.box 3 2 true,.no,Y,Y,Yr 0,Yr 0,Yr 0,Y,Yr 0,Yr 0,Yr 0,Yc,Y,Y,Yr 0,Yr 0,Yr 0,Yc,Yr 0,Yr 0,Yr 0,Y,Yc,Y,Y,Yr 0,Yr 0,Yr 0,Y,Y,Yr 0,Yr 0,Yr 0,Yr 0,Yr 0,Yr 0,Y,Y,Y,Y,Y,Y,Yr 0,Yr 0,Yr 0,Yr 0,Yr 0,Y,Yr 0,Yr 0,Yr 0,Yc,Y,Y,Y,Yr 0,Yr 0,Yr 0,Y,Y,Y,Y],T:=[(3,ty3),(5,ty5),(43,acu),(79,agE),(81,agx)],S:=[],H:=[],res:=[.tmp 2],ios:=[0],G:=gl0}
def eD:List D→Option Out:=aX tM Tryz.f60
@[reducible] def uD:FS:={pm:=[.box 3 2 true],rm:=[Y],f:=eD}
theorem HW:au gl0 Tryz.prog 60 uD:=ay (c:=tM) al Tryz.func60 rfl rfl (by kernel_rfl)
@[reducible] def tR:Cx:={K:=[.box 3 2 true,Y,.no,.no,Y,Y,Y,Y,Yr 0,Y,Y,Y,Y,Y,Yr 0,Y,Y,Y,Y,Y],T:=[(3,ty3)],S:=[(60,uD)],H:=[],res:=[.tmp 4],ios:=[0],G:=gl0}
def aK:List D→Option Out:=aX tR Tryz.f49
@[reducible] def dA:FS:={pm:=[.box 3 2 true,Y],rm:=[Y],f:=aK}
theorem eI:au gl0 Tryz.prog 49 dA:=ay (c:=tR) (ab HW al) Tryz.func49 rfl rfl (by kernel_rfl)
@[reducible] def vA:Cx:={K:=[.box 3 2 true,Y,.no,.no,Y,Yr 0,Y,Y,Y],T:=[(3,ty3)],S:=[(49,dA)],H:=[],res:=[.tmp 4],ios:=[0],G:=gl0}
def eT:List D→Option Out:=aX vA Tryz.f48
@[reducible] def kI:FS:={pm:=[.box 3 2 true,Y],rm:=[Y],f:=eT}
theorem oS:au gl0 Tryz.prog 48 kI:=ay (c:=vA) (ab eI al) Tryz.func48 rfl rfl (by kernel_rfl)
@[reducible] def yn:Cx:={K:=[.box 3 2 true,Yc,.no,.no,Y,Yc,Yr 0,Yc,Y,Y,Yc,Y],T:=[(9,ty9),(62,Iw)],S:=[(49,dA)],H:=[],res:=[.tmp 4],ios:=[0],G:=gl0}
def bN:List D→Option Out:=aX yn Tryz.f62
@[reducible] def yk:FS:={pm:=[.box 3 2 true,Yc],rm:=[Y],f:=bN}
theorem Mj:au gl0 Tryz.prog 62 yk:=ay (c:=yn) (ab eI al) Tryz.func62 rfl rfl (by kernel_rfl)
@[reducible] def so:Cx:={K:=[.box 3 2 true,Yc,.no,.no,Y,Yc,Yr 0,Yc,Y,Y,Yc,Y],T:=[(3,ty3),(38,dq)],S:=[(49,dA)],H:=[],res:=[.tmp 4],ios:=[0],G:=gl0}
def dj:List D→Option Out:=aX so Tryz.f82
@[reducible] def mE:FS:={pm:=[.box 3 2 true,Yc],rm:=[Y],f:=dj}
theorem sr:au gl0 Tryz.prog 82 mE:=ay (c:=so) (ab eI al) Tryz.func82 rfl rfl (by kernel_rfl)
@[reducible] def uH:Cx:={K:=[.box 3 2 true,.no,.box 3 0 false,.box 3 0 false,Yr 0,Y,Yr 0,Y,Yr 0,Y,Y,Yr 0,Y,Yr 0,Yb,Y,Yr 3,Y],T:=[(3,ty3),(29,gQ),(38,dq)],S:=[(48,kI),(49,dA),(82,mE)],H:=[],res:=[.cell 2 29],ios:=[0],G:=gl0}
def kg:List D→Option Out:=aX uH Tryz.f64
@[reducible] def uG:FS:={pm:=[.box 3 2 true],rm:=[Y],f:=kg}
theorem Gw:au gl0 Tryz.prog 64 uG:=ay (c:=uH) (ab oS (ab eI (ab sr al))) Tryz.func64 rfl rfl (by kernel_rfl)
@[reducible] def sK:Cx:={K:=[.box 3 2 true,.no,Yo 2 0,Yo 2 0,Y,Y,Yr 0,Y,Y,Y,Y,Y,.via 3,Yr 0,Yb,Y,Yr 0,Y,Yo 2 0,Yr 0,Y,Y,Y,Yr 0,Y,Y,.via 3,Y,Y,Y,.via 3,.via 3,Y,Y,Y,Yr 0,Y,Y,Yb,Yo 2 0,Y,Y,Yo 2 0,Yr 0,Yb,Y,Yr 0,Yb,Y,Y,Yb,Yo 2 0,Y,Y,.via 3,Y,Y,.via 3,Yr 0,Yb,Y,Yr 3,Yr 3,Yo 2 0],T:=[(3,ty3),(33,gS),(38,dq),(75,om)],S:=[(49,dA),(82,mE),(83,xK)],H:=[(0,([0,3,4],[0,3])),(3,([0,3,5],[0,3]))],res:=[.tmp 2],ios:=[0],G:=gl0}
def jf:List D→Option Out:=aX sK Tryz.f65
@[reducible] def sX:FS:={pm:=[.box 3 2 true],rm:=[Yo 2 0],f:=jf}
theorem EY:au gl0 Tryz.prog 65 sX:=ay (c:=sK) (ab eI (ab sr (ab GJ al))) Tryz.func65 rfl rfl (by kernel_rfl)
@[reducible] def nb:Cx:={K:=[.box 3 2 true,.no,Y,Y,Y,Yb,Yr 0,Y,Y,Yr 0,Y,Y,Y,Yr 0,Y,Y,Y,Y,Yr 0,Yb,Y,Yr 0,Y,Y,Y,Y,Y,Yr 0,Y,Y,Y,Y,Yb,Y,Y,Y,Y,Yr 0,Yb,Yb,Y,Yb,Y,Y,Y,Y,Y,Yr 0,Yb,Y,Yr 0,Y,Y,Yb,Y,Y,Y,Y,Yr 0,Yb,Y,Y,Y,Yr 0,Y,Yb,Y,Y,Y,Y,Y,Yr 0,Y,Y,Y,Y,Yb,Y,Y,Y,Yr 0,Yb,Y,Y,Y,Y,Y,Y,Y,Yr 0,Y,Y,Y,Y,Yr 0,Y,Yb,Y,Y,Y,Y,Yr 0,Y,Y,Y,Y,Yb,Y,Y,Y,Yr 0,Yb,Y,Yr 0,Yb,Y],T:=[(3,ty3),(9,ty9),(62,Iw)],S:=[(49,dA),(61,eZ),(62,yk),(63,py),(64,uG),(65,sX),(66,jw),(67,vo)],H:=[],res:=[.tmp 2],ios:=[0],G:=gl0}
abbrev mW:List (Nat × List Nat):=[(7,[0]),(58,[0,3,4,14,15]),(943,[0,3,4,14,34]),(3775,[0,3,4,14,44]),(60415,[0,3,4,14,68]),(966655,[0,3,4,14,83])]
def dc:List D→Option Out:=Ej nb mW Tryz.f50
@[reducible] def eh:FS:={pm:=[.box 3 2 true],rm:=[Y],f:=dc}
theorem mT:au gl0 Tryz.prog 50 eh:=Kb (J:=mW) (P:=Tryz.prog) (c:=nb) (fn:=Tryz.f50) (pm:=eh.pm) (rm:=eh.rm) (by kernel_rfl) (ab eI (ab jh (ab Mj (ab vk (ab Gw (ab EY (ab lR (ab Eo al)))))))) dI (by kernel_rfl) Tryz.func50 (by kernel_rfl) (by kernel_rfl) rfl
@[reducible] def re:Cx:={K:=[Yc,.no,Y,Yr 10,Y,Y,Y,Y,Yc,Yc,.box 3 2 false,Yr 10,Y,Yr 10,Y,Y,Y,Y,Y,Y,Yr 10,Y,Y,Y,Yr 10,Y,Y,Y,Y,Y,Y,Y,Y,Y,Y,Yr 10,Y,Y,Y,Y,Y,Y,Y,Y,Y,Y,Y,Y,Yr 10,Y,Y,Y,Y,Y,Y,Y,Y,Y,Y,Y],T:=[(3,ty3),(9,ty9),(43,acu),(79,agE),(81,agx)],S:=[(48,kI),(49,dA),(50,eh)],H:=[(0,([3,4,5,10],[3,4,10])),(3,([4,6],[4])),(5,([4,7],[4]))],res:=[.tmp 2],ios:=[],G:=gl0}
def fA:List D→Option Out:=aX re Tryz.f31
@[reducible] def lC:FS:={pm:=[Yc],rm:=[Y],f:=fA}
theorem qR:au gl0 Tryz.prog 31 lC:=ay (c:=re) (ab oS (ab eI (ab mT al))) Tryz.func31 rfl rfl (by kernel_rfl)
@[reducible] def nU:Cx:={K:=[Yc,.no,Y,Y,Yr 8,Y,Yc,Yc,.box 3 2 false,Yc,Y,Yr 8,Yr 8,Yr 8,Yr 8,Y,Y,Y,Yr 8,Y,Y],T:=[(3,ty3),(9,ty9),(43,acu),(79,agE),(81,agx)],S:=[(31,lC),(48,kI),(50,eh)],H:=[],res:=[.tmp 2,.tmp 3],ios:=[],G:=gl0}
def fF:List D→Option Out:=aX nU Tryz.f38
@[reducible] def np:FS:={pm:=[Yc],rm:=[Y,Y],f:=fF}
theorem xz:au gl0 Tryz.prog 38 np:=ay (c:=nU) (ab qR (ab oS (ab mT al))) Tryz.func38 rfl rfl (by kernel_rfl)
@[reducible] def qf:Cx:={K:=[Yc,.no,Y,Yc,Y],T:=[],S:=[(31,lC)],H:=[],res:=[.tmp 2],ios:=[],G:=gl0}
def gJ:List D→Option Out:=aX qf Tryz.f33
@[reducible] def qu:FS:={pm:=[Yc],rm:=[Y],f:=gJ}
theorem zK:au gl0 Tryz.prog 33 qu:=ay (c:=qf) (ab qR al) Tryz.func33 rfl rfl (by kernel_rfl)
@[reducible] def NQ:Cx:={K:=[Yc,Yc,.no,.no,Y,Yc,Y,Y,Y,Yc,Y,Yc,Y,Y,Y,Y],T:=[(3,ty3),(5,ty5),(43,acu)],S:=[],H:=[],res:=[.tmp 4],ios:=[],G:=gl0}
def xN:List D→Option Out:=aX NQ Tryz.f30
@[reducible] def Nv:FS:={pm:=[Yc,Yc],rm:=[Y],f:=xN}
theorem Zt:au gl0 Tryz.prog 30 Nv:=ay (c:=NQ) al Tryz.func30 rfl rfl (by kernel_rfl)
@[reducible] def yF:Cx:={K:=[Yc,Yc,.no,.no,Y,Y,Yc,Y,Yc,Y,Y,Yc,Y,Y,Y,Y,Yc,Y,Yc,Y,Yc,Y,Yc,Y,Y,Y],T:=[(3,ty3),(38,dq)],S:=[],H:=[(0,([0,1,12,13],[]))],res:=[.tmp 4],ios:=[],G:=gl0}
def ml:List D→Option Out:=aX yF Tryz.f32
@[reducible] def yP:FS:={pm:=[Yc,Yc],rm:=[Y],f:=ml}
theorem LO:au gl0 Tryz.prog 32 yP:=ay (c:=yF) al Tryz.func32 rfl rfl (by kernel_rfl)
@[reducible] def uo:Cx:={K:=[Yc,Yc,.no,.no,Y,Y,Yc,Y,Yc,Y,Y,Yc,Y,Y,Y,Y,Yc,Y,Yc,Y,Yc,Y,Yc,Y,Y,Y],T:=[(3,ty3),(33,gS),(75,om)],S:=[],H:=[(0,([0,1,12,13],[]))],res:=[.tmp 4],ios:=[],G:=gl0}
def kj:List D→Option Out:=aX uo Tryz.f34
@[reducible] def uK:FS:={pm:=[Yc,Yc],rm:=[Y],f:=kj}
theorem HI:au gl0 Tryz.prog 34 uK:=ay (c:=uo) al Tryz.func34 rfl rfl (by kernel_rfl)
@[reducible] def tu:Cx:={K:=[Y,Y,.no,.no,Y,Y,Yb,Y,Yb,Y,Yb,Y,.tup [Yb,Y],Y,.tup [Yb,Y],Yb,Y,.tup [Yb,Y],Y,.tup [Yb,Y],Yb,Y,.tup [Yb,Y],Y,Y,Y,.tup [Yb,Y],Yb,Y,Y,Y,Y,Y,Y,Y,Y,Y,Y,Y,Y,Y,Y],T:=[(9,ty9)],S:=[(55,Bf)],H:=[],res:=[.tmp 4,.tmp 5],ios:=[],G:=gl0}
def iV:List D→Option Out:=aX tu Tryz.f40
@[reducible] def su:FS:={pm:=[Y,Y],rm:=[Y,Y],f:=iV}
theorem FE:au gl0 Tryz.prog 40 su:=ay (c:=tu) (ab AF al) Tryz.func40 rfl rfl (by kernel_rfl)
@[reducible] def rY:Cx:={K:=[Y,Y,.no,.no,Y,Y,Yb,Y,Yb,Y,Yb,Y,.tup [Yb,Y],Y,.tup [Yb,Y],Yb,Y,.tup [Yb,Y],Y,.tup [Yb,Y],Yb,Y,.tup [Yb,Y],Y,Y,Y,.tup [Yb,Y],Yb,Y,Y,Y,Y,Y,Y,Y,Y,Y,Y,Y,Y,Y,Y],T:=[(9,ty9)],S:=[(54,tw)],H:=[],res:=[.tmp 4,.tmp 5],ios:=[],G:=gl0}
def ja:List D→Option Out:=aX rY Tryz.f39
@[reducible] def sy:FS:={pm:=[Y,Y],rm:=[Y,Y],f:=ja}
theorem FW:au gl0 Tryz.prog 39 sy:=ay (c:=rY) (ab zQ al) Tryz.func39 rfl rfl (by kernel_rfl)
end Go.Proofs.YtjafgdefcggjcaaGreatDoor

end
