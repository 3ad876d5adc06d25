/-
  A part of the proof: contracts and plain forms of functions beneath the statement, made small by a program (names shortened, what is not needed left out).
-/
import Derived.Test.YtjafgdefcggjcaaGreatDoorRows
import Derived.Test.YtjafgdefcggjcaaGreatDoorTie
import Derived.Test.YtjafgdefcggjcaaGreatDoorCards
import Derived.Test.YtjafgdefcggjcaaGreatDoorM10
open Int renaming reduceLT → aht, reduceLE → ahu, reduceEq → ahv
open Go.IntKind renaming i64 → ahw
open Option renaming bind_some → ahx, map → ahB
open Go.Value renaming int → ahy, string → ahD
open List renaming length_eq_one_iff → ahz, length_append → ahE, getElem?_eq_getElem → ahF, eq_nil_of_length_eq_zero → ahG, length_map → ahH, length_cons → ahN, length_nil → ahO, mem_singleton → ahP, getElem?_map → ahQ, take_succ_eq_append_getElem → ahR, nil_append → ahS, pairwise_cons → ahU, mem_cons → ahV, append_assoc → ahX, take_length → ahY, length_take → ahZ, mem_append → ah0, length_singleton → ah1, take_succ_cons → ah2, drop_succ_cons → ah3, append_nil → ah5, foldl_cons → ah6
open Bool renaming false_eq_true → ahA, not_true → ahI, and_eq_true → ahK, not_false → ahM, true_eq_false → ah4
open Go.Lib renaming trimSuffix → ahC
open Nat renaming zero_le → ahJ, le_refl → ahL
open Prod renaming ext → ahT
open List.Pairwise renaming nil → ahW
open List.Perm renaming refl → ah7
open Go.BinOp renaming add → ah8
set_option linter.unusedSimpArgs false
set_option linter.unusedVariables false
noncomputable section
namespace Go.Proofs.YtjafgdefcggjcaaGreatDoor
open Go.V
set_option maxRecDepth 100000
@[reducible] def BL:TI:={agg:=true,n:=7,zero:=[.v (.int .i64 0),.v (.int .i64 0),.v (.int .i64 0),.arr 2 [],.arr 1 [],.v (.string ⟨#[]⟩),.arr 2 []],fs:=[(0,29),(3,33),(4,38),(5,9),(6,57)]}
@[reducible] def ab2:TI:={agg:=true,n:=3,zero:=[.v (.string ⟨#[]⟩),.v (.string ⟨#[]⟩),.arr 1 []],fs:=[(0,9),(1,9),(2,38)]}
@[reducible] def nG:Cx:={K:=[.box 7 2 true,kd0,.no,.no,kd0,.box 3 0 false,kd0,.tup [kd0,kd0],kd0,.tup [kd0,kd0],kd0,kd0,kd0,kd0,.tup [kd0,kd0],.ref 0,.ref 0,.ref 0,.ref 0,kd0,kd0,kd1,.tup [kd0,kd0],kd0,kd0,.ref 0,.ref 0,kd0,kd0,.ref 0,.ref 0,.ref 0,kd0,kd0],T:=[(3,ty3),(9,ty9),(29,fY),(33,fZ),(38,cY),(57,mr),(61,BL),(128,ZX)],S:=[(118,nM),(163,lw),(164,vR)],H:=[],res:=[.tmp 4],ios:=[0],G:=gl2}
def fQ:List D→Option Out:=aS nG Tryz.f120
@[reducible] def nJ:FS:={pm:=[.box 7 2 true,kd0],rm:=[kd0],f:=fQ}
theorem ye:au gl2 Tryz.prog 120 nJ:=ax (c:=nG) (ab vE (ab (aI BZ pR) (ab (aI mw IW) al))) Tryz.func120 rfl rfl (by kernel_rfl)
@[reducible] def nH:Cx:={K:=[.box 7 2 true,kd0,.no,.no,kd0,.box 3 0 false,.box 3 0 false,kd0,.tup [kd0,kd0,kd0],.ref 0,.ref 0,.ref 0,kd0,kd0,.tup [kd0,kd0,kd0],kd0,kd0,kd0,kd0,kd0,.ref 0,kd0,.ref 0,.ref 0,kd0,kd0],T:=[(3,ty3),(9,ty9),(29,fY),(33,fZ),(38,cY),(57,mr),(61,BL)],S:=[(163,lw),(165,wY)],H:=[],res:=[.tmp 4],ios:=[0],G:=gl1}
def fO:List D→Option Out:=aS nH Tryz.f121
@[reducible] def nE:FS:={pm:=[.box 7 2 true,kd0],rm:=[kd0],f:=fO}
theorem yn:au gl1 Tryz.prog 121 nE:=ax (c:=nH) (ab pR (ab (aI Jt LY) al)) Tryz.func121 rfl rfl (by kernel_rfl)
@[reducible] def tg:Cx:={K:=[kd0,.no,.own 2 0 false,kd0,.own 2 0 false,kd1,.own 2 0 false,kd0,kd1,kd1,kd0,kd0,kd1,kd1,.own 2 0 false,kd1,kd1,kd0,kd1,kd1,kd0,kd0,kd1,.own 2 0 false,.via 4,kd0,kd0,kd0,.via 4,kd0,kd0,kd0,kd0,.own 2 0 false,.own 2 0 false],T:=[(3,ty3),(9,ty9),(33,fZ),(38,cY),(75,mq)],S:=[(36,ic),(86,kw),(166,og)],H:=[(0,([0,4,5],[0,4]))],res:=[.tmp 2,.tmp 3],ios:=[],G:=gl2}
def jn:List D→Option Out:=aS tg Tryz.f122
@[reducible] def tk:FS:={pm:=[kd0],rm:=[.own 2 0 false,kd0],f:=jn}
theorem Ii:au gl2 Tryz.prog 122 tk:=ax (c:=tg) (ab (aI mw jF) (ab oa (ab (aI BZ vp) al))) Tryz.func122 rfl rfl (by kernel_rfl)
@[reducible] def nF:Cx:={K:=[.box 7 2 true,kd0,.no,.no,kd0,kd1,kd0,.tup [kd1,kd0],.ref 0,.ref 0,.ref 0,kd2,kd0,.tup [kd1,kd0],kd1,kd0,kd0,kd0,.ref 0,.ref 0,.ref 0,.ref 0,kd2,kd1,kd1,.ref 0,.ref 0,kd1,kd0],T:=[(9,ty9),(29,fY),(33,fZ),(38,cY),(57,mr),(61,BL),(75,mq)],S:=[(134,pf),(167,CP),(168,Ks)],H:=[],res:=[.tmp 4],ios:=[0],G:=gl1}
def fS:List D→Option Out:=aS nF Tryz.f123
@[reducible] def nC:FS:={pm:=[.box 7 2 true,kd0],rm:=[kd0],f:=fS}
theorem yc:au gl1 Tryz.prog 123 nC:=ax (c:=nF) (ab pF (ab (aI Jt RE) (ab (aI Jt XH) al))) Tryz.func123 rfl rfl (by kernel_rfl)
@[reducible] def vD:Cx:={K:=[.box 7 2 true,kd0,kd0,.no,.no,.no,kd0,kd2,kd0,.tup [kd2,kd0],.ref 0,.ref 0,.ref 0,kd2,kd0,kd0,.tup [kd2,kd0],kd2,kd0,kd0,kd0,.ref 0,kd2,.ref 0,.ref 0,kd2,kd0],T:=[(9,ty9),(29,fY),(33,fZ),(38,cY),(57,mr),(61,BL),(75,mq)],S:=[(166,og),(169,zo)],H:=[],res:=[.tmp 6],ios:=[0],G:=gl1}
def kB:List D→Option Out:=aS vD Tryz.f124
@[reducible] def vc:FS:={pm:=[.box 7 2 true,kd0,kd0],rm:=[kd0],f:=kB}
theorem IV:au gl1 Tryz.prog 124 vc:=ax (c:=vD) (ab vp (ab (aI Jt MI) al)) Tryz.func124 rfl rfl (by kernel_rfl)
@[reducible] def vz:Cx:={K:=[.box 7 2 true,kd0,.no,.no,kd0,.ref 0,.own 1 0 false,.ref 0,.ref 0,.ref 0,kd2,.own 1 0 false,kd0,kd1,kd1,.ref 0,.ref 0,.ref 0,.ref 0,.ref 0,kd2,kd0,.ref 0,.ref 0,.ref 0,kd2,kd0,kd0],T:=[(3,ty3),(9,ty9),(29,fY),(33,fZ),(38,cY),(57,mr),(61,BL)],S:=[(170,fC),(171,nf)],H:=[],res:=[.tmp 4],ios:=[0],G:=gl1}
def ky:List D→Option Out:=aS vz Tryz.f125
@[reducible] def uN:FS:={pm:=[.box 7 2 true,kd0],rm:=[kd0],f:=ky}
theorem Iy:au gl1 Tryz.prog 125 uN:=ax (c:=vz) (ab iy (ab (aI Jt sm) al)) Tryz.func125 rfl rfl (by kernel_rfl)
@[reducible] def sf:Cx:={K:=[kd2,.no,kd0,kd0,kd2,kd0,kd0,kd0,kd2,kd0,kd0,kd0,kd0,kd2,kd0],T:=[(3,ty3),(9,ty9)],S:=[(87,iN),(233,sa)],H:=[],res:=[.tmp 2,.tmp 3],ios:=[],G:=gl1}
def iw:List D→Option Out:=aS sf Tryz.f206
@[reducible] def so:FS:={pm:=[kd2],rm:=[kd0,kd0],f:=iw}
theorem EA:au gl1 Tryz.prog 206 so:=ax (c:=sf) (ab (aI Jt lE) (ab EC al)) Tryz.func206 rfl rfl (by kernel_rfl)
@[reducible] def tv:Cx:={K:=[kd0,kd0,.no,.box 3 0 false,kd0,kd0,.own 3 0 false,kd0,.tup [.own 3 0 false,kd0],kd0,.tup [.own 3 0 false,kd0],.own 3 0 false,kd0,kd0,kd0,kd0,kd0,kd0,kd0,kd0,.own 3 0 false,kd0,kd1,kd1,.tup [kd0,kd0],kd0,kd0],T:=[(3,ty3),(48,Ez),(121,jR)],S:=[(53,iD),(133,ux),(206,so)],H:=[],res:=[.tmp 4,.tmp 5],ios:=[],G:=gl2}
def ji:List D→Option Out:=aS tv Tryz.f172
@[reducible] def td:FS:={pm:=[kd0,kd0],rm:=[kd0,kd0],f:=ji}
theorem GW:au gl2 Tryz.prog 172 td:=ax (c:=tv) (ab lN (ab (aI mw Ca) (ab (aI BZ EA) al))) Tryz.func172 rfl rfl (by kernel_rfl)
@[reducible] def tF:Cx:={K:=[.box 7 2 true,kd0,.no,.box 3 0 false,kd0,kd0,kd0,kd1,kd0,.tup [kd0,kd0],.ref 0,.ref 0,.ref 0,kd0,kd0,.tup [kd0,kd0],kd0,kd0,.ref 0,kd0,.ref 0,.ref 0,.tup [.own 3 0 false,kd0],kd0,.tup [.own 3 0 false,kd0],kd1,kd0,kd1,kd0,kd0,kd0],T:=[(3,ty3),(9,ty9),(29,fY),(33,fZ),(38,cY),(48,Ez),(57,mr),(61,BL),(121,jR)],S:=[(53,iD),(170,fC),(172,td)],H:=[],res:=[.tmp 4],ios:=[0],G:=gl2}
def jm:List D→Option Out:=aS tF Tryz.f126
@[reducible] def sW:FS:={pm:=[.box 7 2 true,kd0],rm:=[kd0],f:=jm}
theorem Hu:au gl2 Tryz.prog 126 sW:=ax (c:=tF) (ab lN (ab (aI BZ iy) (ab GW al))) Tryz.func126 rfl rfl (by kernel_rfl)
@[reducible] def sT:Cx:={K:=[.box 7 2 true,kd0,.no,.no,kd0,.ref 0,.own 2 0 false,.ref 0,.ref 0,.ref 0,kd2,.own 2 0 false,kd0,kd0,kd1,kd1,.ref 0,.ref 0,.ref 0,.ref 0,.ref 0,kd2,kd0,.ref 0,.ref 0,.ref 0,kd2,kd0,kd0],T:=[(3,ty3),(4,ty4),(9,ty9),(29,fY),(33,fZ),(38,cY),(57,mr),(61,BL),(147,Ea)],S:=[(170,fC),(173,xY)],H:=[],res:=[.tmp 4],ios:=[0],G:=gl1}
def jh:List D→Option Out:=aS sT Tryz.f127
@[reducible] def sU:FS:={pm:=[.box 7 2 true,kd0],rm:=[kd0],f:=jh}
theorem GP:au gl1 Tryz.prog 127 sU:=ax (c:=sT) (ab iy (ab (aI Jt pN) al)) Tryz.func127 rfl rfl (by kernel_rfl)
@[reducible] def CG:Cx:={K:=[kd2,.no,.own 1 0 false,.own 1 0 false,.own 1 0 false,kd2,.own 1 0 false,.via 3,.no,.own 1 0 false],T:=[(3,ty3),(38,cY)],S:=[(235,KU)],H:=[],res:=[.tmp 2],ios:=[],G:=gl0}
def oB:List D→Option Out:=aS CG Tryz.f209
@[reducible] def Cu:FS:={pm:=[kd2],rm:=[.own 1 0 false],f:=oB}
theorem RD:au gl0 Tryz.prog 209 Cu:=ax (c:=CG) (ab Xa al) Tryz.func209 rfl rfl (by kernel_rfl)
@[reducible] def vN:Cx:={K:=[kd2,.no,kd0,kd0,kd2,kd0,kd0,kd2,kd1,kd2,kd0,kd0,kd0,kd1,kd0],T:=[(3,ty3),(38,cY)],S:=[(171,nf),(209,Cu)],H:=[],res:=[.tmp 2,.tmp 3],ios:=[],G:=gl0}
def kc:List D→Option Out:=aS vN Tryz.f176
@[reducible] def vk:FS:={pm:=[kd2],rm:=[kd0,kd0],f:=kc}
theorem Ji:au gl0 Tryz.prog 176 vk:=ax (c:=vN) (ab sm (ab RD al)) Tryz.func176 rfl rfl (by kernel_rfl)
@[reducible] def uE:Cx:={K:=[.box 7 2 true,kd2,.no,.box 3 2 false,kd0,kd1,kd0,kd1,kd0,kd0,kd0,kd0,kd0,kd0,kd0,kd0,kd0,.tup [.own 3 0 false,kd0],.ref 0,.ref 0,.ref 0,kd0,.tup [.own 3 0 false,kd0],kd1,kd0,.ref 3,kd0,kd0,kd0,.tup [.own 1 0 false,kd0],.ref 0,.ref 0,.ref 0,kd0,.tup [.own 1 0 false,kd0],kd1,kd0,kd0,kd0,kd1,kd0,kd0,kd0,.ref 0,.ref 0,.ref 0,kd2,.ref 3,kd2,kd2,kd0,.tup [kd0,kd0],kd0,kd0,kd0,kd0,kd0,.ref 0,.ref 0,.ref 0,kd2,.tup [kd0,kd0],kd0,kd0,kd0,kd0,kd0,.tup [kd0,kd0,kd0],.ref 0,.ref 0,.ref 0,kd2,.tup [kd0,kd0,kd0],kd0,kd0,kd0,kd0,kd0,kd1,kd0,kd0,kd0,kd1,.ref 3,kd2,kd2,kd0,.ref 3,kd2,kd2,kd0,.tup [kd0,kd0],kd0,kd0,kd0,kd0,kd0,.tup [kd0,kd0,kd0],kd1,.ref 3,kd2,kd2,kd0,.tup [kd0,kd0,kd0],kd0,kd0,kd0,kd0,kd0,kd0,.tup [kd0,kd0],.ref 0,.ref 0,.ref 0,kd2,.tup [kd0,kd0],kd0,kd0,kd0],T:=[(3,ty3),(9,ty9),(29,fY),(33,fZ),(38,cY),(57,mr),(61,BL),(75,mq),(107,ab2),(147,Ea)],S:=[(53,iD),(134,pf),(170,fC),(174,xK),(175,tG),(176,vk),(177,qr),(178,sF),(179,sR),(180,sI)],H:=[],res:=[.tmp 4],ios:=[0],G:=gl2}
def kg:List D→Option Out:=aS uE Tryz.f128
@[reducible] def vB:FS:={pm:=[.box 7 2 true,kd2],rm:=[kd0],f:=kg}
theorem Ke:au gl2 Tryz.prog 128 vB:=ax (c:=uE) (ab lN (ab (aI BZ pF) (ab (aI BZ iy) (ab (aI mw LD) (ab (aI mw FC) (ab (aI mw Ji) (ab (aI mw BA) (ab (aI mw FR) (ab (aI mw HE) (ab (aI BZ HS) al)))))))))) Tryz.func128 rfl rfl (by kernel_rfl)
@[reducible] def pu:Cx:={K:=[.box 7 2 true,kd2,.no,.box 3 2 false,kd0,kd0,.ref 3,kd0,kd0,kd0,.tup [kd0,kd0],.ref 0,.ref 3,kd0,.tup [kd0,kd0],kd0,kd0,.ref 0,.ref 0,kd0,kd0,kd0,kd0,.ref 0,.ref 3,kd0,kd0,kd0,kd0,.ref 0,.ref 3,kd2,kd2,kd0,kd0,kd0,kd0,.tup [.own 2 0 false,kd0],.ref 0,.ref 3,kd0,.tup [.own 2 0 false,kd0],kd1,kd0,.ref 0,.ref 0,kd0,kd0,kd0,kd0,.ref 0,.ref 3,kd2,kd2,kd0,kd0,kd0,kd0,.ref 0,.ref 3,kd2,kd2,kd0,.ref 3,kd2,kd2,kd0,kd0,kd0,kd0,.ref 0,.ref 3,kd2,kd2,kd0,kd0,kd0,kd0,.ref 0,.ref 3,kd2,kd2,kd0,.ref 3,kd2,kd2,kd0,.ref 3,kd2,kd2,kd0,kd0,kd0,kd0,kd0,.ref 0,.ref 3,kd2,kd2,kd0,kd0,.ref 0,kd2,kd0],T:=[(3,ty3),(9,ty9),(29,fY),(33,fZ),(38,cY),(57,mr),(61,BL),(75,mq),(107,ab2),(121,jR)],S:=[(118,nM),(119,Ab),(120,nJ),(121,nE),(122,tk),(123,nC),(124,vc),(125,uN),(126,sW),(127,sU),(128,vB)],H:=[],res:=[.tmp 4],ios:=[0],G:=gl2}
def aM:List D→Option Out:=aS pu Tryz.f80
@[reducible] def pg:FS:={pm:=[.box 7 2 true,kd2],rm:=[kd0],f:=aM}
theorem Aq:au gl2 Tryz.prog 80 pg:=ax (c:=pu) (ab vE (ab (aI mw Nu) (ab ye (ab (aI BZ yn) (ab Ii (ab (aI BZ yc) (ab (aI BZ IV) (ab (aI BZ Iy) (ab Hu (ab (aI BZ GP) (ab Ke al))))))))))) Tryz.func80 rfl rfl (by kernel_rfl)
@[reducible] def rP:Cx:={K:=[.box 7 2 true,kd0,.no,.no,kd0,.box 3 1 false,kd0,.box 7 2 false,kd0,.tup [kd1,kd0],kd0,.tup [kd1,kd0],kd1,kd0,kd0,kd0,.ref 0,.ref 0,kd2,kd1,kd0,kd0,kd0,.ref 0,kd2,.ref 0,kd0],T:=[(9,ty9),(29,fY),(33,fZ),(38,cY),(57,mr),(61,BL),(107,ab2)],S:=[(79,xP),(80,pg)],H:=[],res:=[.tmp 4],ios:=[0],G:=gl2}
def fB:List D→Option Out:=aS rP Tryz.f58
@[reducible] def sq:FS:={pm:=[.box 7 2 true,kd0],rm:=[kd0],f:=fB}
theorem EF:au gl2 Tryz.prog 58 sq:=ax (c:=rP) (ab LS (ab Aq al)) Tryz.func58 rfl rfl (by kernel_rfl)
@[reducible] def vG:Cx:={K:=[kd0,.no,.box 7 2 false,.own 1 0 false,kd0,kd1,kd0,.box 7 2 false,.own 1 0 false,.no,kd0,.tup [kd1,kd0],kd0,.tup [kd1,kd0],kd1,kd0,kd0,kd0,kd0,kd1,kd1,.own 1 0 false,kd1,kd0,kd0,kd0,kd1,kd0,.own 1 0 false,kd0,kd0,kd1,.own 1 0 false,kd0,kd2,.own 1 0 false],T:=[(3,ty3),(9,ty9),(29,fY),(33,fZ),(38,cY),(57,mr),(61,BL),(62,Jm)],S:=[(54,zC),(58,sq)],H:=[(0,([2,7,8,22,23,24],[2,7,8]))],res:=[.cell 2 61,.tmp 3,.tmp 4],ios:=[],G:=gl2}
def dK:List D→Option Out:=aS vG Tryz.f42
@[reducible] def fA:FS:={pm:=[kd0],rm:=[kd2,.own 1 0 false,kd0],f:=dK}
theorem gV:au gl2 Tryz.prog 42 fA:=ax (c:=vG) (ab (aI mw Nq) (ab EF al)) Tryz.func42 rfl rfl (by kernel_rfl)
@[reducible] def pY:Cx:={K:=[kd0,.no,kd0,kd0,.box 7 2 false,kd1,kd0,.tup [kd2,.own 1 0 false,kd0],kd0,.tup [kd2,.own 1 0 false,kd0],kd2,kd1,kd0,.ref 4,kd0,kd0],T:=[(9,ty9),(29,fY),(33,fZ),(38,cY),(57,mr),(61,BL)],S:=[(42,fA)],H:=[],res:=[.tmp 2,.tmp 3],ios:=[],G:=gl2}
def gF:List D→Option Out:=aS pY Tryz.f12
@[reducible] def qq:FS:={pm:=[kd0],rm:=[kd0,kd0],f:=gF}
theorem BB:au gl2 Tryz.prog 12 qq:=ax (c:=pY) (ab gV al) Tryz.func12 rfl rfl (by kernel_rfl)
@[reducible] def qy:Cx:={K:=[kd0,.no,kd0,kd0,kd2,kd0,kd0,.tup [kd2,kd0,kd0],kd0,.tup [kd2,kd0,kd0],kd2,kd0,kd0,kd0,kd0,kd2,kd2,kd2,kd0],T:=[(3,ty3),(9,ty9),(29,fY),(33,fZ),(38,cY),(57,mr),(59,VK)],S:=[(41,kq)],H:=[],res:=[.tmp 2,.tmp 3],ios:=[],G:=gl0}
def gP:List D→Option Out:=aS qy Tryz.f11
@[reducible] def qb:FS:={pm:=[kd0],rm:=[kd0,kd0],f:=gP}
theorem BV:au gl0 Tryz.prog 11 qb:=ax (c:=qy) (ab ng al) Tryz.func11 rfl rfl (by kernel_rfl)
@[reducible] def qF:Cx:={K:=[kd0,.no,kd0,kd0,kd0,kd0,.box 7 2 false,kd1,kd0,kd0,kd0,.no,kd0,.tup [kd2,.own 1 0 false,kd0],kd0,.tup [kd2,.own 1 0 false,kd0],kd2,kd1,kd0,kd1,kd0,kd0,kd0,kd1,kd0,kd0,kd0,kd0,kd0,kd0,kd0,kd0,kd0,kd0,kd0,kd0,kd0,kd1,kd0,kd0,kd0,kd0,kd0,kd0],T:=[(3,ty3),(9,ty9),(29,fY),(33,fZ),(38,cY),(57,mr),(61,BL),(62,Jm)],S:=[(42,fA)],H:=[(0,([7,8,9,10,19,20,21],[7,8,9,10]))],res:=[.tmp 2,.tmp 3,.tmp 4,.tmp 5],ios:=[],G:=gl2}
def gN:List D→Option Out:=aS qF Tryz.f16
@[reducible] def qg:FS:={pm:=[kd0],rm:=[kd0,kd0,kd0,kd0],f:=gN}
theorem BD:au gl2 Tryz.prog 16 qg:=ax (c:=qF) (ab gV al) Tryz.func16 rfl rfl (by kernel_rfl)
@[reducible] def qm:Cx:={K:=[kd0,.no,kd0,kd0,kd0,kd0,kd2,kd0,kd0,.tup [kd2,kd0,kd0],kd0,.tup [kd2,kd0,kd0],kd2,kd0,kd0,kd0,kd0,kd2,kd2,kd2,kd2,kd0,kd2,kd2,kd2,kd2,kd0,kd2,kd2,kd2,kd0,kd2,kd2,kd2,kd2,kd0,kd0,kd2,kd2,kd2,kd2,kd0,kd0],T:=[(3,ty3),(9,ty9),(29,fY),(33,fZ),(38,cY),(57,mr),(59,VK)],S:=[(41,kq)],H:=[],res:=[.tmp 2,.tmp 3,.tmp 4,.tmp 5],ios:=[],G:=gl0}
def gL:List D→Option Out:=aS qm Tryz.f15
@[reducible] def qE:FS:={pm:=[kd0],rm:=[kd0,kd0,kd0,kd0],f:=gL}
theorem BU:au gl0 Tryz.prog 15 qE:=ax (c:=qm) (ab ng al) Tryz.func15 rfl rfl (by kernel_rfl)
@[reducible] def vP:Cx:={K:=[kd0,.no,.box 3 0 false,kd0,.box 7 2 false,kd1,kd0,.tup [kd2,.own 1 0 false,kd0],kd0,.tup [kd2,.own 1 0 false,kd0],kd2,kd1,kd0,.ref 4,kd0,kd0],T:=[(3,ty3),(9,ty9),(29,fY),(33,fZ),(38,cY),(57,mr),(61,BL)],S:=[(42,fA)],H:=[],res:=[.cell 2 29,.tmp 3],ios:=[],G:=gl2}
def ki:List D→Option Out:=aS vP Tryz.f18
@[reducible] def uH:FS:={pm:=[kd0],rm:=[kd0,kd0],f:=ki}
theorem Jp:au gl2 Tryz.prog 18 uH:=ax (c:=vP) (ab gV al) Tryz.func18 rfl rfl (by kernel_rfl)
@[reducible] def uA:Cx:={K:=[kd0,.no,.box 3 0 false,kd0,kd2,kd0,kd0,.tup [kd2,kd0,kd0],kd0,.tup [kd2,kd0,kd0],kd2,kd0,kd0,kd0,kd0,kd0,kd2,kd2,kd2,kd0],T:=[(3,ty3),(9,ty9),(29,fY),(33,fZ),(38,cY),(57,mr),(59,VK)],S:=[(41,kq)],H:=[],res:=[.cell 2 29,.tmp 3],ios:=[],G:=gl0}
def kj:List D→Option Out:=aS uA Tryz.f17
@[reducible] def uP:FS:={pm:=[kd0],rm:=[kd0,kd0],f:=kj}
theorem Jn:au gl0 Tryz.prog 17 uP:=ax (c:=uA) (ab ng al) Tryz.func17 rfl rfl (by kernel_rfl)
@[reducible] def sQ:Cx:={K:=[kd0,.no,.own 2 0 false,kd0,.box 7 2 false,kd1,kd0,.tup [kd2,.own 1 0 false,kd0],kd0,.tup [kd2,.own 1 0 false,kd0],kd2,kd1,kd0,.own 2 0 false,.ref 4,kd2,.own 2 0 false,kd0],T:=[(9,ty9),(29,fY),(33,fZ),(38,cY),(57,mr),(61,BL),(75,mq)],S:=[(42,fA)],H:=[],res:=[.tmp 2,.tmp 3],ios:=[],G:=gl2}
def gg:List D→Option Out:=aS sQ Tryz.f21
@[reducible] def tD:FS:={pm:=[kd0],rm:=[.own 2 0 false,kd0],f:=gg}
theorem GG:au gl2 Tryz.prog 21 tD:=ax (c:=sQ) (ab gV al) Tryz.func21 rfl rfl (by kernel_rfl)
@[reducible] def tB:Cx:={K:=[kd0,.no,.own 2 0 false,kd0,kd2,kd0,kd0,.tup [kd2,kd0,kd0],kd0,.tup [kd2,kd0,kd0],kd2,kd0,kd0,kd0,kd0,.own 2 0 false,kd2,kd2,kd2,kd2,.own 2 0 false],T:=[(3,ty3),(9,ty9),(29,fY),(33,fZ),(38,cY),(57,mr),(59,VK),(75,mq)],S:=[(41,kq)],H:=[],res:=[.tmp 2,.tmp 3],ios:=[],G:=gl0}
def jy:List D→Option Out:=aS tB Tryz.f20
@[reducible] def sO:FS:={pm:=[kd0],rm:=[.own 2 0 false,kd0],f:=jy}
theorem FX:au gl0 Tryz.prog 20 sO:=ax (c:=tB) (ab ng al) Tryz.func20 rfl rfl (by kernel_rfl)
@[reducible] def rN:Cx:={K:=[kd0,.no,.own 1 0 false,kd0,.box 7 2 false,kd1,kd0,.own 1 0 false,kd0,kd0,.tup [kd2,.own 1 0 false,kd0],kd0,.tup [kd2,.own 1 0 false,kd0],kd2,kd1,kd0,.own 1 0 false,kd1,kd0,kd0,kd0,kd0,kd1,kd0,kd0,kd0,kd0,kd0,kd0,kd0,.own 1 0 false,kd0,kd0,kd1,.own 1 0 false,kd0,.own 1 0 false,kd0],T:=[(3,ty3),(9,ty9),(29,fY),(33,fZ),(38,cY),(57,mr),(61,BL),(62,Jm)],S:=[(42,fA)],H:=[(0,([6,7,17,18,19],[6,7]))],res:=[.tmp 2,.tmp 3],ios:=[],G:=gl2}
def fL:List D→Option Out:=aS rN Tryz.f26
@[reducible] def se:FS:={pm:=[kd0],rm:=[.own 1 0 false,kd0],f:=fL}
theorem Ex:au gl2 Tryz.prog 26 se:=ax (c:=rN) (ab gV al) Tryz.func26 rfl rfl (by kernel_rfl)
@[reducible] def rY:Cx:={K:=[kd0,.no,kd2,kd0,kd2,kd0,kd0,kd2,.no,kd0,.tup [kd2,kd0,kd0],kd0,.tup [kd2,kd0,kd0],kd2,kd0,kd0,kd0,kd0,kd2,kd2,kd2,kd2,.own 1 0 false,kd2,kd2,kd2,kd2,kd2,kd0,kd0,kd0,kd2,kd0,kd2,kd0,kd2,kd0,kd2],T:=[(3,ty3),(9,ty9),(29,fY),(33,fZ),(38,cY),(57,mr),(59,VK)],S:=[(41,kq),(46,mz),(47,Hx)],H:=[(0,([7,27,28,29],[7]))],res:=[.tmp 2,.tmp 3],ios:=[],G:=gl0}
def iC:List D→Option Out:=aS rY Tryz.f25
@[reducible] def rG:FS:={pm:=[kd0],rm:=[kd2,kd0],f:=iC}
theorem EQ:au gl0 Tryz.prog 25 rG:=ax (c:=rY) (ab ng (ab qK (ab TB al))) Tryz.func25 rfl rfl (by kernel_rfl)
end Go.Proofs.YtjafgdefcggjcaaGreatDoor

namespace Go.Proofs.YtjafgdefcggjcaaGreatDoor
open Go Go.V
theorem yb (x0 x1:D):fQ [x0,x1]=(ae (gW [x1]) fun c _=>(aq (.tup c) 0).bind fun z=>(aq (.tup c) 1).bind fun e=>(stD 3 (.agg [I 0,I 0,I 0]) (.ref 0 0) z).bind fun b=>(un .not e).bind fun z=>ifD z ((aa x0 x0).bind fun _=>some (.ret [.v (.string ⟨⟨[110,111]⟩⟩)] [x0])) ((aa x0 (.ref 0 0)).bind fun z=>(aa x0 (.ref 0 0)).bind fun d=>(aa d d).bind fun f=>(bc 0 f).bind fun g=>(((atD x0 g).bind (an true 3)).bind aL).bind fun h=>(bf true 3 0 b).bind fun j=>(aH 3 [h,j]).bind fun a=>ae (kt [a]) fun c _=>(aq (.tup c) 0).bind fun k=>(aq (.tup c) 1).bind fun l=>(aa z z).bind fun z=>(bc 0 z).bind fun z=>(stD 3 x0 z k).bind fun b=>(un .not l).bind fun z=>ifD z ((aa b b).bind fun _=>some (.ret [.v (.string ⟨⟨[110,111]⟩⟩)] [b])) ((aa b (.ref 0 0)).bind fun z=>(aa z z).bind fun z=>(bc 0 z).bind fun z=>(((atD b z).bind (an true 3)).bind aL).bind fun z=>ae (ga [z]) fun c _=>(aa b b).bind fun _=>some (.ret [sl c 0] [b])))):=by kernel_rfl
theorem yj (x0 x1:D):fO [x0,x1]=((aa x0 (.ref 0 0)).bind fun z=>(aa z z).bind fun z=>(bc 0 z).bind fun z=>(((atD x0 z).bind (an true 3)).bind aL).bind fun z=>ae (lB [z,x1]) fun c _=>(aq (.tup c) 0).bind fun z=>(aq (.tup c) 1).bind fun e=>(aq (.tup c) 2).bind fun f=>(stD 3 (.agg [I 0,I 0,I 0]) (.ref 0 0) z).bind fun _=>(stD 3 (.agg [I 0,I 0,I 0]) (.ref 0 0) e).bind fun b=>(un .not f).bind fun z=>ifD z ((aa x0 x0).bind fun _=>some (.ret [.v (.string ⟨⟨[110,111]⟩⟩)] [x0])) ((aa x0 (.ref 0 0)).bind fun z=>(bf true 3 0 b).bind fun g=>(aa z z).bind fun z=>(bc 0 z).bind fun z=>(stD 3 x0 z g).bind fun d=>(bf true 3 0 b).bind fun z=>ae (ga [z]) fun c _=>(aa d d).bind fun _=>some (.ret [sl c 0] [d]))):=by kernel_rfl
theorem HN (x0:D):jn [x0]=((aH 2 []).bind fun a=>ae (fx [x0]) fun c _=>(aX (fun s=>(lenD false (sl s 2)).bind fun z=>(bin .geq false [] z (I 2)).bind fun z=>ifD z ((ahB D.ptr (ao 1 (sl s 2) (I 1))).bind fun z=>((ldD false 1 z).bind aL).bind fun z=>(ahB D.ptr (ao 1 (sl s 2) (I 0))).bind fun d=>((ldD false 1 d).bind aL).bind fun e=>(dw [(0,1),(1,1)] [I 0,I 0] [z,e]).bind fun z=>(aH 2 [z]).bind fun a=>(cK a).bind fun b=>(bA 2 16 (sl s 1) b).bind fun y=>(cJ false 1 (sl s 2) (I 2)).bind fun z=>some (.nrm [sl s 0,y,z])) (some (.ext 0 [sl s 0,sl s 1]))) [x0,a,sl c 0]).bind fun o=>bY o (fun i s=>ifN (i.beq 0) ((aa (sl s 1) (.ref 0 0)).bind fun z=>(aa z (sl s 1)).bind fun i=>ae (eM [i]) fun c _=>(un .not (sl c 0)).bind fun z=>(aj D.bad z false (aa (sl s 1) (.ref 0 0))).bind fun d=>cR z false ((aa d (sl s 1)).bind fun i=>ae (Eu [i]) fun c _=>some (.nrm [sl c 0])) [.tup []] fun f=>(aj (.tup []) z false (some (sl s 0))).bind fun e=>(aj (.tup []) z false (bin .neq false [] (sl f 0) e)).bind fun g=>(aT z (B true) g).bind fun z=>ifD z ((aH 2 []).bind fun a=>some (.ret [a,B false] [])) (some (.ret [sl s 1,B true] []))) none) fun a b=>some (.ret a b)):=by kernel_rfl
theorem yd (x0 x1:D):fS [x0,x1]=((aa x0 (.ref 0 0)).bind fun z=>(aa z z).bind fun z=>(bc 3 z).bind fun z=>((atD x0 z).bind (an false 1)).bind fun z=>ae (oG [z,x1]) fun c _=>(aq (.tup c) 0).bind fun z=>(aq (.tup c) 1).bind fun f=>(un .not f).bind fun g=>ifD g ((aa x0 x0).bind fun _=>some (.ret [.v (.string ⟨⟨[110,111]⟩⟩)] [x0])) ((aa x0 (.ref 0 0)).bind fun d=>(aa x0 (.ref 0 0)).bind fun e=>(aa e e).bind fun h=>(bc 3 h).bind fun j=>((atD x0 j).bind (an false 1)).bind fun k=>ae (sZ [k,z]) fun c _=>(aa d d).bind fun l=>(bc 3 l).bind fun m=>(stD 1 x0 m (sl c 0)).bind fun b=>ae (cV [z,.v (.string ⟨⟨[32]⟩⟩)]) fun c _=>(aa b b).bind fun _=>some (.ret [sl c 0] [b]))):=by kernel_rfl
theorem IK (x0 x1 x2:D):kB [x0,x1,x2]=((aa x0 (.ref 0 0)).bind fun z=>(aa z z).bind fun z=>(bc 3 z).bind fun z=>((atD x0 z).bind (an false 1)).bind fun z=>ae (nx [z,x1,x2]) fun c _=>(aq (.tup c) 0).bind fun z=>(aq (.tup c) 1).bind fun e=>(un .not e).bind fun f=>ifD f ((aa x0 x0).bind fun _=>some (.ret [.v (.string ⟨⟨[110,111]⟩⟩)] [x0])) ((aa x0 (.ref 0 0)).bind fun d=>(aa d d).bind fun g=>(bc 3 g).bind fun h=>(stD 1 x0 h z).bind fun b=>ae (Eu [z]) fun c _=>(aa b b).bind fun _=>some (.ret [sl c 0] [b]))):=by kernel_rfl
theorem JD (x0 x1:D):ky [x0,x1]=((aa x0 (.ref 0 0)).bind fun z=>(aH 1 []).bind fun a=>(aa x0 (.ref 0 0)).bind fun d=>(aa d d).bind fun f=>(bc 4 f).bind fun g=>((atD x0 g).bind (an false 1)).bind fun h=>(cK h).bind fun b=>(bA 1 8 a b).bind fun y=>(aH 1 [x1]).bind fun a=>(bA 1 8 y a).bind fun y=>(aa z z).bind fun z=>(bc 4 z).bind fun z=>(stD 1 x0 z y).bind fun b=>(aa b (.ref 0 0)).bind fun z=>(aa z z).bind fun z=>(bc 4 z).bind fun z=>((atD b z).bind (an false 1)).bind fun z=>(lenD false z).bind fun z=>(aa b (.ref 0 0)).bind fun e=>(aa e e).bind fun j=>(bc 4 j).bind fun k=>((atD b k).bind (an false 1)).bind fun l=>ae (hD [l]) fun c _=>ae (ce [z,sl c 0]) fun c _=>(aa b b).bind fun _=>some (.ret [sl c 0] [b])):=by kernel_rfl
theorem Em (x0:D):iw [x0]=(ae (eV [x0]) fun c _=>(un .not (sl c 0)).bind fun z=>(aj (.tup []) z false (some x0)).bind fun d=>cR z false (ae (rK [d]) fun c _=>some (.nrm [sl c 0])) [.tup []] fun e=>(aj (.tup []) z false (lenD true (sl e 0))).bind fun f=>(aj (.tup []) z false (bin .gtr false [] f (I 300))).bind fun g=>(aT z (B true) g).bind fun z=>ifD z (some (.ret [.v (.string ⟨⟨[]⟩⟩),B false] [])) (ae (rK [x0]) fun c _=>some (.ret [sl c 0,B true] []))):=by kernel_rfl
theorem HK (x0 x1:D):ji [x0,x1]=((fJ 3 x1).bind fun y=>ae (eB [x0]) fun c _=>(aq (.tup c) 0).bind fun d=>(aq (dg (.tup c) 0) 1).bind fun z=>(un .not z).bind fun z=>(aj (.tup []) z false (bf true 3 0 y)).bind fun e=>cR z false (ae (kV [e]) fun c _=>some (.nrm [sl c 0])) [.tup []] fun f=>(aj (.tup []) z false (un .not (sl f 0))).bind fun g=>(aT z (B true) g).bind fun z=>ifD z (some (.ret [.v (.string ⟨⟨[]⟩⟩),B false] [])) ((bf true 3 0 y).bind fun z=>(aH 3 [z]).bind fun a=>(bA 3 24 d a).bind fun y=>ae (iw [y]) fun c _=>(aq (.tup c) 0).bind fun z=>(aq (.tup c) 1).bind fun h=>some (.ret [z,h] []))):=by kernel_rfl
theorem GY (x0 x1:D):jm [x0,x1]=((fJ 3 x1).bind fun y=>(aa x0 (.ref 0 0)).bind fun z=>(aa z z).bind fun z=>(bc 5 z).bind fun z=>(((atD x0 z).bind (an false 1)).bind aL).bind fun z=>(bf true 3 0 y).bind fun e=>ae (ji [z,e]) fun c _=>(aq (.tup c) 0).bind fun z=>(aq (.tup c) 1).bind fun f=>(aa x0 (.ref 0 0)).bind fun d=>(aa d d).bind fun g=>(bc 5 g).bind fun h=>(stD 1 x0 h z).bind fun b=>ae (eB [z]) fun c _=>(aq (.tup c) 0).bind fun y=>(aq (dg (.tup c) 0) 1).bind fun _=>(lenD false y).bind fun z=>ae (ce [z,f]) fun c _=>(aa b b).bind fun _=>some (.ret [sl c 0] [b])):=by kernel_rfl
theorem GJ (x0 x1:D):jh [x0,x1]=((aa x0 (.ref 0 0)).bind fun z=>(aH 2 []).bind fun a=>(aa x0 (.ref 0 0)).bind fun d=>(aa d d).bind fun f=>(bc 6 f).bind fun g=>((atD x0 g).bind (an false 1)).bind fun h=>(cK h).bind fun b=>(bA 2 16 a b).bind fun y=>(dw [(0,1),(1,1)] [I 0,B false] [x1,B true]).bind fun j=>(aH 2 [j]).bind fun a=>(bA 2 16 y a).bind fun y=>(aa z z).bind fun z=>(bc 6 z).bind fun z=>(stD 1 x0 z y).bind fun b=>(aa b (.ref 0 0)).bind fun z=>(aa z z).bind fun z=>(bc 6 z).bind fun z=>((atD b z).bind (an false 1)).bind fun z=>(lenD false z).bind fun z=>(aa b (.ref 0 0)).bind fun e=>(aa e e).bind fun k=>(bc 6 k).bind fun l=>((atD b l).bind (an false 1)).bind fun m=>ae (dr [m]) fun c _=>ae (ce [z,sl c 0]) fun c _=>(aa b b).bind fun _=>some (.ret [sl c 0] [b])):=by kernel_rfl
theorem Qu (x0:D):oB [x0]=((aH 1 []).bind fun a=>(cK x0).bind fun b=>(bA 1 8 a b).bind fun y=>(aa y (.ref 0 0)).bind fun z=>(kS z y).bind fun i=>(aa i i).bind fun i=>ae (ID [i]) fun _ c=>some (.ret [sl c 0] [])):=by kernel_rfl
theorem IM (x0:D):kc [x0]=(ae (hD [x0]) fun c _=>(un .not (sl c 0)).bind fun z=>ifD z (some (.ret [I 0,B false] [])) (ae (oB [x0]) fun c _=>(lenD false x0).bind fun z=>(bin .sub false [] z (I 1)).bind fun z=>(bin .quo false [] z (I 2)).bind fun z=>(ahB D.ptr (ao 1 (sl c 0) z)).bind fun z=>((ldD false 1 z).bind aL).bind fun z=>some (.ret [z,B true] []))):=by kernel_rfl
theorem IY (x0 x1:D):kg [x0,x1]=((fJ 3 x1).bind fun y=>(aa x0 (.ref 0 0)).bind fun z=>(aa z z).bind fun z=>(bc 5 z).bind fun z=>(((atD x0 z).bind (an false 1)).bind aL).bind fun z=>ae (eB [z]) fun c _=>(aq (.tup c) 0).bind fun j=>(aq (dg (.tup c) 0) 1).bind fun _=>(aa y (.ref 0 0)).bind fun z=>(((atD y z).bind (an false 1)).bind aL).bind fun z=>(bin .eql false [] z (.v (.string ⟨⟨[115,104,97,114,101,115]⟩⟩))).bind fun k=>ifD k ((aa x0 (.ref 0 0)).bind fun z=>(aa z z).bind fun z=>(bc 0 z).bind fun z=>(((atD x0 z).bind (an true 3)).bind aL).bind fun z=>ae (lH [z]) fun c _=>(aq (.tup c) 0).bind fun y=>(aq (dg (.tup c) 0) 1).bind fun z=>(un .not z).bind fun z=>ifD z ((aa x0 x0).bind fun _=>some (.ret [.v (.string ⟨⟨[110,111]⟩⟩)] [x0])) (ae (cV [y,.v (.string ⟨⟨[32]⟩⟩)]) fun c _=>(aa x0 x0).bind fun _=>some (.ret [sl c 0] [x0]))) ((bin .eql false [] z (.v (.string ⟨⟨[109,105,115,115,105,110,103]⟩⟩))).bind fun l=>ifD l ((aa x0 (.ref 0 0)).bind fun z=>(aa z z).bind fun z=>(bc 3 z).bind fun z=>((atD x0 z).bind (an false 1)).bind fun z=>(aa y (.ref 0 2)).bind fun g=>((atD y g).bind (an false 1)).bind fun d=>(ahB D.ptr (ao 1 d (I 0))).bind fun e=>((ldD false 1 e).bind aL).bind fun f=>ae (jv [z,f]) fun c _=>(aq (.tup c) 0).bind fun z=>(aq (.tup c) 1).bind fun h=>ae (ce [z,h]) fun c _=>(aa x0 x0).bind fun _=>some (.ret [sl c 0] [x0])) ((bin .eql false [] z (.v (.string ⟨⟨[109,101,100,105,97,110]⟩⟩))).bind fun g=>ifD g ((aa x0 (.ref 0 0)).bind fun z=>(aa z z).bind fun z=>(bc 4 z).bind fun z=>((atD x0 z).bind (an false 1)).bind fun z=>ae (kc [z]) fun c _=>(aq (.tup c) 0).bind fun z=>(aq (.tup c) 1).bind fun d=>ae (ce [z,d]) fun c _=>(aa x0 x0).bind fun _=>some (.ret [sl c 0] [x0])) ((bin .eql false [] z (.v (.string ⟨⟨[100,114,105,102,116]⟩⟩))).bind fun d=>ifD d ((aa x0 (.ref 0 0)).bind fun z=>(aa z z).bind fun z=>(bc 4 z).bind fun z=>((atD x0 z).bind (an false 1)).bind fun z=>ae (gG [z]) fun c _=>(aq (.tup c) 0).bind fun z=>(aq (.tup c) 1).bind fun e=>(aq (.tup c) 2).bind fun _=>(aH 1 [z,e]).bind fun a=>ae (cV [a,.v (.string ⟨⟨[32]⟩⟩)]) fun c _=>(aa x0 x0).bind fun _=>some (.ret [sl c 0] [x0])) ((bin .eql false [] z (.v (.string ⟨⟨[109,101,116,97,108]⟩⟩))).bind fun e=>ifD e ((aa y (.ref 0 2)).bind fun z=>((atD y z).bind (an false 1)).bind fun z=>(ahB D.ptr (ao 1 z (I 0))).bind fun z=>((ldD false 1 z).bind aL).bind fun z=>(aa y (.ref 0 2)).bind fun f=>((atD y f).bind (an false 1)).bind fun h=>(ahB D.ptr (ao 1 h (I 1))).bind fun m=>((ldD false 1 m).bind aL).bind fun n=>ae (jk [j,z,n]) fun c _=>(aq (.tup c) 0).bind fun z=>(aq (.tup c) 1).bind fun p=>ae (ce [z,p]) fun c _=>(aa x0 x0).bind fun _=>some (.ret [sl c 0] [x0])) ((bin .eql false [] z (.v (.string ⟨⟨[108,101,97,115,116]⟩⟩))).bind fun z=>ifD z ((aa y (.ref 0 2)).bind fun z=>((atD y z).bind (an false 1)).bind fun z=>(ahB D.ptr (ao 1 z (I 0))).bind fun z=>((ldD false 1 z).bind aL).bind fun z=>ae (jq [j,z]) fun c _=>(aq (.tup c) 0).bind fun z=>(aq (.tup c) 1).bind fun _=>(aq (.tup c) 2).bind fun f=>ae (ce [z,f]) fun c _=>(aa x0 x0).bind fun _=>some (.ret [sl c 0] [x0])) ((aa x0 (.ref 0 0)).bind fun z=>(aa z z).bind fun z=>(bc 6 z).bind fun z=>((atD x0 z).bind (an false 1)).bind fun z=>ae (Be [z]) fun c _=>(aq (.tup c) 0).bind fun z=>(aq (.tup c) 1).bind fun _=>(aa x0 x0).bind fun _=>some (.ret [z] [x0])))))))):=by kernel_rfl
theorem aW (x0 x1:D):aM [x0,x1]=((fJ 3 x1).bind fun y=>(aa y (.ref 0 0)).bind fun z=>(((atD y z).bind (an false 1)).bind aL).bind fun z=>(bin .eql false [] z (.v (.string ⟨⟨[109,101,108,116]⟩⟩))).bind fun u=>ifD u ((aa x0 (.ref 0 0)).bind fun z=>(aa y (.ref 0 1)).bind fun q=>(((atD y q).bind (an false 1)).bind aL).bind fun n=>ae (gW [n]) fun d _=>(aq (.tup d) 0).bind fun g=>(aq (.tup d) 1).bind fun h=>(aa z z).bind fun z=>(bc 0 z).bind fun z=>(stD 3 x0 z g).bind fun b=>ae (jU [h]) fun d _=>(aa b b).bind fun _=>some (.ret [sl d 0] [b])) ((bin .eql false [] z (.v (.string ⟨⟨[106,111,105,110]⟩⟩))).bind fun q=>ifD q ((aa x0 (.ref 0 0)).bind fun z=>(aa y (.ref 0 1)).bind fun n=>(((atD y n).bind (an false 1)).bind aL).bind fun g=>(kS z x0).bind fun i=>(aa i i).bind fun i=>ae (fQ [i,g]) fun d c=>(aa (sl c 0) (sl c 0)).bind fun _=>some (.ret [sl d 0] [sl c 0])) ((bin .eql false [] z (.v (.string ⟨⟨[116,97,107,101]⟩⟩))).bind fun n=>ifD n ((aa x0 (.ref 0 0)).bind fun z=>(aa y (.ref 0 2)).bind fun g=>((atD y g).bind (an false 1)).bind fun h=>(ahB D.ptr (ao 1 h (I 0))).bind fun j=>((ldD false 1 j).bind aL).bind fun f=>(kS z x0).bind fun i=>(aa i i).bind fun i=>ae (fO [i,f]) fun d c=>(aa (sl c 0) (sl c 0)).bind fun _=>some (.ret [sl d 0] [sl c 0])) ((bin .eql false [] z (.v (.string ⟨⟨[115,116,111,99,107]⟩⟩))).bind fun g=>ifD g ((aa x0 (.ref 0 0)).bind fun z=>(aa y (.ref 0 1)).bind fun h=>(((atD y h).bind (an false 1)).bind aL).bind fun j=>ae (jn [j]) fun d _=>(aq (.tup d) 0).bind fun y=>(aq (dg (.tup d) 0) 1).bind fun f=>(aa z z).bind fun z=>(bc 3 z).bind fun z=>(stD 1 x0 z y).bind fun b=>ae (jU [f]) fun d _=>(aa b b).bind fun _=>some (.ret [sl d 0] [b])) ((bin .eql false [] z (.v (.string ⟨⟨[114,117,108,101]⟩⟩))).bind fun h=>ifD h ((aa x0 (.ref 0 0)).bind fun z=>(aa y (.ref 0 2)).bind fun j=>((atD y j).bind (an false 1)).bind fun f=>(ahB D.ptr (ao 1 f (I 0))).bind fun k=>((ldD false 1 k).bind aL).bind fun e=>(kS z x0).bind fun i=>(aa i i).bind fun i=>ae (fS [i,e]) fun d c=>(aa (sl c 0) (sl c 0)).bind fun _=>some (.ret [sl d 0] [sl c 0])) ((bin .eql false [] z (.v (.string ⟨⟨[99,117,116]⟩⟩))).bind fun j=>ifD j ((aa x0 (.ref 0 0)).bind fun z=>(aa y (.ref 0 2)).bind fun f=>((atD y f).bind (an false 1)).bind fun k=>(ahB D.ptr (ao 1 k (I 0))).bind fun e=>((ldD false 1 e).bind aL).bind fun l=>(aa y (.ref 0 2)).bind fun m=>((atD y m).bind (an false 1)).bind fun p=>(ahB D.ptr (ao 1 p (I 1))).bind fun r=>((ldD false 1 r).bind aL).bind fun t=>(kS z x0).bind fun i=>(aa i i).bind fun i=>ae (kB [i,l,t]) fun d c=>(aa (sl c 0) (sl c 0)).bind fun _=>some (.ret [sl d 0] [sl c 0])) ((bin .eql false [] z (.v (.string ⟨⟨[111,102,102]⟩⟩))).bind fun f=>ifD f ((aa x0 (.ref 0 0)).bind fun z=>(aa y (.ref 0 2)).bind fun k=>((atD y k).bind (an false 1)).bind fun e=>(ahB D.ptr (ao 1 e (I 0))).bind fun l=>((ldD false 1 l).bind aL).bind fun m=>(kS z x0).bind fun i=>(aa i i).bind fun i=>ae (ky [i,m]) fun d c=>(aa (sl c 0) (sl c 0)).bind fun _=>some (.ret [sl d 0] [sl c 0])) ((bin .eql false [] z (.v (.string ⟨⟨[110,111,116,101]⟩⟩))).bind fun k=>ifD k ((aa x0 (.ref 0 0)).bind fun z=>(aa y (.ref 0 2)).bind fun e=>((atD y e).bind (an false 1)).bind fun l=>(ahB D.ptr (ao 1 l (I 0))).bind fun m=>((ldD false 1 m).bind aL).bind fun p=>(aa y (.ref 0 2)).bind fun r=>((atD y r).bind (an false 1)).bind fun t=>(ahB D.ptr (ao 1 t (I 1))).bind fun v=>((ldD false 1 v).bind aL).bind fun w=>(aa y (.ref 0 2)).bind fun za=>((atD y za).bind (an false 1)).bind fun zb=>(ahB D.ptr (ao 1 zb (I 2))).bind fun zc=>((ldD false 1 zc).bind aL).bind fun zd=>(dw [(0,1),(1,1),(2,1)] [I 0,I 0,I 0] [p,w,zd]).bind fun ze=>(kS z x0).bind fun i=>(aa i i).bind fun i=>ae (jm [i,ze]) fun d c=>(aa (sl c 0) (sl c 0)).bind fun _=>some (.ret [sl d 0] [sl c 0])) ((bin .eql false [] z (.v (.string ⟨⟨[102,111,108,100]⟩⟩))).bind fun z=>ifD z ((aa x0 (.ref 0 0)).bind fun z=>(aa y (.ref 0 2)).bind fun e=>((atD y e).bind (an false 1)).bind fun l=>(ahB D.ptr (ao 1 l (I 0))).bind fun m=>((ldD false 1 m).bind aL).bind fun p=>(kS z x0).bind fun i=>(aa i i).bind fun i=>ae (jh [i,p]) fun d c=>(aa (sl c 0) (sl c 0)).bind fun _=>some (.ret [sl d 0] [sl c 0])) ((aa x0 (.ref 0 0)).bind fun z=>(bf true 3 0 y).bind fun e=>(kS z x0).bind fun i=>(aa i i).bind fun i=>ae (kg [i,e]) fun d c=>(aa (sl c 0) (sl c 0)).bind fun _=>some (.ret [sl d 0] [sl c 0]))))))))))):=by kernel_rfl
theorem Et (x0 x1:D):fB [x0,x1]=(ae (Wy [x1]) fun c _=>(aq (.tup c) 0).bind fun z=>(aq (.tup c) 1).bind fun e=>(stD 3 (.agg [.v (.string ⟨⟨[]⟩⟩),.v (.string ⟨⟨[]⟩⟩),.arr 1 []]) (.ref 0 0) z).bind fun b=>(un .not e).bind fun z=>ifD z ((aa x0 x0).bind fun _=>some (.ret [.v (.string ⟨⟨[119,104,97,116]⟩⟩)] [x0])) ((aa x0 (.ref 0 0)).bind fun z=>(aa z z).bind fun z=>((atD x0 z).bind (an true 7)).bind fun z=>(stD 7 (.agg [I 0,I 0,I 0,.arr 2 [],.arr 1 [],.v (.string ⟨⟨[]⟩⟩),.arr 2 []]) (.ref 0 0) z).bind fun d=>(bf true 3 0 b).bind fun z=>(aa d d).bind fun i=>ae (aM [i,z]) fun c f=>(bin .neq false [] (sl c 0) (.v (.string ⟨⟨[110,111]⟩⟩))).bind fun z=>ifD z ((aa x0 (.ref 0 0)).bind fun z=>(bf true 7 0 (sl f 0)).bind fun g=>(aa z z).bind fun z=>(stD 7 x0 z g).bind fun b=>(aa b b).bind fun _=>some (.ret [sl c 0] [b])) ((aa x0 x0).bind fun _=>some (.ret [sl c 0] [x0])))):=by kernel_rfl
theorem Ja (x0:D):dK [x0]=(ae (mN [x0]) fun c _=>(aq (.tup c) 0).bind fun z=>(aq (.tup c) 1).bind fun d=>(un .not d).bind fun e=>ifD e ((dw [] [I 0,I 0,I 0,.arr 2 [],.arr 1 [],.v (.string ⟨⟨[]⟩⟩),.arr 2 []] []).bind fun z=>(stD 7 (.agg [I 0,I 0,I 0,.arr 2 [],.arr 1 [],.v (.string ⟨⟨[]⟩⟩),.arr 2 []]) (.ref 0 0) z).bind fun b=>(bf true 7 0 b).bind fun y=>some (.ret [y,.arr 1 [],B false] [])) ((aH 1 [I 0]).bind fun a=>(dw [(4,1)] [I 0,I 0,I 0,.arr 2 [],.arr 1 [],.v (.string ⟨⟨[]⟩⟩),.arr 2 []] [a]).bind fun f=>(stD 7 (.agg [I 0,I 0,I 0,.arr 2 [],.arr 1 [],.v (.string ⟨⟨[]⟩⟩),.arr 2 []]) (.ref 0 0) f).bind fun b=>(aH 1 []).bind fun a=>(lenD false z).bind fun g=>(aX (fun s=>(bin .lss false [] (sl s 5) (sl s 4)).bind fun z=>ifD z ((ahB D.ptr (ao 1 (sl s 3) (sl s 5))).bind fun z=>((ldD false 1 z).bind aL).bind fun z=>(aa (sl s 1) (sl s 1)).bind fun i=>ae (fB [i,z]) fun c h=>(aH 1 [sl c 0]).bind fun a=>(cK a).bind fun b=>(bA 1 16 (sl s 2) b).bind fun y=>(bin .add false [] (sl s 5) (I 1)).bind fun z=>some (.nrm [sl s 0,sl h 0,y,sl s 3,sl s 4,z])) (some (.ext 0 [sl s 0,sl s 1,sl s 2]))) [.agg [I 0,I 0,I 0,.arr 2 [],.arr 1 [],.v (.string ⟨⟨[]⟩⟩),.arr 2 []],b,a,z,g,I 0]).bind fun o=>bY o (fun i s=>ifN (i.beq 0) ((bf true 7 0 (sl s 1)).bind fun z=>(stD 7 (sl s 0) (.ref 0 0) z).bind fun b=>(bf true 7 0 b).bind fun y=>some (.ret [y,sl s 2,B true] [])) none) fun a b=>some (.ret a b))):=by kernel_rfl
theorem BG (x0:D):gF [x0]=(ae (dK [x0]) fun c _=>(aq (.tup c) 0).bind fun z=>(aq (.tup c) 1).bind fun _=>(aq (dg (.tup c) 1) 2).bind fun d=>(stD 7 (.agg [I 0,I 0,I 0,.arr 2 [],.arr 1 [],.v (.string ⟨⟨[]⟩⟩),.arr 2 []]) (.ref 0 0) z).bind fun b=>(aa b (.ref 0 5)).bind fun z=>(((atD b z).bind (an false 1)).bind aL).bind fun z=>some (.ret [z,d] [])):=by kernel_rfl
theorem BN (x0:D):gP [x0]=(ae (wm [x0]) fun c _=>(aq (.tup c) 0).bind fun z=>(aq (.tup c) 1).bind fun _=>(aq (.tup c) 2).bind fun d=>(un .not d).bind fun e=>ifD e (some (.ret [.v (.string ⟨⟨[]⟩⟩),B false] [])) ((Bn z).bind fun z=>(gy 5 z).bind fun z=>((ldD false 1 z).bind aL).bind fun z=>some (.ret [z,B true] []))):=by kernel_rfl
theorem BK (x0:D):gN [x0]=(ae (dK [x0]) fun c _=>(aq (.tup c) 0).bind fun z=>(aq (.tup c) 1).bind fun y=>(aq (dg (.tup c) 1) 2).bind fun e=>(stD 7 (.agg [I 0,I 0,I 0,.arr 2 [],.arr 1 [],.v (.string ⟨⟨[]⟩⟩),.arr 2 []]) (.ref 0 0) z).bind fun _=>(lenD false y).bind fun z=>(aX (fun s=>(bin .lss false [] (sl s 6) (sl s 5)).bind fun z=>ifD z ((ahB D.ptr (ao 1 (sl s 4) (sl s 6))).bind fun z=>((ldD false 1 z).bind aL).bind fun z=>(bin .eql false [] z (.v (.string ⟨⟨[110,111]⟩⟩))).bind fun f=>ifD f ((bin .add false [] (sl s 2) (I 1)).bind fun z=>(bin .add false [] (sl s 6) (I 1)).bind fun d=>some (.nrm [sl s 0,sl s 1,z,sl s 3,sl s 4,sl s 5,d])) ((bin .eql false [] z (.v (.string ⟨⟨[119,104,97,116]⟩⟩))).bind fun z=>ifD z ((bin .add false [] (sl s 3) (I 1)).bind fun z=>(bin .add false [] (sl s 6) (I 1)).bind fun d=>some (.nrm [sl s 0,sl s 1,sl s 2,z,sl s 4,sl s 5,d])) ((bin .add false [] (sl s 6) (I 1)).bind fun z=>some (.nrm [sl s 0,sl s 1,sl s 2,sl s 3,sl s 4,sl s 5,z])))) (some (.ext 0 [sl s 0,sl s 1,sl s 2,sl s 3]))) [y,e,I 0,I 0,y,z,I 0]).bind fun o=>bY o (fun i s=>ifN (i.beq 0) ((lenD false (sl s 0)).bind fun z=>(bin .sub false [] z (sl s 2)).bind fun z=>(bin .sub false [] z (sl s 3)).bind fun z=>some (.ret [sl s 2,sl s 3,z,sl s 1] [])) none) fun a b=>some (.ret a b)):=by kernel_rfl
theorem BR (x0:D):gL [x0]=(ae (wm [x0]) fun c _=>(aq (.tup c) 0).bind fun z=>(aq (.tup c) 1).bind fun _=>(aq (.tup c) 2).bind fun d=>(un .not d).bind fun e=>ifD e (some (.ret [I 0,I 0,I 0,B false] [])) ((Bn z).bind fun f=>(gy 7 f).bind fun g=>(ldD false 1 g).bind fun h=>(lenD false h).bind fun j=>(Bn z).bind fun k=>(gy 8 k).bind fun l=>(ldD false 1 l).bind fun m=>(lenD false m).bind fun n=>(Bn z).bind fun p=>(gy 9 p).bind fun q=>((ldD false 1 q).bind aL).bind fun r=>(Bn z).bind fun t=>(gy 7 t).bind fun u=>(ldD false 1 u).bind fun v=>(lenD false v).bind fun w=>(bin .sub false [] r w).bind fun za=>(Bn z).bind fun z=>(gy 8 z).bind fun z=>(ldD false 1 z).bind fun z=>(lenD false z).bind fun z=>(bin .sub false [] za z).bind fun z=>some (.ret [j,n,z,B true] []))):=by kernel_rfl
theorem Jy (x0:D):ki [x0]=(ae (dK [x0]) fun c _=>(aq (.tup c) 0).bind fun z=>(aq (.tup c) 1).bind fun _=>(aq (dg (.tup c) 1) 2).bind fun d=>(stD 7 (.agg [I 0,I 0,I 0,.arr 2 [],.arr 1 [],.v (.string ⟨⟨[]⟩⟩),.arr 2 []]) (.ref 0 0) z).bind fun b=>(aa b (.ref 0 0)).bind fun z=>(((atD b z).bind (an true 3)).bind aL).bind fun z=>(stD 3 (.agg [I 0,I 0,I 0]) (.ref 0 0) z).bind fun b=>(bf true 3 0 b).bind fun y=>some (.ret [y,d] [])):=by kernel_rfl
theorem Jw (x0:D):kj [x0]=(ae (wm [x0]) fun c _=>(aq (.tup c) 0).bind fun z=>(aq (.tup c) 1).bind fun _=>(aq (.tup c) 2).bind fun d=>(un .not d).bind fun e=>ifD e ((dw [] [I 0,I 0,I 0] []).bind fun z=>(stD 3 (.agg [I 0,I 0,I 0]) (.ref 0 0) z).bind fun b=>(bf true 3 0 b).bind fun y=>some (.ret [y,B false] [])) ((Bn z).bind fun z=>(gy 0 z).bind fun z=>((ldD true 3 z).bind aL).bind fun z=>(stD 3 (.agg [I 0,I 0,I 0]) (.ref 0 0) z).bind fun b=>(bf true 3 0 b).bind fun y=>some (.ret [y,B true] []))):=by kernel_rfl
theorem Fx (x0:D):gg [x0]=(ae (dK [x0]) fun c _=>(aq (.tup c) 0).bind fun z=>(aq (.tup c) 1).bind fun _=>(aq (dg (.tup c) 1) 2).bind fun d=>(stD 7 (.agg [I 0,I 0,I 0,.arr 2 [],.arr 1 [],.v (.string ⟨⟨[]⟩⟩),.arr 2 []]) (.ref 0 0) z).bind fun b=>(aH 2 []).bind fun a=>(aa b (.ref 0 3)).bind fun z=>((atD b z).bind (an false 1)).bind fun z=>(cK z).bind fun b=>(bA 2 16 a b).bind fun y=>some (.ret [y,d] [])):=by kernel_rfl
theorem HJ (x0:D):jy [x0]=(ae (wm [x0]) fun c _=>(aq (.tup c) 0).bind fun z=>(aq (.tup c) 1).bind fun _=>(aq (.tup c) 2).bind fun d=>(un .not d).bind fun e=>ifD e (some (.ret [.arr 2 [],B false] [])) ((aH 2 []).bind fun a=>(Bn z).bind fun z=>(gy 3 z).bind fun z=>(ldD false 1 z).bind fun z=>(cK z).bind fun b=>(bA 2 16 a b).bind fun y=>some (.ret [y,B true] []))):=by kernel_rfl
theorem Er (x0:D):fL [x0]=(ae (dK [x0]) fun c _=>(aq (.tup c) 0).bind fun z=>(aq (.tup c) 1).bind fun y=>(aq (dg (.tup c) 1) 2).bind fun e=>(stD 7 (.agg [I 0,I 0,I 0,.arr 2 [],.arr 1 [],.v (.string ⟨⟨[]⟩⟩),.arr 2 []]) (.ref 0 0) z).bind fun _=>(aH 1 []).bind fun a=>(lenD false y).bind fun z=>(aX (fun s=>(bin .lss false [] (sl s 4) (sl s 3)).bind fun z=>ifD z ((ahB D.ptr (ao 1 (sl s 2) (sl s 4))).bind fun z=>((ldD false 1 z).bind aL).bind fun z=>(bin .eql false [] z (.v (.string ⟨⟨[110,111]⟩⟩))).bind fun d=>(aj (.tup []) d false (some z)).bind fun z=>(aj (.tup []) d false (bin .eql false [] z (.v (.string ⟨⟨[119,104,97,116]⟩⟩)))).bind fun z=>(aT d (B true) z).bind fun z=>ifD z ((bin .add false [] (sl s 4) (I 1)).bind fun z=>(aH 1 [z]).bind fun a=>(cK a).bind fun b=>(bA 1 8 (sl s 1) b).bind fun y=>(bin .add false [] (sl s 4) (I 1)).bind fun z=>some (.nrm [sl s 0,y,sl s 2,sl s 3,z])) ((bin .add false [] (sl s 4) (I 1)).bind fun z=>some (.nrm [sl s 0,sl s 1,sl s 2,sl s 3,z]))) (some (.ext 0 [sl s 0,sl s 1]))) [e,a,y,z,I 0]).bind fun o=>bY o (fun i s=>ifN (i.beq 0) (some (.ret [sl s 1,sl s 0] [])) none) fun a b=>some (.ret a b)):=by kernel_rfl
theorem Ej (x0:D):iC [x0]=(ae (wm [x0]) fun c _=>(aq (.tup c) 0).bind fun z=>(aq (.tup c) 1).bind fun _=>(aq (.tup c) 2).bind fun d=>(un .not d).bind fun e=>ifD e (some (.ret [.arr 1 [],B false] [])) ((Bn z).bind fun f=>(gy 7 f).bind fun g=>(ldD false 1 g).bind fun h=>ae (gp [h]) fun c _=>(Bn z).bind fun z=>(gy 8 z).bind fun z=>(ldD false 1 z).bind fun z=>(bA 1 8 (sl c 0) z).bind fun y=>(lenD false y).bind fun z=>(aX (fun s=>(bin .lss false [] (sl s 3) (sl s 2)).bind fun z=>ifD z ((ahB D.ptr (ao 1 (sl s 1) (sl s 3))).bind fun z=>((ldD false 1 z).bind aL).bind fun z=>ae (qJ [sl s 0,z]) fun c _=>(bin .add false [] (sl s 3) (I 1)).bind fun z=>some (.nrm [sl c 0,sl s 1,sl s 2,z])) (some (.ext 0 [sl s 0]))) [.arr 1 [],y,z,I 0]).bind fun o=>bY o (fun i s=>ifN (i.beq 0) (some (.ret [sl s 0,B true] [])) none) fun a b=>some (.ret a b))):=by kernel_rfl
end Go.Proofs.YtjafgdefcggjcaaGreatDoor

namespace Go.Proofs.YtjafgdefcggjcaaGreatDoor
open Go.V
set_option maxRecDepth 100000
@[reducible] def lZ:Cx:={K:=[kd0,.no,kd0,.box 3 0 false,kd0,.box 3 0 false,kd0,kd0,kd0,kd0,.tup [kd0,kd0],kd0,.tup [kd0,kd0],kd0,kd0,.tup [kd0,kd0],kd0,.tup [kd0,kd0],kd0,kd0,kd0,kd0,kd0,kd0,kd0,kd0,kd0,kd0,kd0],T:=[(3,ty3),(4,ty4),(9,ty9),(29,fY)],S:=[(17,uP),(18,uH),(19,Ed)],H:=[],res:=[.tmp 2],ios:=[],G:=gl2}
def eS:List D→Option Out:=aS lZ Tryz.f6
@[reducible] def uY:FS:={pm:=[kd0],rm:=[kd0],f:=eS}
theorem uO:au gl2 Tryz.prog 6 uY:=ax (c:=lZ) (ab (aI mw Jn) (ab Jp (ab (aI mw Qi) al))) Tryz.func6 rfl rfl (by kernel_rfl)
@[reducible] def kX:Cx:={K:=[kd0,.no,kd0,kd1,kd0,.via 22,kd0,kd0,kd0,kd1,kd0,kd0,kd0,kd0,.tup [.own 2 0 false,kd0],kd0,.tup [.own 2 0 false,kd0],kd1,kd0,.tup [.own 2 0 false,kd0],kd0,.tup [.own 2 0 false,kd0],.own 2 0 false,kd0,.via 22,kd1,kd0,kd0,kd0,kd0,kd0,kd0,kd0,.via 22,kd0,kd0,.via 22,kd0,kd0,kd0,kd0,kd0,kd0,kd0,.tup [.own 2 0 false,kd0],kd0,.tup [.own 2 0 false,kd0],kd1,kd0,kd1,kd1,kd0,kd0,kd0,kd0,kd0,kd0,kd0,.via 22,kd0,kd0,kd0,kd0,kd0,kd0,kd0],T:=[(3,ty3),(4,ty4),(9,ty9)],S:=[(20,sO),(21,tD),(22,zM),(23,uG),(24,vd)],H:=[],res:=[.tmp 2],ios:=[],G:=gl2}
def eF:List D→Option Out:=aS kX Tryz.f7
@[reducible] def ui:FS:={pm:=[kd0],rm:=[kd0],f:=eF}
theorem uw:au gl2 Tryz.prog 7 ui:=ax (c:=kX) (ab (aI mw FX) (ab GG (ab (aI mw MB) (ab (aI mw IU) (ab (aI mw Jr) al))))) Tryz.func7 rfl rfl (by kernel_rfl)
@[reducible] def jL:Cx:={K:=[kd0,.no,kd0,kd0,kd0,kd0,kd0,kd0,kd0,kd0,.tup [kd0,kd0],kd0,.tup [kd0,kd0],kd0,kd0,.tup [kd0,kd0],kd0,.tup [kd0,kd0],kd0,kd0,kd0,kd0,kd0,kd0,kd0,kd0,kd0,kd0],T:=[(3,ty3),(4,ty4),(9,ty9)],S:=[(11,qb),(12,qq)],H:=[],res:=[.tmp 2],ios:=[],G:=gl2}
def dV:List D→Option Out:=aS jL Tryz.f3
@[reducible] def rk:FS:={pm:=[kd0],rm:=[kd0],f:=dV}
theorem rT:au gl2 Tryz.prog 3 rk:=ax (c:=jL) (ab (aI mw BV) (ab BB al)) Tryz.func3 rfl rfl (by kernel_rfl)
@[reducible] def kE:Cx:={K:=[kd0,.no,kd0,kd2,kd0,.via 22,kd0,kd0,kd0,kd1,kd0,kd0,kd0,kd0,.tup [kd2,kd0],kd0,.tup [kd2,kd0],kd2,kd0,.tup [.own 1 0 false,kd0],kd0,.tup [.own 1 0 false,kd0],.own 1 0 false,kd0,.via 22,kd2,kd0,kd0,kd0,kd0,kd0,kd0,kd0,.via 22,kd0,kd0,.via 22,kd0,kd0,kd0,kd0,kd0,kd0,kd0,.tup [.own 1 0 false,kd0],kd0,.tup [.own 1 0 false,kd0],kd1,kd0,kd1,kd2,kd0,kd0,kd0,kd0,kd0,kd0,kd0,.via 22,kd0,kd0,kd0,kd0,kd0,kd0,kd0],T:=[(3,ty3),(4,ty4),(9,ty9)],S:=[(25,rG),(26,se),(27,CZ),(28,xS),(29,xN)],H:=[],res:=[.tmp 2],ios:=[],G:=gl2}
def ep:List D→Option Out:=aS kE Tryz.f8
@[reducible] def sD:FS:={pm:=[kd0],rm:=[kd0],f:=ep}
theorem sB:au gl2 Tryz.prog 8 sD:=ax (c:=kE) (ab (aI mw EQ) (ab Ex (ab (aI mw QZ) (ab (aI mw Lg) (ab (aI mw Lo) al))))) Tryz.func8 rfl rfl (by kernel_rfl)
@[reducible] def jQ:Cx:={K:=[kd0,.no,kd0,kd0,kd0,kd0,kd0,kd0,kd0,kd0,kd0,kd0,kd0,kd0,.tup [kd0,kd0,kd0,kd0],kd0,.tup [kd0,kd0,kd0,kd0],kd0,kd0,kd0,kd0,.tup [kd0,kd0,kd0,kd0],kd0,.tup [kd0,kd0,kd0,kd0],kd0,kd0,kd0,kd0,kd0,kd0,kd0,kd0,kd0,kd0,kd0,kd0,kd0,kd0,kd0,kd0,kd0,kd0,kd0,kd0,kd0,kd0],T:=[(3,ty3),(4,ty4),(9,ty9)],S:=[(15,qE),(16,qg)],H:=[],res:=[.tmp 2],ios:=[],G:=gl2}
def dT:List D→Option Out:=aS jQ Tryz.f5
@[reducible] def ry:FS:={pm:=[kd0],rm:=[kd0],f:=dT}
theorem rE:au gl2 Tryz.prog 5 ry:=ax (c:=jQ) (ab (aI mw BU) (ab BD al)) Tryz.func5 rfl rfl (by kernel_rfl)
end Go.Proofs.YtjafgdefcggjcaaGreatDoor

namespace Go.Proofs.YtjafgdefcggjcaaGreatDoor
open Go Go.V
theorem vi (x0:D):eS [x0]=((lenD true x0).bind fun z=>(bin .gtr false [] z (I 1048576)).bind fun z=>ifD z (some (.ret [B true] [])) (ae (kj [x0]) fun c _=>(aq (.tup c) 0).bind fun z=>(aq (.tup c) 1).bind fun d=>(stD 3 (.agg [I 0,I 0,I 0]) (.ref 0 0) z).bind fun b=>ae (ki [x0]) fun c _=>(aq (.tup c) 0).bind fun z=>(aq (.tup c) 1).bind fun e=>(stD 3 (.agg [I 0,I 0,I 0]) (.ref 0 0) z).bind fun f=>(bf true 3 0 f).bind fun z=>(bf true 3 0 b).bind fun g=>ae (pb [z,g]) fun c _=>(un .not (sl c 0)).bind fun z=>(aj (.tup []) z false (some e)).bind fun h=>(aj (.tup []) z false (some d)).bind fun j=>(aj (.tup []) z false (bin .neq true [] h j)).bind fun k=>(aT z (B true) k).bind fun z=>ifD z (some (.ret [B false] [])) (some (.ret [B true] [])))):=by kernel_rfl
theorem ug (x0:D):eF [x0]=((lenD true x0).bind fun z=>(bin .gtr false [] z (I 1048576)).bind fun z=>ifD z (some (.ret [B true] [])) (ae (jy [x0]) fun c _=>(aq (.tup c) 0).bind fun y=>(aq (dg (.tup c) 0) 1).bind fun z=>ae (gg [x0]) fun c _=>(aq (.tup c) 0).bind fun g=>(aq (dg (.tup c) 0) 1).bind fun m=>(aa g (.ref 0 0)).bind fun d=>(aa d (.ref 0 0)).bind fun n=>(aa n g).bind fun i=>ae (jG [i,y]) fun c _=>(un .not (sl c 0)).bind fun e=>(aj (.tup []) e false (some m)).bind fun p=>(aj (.tup []) e false (some z)).bind fun q=>(aj (.tup []) e false (bin .neq true [] p q)).bind fun r=>(aT e (B true) r).bind fun t=>ifD t (some (.ret [B false] [])) ((aa d (.ref 0 0)).bind fun u=>(kS u g).bind fun i=>(aa i i).bind fun i=>ae (kr [i,I 1]) fun c h=>(aa d (.ref 0 0)).bind fun v=>(aa v (sl h 0)).bind fun i=>ae (gZ [i,I 1]) fun j _=>(bin .lss false [] (sl j 0) (I 0)).bind fun w=>ifD w (some (.ret [B false] [])) ((bin .neq false [] (sl j 0) (sl c 0)).bind fun za=>ifD za (some (.ret [B false] [])) (ae (gg [x0]) fun k _=>(aq (.tup k) 0).bind fun zb=>(aq (dg (.tup k) 0) 1).bind fun zc=>ae (jG [zb,y]) fun zd _=>(un .not (sl zd 0)).bind fun f=>(aj (.tup []) f false (some zc)).bind fun ze=>(aj (.tup []) f false (some z)).bind fun z=>(aj (.tup []) f false (bin .neq true [] ze z)).bind fun z=>(aT f (B true) z).bind fun z=>ifD z (some (.ret [B false] [])) ((aa d (.ref 0 0)).bind fun z=>(aa z (sl h 0)).bind fun i=>ae (gZ [i,I 1]) fun l _=>(bin .lss false [] (sl l 0) (I 0)).bind fun z=>ifD z (some (.ret [B false] [])) ((bin .neq false [] (sl l 0) (sl c 0)).bind fun z=>ifD z (some (.ret [B false] [])) (some (.ret [B true] []))))))))):=by kernel_rfl
theorem rZ (x0:D):dV [x0]=((lenD true x0).bind fun z=>(bin .gtr false [] z (I 1048576)).bind fun z=>ifD z (some (.ret [B true] [])) (ae (gP [x0]) fun c _=>(aq (.tup c) 0).bind fun z=>(aq (.tup c) 1).bind fun d=>ae (gF [x0]) fun c _=>(aq (.tup c) 0).bind fun e=>(aq (.tup c) 1).bind fun f=>(bin .neq false [] e z).bind fun z=>(aj (.tup []) z false (some f)).bind fun g=>(aj (.tup []) z false (some d)).bind fun h=>(aj (.tup []) z false (bin .neq true [] g h)).bind fun j=>(aT z (B true) j).bind fun z=>ifD z (some (.ret [B false] [])) (some (.ret [B true] [])))):=by kernel_rfl
theorem sy (x0:D):ep [x0]=((lenD true x0).bind fun z=>(bin .gtr false [] z (I 1048576)).bind fun z=>ifD z (some (.ret [B true] [])) (ae (iC [x0]) fun c _=>(aq (.tup c) 0).bind fun z=>(aq (.tup c) 1).bind fun f=>ae (fL [x0]) fun c _=>(aq (.tup c) 0).bind fun y=>(aq (dg (.tup c) 0) 1).bind fun l=>(aa y (.ref 0 0)).bind fun d=>(aa d (.ref 0 0)).bind fun m=>(aa m y).bind fun i=>ae (kW [i,z]) fun c _=>(un .not (sl c 0)).bind fun e=>(aj (.tup []) e false (some l)).bind fun n=>(aj (.tup []) e false (some f)).bind fun p=>(aj (.tup []) e false (bin .neq true [] n p)).bind fun q=>(aT e (B true) q).bind fun r=>ifD r (some (.ret [B false] [])) ((aa d (.ref 0 0)).bind fun t=>(kS t y).bind fun i=>(aa i i).bind fun i=>ae (lF [i,I 1]) fun c g=>(aa d (.ref 0 0)).bind fun u=>(aa u (sl g 0)).bind fun i=>ae (iO [i,I 1]) fun h _=>(bin .lss false [] (sl h 0) (I 0)).bind fun v=>ifD v (some (.ret [B false] [])) ((bin .neq false [] (sl h 0) (sl c 0)).bind fun w=>ifD w (some (.ret [B false] [])) (ae (fL [x0]) fun j _=>(aq (.tup j) 0).bind fun y=>(aq (dg (.tup j) 0) 1).bind fun za=>ae (kW [y,z]) fun zb _=>(un .not (sl zb 0)).bind fun z=>(aj (.tup []) z false (some za)).bind fun zc=>(aj (.tup []) z false (some f)).bind fun zd=>(aj (.tup []) z false (bin .neq true [] zc zd)).bind fun ze=>(aT z (B true) ze).bind fun z=>ifD z (some (.ret [B false] [])) ((aa d (.ref 0 0)).bind fun z=>(aa z (sl g 0)).bind fun i=>ae (iO [i,I 1]) fun k _=>(bin .lss false [] (sl k 0) (I 0)).bind fun z=>ifD z (some (.ret [B false] [])) ((bin .neq false [] (sl k 0) (sl c 0)).bind fun z=>ifD z (some (.ret [B false] [])) (some (.ret [B true] []))))))))):=by kernel_rfl
theorem rX (x0:D):dT [x0]=((lenD true x0).bind fun z=>(bin .gtr false [] z (I 1048576)).bind fun z=>ifD z (some (.ret [B true] [])) (ae (gL [x0]) fun c _=>(aq (.tup c) 0).bind fun z=>(aq (.tup c) 1).bind fun d=>(aq (.tup c) 2).bind fun e=>(aq (.tup c) 3).bind fun f=>ae (gN [x0]) fun c _=>(aq (.tup c) 0).bind fun g=>(aq (.tup c) 1).bind fun h=>(aq (.tup c) 2).bind fun j=>(aq (.tup c) 3).bind fun k=>(bin .neq false [] g z).bind fun z=>(aj (.tup []) z false (some h)).bind fun l=>(aj (.tup []) z false (some d)).bind fun m=>(aj (.tup []) z false (bin .neq false [] l m)).bind fun n=>(aT z (B true) n).bind fun z=>(aj (.tup []) z false (some j)).bind fun p=>(aj (.tup []) z false (some e)).bind fun q=>(aj (.tup []) z false (bin .neq false [] p q)).bind fun r=>(aT z (B true) r).bind fun z=>(aj (.tup []) z false (some k)).bind fun t=>(aj (.tup []) z false (some f)).bind fun u=>(aj (.tup []) z false (bin .neq true [] t u)).bind fun v=>(aT z (B true) v).bind fun z=>ifD z (some (.ret [B false] [])) (some (.ret [B true] [])))):=by kernel_rfl
end Go.Proofs.YtjafgdefcggjcaaGreatDoor

namespace Go.Proofs.YtjafgdefcggjcaaGreatDoor
open Go Go.V
def st7 (c:Cn):D:=.agg [I c.m.1,I c.m.2.1,I c.m.2.2,sls c.s,ai c.t,T c.j,fos c.f]
section
variable (c:Cn)
theorem bD:aa (st7 c) (D.ref 0 0)=some (D.ref 0 0):=rfl
theorem bS:aa (st7 c) (st7 c)=some (st7 c):=rfl
theorem gR:kS (D.ref 0 0) (st7 c)=some (st7 c):=rfl
theorem Nw:((atD (st7 c) (.ref 0 0)).bind (an true 3)).bind aL=some (me c.m):=rfl
theorem Xm:(atD (st7 c) (.ref 0 3)).bind (an false 1)=some (sls c.s):=rfl
theorem acz:(atD (st7 c) (.ref 0 4)).bind (an false 1)=some (ai c.t):=rfl
theorem Cj:((atD (st7 c) (.ref 0 5)).bind (an false 1)).bind aL=some (T c.j):=rfl
theorem afu:(atD (st7 c) (.ref 0 6)).bind (an false 1)=some (fos c.f):=rfl
theorem mb (m:Me):stD 3 (st7 c) (.ref 0 0) (me m)=some (st7 {c with m:=m}):=rfl
theorem nD (s:List Slp):stD 1 (st7 c) (.ref 0 3) (sls s)=some (st7 {c with s:=s}):=rfl
theorem agP (t:List Int):stD 1 (st7 c) (.ref 0 4) (ai t)=some (st7 {c with t:=t}):=rfl
theorem agO (j:ByteArray):stD 1 (st7 c) (.ref 0 5) (T j)=some (st7 {c with j:=j}):=rfl
theorem ag3 (f:List Fo):stD 1 (st7 c) (.ref 0 6) (fos f)=some (st7 {c with f:=f}):=rfl
theorem ab8:(atD (st7 c) (.ref 0 0)).bind (an true 7)=some (st7 c):=rfl
theorem YQ:bf true 7 0 (st7 c)=some (st7 c):=rfl
theorem UO (d:Cn):stD 7 (st7 c) (.ref 0 0) (st7 d)=some (st7 d):=rfl
end
def MN (c:Cn) (s:ByteArray):ByteArray × Cn :=
 if (pM s).isSome=false then(noT,c) else if joB [c.m,meO (pM s)]=false then(noT,{c with m:=joR [c.m,meO (pM s)]}) else(mtT (joR [c.m,meO (pM s)]),{c with m:=joR [c.m,meO (pM s)]})
theorem LM (c:Cn) (s:ByteArray) (h:s.size≤1048576):fQ [st7 c,T s]=some (.ret [T (MN c s).1] [st7 (MN c s).2]):=by
 rw [yb]
 have e1:=vo s h
 unfold MN
 cases hq:(pM s).isSome<;>rw [hq] at e1
 ·simp -implicitDefEqProofs only [ay,aht,ahu,ahv,e1,t0G,t1V,rV,ro,bD,bS,bg,aR,Nw,mb]
 ·have e2:=JA [c.m,meO (pM s)] (by simp)
  cases hj:joB [c.m,meO (pM s)]<;>rw [hj] at e2
  ·simp -implicitDefEqProofs only [ay,aht,ahu,ahv,e1,e2,t0G,t1V,rV,ro,Ub,bD,bS,bg,aR,Nw,mb,ah4]
  ·have e3:=pV (yB hj)
   have e4:((atD (st7 {c with m:=joR [c.m,meO (pM s)]}) (.ref 0 0)).bind (an true 3)).bind aL=some (me (joR [c.m,meO (pM s)])):=rfl
   simp -implicitDefEqProofs only [ay,aht,ahu,ahv,e1,e2,e3,e4,t0G,t1V,rV,ro,Ub,bD,bS,bg,aR,Nw,mb,ah4]
theorem LZ (c:Cn) (g:Int) (hm:ck c.m=true):fO [st7 c,I g]=some (.ret [T (ij c dC [g]).1] [st7 (ij c dC [g]).2]):=by
 rw [yj]
 have e1:=Lk c.m g
 have e2:=pV (Ax (g:=g) hm)
 have hmc:ij c dC [g]=if tkB c.m g=true then(mtT (tkR c.m g),{c with m:=tkR c.m g}) else(noT,c):=rfl
 rw [hmc]
 cases hq:tkB c.m g<;>rw [hq] at e1<;>simp -implicitDefEqProofs only [ay,aht,ahu,ahv,e1,e2,t0G,t1G,t2V,rV,ro,Nw,bD,bS,bg,aR,mb]
theorem La (c:Cn) (a:Int) (hs:ct c.s=true):fS [st7 c,I a]=some (.ret [T (ij c dv [a]).1] [st7 (ij c dv [a]).2]):=by
 rw [yd]
 have h8:=ef hs
 have e1:=QP c.s a (by omega)
 obtain⟨hv1,hv2⟩:=AX (n:=a) hs
 have e2:cV [ai (rlV c.s a),D.v (ahD {data:={toList:=[32]}})]=some (.ret [T (bX 32 (rlV c.s a))] []):=wD (rlV c.s a) 32 (tQ fun z hz=>by have:=hv2 z hz;omega) (by omega)
 have hmc:ij c dv [a]=if rlB c.s a=true then(bX 32 (rlV c.s a),{c with s:=rsS c.s (rlV c.s a)}) else(noT,c):=rfl
 rw [hmc]
 cases hq:rlB c.s a
 ·rw [hq] at e1
  simp -implicitDefEqProofs only [ay,aht,ahu,ahv,e1,t0A,t1V,Xm,bD,bS,bg,aR]
 ·rw [hq] at e1
  have hlen:(rlV c.s a).length=c.s.length:=by unfold rlV;rw [if_pos hq,qM]
  have e3:=Xg c.s (rlV c.s a) (by omega) hlen
  simp -implicitDefEqProofs only [ay,aht,ahu,ahv,e1,e2,e3,t0A,t1V,Xm,nD,bD,bS,bg,aR]
theorem YW (c:Cn) (a b:Int) (hs:ct c.s=true):kB [st7 c,I a,I b]=some (.ret [T (ij c gE [a,b]).1] [st7 (ij c gE [a,b]).2]):=by
 rw [IK]
 have h8:=ef hs
 have e1:=Ot c.s a b (by omega)
 have e2:=Mx (Pl (l:=c.s) (i:=a) (n:=b))
 have hmc:ij c gE [a,b]=if cuB c.s a b=true then(stT (cuR c.s a b),{c with s:=cuR c.s a b}) else(noT,c):=rfl
 rw [hmc]
 cases hq:cuB c.s a b<;>rw [hq] at e1<;>simp -implicitDefEqProofs only [ay,aht,ahu,ahv,e1,e2,t0A,t1V,Xm,nD,bD,bS,bg,aR]
end Go.Proofs.YtjafgdefcggjcaaGreatDoor

namespace Go.Proofs.YtjafgdefcggjcaaGreatDoor
open Go Go.V
theorem RV:∀(l:List ByteArray) (acc:List Int),(qe l acc).length≤acc.length+l.length
 | [],acc=>ahL _
 | w::l,acc=>by
  simp only [qe]
  split
  ·have:=RV l (acc++[‹Int›])
   simp only [ahE,ahN,ahO] at this ⊢
   omega
  ·simp
theorem abg (s:ByteArray):(fc s).length≤s.size+1:=by
 have h1:=RV (Lib.goFieldsP rC s) []
 have h2:=DH rC s
 unfold fc
 simp only [ahO] at h1
 omega
theorem ZR:∀l:List Int,(prS l).length≤l.length
 | []=>ahL _
 | [_]=>ahJ _
 | a::b::r=>by
  have:=ZR r
  simp only [prS,ahN]
  omega
theorem Ir (s:ByteArray) (h:s.size≤100000):jn [T s]=some (.ret [sls (stO (pSt s)),B (pSt s).isSome] []):=by
 rw [HN]
 have hn:=km s (by omega)
 have hl:=abg s
 have hdef:pSt s=if ct (prS (fc s))=true∧stT (prS (fc s))=s then some (prS (fc s)) else none:=rfl
 have hpl:=ZR (fc s)
 generalize fc s=ns at hn hl hdef hpl
 simp -implicitDefEqProofs only [ay,aht,ahu,ahv,hn]
 refine cG (fun r=>r=_) (fun(a:List Slp × List Int)=>[T s,sls a.1,ja a.2]) (fun a=>a.2.length+a.1.length≤100001∧a.1++prS a.2=prS ns) (fun a=>a.2.length)
  (fun o=>o = .ext 0 [T s,sls (prS ns)]) ?_ ([],ns) ⟨by simp;omega,rfl⟩ rfl ?_
 ·rintro⟨acc,m⟩ ⟨g1,g2⟩
  dsimp only at g1 g2
  match m,g1,g2 with
  | a::b::r,g1,g2 =>
   have h2:(2:Int)≤((a::b::r).length:Int):=by simp only [ahN];omega
   have e0:ao 1 (ja (a::b::r)) (I 0)=some [I a]:=rfl
   have e1:ao 1 (ja (a::b::r)) (I 1)=some [I b]:=rfl
   have es:cJ false 1 (ja (a::b::r)) (I 2)=some (ja r):=by
    have:=mn (z:=1) (k:=.i64) (l:=(a::b::r).map I) (i:=2) (by simp)
    exact this
   have ha:=je (l:=acc) (m:=[(b,a)]) (by simp at g1 ⊢;omega)
   refine .inl ⟨(acc++[(b,a)],r),?_,⟨by simp at g1 ⊢;omega,by rw [←g2];simp [prS]⟩,by simp;omega⟩
   simp -implicitDefEqProofs only [ay,aht,ahu,ahv,h2,e0,e1,ad7,Mg,jj,ha,es]
  | [],g1,g2 =>
   refine .inr ⟨.ext 0 [T s,sls acc],?_,rfl,?_⟩
   ·simp -implicitDefEqProofs only [ay,aht,ahu,ahv,ahO,show ¬(2:Int)≤((0:Nat):Int) by decide]
   ·have:acc=prS ns:=by rw [←g2];simp [prS]
    rw [this]
  | [a],g1,g2 =>
   refine .inr ⟨.ext 0 [T s,sls acc],?_,rfl,?_⟩
   ·simp -implicitDefEqProofs only [ay,aht,ahu,ahv,ahN,ahO,show ¬(2:Int)≤((0+1:Nat):Int) by decide]
   ·have:acc=prS ns:=by rw [←g2];simp [prS]
    rw [this]
 ·rintro o rfl
  generalize prS ns=L at hdef hpl
  rw [hdef]
  have hi:=dm L (by omega)
  cases hg:ct L
  ·rw [if_neg (fun g=>by cases g.1)]
   simp -implicitDefEqProofs only [ay,aht,ahu,ahv,hi,hg]
   rfl
  ·by_cases he:stT L=s
   ·rw [if_pos ⟨rfl,he⟩]
    simp -implicitDefEqProofs only [ay,aht,ahu,ahv,hi,hg,Mx hg,jI,he]
    rfl
   ·rw [if_neg (fun g=>he g.2)]
    simp -implicitDefEqProofs only [ay,aht,ahu,ahv,hi,hg,Mx hg,jI,he]
    rfl
theorem Fe (l:List Nt) (h:l.length≤1048576):iw [nts l]=some (.ret [T (jtS l).1,B (jtS l).2] []):=by
 rw [Em]
 unfold jtS
 cases hg:gk l
 ·rw [if_neg (fun g=>by cases g.1)]
  simp -implicitDefEqProofs [cm l h,hg]
 ·have hall:=(Iv hg).1
  by_cases hz:(jT l 7).size≤300
  ·have hz':¬(300:Int)<((jT l 7).size:Int):=by omega
   rw [if_pos ⟨rfl,hz⟩]
   simp -implicitDefEqProofs [cm l h,hg,Mr l hall h,hz']
  ·have hz':(300:Int)<((jT l 7).size:Int):=by omega
   rw [if_neg (fun g=>hz g.2)]
   simp -implicitDefEqProofs [cm l h,hg,Mr l hall h,hz']
theorem FY (s:ByteArray) (x:Nt) (h:s.size≤1048576):ji [T s,nt x]=some (.ret [T (anS s x).1,B (anS s x).2] []):=by
 rw [HK]
 have e1:=lU s h
 have hlen:=tr s
 unfold anS
 generalize jrS s=R at *
 obtain⟨l,p⟩:=R
 simp only at e1 hlen ⊢
 have hap:=wF (l:=l) (m:=[x]) (by simp;omega)
 have hl2:(l++[x]).length≤1048576:=by rw [ahE,ah1];omega
 have hJ:=Fe (l++[x]) hl2
 simp -implicitDefEqProofs only [Yh,ahx,e1,am,tp0,tc0,agU,bd,Mz]
 cases p
 ·simp -implicitDefEqProofs
 cases hx:lR x
 ·have hg:gk (l++[x])=false:=by
   cases hg:gk (l++[x])
   ·rfl
   ·rw [(jO hg).1] at hx
    cases hx
  have:jtS (l++[x])=(⟨#[]⟩,false):=by
   unfold jtS
   rw [if_neg (fun g=>by rw [hg] at g;cases g.1)]
  rw [this]
  simp -implicitDefEqProofs [kR,hx]
 ·simp -implicitDefEqProofs only [kR,hx,ahI,bG,bQ,bv,am,ak,ahx,bd,ahA,if_false,if_true,aN,aG,Vo,hap,hJ]
  simp -implicitDefEqProofs
end Go.Proofs.YtjafgdefcggjcaaGreatDoor

namespace Go.Proofs.YtjafgdefcggjcaaGreatDoor
open Go Go.V
theorem zE (b:Bool):jU [B b]=some (.ret [T (if b=true then okT else noT)] []):=by
 rw [Ph]
 cases b<;>simp -implicitDefEqProofs only [ay,aht,ahu,ahv]
theorem dz (n:Int) (b:Bool) (h0 : -9223372036854775808≤n) (h1:n≤9223372036854775807):ce [I n,B b]=some (.ret [T (if b=true then aJ n else noT)] []):=by
 rw [Ev]
 have e1:=MK h0 h1
 cases b<;>simp -implicitDefEqProofs only [ay,aht,ahu,ahv,e1]
def YK (c:Cn) (v:Int):ByteArray × Cn:=(if eE (c.t++[v])=true then aJ ((c.t.length+1:Nat):Int) else noT,{c with t:=c.t++[v]})
theorem YJ (c:Cn) (v:Int) (ht:eE c.t=true):ky [st7 c,I v]=some (.ret [T (YK c v).1] [st7 (YK c v).2]):=by
 rw [JD]
 obtain⟨t1,t2,t3⟩:=qU ht
 have hck:=kn c.t
 have a0:bA 1 8 (D.arr 1 []) (ai c.t)=some (ai c.t):=ed (l:=[]) (m:=c.t) (by simp;omega)
 have hmk:aH 1 [I v]=some (ai [v]):=rfl
 have a1:=ed (l:=c.t) (m:=[v]) (by simp;omega)
 have e1:=rJ (c.t++[v]) (by simp;omega)
 have hlen:(((c.t++[v]).length:Nat):Int)=((c.t.length+1:Nat):Int):=by simp
 have e2:=fun b=>dz ((c.t.length+1:Nat):Int) b (by omega) (by omega)
 have e4:(atD (st7 {c with t:=c.t++[v]}) (.ref 0 4)).bind (an false 1)=some (ai (c.t++[v])):=rfl
 unfold YK
 simp -implicitDefEqProofs only [ay,aht,ahu,ahv,hck,a0,hmk,a1,e1,hlen,e2,e4,acz,agP,bD,bS,bg,aR]
def Pr (c:Cn) (x:Nt):ByteArray × Cn:=(if (anS c.j x).2=true then aJ ((jrS (anS c.j x).1).1.length:Int) else noT,{c with j:=(anS c.j x).1})
theorem Wx (c:Cn) (x:Nt) (hj:c.j.size≤300):jm [st7 c,nt x]=some (.ret [T (Pr c x).1] [st7 (Pr c x).2]):=by
 rw [GY]
 have e1:=FY c.j x (by omega)
 have hz:=Oe c.j x
 have e2:=lU (anS c.j x).1 (by omega)
 have hl:=tr (anS c.j x).1
 have e3:=fun b=>dz ((jrS (anS c.j x).1).1.length:Int) b (by omega) (by omega)
 have hf:bf true 3 0 (nt x)=some (nt x):=rfl
 unfold Pr
 simp -implicitDefEqProofs only [ay,aht,ahu,ahv,Yh,hf,e1,e2,e3,t0V,t1V,t0A,kU,Cj,agO,bD,bS,bg,aR]
def Fa (c:Cn) (a:Int):ByteArray × Cn:=(if pX (c.f++[(a,true)])=true then aJ ((c.f.length+1:Nat):Int) else noT,{c with f:=c.f++[(a,true)]})
theorem Wp (c:Cn) (a:Int) (hf:abp c.f):jh [st7 c,I a]=some (.ret [T (Fa c a).1] [st7 (Fa c a).2]):=by
 rw [GJ]
 have h4:=hf.1
 have hck:=Mm c.f
 have ha0:bA 2 16 (D.arr 2 []) (fos c.f)=some (fos c.f):=tj (l:=[]) (m:=c.f) (by simp;omega)
 have hmk:aH 2 [D.agg [I a,B true]]=some (fos [(a,true)]):=rfl
 have ha:=tj (l:=c.f) (m:=[(a,true)]) (by simp;omega)
 have e2:=xD (c.f++[(a,true)]) (by simp;omega)
 have hlen:(((c.f++[(a,true)]).length:Nat):Int)=((c.f.length+1:Nat):Int):=by simp
 have e3:=fun b=>dz ((c.f.length+1:Nat):Int) b (by omega) (by omega)
 have e4:(atD (st7 {c with f:=c.f++[(a,true)]}) (.ref 0 6)).bind (an false 1)=some (fos (c.f++[(a,true)])):=rfl
 unfold Fa
 simp -implicitDefEqProofs only [ay,aht,ahu,ahv,hck,ha0,TM,hmk,ha,e2,hlen,e3,e4,afu,ag3,bD,bS,bg,aR]
end Go.Proofs.YtjafgdefcggjcaaGreatDoor

namespace Go.Proofs.YtjafgdefcggjcaaGreatDoor
open Go Go.V
theorem af7 (l:List Int):QM l=wd l:=by
 have h:=wt l [] ahW
 rw [ahS] at h
 have hs:(QM l).Pairwise (·≤·):=by
  have:=List.pairwise_mergeSort (le:=fun x y:Int=>decide (x≤y)) (fun a b c h1 h2=>by simp at *;omega) (fun a b=>by simp;omega) l
  exact this.imp fun h=>by simpa using h
 exact List.Perm.eq_of_pairwise (le:=(·≤·)) (fun a b _ _ h1 h2=>by omega) hs h.1 ((List.mergeSort_perm _ _).trans h.2.symm)
theorem Qo (l:List Int) (h:l.length≤1000) (hr:∀n∈l,-500≤n∧n≤500):oB [ai l]=some (.ret [ai (wd l)] []):=by
 rw [Qu]
 have hck:=kn l
 have a0:bA 1 8 (D.arr 1 []) (ai l)=some (ai l):=ed (l:=[]) (m:=l) (by simp;omega)
 have hlv:aa (ai l) (D.ref 0 0)=some (D.ref 0 0):=rfl
 have hr0:kS (D.ref 0 0) (ai l)=some (ai l):=rfl
 have hlv2:aa (ai l) (ai l)=some (ai l):=rfl
 have hs:ID [ai l]=some (.ret [] [ai (wd l)]):=by
  have e:ID [ai l]=(ET (l.map I)).bind fun l=>if l.length≤1048576 then some (.ret [] [ja (QM l)]) else none:=rfl
  rw [e]
  have:=MS l fun x hx=>by
   have:=hr x hx
   unfold inI
   omega
  rw [this,ahx,if_pos (by omega),af7]
 simp -implicitDefEqProofs only [ay,aht,ahu,ahv,hck,a0,hlv,hr0,hlv2,hs]
theorem Kg (l:List Int) (h:eE l=true):kc [ai l]=some (.ret [I (ER l),B true] []):=by
 rw [IM]
 obtain⟨h1,h2,h3⟩:=qU h
 have hg:=rJ l (by omega)
 rw [h] at hg
 have hs:=Qo l (by omega) h3
 have e1:ahw.wrap ((l.length:Int) - 1)=((l.length - 1:Nat):Int):=by rw [ah (by omega) (by omega)];omega
 have hix:(l.length - 1) / 2<(wd l).length:=by rw [FH];omega
 have e2:=rD (a:=l.length - 1) (by omega)
 have hel:ao 1 (ai (wd l)) (I (((l.length - 1) / 2:Nat):Int))=some [I (ER l)]:=by
  unfold ER
  generalize (l.length - 1) / 2=m at hix
  simp [hix]
 simp -implicitDefEqProofs only [ay,aht,ahu,ahv,hg,hs,e1,e2,hel]
end Go.Proofs.YtjafgdefcggjcaaGreatDoor

namespace Go.Proofs.YtjafgdefcggjcaaGreatDoor
open Go Go.V
theorem fh (x:Ln):fJ 3 (lnD x)=some (lnD x):=rfl
theorem dM (x:Ln) (k:Nat):aa (lnD x) (D.ref 0 k)=some (D.ref 0 k):=rfl
theorem jg (x:Ln):((atD (lnD x) (D.ref 0 0)).bind (an false 1)).bind aL=some (T x.1):=rfl
theorem pZ (x:Ln):((atD (lnD x) (D.ref 0 1)).bind (an false 1)).bind aL=some (T x.2.1):=rfl
theorem mZ (x:Ln):(atD (lnD x) (D.ref 0 2)).bind (an false 1)=some (ai x.2.2):=rfl
theorem lP (c:Cn) (w rest:ByteArray) (r:List Int) (hk:CnOk c)
  (hw:(w=bN∧r.length=0)∨(w=bw∧r.length=1)∨(w=bM∧r.length=0)∨(w=cv∧r.length=0)∨(w=cr∧r.length=2)∨(w=cj∧r.length=1)∨(w=bH∧r.length=0)) :
  kg [st7 c,lnD (w,rest,r)]=some (.ret [T (bp c w rest r).1] [st7 c])∧(bp c w rest r).2=c:=by
 rw [IY]
 obtain⟨hm,hs,ht,hj,hf⟩:=hk
 obtain⟨t1,t2,t3⟩:=qU ht
 have hl:=tr c.j
 have h8:=ef hs
 have e0:=lU c.j (by omega)
 rcases hw with ⟨rfl,hr⟩ | ⟨rfl,hr⟩ | ⟨rfl,hr⟩ | ⟨rfl,hr⟩ | ⟨rfl,hr⟩ | ⟨rfl,hr⟩ | ⟨rfl,hr⟩
 ·obtain rfl:=ahG hr
  have hmc:bp c bN rest []=(if shB c.m=true then bX 32 (shR c.m) else noT,c):=rfl
  rw [hmc]
  refine⟨?_,rfl⟩
  have e1:=LO c.m
  cases hq:shB c.m<;>rw [hq] at e1
  ·simp -implicitDefEqProofs only [ay,aht,ahu,ahv,fh,dM,jg,e0,ly,e1,t0A,kU,t1V,Nw,Cj,bD,bS,bg,aR]
  ·have hb:∀z∈shR c.m,0≤z∧z≤1000:=by
    unfold shR
    rw [if_pos hq]
    exact(Vj hq).2.2
   have hl3:(shR c.m).length≤3:=by
    unfold shR
    rw [if_pos hq]
    exact ahL 3
   have e2:cV [ai (shR c.m),D.v (ahD {data:={toList:=[32]}})]=some (.ret [T (bX 32 (shR c.m))] []):=wD (shR c.m) 32 (tQ fun z hz=>by have:=hb z hz;omega) (by omega)
   simp -implicitDefEqProofs only [ay,aht,ahu,ahv,fh,dM,jg,e0,ly,e1,e2,t0A,kU,t1V,Nw,Cj,bD,bS,bg,aR]
 ·obtain⟨a,rfl⟩:=ahz.1 hr
  have hel:ao 1 (ai [a]) (D.v (ahy ahw 0))=some [I a]:=rfl
  have hmc:bp c bw rest [a]=(if (sE c.s a).isSome=true then aJ (zP c.s a) else noT,c):=rfl
  rw [hmc]
  refine⟨?_,rfl⟩
  have e1:=FJ c.s a (by omega)
  have hmb:=Zb (l:=c.s) (n:=a)
  have e2:=fun b=>dz (zP c.s a) b (by omega) (by omega)
  simp -implicitDefEqProofs only [ay,aht,ahu,ahv,fh,dM,jg,mZ,hel,e0,nO,sH,e1,e2,t0V,t0A,kU,t1V,Xm,Cj,bD,bS,bg,aR]
 ·obtain rfl:=ahG hr
  have hmc:bp c bM rest []=(aJ (ER c.t),c):=rfl
  rw [hmc]
  refine⟨?_,rfl⟩
  have e1:=Kg c.t ht
  have hb:=YZ ht
  have e2:=dz (ER c.t) true (by omega) (by omega)
  rw [if_pos rfl] at e2
  simp -implicitDefEqProofs only [ay,aht,ahu,ahv,fh,dM,jg,e0,xw,uM,xe,e1,e2,t0V,t0A,kU,t1V,acz,Cj,bD,bS,bg,aR]
 ·obtain rfl:=ahG hr
  have hmc:bp c cv rest []=(bX 32 [((fW c.t c.t.length).1:Int),((fW c.t c.t.length).2:Int)],c):=rfl
  rw [hmc]
  refine⟨?_,rfl⟩
  have e1:=BP c.t (by omega)
  rw [ht,if_pos rfl,if_pos rfl,←adq c.t c.t.length t1] at e1
  have hb:=Uj c.t c.t.length (ahL _)
  have hbb:∀z∈[((fW c.t c.t.length).1:Int),((fW c.t c.t.length).2:Int)],-1000000000000000000<z∧z<1000000000000000000:=by
   intro z hz
   simp only [ahV,List.not_mem_nil,or_false] at hz
   rcases hz with rfl | rfl<;>omega
  have hmk:aH 1 [I ((fW c.t c.t.length).1:Int),I ((fW c.t c.t.length).2:Int)]=some (ai [((fW c.t c.t.length).1:Int),((fW c.t c.t.length).2:Int)]):=rfl
  have e2:cV [ai [((fW c.t c.t.length).1:Int),((fW c.t c.t.length).2:Int)],D.v (ahD {data:={toList:=[32]}})]=some (.ret [T (bX 32 [((fW c.t c.t.length).1:Int),((fW c.t c.t.length).2:Int)])] []):=wD _ 32 (tQ hbb) (by simp)
  simp -implicitDefEqProofs only [ay,aht,ahu,ahv,fh,dM,jg,e0,zL,xg,yH,DQ,e1,e2,hmk,t0V,t0A,kU,t1V,t2V,acz,Cj,bD,bS,bg,aR]
 ·obtain⟨a,b,rfl⟩:=Ie hr
  have hel:ao 1 (ai [a,b]) (D.v (ahy ahw 0))=some [I a]:=rfl
  have hel1:ao 1 (ai [a,b]) (D.v (ahy ahw 1))=some [I b]:=rfl
  have hmc:bp c cr rest [a,b]=(if er (jrS c.j).1 a b=true then aJ (bB (jrS c.j).1 a b) else noT,c):=rfl
  rw [hmc]
  refine⟨?_,rfl⟩
  have e1:=Hw (jrS c.j).1 a b (by omega)
  have hb:=Ul (l:=(jrS c.j).1) (s:=a) (d:=b)
  have e2:=fun q=>dz (if er (jrS c.j).1 a b=true then bB (jrS c.j).1 a b else 0) q (by omega) (by omega)
  cases hq:er (jrS c.j).1 a b<;>rw [hq] at e1 e2<;>simp only [if_true,if_false,ahA] at e1 e2<;>simp -implicitDefEqProofs only [ay,aht,ahu,ahv,fh,dM,jg,mZ,hel,hel1,e0,zN,xd,yR,Dj,CO,e1,e2,t0V,t0A,kU,t1V,Cj,bD,bS,bg,aR]
 ·obtain⟨a,rfl⟩:=ahz.1 hr
  have hel:ao 1 (ai [a]) (D.v (ahy ahw 0))=some [I a]:=rfl
  have hmc:bp c cj rest [a]=(if fR (jrS c.j).1 a=true then aJ (gu (jrS c.j).1 a).1 else noT,c):=rfl
  rw [hmc]
  refine⟨?_,rfl⟩
  have e1:=Gb (jrS c.j).1 a (by omega)
  have hb:=Un (l:=(jrS c.j).1) (s:=a)
  have e2:=fun q=>dz (gu (jrS c.j).1 a).1 q (by omega) (by omega)
  simp -implicitDefEqProofs only [ay,aht,ahu,ahv,fh,dM,jg,mZ,hel,e0,zJ,xu,yo,Db,CT,Cy,e1,e2,t0V,t0A,kU,t1V,t2V,Cj,bD,bS,bg,aR]
 ·obtain rfl:=ahG hr
  have hmc:bp c bH rest []=(Yg c.f,c):=rfl
  rw [hmc]
  refine⟨?_,rfl⟩
  have e1:=Xy hf
  simp -implicitDefEqProofs only [ay,aht,ahu,ahv,fh,dM,jg,e0,xE,vQ,xM,zx,yt,yK,e1,t0V,t0A,kU,t1V,Cj,afu,bD,bS,bg,aR]
end Go.Proofs.YtjafgdefcggjcaaGreatDoor

namespace Go.Proofs.YtjafgdefcggjcaaGreatDoor
open Go Go.V
theorem iW (x:Ln):bf true 3 0 (lnD x)=some (lnD x):=rfl
def bu (c:Cn) (w rest:ByteArray) (r:List Int):ByteArray × Cn :=
 if w=kF then(if (pM rest).isSome=true then okT else noT,{c with m:=meO (pM rest)})
 else if w=jY then MN c rest
 else if w=dC then ij c dC [r.getD 0 0]
 else if w=fg then(if (pSt rest).isSome=true then okT else noT,{c with s:=stO (pSt rest)})
 else if w=dv then ij c dv [r.getD 0 0]
 else if w=gE then ij c gE [r.getD 0 0,r.getD 1 0]
 else if w=kh then YK c (r.getD 0 0)
 else if w=eu then Pr c (r.getD 0 0,r.getD 1 0,r.getD 2 0)
 else if w=dP then Fa c (r.getD 0 0)
 else((bp c w rest r).1,c)
theorem aeB (c:Cn) (rest:ByteArray) (r:List Int) (hk:CnOk c) (hz:rest.size≤100000):aM [st7 c,lnD (kF,rest,r)]=some (.ret [T (bu c kF rest r).1] [st7 (bu c kF rest r).2]):=by
 rw [aW]
 have hx:bu c kF rest r=(if (pM rest).isSome=true then okT else noT,{c with m:=meO (pM rest)}):=rfl
 rw [hx]
 have e1:=vo rest (by omega)
 have e2:=zE (pM rest).isSome
 simp -implicitDefEqProofs only [ay,aht,ahu,ahv,fh,dM,jg,pZ,mZ,iW,bD,bS,gR,bg,aR,mb,nD,t0G,t0A,kU,t1V,jP,KY,e1,e2]
theorem aeq (c:Cn) (rest:ByteArray) (r:List Int) (hk:CnOk c) (hz:rest.size≤100000):aM [st7 c,lnD (jY,rest,r)]=some (.ret [T (bu c jY rest r).1] [st7 (bu c jY rest r).2]):=by
 rw [aW]
 have hx:bu c jY rest r=MN c rest:=rfl
 rw [hx]
 have e1:=LM c rest (by omega)
 simp -implicitDefEqProofs only [ay,aht,ahu,ahv,fh,dM,jg,pZ,mZ,iW,bD,bS,gR,bg,aR,mb,nD,t0G,t0A,kU,t1V,jP,tq,tN,e1]
theorem ae9 (c:Cn) (rest:ByteArray) (r:List Int) (hk:CnOk c) (hz:rest.size≤100000) (hr:r.length=1):aM [st7 c,lnD (dC,rest,r)]=some (.ret [T (bu c dC rest r).1] [st7 (bu c dC rest r).2]):=by
 rw [aW]
 obtain⟨a,rfl⟩:=ahz.1 hr
 have hel:ao 1 (ai [a]) (D.v (ahy ahw 0))=some [I a]:=rfl
 have hx:bu c dC rest [a]=ij c dC [a]:=rfl
 rw [hx]
 have e1:=LZ c a hk.m
 simp -implicitDefEqProofs only [ay,aht,ahu,ahv,fh,dM,jg,pZ,mZ,iW,bD,bS,gR,bg,aR,mb,nD,t0G,t0A,kU,t1V,jP,hel,WR,Xh,yN,e1]
theorem acT (c:Cn) (rest:ByteArray) (r:List Int) (hk:CnOk c) (hz:rest.size≤100000):aM [st7 c,lnD (fg,rest,r)]=some (.ret [T (bu c fg rest r).1] [st7 (bu c fg rest r).2]):=by
 rw [aW]
 have hx:bu c fg rest r=(if (pSt rest).isSome=true then okT else noT,{c with s:=stO (pSt rest)}):=rfl
 rw [hx]
 have e1:=Ir rest hz
 have e2:=zE (pSt rest).isSome
 simp -implicitDefEqProofs only [ay,aht,ahu,ahv,fh,dM,jg,pZ,mZ,iW,bD,bS,gR,bg,aR,mb,nD,t0G,t0A,kU,t1V,jP,Vp,UU,Uk,DM,e1,e2]
theorem aeA (c:Cn) (rest:ByteArray) (r:List Int) (hk:CnOk c) (hz:rest.size≤100000) (hr:r.length=1):aM [st7 c,lnD (dv,rest,r)]=some (.ret [T (bu c dv rest r).1] [st7 (bu c dv rest r).2]):=by
 rw [aW]
 obtain⟨a,rfl⟩:=ahz.1 hr
 have hel:ao 1 (ai [a]) (D.v (ahy ahw 0))=some [I a]:=rfl
 have hx:bu c dv rest [a]=ij c dv [a]:=rfl
 rw [hx]
 have e1:=La c a hk.s
 simp -implicitDefEqProofs only [ay,aht,ahu,ahv,fh,dM,jg,pZ,mZ,iW,bD,bS,gR,bg,aR,mb,nD,t0G,t0A,kU,t1V,jP,hel,Ws,Wa,tE,Ut,tf,e1]
theorem aga (c:Cn) (rest:ByteArray) (r:List Int) (hk:CnOk c) (hz:rest.size≤100000) (hr:r.length=2):aM [st7 c,lnD (gE,rest,r)]=some (.ret [T (bu c gE rest r).1] [st7 (bu c gE rest r).2]):=by
 rw [aW]
 obtain⟨a,b,rfl⟩:=Ie hr
 have hel:ao 1 (ai [a,b]) (D.v (ahy ahw 0))=some [I a]:=rfl
 have hel1:ao 1 (ai [a,b]) (D.v (ahy ahw 1))=some [I b]:=rfl
 have hx:bu c gE rest [a,b]=ij c gE [a,b]:=rfl
 rw [hx]
 have e1:=YW c a b hk.s
 simp -implicitDefEqProofs only [ay,aht,ahu,ahv,fh,dM,jg,pZ,mZ,iW,bD,bS,gR,bg,aR,mb,nD,t0G,t0A,kU,t1V,jP,hel,hel1,YN,Yz,EG,Wz,EZ,Ka,e1]
theorem afQ (c:Cn) (rest:ByteArray) (r:List Int) (hk:CnOk c) (hz:rest.size≤100000) (hr:r.length=1):aM [st7 c,lnD (kh,rest,r)]=some (.ret [T (bu c kh rest r).1] [st7 (bu c kh rest r).2]):=by
 rw [aW]
 obtain⟨a,rfl⟩:=ahz.1 hr
 have hel:ao 1 (ai [a]) (D.v (ahy ahw 0))=some [I a]:=rfl
 have hx:bu c kh rest [a]=YK c a:=rfl
 rw [hx]
 have e1:=YJ c a hk.t
 simp -implicitDefEqProofs only [ay,aht,ahu,ahv,fh,dM,jg,pZ,mZ,iW,bD,bS,gR,bg,aR,mb,nD,t0G,t0A,kU,t1V,jP,hel,Yf,Zn,Ol,XL,MA,SB,SJ,e1]
theorem afj (c:Cn) (rest:ByteArray) (r:List Int) (hk:CnOk c) (hz:rest.size≤100000) (hr:r.length=3):aM [st7 c,lnD (eu,rest,r)]=some (.ret [T (bu c eu rest r).1] [st7 (bu c eu rest r).2]):=by
 rw [aW]
 obtain⟨a,b,d,rfl⟩:=Je hr
 have hel:ao 1 (ai [a,b,d]) (D.v (ahy ahw 0))=some [I a]:=rfl
 have hel1:ao 1 (ai [a,b,d]) (D.v (ahy ahw 1))=some [I b]:=rfl
 have hel2:ao 1 (ai [a,b,d]) (D.v (ahy ahw 2))=some [I d]:=rfl
 have hx:bu c eu rest [a,b,d]=Pr c (a,b,d):=rfl
 rw [hx]
 have e1:=Wx c (a,b,d) hk.j
 simp -implicitDefEqProofs only [ay,aht,ahu,ahv,fh,dM,jg,pZ,mZ,iW,bD,bS,gR,bg,aR,mb,nD,t0G,t0A,kU,t1V,jP,hel,hel1,hel2,Vx,Wk,Km,Tn,KC,MH,ON,KQ,e1]
theorem aeg (c:Cn) (rest:ByteArray) (r:List Int) (hk:CnOk c) (hz:rest.size≤100000) (hr:r.length=1):aM [st7 c,lnD (dP,rest,r)]=some (.ret [T (bu c dP rest r).1] [st7 (bu c dP rest r).2]):=by
 rw [aW]
 obtain⟨a,rfl⟩:=ahz.1 hr
 have hel:ao 1 (ai [a]) (D.v (ahy ahw 0))=some [I a]:=rfl
 have hx:bu c dP rest [a]=Fa c a:=rfl
 rw [hx]
 have e1:=Wp c a hk.f
 simp -implicitDefEqProofs only [ay,aht,ahu,ahv,fh,dM,jg,pZ,mZ,iW,bD,bS,gR,bg,aR,mb,nD,t0G,t0A,kU,t1V,jP,hel,XD,WO,Ky,TH,KD,Nk,NO,Kx,Ku,e1]
theorem aaS (c:Cn) (rest:ByteArray) (r:List Int) (hk:CnOk c) (hr:r.length=0):aM [st7 c,lnD (bN,rest,r)]=some (.ret [T (bu c bN rest r).1] [st7 (bu c bN rest r).2])∧(bp c bN rest r).2=c:=by
 obtain⟨e1,e2⟩:=lP c bN rest r hk (.inl ⟨rfl,hr⟩)
 refine⟨?_,e2⟩
 rw [aW]
 have hx:bu c bN rest r=((bp c bN rest r).1,c):=rfl
 rw [hx]
 simp -implicitDefEqProofs only [ay,aht,ahu,ahv,fh,dM,jg,pZ,mZ,iW,bD,bS,gR,bg,aR,mb,nD,t0G,t0A,kU,t1V,jP,Ro,PW,tY,OJ,DI,FW,TA,Rt,RQ,e1]
theorem Zs (c:Cn) (rest:ByteArray) (r:List Int) (hk:CnOk c) (hr:r.length=1):aM [st7 c,lnD (bw,rest,r)]=some (.ret [T (bu c bw rest r).1] [st7 (bu c bw rest r).2])∧(bp c bw rest r).2=c:=by
 obtain⟨e1,e2⟩:=lP c bw rest r hk (.inr (.inl ⟨rfl,hr⟩))
 refine⟨?_,e2⟩
 rw [aW]
 have hx:bu c bw rest r=((bp c bw rest r).1,c):=rfl
 rw [hx]
 simp -implicitDefEqProofs only [ay,aht,ahu,ahv,fh,dM,jg,pZ,mZ,iW,bD,bS,gR,bg,aR,mb,nD,t0G,t0A,kU,t1V,jP,Pq,Pt,sx,Ly,rO,uu,PX,NT,Nv,e1]
theorem aay (c:Cn) (rest:ByteArray) (r:List Int) (hk:CnOk c) (hr:r.length=0):aM [st7 c,lnD (bM,rest,r)]=some (.ret [T (bu c bM rest r).1] [st7 (bu c bM rest r).2])∧(bp c bM rest r).2=c:=by
 obtain⟨e1,e2⟩:=lP c bM rest r hk (.inr (.inr (.inl ⟨rfl,hr⟩)))
 refine⟨?_,e2⟩
 rw [aW]
 have hx:bu c bM rest r=((bp c bM rest r).1,c):=rfl
 rw [hx]
 simp -implicitDefEqProofs only [ay,aht,ahu,ahv,fh,dM,jg,pZ,mZ,iW,bD,bS,gR,bg,aR,mb,nD,t0G,t0A,kU,t1V,jP,Qj,RP,DP,Pd,Ck,HH,Ib,Qf,Rr,e1]
theorem acZ (c:Cn) (rest:ByteArray) (r:List Int) (hk:CnOk c) (hr:r.length=0):aM [st7 c,lnD (cv,rest,r)]=some (.ret [T (bu c cv rest r).1] [st7 (bu c cv rest r).2])∧(bp c cv rest r).2=c:=by
 obtain⟨e1,e2⟩:=lP c cv rest r hk (.inr (.inr (.inr (.inl ⟨rfl,hr⟩))))
 refine⟨?_,e2⟩
 rw [aW]
 have hx:bu c cv rest r=((bp c cv rest r).1,c):=rfl
 rw [hx]
 simp -implicitDefEqProofs only [ay,aht,ahu,ahv,fh,dM,jg,pZ,mZ,iW,bD,bS,gR,bg,aR,mb,nD,t0G,t0A,kU,t1V,jP,Tz,UM,Fy,RL,GI,KM,Ki,UD,UN,e1]
theorem ac3 (c:Cn) (rest:ByteArray) (r:List Int) (hk:CnOk c) (hr:r.length=2):aM [st7 c,lnD (cr,rest,r)]=some (.ret [T (bu c cr rest r).1] [st7 (bu c cr rest r).2])∧(bp c cr rest r).2=c:=by
 obtain⟨e1,e2⟩:=lP c cr rest r hk (.inr (.inr (.inr (.inr (.inl ⟨rfl,hr⟩)))))
 refine⟨?_,e2⟩
 rw [aW]
 have hx:bu c cr rest r=((bp c cr rest r).1,c):=rfl
 rw [hx]
 simp -implicitDefEqProofs only [ay,aht,ahu,ahv,fh,dM,jg,pZ,mZ,iW,bD,bS,gR,bg,aR,mb,nD,t0G,t0A,kU,t1V,jP,UW,TU,Il,QE,Gw,KO,KF,Hb,Tp,e1]
theorem acG (c:Cn) (rest:ByteArray) (r:List Int) (hk:CnOk c) (hr:r.length=1):aM [st7 c,lnD (cj,rest,r)]=some (.ret [T (bu c cj rest r).1] [st7 (bu c cj rest r).2])∧(bp c cj rest r).2=c:=by
 obtain⟨e1,e2⟩:=lP c cj rest r hk (.inr (.inr (.inr (.inr (.inr (.inl ⟨rfl,hr⟩))))))
 refine⟨?_,e2⟩
 rw [aW]
 have hx:bu c cj rest r=((bp c cj rest r).1,c):=rfl
 rw [hx]
 simp -implicitDefEqProofs only [ay,aht,ahu,ahv,fh,dM,jg,pZ,mZ,iW,bD,bS,gR,bg,aR,mb,nD,t0G,t0A,kU,t1V,jP,Ur,UJ,FD,PZ,Hh,KZ,Kp,Fk,Ua,e1]
theorem aa4 (c:Cn) (rest:ByteArray) (r:List Int) (hk:CnOk c) (hr:r.length=0):aM [st7 c,lnD (bH,rest,r)]=some (.ret [T (bu c bH rest r).1] [st7 (bu c bH rest r).2])∧(bp c bH rest r).2=c:=by
 obtain⟨e1,e2⟩:=lP c bH rest r hk (.inr (.inr (.inr (.inr (.inr (.inr (⟨rfl,hr⟩)))))))
 refine⟨?_,e2⟩
 rw [aW]
 have hx:bu c bH rest r=((bp c bH rest r).1,c):=rfl
 rw [hx]
 simp -implicitDefEqProofs only [ay,aht,ahu,ahv,fh,dM,jg,pZ,mZ,iW,bD,bS,gR,bg,aR,mb,nD,t0G,t0A,kU,t1V,jP,Ra,Rq,Di,MZ,DO,Hm,GT,Cq,DB,e1]
end Go.Proofs.YtjafgdefcggjcaaGreatDoor

namespace Go.Proofs.YtjafgdefcggjcaaGreatDoor
open Go Go.V
theorem ab7 (w:ByteArray):(fb shE w=none∧shN w = -2)∨(fb shE w=some ⟨#[84]⟩∧shN w = -1)∨(fb shE w=some ⟨#[]⟩∧shN w=0)∨(fb shE w=some ⟨#[78]⟩∧shN w=1)∨(fb shE w=some ⟨#[78,78]⟩∧shN w=2)∨(fb shE w=some ⟨#[78,78,78]⟩∧shN w=3):=by
 by_cases h1:w=kF
 ·subst h1;decide
 by_cases h2:w=jY
 ·subst h2;decide
 by_cases h3:w=dC
 ·subst h3;decide
 by_cases h4:w=bN
 ·subst h4;decide
 by_cases h5:w=fg
 ·subst h5;decide
 by_cases h6:w=dv
 ·subst h6;decide
 by_cases h7:w=gE
 ·subst h7;decide
 by_cases h8:w=bw
 ·subst h8;decide
 by_cases h9:w=kh
 ·subst h9;decide
 by_cases h10:w=bM
 ·subst h10;decide
 by_cases h11:w=cv
 ·subst h11;decide
 by_cases h12:w=eu
 ·subst h12;decide
 by_cases h13:w=cr
 ·subst h13;decide
 by_cases h14:w=cj
 ·subst h14;decide
 by_cases h15:w=dP
 ·subst h15;decide
 by_cases h16:w=bH
 ·subst h16;decide
 left
 refine⟨?_,?_⟩
 ·unfold shE
  simp only [fb]
  rw [if_neg h16,if_neg h15,if_neg h14,if_neg h13,if_neg h12,if_neg h11,if_neg h10,if_neg h9,if_neg h8,if_neg h7,if_neg h6,if_neg h5,if_neg h4,if_neg h3,if_neg h2,if_neg h1]
 ·unfold shN
  simp only [h1,h2,h3,h4,h5,h6,h7,h8,h9,h10,h11,h12,h13,h14,h15,h16,or_self,if_false]
theorem agI (t:ByteArray):(rdL t=none∧(rdI t).2=false)∨∃x,rdL t=some x∧rdI t=(x,true):=by
 unfold rdL rdI
 by_cases hs:(32:UInt8)∈ac t
 ·obtain⟨a,b,e,hn⟩:∃a b,ac t=a++32::b∧(32:UInt8)∉a:=by
   rcases nV 32 (ac t) with ⟨_,h2⟩ | ⟨a,b,h1,h2,_⟩
   ·exact absurd hs h2
   ·exact⟨a,b,h1,h2⟩
  have hsp:aB 32 t=bt a::aB 32 (bt b):=by
   unfold aB
   rw [e,gr hn,cN]
   rfl
  have hne:aB 32 (bt b)≠[]:=by
   unfold aB
   simp [em]
  have hx:t.extract ((bt a).size+1) t.size=bt b:=by
   apply bK
   rw [eI,cQ,e,cN]
   have h1:t.size=(a++32::b).length:=by rw [←e];rfl
   rw [h1,ahY,show a++32::b=(a++[32])++b from by simp,List.drop_left' (by simp)]
   exact(cN b).symm
  rw [e,Vh hn,hsp]
  dsimp only
  rw [hx]
  rcases ab7 (bt a) with ⟨h1,h2⟩ | ⟨h1,h2⟩ | ⟨h1,h2⟩ | ⟨h1,h2⟩ | ⟨h1,h2⟩ | ⟨h1,h2⟩
  ·left;rw [h1,h2];exact⟨rfl,rfl⟩
  ·right;rw [h1,h2];exact⟨_,by rw [if_neg (by decide),if_pos rfl,if_neg hne],rfl⟩
  ·left
   rw [h1,h2]
   refine⟨?_,rfl⟩
   rw [if_neg (by decide),if_neg (by decide)]
   cases hq:cu (aB 32 (bt b)) with
   | none=>rfl
   | some r =>
    have:=(lY _ _ hq).1
    have hp:=List.length_pos_iff.2 hne
    dsimp only
    rw [if_neg (by omega)]
  ·rw [h1,h2]
   dsimp only
   cases hq:cu (aB 32 (bt b)) with
   | none=>left;exact⟨rfl,rfl⟩
   | some r =>
    have hl:=(lY _ _ hq).1
    by_cases hc:((aB 32 (bt b)).length:Int)=1
    ·right
     refine⟨(bt a,⟨⟨[]⟩⟩,r),?_,?_⟩
     ·rw [if_neg (by decide),if_neg (by decide)]
      dsimp only
      rw [hl,if_pos hc]
     ·rw [if_neg (by decide),if_neg (by decide)]
      have:decide (((aB 32 (bt b)).length:Int)=((⟨#[78]⟩:ByteArray).size:Int))=true:=decide_eq_true hc
      rw [this]
    ·left
     refine⟨?_,?_⟩
     ·rw [if_neg (by decide),if_neg (by decide)]
      dsimp only
      rw [hl,if_neg hc]
     ·rw [if_neg (by decide),if_neg (by decide)]
      exact decide_eq_false hc
  ·rw [h1,h2]
   dsimp only
   cases hq:cu (aB 32 (bt b)) with
   | none=>left;exact⟨rfl,rfl⟩
   | some r =>
    have hl:=(lY _ _ hq).1
    by_cases hc:((aB 32 (bt b)).length:Int)=2
    ·right
     refine⟨(bt a,⟨⟨[]⟩⟩,r),?_,?_⟩
     ·rw [if_neg (by decide),if_neg (by decide)]
      dsimp only
      rw [hl,if_pos hc]
     ·rw [if_neg (by decide),if_neg (by decide)]
      have:decide (((aB 32 (bt b)).length:Int)=((⟨#[78,78]⟩:ByteArray).size:Int))=true:=decide_eq_true hc
      rw [this]
    ·left
     refine⟨?_,?_⟩
     ·rw [if_neg (by decide),if_neg (by decide)]
      dsimp only
      rw [hl,if_neg hc]
     ·rw [if_neg (by decide),if_neg (by decide)]
      exact decide_eq_false hc
  ·rw [h1,h2]
   dsimp only
   cases hq:cu (aB 32 (bt b)) with
   | none=>left;exact⟨rfl,rfl⟩
   | some r =>
    have hl:=(lY _ _ hq).1
    by_cases hc:((aB 32 (bt b)).length:Int)=3
    ·right
     refine⟨(bt a,⟨⟨[]⟩⟩,r),?_,?_⟩
     ·rw [if_neg (by decide),if_neg (by decide)]
      dsimp only
      rw [hl,if_pos hc]
     ·rw [if_neg (by decide),if_neg (by decide)]
      have:decide (((aB 32 (bt b)).length:Int)=((⟨#[78,78,78]⟩:ByteArray).size:Int))=true:=decide_eq_true hc
      rw [this]
    ·left
     refine⟨?_,?_⟩
     ·rw [if_neg (by decide),if_neg (by decide)]
      dsimp only
      rw [hl,if_neg hc]
     ·rw [if_neg (by decide),if_neg (by decide)]
      exact decide_eq_false hc
 ·have hsp:aB 32 t=[t]:=by
   unfold aB
   rw [jN hs]
   exact congrArg (fun x=>[x]) (mC t)
  rw [Pg hs,hsp]
  dsimp only
  have ht:bt (ac t)=t:=mC t
  rw [ht]
  rcases ab7 t with ⟨h1,h2⟩ | ⟨h1,h2⟩ | ⟨h1,h2⟩ | ⟨h1,h2⟩ | ⟨h1,h2⟩ | ⟨h1,h2⟩<;>rw [h1,h2]
  ·left;exact⟨rfl,rfl⟩
  ·left;exact⟨rfl,rfl⟩
  ·right;exact⟨_,rfl,rfl⟩
  ·left;exact⟨rfl,rfl⟩
  ·left;exact⟨rfl,rfl⟩
  ·left;exact⟨rfl,rfl⟩
end Go.Proofs.YtjafgdefcggjcaaGreatDoor

namespace Go.Proofs.YtjafgdefcggjcaaGreatDoor
open Go Go.V
theorem Uh {s:ByteArray} (h:∀b∈ac s,b≠110):s≠noT:=by
 rintro rfl
 exact h 110 (by simp [ac]) rfl
theorem Mf {n:Int} (h:0≤n):∀b∈ac (aJ n),b≠110:=by
 intro b hb e
 have:=(ju h).2 b hb
 subst e
 revert this
 decide
theorem WK {c:UInt8} (hc:c≠110) {ns:List Int} (h:∀n∈ns,0≤n):∀b∈ac (bX c ns),b≠110:=by
 intro b hb
 rw [cz] at hb
 rcases Kb hb with rfl | ⟨w,hw,hb⟩
 ·exact hc
 ·obtain⟨n,hn,rfl⟩:=List.mem_map.1 hw
  exact Mf (h n hn) b hb
theorem abY:∀(l:List Slp),(∀x∈l,0≤x.1∧0≤x.2)→∀b∈ac (stT l),b≠110
 | [],_,b,hb=>by cases hb
 | x::l,h,b,hb=>by
  have hx:=h x (by simp)
  simp only [stT,slT,bk,ah0] at hb
  rcases hb with (((hb | hb) | hb) | hb) | hb
  ·exact Mf hx.2 b hb
  ·simp [ac] at hb
   subst hb
   decide
  ·exact Mf hx.1 b hb
  ·simp [ac] at hb
   subst hb
   decide
  ·exact abY l (fun y hy=>h y (by simp [hy])) b hb
end Go.Proofs.YtjafgdefcggjcaaGreatDoor

namespace Go.Proofs.YtjafgdefcggjcaaGreatDoor
open Go Go.V
def hZ (c:Cn) (p:ByteArray × Cn):ByteArray × Cn:=(p.1,if p.1=noT then c else p.2)
theorem acB:okT≠noT:=by decide
theorem agq (c:Cn) (rest:ByteArray) (r:List Int):hZ c (bu c kF rest r)=bp c kF rest r:=by
 have h1:bu c kF rest r=(if (pM rest).isSome=true then okT else noT,{c with m:=meO (pM rest)}):=rfl
 have h2:bp c kF rest r=if (pM rest).isSome=false then(noT,c) else(okT,{c with m:=meO (pM rest)}):=rfl
 rw [h1,h2]
 unfold hZ
 cases (pM rest).isSome
 ·simp
 ·simp [acB]
theorem afa (c:Cn) (rest:ByteArray) (r:List Int):hZ c (bu c fg rest r)=bp c fg rest r:=by
 have h1:bu c fg rest r=(if (pSt rest).isSome=true then okT else noT,{c with s:=stO (pSt rest)}):=rfl
 have h2:bp c fg rest r=if (pSt rest).isSome=true then(okT,{c with s:=stO (pSt rest)}) else(noT,c):=rfl
 rw [h1,h2]
 unfold hZ
 cases (pSt rest).isSome
 ·simp
 ·simp [acB]
theorem adP {m:Me} (h:ck m=true):mtT m≠noT:=Uh (WK (by decide) fun n hn=>(UA h n hn).1)
theorem afY (c:Cn) (rest:ByteArray) (r:List Int):hZ c (bu c jY rest r)=bp c jY rest r:=by
 have h1:bu c jY rest r=MN c rest:=rfl
 have h2:bp c jY rest r=if (pM rest).isSome=false then(noT,c) else(if joB [c.m,meO (pM rest)]=true then(mtT (joR [c.m,meO (pM rest)]),{c with m:=joR [c.m,meO (pM rest)]}) else(noT,c)):=rfl
 rw [h1,h2]
 unfold hZ MN
 cases (pM rest).isSome
 ·simp
 ·cases hj:joB [c.m,meO (pM rest)]
  ·simp
  ·simp [adP (yB hj)]
theorem agf (c:Cn) (rest:ByteArray) (a:Int) (hk:CnOk c):hZ c (bu c dC rest [a])=bp c dC rest [a]:=by
 have h1:bu c dC rest [a]=ij c dC [a]:=rfl
 have h2:bp c dC rest [a]=ij c dC [a]:=rfl
 have h3:ij c dC [a]=if tkB c.m a=true then(mtT (tkR c.m a),{c with m:=tkR c.m a}) else(noT,c):=rfl
 rw [h1,h2,h3]
 unfold hZ
 cases tkB c.m a
 ·simp
 ·simp [adP (Ax (g:=a) hk.m)]
theorem afW (c:Cn) (rest:ByteArray) (a:Int) (hk:CnOk c):hZ c (bu c dv rest [a])=bp c dv rest [a]:=by
 have h1:bu c dv rest [a]=ij c dv [a]:=rfl
 have h2:bp c dv rest [a]=ij c dv [a]:=rfl
 have h3:ij c dv [a]=if rlB c.s a=true then(bX 32 (rlV c.s a),{c with s:=rsS c.s (rlV c.s a)}) else(noT,c):=rfl
 have hn:bX 32 (rlV c.s a)≠noT:=Uh (WK (by decide) fun n hn=>((AX (n:=a) hk.s).2 n hn).1)
 rw [h1,h2,h3]
 unfold hZ
 cases rlB c.s a
 ·simp
 ·simp [hn]
theorem agD (c:Cn) (rest:ByteArray) (a b:Int):hZ c (bu c gE rest [a,b])=bp c gE rest [a,b]:=by
 have h1:bu c gE rest [a,b]=ij c gE [a,b]:=rfl
 have h2:bp c gE rest [a,b]=ij c gE [a,b]:=rfl
 have h3:ij c gE [a,b]=if cuB c.s a b=true then(stT (cuR c.s a b),{c with s:=cuR c.s a b}) else(noT,c):=rfl
 have hn:stT (cuR c.s a b)≠noT:=Uh (abY _ fun x hx=>by have:=eZ (Pl (l:=c.s) (i:=a) (n:=b)) x hx;omega)
 rw [h1,h2,h3]
 unfold hZ
 cases cuB c.s a b
 ·simp
 ·simp [hn]
theorem To (n:Nat):aJ (n:Int)≠noT:=Uh (Mf (by omega))
theorem agS (c:Cn) (rest:ByteArray) (a:Int):hZ c (bu c kh rest [a])=bp c kh rest [a]:=by
 have h1:bu c kh rest [a]=YK c a:=rfl
 have h2:bp c kh rest [a]=if eE (c.t++[a])=true then(aJ ((c.t.length+1:Nat):Int),{c with t:=c.t++[a]}) else(noT,c):=rfl
 have hn:=To (c.t.length+1)
 rw [h1,h2]
 unfold hZ YK
 cases eE (c.t++[a])
 ·simp
 ·simp only [if_true]
  rw [if_neg hn]
theorem agt (c:Cn) (rest:ByteArray) (a b d:Int):hZ c (bu c eu rest [a,b,d])=bp c eu rest [a,b,d]:=by
 have h1:bu c eu rest [a,b,d]=Pr c (a,b,d):=rfl
 have h2:bp c eu rest [a,b,d]=if (anS c.j (a,b,d)).2=true then(aJ ((jrS (anS c.j (a,b,d)).1).1.length:Int),{c with j:=(anS c.j (a,b,d)).1}) else(noT,c):=rfl
 have hn:=To (jrS (anS c.j (a,b,d)).1).1.length
 rw [h1,h2]
 unfold hZ Pr
 cases (anS c.j (a,b,d)).2
 ·simp
 ·simp only [if_true]
  rw [if_neg hn]
theorem afO (c:Cn) (rest:ByteArray) (a:Int):hZ c (bu c dP rest [a])=bp c dP rest [a]:=by
 have h1:bu c dP rest [a]=Fa c a:=rfl
 have h2:bp c dP rest [a]=if pX (c.f++[(a,true)])=true then(aJ ((c.f.length+1:Nat):Int),{c with f:=c.f++[(a,true)]}) else(noT,c):=rfl
 have hn:=To (c.f.length+1)
 rw [h1,h2]
 unfold hZ Fa
 cases pX (c.f++[(a,true)])
 ·simp
 ·simp only [if_true]
  rw [if_neg hn]
end Go.Proofs.YtjafgdefcggjcaaGreatDoor

namespace Go.Proofs.YtjafgdefcggjcaaGreatDoor
open Go Go.V
theorem acE {c:Cn} {t w rest:ByteArray} {r:List Int} (hk:CnOk c) (ht:t.size≤100000) (h:rdL t=some (w,rest,r)) :
  aM [st7 c,lnD (w,rest,r)]=some (.ret [T (bu c w rest r).1] [st7 (bu c w rest r).2])∧hZ c (bu c w rest r)=bp c w rest r:=by
 unfold rdL at h
 split at h
 ·cases h
 rename_i v ws hs
 by_cases h2:shN v = -2
 ·rw [if_pos h2] at h
  cases h
 rw [if_neg h2] at h
 by_cases h1:shN v = -1
 ·rw [if_pos h1] at h
  split at h
  ·cases h
  cases h
  have hz:(t.extract (w.size+1) t.size).size≤100000:=by simp;omega
  rcases XY h1 with rfl | rfl | rfl
  ·exact⟨acT c _ _ hk hz,afa c _ _⟩
  ·exact⟨aeB c _ _ hk hz,agq c _ _⟩
  ·exact⟨aeq c _ _ hk hz,afY c _ _⟩
 rw [if_neg h1] at h
 split at h
 case h_2=>cases h
 rename_i q hq
 split at h
 case isFalse=>cases h
 rename_i hr
 cases h
 have hz:(⟨⟨[]⟩⟩:ByteArray).size≤100000:=ahJ _
 rcases Sq h2 h1 with rfl | rfl | rfl | rfl | rfl | rfl | rfl | rfl | rfl | rfl | rfl | rfl | rfl
 ·have hl:r.length=1:=by
   have h0:shN dC=1:=by decide
   rw [h0] at hr
   omega
  refine⟨ae9 c _ r hk hz hl,?_⟩
  obtain⟨a,rfl⟩:=ahz.1 hl
  exact agf c _ a hk
 ·have hl:r.length=0:=by
   have h0:shN bN=0:=by decide
   rw [h0] at hr
   omega
  obtain⟨e1,e2⟩:=aaS c ⟨⟨[]⟩⟩ r hk hl
  refine⟨e1,?_⟩
  have hx:bu c bN ⟨⟨[]⟩⟩ r=((bp c bN ⟨⟨[]⟩⟩ r).1,c):=rfl
  rw [hx]
  unfold hZ
  rw [ite_self]
  exact ahT rfl e2.symm
 ·have hl:r.length=1:=by
   have h0:shN dv=1:=by decide
   rw [h0] at hr
   omega
  refine⟨aeA c _ r hk hz hl,?_⟩
  obtain⟨a,rfl⟩:=ahz.1 hl
  exact afW c _ a hk
 ·have hl:r.length=2:=by
   have h0:shN gE=2:=by decide
   rw [h0] at hr
   omega
  refine⟨aga c _ r hk hz hl,?_⟩
  obtain⟨a,b,rfl⟩:=Ie hl
  exact agD c _ a b
 ·have hl:r.length=1:=by
   have h0:shN bw=1:=by decide
   rw [h0] at hr
   omega
  obtain⟨e1,e2⟩:=Zs c ⟨⟨[]⟩⟩ r hk hl
  refine⟨e1,?_⟩
  have hx:bu c bw ⟨⟨[]⟩⟩ r=((bp c bw ⟨⟨[]⟩⟩ r).1,c):=rfl
  rw [hx]
  unfold hZ
  rw [ite_self]
  exact ahT rfl e2.symm
 ·have hl:r.length=1:=by
   have h0:shN kh=1:=by decide
   rw [h0] at hr
   omega
  refine⟨afQ c _ r hk hz hl,?_⟩
  obtain⟨a,rfl⟩:=ahz.1 hl
  exact agS c _ a
 ·have hl:r.length=0:=by
   have h0:shN bM=0:=by decide
   rw [h0] at hr
   omega
  obtain⟨e1,e2⟩:=aay c ⟨⟨[]⟩⟩ r hk hl
  refine⟨e1,?_⟩
  have hx:bu c bM ⟨⟨[]⟩⟩ r=((bp c bM ⟨⟨[]⟩⟩ r).1,c):=rfl
  rw [hx]
  unfold hZ
  rw [ite_self]
  exact ahT rfl e2.symm
 ·have hl:r.length=0:=by
   have h0:shN cv=0:=by decide
   rw [h0] at hr
   omega
  obtain⟨e1,e2⟩:=acZ c ⟨⟨[]⟩⟩ r hk hl
  refine⟨e1,?_⟩
  have hx:bu c cv ⟨⟨[]⟩⟩ r=((bp c cv ⟨⟨[]⟩⟩ r).1,c):=rfl
  rw [hx]
  unfold hZ
  rw [ite_self]
  exact ahT rfl e2.symm
 ·have hl:r.length=3:=by
   have h0:shN eu=3:=by decide
   rw [h0] at hr
   omega
  refine⟨afj c _ r hk hz hl,?_⟩
  obtain⟨a,b,d,rfl⟩:=Je hl
  exact agt c _ a b d
 ·have hl:r.length=2:=by
   have h0:shN cr=2:=by decide
   rw [h0] at hr
   omega
  obtain⟨e1,e2⟩:=ac3 c ⟨⟨[]⟩⟩ r hk hl
  refine⟨e1,?_⟩
  have hx:bu c cr ⟨⟨[]⟩⟩ r=((bp c cr ⟨⟨[]⟩⟩ r).1,c):=rfl
  rw [hx]
  unfold hZ
  rw [ite_self]
  exact ahT rfl e2.symm
 ·have hl:r.length=1:=by
   have h0:shN cj=1:=by decide
   rw [h0] at hr
   omega
  obtain⟨e1,e2⟩:=acG c ⟨⟨[]⟩⟩ r hk hl
  refine⟨e1,?_⟩
  have hx:bu c cj ⟨⟨[]⟩⟩ r=((bp c cj ⟨⟨[]⟩⟩ r).1,c):=rfl
  rw [hx]
  unfold hZ
  rw [ite_self]
  exact ahT rfl e2.symm
 ·have hl:r.length=1:=by
   have h0:shN dP=1:=by decide
   rw [h0] at hr
   omega
  refine⟨aeg c _ r hk hz hl,?_⟩
  obtain⟨a,rfl⟩:=ahz.1 hl
  exact afO c _ a
 ·have hl:r.length=0:=by
   have h0:shN bH=0:=by decide
   rw [h0] at hr
   omega
  obtain⟨e1,e2⟩:=aa4 c ⟨⟨[]⟩⟩ r hk hl
  refine⟨e1,?_⟩
  have hx:bu c bH ⟨⟨[]⟩⟩ r=((bp c bH ⟨⟨[]⟩⟩ r).1,c):=rfl
  rw [hx]
  unfold hZ
  rw [ite_self]
  exact ahT rfl e2.symm
end Go.Proofs.YtjafgdefcggjcaaGreatDoor

namespace Go.Proofs.YtjafgdefcggjcaaGreatDoor
open Go Go.V
theorem Yv (a b c:D) (x:Ln):stD 3 (D.agg [a,b,c]) (D.ref 0 0) (lnD x)=some (lnD x):=rfl
theorem aab (a b c d e f g:D) (x:Cn):stD 7 (D.agg [a,b,c,d,e,f,g]) (D.ref 0 0) (st7 x)=some (st7 x):=rfl
theorem Ux (c:Cn) (t:ByteArray) (hk:CnOk c) (ht:t.size≤100000):fB [st7 c,T t]=some (.ret [T (dY c t).1] [st7 (dY c t).2]):=by
 rw [Et]
 have e1:=aeO t (by omega)
 have hL:∀(x:Ln) (b:D),aq (.tup [lnD x,b]) 0=some (lnD x):=fun _ _=>rfl
 rcases agI t with ⟨h1,h2⟩ | ⟨⟨w,rest,r⟩,h1,h2⟩
 ·rw [h2] at e1
  have hl:dY c t=(fv,c):=by unfold dY;rw [h1]
  rw [hl]
  simp -implicitDefEqProofs only [ay,aht,ahu,ahv,e1,hL,t1V,Yv,bS]
 ·rw [h2] at e1
  dsimp only at e1
  obtain⟨e2,e3⟩:=acE hk ht h1
  have hl:dY c t=bp c w rest r:=by unfold dY;rw [h1]
  rw [hl,←e3]
  unfold hZ
  have hq:bin BinOp.neq false [] (T (bu c w rest r).1) (D.v (ahD {data:={toList:=[110,111]}}))=some (B (!decide ((bu c w rest r).1=noT))):=jI
  by_cases hn:(bu c w rest r).1=noT
  ·rw [decide_eq_true hn] at hq
   rw [if_pos hn]
   simp -implicitDefEqProofs only [ay,aht,ahu,ahv,e1,hL,t1V,Yv,iW,bS,bD,aR,ab8,aab,e2,hq]
  ·rw [decide_eq_false hn] at hq
   rw [if_neg hn]
   simp -implicitDefEqProofs only [ay,aht,ahu,ahv,e1,hL,t1V,Yv,iW,bS,bD,aR,ab8,aab,UO,YQ,e2,hq]
end Go.Proofs.YtjafgdefcggjcaaGreatDoor

namespace Go.Proofs.YtjafgdefcggjcaaGreatDoor
open Go Go.V
theorem Zq (c:UInt8) (l:List UInt8):aY c (l++[c])=aY c l++[[]]:=by
 obtain⟨o,p,h⟩:∃o p,aY c l=o++[p]:=⟨_,_,(List.dropLast_concat_getLast (em c l)).symm⟩
 have:=mj c c l o p h
 rw [if_pos rfl] at this
 rw [this,h]
theorem Dv (l:List UInt8) (c:UInt8):Lib.hasSuffix l [c]=decide (l.getLast?=some c):=by
 unfold Lib.hasSuffix
 rw [Bool.eq_iff_iff,List.isSuffixOf_iff_suffix,decide_eq_true_eq]
 constructor
 ·rintro⟨a,rfl⟩
  simp
 ·intro h
  obtain⟨a,rfl⟩:=List.getLast?_eq_some_iff.1 h
  exact⟨a,rfl⟩
theorem adV:(D.v (ahD {data:={toList:=[]}}))=T ⟨⟨[]⟩⟩:=rfl
theorem Av {s:ByteArray} (h:(ac s).getLast?=some 10):aB 10 ⟨(ahC (ac s) [10]).toArray⟩=aU s:=by
 obtain⟨a,ha⟩:=List.getLast?_eq_some_iff.1 h
 have:ahC (ac s) [10]=a:=by
  unfold ahC
  rw [if_pos (by rw [Dv,h];simp),ha]
  simp
 unfold aU aB
 rw [this,cN,ha,Zq,List.map_append,List.map_cons,List.map_nil,ahE]
 simp
theorem Ou (s:ByteArray) (h:s.size≤1048576):∃L,mN [T s]=some (.ret [txs L,B (okC s)] [])∧(okC s=true→L=aU s):=by
 rw [Nj,adV]
 by_cases h2:s=⟨⟨[]⟩⟩
 ·subst h2
  refine⟨[],?_,fun _=>rfl⟩
  have hi:okC ⟨⟨[]⟩⟩=true:=by decide
  have hz:(⟨⟨[]⟩⟩:ByteArray).size=0:=rfl
  rw [hi]
  simp -implicitDefEqProofs [aZ,dG,hz]
 ·have hne:ac s≠[]:=fun e=>h2 (bK e)
  have ht:jJ [T s,D.v (ahD {data:={toList:=[10]}})]=some (.ret [T ⟨(ahC (ac s) [10]).toArray⟩] []):=by
   have hz:s.size≤9223372036854775807:=by omega
   show jJ [T s,T ⟨#[10]⟩]=_
   simp only [jJ,hz,if_true]
   rfl
  have hsuf:jX [T s,D.v (ahD {data:={toList:=[10]}})]=some (.ret [B (decide ((ac s).getLast?=some 10))] []):=by
   have hz:s.size≤9223372036854775807:=by omega
   show jX [T s,T ⟨#[10]⟩]=_
   simp only [jX,hz,if_true]
   rw [←Dv]
   rfl
  have htl:(ahC (ac s) [10]).length≤(ac s).length:=by
   unfold ahC
   split
   ·rw [ahZ];omega
   ·exact ahL _
  have hsz:s.size=(ac s).length:=rfl
  have hsp:yu [T ⟨(ahC (ac s) [10]).toArray⟩,D.v (ahD {data:={toList:=[10]}})]=some (.ret [.arr 1 ((aB 10 ⟨(ahC (ac s) [10]).toArray⟩).map T)] []) :=
   aad (c:=10) (by simp only [ByteArray.size,List.size_toArray];omega)
  refine⟨aB 10 ⟨(ahC (ac s) [10]).toArray⟩,?_,fun hk=>Av ?_⟩
  ·have hi:okC s=(decide ((s.size:Int)≤2000)&&decide (((aB 10 ⟨(ahC (ac s) [10]).toArray⟩).length:Int)≤40)&&decide ((ac s).getLast?=some 10)):=by
    have e1:((s.size:Int)≤2000)↔s.size≤2000:=by omega
    have e2:(((aB 10 ⟨(ahC (ac s) [10]).toArray⟩).length:Int)≤40)↔(aB 10 ⟨(ahC (ac s) [10]).toArray⟩).length≤40:=by omega
    by_cases hl:(ac s).getLast?=some 10
    ·rw [Av hl] at e2
     simp only [okC,mi,h2,decide_false,Bool.false_or,hl,decide_true,Bool.and_true,e1,e2,Av hl]
    ·simp [okC,mi,h2,hl]
   rw [hi]
   simp only [aZ,ahx,jI,h2,decide_false,ahM,aG,if_true,ht,am,ak,hsp,dG,fP,dN,aK,ahH]
   by_cases g1:(s.size:Int)≤2000
   case neg=>simp -implicitDefEqProofs [g1]
   by_cases g2:(((aB 10 ⟨(ahC (ac s) [10]).toArray⟩).length:Int)≤40)
   case neg=>simp -implicitDefEqProofs [g1,g2]
   simp -implicitDefEqProofs [g1,g2,hsuf,h2]
  ·unfold okC mi at hk
   simp only [h2,decide_false,Bool.false_or,ahK,decide_eq_true_eq] at hk
   exact hk.1.2
def AD (L:List ByteArray):Nat→List ByteArray
 | 0=>[]
 | i+1=>AD L i++[(dY (dD L i).c (L.getD i ⟨⟨[]⟩⟩)).1]
theorem iK (L:List ByteArray):∀i,(AD L i).length=i
 | 0=>rfl
 | i+1=>by rw [AD,ahE,iK L i];rfl
def cnZ:Cn:={m:=(0,0,0),s:=[],t:=[],j:=⟨⟨[]⟩⟩,f:=[]}
def wR (s:ByteArray):Cn:=if okC s=true then(dD (aU s) (aU s).length).c else cnZ
def qN (s:ByteArray):List ByteArray:=if okC s=true then AD (aU s) (aU s).length else []
theorem SM:D.agg [D.v (ahy ahw 0),D.v (ahy ahw 0),D.v (ahy ahw 0),D.arr 2 [],D.arr 1 [],D.v (ahD {data:={toList:=[]}}),D.arr 2 []]=st7 cnZ:=rfl
theorem agQ:dw [] [D.v (ahy ahw 0),D.v (ahy ahw 0),D.v (ahy ahw 0),D.arr 2 [],D.arr 1 [],D.v (ahD {data:={toList:=[]}}),D.arr 2 []] []=some (st7 cnZ):=rfl
theorem agJ:dw [(4,1)] [D.v (ahy ahw 0),D.v (ahy ahw 0),D.v (ahy ahw 0),D.arr 2 [],D.arr 1 [],D.v (ahD {data:={toList:=[]}}),D.arr 2 []] [ai [0]]=some (st7 cn0):=rfl
theorem ahi:aH 1 [D.v (ahy ahw 0)]=some (ai [0]):=rfl
theorem agZ {l:List ByteArray} {b:D}:aq (.tup [txs l,b]) 0=some (txs l):=rfl
theorem Vw {s:ByteArray} (h:s.size≤2000):∀t∈aU s,t.size≤2000:=by
 intro t ht
 have ht:=List.mem_of_mem_take ht
 unfold aB at ht
 obtain⟨l,hl,rfl⟩:=List.mem_map.1 ht
 have h1:=OX 10 _ l hl
 have h2:s.size=(ac s).length:=rfl
 have h3:(⟨l.toArray⟩:ByteArray).size=l.length:=rfl
 omega
theorem afH {l:List ByteArray} {t:ByteArray} (h:l.length≤1000):bA 1 16 (txs l) (.arr 1 [T t])=some (txs (l++[t])):=by
 rw [gn,if_pos (by simp;omega)]
 simp
theorem ad9 {c:Cn} {t:ByteArray} {u:D} {k:List D→List D→Option Out} (hk:CnOk c) (ht:t.size≤100000) (hu:u=st7 c):ae (fB [u,T t]) k=k [T (dY c t).1] [st7 (dY c t).2]:=by
 rw [hu,Ux c t hk ht]
 rfl
theorem gX (s:ByteArray) (h:s.size≤1048576):dK [T s]=some (.ret [st7 (wR s),txs (qN s),B (okC s)] []):=by
 rw [Ja]
 obtain⟨L,e1,hL⟩:=Ou s h
 rw [SM]
 unfold wR qN
 cases hok:okC s
 ·rw [hok] at e1
  simp -implicitDefEqProofs only [e1,am,t1V,agZ,ahx,bd,ahM,aG,if_true,if_false,ahA,agQ,UO,YQ]
  rfl
 ·rw [hok] at e1
  obtain rfl:=hL hok
  have hz:s.size≤2000:=by
   unfold okC mi at hok
   simp only [ahK,decide_eq_true_eq] at hok
   exact hok.1.1
  have h40:(aU s).length≤40:=by
   unfold okC at hok
   simp only [ahK,decide_eq_true_eq] at hok
   exact hok.2
  have hls:=Vw hz
  generalize aU s=L at *
  simp -implicitDefEqProofs only [e1,am,t1V,agZ,ahx,bd,ahI,aG,if_true,if_false,ahA,ahi,agJ,UO,aZ,aK,ahH]
  refine aD (.ext 0 [st7 cnZ,st7 (dD L L.length).c,txs (AD L L.length)]) ?_ (by
   simp -implicitDefEqProofs only [bE,dZ,Nat.beq_refl,if_true,ak,aF,YQ,UO,ahx])
  refine aQ L.length (fun i=>[st7 cnZ,st7 (dD L i).c,txs (AD L i),txs L,I L.length,I i]) _ (fun i hi=>?_) ?_ rfl rfl
  ·have hg:ao 1 (txs L) (I i)=some [T L[i]]:=by
    rw [qZ,ahQ,ahF hi]
    rfl
   have hgd:L.getD i ⟨⟨[]⟩⟩=L[i]:=by rw [List.getD_eq_getElem?_getD,ahF hi,Option.getD_some]
   have hli:=hls _ (List.getElem_mem hi)
   have ha:=afH (l:=AD L i) (t:=(dY (dD L i).c L[i]).1) (by rw [iK];omega)
   have hi':(i:Int)<L.length:=by omega
   have hw:ahw.wrap ((i:Int)+1)=((i+1:Nat):Int):=by rw [ah (by omega) (by omega)];rfl
   have hs:dD L (i+1)=nB (dD L i) i (L.getD i ⟨⟨[]⟩⟩):=rfl
   have hs2:AD L (i+1)=AD L i++[(dY (dD L i).c (L.getD i ⟨⟨[]⟩⟩)).1]:=rfl
   rw [hs,hs2,hgd]
   simp -implicitDefEqProofs only [ak,aF,be,hi',decide_true,ahx,aG,if_true,hg,Option.map_some,bh,aP,bC,bS,ad9 (Bm L i).1 (Nat.le_trans hli (by decide)) rfl,vb,br,hw]
   simp -implicitDefEqProofs only [show cK (.arr 1 [T (dY (dD L i).c L[i]).1])=some (.arr 1 [T (dY (dD L i).c L[i]).1]) from rfl,ha,ahx,nB]
  ·have hi':¬((L.length:Nat):Int)<L.length:=by omega
   simp -implicitDefEqProofs only [ak,aF,be,hi',decide_false,ahx,aG,if_false,ahA]
end Go.Proofs.YtjafgdefcggjcaaGreatDoor

namespace Go.Proofs.YtjafgdefcggjcaaGreatDoor
open Go Go.V
theorem MQ (a:Int):aH 1 [I a]=some (ai [a]):=by simp [aH,lW]
def nl:List Int→Int→List Int
 | [],n=>[n]
 | x::l,n=>if x<n then x::nl l n else if x=n then x::l else n::x::l
def pL (n:Int):List Int→Nat
 | []=>0
 | x::l=>if x<n then pL n l+1 else 0
theorem ZO (n:Int):∀l,pL n l≤l.length
 | []=>ahL _
 | x::l=>by
  unfold pL
  split
  ·exact Nat.succ_le_succ (ZO n l)
  ·exact ahJ _
theorem aai (n:Int):∀(l:List Int) (i:Nat) (h:i<l.length),i<pL n l→l[i]<n
 | [],i,h,_=>by cases h
 | x::l,i,h,hi=>by
  unfold pL at hi
  split at hi
  ·rename_i hx
   cases i with
   | zero=>exact hx
   | succ i=>exact aai n l i (by simpa using h) (by omega)
  ·omega
theorem aaq (n:Int):∀(l:List Int) (h:pL n l<l.length),¬l[pL n l]<n
 | [],h=>by cases h
 | x::l,h=>by
  by_cases hx:x<n
  ·have e:pL n (x::l)=pL n l+1:=by simp [pL,hx]
   simp only [e,List.getElem_cons_succ]
   exact aaq n l (by rw [e] at h;simpa using h)
  ·have e:pL n (x::l)=0:=by simp [pL,hx]
   simp only [e,List.getElem_cons_zero]
   exact hx
theorem Xf (n:Int):∀(l:List Int),nl l n=if l[pL n l]?=some n then l else l.take (pL n l)++n::l.drop (pL n l)
 | []=>by simp [nl,pL]
 | x::l=>by
  by_cases hx:x<n
  ·have e:pL n (x::l)=pL n l+1:=by simp [pL,hx]
   rw [e]
   simp only [nl,hx,if_true,List.getElem?_cons_succ,ah2,ah3]
   rw [Xf n l]
   split<;>rfl
  ·have e:pL n (x::l)=0:=by simp [pL,hx]
   rw [e]
   by_cases h2:x=n
   ·simp [nl,h2]
   ·simp [nl,hx,h2]
theorem Ud (l:List Int) (n:Int) (h:l.length≤1000):qJ [ai l,I n]=some (.ret [ai (nl l n)] []):=by
 rw [UK]
 have hle:=ZO n l
 refine aD (.ext 0 [ai l,I n,I (pL n l:Nat)]) (aQ (pL n l) (fun i=>[ai l,I n,I i]) _ (fun i hi=>?_) ?_ rfl rfl) ?_
 ·have hil:i<l.length:=by omega
  have hlt:=aai n l i hil hi
  have hw:ahw.wrap ((i:Int)+1)=(i:Int)+1:=ah (by omega) (by omega)
  simp -implicitDefEqProofs [hil,hlt,hw]
 ·by_cases hl:pL n l<l.length
  ·have:=aaq n l hl
   simp -implicitDefEqProofs [hl,this]
  ·simp -implicitDefEqProofs [hl]
 ·rw [Xf]
  generalize pL n l=p at hle
  have s1:dW false 1 (ai l) (I ((0:Nat):Int)) (I (p:Int))=some (ai (l.take p)):=by
   have:=lQ (z:=1) (l:=l.map I) (i:=0) (j:=p) (k:=.i64) (k':=.i64) (ahJ _) (by simp;omega)
   rw [this]
   simp [List.map_take]
  have s2:cJ false 1 (ai l) (I (p:Int))=some (ai (l.drop p)):=by
   have:=mn (z:=1) (l:=l.map I) (i:=p) (k:=.i64) (by simp;omega)
   rw [this]
   simp [List.map_drop]
  have a1:bA 1 8 (ai []) (ai (l.take p))=some (ai (l.take p)):=ed (l:=[]) (by simp;omega)
  have a2:bA 1 8 (ai (l.take p)) (ai [n])=some (ai (l.take p++[n])):=ed (by simp;omega)
  have a3:bA 1 8 (ai (l.take p++[n])) (ai (l.drop p))=some (ai (l.take p++[n]++l.drop p)):=ed (by simp;omega)
  have c1:∀l,cK (ai l)=some (ai l):=fun l=>pw fun _=>rfl
  have m1:aH 1 []=some (ai []):=rfl
  have hb:(Nat.beq 0 0)=true:=rfl
  have rest:∀q:Bool,q=false→(ifD (B q) (some (Out.ret [ai l] [])) ((aH 1 []).bind fun a=>(dW false 1 (ai l) (D.v (ahy ahw 0)) (I (p:Int))).bind fun z=>(cK z).bind fun b=>(bA 1 8 a b).bind fun y=>(aH 1 [I n]).bind fun a=>(cK a).bind fun b=>(bA 1 8 y b).bind fun y =>
    (cJ false 1 (ai l) (I (p:Int))).bind fun z=>(bA 1 8 y z).bind fun y=>some (Out.ret [y] [])))=some (.ret [ai (l.take p++n::l.drop p)] []):=by
   rintro q rfl
   rw [aG,if_neg (by simp),show(D.v (ahy ahw 0))=I ((0:Nat):Int) from rfl,s1]
   simp -implicitDefEqProofs only [m1,MQ,ahx,c1,a1,a2,s2,a3]
   simp
  by_cases hp:p<l.length
  ·by_cases hq:l[p]=n
   ·simp -implicitDefEqProofs [hp,hq]
   ·rw [if_neg (by simp [hp,hq])]
    refine Eq.trans ?_ (rest false rfl)
    simp -implicitDefEqProofs [hp,hq,-gn]
  ·rw [if_neg (by simp [hp])]
   refine Eq.trans ?_ (rest false rfl)
   simp -implicitDefEqProofs [hp,-gn]
theorem WY {n y:Int}:∀{l:List Int},y∈nl l n→y=n∨y∈l
 | [],h=>by simp [nl] at h;exact .inl h
 | x::l,h=>by
  unfold nl at h
  split at h
  ·rcases ahV.1 h with rfl | h
   ·simp
   ·rcases WY h with h | h
    ·exact .inl h
    ·simp [h]
  ·split at h
   ·exact .inr h
   ·simpa using h
theorem Nr {n:Int}:∀{l:List Int},l.Pairwise (·≤·)→(nl l n).Pairwise (·≤·)
 | [],_=>by simp [nl]
 | x::l,h=>by
  have h':=ahU.1 h
  unfold nl
  split
  ·rename_i hx
   refine ahU.2 ⟨fun y hy=>?_,Nr h'.2⟩
   rcases WY hy with rfl | hy
   ·omega
   ·exact h'.1 y hy
  ·split
   ·exact h
   ·refine ahU.2 ⟨fun y hy=>?_,h⟩
    rcases ahV.1 hy with rfl | hy
    ·omega
    ·have:=h'.1 y hy
     omega
theorem VO {n:Int}:∀{l:List Int},n∉l→(nl l n).Perm (l++[n])
 | [],_=>by simp [nl]
 | x::l,h=>by
  simp only [ahV,not_or] at h
  unfold nl
  split
  ·exact(VO h.2).cons x
  ·rw [if_neg (fun e=>h.1 e.symm)]
   exact(List.perm_append_comm (l₁:=[n]) (l₂:=x::l))
theorem adj:∀(r:List Int) (a:List Int) (o:List Int),o.Pairwise (·≤·)→o.Perm a→(a++r).Nodup→(r.foldl nl o).Pairwise (·≤·)∧(r.foldl nl o).Perm (a++r)
 | [],a,o,h1,h2,_=>⟨h1,by simpa using h2⟩
 | n::r,a,o,h1,h2,h3=>by
  have hn:n∉o:=fun hm=>by
   have:=(List.nodup_append.1 h3).2.2 n (h2.mem_iff.1 hm) n (by simp)
   exact this rfl
  have:=adj r (a++[n]) (nl o n) (Nr h1) ((VO hn).trans (h2.append_right [n])) (by simpa using h3)
  simpa using this
def vf (L:List ByteArray):Nat→List Int
 | 0=>[]
 | i+1=>vf L i++(if (dY (dD L i).c (L.getD i ⟨⟨[]⟩⟩)).1=noT∨(dY (dD L i).c (L.getD i ⟨⟨[]⟩⟩)).1=fv then [((i+1:Nat):Int)] else [])
theorem aau:noT≠fv:=by decide
theorem wP (L:List ByteArray):∀i,(∀x∈vf L i,x≤(i:Int))∧(vf L i).Pairwise (·<·)∧(vf L i).Perm ((dD L i).no++(dD L i).wh)∧(vf L i).length≤i
 | 0=>⟨fun x hx=>by simp [vf] at hx,ahW,ah7 _,ahL _⟩
 | i+1=>by
  obtain⟨h1,h2,h3,h4⟩:=wP L i
  have hr:dD L (i+1)=nB (dD L i) i (L.getD i ⟨⟨[]⟩⟩):=rfl
  rw [hr]
  unfold vf nB
  generalize (dY (dD L i).c (L.getD i ⟨⟨[]⟩⟩)).1=a
  dsimp only
  by_cases ha:a=noT
  ·have hb:¬a=fv:=fun e=>aau (ha.symm.trans e)
   rw [if_pos (.inl ha),if_pos ha,if_neg hb]
   refine⟨fun x hx=>?_,?_,?_,by rw [ahE];simp;omega⟩
   ·rcases ah0.1 hx with g | g
    ·have:=h1 x g;omega
    ·rw [ahP] at g;omega
   ·refine List.pairwise_append.2 ⟨h2,List.pairwise_singleton _ _,fun x hx y hy=>?_⟩
    rw [ahP] at hy
    have:=h1 x hx
    omega
   ·refine(h3.append_right _).trans ?_
    rw [ahX,ahX]
    exact List.perm_append_comm.append_left _
  ·by_cases hb:a=fv
   ·rw [if_pos (.inr hb),if_neg ha,if_pos hb]
    refine⟨fun x hx=>?_,?_,?_,by rw [ahE];simp;omega⟩
    ·rcases ah0.1 hx with g | g
     ·have:=h1 x g;omega
     ·rw [ahP] at g;omega
    ·refine List.pairwise_append.2 ⟨h2,List.pairwise_singleton _ _,fun x hx y hy=>?_⟩
     rw [ahP] at hy
     have:=h1 x hx
     omega
    ·refine(h3.append_right _).trans ?_
     rw [ahX]
   ·rw [if_neg (by simp [ha,hb]),if_neg ha,if_neg hb,ah5]
    exact⟨fun x hx=>by have:=h1 x hx;omega,h2,h3,by omega⟩
theorem ace (L:List ByteArray) (i:Nat):((dD L i).no++(dD L i).wh).foldl nl []=vf L i:=by
 obtain⟨-,h2,h3,-⟩:=wP L i
 have hn:((dD L i).no++(dD L i).wh).Nodup:=h3.nodup_iff.1 (h2.imp fun h=>by omega)
 obtain⟨g1,g2⟩:=adj ((dD L i).no++(dD L i).wh) [] [] ahW (ah7 _) (by simpa using hn)
 exact List.Perm.eq_of_pairwise (le:=(·≤·)) (fun a b _ _ h1 h2=>by omega) g1 (h2.imp fun h=>by omega) ((by simpa using g2:(((dD L i).no++(dD L i).wh).foldl nl []).Perm ((dD L i).no++(dD L i).wh)).trans h3.symm)
theorem Vq (s:ByteArray) (h:okC s=true):wR s=(mh s).c:=by
 unfold wR mh
 rw [if_pos h,if_pos h]
theorem UY (s:ByteArray) (h:okC s=false):wR s=cnZ:=by
 unfold wR
 rw [if_neg (by rw [h];simp)]
theorem OB (c:Cn) (k:Nat):aa (st7 c) (D.ref 0 k)=some (D.ref 0 k):=rfl
theorem WE (c:Cn):stD 7 (st7 cnZ) (.ref 0 0) (st7 c)=some (st7 c):=rfl
theorem t0S {c:Cn} {b:List D}:aq (.tup (st7 c::b)) 0=some (st7 c):=rfl
theorem Xd (c:Cn) (a b:D):dg (.tup [st7 c,a,b]) 1 = .tup [st7 c,.bad,b]:=rfl
theorem EW {a c:D} {x:Value}:aq (.tup [a,c,.v x]) 2=some (.v x):=rfl
theorem t1X {a:D} {l:List ByteArray} {b:List D}:aq (.tup (a::txs l::b)) 1=some (txs l):=rfl
theorem t0P {a:Rn} {n:Int} {b:List D}:aq (.tup (cnP a n::b)) 0=some (cnP a n):=rfl
theorem Du {a:Rn} {n:Int}:Bn (cnP a n)=some (cnP a n):=rfl
section
variable (a:Rn) (n:Int)
theorem ahm:((gy 5 (cnP a n)).bind fun z=>(ldD false 1 z).bind aL)=some (T a.c.j):=rfl
end
theorem BX (s:ByteArray) (h:s.size≤1048576):gF [T s]=some (.ret [T (wR s).j,B (okC s)] []):=by
 rw [BG,SM]
 simp -implicitDefEqProofs only [ay,aht,ahu,ahv,gX s h,t0S,t1X,Xd,EW,WE,OB,Cj]
theorem BM (s:ByteArray) (h:s.size≤1048576):gP [T s]=some (.ret [T (wR s).j,B (okC s)] []):=by
 rw [BN]
 have e1:=yq s h
 cases hk:okC s
 ·rw [hk] at e1
  rw [UY s hk]
  simp -implicitDefEqProofs only [ay,aht,ahu,ahv,e1,t0P,t1V,EW,Du]
  rfl
 ·rw [hk] at e1
  rw [Vq s hk]
  have q:=fun n=>ahm (mh s) n
  simp -implicitDefEqProofs only [e1,am,t0P,t1V,EW,Du,ahx,bd,ahI,aG,if_false,ahA]
  rfl
theorem JS (s:ByteArray) (h:s.size≤1048576):ki [T s]=some (.ret [me (wR s).m,B (okC s)] []):=by
 rw [Jy,SM]
 simp -implicitDefEqProofs only [ay,aht,ahu,ahv,gX s h,t0S,t1X,Xd,EW,WE,OB,Nw,rV,ro]
theorem JE (s:ByteArray) (h:s.size≤1048576):kj [T s]=some (.ret [me (wR s).m,B (okC s)] []):=by
 rw [Jw]
 have e1:=yq s h
 cases hk:okC s
 ·rw [hk] at e1
  rw [UY s hk]
  simp -implicitDefEqProofs only [e1,am,t0P,t1V,EW,Du,ahx,bd,ahM,aG,if_true]
  rfl
 ·rw [hk] at e1
  rw [Vq s hk]
  simp -implicitDefEqProofs only [e1,am,t0P,t1V,EW,Du,ahx,bd,ahI,aG,if_false,ahA]
  rfl
theorem XM {l m:List Slp} (h:l.length+m.length≤1048577):bA 2 16 (sls l) (sls m)=some (sls (l++m)):=by
 rw [gn,if_pos (by simp;omega)]
 simp
theorem Xr (l:List Slp):cK (sls l)=some (sls l):=pw fun _=>rfl
theorem afk (s:ByteArray):CnOk (wR s)∨wR s=cnZ:=by
 unfold wR
 split
 ·exact .inl (Bm _ _).1
 ·exact .inr rfl
theorem OL (s:ByteArray):(wR s).s.length≤8:=by
 rcases afk s with h | h
 ·exact ef h.s
 ·rw [h];exact ahJ _
theorem HO (s:ByteArray) (h:s.size≤1048576):gg [T s]=some (.ret [sls (wR s).s,B (okC s)] []):=by
 rw [Fx,SM]
 have hl:=OL s
 have ha:=XM (l:=[]) (m:=(wR s).s) (by simp;omega)
 rw [ahS] at ha
 have hm:aH 2 []=some (sls []):=rfl
 simp -implicitDefEqProofs only [ay,aht,ahu,ahv,gX s h,t0S,t1X,Xd,EW,WE,OB,Xm,hm,Xr,ha]
theorem Gt (s:ByteArray) (h:s.size≤1048576):jy [T s]=some (.ret [sls (wR s).s,B (okC s)] []):=by
 rw [HJ]
 have e1:=yq s h
 cases hk:okC s
 ·rw [hk] at e1
  rw [UY s hk]
  simp -implicitDefEqProofs only [e1,am,t0P,t1V,EW,Du,ahx,bd,ahM,aG,if_true]
  rfl
 ·rw [hk] at e1
  have hl:=OL s
  rw [Vq s hk] at hl ⊢
  have ha:=XM (l:=[]) (m:=(mh s).c.s) (by simp;omega)
  rw [ahS] at ha
  have hm:aH 2 []=some (sls []):=rfl
  have q:∀n:Int,∀k:D→Option Out,((gy 3 (cnP (mh s) n)).bind fun z=>(ldD false 1 z).bind k)=k (sls (mh s).c.s):=fun _ _=>rfl
  simp -implicitDefEqProofs only [e1,am,t0P,t1V,EW,Du,ahx,bd,ahI,aG,if_false,ahA,q,hm,Xr,ha]
def my (t:ByteArray) (l:List ByteArray):Nat:=(l.filter fun x=>decide (x=t)).length
theorem Mq (t x:ByteArray) (l:List ByteArray):my t (l++[x])=my t l+if x=t then 1 else 0:=by
 unfold my
 rw [List.filter_append,ahE]
 by_cases h:x=t<;>simp [h]
theorem TT (t:ByteArray) (l:List ByteArray):my t l≤l.length:=List.length_filter_le _ _
theorem ZJ (L:List ByteArray):∀i,my noT (AD L i)=(dD L i).no.length∧my fv (AD L i)=(dD L i).wh.length
 | 0=>⟨rfl,rfl⟩
 | i+1=>by
  obtain⟨h1,h2⟩:=ZJ L i
  have hr:dD L (i+1)=nB (dD L i) i (L.getD i ⟨⟨[]⟩⟩):=rfl
  rw [hr]
  unfold AD nB
  generalize (dY (dD L i).c (L.getD i ⟨⟨[]⟩⟩)).1=a
  dsimp only
  rw [Mq,Mq,h1,h2]
  constructor<;>split<;>simp
theorem acW:(D.v (ahD {data:={toList:=[110,111]}}))=T noT:=rfl
theorem WD:(D.v (ahD {data:={toList:=[119,104,97,116]}}))=T fv:=rfl
theorem Bx (s:ByteArray) (h:s.size≤1048576) (hl:(qN s).length≤1000000):gN [T s]=some (.ret [I (my noT (qN s)),I (my fv (qN s)),I (((qN s).length:Int) - my noT (qN s) - my fv (qN s)),B (okC s)] []):=by
 rw [BK,SM]
 simp -implicitDefEqProofs only [gX s h,am,t0S,t1X,Xd,EW,WE,ahx,aK,ahH]
 generalize qN s=A at *
 have hcnt:∀t,my t (A.take A.length)=my t A:=fun t=>by rw [ahY]
 refine aD (.ext 0 [txs A,B (okC s),I (my noT A),I (my fv A)]) ?_ ?_
 ·refine aQ A.length (fun i=>[txs A,B (okC s),I (my noT (A.take i)),I (my fv (A.take i)),txs A,I A.length,I i]) _ (fun i hi=>?_) ?_ rfl ?_
  ·have hg:ao 1 (txs A) (I i)=some [T A[i]]:=by
    rw [qZ,ahQ,ahF hi]
    rfl
   have hi':(i:Int)<A.length:=by omega
   have hw:ahw.wrap ((i:Int)+1)=((i+1:Nat):Int):=by rw [ah (by omega) (by omega)];rfl
   have hts:A.take (i+1)=A.take i++[A[i]]:=ahR hi
   have hl1:=TT noT (A.take i)
   have hl2:=TT fv (A.take i)
   rw [ahZ] at hl1 hl2
   rw [hts,Mq,Mq]
   have w1:ahw.wrap ((my noT (A.take i):Int)+1)=((my noT (A.take i)+1:Nat):Int):=by rw [ah (by omega) (by omega)];rfl
   have w2:ahw.wrap ((my fv (A.take i):Int)+1)=((my fv (A.take i)+1:Nat):Int):=by rw [ah (by omega) (by omega)];rfl
   generalize A[i]=a at *
   rw [acW,WD]
   by_cases ha:a=noT
   ·have hb:¬a=fv:=fun e=>aau (ha.symm.trans e)
    simp -implicitDefEqProofs only [ay,aht,ahu,ahv,hi',hg,bC,af,decide_eq_true ha,hw,w1]
    rw [if_pos ha,if_neg hb]
    rfl
   ·by_cases hb:a=fv
    ·simp -implicitDefEqProofs only [ay,aht,ahu,ahv,hi',hg,bC,af,decide_eq_false ha,decide_eq_true hb,hw,w2]
     rw [if_neg ha,if_pos hb]
     rfl
    ·simp -implicitDefEqProofs only [ay,aht,ahu,ahv,hi',hg,bC,af,decide_eq_false ha,decide_eq_false hb,hw]
     rw [if_neg ha,if_neg hb]
     rfl
  ·have hi':¬((A.length:Nat):Int)<A.length:=by omega
   simp -implicitDefEqProofs only [ay,aht,ahu,ahv,hi',hcnt]
  ·rfl
 ·have hl1:=TT noT A
  have hl2:=TT fv A
  have w1:ahw.wrap ((A.length:Int) - my noT A)=(A.length:Int) - my noT A:=ah (by omega) (by omega)
  have w2:ahw.wrap ((A.length:Int) - my noT A - my fv A)=(A.length:Int) - my noT A - my fv A:=ah (by omega) (by omega)
  simp -implicitDefEqProofs only [ay,aht,ahu,ahv,dZ,w1,w2]
theorem NP (s:ByteArray):(qN s).length≤40:=by
 unfold qN
 split
 ·rename_i h
  rw [iK]
  unfold okC at h
  simp only [ahK,decide_eq_true_eq] at h
  exact h.2
 ·exact ahJ _
theorem BW (s:ByteArray) (h:s.size≤1048576):gL [T s]=some (.ret [I (my noT (qN s)),I (my fv (qN s)),I (((qN s).length:Int) - my noT (qN s) - my fv (qN s)),B (okC s)] []):=by
 rw [BR]
 have e1:=yq s h
 have h40:=NP s
 cases hk:okC s
 ·rw [hk] at e1
  have hA:qN s=[]:=by unfold qN;rw [if_neg (by rw [hk];simp)]
  rw [hA]
  simp -implicitDefEqProofs only [e1,am,t0P,t1V,EW,Du,ahx,bd,ahM,aG,if_true]
  rfl
 ·rw [hk,if_pos rfl] at e1
  have hA:qN s=AD (aU s) (aU s).length:=by unfold qN;rw [if_pos hk]
  have hR:mh s=dD (aU s) (aU s).length:=by unfold mh;rw [if_pos hk]
  obtain⟨c1,c2⟩:=ZJ (aU s) (aU s).length
  obtain⟨-,-,b1,b2⟩:=Bm (aU s) (aU s).length
  rw [hA,iK] at h40
  rw [hA,c1,c2,iK]
  rw [hR] at e1
  generalize dD (aU s) (aU s).length=R at *
  generalize (aU s).length=n at *
  have w1:ahw.wrap ((n:Int) - R.no.length)=(n:Int) - R.no.length:=ah (by omega) (by omega)
  have w2:ahw.wrap ((n:Int) - R.no.length - R.wh.length)=(n:Int) - R.no.length - R.wh.length:=ah (by omega) (by omega)
  have o7:∀n:Int,gy 7 (cnP R n)=some (.ptr [ai R.no,ai R.wh,I n]):=fun _=>rfl
  have o8:∀n:Int,gy 8 (cnP R n)=some (.ptr [ai R.wh,I n]):=fun _=>rfl
  have o9:∀n:Int,gy 9 (cnP R n)=some (.ptr [I n]):=fun _=>rfl
  simp -implicitDefEqProofs only [ay,aht,ahu,ahv,e1,t0P,t1V,EW,Du,o7,o8,o9,w1,w2]
theorem EP (s:ByteArray) (h:s.size≤1048576):fL [T s]=some (.ret [ai (if okC s=true then vf (aU s) (aU s).length else []),B (okC s)] []):=by
  rw [Er,SM]
  have h40:=NP s
  simp -implicitDefEqProofs only [gX s h,am,t0S,t1X,Xd,EW,WE,ahx,aK,ahH,aZ]
  have key:∀(A:List ByteArray) (b:Bool) (Fl:Nat→List Int),A.length≤40→Fl 0=[]→(∀i,(hi:i<A.length)→Fl (i+1)=Fl i++(if A[i]=noT∨A[i]=fv then [((i+1:Nat):Int)] else []))→(∀i,(Fl i).length≤i) →
      ((aX (fun s=>(bin BinOp.lss false [] (sl s 4) (sl s 3)).bind fun z=>ifD z ((ahB D.ptr (ao 1 (sl s 2) (sl s 4))).bind fun z =>
 ((ldD false 1 z).bind aL).bind fun z=>(bin BinOp.eql false [] z (D.v (ahD {data:={toList:=[110,111]}}))).bind fun z_2=>(aj (D.tup []) z_2 false (some z)).bind fun z=>(aj (D.tup []) z_2 false
 (bin BinOp.eql false [] z (D.v (ahD {data:={toList:=[119,104,97,116]}})))).bind fun z=>(aT z_2 (D.v (Value.bool true)) z).bind fun z=>ifD z
 ((bin ah8 false [] (sl s 4) (D.v (ahy ahw 1))).bind fun z=>(aH 1 [z]).bind fun a=>(cK a).bind fun b=>(bA 1 8 (sl s 1) b).bind fun y =>
 (bin ah8 false [] (sl s 4) (D.v (ahy ahw 1))).bind fun z=>some (Out.nrm [sl s 0,y,sl s 2,sl s 3,z])) ((bin ah8 false [] (sl s 4) (D.v (ahy ahw 1))).bind
 fun z=>some (Out.nrm [sl s 0,sl s 1,sl s 2,sl s 3,z]))) (some (Out.ext 0 [sl s 0,sl s 1]))) [B b,.arr 1 [],txs A,I A.length,D.v (ahy ahw 0)]).bind fun o =>
 bY o (fun i s=>ifN (i.beq 0) (some (Out.ret [sl s 1,sl s 0] [])) none) fun a b=>some (Out.ret a b))=some (.ret [ai (Fl A.length),B b] []):=by
    intro A b Fl hA hF0 hF hFl
    refine aD (.ext 0 [B b,ai (Fl A.length)]) (aQ A.length (fun i=>[B b,ai (Fl i),txs A,I A.length,I i]) _ (fun i hi=>?_) ?_ rfl (by rw [hF0];rfl)) ?_
    · have hg:ao 1 (txs A) (I i)=some [T A[i]]:=by
        rw [qZ,ahQ,ahF hi]
        rfl
      have hi':(i:Int)<A.length:=by omega
      have hw:ahw.wrap ((i:Int)+1)=((i+1:Nat):Int):=by rw [ah (by omega) (by omega)];rfl
      have hlen:=hFl i
      have ha:bA 1 8 (ai (Fl i)) (ai [((i+1:Nat):Int)])=some (ai (Fl i++[((i+1:Nat):Int)])):=ed (by simp;omega)
      have hc:cK (ai [((i+1:Nat):Int)])=some (ai [((i+1:Nat):Int)]):=rfl
      rw [hF i hi]
      generalize A[i]=a at *
      rw [acW,WD]
      by_cases h1:a=noT
      · rw [if_pos (.inl h1)]
        simp -implicitDefEqProofs only [ay,aht,ahu,ahv,hi',hg,af,decide_eq_true h1,hw,MQ,hc,ha]
      · by_cases h2:a=fv
        · rw [if_pos (.inr h2)]
          simp -implicitDefEqProofs only [ay,aht,ahu,ahv,hi',hg,af,decide_eq_false h1,decide_eq_true h2,hw,MQ,hc,ha]
        · rw [if_neg (by simp [h1,h2]),ah5]
          simp -implicitDefEqProofs only [ay,aht,ahu,ahv,hi',hg,af,decide_eq_false h1,decide_eq_false h2,hw]
    · have hi':¬((A.length:Nat):Int)<A.length:=by omega
      simp -implicitDefEqProofs only [ay,aht,ahu,ahv,hi']
    · simp -implicitDefEqProofs only [ay,aht,ahu,ahv,dZ]
  cases hk:okC s
  · have hA:qN s=[]:=by unfold qN;rw [if_neg (by rw [hk];simp)]
    rw [hA]
    exact key [] false (fun _=>[]) (ahJ _) rfl (fun i hi=>by cases hi) (fun _=>ahJ _)
  · have hA:qN s=AD (aU s) (aU s).length:=by unfold qN;rw [if_pos hk]
    rw [hA] at h40 ⊢
    have hat:∀(L:List ByteArray) (n i:Nat) (hi:i<n),(AD L n)[i]'(by rw [iK];exact hi)=(dY (dD L i).c (L.getD i ⟨⟨[]⟩⟩)).1:=by
      intro L n
      induction n with
      | zero=>intro i hi;omega
      | succ n ih =>
        intro i hi
        simp only [AD]
        by_cases hn:i<n
        · rw [List.getElem_append_left (by rw [iK];exact hn)]
          exact ih i hn
        · have:i=n:=by omega
          subst this
          rw [List.getElem_append_right (by rw [iK];exact ahL _)]
          simp [iK]
    have:=key (AD (aU s) (aU s).length) true (vf (aU s)) h40 rfl (fun i hi=>by
      rw [hat _ _ _ (by rw [iK] at hi;exact hi)]
      rfl) (fun i=>(wP _ i).2.2.2)
    rw [iK] at this
    rw [iK,if_pos rfl]
    exact this
theorem EH (s:ByteArray) (h:s.size≤1048576):iC [T s]=some (.ret [ai (if okC s=true then vf (aU s) (aU s).length else []),B (okC s)] []):=by
 rw [Ej]
 have e1:=yq s h
 cases hk:okC s
 ·rw [hk] at e1
  simp -implicitDefEqProofs only [e1,am,t0P,t1V,EW,Du,ahx,bd,ahM,aG,if_true,ahA,if_false]
  rfl
 ·rw [hk,if_pos rfl] at e1
  have h40:(aU s).length≤40:=by
   unfold okC at hk
   simp only [ahK,decide_eq_true_eq] at hk
   exact hk.2
  have hR:mh s=dD (aU s) (aU s).length:=by unfold mh;rw [if_pos hk]
  have hf:=ace (aU s) (aU s).length
  obtain⟨-,-,b1,b2⟩:=Bm (aU s) (aU s).length
  rw [if_pos rfl,←hf]
  rw [hR] at e1
  generalize dD (aU s) (aU s).length=R at *
  generalize (aU s).length=n at *
  have o7:∀n:Int,gy 7 (cnP R n)=some (.ptr [ai R.no,ai R.wh,I n]):=fun _=>rfl
  have o8:∀n:Int,gy 8 (cnP R n)=some (.ptr [ai R.wh,I n]):=fun _=>rfl
  have w1:=mY R.no (by omega)
  have ha:bA 1 8 (ai R.no) (ai R.wh)=some (ai (R.no++R.wh)):=ed (by omega)
  have hA:(R.no++R.wh).length≤1000:=by rw [ahE];omega
  simp -implicitDefEqProofs only [e1,am,t0P,t1V,EW,Du,ahx,bd,ahI,aG,if_false,ahA,o7,o8,bh,aP,w1,ak,ha,aK,ahH]
  generalize R.no++R.wh=A at *
  have hpl:∀(r o:List Int),(r.foldl nl o).length≤o.length+r.length:=by
   intro r
   induction r with
   | nil=>intro o;simp
   | cons x r ih =>
    intro o
    have h1:=ih (nl o x)
    have h2:∀l:List Int,(nl l x).length≤l.length+1:=by
     intro l
     induction l with
     | nil=>simp [nl]
     | cons y l ih2 =>
      unfold nl
      split
      ·simpa using ih2
      ·split<;>simp
    have:=h2 o
    simp only [ah6,ahN]
    omega
  refine aD (.ext 0 [ai (A.foldl nl [])]) (aQ A.length (fun i=>[ai ((A.take i).foldl nl []),ai A,I A.length,I i]) _ (fun i hi=>?_) ?_ rfl rfl) ?_
  ·have hg:ao 1 (ai A) (I i)=some [I A[i]]:=by
    rw [qZ,ahQ,ahF hi]
    rfl
   have hi':(i:Int)<A.length:=by omega
   have hw:ahw.wrap ((i:Int)+1)=((i+1:Nat):Int):=by rw [ah (by omega) (by omega)];rfl
   have hts:A.take (i+1)=A.take i++[A[i]]:=ahR hi
   have hlen:=hpl (A.take i) []
   rw [ahZ,ahO] at hlen
   rw [hts,List.foldl_append,ah6,List.foldl_nil]
   have hp:=Ud ((A.take i).foldl nl []) A[i] (by omega)
   simp -implicitDefEqProofs only [ay,aht,ahu,ahv,hi',hg,hp,hw]
  ·have hi':¬((A.length:Nat):Int)<A.length:=by omega
   simp -implicitDefEqProofs only [ay,aht,ahu,ahv,hi',ahY]
  ·simp -implicitDefEqProofs only [ay,aht,ahu,ahv,dZ]
end Go.Proofs.YtjafgdefcggjcaaGreatDoor

namespace Go.Proofs.YtjafgdefcggjcaaGreatDoor
open Go Go.V
theorem QL (l:List Int) (h:l.length≤1048577):kW [ja l,ja l]=some (.ret [B true] []):=by
 rw [Rm]
 simp only [aK,ahH,ahx,iz,decide_true,ahI,aG,ahA,if_false]
 refine aD _ (aQ l.length (fun i=>[ja l,ja l,I i]) (.ext 0 []) (fun i hi=>?_) ?_ rfl rfl) ?_
 ·have hw:ahw.wrap ((i:Int)+1)=(i:Int)+1:=ah (by omega) (by omega)
  simp -implicitDefEqProofs [hi,hw]
 ·simp
 ·simp
def yC (k:Int) (n:Nat):List Int:=(List.range n).map fun(j:Nat)=>k+(j:Int)
theorem LR (l:List Int) (k:Int) (h:l.length≤1048577) (h1:0≤k) (h2:k≤100000000):lF [ja l,I k]=some (.ret [I (k+l.length)] [ja (yC k l.length)]):=by
 rw [Lm]
 refine aD _ (aQ l.length (fun i=>[.arr 1 (qD (fun(j:Nat)=>I (k+(j:Int))) (fun n=>I n) l i),I (k+i),I i]) (.ext 0 [ja (yC k l.length),I (k+l.length)]) (fun i hi=>?_) ?_ rfl ?_) ?_
 ·have hw:ahw.wrap ((i:Int)+1)=(i:Int)+1:=ah (by omega) (by omega)
  have w1:ahw.wrap (k+(i:Int)+1)=k+(i+1):=by rw [ah (by omega) (by omega)];omega
  have hg:=Sg (g:=fun(j:Nat)=>I (k+(j:Int))) (f:=fun n=>I n) hi
  have hs:=Su (g:=fun(j:Nat)=>I (k+(j:Int))) (f:=fun n=>I n) hi
  have hl:=Ge (g:=fun(j:Nat)=>I (k+(j:Int))) (f:=fun n=>I n) (Nat.le_of_lt hi)
  generalize qD (fun(j:Nat)=>I (k+(j:Int))) (fun n=>I n) l i=L at *
  have s1:=Yb (z:=1) (v:=.int .i64 (k+i)) hg
  simp [hi,hl,hw,w1,s1]
  exact hs
 ·simp [Nb,yC]
 ·simp [NM (g:=fun(j:Nat)=>I (k+(j:Int))) (f:=fun n=>I n)]
 ·simp
theorem Md (k:Int) (n:Nat) (h:n≤1048577) (h1:0≤k) (h2:k≤100000000):iO [ja (yC k n),I k]=some (.ret [I (k+n)] []):=by
 rw [LB]
 refine aD _ (aQ n (fun i=>[ja (yC k n),I (k+i),I i]) (.ext 0 [I (k+n)]) (fun i hi=>?_) ?_ rfl ?_) ?_
 ·have hw:ahw.wrap ((i:Int)+1)=(i:Int)+1:=ah (by omega) (by omega)
  have w1:ahw.wrap (k+(i:Int)+1)=k+(i+1):=by rw [ah (by omega) (by omega)];omega
  simp [yC,hi,hw,w1]
 ·simp [yC]
 ·simp
 ·simp
theorem PR (m:Me):pb [me m,me m]=some (.ret [B true] []):=by
 rw [Rw]
 simp -implicitDefEqProofs
theorem Rl (m:Slp):oz [slp m,slp m]=some (.ret [B true] []):=by
 rw [PV]
 simp -implicitDefEqProofs
theorem NF (l:List Slp) (h:l.length≤1048577):jG [sls l,sls l]=some (.ret [B true] []):=by
 rw [Pi]
 simp only [aK,ahH,ahx,iz,decide_true,ahI,aG,ahA,if_false]
 refine aD _ (aQ l.length (fun i=>[sls l,sls l,I i]) (.ext 0 []) (fun i hi=>?_) ?_ rfl rfl) ?_
 ·have hw:ahw.wrap ((i:Int)+1)=(i:Int)+1:=ah (by omega) (by omega)
  have he:=Rl l[i]
  simp -implicitDefEqProofs [hi,hw,he]
 ·simp
 ·simp
def mk2 (k:Int) (j:Nat):Slp:=(k+2*j,k+2*j+1)
def zp (k:Int) (n:Nat):List Slp:=(List.range n).map (mk2 k)
theorem JM (l:List Slp) (k:Int) (h:l.length≤1048577) (h1:0≤k) (h2:k≤100000000):kr [sls l,I k]=some (.ret [I (k+2*l.length)] [sls (zp k l.length)]):=by
 rw [JB]
 refine aD _ (aQ l.length (fun i=>[.arr 2 (qD (fun j=>slp (mk2 k j)) slp l i),I (k+2*i),I i]) (.ext 0 [sls (zp k l.length),I (k+2*l.length)]) (fun i hi=>?_) ?_ rfl ?_) ?_
 ·have hw:ahw.wrap ((i:Int)+1)=(i:Int)+1:=ah (by omega) (by omega)
  have w1:ahw.wrap (k+2*(i:Int)+1)=k+2*i+1:=ah (by omega) (by omega)
  have w2:ahw.wrap (k+2*(i:Int)+1+1)=k+2*(i+1):=by rw [ah (by omega) (by omega)];omega
  have hg:=Sg (g:=fun j=>slp (mk2 k j)) (f:=slp) hi
  have hs:=Su (g:=fun j=>slp (mk2 k j)) (f:=slp) hi
  have hl:=Ge (g:=fun j=>slp (mk2 k j)) (f:=slp) (Nat.le_of_lt hi)
  generalize qD (fun j=>slp (mk2 k j)) slp l i=L at *
  have s1:=Ni (z:=2) (f:=0) (v:=.int .i64 (k+2*i)) hg (by simp)
  have s2:=Ni (z:=2) (L:=L.set i (.agg [I (k+2*i),I l[i].2])) (i:=i) (f:=1) (v:=.int .i64 (k+2*i+1)) (c:=[I (k+2*i),I l[i].2]) (by simp [hl,hi]) (by simp)
  simp only [WU,List.take_zero,ahS,ah1,Nat.zero_add,ah3,List.drop_zero,List.singleton_append,ah2,List.cons_append,Nat.reduceAdd,List.set_set,List.drop_nil] at s1 s2
  simp [hi,hl,hw,w1,w2,s1,s2]
  exact hs
 ·simp [Nb,zp,mk2]
 ·simp [NM (g:=fun j=>slp (mk2 k j)) (f:=slp)]
 ·simp
theorem IA (k:Int) (n:Nat) (h:n≤1048577) (h1:0≤k) (h2:k≤100000000):gZ [sls (zp k n),I k]=some (.ret [I (k+2*n)] []):=by
 rw [Jd]
 refine aD _ (aQ n (fun i=>[sls (zp k n),I (k+2*i),I i]) (.ext 0 [I (k+2*n)]) (fun i hi=>?_) ?_ rfl ?_) ?_
 ·have hw:ahw.wrap ((i:Int)+1)=(i:Int)+1:=ah (by omega) (by omega)
  have w1:ahw.wrap (k+2*(i:Int)+1)=k+2*i+1:=ah (by omega) (by omega)
  have w2:ahw.wrap (k+2*(i:Int)+1+1)=k+2*(i+1):=by rw [ah (by omega) (by omega)];omega
  simp [zp,mk2,hi,hw,w1,w2]
 ·simp [zp]
 ·simp
 ·simp
theorem ahr {m:Me} {b:List D}:aq (.tup (me m::b)) 0=some (me m):=rfl
theorem ahp {l:List Slp} {b:List D}:aq (.tup (sls l::b)) 0=some (sls l):=rfl
theorem ahf {l:List Int} {b:List D}:aq (.tup (ai l::b)) 0=some (ai l):=rfl
theorem afv {a:D} {b:List D}:dg (.tup (a::b)) 0 = .tup (.bad::b):=rfl
theorem afz {x:Value}:aq (.tup [.bad,.v x]) 1=some (.v x):=rfl
theorem ahg {a b c:D} {x:Value}:aq (.tup [a,b,c,.v x]) 3=some (.v x):=rfl
theorem ahk {a b d:D} {x:Value}:aq (.tup [a,b,.v x,d]) 2=some (.v x):=rfl
theorem QK (s:ByteArray):eS [T s]=some (.ret [B true] []):=by
 rw [vi]
 by_cases h:1048576<(s.size:Int)
 ·simp -implicitDefEqProofs only [ay,aht,ahu,ahv,h]
 have hz:s.size≤1048576:=by omega
 cases hk:okC s<;>simp -implicitDefEqProofs only [ay,aht,ahu,ahv,h,JE s hz,JS s hz,PR,ahr,t1V,rV,ro,yL,hk,beq_self_eq_true]
theorem IH (s:ByteArray):dV [T s]=some (.ret [B true] []):=by
 rw [rZ]
 by_cases h:1048576<(s.size:Int)
 ·simp -implicitDefEqProofs only [ay,aht,ahu,ahv,h]
 have hz:s.size≤1048576:=by omega
 cases hk:okC s<;>simp -implicitDefEqProofs only [ay,aht,ahu,ahv,h,BM s hz,BX s hz,t0V,t1V,jI,yL,hk,beq_self_eq_true]
theorem Jq (s:ByteArray):dT [T s]=some (.ret [B true] []):=by
 rw [rX]
 by_cases h:1048576<(s.size:Int)
 ·simp -implicitDefEqProofs only [ay,aht,ahu,ahv,h]
 have hz:s.size≤1048576:=by omega
 have h40:=NP s
 cases hk:okC s<;>simp -implicitDefEqProofs only [ay,aht,ahu,ahv,h,BW s hz,Bx s hz (by omega),t0V,t1V,ahk,ahg,yL,hk,beq_self_eq_true]
theorem Pj (s:ByteArray):eF [T s]=some (.ret [B true] []):=by
 rw [ug]
 by_cases h:1048576<(s.size:Int)
 ·simp -implicitDefEqProofs only [ay,aht,ahu,ahv,h]
 have hz:s.size≤1048576:=by omega
 have hl:=OL s
 have e1:=Gt s hz
 have e2:=HO s hz
 have hq:¬(1:Int)+2*((wR s).s.length:Int)<0:=by omega
 generalize (wR s).s=l at *
 have e3:=NF l (by omega)
 have e4:=JM l 1 (by omega) (by decide) (by decide)
 have e5:=IA 1 l.length (by omega) (by decide) (by decide)
 generalize zp 1 l.length=ml at *
 cases hk:okC s<;>simp -implicitDefEqProofs only [ay,aht,ahu,ahv,h,e1,e2,e3,e4,e5,ahp,afv,afz,yL,hk,beq_self_eq_true,hq]
theorem Ll (s:ByteArray):ep [T s]=some (.ret [B true] []):=by
 rw [sy]
 by_cases h:1048576<(s.size:Int)
 ·simp -implicitDefEqProofs only [ay,aht,ahu,ahv,h]
 have hz:s.size≤1048576:=by omega
 have hl:(if okC s=true then vf (aU s) (aU s).length else []).length≤40:=by
  split
  ·rename_i hk
   have:=(wP (aU s) (aU s).length).2.2.2
   unfold okC at hk
   simp only [ahK,decide_eq_true_eq] at hk
   omega
  ·exact ahJ _
 have e1:=EH s hz
 have e2:=EP s hz
 generalize (if okC s=true then vf (aU s) (aU s).length else [])=l at *
 have hq:¬(1:Int)+(l.length:Int)<0:=by omega
 have e3:=QL l (by omega)
 have e4:=LR l 1 (by omega) (by decide) (by decide)
 have e5:=Md 1 l.length (by omega) (by decide) (by decide)
 generalize yC 1 l.length=ml at *
 cases hk:okC s<;>simp -implicitDefEqProofs only [ay,aht,ahu,ahv,h,e1,e2,e3,e4,e5,ahf,t1V,afv,afz,yL,hk,beq_self_eq_true,hq]
end Go.Proofs.YtjafgdefcggjcaaGreatDoor

end
