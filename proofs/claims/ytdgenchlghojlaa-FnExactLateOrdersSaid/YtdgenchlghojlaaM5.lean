/-
  Contexts and contracts of functions, printed by gen.py.
-/
import Derived.Test.YtdgenchlghojlaaRows
import Derived.Test.YtdgenchlghojlaaM4
import Derived.StillTailTactics
import Derived.Maps.AppendAt
import Derived.Lib.Builder
import Derived.Shelf.Sort.Plain
import Derived.Test.YtdgenchlghojlaaProg
namespace Go.Proofs.Ytdgenchlghojlaa
open Go.V
set_option maxRecDepth 100000
@[reducible] def ty4 : TI := { n := 1, zero := [.v (.bool false)], bl := true }
@[reducible] def ty22 : TI := { n := 1, zero := [.arr 4 []], elem := 47, ez := 4, eb := 32 }
@[reducible] def ty23 : TI := { n := 1, zero := [.arr 1 []], elem := 3, ez := 1, eb := 8 }
@[reducible] def ty27 : TI := { n := 1, zero := [.arr 4 []], elem := 45, ez := 4, eb := 32 }
@[reducible] def ty45 : TI := { agg := true, n := 4, zero := [.v (.int .i64 0), .v (.int .i64 0), .v (.int .i64 0), .v (.int .i64 0)], fs := [(0, 3), (1, 3), (2, 3), (3, 3)], eq := [1, 1, 1, 1] }
@[reducible] def ty47 : TI := { agg := true, n := 4, zero := [.v (.int .i64 0), .v (.int .i64 0), .v (.int .i64 0), .v (.int .i64 0)], fs := [(0, 3), (1, 3), (2, 3), (3, 3)], eq := [1, 1, 1, 1] }
/-- loop.example/g01054/laws.szOrderS -/
@[reducible] noncomputable def c_laws_szOrderS : Cx := { K := [.dat 2, .dat 0, .no, .no, .dat 0, .dat 0, .dat 2, .dat 0, .dat 0, .dat 0, .dat 0, .dat 0], T := [(3, ty3), (22, ty22), (47, ty47)], S := [], H := [], res := [.tmp 4], ios := [], G := gl0 }
noncomputable def F_laws_szOrderS : List D → Option Out := denF c_laws_szOrderS Try.f11
@[reducible] noncomputable def S_laws_szOrderS : FS := { pm := [.dat 2, .dat 0], rm := [.dat 0], f := F_laws_szOrderS }
theorem M_laws_szOrderS : Meets gl0 Try.prog 11 S_laws_szOrderS := meets_of (P := Try.prog) (c := c_laws_szOrderS) (fn := Try.f11) (pm := S_laws_szOrderS.pm) (rm := S_laws_szOrderS.rm) (by kernel_rfl) lookNil follows_mixed Try.func11 (by kernel_rfl) (by kernel_rfl) rfl
/-- loop.example/g01054/laws.toOrder -/
@[reducible] noncomputable def c_laws_toOrder : Cx := { K := [.dat 0, .box 4 0 false, .box 4 0 false, .box 4 0 false, .ref 1, .dat 0, .ref 3, .ref 1, .dat 0, .ref 3, .ref 1, .dat 0, .ref 3, .ref 1, .dat 0, .ref 3, .dat 0], T := [(3, ty3), (45, ty45), (47, ty47)], S := [], H := [], res := [.cell 2 45], ios := [], G := gl0 }
noncomputable def F_laws_toOrder : List D → Option Out := denF c_laws_toOrder Try.f37
@[reducible] noncomputable def S_laws_toOrder : FS := { pm := [.dat 0], rm := [.dat 0], f := F_laws_toOrder }
theorem M_laws_toOrder : Meets gl0 Try.prog 37 S_laws_toOrder := meets_of (P := Try.prog) (c := c_laws_toOrder) (fn := Try.f37) (pm := S_laws_toOrder.pm) (rm := S_laws_toOrder.rm) (by kernel_rfl) lookNil follows_mixed Try.func37 (by kernel_rfl) (by kernel_rfl) rfl
/-- loop.example/g01054/laws.toOrderS -/
@[reducible] noncomputable def c_laws_toOrderS : Cx := { K := [.dat 2, .no, .own 4 0 false, .own 4 0 false, .dat 0, .dat 2, .dat 0, .own 4 0 false, .dat 0, .dat 2, .dat 0, .dat 0, .dat 0, .dat 0, .via 3, .dat 0, .dat 2, .dat 0, .dat 2, .dat 0, .dat 0, .ref 3, .own 4 0 false], T := [(3, ty3), (22, ty22), (27, ty27), (45, ty45), (47, ty47)], S := [(37, S_laws_toOrder)], H := [(0, ([0, 3, 4], [3]))], res := [.tmp 2], ios := [], G := gl0 }
noncomputable def F_laws_toOrderS : List D → Option Out := denF c_laws_toOrderS Try.f13
@[reducible] noncomputable def S_laws_toOrderS : FS := { pm := [.dat 2], rm := [.own 4 0 false], f := F_laws_toOrderS }
theorem M_laws_toOrderS : Meets gl0 Try.prog 13 S_laws_toOrderS := meets_of (P := Try.prog) (c := c_laws_toOrderS) (fn := Try.f13) (pm := S_laws_toOrderS.pm) (rm := S_laws_toOrderS.rm) (by kernel_rfl) (lookCons M_laws_toOrder lookNil) follows_mixed Try.func13 (by kernel_rfl) (by kernel_rfl) rfl
/-- loop.example/g01054/laws.toIntS -/
@[reducible] noncomputable def c_laws_toIntS : Cx := { K := [.dat 2, .no, .own 1 0 false, .own 1 0 false, .dat 0, .dat 2, .dat 0, .own 1 0 false, .dat 0, .dat 2, .dat 0, .dat 0, .dat 0, .dat 0, .via 3, .dat 0, .dat 2, .dat 0, .dat 2, .dat 0, .ref 3, .own 1 0 false], T := [(3, ty3), (23, ty23)], S := [], H := [(0, ([0, 3, 4], [3]))], res := [.tmp 2], ios := [], G := gl0 }
noncomputable def F_laws_toIntS : List D → Option Out := denF c_laws_toIntS Try.f14
@[reducible] noncomputable def S_laws_toIntS : FS := { pm := [.dat 2], rm := [.own 1 0 false], f := F_laws_toIntS }
theorem M_laws_toIntS : Meets gl0 Try.prog 14 S_laws_toIntS := meets_of (P := Try.prog) (c := c_laws_toIntS) (fn := Try.f14) (pm := S_laws_toIntS.pm) (rm := S_laws_toIntS.rm) (by kernel_rfl) lookNil follows_mixed Try.func14 (by kernel_rfl) (by kernel_rfl) rfl
/-- loop.example/g01054/spec.l1In -/
@[reducible] noncomputable def c_spec_l1In : Cx := { K := [.dat 0, .dat 0, .dat 0, .no, .no, .no, .dat 0, .dat 0, .dat 0, .dat 0, .dat 0, .dat 0, .dat 0, .dat 0, .dat 0], T := [(3, ty3)], S := [], H := [], res := [.tmp 6], ios := [], G := gl0 }
noncomputable def F_spec_l1In : List D → Option Out := denF c_spec_l1In Try.f63
@[reducible] noncomputable def S_spec_l1In : FS := { pm := [.dat 0, .dat 0, .dat 0], rm := [.dat 0], f := F_spec_l1In }
theorem M_spec_l1In : Meets gl0 Try.prog 63 S_spec_l1In := meets_of (P := Try.prog) (c := c_spec_l1In) (fn := Try.f63) (pm := S_spec_l1In.pm) (rm := S_spec_l1In.rm) (by kernel_rfl) lookNil follows_mixed Try.func63 (by kernel_rfl) (by kernel_rfl) rfl
/-- loop.example/g01054/spec.orOne -/
@[reducible] noncomputable def c_spec_orOne : Cx := { K := [.dat 0, .box 4 0 false, .dat 0, .ref 1, .dat 0, .dat 0, .dat 0, .ref 1, .dat 0, .dat 0, .dat 0, .dat 0, .ref 1, .dat 0, .dat 0, .dat 0, .dat 0, .ref 1, .dat 0, .dat 0, .dat 0], T := [(3, ty3), (45, ty45)], S := [(63, S_spec_l1In)], H := [], res := [.tmp 2], ios := [], G := gl0 }
noncomputable def F_spec_orOne : List D → Option Out := denF c_spec_orOne Try.f68
@[reducible] noncomputable def S_spec_orOne : FS := { pm := [.dat 0], rm := [.dat 0], f := F_spec_orOne }
theorem M_spec_orOne : Meets gl0 Try.prog 68 S_spec_orOne := meets_of (P := Try.prog) (c := c_spec_orOne) (fn := Try.f68) (pm := S_spec_orOne.pm) (rm := S_spec_orOne.rm) (by kernel_rfl) (lookCons M_spec_l1In lookNil) follows_mixed Try.func68 (by kernel_rfl) (by kernel_rfl) rfl
/-- loop.example/g01054/spec.orGood -/
@[reducible] noncomputable def c_spec_orGood : Cx := { K := [.dat 2, .no, .dat 0, .dat 0, .box 4 0 false, .dat 2, .dat 0, .dat 0, .dat 0, .dat 0, .dat 2, .dat 0, .dat 0, .dat 0, .dat 0, .dat 0, .dat 0, .dat 0, .dat 0, .dat 2, .dat 0, .dat 0, .dat 2, .dat 2, .dat 0, .ref 4, .dat 0, .dat 0, .dat 0, .dat 0, .dat 0, .dat 2, .dat 0, .dat 0], T := [(3, ty3), (27, ty27), (45, ty45)], S := [(68, S_spec_orOne)], H := [(0, ([0, 5, 6, 7], [0]))], res := [.tmp 2], ios := [], G := gl0 }
noncomputable def F_spec_orGood : List D → Option Out := denF c_spec_orGood Try.f48
@[reducible] noncomputable def S_spec_orGood : FS := { pm := [.dat 2], rm := [.dat 0], f := F_spec_orGood }
theorem M_spec_orGood : Meets gl0 Try.prog 48 S_spec_orGood := meets_of (P := Try.prog) (c := c_spec_orGood) (fn := Try.f48) (pm := S_spec_orGood.pm) (rm := S_spec_orGood.rm) (by kernel_rfl) (lookCons M_spec_orOne lookNil) follows_mixed Try.func48 (by kernel_rfl) (by kernel_rfl) rfl
/-- loop.example/g01054/spec.l1Has -/
@[reducible] noncomputable def c_spec_l1Has : Cx := { K := [.dat 2, .dat 0, .no, .no, .dat 0, .no, .dat 0, .dat 2, .dat 0, .dat 0, .dat 0, .dat 2, .dat 0, .dat 0, .dat 0, .dat 0, .dat 0], T := [(3, ty3), (23, ty23)], S := [], H := [(0, ([1, 7, 8, 9], []))], res := [.tmp 4], ios := [], G := gl0 }
noncomputable def F_spec_l1Has : List D → Option Out := denF c_spec_l1Has Try.f64
@[reducible] noncomputable def S_spec_l1Has : FS := { pm := [.dat 2, .dat 0], rm := [.dat 0], f := F_spec_l1Has }
theorem M_spec_l1Has : Meets gl0 Try.prog 64 S_spec_l1Has := meets_of (P := Try.prog) (c := c_spec_l1Has) (fn := Try.f64) (pm := S_spec_l1Has.pm) (rm := S_spec_l1Has.rm) (by kernel_rfl) lookNil follows_mixed Try.func64 (by kernel_rfl) (by kernel_rfl) rfl
/-- loop.example/g01054/spec.orAsked -/
@[reducible] noncomputable def c_spec_orAsked : Cx := { K := [.dat 2, .dat 2, .no, .no, .dat 0, .dat 0, .dat 0, .dat 2, .dat 0, .dat 0, .dat 0, .dat 2, .dat 0, .dat 2, .dat 0, .dat 0, .dat 0, .dat 2, .dat 0, .dat 0, .dat 0, .dat 0, .dat 2, .dat 0, .dat 0, .dat 2, .dat 0, .dat 0, .dat 0, .dat 0, .dat 0, .dat 2, .dat 0, .dat 2, .dat 0, .dat 0, .dat 0, .dat 0], T := [(3, ty3), (23, ty23), (27, ty27), (45, ty45)], S := [(48, S_spec_orGood), (63, S_spec_l1In), (64, S_spec_l1Has)], H := [(0, ([0, 1, 17, 18, 19], []))], res := [.tmp 4], ios := [], G := gl0 }
noncomputable def F_spec_orAsked : List D → Option Out := denF c_spec_orAsked Try.f35
@[reducible] noncomputable def S_spec_orAsked : FS := { pm := [.dat 2, .dat 2], rm := [.dat 0], f := F_spec_orAsked }
theorem M_spec_orAsked : Meets gl0 Try.prog 35 S_spec_orAsked := meets_of (P := Try.prog) (c := c_spec_orAsked) (fn := Try.f35) (pm := S_spec_orAsked.pm) (rm := S_spec_orAsked.rm) (by kernel_rfl) (lookCons M_spec_orGood (lookCons M_spec_l1In (lookCons M_spec_l1Has lookNil))) follows_mixed Try.func35 (by kernel_rfl) (by kernel_rfl) rfl
/-- loop.example/g01054/spec.l1Most -/
@[reducible] noncomputable def c_spec_l1Most : Cx := { K := [.dat 0, .dat 0, .no, .no, .dat 0, .dat 0, .dat 0, .dat 0, .dat 0, .dat 0], T := [(3, ty3)], S := [], H := [], res := [.tmp 4], ios := [], G := gl0 }
noncomputable def F_spec_l1Most : List D → Option Out := denF c_spec_l1Most Try.f65
@[reducible] noncomputable def S_spec_l1Most : FS := { pm := [.dat 0, .dat 0], rm := [.dat 0], f := F_spec_l1Most }
theorem M_spec_l1Most : Meets gl0 Try.prog 65 S_spec_l1Most := meets_of (P := Try.prog) (c := c_spec_l1Most) (fn := Try.f65) (pm := S_spec_l1Most.pm) (rm := S_spec_l1Most.rm) (by kernel_rfl) lookNil follows_mixed Try.func65 (by kernel_rfl) (by kernel_rfl) rfl
/-- loop.example/g01054/spec.orTimes -/
@[reducible] noncomputable def c_spec_orTimes : Cx := { K := [.dat 2, .dat 2, .no, .no, .own 1 0 false, .dat 0, .own 1 0 false, .dat 0, .dat 0, .dat 0, .no, .dat 0, .dat 2, .dat 0, .dat 0, .dat 0, .dat 2, .dat 0, .dat 0, .dat 2, .dat 0, .dat 2, .dat 2, .dat 0, .dat 0, .dat 0, .dat 0, .dat 0, .dat 0, .dat 0, .dat 0, .dat 0, .dat 0, .dat 0, .dat 2, .dat 0, .dat 2, .dat 2, .dat 0, .dat 0, .own 1 0 false, .dat 0, .dat 1, .own 1 0 false, .dat 0, .own 1 0 false, .dat 0], T := [(3, ty3), (23, ty23), (27, ty27), (45, ty45)], S := [(65, S_spec_l1Most)], H := [(0, ([0, 6, 7, 8, 9, 12, 13, 14], [6, 9]))], res := [.tmp 4, .tmp 5], ios := [], G := gl0 }
noncomputable def F_spec_orTimes : List D → Option Out := denF c_spec_orTimes Try.f36
@[reducible] noncomputable def S_spec_orTimes : FS := { pm := [.dat 2, .dat 2], rm := [.own 1 0 false, .dat 0], f := F_spec_orTimes }
theorem M_spec_orTimes : Meets gl0 Try.prog 36 S_spec_orTimes := meets_of (P := Try.prog) (c := c_spec_orTimes) (fn := Try.f36) (pm := S_spec_orTimes.pm) (rm := S_spec_orTimes.rm) (by kernel_rfl) (lookCons M_spec_l1Most lookNil) follows_mixed Try.func36 (by kernel_rfl) (by kernel_rfl) rfl
/-- loop.example/g01054/spec.FinishTimes -/
@[reducible] noncomputable def c_spec_FinishTimes : Cx := { K := [.dat 2, .dat 2, .no, .no, .own 1 0 false, .dat 0, .own 1 0 false, .dat 0, .dat 2, .dat 2, .dat 0, .dat 0, .tup [.own 1 0 false, .dat 0], .dat 2, .dat 2, .tup [.own 1 0 false, .dat 0], .own 1 0 false, .dat 0, .own 1 0 false], T := [(23, ty23)], S := [(35, S_spec_orAsked), (36, S_spec_orTimes)], H := [], res := [.tmp 4, .tmp 5], ios := [], G := gl0 }
noncomputable def F_spec_FinishTimes : List D → Option Out := denF c_spec_FinishTimes Try.f20
@[reducible] noncomputable def S_spec_FinishTimes : FS := { pm := [.dat 2, .dat 2], rm := [.own 1 0 false, .dat 0], f := F_spec_FinishTimes }
theorem M_spec_FinishTimes : Meets gl0 Try.prog 20 S_spec_FinishTimes := meets_of (P := Try.prog) (c := c_spec_FinishTimes) (fn := Try.f20) (pm := S_spec_FinishTimes.pm) (rm := S_spec_FinishTimes.rm) (by kernel_rfl) (lookCons M_spec_orAsked (lookCons M_spec_orTimes lookNil)) follows_mixed Try.func20 (by kernel_rfl) (by kernel_rfl) rfl
/-- loop.example/g01054/impl.isOrder -/
@[reducible] noncomputable def c_impl_isOrder : Cx := { K := [.dat 0, .box 4 0 false, .dat 0, .ref 1, .dat 0, .dat 0, .dat 0, .ref 1, .dat 0, .dat 0, .dat 0, .dat 0, .ref 1, .dat 0, .dat 0, .dat 0, .dat 0, .ref 1, .dat 0, .dat 0, .dat 0], T := [(3, ty3), (45, ty45)], S := [(76, S_impl_within)], H := [], res := [.tmp 2], ios := [], G := gl0 }
noncomputable def F_impl_isOrder : List D → Option Out := denF c_impl_isOrder Try.f69
@[reducible] noncomputable def S_impl_isOrder : FS := { pm := [.dat 0], rm := [.dat 0], f := F_impl_isOrder }
theorem M_impl_isOrder : Meets gl0 Try.prog 69 S_impl_isOrder := meets_of (P := Try.prog) (c := c_impl_isOrder) (fn := Try.f69) (pm := S_impl_isOrder.pm) (rm := S_impl_isOrder.rm) (by kernel_rfl) (lookCons M_impl_within lookNil) follows_mixed Try.func69 (by kernel_rfl) (by kernel_rfl) rfl
/-- loop.example/g01054/impl.AreOrders -/
@[reducible] noncomputable def c_impl_AreOrders : Cx := { K := [.dat 2, .no, .dat 0, .dat 0, .box 4 0 false, .dat 2, .dat 0, .dat 0, .dat 0, .dat 0, .dat 2, .dat 0, .dat 0, .dat 0, .dat 0, .dat 0, .dat 0, .dat 0, .dat 0, .dat 2, .dat 0, .dat 0, .dat 2, .dat 2, .dat 0, .ref 4, .dat 0, .dat 0, .dat 0, .dat 0, .dat 0, .dat 2, .dat 0, .dat 0], T := [(3, ty3), (27, ty27), (45, ty45)], S := [(69, S_impl_isOrder)], H := [(0, ([0, 5, 6, 7], [0]))], res := [.tmp 2], ios := [], G := gl0 }
noncomputable def F_impl_AreOrders : List D → Option Out := denF c_impl_AreOrders Try.f50
@[reducible] noncomputable def S_impl_AreOrders : FS := { pm := [.dat 2], rm := [.dat 0], f := F_impl_AreOrders }
theorem M_impl_AreOrders : Meets gl0 Try.prog 50 S_impl_AreOrders := meets_of (P := Try.prog) (c := c_impl_AreOrders) (fn := Try.f50) (pm := S_impl_AreOrders.pm) (rm := S_impl_AreOrders.rm) (by kernel_rfl) (lookCons M_impl_isOrder lookNil) follows_mixed Try.func50 (by kernel_rfl) (by kernel_rfl) rfl
/-- loop.example/g01054/impl.isSequence -/
@[reducible] noncomputable def c_impl_isSequence : Cx := { K := [.dat 2, .dat 2, .no, .no, .dat 0, .dat 2, .dat 0, .dat 0, .dat 2, .dat 0, .dat 2, .dat 0, .dat 0, .dat 0, .dat 0, .dat 2, .dat 2, .dat 0, .dat 0, .dat 0], T := [(3, ty3), (23, ty23), (27, ty27), (45, ty45)], S := [(50, S_impl_AreOrders), (66, S_impl_isDifferent)], H := [], res := [.tmp 4], ios := [], G := gl0 }
noncomputable def F_impl_isSequence : List D → Option Out := denF c_impl_isSequence Try.f38
@[reducible] noncomputable def S_impl_isSequence : FS := { pm := [.dat 2, .dat 2], rm := [.dat 0], f := F_impl_isSequence }
theorem M_impl_isSequence : Meets gl0 Try.prog 38 S_impl_isSequence := meets_of (P := Try.prog) (c := c_impl_isSequence) (fn := Try.f38) (pm := S_impl_isSequence.pm) (rm := S_impl_isSequence.rm) (by kernel_rfl) (lookCons M_impl_AreOrders (lookCons M_impl_isDifferent lookNil)) follows_mixed Try.func38 (by kernel_rfl) (by kernel_rfl) rfl
/-- loop.example/g01054/impl.finished -/
@[reducible] noncomputable def c_impl_finished : Cx := { K := [.dat 2, .dat 2, .no, .no, .own 1 0 false, .own 1 0 false, .dat 0, .dat 0, .no, .dat 0, .own 1 0 false, .dat 2, .dat 0, .dat 0, .dat 0, .dat 2, .dat 0, .dat 0, .dat 2, .dat 0, .dat 2, .dat 2, .dat 0, .dat 0, .dat 0, .dat 0, .dat 0, .dat 2, .dat 0, .dat 2, .dat 2, .dat 0, .dat 0, .own 1 0 false, .dat 0, .dat 1, .own 1 0 false, .dat 0, .own 1 0 false], T := [(3, ty3), (23, ty23), (27, ty27), (45, ty45)], S := [], H := [(0, ([0, 5, 6, 7, 11, 12, 13], [5]))], res := [.tmp 4], ios := [], G := gl0 }
noncomputable def F_impl_finished : List D → Option Out := denF c_impl_finished Try.f40
@[reducible] noncomputable def S_impl_finished : FS := { pm := [.dat 2, .dat 2], rm := [.own 1 0 false], f := F_impl_finished }
theorem M_impl_finished : Meets gl0 Try.prog 40 S_impl_finished := meets_of (P := Try.prog) (c := c_impl_finished) (fn := Try.f40) (pm := S_impl_finished.pm) (rm := S_impl_finished.rm) (by kernel_rfl) lookNil follows_mixed Try.func40 (by kernel_rfl) (by kernel_rfl) rfl
/-- loop.example/g01054/impl.FinishTimes -/
@[reducible] noncomputable def c_impl_FinishTimes : Cx := { K := [.dat 2, .dat 2, .no, .no, .own 1 0 false, .dat 0, .dat 2, .dat 2, .dat 0, .dat 0, .own 1 0 false, .dat 2, .dat 2, .own 1 0 false], T := [(3, ty3), (23, ty23)], S := [(38, S_impl_isSequence), (40, S_impl_finished)], H := [], res := [.tmp 4, .tmp 5], ios := [], G := gl0 }
noncomputable def F_impl_FinishTimes : List D → Option Out := denF c_impl_FinishTimes Try.f21
@[reducible] noncomputable def S_impl_FinishTimes : FS := { pm := [.dat 2, .dat 2], rm := [.own 1 0 false, .dat 0], f := F_impl_FinishTimes }
theorem M_impl_FinishTimes : Meets gl0 Try.prog 21 S_impl_FinishTimes := meets_of (P := Try.prog) (c := c_impl_FinishTimes) (fn := Try.f21) (pm := S_impl_FinishTimes.pm) (rm := S_impl_FinishTimes.rm) (by kernel_rfl) (lookCons M_impl_isSequence (lookCons M_impl_finished lookNil)) follows_mixed Try.func21 (by kernel_rfl) (by kernel_rfl) rfl
/-- loop.example/g01054/laws.eqIntS -/
@[reducible] noncomputable def c_laws_eqIntS : Cx := { K := [.dat 2, .dat 2, .no, .no, .dat 0, .dat 0, .dat 2, .dat 0, .dat 2, .dat 0, .dat 0, .dat 0, .dat 2, .dat 0, .dat 0, .dat 0, .dat 0, .dat 2, .dat 0, .dat 2, .dat 0, .dat 2, .dat 0, .dat 2, .dat 0, .dat 0], T := [(3, ty3), (23, ty23)], S := [], H := [(0, ([0, 1, 5], []))], res := [.tmp 4], ios := [], G := gl0 }
noncomputable def F_laws_eqIntS : List D → Option Out := denF c_laws_eqIntS Try.f17
@[reducible] noncomputable def S_laws_eqIntS : FS := { pm := [.dat 2, .dat 2], rm := [.dat 0], f := F_laws_eqIntS }
theorem M_laws_eqIntS : Meets gl0 Try.prog 17 S_laws_eqIntS := meets_of (P := Try.prog) (c := c_laws_eqIntS) (fn := Try.f17) (pm := S_laws_eqIntS.pm) (rm := S_laws_eqIntS.rm) (by kernel_rfl) lookNil follows_mixed Try.func17 (by kernel_rfl) (by kernel_rfl) rfl
/-- loop.example/g01054/laws.eqOrder -/
@[reducible] noncomputable def c_laws_eqOrder : Cx := { K := [.dat 0, .dat 0, .box 4 0 false, .box 4 0 false, .dat 0, .ref 2, .dat 0, .ref 3, .dat 0, .dat 0, .ref 2, .dat 0, .ref 3, .dat 0, .dat 0, .ref 2, .dat 0, .ref 3, .dat 0, .dat 0, .ref 2, .dat 0, .ref 3, .dat 0, .dat 0], T := [(3, ty3), (45, ty45)], S := [], H := [], res := [.tmp 4], ios := [], G := gl0 }
noncomputable def F_laws_eqOrder : List D → Option Out := denF c_laws_eqOrder Try.f41
@[reducible] noncomputable def S_laws_eqOrder : FS := { pm := [.dat 0, .dat 0], rm := [.dat 0], f := F_laws_eqOrder }
theorem M_laws_eqOrder : Meets gl0 Try.prog 41 S_laws_eqOrder := meets_of (P := Try.prog) (c := c_laws_eqOrder) (fn := Try.f41) (pm := S_laws_eqOrder.pm) (rm := S_laws_eqOrder.rm) (by kernel_rfl) lookNil follows_mixed Try.func41 (by kernel_rfl) (by kernel_rfl) rfl
/-- loop.example/g01054/laws.eqOrderS -/
@[reducible] noncomputable def c_laws_eqOrderS : Cx := { K := [.dat 2, .dat 2, .no, .no, .dat 0, .dat 0, .dat 2, .dat 0, .dat 2, .dat 0, .dat 0, .dat 0, .dat 2, .dat 0, .dat 0, .dat 0, .dat 0, .dat 2, .dat 0, .dat 2, .dat 0, .dat 2, .dat 0, .dat 2, .dat 0, .dat 0, .dat 0], T := [(3, ty3), (27, ty27), (45, ty45)], S := [(41, S_laws_eqOrder)], H := [(0, ([0, 1, 5], []))], res := [.tmp 4], ios := [], G := gl0 }
noncomputable def F_laws_eqOrderS : List D → Option Out := denF c_laws_eqOrderS Try.f16
@[reducible] noncomputable def S_laws_eqOrderS : FS := { pm := [.dat 2, .dat 2], rm := [.dat 0], f := F_laws_eqOrderS }
theorem M_laws_eqOrderS : Meets gl0 Try.prog 16 S_laws_eqOrderS := meets_of (P := Try.prog) (c := c_laws_eqOrderS) (fn := Try.f16) (pm := S_laws_eqOrderS.pm) (rm := S_laws_eqOrderS.rm) (by kernel_rfl) (lookCons M_laws_eqOrder lookNil) follows_mixed Try.func16 (by kernel_rfl) (by kernel_rfl) rfl
/-- loop.example/g01054/laws.markOrderS -/
@[reducible] noncomputable def c_laws_markOrderS : Cx := { K := [.own 4 0 true, .dat 0, .no, .no, .dat 0, .dat 0, .dat 0, .via 0, .dat 0, .dat 0, .dat 0, .dat 0, .via 0, .dat 0, .dat 0, .ref 0, .ref 0, .dat 0, .dat 0, .via 0, .dat 0, .dat 0, .ref 0, .ref 0, .dat 0, .dat 0, .via 0, .dat 0, .dat 0, .ref 0, .ref 0, .dat 0, .dat 0, .via 0, .dat 0, .dat 0, .ref 0, .ref 0, .dat 0, .dat 0, .dat 0], T := [(3, ty3), (27, ty27), (45, ty45)], S := [], H := [(0, ([0, 1, 5], [0, 1]))], res := [.tmp 4], ios := [0], G := gl0 }
noncomputable def F_laws_markOrderS : List D → Option Out := denF c_laws_markOrderS Try.f22
@[reducible] noncomputable def S_laws_markOrderS : FS := { pm := [.own 4 0 true, .dat 0], rm := [.dat 0], f := F_laws_markOrderS }
theorem M_laws_markOrderS : Meets gl0 Try.prog 22 S_laws_markOrderS := meets_of (P := Try.prog) (c := c_laws_markOrderS) (fn := Try.f22) (pm := S_laws_markOrderS.pm) (rm := S_laws_markOrderS.rm) (by kernel_rfl) lookNil follows_mixed Try.func22 (by kernel_rfl) (by kernel_rfl) rfl
/-- loop.example/g01054/laws.markIntS -/
@[reducible] noncomputable def c_laws_markIntS : Cx := { K := [.own 1 0 true, .dat 0, .no, .no, .dat 0, .dat 0, .dat 0, .via 0, .dat 0, .dat 0, .dat 0, .dat 0, .via 0, .dat 0, .dat 0, .ref 0, .dat 0, .dat 0, .dat 0], T := [(3, ty3), (23, ty23)], S := [], H := [(0, ([0, 1, 5], [0, 1]))], res := [.tmp 4], ios := [0], G := gl0 }
noncomputable def F_laws_markIntS : List D → Option Out := denF c_laws_markIntS Try.f23
@[reducible] noncomputable def S_laws_markIntS : FS := { pm := [.own 1 0 true, .dat 0], rm := [.dat 0], f := F_laws_markIntS }
theorem M_laws_markIntS : Meets gl0 Try.prog 23 S_laws_markIntS := meets_of (P := Try.prog) (c := c_laws_markIntS) (fn := Try.f23) (pm := S_laws_markIntS.pm) (rm := S_laws_markIntS.rm) (by kernel_rfl) lookNil follows_mixed Try.func23 (by kernel_rfl) (by kernel_rfl) rfl
/-- loop.example/g01054/laws.heldIntS -/
@[reducible] noncomputable def c_laws_heldIntS : Cx := { K := [.dat 2, .dat 0, .no, .no, .dat 0, .dat 0, .dat 0, .dat 2, .dat 0, .dat 0, .dat 0, .dat 0, .dat 2, .dat 0, .dat 2, .dat 0, .dat 0, .dat 0, .dat 0, .dat 0, .dat 0], T := [(3, ty3), (23, ty23)], S := [], H := [(0, ([0, 1, 5], [1]))], res := [.tmp 4], ios := [], G := gl0 }
noncomputable def F_laws_heldIntS : List D → Option Out := denF c_laws_heldIntS Try.f24
@[reducible] noncomputable def S_laws_heldIntS : FS := { pm := [.dat 2, .dat 0], rm := [.dat 0], f := F_laws_heldIntS }
theorem M_laws_heldIntS : Meets gl0 Try.prog 24 S_laws_heldIntS := meets_of (P := Try.prog) (c := c_laws_heldIntS) (fn := Try.f24) (pm := S_laws_heldIntS.pm) (rm := S_laws_heldIntS.rm) (by kernel_rfl) lookNil follows_mixed Try.func24 (by kernel_rfl) (by kernel_rfl) rfl
/-- loop.example/g01054/laws.FnExactFinishTimes -/
@[reducible] noncomputable def c_laws_FnExactFinishTimes : Cx := { K := [.dat 2, .dat 2, .no, .no, .dat 0, .dat 0, .dat 1, .dat 0, .via 34, .via 36, .via 41, .dat 0, .dat 0, .dat 0, .dat 0, .dat 1, .dat 0, .dat 2, .dat 0, .dat 0, .dat 2, .dat 0, .dat 0, .dat 0, .dat 0, .tup [.own 1 0 false, .dat 0], .dat 2, .dat 1, .dat 2, .dat 1, .tup [.own 1 0 false, .dat 0], .dat 1, .dat 0, .dat 2, .own 4 0 false, .dat 2, .own 1 0 false, .tup [.own 1 0 false, .dat 0], .via 34, .via 36, .tup [.own 1 0 false, .dat 0], .own 1 0 false, .dat 0, .via 41, .dat 1, .dat 0, .dat 0, .dat 0, .dat 0, .dat 0, .dat 0, .dat 0, .via 34, .dat 2, .dat 1, .dat 0, .dat 0, .via 36, .dat 2, .dat 1, .dat 0, .dat 0, .via 34, .dat 0, .dat 0, .via 36, .dat 0, .dat 0, .dat 0, .dat 0, .dat 0, .via 41, .dat 1, .dat 0, .dat 0, .dat 0, .dat 0, .dat 0, .dat 0, .dat 0, .dat 0, .via 41, .dat 0, .dat 0, .via 41, .dat 0, .dat 0, .dat 0, .dat 0, .dat 0, .dat 0, .dat 0, .tup [.own 1 0 false, .dat 0], .dat 2, .dat 1, .dat 2, .dat 1, .tup [.own 1 0 false, .dat 0], .dat 1, .dat 0, .dat 1, .dat 1, .dat 0, .dat 0, .dat 0, .dat 0, .dat 0, .dat 0, .dat 0, .via 41, .dat 0, .dat 0, .dat 0, .dat 0, .dat 0, .dat 0, .dat 0], T := [(3, ty3), (4, ty4), (23, ty23)], S := [(11, S_laws_szOrderS), (13, S_laws_toOrderS), (14, S_laws_toIntS), (16, S_laws_eqOrderS), (17, S_laws_eqIntS), (20, S_spec_FinishTimes), (21, S_impl_FinishTimes), (22, S_laws_markOrderS), (23, S_laws_markIntS), (24, S_laws_heldIntS)], H := [], res := [.tmp 4], ios := [], G := gl0 }
noncomputable def F_laws_FnExactFinishTimes : List D → Option Out := denF c_laws_FnExactFinishTimes Try.f5
@[reducible] noncomputable def S_laws_FnExactFinishTimes : FS := { pm := [.dat 2, .dat 2], rm := [.dat 0], f := F_laws_FnExactFinishTimes }
theorem M_laws_FnExactFinishTimes : Meets gl0 Try.prog 5 S_laws_FnExactFinishTimes := meets_of (P := Try.prog) (c := c_laws_FnExactFinishTimes) (fn := Try.f5) (pm := S_laws_FnExactFinishTimes.pm) (rm := S_laws_FnExactFinishTimes.rm) (by kernel_rfl) (lookCons M_laws_szOrderS (lookCons M_laws_toOrderS (lookCons M_laws_toIntS (lookCons M_laws_eqOrderS (lookCons M_laws_eqIntS (lookCons M_spec_FinishTimes (lookCons M_impl_FinishTimes (lookCons M_laws_markOrderS (lookCons M_laws_markIntS (lookCons M_laws_heldIntS lookNil)))))))))) follows_mixed Try.func5 (by kernel_rfl) (by kernel_rfl) rfl
/-- loop.example/g01054/spec.orLate -/
@[reducible] noncomputable def c_spec_orLate : Cx := { K := [.dat 2, .dat 2, .no, .no, .own 1 0 false, .dat 1, .dat 0, .own 1 0 false, .dat 0, .dat 0, .tup [.own 1 0 false, .dat 0], .dat 2, .dat 2, .tup [.own 1 0 false, .dat 0], .dat 1, .dat 0, .dat 2, .dat 0, .dat 0, .dat 0, .dat 0, .dat 2, .dat 0, .own 1 0 false, .dat 1, .dat 0, .dat 1, .dat 0, .dat 2, .dat 0, .dat 2, .dat 2, .dat 0, .dat 0, .dat 0, .dat 1, .own 1 0 false, .dat 0, .own 1 0 false], T := [(3, ty3), (23, ty23), (27, ty27), (45, ty45)], S := [(36, S_spec_orTimes), (65, S_spec_l1Most)], H := [(0, ([0, 5, 7, 16, 17, 18], [7]))], res := [.tmp 4], ios := [], G := gl0 }
noncomputable def F_spec_orLate : List D → Option Out := denF c_spec_orLate Try.f43
@[reducible] noncomputable def S_spec_orLate : FS := { pm := [.dat 2, .dat 2], rm := [.own 1 0 false], f := F_spec_orLate }
theorem M_spec_orLate : Meets gl0 Try.prog 43 S_spec_orLate := meets_of (P := Try.prog) (c := c_spec_orLate) (fn := Try.f43) (pm := S_spec_orLate.pm) (rm := S_spec_orLate.rm) (by kernel_rfl) (lookCons M_spec_orTimes (lookCons M_spec_l1Most lookNil)) follows_mixed Try.func43 (by kernel_rfl) (by kernel_rfl) rfl
/-- loop.example/g01054/spec.juSum -/
@[reducible] noncomputable def c_spec_juSum : Cx := { K := [.dat 2, .no, .dat 0, .dat 0, .no, .dat 0, .dat 2, .dat 0, .dat 0, .dat 0, .dat 2, .dat 0, .dat 0, .dat 0, .dat 0, .dat 0, .dat 0], T := [(3, ty3), (23, ty23)], S := [], H := [(0, ([3, 6, 7, 8], [3]))], res := [.tmp 2], ios := [], G := gl0 }
noncomputable def F_spec_juSum : List D → Option Out := denF c_spec_juSum Try.f42
@[reducible] noncomputable def S_spec_juSum : FS := { pm := [.dat 2], rm := [.dat 0], f := F_spec_juSum }
theorem M_spec_juSum : Meets gl0 Try.prog 42 S_spec_juSum := meets_of (P := Try.prog) (c := c_spec_juSum) (fn := Try.f42) (pm := S_spec_juSum.pm) (rm := S_spec_juSum.rm) (by kernel_rfl) lookNil follows_mixed Try.func42 (by kernel_rfl) (by kernel_rfl) rfl
/-- loop.example/g01054/spec.TotalLateness -/
@[reducible] noncomputable def c_spec_TotalLateness : Cx := { K := [.dat 2, .dat 2, .no, .no, .dat 0, .dat 0, .dat 2, .dat 2, .dat 0, .dat 0, .dat 2, .dat 2, .dat 1, .dat 0], T := [], S := [(35, S_spec_orAsked), (42, S_spec_juSum), (43, S_spec_orLate)], H := [], res := [.tmp 4, .tmp 5], ios := [], G := gl0 }
noncomputable def F_spec_TotalLateness : List D → Option Out := denF c_spec_TotalLateness Try.f18
@[reducible] noncomputable def S_spec_TotalLateness : FS := { pm := [.dat 2, .dat 2], rm := [.dat 0, .dat 0], f := F_spec_TotalLateness }
theorem M_spec_TotalLateness : Meets gl0 Try.prog 18 S_spec_TotalLateness := meets_of (P := Try.prog) (c := c_spec_TotalLateness) (fn := Try.f18) (pm := S_spec_TotalLateness.pm) (rm := S_spec_TotalLateness.rm) (by kernel_rfl) (lookCons M_spec_orAsked (lookCons M_spec_juSum (lookCons M_spec_orLate lookNil))) follows_mixed Try.func18 (by kernel_rfl) (by kernel_rfl) rfl
/-- loop.example/g01054/impl.lateness -/
@[reducible] noncomputable def c_impl_lateness : Cx := { K := [.dat 2, .dat 2, .no, .no, .own 1 0 false, .own 1 0 false, .dat 0, .dat 0, .own 1 0 false, .dat 2, .dat 2, .dat 1, .dat 0, .dat 0, .dat 0, .dat 0, .dat 1, .dat 0, .own 1 0 false, .dat 0, .dat 2, .dat 2, .dat 0, .dat 2, .dat 0, .dat 2, .dat 2, .dat 0, .dat 0, .dat 0, .dat 1, .own 1 0 false, .dat 0, .own 1 0 false], T := [(3, ty3), (23, ty23), (27, ty27), (45, ty45)], S := [(40, S_impl_finished)], H := [(0, ([0, 1, 5, 11, 12, 13], [5]))], res := [.tmp 4], ios := [], G := gl0 }
noncomputable def F_impl_lateness : List D → Option Out := denF c_impl_lateness Try.f45
@[reducible] noncomputable def S_impl_lateness : FS := { pm := [.dat 2, .dat 2], rm := [.own 1 0 false], f := F_impl_lateness }
theorem M_impl_lateness : Meets gl0 Try.prog 45 S_impl_lateness := meets_of (P := Try.prog) (c := c_impl_lateness) (fn := Try.f45) (pm := S_impl_lateness.pm) (rm := S_impl_lateness.rm) (by kernel_rfl) (lookCons M_impl_finished lookNil) follows_mixed Try.func45 (by kernel_rfl) (by kernel_rfl) rfl
/-- loop.example/g01054/impl.sum -/
@[reducible] noncomputable def c_impl_sum : Cx := { K := [.dat 2, .no, .dat 0, .dat 0, .no, .dat 0, .dat 2, .dat 0, .dat 0, .dat 0, .dat 2, .dat 0, .dat 0, .dat 0, .dat 0, .dat 0, .dat 0], T := [(3, ty3), (23, ty23)], S := [], H := [(0, ([3, 6, 7, 8], [3]))], res := [.tmp 2], ios := [], G := gl0 }
noncomputable def F_impl_sum : List D → Option Out := denF c_impl_sum Try.f44
@[reducible] noncomputable def S_impl_sum : FS := { pm := [.dat 2], rm := [.dat 0], f := F_impl_sum }
theorem M_impl_sum : Meets gl0 Try.prog 44 S_impl_sum := meets_of (P := Try.prog) (c := c_impl_sum) (fn := Try.f44) (pm := S_impl_sum.pm) (rm := S_impl_sum.rm) (by kernel_rfl) lookNil follows_mixed Try.func44 (by kernel_rfl) (by kernel_rfl) rfl
/-- loop.example/g01054/impl.TotalLateness -/
@[reducible] noncomputable def c_impl_TotalLateness : Cx := { K := [.dat 2, .dat 2, .no, .no, .dat 0, .dat 0, .dat 2, .dat 2, .dat 0, .dat 0, .dat 2, .dat 2, .dat 1, .dat 0], T := [], S := [(38, S_impl_isSequence), (44, S_impl_sum), (45, S_impl_lateness)], H := [], res := [.tmp 4, .tmp 5], ios := [], G := gl0 }
noncomputable def F_impl_TotalLateness : List D → Option Out := denF c_impl_TotalLateness Try.f19
@[reducible] noncomputable def S_impl_TotalLateness : FS := { pm := [.dat 2, .dat 2], rm := [.dat 0, .dat 0], f := F_impl_TotalLateness }
theorem M_impl_TotalLateness : Meets gl0 Try.prog 19 S_impl_TotalLateness := meets_of (P := Try.prog) (c := c_impl_TotalLateness) (fn := Try.f19) (pm := S_impl_TotalLateness.pm) (rm := S_impl_TotalLateness.rm) (by kernel_rfl) (lookCons M_impl_isSequence (lookCons M_impl_sum (lookCons M_impl_lateness lookNil))) follows_mixed Try.func19 (by kernel_rfl) (by kernel_rfl) rfl
/-- loop.example/g01054/laws.FnExactTotalLateness -/
@[reducible] noncomputable def c_laws_FnExactTotalLateness : Cx := { K := [.dat 2, .dat 2, .no, .no, .dat 0, .dat 0, .dat 0, .dat 0, .dat 1, .dat 1, .dat 0, .dat 0, .dat 2, .dat 0, .dat 0, .dat 2, .dat 0, .dat 0, .dat 0, .dat 0, .tup [.dat 0, .dat 0], .dat 2, .dat 1, .dat 2, .dat 1, .tup [.dat 0, .dat 0], .dat 0, .dat 0, .dat 2, .dat 1, .dat 2, .dat 1, .tup [.dat 0, .dat 0], .dat 1, .dat 1, .tup [.dat 0, .dat 0], .dat 0, .dat 0, .dat 0, .dat 0, .dat 0, .dat 0, .dat 0, .dat 0, .dat 0, .dat 0, .dat 1, .dat 2, .dat 1, .dat 0, .dat 0, .dat 1, .dat 2, .dat 1, .dat 0, .dat 0], T := [(3, ty3), (4, ty4), (23, ty23)], S := [(11, S_laws_szOrderS), (13, S_laws_toOrderS), (14, S_laws_toIntS), (16, S_laws_eqOrderS), (17, S_laws_eqIntS), (18, S_spec_TotalLateness), (19, S_impl_TotalLateness)], H := [], res := [.tmp 4], ios := [], G := gl0 }
noncomputable def F_laws_FnExactTotalLateness : List D → Option Out := denF c_laws_FnExactTotalLateness Try.f4
@[reducible] noncomputable def S_laws_FnExactTotalLateness : FS := { pm := [.dat 2, .dat 2], rm := [.dat 0], f := F_laws_FnExactTotalLateness }
theorem M_laws_FnExactTotalLateness : Meets gl0 Try.prog 4 S_laws_FnExactTotalLateness := meets_of (P := Try.prog) (c := c_laws_FnExactTotalLateness) (fn := Try.f4) (pm := S_laws_FnExactTotalLateness.pm) (rm := S_laws_FnExactTotalLateness.rm) (by kernel_rfl) (lookCons M_laws_szOrderS (lookCons M_laws_toOrderS (lookCons M_laws_toIntS (lookCons M_laws_eqOrderS (lookCons M_laws_eqIntS (lookCons M_spec_TotalLateness (lookCons M_impl_TotalLateness lookNil))))))) follows_mixed Try.func4 (by kernel_rfl) (by kernel_rfl) rfl
/-- loop.example/g01054/spec.IdlePress -/
@[reducible] noncomputable def c_spec_IdlePress : Cx := { K := [.dat 2, .dat 2, .no, .no, .dat 0, .dat 0, .dat 1, .dat 0, .dat 2, .dat 2, .dat 0, .dat 0, .tup [.own 1 0 false, .dat 0], .dat 2, .dat 2, .tup [.own 1 0 false, .dat 0], .dat 1, .dat 0, .dat 0], T := [], S := [(35, S_spec_orAsked), (36, S_spec_orTimes)], H := [], res := [.tmp 4, .tmp 5], ios := [], G := gl0 }
noncomputable def F_spec_IdlePress : List D → Option Out := denF c_spec_IdlePress Try.f12
@[reducible] noncomputable def S_spec_IdlePress : FS := { pm := [.dat 2, .dat 2], rm := [.dat 0, .dat 0], f := F_spec_IdlePress }
theorem M_spec_IdlePress : Meets gl0 Try.prog 12 S_spec_IdlePress := meets_of (P := Try.prog) (c := c_spec_IdlePress) (fn := Try.f12) (pm := S_spec_IdlePress.pm) (rm := S_spec_IdlePress.rm) (by kernel_rfl) (lookCons M_spec_orAsked (lookCons M_spec_orTimes lookNil)) follows_mixed Try.func12 (by kernel_rfl) (by kernel_rfl) rfl
/-- loop.example/g01054/impl.greatest -/
@[reducible] noncomputable def c_impl_greatest : Cx := { K := [.dat 2, .no, .dat 0, .dat 0, .no, .dat 0, .dat 2, .dat 0, .dat 0, .dat 0, .dat 2, .dat 0, .dat 0, .dat 0, .dat 0, .dat 0, .dat 0], T := [(3, ty3), (23, ty23)], S := [], H := [(0, ([3, 6, 7, 8], [3]))], res := [.tmp 2], ios := [], G := gl0 }
noncomputable def F_impl_greatest : List D → Option Out := denF c_impl_greatest Try.f39
@[reducible] noncomputable def S_impl_greatest : FS := { pm := [.dat 2], rm := [.dat 0], f := F_impl_greatest }
theorem M_impl_greatest : Meets gl0 Try.prog 39 S_impl_greatest := meets_of (P := Try.prog) (c := c_impl_greatest) (fn := Try.f39) (pm := S_impl_greatest.pm) (rm := S_impl_greatest.rm) (by kernel_rfl) lookNil follows_mixed Try.func39 (by kernel_rfl) (by kernel_rfl) rfl
/-- loop.example/g01054/impl.IdlePress -/
@[reducible] noncomputable def c_impl_IdlePress : Cx := { K := [.dat 2, .dat 2, .no, .no, .dat 0, .dat 0, .dat 0, .no, .box 4 0 false, .dat 2, .dat 2, .dat 0, .dat 0, .dat 2, .dat 2, .dat 1, .dat 0, .dat 2, .dat 0, .dat 0, .dat 0, .dat 2, .dat 0, .dat 0, .ref 8, .dat 0, .dat 0, .dat 0, .dat 0], T := [(3, ty3), (27, ty27), (45, ty45)], S := [(38, S_impl_isSequence), (39, S_impl_greatest), (40, S_impl_finished)], H := [(0, ([6, 17, 18, 19], [6]))], res := [.tmp 4, .tmp 5], ios := [], G := gl0 }
noncomputable def F_impl_IdlePress : List D → Option Out := denF c_impl_IdlePress Try.f15
@[reducible] noncomputable def S_impl_IdlePress : FS := { pm := [.dat 2, .dat 2], rm := [.dat 0, .dat 0], f := F_impl_IdlePress }
theorem M_impl_IdlePress : Meets gl0 Try.prog 15 S_impl_IdlePress := meets_of (P := Try.prog) (c := c_impl_IdlePress) (fn := Try.f15) (pm := S_impl_IdlePress.pm) (rm := S_impl_IdlePress.rm) (by kernel_rfl) (lookCons M_impl_isSequence (lookCons M_impl_greatest (lookCons M_impl_finished lookNil))) follows_mixed Try.func15 (by kernel_rfl) (by kernel_rfl) rfl
/-- loop.example/g01054/laws.FnExactIdlePress -/
@[reducible] noncomputable def c_laws_FnExactIdlePress : Cx := { K := [.dat 2, .dat 2, .no, .no, .dat 0, .dat 0, .dat 0, .dat 0, .dat 1, .dat 1, .dat 0, .dat 0, .dat 2, .dat 0, .dat 0, .dat 2, .dat 0, .dat 0, .dat 0, .dat 0, .tup [.dat 0, .dat 0], .dat 2, .dat 1, .dat 2, .dat 1, .tup [.dat 0, .dat 0], .dat 0, .dat 0, .dat 2, .dat 1, .dat 2, .dat 1, .tup [.dat 0, .dat 0], .dat 1, .dat 1, .tup [.dat 0, .dat 0], .dat 0, .dat 0, .dat 0, .dat 0, .dat 0, .dat 0, .dat 0, .dat 0, .dat 0, .dat 0, .dat 1, .dat 2, .dat 1, .dat 0, .dat 0, .dat 1, .dat 2, .dat 1, .dat 0, .dat 0], T := [(3, ty3), (4, ty4), (23, ty23)], S := [(11, S_laws_szOrderS), (12, S_spec_IdlePress), (13, S_laws_toOrderS), (14, S_laws_toIntS), (15, S_impl_IdlePress), (16, S_laws_eqOrderS), (17, S_laws_eqIntS)], H := [], res := [.tmp 4], ios := [], G := gl0 }
noncomputable def F_laws_FnExactIdlePress : List D → Option Out := denF c_laws_FnExactIdlePress Try.f3
@[reducible] noncomputable def S_laws_FnExactIdlePress : FS := { pm := [.dat 2, .dat 2], rm := [.dat 0], f := F_laws_FnExactIdlePress }
theorem M_laws_FnExactIdlePress : Meets gl0 Try.prog 3 S_laws_FnExactIdlePress := meets_of (P := Try.prog) (c := c_laws_FnExactIdlePress) (fn := Try.f3) (pm := S_laws_FnExactIdlePress.pm) (rm := S_laws_FnExactIdlePress.rm) (by kernel_rfl) (lookCons M_laws_szOrderS (lookCons M_spec_IdlePress (lookCons M_laws_toOrderS (lookCons M_laws_toIntS (lookCons M_impl_IdlePress (lookCons M_laws_eqOrderS (lookCons M_laws_eqIntS lookNil))))))) follows_mixed Try.func3 (by kernel_rfl) (by kernel_rfl) rfl
end Go.Proofs.Ytdgenchlghojlaa
/-
  What the functions compute: their evaluated texts, printed.
-/
namespace Go.Proofs.Ytdgenchlghojlaa
open Go Go.V
theorem t_laws_szOrderS (x0 x1 : D) : F_laws_szOrderS [x0, x1] =
  ((lenD false x0).bind fun z => (bin BinOp.sub false [] x1 z).bind fun z => (bin BinOp.lss false [] z (D.v (Value.int IntKind.i64 0))).bind fun z_1 =>
 ifD z_1 (some (Out.ret [D.v (Value.int IntKind.i64 (-1))] [])) (some (Out.ret [z] []))) := by kernel_rfl
theorem t_laws_toOrder (x0 : D) : F_laws_toOrder [x0] =
  ((boxD 4 x0).bind fun y => (liveD y (D.ref 0 0)).bind fun z => ((atD y z).bind (takeD false 1)).bind fun z => (liveD (D.agg [D.v (Value.int IntKind.i64 0), D.v (Value.int IntKind.i64 0), D.v (Value.int IntKind.i64 0),
 D.v (Value.int IntKind.i64 0)]) (D.ref 0 0)).bind fun z_1 => (stD 1 (D.agg [D.v (Value.int IntKind.i64 0), D.v (Value.int IntKind.i64 0), D.v (Value.int IntKind.i64 0), D.v (Value.int IntKind.i64 0)]) z_1 z).bind fun b =>
 (liveD y (D.ref 0 1)).bind fun z => ((atD y z).bind (takeD false 1)).bind fun z => (liveD b (D.ref 0 1)).bind fun z_2 => (stD 1 b z_2 z).bind fun b => (liveD y (D.ref 0 2)).bind fun z =>
 ((atD y z).bind (takeD false 1)).bind fun z => (liveD b (D.ref 0 2)).bind fun z_3 => (stD 1 b z_3 z).bind fun b => (liveD y (D.ref 0 3)).bind fun z => ((atD y z).bind (takeD false 1)).bind fun z =>
 (liveD b (D.ref 0 3)).bind fun z_4 => (stD 1 b z_4 z).bind fun b => (fldD true 4 0 b).bind fun z => (stD 4 (D.agg [D.v (Value.int IntKind.i64 0), D.v (Value.int IntKind.i64 0),
 D.v (Value.int IntKind.i64 0), D.v (Value.int IntKind.i64 0)]) (D.ref 0 0) z).bind fun b => (fldD true 4 0 b).bind fun y => some (Out.ret [y] [])) := by kernel_rfl
theorem t_laws_toOrderS (x0 : D) : F_laws_toOrderS [x0] =
  ((lenD false x0).bind fun z => (makD 4 32 (D.agg [D.v (Value.int IntKind.i64 0), D.v (Value.int IntKind.i64 0), D.v (Value.int IntKind.i64 0), D.v (Value.int IntKind.i64 0)]) z z).bind fun y => (loopC (fun s =>
 (lenD false (sl s 0)).bind fun z => (bin BinOp.lss false [] (sl s 2) z).bind fun z => ifD z ((liveD (sl s 1) (D.ref 0 0)).bind fun z => (Option.map D.ptr (elemD 4 (sl s 0) (sl s 2))).bind fun z_1 =>
 ((ldD true 4 z_1).bind chkV).bind fun z_2 => callK (F_laws_toOrder [z_2]) fun rs _u => ((liveD z (sl s 1)).bind fun b => refI 4 b (sl s 2)).bind fun z => (stD 4 (sl s 1) z (sl rs 0)).bind fun b =>
 (bin BinOp.add false [] (sl s 2) (D.v (Value.int IntKind.i64 1))).bind fun z => some (Out.nrm [sl s 0, b, z])) (some (Out.ext 0 [sl s 1]))) [x0, y, D.v (Value.int IntKind.i64 0)]).bind
 fun o => outK o (fun i s => ifN (i.beq 0) (some (Out.ret [sl s 0] [])) none) fun a b => some (Out.ret a b)) := by kernel_rfl
theorem t_laws_toIntS (x0 : D) : F_laws_toIntS [x0] =
  ((lenD false x0).bind fun z => (makD 1 8 (D.v (Value.int IntKind.i64 0)) z z).bind fun y => (loopC (fun s => (lenD false (sl s 0)).bind fun z => (bin BinOp.lss false [] (sl s 2) z).bind fun z => ifD z
 ((liveD (sl s 1) (D.ref 0 0)).bind fun z => (Option.map D.ptr (elemD 1 (sl s 0) (sl s 2))).bind fun z_1 => ((ldD false 1 z_1).bind chkV).bind fun z_2 => ((liveD z (sl s 1)).bind fun b => refI 1 b (sl s 2)).bind fun z =>
 (stD 1 (sl s 1) z z_2).bind fun b => (bin BinOp.add false [] (sl s 2) (D.v (Value.int IntKind.i64 1))).bind fun z => some (Out.nrm [sl s 0, b, z])) (some (Out.ext 0 [sl s 1]))) [x0, y, D.v (Value.int IntKind.i64 0)]).bind
 fun o => outK o (fun i s => ifN (i.beq 0) (some (Out.ret [sl s 0] [])) none) fun a b => some (Out.ret a b)) := by kernel_rfl
theorem t_spec_l1In (x0 x1 x2 : D) : F_spec_l1In [x0, x1, x2] =
  ((bin BinOp.geq false [] x0 x1).bind fun z => (gate (D.tup []) z true (some x0)).bind fun z_1 => (gate (D.tup []) z true (some x2)).bind fun z_2 => (gate (D.tup []) z true (bin BinOp.leq false [] z_1 z_2)).bind fun z_3 =>
 (pickD z z_3 (D.v (Value.bool false))).bind fun z => some (Out.ret [z] [])) := by kernel_rfl
theorem t_spec_orOne (x0 : D) : F_spec_orOne [x0] =
  ((boxD 4 x0).bind fun y => (liveD y (D.ref 0 0)).bind fun z => ((atD y z).bind (takeD false 1)).bind fun z => callK (F_spec_l1In [z, D.v (Value.int IntKind.i64 1), D.v (Value.int IntKind.i64 99)]) fun rs _u =>
 (gate D.bad (sl rs 0) true (liveD y (D.ref 0 1))).bind fun z => (gate (D.tup []) (sl rs 0) true ((atD y z).bind (takeD false 1))).bind fun z => gateC (sl rs 0) true
 (callK (F_spec_l1In [z, D.v (Value.int IntKind.i64 0), D.v (Value.int IntKind.i64 500)]) fun rs _u => some (Out.nrm [sl rs 0])) [D.tup []] fun outs => (pickD (sl rs 0) (sl outs 0) (D.v (Value.bool false))).bind fun z =>
 (gate D.bad z true (liveD y (D.ref 0 2))).bind fun z_1 => (gate (D.tup []) z true ((atD y z_1).bind (takeD false 1))).bind fun z_2 => gateC z true
 (callK (F_spec_l1In [z_2, D.v (Value.int IntKind.i64 0), D.v (Value.int IntKind.i64 500)]) fun rs _u => some (Out.nrm [sl rs 0])) [D.tup []] fun outs => (pickD z (sl outs 0) (D.v (Value.bool false))).bind fun z =>
 (gate D.bad z true (liveD y (D.ref 0 3))).bind fun z_3 => (gate (D.tup []) z true ((atD y z_3).bind (takeD false 1))).bind fun z_4 => gateC z true (callK
 (F_spec_l1In [z_4, D.v (Value.int IntKind.i64 0), D.v (Value.int IntKind.i64 10000)]) fun rs _u => some (Out.nrm [sl rs 0])) [D.tup []] fun outs =>
 (pickD z (sl outs 0) (D.v (Value.bool false))).bind fun z => some (Out.ret [z] [])) := by kernel_rfl
theorem t_spec_orGood (x0 : D) : F_spec_orGood [x0] =
  ((lenD false x0).bind fun z => (loopC (fun s => (bin BinOp.lss false [] (sl s 3) (sl s 2)).bind fun z => ifD z ((Option.map D.ptr (elemD 4 (sl s 1) (sl s 3))).bind fun z => ((ldD true 4 z).bind chkV).bind fun z => (stD 4
 (D.agg [D.v (Value.int IntKind.i64 0), D.v (Value.int IntKind.i64 0), D.v (Value.int IntKind.i64 0), D.v (Value.int IntKind.i64 0)]) (D.ref 0 0) z).bind fun b => (fldD true 4 0 b).bind fun z =>
 callK (F_spec_orOne [z]) fun rs _u => (un UnOp.not (sl rs 0)).bind fun z => (gate (D.tup []) z false (some (sl s 3))).bind fun z_1 => (gate (D.tup []) z false
 (bin BinOp.gtr false [] z_1 (D.v (Value.int IntKind.i64 0)))).bind fun z_2 => (gate (D.tup []) z false (some z_2)).bind fun z_3 => (gate (D.tup []) z_3 true (some (sl s 0))).bind fun z_4 =>
 (gate (D.tup []) z_3 true (some (sl s 3))).bind fun z_5 => (gate (D.tup []) z_3 true (bin BinOp.sub false [] z_5 (D.v (Value.int IntKind.i64 1)))).bind fun z_6 =>
 (gate (D.tup []) z_3 true (Option.map D.ptr (elemD 4 z_4 z_6))).bind fun z_7 => (gate (D.tup []) z_3 true (offD 0 z_7)).bind fun z_8 => (gate (D.tup []) z_3 true ((ldD false 1 z_8).bind chkV)).bind fun z_9 =>
 (gate D.bad z_3 true (liveD b (D.ref 0 0))).bind fun z_10 => (gate (D.tup []) z_3 true ((atD b z_10).bind (takeD false 1))).bind fun z_11 => (gate (D.tup []) z_3 true (bin BinOp.geq false [] z_9 z_11)).bind fun z_12 =>
 (gate (D.tup []) z false (pickD z_3 z_12 (D.v (Value.bool false)))).bind fun z_13 => (pickD z (D.v (Value.bool true)) z_13).bind fun z => ifD z (some (Out.ret [D.v (Value.bool false)] []))
 ((bin BinOp.add false [] (sl s 3) (D.v (Value.int IntKind.i64 1))).bind fun z => some (Out.nrm [sl s 0, sl s 1, sl s 2, z]))) (some (Out.ext 0 [sl s 0]))) [x0, x0, z, D.v (Value.int IntKind.i64 0)]).bind fun o => outK o
 (fun i s => ifN (i.beq 0) ((lenD false (sl s 0)).bind fun z => (bin BinOp.leq false [] z (D.v (Value.int IntKind.i64 8))).bind fun z => some (Out.ret [z] [])) none) fun a b => some (Out.ret a b)) := by kernel_rfl
theorem t_spec_l1Has (x0 x1 : D) : F_spec_l1Has [x0, x1] =
  ((lenD false x0).bind fun z => (loopC (fun s => (bin BinOp.lss false [] (sl s 3) (sl s 2)).bind fun z => ifD z ((Option.map D.ptr (elemD 1 (sl s 1) (sl s 3))).bind fun z => ((ldD false 1 z).bind chkV).bind fun z =>
 (bin BinOp.eql false [] z (sl s 0)).bind fun z => ifD z (some (Out.ret [D.v (Value.bool true)] [])) ((bin BinOp.add false [] (sl s 3) (D.v (Value.int IntKind.i64 1))).bind fun z =>
 some (Out.nrm [sl s 0, sl s 1, sl s 2, z]))) (some (Out.ext 0 []))) [x1, x0, z, D.v (Value.int IntKind.i64 0)]).bind fun o =>
 outK o (fun i _u => ifN (i.beq 0) (some (Out.ret [D.v (Value.bool false)] [])) none) fun a b => some (Out.ret a b)) := by kernel_rfl
theorem t_spec_orAsked (x0 x1 : D) : F_spec_orAsked [x0, x1] =
  (callK (F_spec_orGood [x0]) fun rs _u => (un UnOp.not (sl rs 0)).bind fun z => (gate (D.tup []) z false (some x1)).bind fun z_1 => (gate (D.tup []) z false (lenD false z_1)).bind fun z_2 =>
 (gate (D.tup []) z false (some x0)).bind fun z_3 => (gate (D.tup []) z false (lenD false z_3)).bind fun z_4 => (gate (D.tup []) z false (bin BinOp.neq false [] z_2 z_4)).bind fun z_5 =>
 (pickD z (D.v (Value.bool true)) z_5).bind fun z => ifD z (some (Out.ret [D.v (Value.bool false)] [])) ((lenD false x1).bind fun z => (loopC (fun s => (bin BinOp.lss false [] (sl s 4) (sl s 3)).bind fun z => ifD z
 ((Option.map D.ptr (elemD 1 (sl s 2) (sl s 4))).bind fun z => ((ldD false 1 z).bind chkV).bind fun z => (lenD false (sl s 0)).bind fun z_6 => (bin BinOp.sub false [] z_6 (D.v (Value.int IntKind.i64 1))).bind fun z_7 =>
 callK (F_spec_l1In [z, D.v (Value.int IntKind.i64 0), z_7]) fun rs _u => (un UnOp.not (sl rs 0)).bind fun z_8 => (gate (D.tup []) z_8 false (some (sl s 1))).bind fun z_9 =>
 (gate (D.tup []) z_8 false (some (sl s 4))).bind fun z_10 => (gate (D.tup []) z_8 false (sliceD false 1 z_9 (D.v (Value.int IntKind.i64 0)) z_10)).bind fun z_11 => (gate (D.tup []) z_8 false (some z)).bind fun z =>
 gateC z_8 false (callK (F_spec_l1Has [z_11, z]) fun rs _u => some (Out.nrm [sl rs 0])) [D.tup []] fun outs => (pickD z_8 (D.v (Value.bool true)) (sl outs 0)).bind fun z =>
 ifD z (some (Out.ret [D.v (Value.bool false)] [])) ((bin BinOp.add false [] (sl s 4) (D.v (Value.int IntKind.i64 1))).bind fun z => some (Out.nrm [sl s 0, sl s 1, sl s 2, sl s 3, z]))) (some (Out.ext 0 [])))
 [x0, x1, x1, z, D.v (Value.int IntKind.i64 0)]).bind fun o => outK o (fun i _u => ifN (i.beq 0) (some (Out.ret [D.v (Value.bool true)] [])) none) fun a b => some (Out.ret a b))) := by kernel_rfl
theorem t_spec_l1Most (x0 x1 : D) : F_spec_l1Most [x0, x1] =
  ((bin BinOp.gtr false [] x0 x1).bind fun z => ifD z (some (Out.ret [x0] [])) (some (Out.ret [x1] []))) := by kernel_rfl
theorem t_spec_orTimes (x0 x1 : D) : F_spec_orTimes [x0, x1] =
  ((lenD false x1).bind fun z => (loopC (fun s => (bin BinOp.lss false [] (sl s 7) (sl s 6)).bind fun z => ifD z ((Option.map D.ptr (elemD 1 (sl s 5) (sl s 7))).bind fun z => ((ldD false 1 z).bind chkV).bind fun z =>
 (Option.map D.ptr (elemD 4 (sl s 0) z)).bind fun z_1 => (offD 1 z_1).bind fun z_2 => ((ldD false 1 z_2).bind chkV).bind fun z_3 => (bin BinOp.add false [] (sl s 2) z_3).bind fun z_4 =>
 (bin BinOp.sub false [] z_4 (sl s 3)).bind fun z_5 => callK (F_spec_l1Most [D.v (Value.int IntKind.i64 0), z_5]) fun rs _u => (bin BinOp.add false [] (sl s 4) (sl rs 0)).bind fun z_6 =>
 callK (F_spec_l1Most [sl s 3, z_4]) fun rs _u => (Option.map D.ptr (elemD 4 (sl s 0) z)).bind fun z => (offD 2 z).bind fun z => ((ldD false 1 z).bind chkV).bind fun z => (bin BinOp.add false [] (sl rs 0) z).bind fun z =>
 (mkArr 1 [z]).bind fun a => (chkA a).bind fun b => (appD 1 8 (sl s 1) b).bind fun y => (bin BinOp.add false [] (sl s 7) (D.v (Value.int IntKind.i64 1))).bind fun z_7 =>
 some (Out.nrm [sl s 0, y, z_4, z, z_6, sl s 5, sl s 6, z_7])) (some (Out.ext 0 [sl s 1, sl s 4]))) [x0, D.arr 1 [], D.v (Value.int IntKind.i64 0), D.v (Value.int IntKind.i64 0), D.v (Value.int IntKind.i64 0),
 x1, z, D.v (Value.int IntKind.i64 0)]).bind fun o => outK o (fun i s => ifN (i.beq 0) (some (Out.ret [sl s 0, sl s 1] [])) none) fun a b => some (Out.ret a b)) := by kernel_rfl
theorem t_spec_FinishTimes (x0 x1 : D) : F_spec_FinishTimes [x0, x1] =
  (callK (F_spec_orAsked [x0, x1]) fun rs _u => (un UnOp.not (sl rs 0)).bind fun z => ifD z (some (Out.ret [D.arr 1 [], D.v (Value.bool false)] [])) (callK (F_spec_orTimes [x0, x1]) fun rs _u =>
 (tupAt (D.tup rs) 0).bind fun y => (tupAt (tupCut (D.tup rs) 0) 1).bind fun _u => some (Out.ret [y, D.v (Value.bool true)] []))) := by kernel_rfl
theorem t_impl_isOrder (x0 : D) : F_impl_isOrder [x0] =
  ((boxD 4 x0).bind fun y => (liveD y (D.ref 0 0)).bind fun z => ((atD y z).bind (takeD false 1)).bind fun z => callK (F_impl_within [z, D.v (Value.int IntKind.i64 1), D.v (Value.int IntKind.i64 99)]) fun rs _u =>
 (gate D.bad (sl rs 0) true (liveD y (D.ref 0 1))).bind fun z => (gate (D.tup []) (sl rs 0) true ((atD y z).bind (takeD false 1))).bind fun z => gateC (sl rs 0) true
 (callK (F_impl_within [z, D.v (Value.int IntKind.i64 0), D.v (Value.int IntKind.i64 500)]) fun rs _u => some (Out.nrm [sl rs 0])) [D.tup []] fun outs => (pickD (sl rs 0) (sl outs 0) (D.v (Value.bool false))).bind fun z =>
 (gate D.bad z true (liveD y (D.ref 0 2))).bind fun z_1 => (gate (D.tup []) z true ((atD y z_1).bind (takeD false 1))).bind fun z_2 => gateC z true
 (callK (F_impl_within [z_2, D.v (Value.int IntKind.i64 0), D.v (Value.int IntKind.i64 500)]) fun rs _u => some (Out.nrm [sl rs 0])) [D.tup []] fun outs => (pickD z (sl outs 0) (D.v (Value.bool false))).bind fun z =>
 (gate D.bad z true (liveD y (D.ref 0 3))).bind fun z_3 => (gate (D.tup []) z true ((atD y z_3).bind (takeD false 1))).bind fun z_4 => gateC z true (callK (F_impl_within
 [z_4, D.v (Value.int IntKind.i64 0), D.v (Value.int IntKind.i64 10000)]) fun rs _u => some (Out.nrm [sl rs 0])) [D.tup []] fun outs => (pickD z (sl outs 0) (D.v (Value.bool false))).bind fun z => some (Out.ret [z] [])) := by kernel_rfl
theorem t_impl_AreOrders (x0 : D) : F_impl_AreOrders [x0] =
  ((lenD false x0).bind fun z => (loopC (fun s => (bin BinOp.lss false [] (sl s 3) (sl s 2)).bind fun z => ifD z ((Option.map D.ptr (elemD 4 (sl s 1) (sl s 3))).bind fun z => ((ldD true 4 z).bind chkV).bind fun z => (stD 4
 (D.agg [D.v (Value.int IntKind.i64 0), D.v (Value.int IntKind.i64 0), D.v (Value.int IntKind.i64 0), D.v (Value.int IntKind.i64 0)]) (D.ref 0 0) z).bind fun b => (fldD true 4 0 b).bind fun z =>
 callK (F_impl_isOrder [z]) fun rs _u => (un UnOp.not (sl rs 0)).bind fun z => (gate (D.tup []) z false (some (sl s 3))).bind fun z_1 => (gate (D.tup []) z false
 (bin BinOp.gtr false [] z_1 (D.v (Value.int IntKind.i64 0)))).bind fun z_2 => (gate (D.tup []) z false (some z_2)).bind fun z_3 => (gate (D.tup []) z_3 true (some (sl s 0))).bind fun z_4 =>
 (gate (D.tup []) z_3 true (some (sl s 3))).bind fun z_5 => (gate (D.tup []) z_3 true (bin BinOp.sub false [] z_5 (D.v (Value.int IntKind.i64 1)))).bind fun z_6 =>
 (gate (D.tup []) z_3 true (Option.map D.ptr (elemD 4 z_4 z_6))).bind fun z_7 => (gate (D.tup []) z_3 true (offD 0 z_7)).bind fun z_8 => (gate (D.tup []) z_3 true ((ldD false 1 z_8).bind chkV)).bind fun z_9 =>
 (gate D.bad z_3 true (liveD b (D.ref 0 0))).bind fun z_10 => (gate (D.tup []) z_3 true ((atD b z_10).bind (takeD false 1))).bind fun z_11 => (gate (D.tup []) z_3 true (bin BinOp.geq false [] z_9 z_11)).bind fun z_12 =>
 (gate (D.tup []) z false (pickD z_3 z_12 (D.v (Value.bool false)))).bind fun z_13 => (pickD z (D.v (Value.bool true)) z_13).bind fun z => ifD z (some (Out.ret [D.v (Value.bool false)] []))
 ((bin BinOp.add false [] (sl s 3) (D.v (Value.int IntKind.i64 1))).bind fun z => some (Out.nrm [sl s 0, sl s 1, sl s 2, z]))) (some (Out.ext 0 [sl s 0]))) [x0, x0, z, D.v (Value.int IntKind.i64 0)]).bind fun o => outK o
 (fun i s => ifN (i.beq 0) ((lenD false (sl s 0)).bind fun z => (bin BinOp.leq false [] z (D.v (Value.int IntKind.i64 8))).bind fun z => some (Out.ret [z] [])) none) fun a b => some (Out.ret a b)) := by kernel_rfl
theorem t_impl_isSequence (x0 x1 : D) : F_impl_isSequence [x0, x1] =
  (callK (F_impl_AreOrders [x0]) fun rs _u => (gate (D.tup []) (sl rs 0) true (some x1)).bind fun z => (gate (D.tup []) (sl rs 0) true (lenD false z)).bind fun z => (gate (D.tup []) (sl rs 0) true (some x0)).bind fun z_1 =>
 (gate (D.tup []) (sl rs 0) true (lenD false z_1)).bind fun z_2 => (gate (D.tup []) (sl rs 0) true (bin BinOp.eql false [] z z_2)).bind fun z => (pickD (sl rs 0) z (D.v (Value.bool false))).bind fun z =>
 (gate (D.tup []) z true (some x1)).bind fun z_3 => (gate (D.tup []) z true (some x0)).bind fun z_4 => (gate (D.tup []) z true (lenD false z_4)).bind fun z_5 =>
 gateC z true (callK (fDif [z_3, z_5]) fun rs _u => some (Out.nrm [sl rs 0])) [D.tup []] fun outs => (pickD z (sl outs 0) (D.v (Value.bool false))).bind fun z => some (Out.ret [z] [])) := by kernel_rfl
theorem t_impl_finished (x0 x1 : D) : F_impl_finished [x0, x1] =
  ((mkArr 1 []).bind fun a => (lenD false x1).bind fun z => (loopC (fun s => (bin BinOp.lss false [] (sl s 6) (sl s 5)).bind fun z => ifD z ((Option.map D.ptr (elemD 1 (sl s 4) (sl s 6))).bind fun z =>
 ((ldD false 1 z).bind chkV).bind fun z => (Option.map D.ptr (elemD 4 (sl s 0) z)).bind fun z_1 => (offD 1 z_1).bind fun z_2 => ((ldD false 1 z_2).bind chkV).bind fun z_3 =>
 (bin BinOp.add false [] (sl s 2) z_3).bind fun z_4 => ((maxD (sl s 3) z_4).bind fun z => some z).bind fun z_5 => (Option.map D.ptr (elemD 4 (sl s 0) z)).bind fun z => (offD 2 z).bind fun z =>
 ((ldD false 1 z).bind chkV).bind fun z => (bin BinOp.add false [] z_5 z).bind fun z => (mkArr 1 [z]).bind fun a => (chkA a).bind fun b => (appD 1 8 (sl s 1) b).bind fun y =>
 (bin BinOp.add false [] (sl s 6) (D.v (Value.int IntKind.i64 1))).bind fun z_6 => some (Out.nrm [sl s 0, y, z_4, z, sl s 4, sl s 5, z_6])) (some (Out.ext 0 [sl s 1])))
 [x0, a, D.v (Value.int IntKind.i64 0), D.v (Value.int IntKind.i64 0), x1, z, D.v (Value.int IntKind.i64 0)]).bind fun o => outK o (fun i s => ifN (i.beq 0) (some (Out.ret [sl s 0] [])) none) fun a b => some (Out.ret a b)) := by kernel_rfl
theorem t_impl_FinishTimes (x0 x1 : D) : F_impl_FinishTimes [x0, x1] =
  (callK (F_impl_isSequence [x0, x1]) fun rs _u => (un UnOp.not (sl rs 0)).bind fun z => ifD z ((mkArr 1 []).bind fun a => some (Out.ret [a, D.v (Value.bool false)] []))
 (callK (F_impl_finished [x0, x1]) fun rs _u => some (Out.ret [sl rs 0, D.v (Value.bool true)] []))) := by kernel_rfl
theorem t_laws_eqIntS (x0 x1 : D) : F_laws_eqIntS [x0, x1] =
  ((lenD false x0).bind fun z => (lenD false x1).bind fun z_1 => (bin BinOp.neq false [] z z_1).bind fun z => ifD z (some (Out.ret [D.v (Value.bool false)] [])) ((loopC (fun s => (lenD false (sl s 0)).bind fun z =>
 (bin BinOp.lss false [] (sl s 2) z).bind fun z => ifD z ((Option.map D.ptr (elemD 1 (sl s 0) (sl s 2))).bind fun z => ((ldD false 1 z).bind chkV).bind fun z =>
 (Option.map D.ptr (elemD 1 (sl s 1) (sl s 2))).bind fun z_2 => ((ldD false 1 z_2).bind chkV).bind fun z_3 => (bin BinOp.neq false [] z z_3).bind fun z => ifD z (some (Out.ret [D.v (Value.bool false)] []))
 ((bin BinOp.add false [] (sl s 2) (D.v (Value.int IntKind.i64 1))).bind fun z => some (Out.nrm [sl s 0, sl s 1, z]))) (some (Out.ext 0 []))) [x0, x1, D.v (Value.int IntKind.i64 0)]).bind fun o =>
 outK o (fun i _u => ifN (i.beq 0) (some (Out.ret [D.v (Value.bool true)] [])) none) fun a b => some (Out.ret a b))) := by kernel_rfl
theorem t_laws_eqOrder (x0 x1 : D) : F_laws_eqOrder [x0, x1] =
  ((boxD 4 x0).bind fun y => (boxD 4 x1).bind fun y_1 => (liveD y (D.ref 0 0)).bind fun z => ((atD y z).bind (takeD false 1)).bind fun z => (liveD y_1 (D.ref 0 0)).bind fun z_1 =>
 ((atD y_1 z_1).bind (takeD false 1)).bind fun z_2 => (bin BinOp.neq false [] z z_2).bind fun z => ifD z (some (Out.ret [D.v (Value.bool false)] [])) ((liveD y (D.ref 0 1)).bind fun z =>
 ((atD y z).bind (takeD false 1)).bind fun z => (liveD y_1 (D.ref 0 1)).bind fun z_3 => ((atD y_1 z_3).bind (takeD false 1)).bind fun z_4 => (bin BinOp.neq false [] z z_4).bind fun z =>
 ifD z (some (Out.ret [D.v (Value.bool false)] [])) ((liveD y (D.ref 0 2)).bind fun z => ((atD y z).bind (takeD false 1)).bind fun z => (liveD y_1 (D.ref 0 2)).bind fun z_5 =>
 ((atD y_1 z_5).bind (takeD false 1)).bind fun z_6 => (bin BinOp.neq false [] z z_6).bind fun z => ifD z (some (Out.ret [D.v (Value.bool false)] [])) ((liveD y (D.ref 0 3)).bind fun z =>
 ((atD y z).bind (takeD false 1)).bind fun z => (liveD y_1 (D.ref 0 3)).bind fun z_7 => ((atD y_1 z_7).bind (takeD false 1)).bind fun z_8 => (bin BinOp.neq false [] z z_8).bind fun z =>
 ifD z (some (Out.ret [D.v (Value.bool false)] [])) (some (Out.ret [D.v (Value.bool true)] [])))))) := by kernel_rfl
theorem t_laws_eqOrderS (x0 x1 : D) : F_laws_eqOrderS [x0, x1] =
  ((lenD false x0).bind fun z => (lenD false x1).bind fun z_1 => (bin BinOp.neq false [] z z_1).bind fun z => ifD z (some (Out.ret [D.v (Value.bool false)] [])) ((loopC (fun s => (lenD false (sl s 0)).bind fun z =>
 (bin BinOp.lss false [] (sl s 2) z).bind fun z => ifD z ((Option.map D.ptr (elemD 4 (sl s 0) (sl s 2))).bind fun z => ((ldD true 4 z).bind chkV).bind fun z => (Option.map D.ptr (elemD 4 (sl s 1) (sl s 2))).bind fun z_2 =>
 ((ldD true 4 z_2).bind chkV).bind fun z_3 => callK (F_laws_eqOrder [z, z_3]) fun rs _u => (un UnOp.not (sl rs 0)).bind fun z => ifD z (some (Out.ret [D.v (Value.bool false)] []))
 ((bin BinOp.add false [] (sl s 2) (D.v (Value.int IntKind.i64 1))).bind fun z => some (Out.nrm [sl s 0, sl s 1, z]))) (some (Out.ext 0 []))) [x0, x1, D.v (Value.int IntKind.i64 0)]).bind fun o =>
 outK o (fun i _u => ifN (i.beq 0) (some (Out.ret [D.v (Value.bool true)] [])) none) fun a b => some (Out.ret a b))) := by kernel_rfl
theorem t_laws_markOrderS (x0 x1 : D) : F_laws_markOrderS [x0, x1] =
  ((loopC (fun s => (liveD (sl s 0) (D.ref 0 0)).bind fun z => ((liveD z (sl s 0)).bind (lenD false)).bind fun z => (bin BinOp.lss false [] (sl s 2) z).bind fun z => ifD z ((liveD (sl s 0) (D.ref 0 0)).bind fun z =>
 ((liveD z (sl s 0)).bind fun b => refI 4 b (sl s 2)).bind fun z => (refAdd 0 z).bind fun z => (stD 1 (sl s 0) z (sl s 1)).bind fun b => (bin BinOp.add false [] (sl s 1) (D.v (Value.int IntKind.i64 1))).bind fun z =>
 (liveD b (D.ref 0 0)).bind fun z_1 => ((liveD z_1 b).bind fun b => refI 4 b (sl s 2)).bind fun z_2 => (refAdd 1 z_2).bind fun z_3 => (stD 1 b z_3 z).bind fun b =>
 (bin BinOp.add false [] z (D.v (Value.int IntKind.i64 1))).bind fun z => (liveD b (D.ref 0 0)).bind fun z_4 => ((liveD z_4 b).bind fun b => refI 4 b (sl s 2)).bind fun z_5 => (refAdd 2 z_5).bind fun z_6 =>
 (stD 1 b z_6 z).bind fun b => (bin BinOp.add false [] z (D.v (Value.int IntKind.i64 1))).bind fun z => (liveD b (D.ref 0 0)).bind fun z_7 => ((liveD z_7 b).bind fun b => refI 4 b (sl s 2)).bind fun z_8 =>
 (refAdd 3 z_8).bind fun z_9 => (stD 1 b z_9 z).bind fun b => (bin BinOp.add false [] z (D.v (Value.int IntKind.i64 1))).bind fun z => (bin BinOp.add false [] (sl s 2) (D.v (Value.int IntKind.i64 1))).bind
 fun z_10 => some (Out.nrm [b, z, z_10])) (some (Out.ext 0 [sl s 0, sl s 1]))) [x0, x1, D.v (Value.int IntKind.i64 0)]).bind fun o =>
 outK o (fun i s => ifN (i.beq 0) ((liveD (sl s 0) (sl s 0)).bind fun _u => some (Out.ret [sl s 1] [sl s 0])) none) fun a b => some (Out.ret a b)) := by kernel_rfl
theorem t_laws_markIntS (x0 x1 : D) : F_laws_markIntS [x0, x1] =
  ((loopC (fun s => (liveD (sl s 0) (D.ref 0 0)).bind fun z => ((liveD z (sl s 0)).bind (lenD false)).bind fun z => (bin BinOp.lss false [] (sl s 2) z).bind fun z => ifD z ((liveD (sl s 0) (D.ref 0 0)).bind fun z =>
 ((liveD z (sl s 0)).bind fun b => refI 1 b (sl s 2)).bind fun z => (stD 1 (sl s 0) z (sl s 1)).bind fun b => (bin BinOp.add false [] (sl s 1) (D.v (Value.int IntKind.i64 1))).bind fun z =>
 (bin BinOp.add false [] (sl s 2) (D.v (Value.int IntKind.i64 1))).bind fun z_1 => some (Out.nrm [b, z, z_1])) (some (Out.ext 0 [sl s 0, sl s 1]))) [x0, x1, D.v (Value.int IntKind.i64 0)]).bind fun o =>
 outK o (fun i s => ifN (i.beq 0) ((liveD (sl s 0) (sl s 0)).bind fun _u => some (Out.ret [sl s 1] [sl s 0])) none) fun a b => some (Out.ret a b)) := by kernel_rfl
theorem t_laws_heldIntS (x0 x1 : D) : F_laws_heldIntS [x0, x1] =
  ((loopC (fun s => (lenD false (sl s 0)).bind fun z => (bin BinOp.lss false [] (sl s 2) z).bind fun z => ifD z ((Option.map D.ptr (elemD 1 (sl s 0) (sl s 2))).bind fun z => ((ldD false 1 z).bind chkV).bind fun z =>
 (bin BinOp.neq false [] z (sl s 1)).bind fun z => ifD z (some (Out.ret [D.v (Value.int IntKind.i64 (-1))] [])) ((bin BinOp.add false [] (sl s 1) (D.v (Value.int IntKind.i64 1))).bind fun z =>
 (bin BinOp.add false [] (sl s 2) (D.v (Value.int IntKind.i64 1))).bind fun z_1 => some (Out.nrm [sl s 0, z, z_1]))) (some (Out.ext 0 [sl s 1]))) [x0, x1, D.v (Value.int IntKind.i64 0)]).bind
 fun o => outK o (fun i s => ifN (i.beq 0) (some (Out.ret [sl s 0] [])) none) fun a b => some (Out.ret a b)) := by kernel_rfl
theorem t_laws_FnExactFinishTimes (x0 x1 : D) : F_laws_FnExactFinishTimes [x0, x1] =
  ((lenD false x1).bind fun z => (bin BinOp.gtr false [] z (D.v (Value.int IntKind.i64 1048576))).bind fun z => ifD z (some (Out.ret [D.v (Value.bool true)] []))
 (callK (F_laws_szOrderS [x0, D.v (Value.int IntKind.i64 1048576)]) fun rs _u => (bin BinOp.lss false [] (sl rs 0) (D.v (Value.int IntKind.i64 0))).bind fun z => ifD z (some (Out.ret [D.v (Value.bool true)] []))
 (callK (F_laws_toOrderS [x0]) fun rs _u => callK (F_laws_toIntS [x1]) fun rs_1 _u => callK (F_spec_FinishTimes [sl rs 0, sl rs_1 0]) fun rs _u => (tupAt (D.tup rs) 0).bind fun y =>
 (tupAt (tupCut (D.tup rs) 0) 1).bind fun z => callK (F_laws_toOrderS [x0]) fun rs _u => (liveD (sl rs 0) (D.ref 0 0)).bind fun z_1 => callK (F_laws_toIntS [x1]) fun rs_2 _u =>
 (liveD (sl rs_2 0) (D.ref 0 0)).bind fun z_2 => (liveD z_1 (D.ref 0 0)).bind fun z_3 => (liveD z_2 (D.ref 0 0)).bind fun z_4 => (liveD z_3 (sl rs 0)).bind fun i => (liveD z_4 (sl rs_2 0)).bind fun i_1 =>
 callK (F_impl_FinishTimes [i, i_1]) fun rs_3 _u => (tupAt (D.tup rs_3) 0).bind fun y_1 => (tupAt (tupCut (D.tup rs_3) 0) 1).bind fun z_5 => (liveD y_1 (D.ref 0 0)).bind fun z_6 => (liveD z_6 (D.ref 0 0)).bind fun z_7 =>
 (liveD z_7 y_1).bind fun i => callK (F_laws_eqIntS [i, y]) fun rs_4 _u => (un UnOp.not (sl rs_4 0)).bind fun z_8 => (gate (D.tup []) z_8 false (some z_5)).bind fun z_9 =>
 (gate (D.tup []) z_8 false (some z)).bind fun z_10 => (gate (D.tup []) z_8 false (bin BinOp.neq true [] z_9 z_10)).bind fun z_11 => (pickD z_8 (D.v (Value.bool true)) z_11).bind fun z_12 =>
 ifD z_12 (some (Out.ret [D.v (Value.bool false)] [])) ((liveD z_1 (D.ref 0 0)).bind fun z_13 => callK (F_laws_toOrderS [x0]) fun rs_5 _u => (liveD z_13 (sl rs 0)).bind fun i => callK (F_laws_eqOrderS [i, sl rs_5 0])
 fun rs_6 _u => (un UnOp.not (sl rs_6 0)).bind fun z_14 => ifD z_14 (some (Out.ret [D.v (Value.bool false)] [])) ((liveD z_2 (D.ref 0 0)).bind fun z_15 => callK (F_laws_toIntS [x1]) fun rs_7 _u =>
 (liveD z_15 (sl rs_2 0)).bind fun i => callK (F_laws_eqIntS [i, sl rs_7 0]) fun rs_8 _u => (un UnOp.not (sl rs_8 0)).bind fun z_16 => ifD z_16 (some (Out.ret [D.v (Value.bool false)] [])) ((liveD z_1 (D.ref 0 0)).bind
 fun z_17 => (ref0 z_17 (sl rs 0)).bind fun i => (liveD i i).bind fun i => callK (F_laws_markOrderS [i, D.v (Value.int IntKind.i64 1)]) fun rs _u => (liveD z_2 (D.ref 0 0)).bind fun z_18 => (ref0 z_18 (sl rs_2 0)).bind
 fun i => (liveD i i).bind fun i => callK (F_laws_markIntS [i, sl rs 0]) fun rs _u => (bin BinOp.lss false [] (sl rs 0) (D.v (Value.int IntKind.i64 0))).bind fun z_19 => (gate D.bad z_19 false (liveD z_6 (D.ref 0 0))).bind
 fun z_20 => (gate (D.tup []) z_19 false (some y)).bind fun z_21 => gateC z_19 false ((liveD z_20 y_1).bind fun i => callK (F_laws_eqIntS [i, z_21]) fun rs _u => some (Out.nrm [sl rs 0])) [D.tup []] fun outs => (gate
 (D.tup []) z_19 false (un UnOp.not (sl outs 0))).bind fun z_22 => (pickD z_19 (D.v (Value.bool true)) z_22).bind fun z_23 => (gate (D.tup []) z_23 false (some z_5)).bind fun z_24 => (gate (D.tup []) z_23 false (some
 z)).bind fun z_25 => (gate (D.tup []) z_23 false (bin BinOp.neq true [] z_24 z_25)).bind fun z_26 => (pickD z_23 (D.v (Value.bool true)) z_26).bind fun z_27 => ifD z_27 (some (Out.ret [D.v (Value.bool false)] [])) ((liveD
 z_6 (D.ref 0 0)).bind fun z_28 => (ref0 z_28 y_1).bind fun i => (liveD i i).bind fun i => callK (F_laws_markIntS [i, D.v (Value.int IntKind.i64 1)]) fun rs us => (liveD z_6 (D.ref 0 0)).bind fun z_29 => (liveD z_29 (sl us
 0)).bind fun i => callK (F_laws_heldIntS [i, D.v (Value.int IntKind.i64 1)]) fun rs_9 _u => (bin BinOp.lss false [] (sl rs_9 0) (D.v (Value.int IntKind.i64 0))).bind fun z_30 => ifD z_30 (some (Out.ret [D.v (Value.bool
 false)] [])) ((bin BinOp.neq false [] (sl rs_9 0) (sl rs 0)).bind fun z_31 => ifD z_31 (some (Out.ret [D.v (Value.bool false)] [])) (callK (F_laws_toOrderS [x0]) fun rs_10 _u => callK (F_laws_toIntS [x1]) fun rs_11 _u =>
 callK (F_impl_FinishTimes [sl rs_10 0, sl rs_11 0]) fun rs_12 _u => (tupAt (D.tup rs_12) 0).bind fun y_2 => (tupAt (tupCut (D.tup rs_12) 0) 1).bind fun z_32 => callK (F_laws_eqIntS [y_2, y]) fun rs_13 _u => (un UnOp.not
 (sl rs_13 0)).bind fun z_33 => (gate (D.tup []) z_33 false (some z_32)).bind fun z_34 => (gate (D.tup []) z_33 false (some z)).bind fun z => (gate (D.tup []) z_33 false (bin BinOp.neq true [] z_34 z)).bind fun z => (pickD
 z_33 (D.v (Value.bool true)) z).bind fun z => ifD z (some (Out.ret [D.v (Value.bool false)] [])) ((liveD z_6 (D.ref 0 0)).bind fun z => (liveD z (sl us 0)).bind fun i => callK (F_laws_heldIntS [i, D.v (Value.int
 IntKind.i64 1)]) fun rs_14 _u => (bin BinOp.lss false [] (sl rs_14 0) (D.v (Value.int IntKind.i64 0))).bind fun z => ifD z (some (Out.ret [D.v (Value.bool false)] [])) ((bin BinOp.neq false [] (sl rs_14 0) (sl rs 0)).bind
 fun z => ifD z (some (Out.ret [D.v (Value.bool false)] [])) (some (Out.ret [D.v (Value.bool true)] []))))))))))))) := by kernel_rfl
theorem t_spec_orLate (x0 x1 : D) : F_spec_orLate [x0, x1] =
  (callK (F_spec_orTimes [x0, x1]) fun rs _u => (tupAt (D.tup rs) 0).bind fun y => (tupAt (tupCut (D.tup rs) 0) 1).bind fun _u => (lenD false x1).bind fun z => (loopC (fun s =>
 (bin BinOp.lss false [] (sl s 5) (sl s 4)).bind fun z => ifD z ((Option.map D.ptr (elemD 1 (sl s 3) (sl s 5))).bind fun z => ((ldD false 1 z).bind chkV).bind fun z =>
 (Option.map D.ptr (elemD 1 (sl s 1) (sl s 5))).bind fun z_1 => ((ldD false 1 z_1).bind chkV).bind fun z_2 => (Option.map D.ptr (elemD 4 (sl s 0) z)).bind fun z => (offD 3 z).bind fun z =>
 ((ldD false 1 z).bind chkV).bind fun z => (bin BinOp.sub false [] z_2 z).bind fun z => callK (F_spec_l1Most [D.v (Value.int IntKind.i64 0), z]) fun rs _u => (mkArr 1 [sl rs 0]).bind fun a => (chkA a).bind fun b =>
 (appD 1 8 (sl s 2) b).bind fun y => (bin BinOp.add false [] (sl s 5) (D.v (Value.int IntKind.i64 1))).bind fun z => some (Out.nrm [sl s 0, sl s 1, y, sl s 3, sl s 4, z])) (some (Out.ext 0 [sl s 2])))
 [x0, y, D.arr 1 [], x1, z, D.v (Value.int IntKind.i64 0)]).bind fun o => outK o (fun i s => ifN (i.beq 0) (some (Out.ret [sl s 0] [])) none) fun a b => some (Out.ret a b)) := by kernel_rfl
theorem t_spec_juSum (x0 : D) : F_spec_juSum [x0] =
  ((lenD false x0).bind fun z => (loopC (fun s => (bin BinOp.lss false [] (sl s 3) (sl s 2)).bind fun z => ifD z ((Option.map D.ptr (elemD 1 (sl s 1) (sl s 3))).bind fun z => ((ldD false 1 z).bind chkV).bind fun z =>
 (bin BinOp.add false [] (sl s 0) z).bind fun z => (bin BinOp.add false [] (sl s 3) (D.v (Value.int IntKind.i64 1))).bind fun z_1 => some (Out.nrm [z, sl s 1, sl s 2, z_1])) (some (Out.ext 0 [sl s 0])))
 [D.v (Value.int IntKind.i64 0), x0, z, D.v (Value.int IntKind.i64 0)]).bind fun o => outK o (fun i s => ifN (i.beq 0) (some (Out.ret [sl s 0] [])) none) fun a b => some (Out.ret a b)) := by kernel_rfl
theorem t_spec_TotalLateness (x0 x1 : D) : F_spec_TotalLateness [x0, x1] =
  (callK (F_spec_orAsked [x0, x1]) fun rs _u => (un UnOp.not (sl rs 0)).bind fun z => ifD z (some (Out.ret [D.v (Value.int IntKind.i64 0), D.v (Value.bool false)] [])) (callK (F_spec_orLate [x0, x1]) fun rs _u =>
 callK (F_spec_juSum [sl rs 0]) fun rs _u => some (Out.ret [sl rs 0, D.v (Value.bool true)] []))) := by kernel_rfl
theorem t_impl_lateness (x0 x1 : D) : F_impl_lateness [x0, x1] =
  ((mkArr 1 []).bind fun a => callK (F_impl_finished [x0, x1]) fun rs _u => (lenD false (sl rs 0)).bind fun z => (loopC (fun s => (bin BinOp.lss false [] (sl s 5) (sl s 4)).bind fun z => ifD z
 ((Option.map D.ptr (elemD 1 (sl s 3) (sl s 5))).bind fun z => ((ldD false 1 z).bind chkV).bind fun z => (Option.map D.ptr (elemD 1 (sl s 1) (sl s 5))).bind fun z_1 => ((ldD false 1 z_1).bind chkV).bind fun z_2 =>
 (Option.map D.ptr (elemD 4 (sl s 0) z_2)).bind fun z_3 => (offD 3 z_3).bind fun z_4 => ((ldD false 1 z_4).bind chkV).bind fun z_5 => (bin BinOp.sub false [] z z_5).bind fun z =>
 ((maxD (D.v (Value.int IntKind.i64 0)) z).bind fun z => some z).bind fun z => (mkArr 1 [z]).bind fun a => (chkA a).bind fun b => (appD 1 8 (sl s 2) b).bind fun y =>
 (bin BinOp.add false [] (sl s 5) (D.v (Value.int IntKind.i64 1))).bind fun z => some (Out.nrm [sl s 0, sl s 1, y, sl s 3, sl s 4, z])) (some (Out.ext 0 [sl s 2])))
 [x0, x1, a, sl rs 0, z, D.v (Value.int IntKind.i64 0)]).bind fun o => outK o (fun i s => ifN (i.beq 0) (some (Out.ret [sl s 0] [])) none) fun a b => some (Out.ret a b)) := by kernel_rfl
theorem t_impl_sum (x0 : D) : F_impl_sum [x0] =
  ((lenD false x0).bind fun z => (loopC (fun s => (bin BinOp.lss false [] (sl s 3) (sl s 2)).bind fun z => ifD z ((Option.map D.ptr (elemD 1 (sl s 1) (sl s 3))).bind fun z => ((ldD false 1 z).bind chkV).bind fun z =>
 (bin BinOp.add false [] (sl s 0) z).bind fun z => (bin BinOp.add false [] (sl s 3) (D.v (Value.int IntKind.i64 1))).bind fun z_1 => some (Out.nrm [z, sl s 1, sl s 2, z_1])) (some (Out.ext 0 [sl s 0])))
 [D.v (Value.int IntKind.i64 0), x0, z, D.v (Value.int IntKind.i64 0)]).bind fun o => outK o (fun i s => ifN (i.beq 0) (some (Out.ret [sl s 0] [])) none) fun a b => some (Out.ret a b)) := by kernel_rfl
theorem t_impl_TotalLateness (x0 x1 : D) : F_impl_TotalLateness [x0, x1] =
  (callK (F_impl_isSequence [x0, x1]) fun rs _u => (un UnOp.not (sl rs 0)).bind fun z => ifD z (some (Out.ret [D.v (Value.int IntKind.i64 0), D.v (Value.bool false)] [])) (callK (F_impl_lateness [x0, x1]) fun rs _u =>
 callK (F_impl_sum [sl rs 0]) fun rs _u => some (Out.ret [sl rs 0, D.v (Value.bool true)] []))) := by kernel_rfl
theorem t_laws_FnExactTotalLateness (x0 x1 : D) : F_laws_FnExactTotalLateness [x0, x1] =
  ((lenD false x1).bind fun z => (bin BinOp.gtr false [] z (D.v (Value.int IntKind.i64 1048576))).bind fun z => ifD z (some (Out.ret [D.v (Value.bool true)] []))
 (callK (F_laws_szOrderS [x0, D.v (Value.int IntKind.i64 1048576)]) fun rs _u => (bin BinOp.lss false [] (sl rs 0) (D.v (Value.int IntKind.i64 0))).bind fun z => ifD z (some (Out.ret [D.v (Value.bool true)] []))
 (callK (F_laws_toOrderS [x0]) fun rs _u => callK (F_laws_toIntS [x1]) fun rs_1 _u => callK (F_spec_TotalLateness [sl rs 0, sl rs_1 0]) fun rs _u => (tupAt (D.tup rs) 0).bind fun z => (tupAt (D.tup rs) 1).bind fun z_1 =>
 callK (F_laws_toOrderS [x0]) fun rs _u => callK (F_laws_toIntS [x1]) fun rs_2 _u => callK (F_impl_TotalLateness [sl rs 0, sl rs_2 0]) fun rs_3 _u => (tupAt (D.tup rs_3) 0).bind fun z_2 =>
 (tupAt (D.tup rs_3) 1).bind fun z_3 => (bin BinOp.neq false [] z_2 z).bind fun z => (gate (D.tup []) z false (some z_3)).bind fun z_4 => (gate (D.tup []) z false (some z_1)).bind fun z_5 =>
 (gate (D.tup []) z false (bin BinOp.neq true [] z_4 z_5)).bind fun z_6 => (pickD z (D.v (Value.bool true)) z_6).bind fun z => ifD z (some (Out.ret [D.v (Value.bool false)] [])) (callK (F_laws_toOrderS [x0]) fun rs_4 _u =>
 callK (F_laws_eqOrderS [sl rs 0, sl rs_4 0]) fun rs _u => (un UnOp.not (sl rs 0)).bind fun z => ifD z (some (Out.ret [D.v (Value.bool false)] [])) (callK (F_laws_toIntS [x1]) fun rs _u =>
 callK (F_laws_eqIntS [sl rs_2 0, sl rs 0]) fun rs _u => (un UnOp.not (sl rs 0)).bind fun z => ifD z (some (Out.ret [D.v (Value.bool false)] [])) (some (Out.ret [D.v (Value.bool true)] []))))))) := by kernel_rfl
theorem t_spec_IdlePress (x0 x1 : D) : F_spec_IdlePress [x0, x1] =
  (callK (F_spec_orAsked [x0, x1]) fun rs _u => (un UnOp.not (sl rs 0)).bind fun z => ifD z (some (Out.ret [D.v (Value.int IntKind.i64 0), D.v (Value.bool false)] [])) (callK (F_spec_orTimes [x0, x1]) fun rs _u =>
 (tupAt (D.tup rs) 0).bind fun _u => (tupAt (tupCut (D.tup rs) 0) 1).bind fun z => some (Out.ret [z, D.v (Value.bool true)] []))) := by kernel_rfl
theorem t_impl_greatest (x0 : D) : F_impl_greatest [x0] =
  ((lenD false x0).bind fun z => (loopC (fun s => (bin BinOp.lss false [] (sl s 3) (sl s 2)).bind fun z => ifD z ((Option.map D.ptr (elemD 1 (sl s 1) (sl s 3))).bind fun z => ((ldD false 1 z).bind chkV).bind fun z =>
 ((maxD (sl s 0) z).bind fun z => some z).bind fun z => (bin BinOp.add false [] (sl s 3) (D.v (Value.int IntKind.i64 1))).bind fun z_1 => some (Out.nrm [z, sl s 1, sl s 2, z_1])) (some (Out.ext 0 [sl s 0])))
 [D.v (Value.int IntKind.i64 0), x0, z, D.v (Value.int IntKind.i64 0)]).bind fun o => outK o (fun i s => ifN (i.beq 0) (some (Out.ret [sl s 0] [])) none) fun a b => some (Out.ret a b)) := by kernel_rfl
theorem t_impl_IdlePress (x0 x1 : D) : F_impl_IdlePress [x0, x1] =
  (callK (F_impl_isSequence [x0, x1]) fun rs _u => (un UnOp.not (sl rs 0)).bind fun z => ifD z (some (Out.ret [D.v (Value.int IntKind.i64 0), D.v (Value.bool false)] [])) (callK (F_impl_finished [x0, x1]) fun rs _u =>
 callK (F_impl_greatest [sl rs 0]) fun rs _u => (lenD false x0).bind fun z => (loopC (fun s => (bin BinOp.lss false [] (sl s 3) (sl s 2)).bind fun z => ifD z ((Option.map D.ptr (elemD 4 (sl s 1) (sl s 3))).bind fun z =>
 ((ldD true 4 z).bind chkV).bind fun z => (stD 4 (D.agg [D.v (Value.int IntKind.i64 0), D.v (Value.int IntKind.i64 0), D.v (Value.int IntKind.i64 0), D.v (Value.int IntKind.i64 0)]) (D.ref 0 0) z).bind fun b =>
 (liveD b (D.ref 0 2)).bind fun z => ((atD b z).bind (takeD false 1)).bind fun z => (bin BinOp.sub false [] (sl s 0) z).bind fun z => (bin BinOp.add false [] (sl s 3) (D.v (Value.int IntKind.i64 1))).bind fun z_1 =>
 some (Out.nrm [z, sl s 1, sl s 2, z_1])) (some (Out.ext 0 [sl s 0]))) [sl rs 0, x0, z, D.v (Value.int IntKind.i64 0)]).bind fun o =>
 outK o (fun i s => ifN (i.beq 0) (some (Out.ret [sl s 0, D.v (Value.bool true)] [])) none) fun a b => some (Out.ret a b))) := by kernel_rfl
theorem t_laws_FnExactIdlePress (x0 x1 : D) : F_laws_FnExactIdlePress [x0, x1] =
  ((lenD false x1).bind fun z => (bin BinOp.gtr false [] z (D.v (Value.int IntKind.i64 1048576))).bind fun z => ifD z (some (Out.ret [D.v (Value.bool true)] []))
 (callK (F_laws_szOrderS [x0, D.v (Value.int IntKind.i64 1048576)]) fun rs _u => (bin BinOp.lss false [] (sl rs 0) (D.v (Value.int IntKind.i64 0))).bind fun z => ifD z (some (Out.ret [D.v (Value.bool true)] []))
 (callK (F_laws_toOrderS [x0]) fun rs _u => callK (F_laws_toIntS [x1]) fun rs_1 _u => callK (F_spec_IdlePress [sl rs 0, sl rs_1 0]) fun rs _u => (tupAt (D.tup rs) 0).bind fun z => (tupAt (D.tup rs) 1).bind fun z_1 =>
 callK (F_laws_toOrderS [x0]) fun rs _u => callK (F_laws_toIntS [x1]) fun rs_2 _u => callK (F_impl_IdlePress [sl rs 0, sl rs_2 0]) fun rs_3 _u => (tupAt (D.tup rs_3) 0).bind fun z_2 =>
 (tupAt (D.tup rs_3) 1).bind fun z_3 => (bin BinOp.neq false [] z_2 z).bind fun z => (gate (D.tup []) z false (some z_3)).bind fun z_4 => (gate (D.tup []) z false (some z_1)).bind fun z_5 =>
 (gate (D.tup []) z false (bin BinOp.neq true [] z_4 z_5)).bind fun z_6 => (pickD z (D.v (Value.bool true)) z_6).bind fun z => ifD z (some (Out.ret [D.v (Value.bool false)] [])) (callK (F_laws_toOrderS [x0]) fun rs_4 _u =>
 callK (F_laws_eqOrderS [sl rs 0, sl rs_4 0]) fun rs _u => (un UnOp.not (sl rs 0)).bind fun z => ifD z (some (Out.ret [D.v (Value.bool false)] [])) (callK (F_laws_toIntS [x1]) fun rs _u =>
 callK (F_laws_eqIntS [sl rs_2 0, sl rs 0]) fun rs _u => (un UnOp.not (sl rs 0)).bind fun z => ifD z (some (Out.ret [D.v (Value.bool false)] [])) (some (Out.ret [D.v (Value.bool true)] []))))))) := by kernel_rfl
end Go.Proofs.Ytdgenchlghojlaa
/-
  Orders: what the functions compute, said plainly.
-/
namespace Go.Proofs.Ytdgenchlghojlaa
open Go Go.V
set_option linter.unusedSimpArgs false

abbrev Od := Int × Int × Int × Int
abbrev od (x : Od) : D := .agg [I x.1, I x.2.1, I x.2.2.1, I x.2.2.2]
abbrev ods (l : List Od) : D := .arr 4 (l.map od)

theorem e_spec_l1In (a b c : Int) : F_spec_l1In [I a, I b, I c] = some (.ret [B (decide (b ≤ a ∧ a ≤ c))] []) := by
  rw [t_spec_l1In]
  by_cases h : b ≤ a <;> simp [h]
theorem e_impl_within (a b c : Int) : F_impl_within [I a, I b, I c] = some (.ret [B (decide (b ≤ a ∧ a ≤ c))] []) := by
  rw [t_impl_within]
  by_cases h : b ≤ a <;> simp [h]
theorem e_laws_toOrder (x : Od) : F_laws_toOrder [od x] = some (.ret [od x] []) := by
  rw [t_laws_toOrder]
  simp -implicitDefEqProofs
def isOd (x : Od) : Bool := decide (1 ≤ x.1 ∧ x.1 ≤ 99) && decide (0 ≤ x.2.1 ∧ x.2.1 ≤ 500) && decide (0 ≤ x.2.2.1 ∧ x.2.2.1 ≤ 500) && decide (0 ≤ x.2.2.2 ∧ x.2.2.2 ≤ 10000)
theorem e_spec_orOne (x : Od) : F_spec_orOne [od x] = some (.ret [B (isOd x)] []) := by
  rw [t_spec_orOne]
  by_cases h1 : 1 ≤ x.1 ∧ x.1 ≤ 99 <;> by_cases h2 : 0 ≤ x.2.1 ∧ x.2.1 ≤ 500 <;> by_cases h3 : 0 ≤ x.2.2.1 ∧ x.2.2.1 ≤ 500 <;> simp -implicitDefEqProofs [e_spec_l1In, isOd, h1, h2, h3]
theorem e_impl_isOrder (x : Od) : F_impl_isOrder [od x] = some (.ret [B (isOd x)] []) := by
  rw [t_impl_isOrder]
  by_cases h1 : 1 ≤ x.1 ∧ x.1 ≤ 99 <;> by_cases h2 : 0 ≤ x.2.1 ∧ x.2.1 ≤ 500 <;> by_cases h3 : 0 ≤ x.2.2.1 ∧ x.2.2.1 ≤ 500 <;> simp -implicitDefEqProofs [e_impl_within, isOd, h1, h2, h3]
theorem e_laws_szOrderS (l : List Od) (n : Int) : ∃ m, F_laws_szOrderS [ods l, I n] = some (.ret [I m] []) ∧ (0 ≤ m → m = IntKind.i64.wrap (n - l.length)) := by
  rw [t_laws_szOrderS]
  by_cases h : IntKind.i64.wrap (n - l.length) < 0
  · exact ⟨-1, by simp [h], by omega⟩
  · exact ⟨_, by simp [h], fun _ => rfl⟩
theorem e_laws_toOrderS (l : List Od) (h : l.length ≤ 1048576) : F_laws_toOrderS [ods l] = some (.ret [ods l] []) := by
  rw [t_laws_toOrderS]
  have h1 : l.length * 32 ≤ 140737488355328 := by omega
  have h2 : l.length ≤ 140737488355328 := by omega
  simp only [lenD_arr, List.length_map, Option.bind_some, makD_nat, Nat.le_refl, h1, h2, and_self, if_true]
  rw [fillL_zero (f := od) (l := l)]
  refine loop_bind (.ext 0 [ods l]) (loop_for l.length (fun i => [ods l, .arr 4 (fillL od (od (0, 0, 0, 0)) l i), I i]) _ (fun i hi => ?_) ?_ rfl rfl) ?_
  · have hx := List.getElem?_eq_getElem hi
    have hg := fillL_get (f := od) (z := od (0, 0, 0, 0)) hi
    have hs := fillL_set (f := od) (z := od (0, 0, 0, 0)) hx
    have hw : IntKind.i64.wrap ((i : Int) + 1) = (i : Int) + 1 := wrap_id (by omega) (by omega)
    simp -implicitDefEqProofs [hi, e_laws_toOrder, Nat.le_of_lt hi, stD_arr hg, hs, hw]
  · simp [fillL_full]
  · simp
/-- Are a list orders? -/
def pOd (l : List Od) (i : Nat) (x : Od) : Bool := isOd x && !(decide (0 < i) && decide (x.1 ≤ (l.getD (i - 1) (0, 0, 0, 0)).1))
def goodO (l : List Od) : Bool := allI (pOd l) 0 l && decide (l.length ≤ 8)
theorem e_spec_orGood (l : List Od) (h : l.length ≤ 1048576) : F_spec_orGood [ods l] = some (.ret [B (goodO l)] []) := by
  rw [t_spec_orGood]
  simp only [lenD_arr, List.length_map, Option.bind_some]
  refine loop_bind _ (loop_all l (fun i => [ods l, ods l, I l.length, I i]) (pOd l) (.ret [B false] []) (.ext 0 [ods l]) (fun i hi => ?_) ?_ rfl rfl rfl) ?_
  · have hw : IntKind.i64.wrap ((i : Int) + 1) = (i : Int) + 1 := wrap_id (by omega) (by omega)
    cases h1 : isOd l[i]
    · simp -implicitDefEqProofs [hi, e_spec_orOne, h1, pOd]
    · by_cases h0 : 0 < i
      · have hw2 : IntKind.i64.wrap ((i : Int) - 1) = ((i - 1 : Nat) : Int) := by rw [wrap_id (by omega) (by omega)]; omega
        have hy : i - 1 < l.length := by omega
        by_cases h2 : l[i].1 ≤ l[i - 1].1 <;> simp -implicitDefEqProofs [hi, hy, e_spec_orOne, h1, pOd, hw, hw2, h0, h2]
      · simp -implicitDefEqProofs [hi, e_spec_orOne, h1, pOd, hw, h0]
  · simp
  · by_cases hg : allI (pOd l) 0 l = true <;> simp [hg, goodO]
    omega
theorem e_impl_AreOrders (l : List Od) (h : l.length ≤ 1048576) : F_impl_AreOrders [ods l] = some (.ret [B (goodO l)] []) := by
  rw [t_impl_AreOrders]
  simp only [lenD_arr, List.length_map, Option.bind_some]
  refine loop_bind _ (loop_all l (fun i => [ods l, ods l, I l.length, I i]) (pOd l) (.ret [B false] []) (.ext 0 [ods l]) (fun i hi => ?_) ?_ rfl rfl rfl) ?_
  · have hw : IntKind.i64.wrap ((i : Int) + 1) = (i : Int) + 1 := wrap_id (by omega) (by omega)
    cases h1 : isOd l[i]
    · simp -implicitDefEqProofs [hi, e_impl_isOrder, h1, pOd]
    · by_cases h0 : 0 < i
      · have hw2 : IntKind.i64.wrap ((i : Int) - 1) = ((i - 1 : Nat) : Int) := by rw [wrap_id (by omega) (by omega)]; omega
        have hy : i - 1 < l.length := by omega
        by_cases h2 : l[i].1 ≤ l[i - 1].1 <;> simp -implicitDefEqProofs [hi, hy, e_impl_isOrder, h1, pOd, hw, hw2, h0, h2]
      · simp -implicitDefEqProofs [hi, e_impl_isOrder, h1, pOd, hw, h0]
  · simp
  · by_cases hg : allI (pOd l) 0 l = true <;> simp [hg, goodO]
    omega
theorem e_laws_eqOrder (x : Od) : F_laws_eqOrder [od x, od x] = some (.ret [B true] []) := by
  rw [t_laws_eqOrder]
  simp -implicitDefEqProofs
theorem e_laws_eqOrderS (l : List Od) (h : l.length ≤ 1048577) : F_laws_eqOrderS [ods l, ods l] = some (.ret [B true] []) := by
  rw [t_laws_eqOrderS]
  simp only [lenD_arr, List.length_map, Option.bind_some, bin_neq, decide_true, Bool.not_true, ifD_B, Bool.false_eq_true, if_false]
  refine loop_bind _ (loop_for l.length (fun i => [ods l, ods l, I i]) (.ext 0 []) (fun i hi => ?_) ?_ rfl rfl) ?_
  · have hw : IntKind.i64.wrap ((i : Int) + 1) = (i : Int) + 1 := wrap_id (by omega) (by omega)
    simp -implicitDefEqProofs [hi, e_laws_eqOrder, hw]
  · simp
  · simp
end Go.Proofs.Ytdgenchlghojlaa
/-
  Numbers and orders: copies, marks.
-/
namespace Go.Proofs.Ytdgenchlghojlaa
open Go Go.V
set_option linter.unusedSimpArgs false

abbrev ints (l : List Int) : D := .arr 1 (l.map I)
theorem e_laws_toIntS (l : List Int) (h : l.length ≤ 1048576) : F_laws_toIntS [ints l] = some (.ret [ints l] []) := by
  rw [t_laws_toIntS]
  have h1 : l.length * 8 ≤ 140737488355328 := by omega
  have h2 : l.length ≤ 140737488355328 := by omega
  simp only [lenD_arr, List.length_map, Option.bind_some, makD_nat, Nat.le_refl, h1, h2, and_self, if_true]
  rw [fillL_zero (f := fun n => I n) (l := l)]
  refine loop_bind (.ext 0 [ints l]) (loop_for l.length (fun i => [ints l, .arr 1 (fillL (fun n => I n) (I 0) l i), I i]) _ (fun i hi => ?_) ?_ rfl rfl) ?_
  · have hx := List.getElem?_eq_getElem hi
    have hg := fillL_get (f := fun n => I n) (z := I 0) hi
    have hs := fillL_set (f := fun n => I n) (z := I 0) hx
    have hw : IntKind.i64.wrap ((i : Int) + 1) = (i : Int) + 1 := wrap_id (by omega) (by omega)
    
    simp -implicitDefEqProofs [hi, Nat.le_of_lt hi, stD_arr1 hg, hs, hw]
  · simp [fillL_full]
  · simp
theorem e_laws_eqIntS (l : List Int) (h : l.length ≤ 1048577) : F_laws_eqIntS [ints l, ints l] = some (.ret [B true] []) := by
  rw [t_laws_eqIntS]
  simp only [lenD_arr, List.length_map, Option.bind_some, bin_neq, decide_true, Bool.not_true, ifD_B, Bool.false_eq_true, if_false]
  refine loop_bind _ (loop_for l.length (fun i => [ints l, ints l, I i]) (.ext 0 []) (fun i hi => ?_) ?_ rfl rfl) ?_
  · have hw : IntKind.i64.wrap ((i : Int) + 1) = (i : Int) + 1 := wrap_id (by omega) (by omega)
    simp -implicitDefEqProofs [hi, hw]
  · simp
  · simp
def marksI (k : Int) (n : Nat) : List Int := (List.range n).map fun (j : Nat) => k + (j : Int)
theorem e_laws_markIntS (l : List Int) (k : Int) (h : l.length ≤ 1048577) (h1 : 0 ≤ k) (h2 : k ≤ 100000000) : F_laws_markIntS [ints l, I k] = some (.ret [I (k + l.length)] [ints (marksI k l.length)]) := by
  rw [t_laws_markIntS]
  refine loop_bind _ (loop_for l.length (fun i => [.arr 1 (markL (fun (j : Nat) => I (k + (j : Int))) (fun n => I n) l i), I (k + i), I i]) (.ext 0 [ints (marksI k l.length), I (k + l.length)]) (fun i hi => ?_) ?_ rfl ?_) ?_
  · have hw : IntKind.i64.wrap ((i : Int) + 1) = (i : Int) + 1 := wrap_id (by omega) (by omega)
    have w1 : IntKind.i64.wrap (k + (i : Int) + 1) = k + (i + 1) := by rw [wrap_id (by omega) (by omega)]; omega
    have hg := markL_get (g := fun (j : Nat) => I (k + (j : Int))) (f := fun n => I n) hi
    have hs := markL_set (g := fun (j : Nat) => I (k + (j : Int))) (f := fun n => I n) hi
    have hl := markL_length (g := fun (j : Nat) => I (k + (j : Int))) (f := fun n => I n) (Nat.le_of_lt hi)
    generalize markL (fun (j : Nat) => I (k + (j : Int))) (fun n => I n) l i = L at *
    have s1 := stD_arr1 (z := 1) (v := .int .i64 (k + i)) hg
    simp [hi, hl, hw, w1, s1]
    exact hs
  · simp [markL_full, marksI]
  · simp [markL_zero (g := fun (j : Nat) => I (k + (j : Int))) (f := fun n => I n)]
  · simp
theorem e_laws_heldIntS (k : Int) (n : Nat) (h : n ≤ 1048577) (h1 : 0 ≤ k) (h2 : k ≤ 100000000) : F_laws_heldIntS [ints (marksI k n), I k] = some (.ret [I (k + n)] []) := by
  rw [t_laws_heldIntS]
  refine loop_bind _ (loop_for n (fun i => [ints (marksI k n), I (k + i), I i]) (.ext 0 [I (k + n)]) (fun i hi => ?_) ?_ rfl ?_) ?_
  · have hw : IntKind.i64.wrap ((i : Int) + 1) = (i : Int) + 1 := wrap_id (by omega) (by omega)
    have w1 : IntKind.i64.wrap (k + (i : Int) + 1) = k + (i + 1) := by rw [wrap_id (by omega) (by omega)]; omega
    simp [marksI, hi, hw, w1]
  · simp [marksI]
  · simp
  · simp
def mk4 (k : Int) (j : Nat) : Od := (k + 4 * j, k + 4 * j + 1, k + 4 * j + 2, k + 4 * j + 3)
def marksO (k : Int) (n : Nat) : List Od := (List.range n).map (mk4 k)
theorem e_laws_markOrderS (l : List Od) (k : Int) (h : l.length ≤ 1048577) (h1 : 0 ≤ k) (h2 : k ≤ 100000000) : F_laws_markOrderS [ods l, I k] = some (.ret [I (k + 4 * l.length)] [ods (marksO k l.length)]) := by
  rw [t_laws_markOrderS]
  refine loop_bind _ (loop_for l.length (fun i => [.arr 4 (markL (fun j => od (mk4 k j)) od l i), I (k + 4 * i), I i]) (.ext 0 [ods (marksO k l.length), I (k + 4 * l.length)]) (fun i hi => ?_) ?_ rfl ?_) ?_
  · have hw : IntKind.i64.wrap ((i : Int) + 1) = (i : Int) + 1 := wrap_id (by omega) (by omega)
    have w1 : IntKind.i64.wrap (k + 4 * (i : Int) + 1) = k + 4 * i + 1 := wrap_id (by omega) (by omega)
    have w2 : IntKind.i64.wrap (k + 4 * (i : Int) + 1 + 1) = k + 4 * i + 2 := by rw [wrap_id (by omega) (by omega)]; omega
    have w3 : IntKind.i64.wrap (k + 4 * (i : Int) + 2 + 1) = k + 4 * i + 3 := by rw [wrap_id (by omega) (by omega)]; omega
    have w4 : IntKind.i64.wrap (k + 4 * (i : Int) + 3 + 1) = k + 4 * (i + 1) := by rw [wrap_id (by omega) (by omega)]; omega
    have hg := markL_get (g := fun j => od (mk4 k j)) (f := od) hi
    have hs := markL_set (g := fun j => od (mk4 k j)) (f := od) hi
    have hl := markL_length (g := fun j => od (mk4 k j)) (f := od) (Nat.le_of_lt hi)
    generalize markL (fun j => od (mk4 k j)) od l i = L at *
    have s1 := stD_part (z := 4) (f := 0) (v := .int .i64 (k + 4 * i)) hg (by simp)
    have s2 := stD_part (z := 4) (L := L.set i (.agg [I (k + 4 * i), I l[i].2.1, I l[i].2.2.1, I l[i].2.2.2])) (i := i) (f := 1) (v := .int .i64 (k + 4 * i + 1)) (c := [I (k + 4 * i), I l[i].2.1, I l[i].2.2.1, I l[i].2.2.2]) (by simp [hl, hi]) (by simp)
    have s3 := stD_part (z := 4) (L := L.set i (.agg [I (k + 4 * i), I (k + 4 * i + 1), I l[i].2.2.1, I l[i].2.2.2])) (i := i) (f := 2) (v := .int .i64 (k + 4 * i + 2)) (c := [I (k + 4 * i), I (k + 4 * i + 1), I l[i].2.2.1, I l[i].2.2.2]) (by simp [hl, hi]) (by simp)
    have s4 := stD_part (z := 4) (L := L.set i (.agg [I (k + 4 * i), I (k + 4 * i + 1), I (k + 4 * i + 2), I l[i].2.2.2])) (i := i) (f := 3) (v := .int .i64 (k + 4 * i + 3)) (c := [I (k + 4 * i), I (k + 4 * i + 1), I (k + 4 * i + 2), I l[i].2.2.2]) (by simp [hl, hi]) (by simp)
    simp only [putCells_eq, List.take_zero, List.nil_append, List.length_singleton, Nat.zero_add, List.drop_succ_cons, List.drop_zero, List.singleton_append, List.take_succ_cons, List.cons_append, Nat.reduceAdd, List.set_set, List.drop_nil] at s1 s2 s3 s4
    simp [hi, hl, hw, w1, w2, w3, w4, s1, s2, s3, s4]
    exact hs
  · simp [markL_full, marksO, mk4]
  · simp [markL_zero (g := fun j => od (mk4 k j)) (f := od)]
  · simp
end Go.Proofs.Ytdgenchlghojlaa
/-
  Orders in a sequence: the plain laws.
-/
namespace Go.Proofs.Ytdgenchlghojlaa
open Go Go.V
set_option linter.unusedSimpArgs false

/-! ### sums over all places -/
def sumTo : Nat → (Nat → Int) → Int
  | 0, _ => 0
  | n + 1, f => sumTo n f + f n
theorem sumTo_congr {f g : Nat → Int} : ∀ (n : Nat), (∀ k, k < n → f k = g k) → sumTo n f = sumTo n g
  | 0, _ => rfl
  | n + 1, h => by
    simp only [sumTo]
    rw [sumTo_congr n fun k hk => h k (by omega), h n (by omega)]
theorem sumTo_add {f g : Nat → Int} : ∀ (n : Nat), sumTo n (fun k => f k + g k) = sumTo n f + sumTo n g
  | 0 => rfl
  | n + 1 => by
    simp only [sumTo]
    rw [sumTo_add n]
    omega
theorem sumTo_zero : ∀ (n : Nat), sumTo n (fun _ => 0) = 0
  | 0 => rfl
  | n + 1 => by simp only [sumTo]; rw [sumTo_zero n]; rfl
theorem sumTo_one {f : Nat → Int} (x : Nat) : ∀ (n : Nat), sumTo n (fun k => if k = x then f k else 0) = if x < n then f x else 0
  | 0 => by simp [sumTo]
  | n + 1 => by
    simp only [sumTo]
    rw [sumTo_one x n]
    by_cases h : n = x
    · subst h
      simp
    · rw [if_neg h]
      by_cases h2 : x < n
      · rw [if_pos h2, if_pos (by omega)]; omega
      · rw [if_neg h2, if_neg (by omega)]; omega
theorem sumTo_le {f : Nat → Int} : ∀ (n : Nat), (∀ k, k < n → f k ≤ 1) → sumTo n f ≤ n
  | 0, _ => by simp [sumTo]
  | n + 1, h => by
    simp only [sumTo]
    have h1 := sumTo_le n fun k hk => h k (by omega)
    have h2 := h n (by omega)
    omega
theorem sumTo_full {f : Nat → Int} : ∀ (n : Nat), (∀ k, k < n → f k ≤ 1) → sumTo n f = n → ∀ k, k < n → f k = 1
  | 0, _, _, k, hk => by omega
  | n + 1, h, e, k, hk => by
    simp only [sumTo] at e
    have h1 := sumTo_le n fun k hk => h k (by omega)
    have h2 := h n (by omega)
    by_cases hkn : k = n
    · subst hkn; omega
    · exact sumTo_full n (fun k hk => h k (by omega)) (by omega) k (by omega)
def sumL (f : Nat → Int) : List Nat → Int
  | [] => 0
  | k :: s => f k + sumL f s
theorem sumTo_mem {f : Nat → Int} {n : Nat} : ∀ (s : List Nat), (∀ k ∈ s, k < n) → s.Nodup → sumTo n (fun k => if k ∈ s then f k else 0) = sumL f s
  | [], _, _ => by simp [sumL, sumTo_zero]
  | x :: s, h, hd => by
    rw [List.nodup_cons] at hd
    have ih := sumTo_mem (f := f) s (fun k hk => h k (by simp [hk])) hd.2
    have e : sumTo n (fun k => if k ∈ x :: s then f k else 0) = sumTo n (fun k => (if k = x then f k else 0) + (if k ∈ s then f k else 0)) := by
      refine sumTo_congr n fun k _ => ?_
      by_cases h1 : k = x
      · subst h1
        simp [hd.1]
      · simp [h1]
    rw [e, sumTo_add, sumTo_one, if_pos (h x (by simp)), ih]
    rfl
theorem sumL_one : ∀ (s : List Nat), sumL (fun _ => 1) s = s.length
  | [] => rfl
  | _ :: s => by simp only [sumL, sumL_one s, List.length_cons]; omega
/-- A list of all places, each once. -/
theorem sum_perm {f : Nat → Int} {n : Nat} {s : List Nat} (h : ∀ k ∈ s, k < n) (hd : s.Nodup) (hl : s.length = n) : sumL f s = sumTo n f := by
  have h1 := sumTo_mem (f := fun _ => 1) s h hd
  rw [sumL_one, hl] at h1
  have all := sumTo_full n (fun k _ => by split <;> omega) h1
  rw [← sumTo_mem (f := f) s h hd]
  refine sumTo_congr n fun k hk => ?_
  have := all k hk
  by_cases hm : k ∈ s
  · rw [if_pos hm]
  · rw [if_neg hm] at this; omega

/-! ### sequences -/
theorem difG_facts {n : Int} : ∀ (l seen : List Int), difG n l seen = true → (∀ x ∈ l, 0 ≤ x ∧ x ≤ n - 1) ∧ l.Nodup ∧ ∀ x ∈ l, x ∉ seen
  | [], _, _ => by simp
  | x :: l, seen, h => by
    simp only [difG, Bool.and_eq_true, decide_eq_true_eq, Bool.not_eq_true', decide_eq_false_iff_not] at h
    obtain ⟨⟨h1, h2⟩, h3⟩ := h
    obtain ⟨g1, g2, g3⟩ := difG_facts l (x :: seen) h3
    refine ⟨fun y hy => ?_, List.nodup_cons.2 ⟨fun hm => g3 x hm (by simp), g2⟩, fun y hy => ?_⟩
    · rcases List.mem_cons.1 hy with rfl | hy
      · exact h1
      · exact g1 y hy
    · rcases List.mem_cons.1 hy with rfl | hy
      · exact h2
      · exact fun hm => g3 y hy (by simp [hm])
abbrev oAt (l : List Od) (k : Int) : Od := l.getD k.toNat (0, 0, 0, 0)
/-- What is composed, what is printed, how long the press waits. -/
def runO (l : List Od) : Int × Int × Int → Int → Int × Int × Int
  | (c, p, w), k => (c + (oAt l k).2.1, max p (c + (oAt l k).2.1) + (oAt l k).2.2.1, w + max 0 (c + (oAt l k).2.1 - p))
def timesO (l : List Od) : Int × Int × Int → List Int → List Int
  | _, [] => []
  | a, k :: s => (runO l a k).2.1 :: timesO l (runO l a k) s
theorem timesO_len (l : List Od) : ∀ (s : List Int) (a : Int × Int × Int), (timesO l a s).length = s.length
  | [], _ => rfl
  | k :: s, a => by simp [timesO, timesO_len l s]
theorem timesO_snoc (l : List Od) (k : Int) : ∀ (s : List Int) (a : Int × Int × Int), timesO l a (s ++ [k]) = timesO l a s ++ [((s ++ [k]).foldl (runO l) a).2.1]
  | [], a => by simp [timesO]
  | x :: s, a => by
    rw [List.cons_append]
    simp only [timesO, timesO_snoc l k s, List.cons_append, List.foldl_cons]
theorem way_take {l : List Od} {s : List Int} {i : Nat} (hi : i < s.length) (a : Int × Int × Int) : (s.take (i + 1)).foldl (runO l) a = runO l ((s.take i).foldl (runO l) a) s[i] := by
  rw [List.take_succ_eq_append_getElem hi, List.foldl_append]
  rfl
theorem times_take {l : List Od} {s : List Int} {i : Nat} (hi : i < s.length) (a : Int × Int × Int) : timesO l a (s.take (i + 1)) = timesO l a (s.take i) ++ [((s.take (i + 1)).foldl (runO l) a).2.1] := by
  rw [List.take_succ_eq_append_getElem hi, timesO_snoc]
/-- Bounds on the way. -/
theorem way_in {l : List Od} (hg : ∀ x ∈ l, isOd x = true) {s : List Int} (hs : ∀ k ∈ s, 0 ≤ k ∧ k < l.length) : ∀ (i : Nat), i ≤ s.length →
    0 ≤ ((s.take i).foldl (runO l) (0, 0, 0)).1 ∧ ((s.take i).foldl (runO l) (0, 0, 0)).1 ≤ 500 * i ∧ 0 ≤ ((s.take i).foldl (runO l) (0, 0, 0)).2.1 ∧ ((s.take i).foldl (runO l) (0, 0, 0)).2.1 ≤ 1000 * i ∧
    0 ≤ ((s.take i).foldl (runO l) (0, 0, 0)).2.2 ∧ ((s.take i).foldl (runO l) (0, 0, 0)).2.2 ≤ 500 * i * i := by
  intro i
  induction i with
  | zero => intro _; simp
  | succ i ih =>
    intro hi
    obtain ⟨h1, h2, h3, h4, h5, h6⟩ := ih (by omega)
    have hk := hs s[i] (List.getElem_mem (by omega))
    rw [way_take (by omega)]
    generalize (s.take i).foldl (runO l) (0, 0, 0) = a at *
    obtain ⟨c, p, w⟩ := a
    simp only at h1 h2 h3 h4 h5 h6
    have hlt : s[i].toNat < l.length := by omega
    have ho : isOd (oAt l s[i]) = true := by
      have e : oAt l s[i] = l[s[i].toNat] := by simp [oAt, hlt]
      rw [e]
      exact hg _ (List.getElem_mem hlt)
    simp only [isOd, Bool.and_eq_true, decide_eq_true_eq] at ho
    have hsq : (500 : Int) * i * i + 500 * i + 500 ≤ 500 * ((i + 1 : Nat) : Int) * ((i + 1 : Nat) : Int) := by
      have : 500 * ((i + 1 : Nat) : Int) * ((i + 1 : Nat) : Int) = 500 * i * i + 1000 * i + 500 := by
        rw [Int.natCast_add]
        simp only [Int.natCast_one, Int.mul_add, Int.add_mul]
        omega
      omega
    simp only [runO]
    refine ⟨by omega, by omega, by omega, by omega, by omega, ?_⟩
    have : max 0 (c + (oAt l s[i]).2.1 - p) ≤ 500 * i + 500 := by omega
    omega
/-- The press has printed all and has waited. -/
theorem way_sum (l : List Od) : ∀ (s : List Int) (a : Int × Int × Int), (s.foldl (runO l) a).2.1 - (s.foldl (runO l) a).2.2 = a.2.1 - a.2.2 + sumL (fun k => (l.getD k (0, 0, 0, 0)).2.2.1) (s.map Int.toNat)
  | [], a => by simp [sumL]
  | k :: s, (c, p, w) => by
    rw [List.foldl_cons, way_sum l s]
    simp only [runO, oAt, List.map_cons, sumL]
    omega
theorem sumTo_list (f : Od → Int) : ∀ (l : List Od), sumTo l.length (fun k => f (l.getD k (0, 0, 0, 0))) = l.foldl (fun a x => a + f x) 0 := by
  intro l
  have key : ∀ (n : Nat), n ≤ l.length → sumTo n (fun k => f (l.getD k (0, 0, 0, 0))) = (l.take n).foldl (fun a x => a + f x) 0 := by
    intro n
    induction n with
    | zero => intro _; simp [sumTo]
    | succ n ih =>
      intro hn
      rw [List.take_succ_eq_append_getElem (by omega), List.foldl_append]
      simp only [sumTo, List.foldl_cons, List.foldl_nil]
      rw [ih (by omega)]
      congr 2
      simp [show n < l.length by omega]
  have := key l.length (Nat.le_refl _)
  rwa [List.take_length] at this
def printS (l : List Od) : Int := l.foldl (fun a x => a + x.2.2.1) 0
theorem idle_eq {l : List Od} {s : List Int} (h : difG l.length s [] = true) (hl : s.length = l.length) : (s.foldl (runO l) (0, 0, 0)).2.1 - printS l = (s.foldl (runO l) (0, 0, 0)).2.2 := by
  obtain ⟨h1, h2, _⟩ := difG_facts s [] h
  have hr := way_sum l s (0, 0, 0)
  have hm : ∀ k ∈ s.map Int.toNat, k < l.length := by
    intro k hk
    obtain ⟨x, hx, rfl⟩ := List.mem_map.1 hk
    have := h1 x hx
    omega
  have hd : (s.map Int.toNat).Nodup := by
    unfold List.Nodup at h2 ⊢
    rw [List.pairwise_map]
    refine h2.imp_of_mem fun {a b} ha hb hne => ?_
    have := h1 a ha
    have := h1 b hb
    omega
  rw [sum_perm hm hd (by rw [List.length_map]; exact hl), sumTo_list (fun x => x.2.2.1)] at hr
  unfold printS
  simp only at hr
  omega
/-- The greatest of the times is the last one. -/
def mostL (l : List Int) : Int := l.foldl max 0
theorem most_times {l : List Od} (hg : ∀ x ∈ l, isOd x = true) {s : List Int} (hs : ∀ k ∈ s, 0 ≤ k ∧ k < l.length) : mostL (timesO l (0, 0, 0) s) = (s.foldl (runO l) (0, 0, 0)).2.1 := by
  have key : ∀ (i : Nat), i ≤ s.length → mostL (timesO l (0, 0, 0) (s.take i)) = ((s.take i).foldl (runO l) (0, 0, 0)).2.1 := by
    intro i
    induction i with
    | zero => intro _; simp [mostL, timesO]
    | succ i ih =>
      intro hi
      have h := way_in hg hs i (by omega)
      have h' := way_in hg hs (i + 1) hi
      rw [times_take (by omega)]
      unfold mostL at ih ⊢
      rw [List.foldl_append, ih (by omega)]
      simp only [List.foldl_cons, List.foldl_nil]
      rw [way_take (by omega)] at h' ⊢
      have hk := hs s[i] (List.getElem_mem (by omega))
      have hlt : s[i].toNat < l.length := by omega
      have ho : isOd (oAt l s[i]) = true := by
        have e : oAt l s[i] = l[s[i].toNat] := by simp [oAt, hlt]
        rw [e]
        exact hg _ (List.getElem_mem hlt)
      simp only [isOd, Bool.and_eq_true, decide_eq_true_eq] at ho
      generalize (s.take i).foldl (runO l) (0, 0, 0) = a at *
      obtain ⟨c, p, w⟩ := a
      simp only [runO]
      omega
  have := key s.length (Nat.le_refl _)
  rwa [List.take_length] at this
theorem goodO_all {l : List Od} (h : goodO l = true) : (∀ x ∈ l, isOd x = true) ∧ l.length ≤ 8 := by
  simp only [goodO, Bool.and_eq_true, decide_eq_true_eq] at h
  refine ⟨?_, h.2⟩
  have key : ∀ (m : List Od) (i : Nat), allI (pOd l) i m = true → ∀ x ∈ m, isOd x = true := by
    intro m
    induction m with
    | nil => intro i _ x hx; cases hx
    | cons y m ih =>
      intro i hp x hx
      simp only [allI, Bool.and_eq_true, pOd] at hp
      rcases List.mem_cons.1 hx with rfl | hx
      · exact hp.1.1
      · exact ih (i + 1) hp.2 x hx
  exact key l 0 h.1
/-- Orders and a sequence of all of them. -/
def askO (l : List Od) (s : List Int) : Bool := goodO l && decide (s.length = l.length) && difG l.length s []
theorem askO_facts {l : List Od} {s : List Int} (h : askO l s = true) : (∀ x ∈ l, isOd x = true) ∧ l.length ≤ 8 ∧ s.length = l.length ∧ difG l.length s [] = true ∧ ∀ k ∈ s, 0 ≤ k ∧ k < l.length := by
  simp only [askO, Bool.and_eq_true, decide_eq_true_eq] at h
  obtain ⟨⟨h1, h2⟩, h3⟩ := h
  obtain ⟨g1, g2⟩ := goodO_all h1
  refine ⟨g1, g2, h2, h3, fun k hk => ?_⟩
  have := (difG_facts s [] h3).1 k hk
  omega
end Go.Proofs.Ytdgenchlghojlaa
/-
  Orders in a sequence: what the functions compute.
-/
namespace Go.Proofs.Ytdgenchlghojlaa
open Go Go.V
set_option linter.unusedSimpArgs false

theorem e_spec_l1Most (a b : Int) : F_spec_l1Most [I a, I b] = some (.ret [I (max a b)] []) := by
  rw [t_spec_l1Most]
  by_cases h : b < a
  · simp -implicitDefEqProofs [h, Int.max_eq_left (Int.le_of_lt h)]
  · simp -implicitDefEqProofs [h, Int.max_eq_right (Int.not_lt.1 h)]
theorem maxD_I (a b : Int) : maxD (I a) (I b) = some (I (max a b)) := by
  by_cases h : a < b
  · simp [maxD, h, Int.max_eq_right (Int.le_of_lt h)]
  · simp [maxD, h, Int.max_eq_left (Int.not_lt.1 h)]
theorem allI_not {n : Int} : ∀ (l : List Int) (i : Nat), allI (fun _ x => !decide (x = n)) i l = !decide (n ∈ l)
  | [], _ => by simp [allI]
  | x :: l, i => by
    simp only [allI, allI_not l]
    by_cases h : x = n
    · simp [h]
    · simp [h, Ne.symm h]
theorem e_spec_l1Has (l : List Int) (n : Int) (h : l.length ≤ 1048577) : F_spec_l1Has [ints l, I n] = some (.ret [B (decide (n ∈ l))] []) := by
  rw [t_spec_l1Has]
  simp only [lenD_arr, List.length_map, Option.bind_some]
  refine loop_bind _ (loop_all l (fun i => [I n, ints l, I l.length, I i]) (fun _ x => !decide (x = n)) (.ret [B true] []) (.ext 0 []) (fun i hi => ?_) ?_ rfl rfl rfl) ?_
  · have hw : IntKind.i64.wrap ((i : Int) + 1) = (i : Int) + 1 := wrap_id (by omega) (by omega)
    by_cases h1 : l[i] = n <;> simp -implicitDefEqProofs [hi, hw, h1]
  · simp
  · rw [allI_not]
    by_cases hm : n ∈ l <;> simp [hm]
/-- Each number is in its range and not met before. -/
def pDif (n : Int) (s : List Int) (i : Nat) (x : Int) : Bool := decide (0 ≤ x ∧ x ≤ n - 1) && !decide (x ∈ s.take i)
theorem dif_all {n : Int} {s : List Int} : ∀ (m : Nat) (i : Nat) (seen : List Int), i + m = s.length → (∀ x, x ∈ seen ↔ x ∈ s.take i) → allI (pDif n s) i (s.drop i) = difG n (s.drop i) seen
  | 0, i, seen, hi, hs => by
    rw [List.drop_eq_nil_of_le (by omega)]
    rfl
  | m + 1, i, seen, hi, hs => by
    have hlt : i < s.length := by omega
    rw [List.drop_eq_getElem_cons hlt]
    simp only [allI, difG, pDif, hs]
    rw [dif_all m (i + 1) (s[i] :: seen) (by omega)]
    intro x
    rw [List.take_succ_eq_append_getElem hlt, List.mem_append, List.mem_singleton, List.mem_cons, hs]
    exact Or.comm
theorem e_spec_orAsked (l : List Od) (s : List Int) (hl : l.length ≤ 1048576) : F_spec_orAsked [ods l, ints s] = some (.ret [B (askO l s)] []) := by
  rw [t_spec_orAsked]
  cases hg : goodO l
  · simp -implicitDefEqProofs [e_spec_orGood l hl, hg, askO]
  by_cases hn : s.length = l.length
  case neg =>
    have hn' : ¬ (s.length : Int) = (l.length : Int) := by omega
    simp -implicitDefEqProofs [e_spec_orGood l hl, hg, askO, hn, hn']
  have hn' : (s.length : Int) = (l.length : Int) := by omega
  simp -implicitDefEqProofs only [e_spec_orGood l hl, hg, callK_ret, sl_zero, un_not, Bool.not_true, Option.bind_some, gate_f, Bool.false_eq_true, if_false, lenD_arr, List.length_map, bin_neq, hn', decide_true, pickD_B, ifD_B]
  refine loop_bind _ (loop_all s (fun i => [ods l, ints s, ints s, I l.length, I i]) (pDif l.length s) (.ret [B false] []) (.ext 0 []) (fun i hi => ?_) ?_ rfl rfl rfl) ?_
  · have hi' : (i : Int) < (l.length : Int) := by omega
    have hw : IntKind.i64.wrap ((i : Int) + 1) = (i : Int) + 1 := wrap_id (by omega) (by omega)
    have hw2 : IntKind.i64.wrap ((l.length : Int) - 1) = (l.length : Int) - 1 := wrap_id (by omega) (by omega)
    have hsl : sliceD false 1 (ints s) (I 0) (I (i : Int)) = some (ints (s.take i)) := by
      have := sliceD_nat (z := 1) (i := 0) (j := i) (l := s.map fun n => I n) (k := .i64) (k' := .i64) (Nat.zero_le _) (by simp; omega)
      rw [List.drop_zero, ← List.map_take] at this
      exact this
    have hh := e_spec_l1Has (s.take i) s[i] (by rw [List.length_take]; omega)
    have hel : elemD 1 (ints s) (I (i : Int)) = some [I s[i]] := by simp [hi]
    by_cases h1 : 0 ≤ s[i] ∧ s[i] ≤ (l.length : Int) - 1
    · by_cases h2 : s[i] ∈ s.take i
      · simp -implicitDefEqProofs [hi', hel, hw, hw2, hsl, hh, h1, h2, pDif, e_spec_l1In]
      · simp -implicitDefEqProofs [hi', hel, hw, hw2, hsl, hh, h1, h2, pDif, e_spec_l1In]
    · simp -implicitDefEqProofs [hi', hel, hw, hw2, h1, pDif, e_spec_l1In]
  · have : ¬ (s.length : Int) < (l.length : Int) := by omega
    simp -implicitDefEqProofs [this]
  · have := dif_all (n := l.length) (s := s) s.length 0 [] (by omega) (by simp)
    rw [List.drop_zero] at this
    rw [this]
    unfold askO
    cases hd : difG l.length s [] <;> simp [hg, hn]
theorem e_fDif (s : List Int) (n : Nat) (hin : ∀ x ∈ s, inI x) (hs : s.length ≤ 1048576) (hn : n ≤ 1048576) : fDif [ints s, I (n : Int)] = some (.ret [B (difG n s [])] []) := by
  simp only [fDif]
  rw [intsOf_map s hin, Option.bind_some, if_pos ⟨hs, by omega, by omega⟩]
theorem e_impl_isSequence (l : List Od) (s : List Int) (hl : l.length ≤ 1048576) (hs : s.length ≤ 1048576) (hin : ∀ x ∈ s, inI x) : F_impl_isSequence [ods l, ints s] = some (.ret [B (askO l s)] []) := by
  rw [t_impl_isSequence]
  cases hg : goodO l
  · simp -implicitDefEqProofs [e_impl_AreOrders l hl, hg, askO]
  by_cases hn : s.length = l.length
  case neg =>
    have hn' : ¬ (s.length : Int) = (l.length : Int) := by omega
    simp -implicitDefEqProofs [e_impl_AreOrders l hl, hg, askO, hn, hn']
  have hn' : (s.length : Int) = (l.length : Int) := by omega
  have hd := e_fDif s l.length hin hs hl
  simp -implicitDefEqProofs [e_impl_AreOrders l hl, hg, askO, hn, hd]

theorem one_int (a : Int) : mkArr 1 [I a] = some (ints [a]) := by simp [mkArr, lenOkD]
theorem chk_int (a : Int) : chkA (ints [a]) = some (ints [a]) := chkA_map fun _ => rfl
theorem app_ints {l m : List Int} (h : l.length + m.length ≤ 1048577) : appD 1 8 (ints l) (ints m) = some (ints (l ++ m)) := by
  rw [appD_eq, if_pos (by simp only [List.length_map]; omega)]
  simp
theorem ord_at {l : List Od} {k : Int} (h : 0 ≤ k ∧ k < l.length) : elemD 4 (ods l) (I k) = some [I (oAt l k).1, I (oAt l k).2.1, I (oAt l k).2.2.1, I (oAt l k).2.2.2] := by
  have hlt : k.toNat < l.length := by omega
  rw [elemD_int h.1]
  simp [hlt, oAt]
abbrev at0 (l : List Od) (s : List Int) (i : Nat) : Int × Int × Int := (s.take i).foldl (runO l) (0, 0, 0)
theorem e_spec_orTimes (l : List Od) (s : List Int) (hg : ∀ x ∈ l, isOd x = true) (hs : ∀ k ∈ s, 0 ≤ k ∧ k < l.length) (hl : s.length ≤ 100) : F_spec_orTimes [ods l, ints s] = some (.ret [ints (timesO l (0, 0, 0) s), I (s.foldl (runO l) (0, 0, 0)).2.2] []) := by
  rw [t_spec_orTimes]
  simp only [lenD_arr, List.length_map, Option.bind_some]
  refine loop_bind _ (loop_for s.length (fun i => [ods l, ints (timesO l (0, 0, 0) (s.take i)), I (at0 l s i).1, I (at0 l s i).2.1, I (at0 l s i).2.2, ints s, I s.length, I i]) (.ext 0 [ints (timesO l (0, 0, 0) s), I (s.foldl (runO l) (0, 0, 0)).2.2]) (fun i hi => ?_) ?_ rfl rfl) ?_
  · have hi' : (i : Int) < (s.length : Int) := by omega
    have hk := hs s[i] (List.getElem_mem hi)
    have b1 := way_in hg hs i (by omega)
    have b2 := way_in hg hs (i + 1) hi
    have hel : elemD 1 (ints s) (I (i : Int)) = some [I s[i]] := by simp [hi]
    have hw : IntKind.i64.wrap ((i : Int) + 1) = ((i + 1 : Nat) : Int) := by rw [wrap_id (by omega) (by omega)]; omega
    have ht := times_take (l := l) hi (0, 0, 0)
    have hlen := timesO_len l (s.take i) (0, 0, 0)
    rw [List.length_take] at hlen
    have hap := app_ints (l := timesO l (0, 0, 0) (s.take i)) (m := [((s.take (i + 1)).foldl (runO l) (0, 0, 0)).2.1]) (by simp only [List.length_singleton]; omega)
    rw [← ht] at hap
    have hsq : (500 : Int) * ((i + 1 : Nat) : Int) * ((i + 1 : Nat) : Int) ≤ 500 * 100 * 100 := by
      have h1 : ((i + 1 : Nat) : Int) ≤ 100 := by omega
      have h2 : (500 : Int) * ((i + 1 : Nat) : Int) ≤ 500 * 100 := by omega
      exact Int.mul_le_mul h2 h1 (by omega) (by omega)
    show _ = some (Out.nrm [ods l, ints (timesO l (0, 0, 0) (s.take (i + 1))), I (at0 l s (i + 1)).1, I (at0 l s (i + 1)).2.1, I (at0 l s (i + 1)).2.2, ints s, I s.length, I ((i + 1 : Nat) : Int)])
    unfold at0 at *
    rw [way_take hi] at b2 hap ⊢
    generalize (s.take i).foldl (runO l) (0, 0, 0) = a at *
    obtain ⟨c, p, w⟩ := a
    simp only [runO] at b1 b2 hap ⊢
    have w1 : IntKind.i64.wrap (c + (oAt l s[i]).2.1) = c + (oAt l s[i]).2.1 := wrap_id (by omega) (by omega)
    have w2 : IntKind.i64.wrap (c + (oAt l s[i]).2.1 - p) = c + (oAt l s[i]).2.1 - p := wrap_id (by omega) (by omega)
    have w3 : IntKind.i64.wrap (w + max 0 (c + (oAt l s[i]).2.1 - p)) = w + max 0 (c + (oAt l s[i]).2.1 - p) := wrap_id (by omega) (by omega)
    have w4 : IntKind.i64.wrap (max p (c + (oAt l s[i]).2.1) + (oAt l s[i]).2.2.1) = max p (c + (oAt l s[i]).2.1) + (oAt l s[i]).2.2.1 := wrap_id (by omega) (by omega)
    simp -implicitDefEqProofs only [sl_zero, sl_succ, bin_lss, hi', decide_true, Option.bind_some, ifD_B, if_true, hel, Option.map_some, ldD_ptr, takeD_f, chkV_v, ord_at hk, offD_ptr, List.drop_succ_cons, List.drop_zero, bin_add, w1, bin_sub, w2, e_spec_l1Most, callK_ret, w3, w4, one_int, chk_int, hap, hw]
  · simp [at0]
  · simp
theorem e_impl_finished (l : List Od) (s : List Int) (hg : ∀ x ∈ l, isOd x = true) (hs : ∀ k ∈ s, 0 ≤ k ∧ k < l.length) (hl : s.length ≤ 100) : F_impl_finished [ods l, ints s] = some (.ret [ints (timesO l (0, 0, 0) s)] []) := by
  rw [t_impl_finished]
  simp only [lenD_arr, List.length_map, Option.bind_some, mkArr_nil]
  refine loop_bind _ (loop_for s.length (fun i => [ods l, ints (timesO l (0, 0, 0) (s.take i)), I (at0 l s i).1, I (at0 l s i).2.1, ints s, I s.length, I i]) (.ext 0 [ints (timesO l (0, 0, 0) s)]) (fun i hi => ?_) ?_ rfl rfl) ?_
  · have hi' : (i : Int) < (s.length : Int) := by omega
    have hk := hs s[i] (List.getElem_mem hi)
    have b1 := way_in hg hs i (by omega)
    have b2 := way_in hg hs (i + 1) hi
    have hel : elemD 1 (ints s) (I (i : Int)) = some [I s[i]] := by simp [hi]
    have hw : IntKind.i64.wrap ((i : Int) + 1) = ((i + 1 : Nat) : Int) := by rw [wrap_id (by omega) (by omega)]; omega
    have ht := times_take (l := l) hi (0, 0, 0)
    have hlen := timesO_len l (s.take i) (0, 0, 0)
    rw [List.length_take] at hlen
    have hap := app_ints (l := timesO l (0, 0, 0) (s.take i)) (m := [((s.take (i + 1)).foldl (runO l) (0, 0, 0)).2.1]) (by simp only [List.length_singleton]; omega)
    rw [← ht] at hap
    show _ = some (Out.nrm [ods l, ints (timesO l (0, 0, 0) (s.take (i + 1))), I (at0 l s (i + 1)).1, I (at0 l s (i + 1)).2.1, ints s, I s.length, I ((i + 1 : Nat) : Int)])
    unfold at0 at *
    rw [way_take hi] at b2 hap ⊢
    generalize (s.take i).foldl (runO l) (0, 0, 0) = a at *
    obtain ⟨c, p, w⟩ := a
    simp only [runO] at b1 b2 hap ⊢
    have w1 : IntKind.i64.wrap (c + (oAt l s[i]).2.1) = c + (oAt l s[i]).2.1 := wrap_id (by omega) (by omega)
    have w4 : IntKind.i64.wrap (max p (c + (oAt l s[i]).2.1) + (oAt l s[i]).2.2.1) = max p (c + (oAt l s[i]).2.1) + (oAt l s[i]).2.2.1 := wrap_id (by omega) (by omega)
    simp -implicitDefEqProofs only [sl_zero, sl_succ, bin_lss, hi', decide_true, Option.bind_some, ifD_B, if_true, hel, Option.map_some, ldD_ptr, takeD_f, chkV_v, ord_at hk, offD_ptr, List.drop_succ_cons, List.drop_zero, bin_add, w1, maxD_I, w4, one_int, chk_int, hap, hw]
  · simp
  · simp
theorem e_impl_greatest (l : List Int) (h : l.length ≤ 1048577) : F_impl_greatest [ints l] = some (.ret [I (mostL l)] []) := by
  rw [t_impl_greatest]
  simp only [lenD_arr, List.length_map, Option.bind_some]
  refine loop_bind _ (loop_foldl l (fun i a => [I a, ints l, I l.length, I i]) max (fun a => .ext 0 [I a]) 0 (fun i a hi => ?_) (fun a => ?_) (fun _ => rfl) rfl) ?_
  · have hw : IntKind.i64.wrap ((i : Int) + 1) = (i : Int) + 1 := wrap_id (by omega) (by omega)
    simp -implicitDefEqProofs [hi, hw, maxD_I]
  · simp
  · simp [mostL]
end Go.Proofs.Ytdgenchlghojlaa
/-
  Late orders, sums; three laws.
-/
namespace Go.Proofs.Ytdgenchlghojlaa
open Go Go.V
set_option linter.unusedSimpArgs false

abbrev tms (l : List Od) (s : List Int) : List Int := timesO l (0, 0, 0) s
def lateF (l : List Od) (s : List Int) (i : Nat) : Int := max 0 ((tms l s).getD i 0 - (oAt l (s.getD i 0)).2.2.2)
def lateO (l : List Od) (s : List Int) (n : Nat) : List Int := (List.range n).map (lateF l s)
theorem lateO_succ (l : List Od) (s : List Int) (n : Nat) : lateO l s (n + 1) = lateO l s n ++ [lateF l s n] := by simp [lateO, List.range_succ]
theorem lateO_len (l : List Od) (s : List Int) (n : Nat) : (lateO l s n).length = n := by simp [lateO]
theorem times_at {l : List Od} (hg : ∀ x ∈ l, isOd x = true) {s : List Int} (hs : ∀ k ∈ s, 0 ≤ k ∧ k < l.length) (hl : s.length ≤ 100) {i : Nat} (hi : i < s.length) : ∃ t, (tms l s)[i]? = some t ∧ 0 ≤ t ∧ t ≤ 100000 := by
  have hlen := timesO_len l s (0, 0, 0)
  have key : ∀ (n : Nat), n ≤ s.length → ∀ t ∈ timesO l (0, 0, 0) (s.take n), 0 ≤ t ∧ t ≤ 100000 := by
    intro n
    induction n with
    | zero => intro _ t ht; simp [timesO] at ht
    | succ n ih =>
      intro hn t ht
      rw [times_take (by omega)] at ht
      rcases List.mem_append.1 ht with ht | ht
      · exact ih (by omega) t ht
      · rw [List.mem_singleton.1 ht]
        have := way_in hg hs (n + 1) hn
        omega
  have hlt : i < (tms l s).length := by rw [hlen]; exact hi
  refine ⟨(tms l s)[i], List.getElem?_eq_getElem hlt, ?_⟩
  have := key s.length (Nat.le_refl _) (tms l s)[i] (by rw [List.take_length]; exact List.getElem_mem hlt)
  exact this
theorem od_due {l : List Od} (hg : ∀ x ∈ l, isOd x = true) {k : Int} (hk : 0 ≤ k ∧ k < l.length) : 0 ≤ (oAt l k).2.2.2 ∧ (oAt l k).2.2.2 ≤ 10000 := by
  have hlt : k.toNat < l.length := by omega
  have e : oAt l k = l[k.toNat] := by simp [oAt, hlt]
  have ho := hg _ (List.getElem_mem hlt)
  rw [← e] at ho
  simp only [isOd, Bool.and_eq_true, decide_eq_true_eq] at ho
  exact ho.2
theorem late_in {l : List Od} (hg : ∀ x ∈ l, isOd x = true) {s : List Int} (hs : ∀ k ∈ s, 0 ≤ k ∧ k < l.length) (hl : s.length ≤ 100) : ∀ x ∈ lateO l s s.length, 0 ≤ x ∧ x ≤ 100000 := by
  intro x hx
  obtain ⟨i, hi, rfl⟩ := List.mem_map.1 hx
  have hi := List.mem_range.1 hi
  obtain ⟨t, h1, h2, h3⟩ := times_at hg hs hl hi
  have hd := od_due hg (hs s[i] (List.getElem_mem hi))
  have e1 : (tms l s).getD i 0 = t := by rw [List.getD_eq_getElem?_getD, h1]; rfl
  have e2 : s.getD i 0 = s[i] := by simp [hi]
  unfold lateF
  rw [e1, e2]
  omega
theorem e_spec_orLate (l : List Od) (s : List Int) (hg : ∀ x ∈ l, isOd x = true) (hs : ∀ k ∈ s, 0 ≤ k ∧ k < l.length) (hl : s.length ≤ 100) : F_spec_orLate [ods l, ints s] = some (.ret [ints (lateO l s s.length)] []) := by
  rw [t_spec_orLate]
  simp only [e_spec_orTimes l s hg hs hl, callK_ret, show ∀ a b : D, tupAt (.tup [ints (tms l s), I (s.foldl (runO l) (0, 0, 0)).2.2]) 0 = some (ints (tms l s)) from fun _ _ => rfl, show tupAt (.tup [ints (tms l s), I (s.foldl (runO l) (0, 0, 0)).2.2]) 0 = some (ints (tms l s)) from rfl,
    show tupAt (tupCut (.tup [ints (tms l s), I (s.foldl (runO l) (0, 0, 0)).2.2]) 0) 1 = some (I (s.foldl (runO l) (0, 0, 0)).2.2) from rfl, lenD_arr, List.length_map, Option.bind_some]
  refine loop_bind _ (loop_for s.length (fun i => [ods l, ints (tms l s), ints (lateO l s i), ints s, I s.length, I i]) (.ext 0 [ints (lateO l s s.length)]) (fun i hi => ?_) ?_ rfl rfl) ?_
  · have hi' : (i : Int) < (s.length : Int) := by omega
    have hk := hs s[i] (List.getElem_mem hi)
    have hel : elemD 1 (ints s) (I (i : Int)) = some [I s[i]] := by simp [hi]
    obtain ⟨t, h1, h2, h3⟩ := times_at hg hs hl hi
    have hel2 : elemD 1 (ints (tms l s)) (I (i : Int)) = some [I t] := by simp [h1]
    have hd := od_due hg hk
    have hw : IntKind.i64.wrap ((i : Int) + 1) = ((i + 1 : Nat) : Int) := by rw [wrap_id (by omega) (by omega)]; omega
    have hwd : IntKind.i64.wrap (t - (oAt l s[i]).2.2.2) = t - (oAt l s[i]).2.2.2 := wrap_id (by omega) (by omega)
    have hlen := lateO_len l s i
    have hap := app_ints (l := lateO l s i) (m := [lateF l s i]) (by simp only [List.length_singleton]; omega)
    rw [← lateO_succ] at hap
    have e1 : (tms l s).getD i 0 = t := by rw [List.getD_eq_getElem?_getD, h1]; rfl
    have e2 : s.getD i 0 = s[i] := by simp [hi]
    have hf : lateF l s i = max 0 (t - (oAt l s[i]).2.2.2) := by unfold lateF; rw [e1, e2]
    rw [hf] at hap
    simp -implicitDefEqProofs only [sl_zero, sl_succ, bin_lss, hi', decide_true, Option.bind_some, ifD_B, if_true, hel, hel2, Option.map_some, ldD_ptr, takeD_f, chkV_v, ord_at hk, offD_ptr, List.drop_succ_cons, List.drop_zero, bin_add, bin_sub, hwd, e_spec_l1Most, callK_ret, one_int, chk_int, hap, hw]
  · simp
  · simp
theorem e_impl_lateness (l : List Od) (s : List Int) (hg : ∀ x ∈ l, isOd x = true) (hs : ∀ k ∈ s, 0 ≤ k ∧ k < l.length) (hl : s.length ≤ 100) : F_impl_lateness [ods l, ints s] = some (.ret [ints (lateO l s s.length)] []) := by
  rw [t_impl_lateness]
  have hlen := timesO_len l s (0, 0, 0)
  simp only [mkArr_nil, e_impl_finished l s hg hs hl, callK_ret, sl_zero, lenD_arr, List.length_map, Option.bind_some, hlen]
  refine loop_bind _ (loop_for s.length (fun i => [ods l, ints s, ints (lateO l s i), ints (tms l s), I s.length, I i]) (.ext 0 [ints (lateO l s s.length)]) (fun i hi => ?_) ?_ rfl rfl) ?_
  · have hi' : (i : Int) < (s.length : Int) := by omega
    have hk := hs s[i] (List.getElem_mem hi)
    have hel : elemD 1 (ints s) (I (i : Int)) = some [I s[i]] := by simp [hi]
    obtain ⟨t, h1, h2, h3⟩ := times_at hg hs hl hi
    have hel2 : elemD 1 (ints (tms l s)) (I (i : Int)) = some [I t] := by simp [h1]
    have hd := od_due hg hk
    have hw : IntKind.i64.wrap ((i : Int) + 1) = ((i + 1 : Nat) : Int) := by rw [wrap_id (by omega) (by omega)]; omega
    have hwd : IntKind.i64.wrap (t - (oAt l s[i]).2.2.2) = t - (oAt l s[i]).2.2.2 := wrap_id (by omega) (by omega)
    have hlen := lateO_len l s i
    have hap := app_ints (l := lateO l s i) (m := [lateF l s i]) (by simp only [List.length_singleton]; omega)
    rw [← lateO_succ] at hap
    have e1 : (tms l s).getD i 0 = t := by rw [List.getD_eq_getElem?_getD, h1]; rfl
    have e2 : s.getD i 0 = s[i] := by simp [hi]
    have hf : lateF l s i = max 0 (t - (oAt l s[i]).2.2.2) := by unfold lateF; rw [e1, e2]
    rw [hf] at hap
    simp -implicitDefEqProofs only [sl_zero, sl_succ, bin_lss, hi', decide_true, Option.bind_some, ifD_B, if_true, hel, hel2, Option.map_some, ldD_ptr, takeD_f, chkV_v, ord_at hk, offD_ptr, List.drop_succ_cons, List.drop_zero, bin_add, bin_sub, hwd, maxD_I, one_int, chk_int, hap, hw]
  · simp
  · simp
theorem sum_step (l : List Int) (hl : l.length ≤ 1048576) (hx : ∀ x ∈ l, 0 ≤ x ∧ x ≤ 100000) (i : Nat) (a : Int) (hi : i < l.length) (ha : 0 ≤ a ∧ a ≤ 100000 * (i : Int)) : IntKind.i64.wrap (a + l[i]) = a + l[i] ∧ (0 ≤ a + l[i] ∧ a + l[i] ≤ 100000 * ((i + 1 : Nat) : Int)) := by
  have := hx l[i] (List.getElem_mem hi)
  exact ⟨wrap_id (by omega) (by omega), by omega, by omega⟩
theorem foldI_add (l : List Int) : ∀ (i : Nat) (a : Int), foldI (fun _ a x => a + x) i l a = l.foldl (· + ·) a := by
  induction l with
  | nil => intro i a; rfl
  | cons x l ih => intro i a; simp only [foldI, List.foldl_cons, ih]
theorem e_spec_juSum (l : List Int) (hl : l.length ≤ 1048576) (hx : ∀ x ∈ l, 0 ≤ x ∧ x ≤ 100000) : F_spec_juSum [ints l] = some (.ret [I (l.foldl (· + ·) 0)] []) := by
  rw [t_spec_juSum]
  simp only [lenD_arr, List.length_map, Option.bind_some]
  refine loop_bind _ (loop_foldi l (fun i a => [I a, ints l, I l.length, I i]) (fun i a => 0 ≤ a ∧ a ≤ 100000 * (i : Int)) (fun _ a x => a + x) (fun a => .ext 0 [I a]) 0 (fun i a hi ha => ?_) (fun a _ => ?_) (fun _ => rfl) (by simp) rfl) ?_
  · have hw : IntKind.i64.wrap ((i : Int) + 1) = (i : Int) + 1 := wrap_id (by omega) (by omega)
    obtain ⟨h1, h2⟩ := sum_step l hl hx i a hi ha
    exact ⟨by simp -implicitDefEqProofs [hi, hw, h1], h2⟩
  · simp
  · simp [foldI_add]
theorem e_impl_sum (l : List Int) (hl : l.length ≤ 1048576) (hx : ∀ x ∈ l, 0 ≤ x ∧ x ≤ 100000) : F_impl_sum [ints l] = some (.ret [I (l.foldl (· + ·) 0)] []) := by
  rw [t_impl_sum]
  simp only [lenD_arr, List.length_map, Option.bind_some]
  refine loop_bind _ (loop_foldi l (fun i a => [I a, ints l, I l.length, I i]) (fun i a => 0 ≤ a ∧ a ≤ 100000 * (i : Int)) (fun _ a x => a + x) (fun a => .ext 0 [I a]) 0 (fun i a hi ha => ?_) (fun a _ => ?_) (fun _ => rfl) (by simp) rfl) ?_
  · have hw : IntKind.i64.wrap ((i : Int) + 1) = (i : Int) + 1 := wrap_id (by omega) (by omega)
    obtain ⟨h1, h2⟩ := sum_step l hl hx i a hi ha
    exact ⟨by simp -implicitDefEqProofs [hi, hw, h1], h2⟩
  · simp
  · simp [foldI_add]

/-! ### the functions of the laws -/
def finR (l : List Od) (s : List Int) : List Int := if askO l s = true then tms l s else []
def totR (l : List Od) (s : List Int) : Int := if askO l s = true then (lateO l s s.length).foldl (· + ·) 0 else 0
def idlR (l : List Od) (s : List Int) : Int := if askO l s = true then (s.foldl (runO l) (0, 0, 0)).2.2 else 0
section
variable (l : List Od) (s : List Int) (hl : l.length ≤ 1048576) (hs : s.length ≤ 1048576) (hin : ∀ x ∈ s, inI x)
include hl
theorem e_spec_FinishTimes : F_spec_FinishTimes [ods l, ints s] = some (.ret [ints (finR l s), B (askO l s)] []) := by
  rw [t_spec_FinishTimes]
  unfold finR
  cases ha : askO l s
  · simp -implicitDefEqProofs [e_spec_orAsked l s hl, ha]
  · obtain ⟨h1, h2, h3, h4, h5⟩ := askO_facts ha
    simp -implicitDefEqProofs [e_spec_orAsked l s hl, ha, e_spec_orTimes l s h1 h5 (by omega)]
theorem e_spec_TotalLateness : F_spec_TotalLateness [ods l, ints s] = some (.ret [I (totR l s), B (askO l s)] []) := by
  rw [t_spec_TotalLateness]
  unfold totR
  cases ha : askO l s
  · simp -implicitDefEqProofs [e_spec_orAsked l s hl, ha]
  · obtain ⟨h1, h2, h3, h4, h5⟩ := askO_facts ha
    simp -implicitDefEqProofs [e_spec_orAsked l s hl, ha, e_spec_orLate l s h1 h5 (by omega), e_spec_juSum _ (show (lateO l s s.length).length ≤ 1048576 by rw [lateO_len]; omega) (late_in h1 h5 (by omega))]
theorem e_spec_IdlePress : F_spec_IdlePress [ods l, ints s] = some (.ret [I (idlR l s), B (askO l s)] []) := by
  rw [t_spec_IdlePress]
  unfold idlR
  cases ha : askO l s
  · simp -implicitDefEqProofs [e_spec_orAsked l s hl, ha]
  · obtain ⟨h1, h2, h3, h4, h5⟩ := askO_facts ha
    simp -implicitDefEqProofs [e_spec_orAsked l s hl, ha, e_spec_orTimes l s h1 h5 (by omega)]
include hs hin
theorem e_impl_FinishTimes : F_impl_FinishTimes [ods l, ints s] = some (.ret [ints (finR l s), B (askO l s)] []) := by
  rw [t_impl_FinishTimes]
  unfold finR
  cases ha : askO l s
  · simp -implicitDefEqProofs [e_impl_isSequence l s hl hs hin, ha, mkArr_nil]
  · obtain ⟨h1, h2, h3, h4, h5⟩ := askO_facts ha
    simp -implicitDefEqProofs [e_impl_isSequence l s hl hs hin, ha, e_impl_finished l s h1 h5 (by omega)]
theorem e_impl_TotalLateness : F_impl_TotalLateness [ods l, ints s] = some (.ret [I (totR l s), B (askO l s)] []) := by
  rw [t_impl_TotalLateness]
  unfold totR
  cases ha : askO l s
  · simp -implicitDefEqProofs [e_impl_isSequence l s hl hs hin, ha]
  · obtain ⟨h1, h2, h3, h4, h5⟩ := askO_facts ha
    simp -implicitDefEqProofs [e_impl_isSequence l s hl hs hin, ha, e_impl_lateness l s h1 h5 (by omega), e_impl_sum _ (show (lateO l s s.length).length ≤ 1048576 by rw [lateO_len]; omega) (late_in h1 h5 (by omega))]
theorem e_impl_IdlePress : F_impl_IdlePress [ods l, ints s] = some (.ret [I (idlR l s), B (askO l s)] []) := by
  rw [t_impl_IdlePress]
  unfold idlR
  cases ha : askO l s
  · simp -implicitDefEqProofs [e_impl_isSequence l s hl hs hin, ha]
  · obtain ⟨h1, h2, h3, h4, h5⟩ := askO_facts ha
    have hm := most_times h1 h5
    have hid := idle_eq h4 h3
    have hlen := timesO_len l s (0, 0, 0)
    have hb := way_in h1 h5 s.length (Nat.le_refl _)
    rw [List.take_length] at hb
    have hb4 := hb.2.2.2.1
    have hb3 := hb.2.2.1
    simp -implicitDefEqProofs only [e_impl_isSequence l s hl hs hin, ha, callK_ret, sl_zero, un_not, Bool.not_true, Option.bind_some, ifD_B, Bool.false_eq_true, if_false, if_true, e_impl_finished l s h1 h5 (by omega), e_impl_greatest (timesO l (0, 0, 0) s) (by rw [hlen]; omega), hm, lenD_arr, List.length_map]
    refine loop_bind _ (loop_foldi l (fun i a => [I a, ods l, I l.length, I i]) (fun i a => -500 * (i : Int) ≤ a ∧ a ≤ 100000) (fun _ a x => a - x.2.2.1) (fun a => .ext 0 [I a]) _ (fun i a hi hA => ?_) (fun a _ => ?_) (fun _ => rfl) (by simp; omega) rfl) ?_
    · have hw : IntKind.i64.wrap ((i : Int) + 1) = (i : Int) + 1 := wrap_id (by omega) (by omega)
      have ho := h1 l[i] (List.getElem_mem hi)
      simp only [isOd, Bool.and_eq_true, decide_eq_true_eq] at ho
      have hwa : IntKind.i64.wrap (a - l[i].2.2.1) = a - l[i].2.2.1 := wrap_id (by omega) (by omega)
      exact ⟨by simp -implicitDefEqProofs [hi, hw, hwa], by omega⟩
    · simp
    · have key : ∀ (m : List Od) (i : Nat) (a b : Int), foldI (fun _ a (x : Od) => a - x.2.2.1) i m (a - b) = a - m.foldl (fun a x => a + x.2.2.1) b := by
        intro m
        induction m with
        | nil => intro i a b; rfl
        | cons x m ih =>
          intro i a b
          simp only [foldI, List.foldl_cons]
          rw [← ih (i + 1) a (b + x.2.2.1)]
          congr 1
          omega
      have hk := key l 0 (s.foldl (runO l) (0, 0, 0)).2.1 0
      rw [Int.sub_zero] at hk
      unfold printS at hid
      rw [hk, hid]
      simp
end
theorem finR_len (l : List Od) (s : List Int) : (finR l s).length ≤ s.length := by
  unfold finR
  split
  · rw [timesO_len]; exact Nat.le_refl _
  · exact Nat.zero_le _
theorem law_IdlePress (l : List Od) (s : List Int) (_h : l.length ≤ 9223372036854775807) (hin : ∀ x ∈ s, inI x) : F_laws_FnExactIdlePress [ods l, ints s] = some (.ret [B true] []) := by
  rw [t_laws_FnExactIdlePress]
  by_cases hs : 1048576 < (s.length : Int)
  · simp -implicitDefEqProofs [hs]
  obtain ⟨m, h1, h2⟩ := e_laws_szOrderS l 1048576
  by_cases hm : m < 0
  · simp -implicitDefEqProofs [hs, h1, hm]
  have h3 := h2 (by omega)
  rw [wrap_id (by omega) (by omega)] at h3
  have hl : l.length ≤ 1048576 := by omega
  have hs' : s.length ≤ 1048576 := by omega
  simp -implicitDefEqProofs [hs, h1, hm, e_laws_toOrderS l hl, e_laws_toIntS s hs', e_spec_IdlePress l s hl, e_impl_IdlePress l s hl hs' hin, e_laws_eqOrderS l (by omega), e_laws_eqIntS s (by omega)]
theorem law_TotalLateness (l : List Od) (s : List Int) (_h : l.length ≤ 9223372036854775807) (hin : ∀ x ∈ s, inI x) : F_laws_FnExactTotalLateness [ods l, ints s] = some (.ret [B true] []) := by
  rw [t_laws_FnExactTotalLateness]
  by_cases hs : 1048576 < (s.length : Int)
  · simp -implicitDefEqProofs [hs]
  obtain ⟨m, h1, h2⟩ := e_laws_szOrderS l 1048576
  by_cases hm : m < 0
  · simp -implicitDefEqProofs [hs, h1, hm]
  have h3 := h2 (by omega)
  rw [wrap_id (by omega) (by omega)] at h3
  have hl : l.length ≤ 1048576 := by omega
  have hs' : s.length ≤ 1048576 := by omega
  simp -implicitDefEqProofs [hs, h1, hm, e_laws_toOrderS l hl, e_laws_toIntS s hs', e_spec_TotalLateness l s hl, e_impl_TotalLateness l s hl hs' hin, e_laws_eqOrderS l (by omega), e_laws_eqIntS s (by omega)]
theorem law_FinishTimes (l : List Od) (s : List Int) (_h : l.length ≤ 9223372036854775807) (hin : ∀ x ∈ s, inI x) : F_laws_FnExactFinishTimes [ods l, ints s] = some (.ret [B true] []) := by
  rw [t_laws_FnExactFinishTimes]
  by_cases hs : 1048576 < (s.length : Int)
  · simp -implicitDefEqProofs [hs]
  obtain ⟨m, h1, h2⟩ := e_laws_szOrderS l 1048576
  by_cases hm : m < 0
  · simp -implicitDefEqProofs [hs, h1, hm]
  have h3 := h2 (by omega)
  rw [wrap_id (by omega) (by omega)] at h3
  have hl : l.length ≤ 1048576 := by omega
  have hs' : s.length ≤ 1048576 := by omega
  have hn := finR_len l s
  have k1 := e_laws_markOrderS l 1 (by omega) (by omega) (by omega)
  have k2 := e_laws_markIntS s (1 + 4 * (l.length : Int)) (by omega) (by omega) (by omega)
  have k3 := e_laws_markIntS (finR l s) 1 (by omega) (by omega) (by omega)
  have k4 := e_laws_heldIntS 1 (finR l s).length (by omega) (by omega) (by omega)
  have p1 : ¬ (1 + 4 * (l.length : Int) + (s.length : Int) < 0) := by omega
  have p2 : ¬ (1 + ((finR l s).length : Int) < 0) := by omega
  simp -implicitDefEqProofs [hs, h1, hm, e_laws_toOrderS l hl, e_laws_toIntS s hs', e_spec_FinishTimes l s hl, e_impl_FinishTimes l s hl hs' hin, e_laws_eqOrderS l (by omega), e_laws_eqIntS s (by omega), e_laws_eqIntS (finR l s) (by omega), k1, k2, k3, k4, p1, p2]
end Go.Proofs.Ytdgenchlghojlaa
/-
  The closures that order orders: walked by hand.
-/
namespace Go.Proofs.Ytdgenchlghojlaa
open Go Go.Proofs Go.V Go.RowKit Go.Sort
set_option linter.unusedSimpArgs false

abbrev odV (x : Od) : Value := .agg #[.int .i64 x.1, .int .i64 x.2.1, .int .i64 x.2.2.1, .int .i64 x.2.2.2]
def dueLt (a b : Od) : Bool := decide (a.2.2.2 < b.2.2.2)
def fstLt (a b : Od) : Bool :=
  if decide (a.2.1 < a.2.2.1) != decide (b.2.1 < b.2.2.1) then decide (a.2.1 < a.2.2.1)
  else if decide (a.2.1 < a.2.2.1) = true then decide (a.2.1 < b.2.1) else decide (b.2.2.1 < a.2.2.1)
/-- What a less of orders does. -/
def LessO (gl : Nat) (lt : Od → Od → Bool) : Prop :=
  (∀ args w, (callFunc gl args).run Try.prog w = .ok (.enter gl args) w) ∧
  ∀ (a b : Od) (W : World), Calls Try.prog gl #[odV a, odV b] W fun e w' => e = .returned (.bool (lt a b)) ∧ ∃ q os, w' = grow (W.drewN q) os

theorem grow2 (W : World) (a b : Obj) : (W.alloc a).alloc b = grow (W.drewN 0) #[a, b] := by
  rw [alloc_eq_grow, alloc_eq_grow, grow_grow]
  rfl
theorem grow2q (W : World) (a b : Obj) (q : Nat) : ((W.alloc a).alloc b).drewN q = grow (W.drewN q) #[a, b] := by
  rw [alloc_eq_grow, alloc_eq_grow, grow_grow]
  rfl
set_option maxHeartbeats 2000000 in
set_option maxRecDepth 1000000 in
theorem due_walk : LessO 70 dueLt := by
  refine ⟨Go.Proofs.enters_of Try.func70 (by kernel_rfl) rfl, fun a b W => ?_⟩
  go_enter Try.func70, Try.ntmps70
  go_wp2
  go_ret
  exact ⟨rfl, 0, _, grow2 W _ _⟩

set_option maxHeartbeats 2000000 in
set_option maxRecDepth 1000000 in
theorem fst_walk : LessO 55 fstLt := by
  refine ⟨Go.Proofs.enters_of Try.func55 (by kernel_rfl) rfl, fun a b W => ?_⟩
  go_enter Try.func55, Try.ntmps55
  go_wp2
  go_quiet (fail)
  go_wp2
  all_goals
    go_ret
    refine ⟨congrArg (fun b => Ending.returned (.bool b)) ?_, nq, _, grow2q W _ _ nq⟩
    unfold fstLt
    by_cases g1 : a.2.1 < a.2.2.1 <;> by_cases g2 : b.2.1 < b.2.2.1 <;> first | (exfalso; omega) | (simp only [g1, g2, decide_true, decide_false, bne_self_eq_false, Bool.false_eq_true, if_true, if_false, Bool.true_bne, Bool.false_bne, Bool.not_false, Bool.not_true, beq_self_eq_true] at * <;> first | rfl | simp_all)

set_option maxHeartbeats 1000000 in
set_option maxRecDepth 1000000 in
theorem lessq_walk {gl : Nat} {lt : Od → Od → Bool} (hl : LessO gl lt) (i j : Nat) (x y : Nat) (a b : Od) (Bl Bo Bs bo oo co n g og cg ng : Nat) (W : World)
    (h1 : W.cell? ⟨Bl, 0, none⟩ = some (.func (.func gl) #[] #[])) (h2 : W.cell? ⟨Bo, 0, none⟩ = some (.slice (some ⟨bo, oo, none⟩) n co)) (h3 : W.cell? ⟨Bs, 0, none⟩ = some (.slice (some ⟨g, og, none⟩) ng cg))
    (hi : i < ng) (hj : j < ng) (hx : x < n) (hy : y < n)
    (c1 : W.cell? ⟨g, og + i, none⟩ = some (.int .i64 x)) (c2 : W.cell? ⟨g, og + j, none⟩ = some (.int .i64 y))
    (d0 : W.cell? ⟨bo, oo + x * 4, none⟩ = some (.int .i64 a.1)) (d1 : W.cell? ⟨bo, oo + x * 4 + 1, none⟩ = some (.int .i64 a.2.1)) (d2 : W.cell? ⟨bo, oo + x * 4 + 2, none⟩ = some (.int .i64 a.2.2.1)) (d3 : W.cell? ⟨bo, oo + x * 4 + 3, none⟩ = some (.int .i64 a.2.2.2))
    (e0 : W.cell? ⟨bo, oo + y * 4, none⟩ = some (.int .i64 b.1)) (e1 : W.cell? ⟨bo, oo + y * 4 + 1, none⟩ = some (.int .i64 b.2.1)) (e2 : W.cell? ⟨bo, oo + y * 4 + 2, none⟩ = some (.int .i64 b.2.2.1)) (e3 : W.cell? ⟨bo, oo + y * 4 + 3, none⟩ = some (.int .i64 b.2.2.2)) :
    Calls Try.prog 72 (#[.int .i64 i, .int .i64 j] ++ #[.pointer (some ⟨Bl, 0, none⟩), .pointer (some ⟨Bo, 0, none⟩), .pointer (some ⟨Bs, 0, none⟩)]) W fun e w' => e = .returned (.bool (lt a b)) ∧ ∃ q os, w' = grow (W.drewN q) os := by
  obtain ⟨eg, hc⟩ := hl
  go_enter Try.func72, Try.ntmps72
  go_wp2
  go_still_tail 15, (by kernel_rfl)
  change wpList _ _ _ _ _ (W.drewN 1)
  go_wp2_with (go_at_fn gl; refine (hc a b (W.drewN 1)).mono ?_; rintro e w' ⟨rfl, q, os, rfl⟩)
  go_ret
  exact ⟨rfl, 1 + q, os, rfl⟩
end Go.Proofs.Ytdgenchlghojlaa
/-
  impl.sequenceOf: walked by hand.
-/
namespace Go.Proofs.Ytdgenchlghojlaa
open Go Go.Proofs Go.V Go.RowKit Go.Sort
set_option linter.unusedSimpArgs false

def cellsO (x : Od) : List Value := [.int .i64 x.1, .int .i64 x.2.1, .int .i64 x.2.2.1, .int .i64 x.2.2.2]
/-- The indices of a list. -/
def idxL (n : Nat) : List Int := (List.range n).map fun (i : Nat) => (i : Int)
theorem idxL_succ (n : Nat) : idxL (n + 1) = idxL n ++ [(n : Int)] := by simp [idxL, List.range_succ]
theorem idxL_length (n : Nat) : (idxL n).length = n := by simp [idxL]
/-- The order at an index, and how an index lies in memory. -/
def oN (l : List Od) (x : Nat) : Od := l.getD (x % l.length) (0, 0, 0, 0)
def encN (n : Nat) (x : Nat) : Value := .int .i64 ((x % n : Nat) : Int)
def ltN (l : List Od) (lt : Od → Od → Bool) (x y : Nat) : Bool := lt (oN l x) (oN l y)
/-- The indices of orders, sorted. -/
def sortN (l : List Od) (lt : Od → Od → Bool) : Array Nat := Sort.insertionSort (ltN l lt) (List.range l.length).toArray 0 l.length
theorem size_insInner {α : Type} [Inhabited α] (lt : α → α → Bool) (a : Nat) : ∀ (j : Nat) (d : Array α), (insInner lt a j d).size = d.size
  | 0, d => by rw [insInner]
  | j + 1, d => by
    rw [insInner]
    split
    · rw [size_insInner lt a j, size_swp]
    · rfl
theorem size_insOuter {α : Type} [Inhabited α] (lt : α → α → Bool) (a b : Nat) : ∀ (k i : Nat) (d : Array α), b - i = k → (insOuter lt a b i d).size = d.size
  | 0, i, d, h => by rw [insOuter_stop lt a b i d (by omega)]
  | k + 1, i, d, h => by rw [insOuter_go lt a b i d (by omega), size_insOuter lt a b k (i + 1) _ (by omega), size_insInner]
theorem size_sortN (l : List Od) (lt : Od → Od → Bool) : (sortN l lt).size = l.length := by
  unfold sortN Sort.insertionSort
  rw [size_insOuter _ _ _ _ _ _ rfl]
  simp
section
variable {α : Type} [Inhabited α] {enc : α → Value} {w0 W : World} {g off : Nat} {dk : Array α}
theorem sw_block (h : SW enc w0 g 0 dk W) {cur : Array Value} {t : Nat} (hg : w0.heap[g]? = some (.cells cur t (0, 0))) (hs : dk.size ≤ cur.size) :
    ∃ cur', W.heap[g]? = some (.cells cur' t (0, 0)) ∧ cur'.size = cur.size ∧ ∀ (i : Nat) (u : Value), (dk.toList.map enc)[i]? = some u → cur'[i]? = some u := by
  obtain ⟨n, os, rfl⟩ := h
  have hb : g < w0.heap.size := (Array.getElem?_eq_some_iff.1 hg).1
  refine ⟨Go.Sort.putCells enc 0 dk cur, ?_, by simp [Go.Sort.putCells], fun i u hu => ?_⟩
  · unfold sortWorld
    rw [heap_grow_old _ _ (by rw [size_putRow]; exact hb)]
    unfold putRow mapBlock
    show (w0.heap.modify g _)[g]? = _
    rw [Array.getElem?_modify, if_pos rfl, hg]
    rfl
  · simp only [List.getElem?_map, Option.map_eq_some_iff] at hu
    obtain ⟨x, hx, rfl⟩ := hu
    rw [Array.getElem?_toList] at hx
    obtain ⟨hi, hx⟩ := Array.getElem?_eq_some_iff.1 hx
    have hic : i < cur.size := by omega
    unfold Go.Sort.putCells
    rw [Array.getElem?_mapIdx, Array.getElem?_eq_getElem hic]
    simp [hi, hx]
theorem sw_below (h : SW enc w0 g off dk W) {B : Nat} (hB : B ≤ g) (hs : B ≤ w0.heap.size) : Below B w0 W := by
  have hle := h.le
  obtain ⟨n, os, rfl⟩ := h
  refine ⟨rfl, rfl, rfl, hle, fun k hk => ?_⟩
  unfold sortWorld
  rw [heap_grow_old _ _ (by rw [size_putRow]; show k < w0.heap.size; omega)]
  unfold putRow mapBlock
  show (w0.heap.modify g _)[k]? = _
  rw [Array.getElem?_modify, if_neg (by omega)]
end
theorem info3 : (Try.prog.info? 3).map (fun i => (i.zero, i.size, i.bytes)) = some (some (.int .i64 0), 1, 8) := by kernel_rfl

theorem grown_set (w : World) (b : Nat) (v : Value) : w.grownBy (w.setCell ⟨b, 0, none⟩ v) (some b) :=
  ⟨rfl, rfl, rfl, by simp [World.setCell], fun k _ h => heap_setCell_other w ⟨b, 0, none⟩ k v (fun e => h (by rw [e]))⟩
theorem row_ne_box {w : World} {base e size n t b : Nat} {v x : Value} {xs : List Value} (h : w.ownsRow base e size v n xs) (hb : w.heap[b]? = some (.cells #[x] t (0, 0))) (ht : t ≠ e) : v.ownBlock ≠ some b := by
  obtain ⟨_, ⟨rfl, _⟩ | ⟨g, cap, cur, rfl, _, hg, _⟩⟩ := h
  · simp [Value.ownBlock]
  · intro e
    simp only [Value.ownBlock, Option.some.injEq] at e
    rw [e, hb] at hg
    simp only [Option.some.injEq, Obj.cells.injEq] at hg
    exact ht hg.2.1
theorem box_kept {wr w2 : World} {o : Obj} {b t : Nat} {v x : Value} (q : wr.heap[b]? = some (.cells #[x] t (0, 0))) (hg : (wr.alloc o).grownBy w2 v.ownBlock) (hn : v.ownBlock ≠ some b) : w2.heap[b]? = some (.cells #[x] t (0, 0)) := by
  have hb : b < wr.heap.size := (Array.getElem?_eq_some_iff.1 q).1
  have h1 : (wr.alloc o).heap[b]? = wr.heap[b]? := (World.grownBy_alloc wr o none).block b hb (by simp)
  exact (hg.block b (Nat.lt_of_lt_of_le hb (World.grownBy_alloc wr o none).size) (fun e => hn e.symm)).trans (h1.trans q)
theorem box_cell {w : World} {b t : Nat} {x : Value} (q : w.heap[b]? = some (.cells #[x] t (0, 0))) : w.cell? ⟨b, 0, none⟩ = some x ∧ w.frozen? ⟨b, 0, none⟩ = false :=
  ⟨by rw [Lib.cell_of_heap q]; rfl, Lib.frozen_of_heap q 0⟩
theorem row_slice {w : World} {base e size n : Nat} {v : Value} {xs : List Value} (h : w.ownsRow base e size v (n + 1) xs) : ∃ g cap, v = .slice (some ⟨g, 0, none⟩) (n + 1) cap := by
  obtain ⟨_, ⟨rfl, h⟩ | ⟨g, cap, cur, rfl, _⟩⟩ := h
  · cases h
  · exact ⟨g, cap, rfl⟩
theorem below_grow (w : World) (os : Array Obj) {B : Nat} (hs : B ≤ w.heap.size) : Below B w (grow w os) :=
  ⟨rfl, rfl, rfl, by rw [size_grow]; omega, fun k hk => heap_grow_old w os (by omega)⟩
theorem cellsO_at {w : World} {b o : Nat} {x : Od} (h : CellsAt w b o (cellsO x)) : w.cell? ⟨b, o, none⟩ = some (.int .i64 x.1) ∧ w.cell? ⟨b, o + 1, none⟩ = some (.int .i64 x.2.1) ∧ w.cell? ⟨b, o + 2, none⟩ = some (.int .i64 x.2.2.1) ∧ w.cell? ⟨b, o + 3, none⟩ = some (.int .i64 x.2.2.2) :=
  ⟨h 0 _ rfl, h 1 _ rfl, h 2 _ rfl, h 3 _ rfl⟩

set_option maxHeartbeats 1000000 in
/-- The sort's call. -/
theorem seq_sort {gl : Nat} {lt : Od → Od → Bool} (hl : LessO gl lt) (l : List Od) (hlen : l.length ≤ 8) (A : Option Addr) (c B N0 N1 N3 g cap : Nat) (w : World) (cur : Array Value)
    (hA : l ≠ [] → ∃ b o, A = some ⟨b, o, none⟩ ∧ b < w.heap.size ∧ b ≠ g ∧ ∀ (i : Nat) (x : Od), l[i]? = some x → CellsAt w b (o + i * 4) (cellsO x))
    (q0 : w.heap[N0]? = some (.cells #[.slice A l.length c] 27 (0, 0))) (q1 : w.heap[N1]? = some (.cells #[.func (.func gl) #[] #[]] 50 (0, 0)))
    (q3 : w.heap[N3]? = some (.cells #[.slice (some ⟨g, 0, none⟩) l.length cap] 23 (0, 0))) (hg : w.heap[g]? = some (.cells cur 3 (0, 0))) (hB : B ≤ g) (hBw : B ≤ w.heap.size) (hcur : l.length ≤ cur.size)
    (hrow : ∀ (i : Nat), i < l.length → cur[i]? = some (.int .i64 i)) :
    Calls Try.prog 71 #[.iface 23 (.slice (some ⟨g, 0, none⟩) l.length cap), .func (.func 72) #[] #[.pointer (some ⟨N1, 0, none⟩), .pointer (some ⟨N0, 0, none⟩), .pointer (some ⟨N3, 0, none⟩)]] w fun e w' =>
      e = .returned (.tuple #[]) ∧ Below B w w' ∧ w'.cell? ⟨N3, 0, none⟩ = some (.slice (some ⟨g, 0, none⟩) l.length cap) ∧
        ∃ cur', w'.heap[g]? = some (.cells cur' 3 (0, 0)) ∧ cur'.size = cur.size ∧ ∀ (i : Nat) (u : Value), ((sortN l lt).toList.map (encN l.length))[i]? = some u → cur'[i]? = some u := by
  have hgl : g < w.heap.size := (Array.getElem?_eq_some_iff.1 hg).1
  have hn0 : N0 ≠ g := fun e => by rw [e, hg] at q0; simp at q0
  have hn1 : N1 ≠ g := fun e => by rw [e, hg] at q1; simp at q1
  have hn3 : N3 ≠ g := fun e => by rw [e, hg] at q3; simp at q3
  by_cases h2 : 2 ≤ l.length
  · obtain ⟨b, o, rfl, hb, hbg, hcells⟩ := hA (fun e => by rw [e] at h2; simp at h2)
    have hsz : (List.range l.length).toArray.size = l.length := by simp
    have hH : Holds (encN l.length) w g 0 (List.range l.length).toArray := fun j hj => by
      rw [hsz] at hj
      refine ⟨?_, Lib.frozen_of_heap hg _⟩
      rw [Lib.cell_of_heap hg, Nat.zero_add, hrow j hj]
      rw [getElem!_pos _ j (by rw [hsz]; exact hj)]
      simp [encN, Nat.mod_eq_of_lt hj]
    have hless : Less2 Try.prog 72 #[.pointer (some ⟨N1, 0, none⟩), .pointer (some ⟨N0, 0, none⟩), .pointer (some ⟨N3, 0, none⟩)] (encN l.length) (ltN l lt) g 0 (List.range l.length).toArray.size w := by
      intro dk W hs hsw i j hi hj
      rw [hsz] at hs hi hj
      have hx : dk[i]! % l.length < l.length := Nat.mod_lt _ (by omega)
      have hy : dk[j]! % l.length < l.length := Nat.mod_lt _ (by omega)
      have k0 := (sw_cell hsw hn0 (Array.getElem?_eq_some_iff.1 q0).1).trans (box_cell q0).1
      have k1 := (sw_cell hsw hn1 (Array.getElem?_eq_some_iff.1 q1).1).trans (box_cell q1).1
      have k3 := (sw_cell hsw hn3 (Array.getElem?_eq_some_iff.1 q3).1).trans (box_cell q3).1
      have hold := hsw.holds hgl hH (by rw [hsz, hs])
      have hat : ∀ y, y < l.length → CellsAt W b (o + y * 4) (cellsO (l.getD y (0, 0, 0, 0))) := fun y hy t u hu => by
        have := hcells y _ (by rw [List.getD_eq_getElem?_getD, List.getElem?_eq_getElem hy]; rfl) t u hu
        rw [← this]
        exact sw_cell hsw hbg hb
      obtain ⟨d0, d1, d2, d3⟩ := cellsO_at (hat _ hx)
      obtain ⟨e0, e1, e2, e3⟩ := cellsO_at (hat _ hy)
      exact lessq_walk hl i j _ _ _ _ N1 N0 N3 b o c l.length g 0 cap l.length W k1 k0 k3 hi hj hx hy (hold i (by omega)).1 (hold j (by omega)).1 d0 d1 d2 d3 e0 e1 e2 e3
    have hc := slice_walk (encN l.length) (fun _ => rfl) (ltN l lt) 72 #[.pointer (some ⟨N1, 0, none⟩), .pointer (some ⟨N0, 0, none⟩), .pointer (some ⟨N3, 0, none⟩)] g 0 cap (List.range l.length).toArray w hgl
      (Go.Proofs.enters_of Try.func72 (by kernel_rfl) rfl) hless hH (by rw [hsz]; exact h2) (by rw [hsz]; omega)
    rw [hsz] at hc
    refine hc.mono ?_
    rintro e w' ⟨rfl, hsw⟩
    refine ⟨rfl, sw_below hsw hB hBw, (sw_cell hsw hn3 (Array.getElem?_eq_some_iff.1 q3).1).trans (box_cell q3).1, ?_⟩
    exact sw_block hsw hg (by have := size_sortN l lt; unfold sortN at this; omega)
  · refine (slice_tiny 72 _ (some ⟨g, 0, none⟩) l.length cap (by omega) w).mono ?_
    rintro e w' ⟨rfl, os, rfl⟩
    refine ⟨rfl, below_grow w os hBw, (cell?_grow _ _ _ (Array.getElem?_eq_some_iff.1 q3).1).trans (box_cell q3).1, cur, (heap_grow_old _ _ hgl).trans hg, rfl, fun i u hu => ?_⟩
    have he : sortN l lt = (List.range l.length).toArray := by
      unfold sortN Sort.insertionSort
      rw [insOuter_stop _ _ _ _ _ (by omega)]
    rw [he] at hu
    simp only [List.getElem?_map, Option.map_eq_some_iff] at hu
    obtain ⟨x, hx, rfl⟩ := hu
    obtain ⟨hi, rfl⟩ := List.getElem?_eq_some_iff.1 hx
    have hi' : i < l.length := by simpa using hi
    rw [hrow i hi']
    simp [encN, Nat.mod_eq_of_lt hi']

theorem at_alloc {w : World} (o : Obj) {n : Nat} (h : n = w.heap.size) : (w.alloc o).heap[n]? = some o := by
  subst h
  exact Array.getElem?_push_size
theorem past_alloc {w : World} (o : Obj) {n : Nat} {x : Obj} (h : w.heap[n]? = some x) : (w.alloc o).heap[n]? = some x :=
  ((World.grownBy_alloc w o none).block n (Array.getElem?_eq_some_iff.1 h).1 (by simp)).trans h
set_option maxHeartbeats 2000000 in
set_option maxRecDepth 1000000 in
theorem seq_walk {gl : Nat} {lt : Od → Od → Bool} (hl : LessO gl lt) (l : List Od) (hlen : l.length ≤ 8) (A : Option Addr) (c : Nat) (w : World)
    (hA : l ≠ [] → ∃ b o, A = some ⟨b, o, none⟩ ∧ b < w.heap.size ∧ ∀ (i : Nat) (x : Od), l[i]? = some x → CellsAt w b (o + i * 4) (cellsO x)) :
    Calls Try.prog 54 #[.slice A l.length c, .func (.func gl) #[] #[]] w fun e w' => ∃ g cap cur, e = .returned (.slice (some ⟨g, 0, none⟩) l.length cap) ∧ Below w.heap.size w w' ∧ w.heap.size ≤ g ∧
      w'.heap[g]? = some (.cells cur 3 (0, 0)) ∧ l.length ≤ cap ∧ cap ≤ cur.size ∧ ∀ (i : Nat) (u : Value), ((sortN l lt).toList.map (encN l.length))[i]? = some u → cur[i]? = some u := by
  obtain ⟨i0, hi, hz0, hz1, hz2⟩ := info_parts info3
  go_enter Try.func54, Try.ntmps54
  go_wp2
  go_loopw [10] (fun vi wr => ∃ (k g cap : Nat), vi = .int .i64 k ∧ k ≤ l.length ∧ wr.heap[w.heap.size]? = some (.cells #[.slice A l.length c] 27 (0, 0)) ∧ wr.heap[w.heap.size + 1]? = some (.cells #[.func (.func gl) #[] #[]] 50 (0, 0)) ∧
      wr.heap[w.heap.size + 1 + 1 + 1]? = some (.cells #[.slice (some ⟨g, 0, none⟩) k cap] 23 (0, 0)) ∧ wr.ownsRow (w.heap.size + 1 + 1) 3 1 (.slice (some ⟨g, 0, none⟩) k cap) k ((idxL k).map (Value.int .i64)) ∧ Below w.heap.size w wr ∧ w.heap.size + 4 ≤ wr.heap.size) (fun vi _ => l.length - (intOf vi).toNat)
  case atStart =>
    refine ⟨0, w.heap.size + 1 + 1, 0, rfl, Nat.zero_le _, ?_, ?_, ?_, ⟨rfl, .inr ⟨_, 0, #[], rfl, Nat.le_refl _, ?_, Nat.le_refl _, Nat.zero_le _, rfl, rfl⟩⟩, ((((Below.refl _ w).alloc (Nat.le_refl _) _).alloc (by simp) _).alloc (by simp; omega) _).alloc (by simp; omega) _, by simp⟩
    · exact past_alloc _ (past_alloc _ (past_alloc _ (at_alloc _ rfl)))
    · exact past_alloc _ (past_alloc _ (at_alloc _ (by simp)))
    · exact at_alloc _ (by simp)
    · exact past_alloc _ (at_alloc _ (by simp))
  case round =>
    obtain ⟨k, g, cap, rfl, hk, q0, q1, q3, hrow, hbw, hsz⟩ := hrel
    by_cases hp : k < l.length
    · have hpi : (k : Int) < (l.length : Int) := by omega
      obtain ⟨s0, s00⟩ := box_cell q3
      have hnb := row_ne_box hrow q3 (by decide)
      go_wp2_with (first
        | (at_builtin; refine wpList_append_own _ rfl _ _ 23 rfl (w.heap.size + 1 + 1) 3 i0 (.int .i64 0) 1 8 Try.underlying23 hi hz0 hz1 hz2 rfl (by decide) _ _ _ rfl (hrow.alloc _) ⟨wr.heap.size, 0, none⟩ 1 1 [.int .i64 k] rfl rfl (cell_one_new _ _ _) (by intro u hu; simp at hu; subst hu; rfl) (by unfold maxLen; omega) (by omega) (by simp; omega) ?_; intro v' w2 hown' hgrow hnil; obtain ⟨g', cap', rfl⟩ := row_slice hown'; have h3 := box_kept q3 hgrow hnb; obtain ⟨s1, s2⟩ := box_cell h3)
        | go_in)
      have h0 := box_kept q0 hgrow (row_ne_box hrow q0 (by decide))
      have h1 := box_kept q1 hgrow (row_ne_box hrow q1 (by decide))
      have hb1 : Below w.heap.size w w2 := (hbw.alloc hbw.size (.cells #[.int .i64 (k : Int)] 3)).grown hgrow (by simp; omega) (fun j hj => by have := (hrow.lt j hj).1; omega)
      refine ⟨⟨k + 1, g', cap', congrArg (Value.int .i64) (by omega), by omega, ?_, ?_, ?_, ?_, hb1.setCell (by simp; omega) _, ?_⟩, ?_⟩
      · rw [heap_setCell_other _ _ _ _ (by simp; omega)]
        exact h0
      · rw [heap_setCell_other _ _ _ _ (by simp)]
        exact h1
      · rw [heap_setCell_same _ _ _ _ _ _ h3]
        rfl
      · rw [idxL_succ, List.map_append]
        exact hown'.kept (grown_set _ _ _) (.inr (row_ne_box hown' h3 (by decide)))
      · have e1 := hgrow.size
        have e2 : (w2.setCell ⟨w.heap.size + 1 + 1 + 1, 0, none⟩ (Value.slice (some ⟨g', 0, none⟩) (k + 1) cap')).heap.size = w2.heap.size := by simp [World.setCell]
        simp at e1
        omega
      · show l.length - ((k : Int) + 1).toNat < l.length - (k : Int).toNat
        omega
    · have hpi : ¬ (k : Int) < (l.length : Int) := by omega
      have hkn : k = l.length := by omega
      subst hkn
      obtain ⟨hxs, ⟨hv, _⟩ | ⟨g2, cap2, cur, hv, hge, hg, hcap, _, hcs, htake⟩⟩ := hrow
      · cases hv
      cases hv
      have hwsz := hbw.size
      have hrow : ∀ (i : Nat), i < l.length → cur[i]? = some (.int .i64 i) := fun i hi => by
        have e : ((idxL l.length).map (Value.int .i64))[i]? = some (.int .i64 i) := by simp [idxL, hi]
        rw [← htake, List.getElem?_take_of_lt (by omega)] at e
        simpa using e
      have hs := seq_sort hl l hlen A c w.heap.size w.heap.size (w.heap.size + 1) (w.heap.size + 1 + 1 + 1) g cap wr cur (fun hne => by
        obtain ⟨b, o, h1, h2, h3⟩ := hA hne
        exact ⟨b, o, h1, by omega, by omega, fun i x hx t u hu => (hbw.cell (by exact h2)).trans (h3 i x hx t u hu)⟩) q0 q1 q3 hg (by omega) hwsz (by omega) hrow
      obtain ⟨s0, s00⟩ := box_cell q3
      go_wp2_with (go_at_call 71; refine hs.mono ?_; rintro e w' ⟨rfl, hB, hbox, hfin⟩)
      go_ret
      obtain ⟨cur', f1, f2, f3⟩ := hfin
      exact ⟨g, cap, cur', rfl, hbw.trans hB, by omega, f1, hcap, by omega, f3⟩
end Go.Proofs.Ytdgenchlghojlaa
/-
  The contract of impl.sequenceOf.
-/
namespace Go.Proofs.Ytdgenchlghojlaa
open Go Go.Proofs Go.V Go.RowKit
set_option linter.unusedSimpArgs false

/-- Orders out of data. -/
def odOf : D → Option Od
  | .agg [.v (.int .i64 a), .v (.int .i64 b), .v (.int .i64 c), .v (.int .i64 d)] => some (a, b, c, d)
  | _ => none
theorem odOf_some {d : D} {x : Od} (h : odOf d = some x) : d = od x := by
  unfold odOf at h
  split at h
  · cases h; rfl
  · cases h
def odsOf : List D → Option (List Od)
  | [] => some []
  | d :: l => (odOf d).bind fun x => (odsOf l).map (x :: ·)
theorem odsOf_some : ∀ (ds : List D) (l : List Od), odsOf ds = some l → ds = l.map od
  | [], l, h => by cases h; rfl
  | d :: ds, l, h => by
    simp only [odsOf, Option.bind_eq_some_iff, Option.map_eq_some_iff] at h
    obtain ⟨x, h1, m, h2, rfl⟩ := h
    rw [odOf_some h1, odsOf_some ds m h2]
    rfl
theorem odsOf_map : ∀ (l : List Od), odsOf (l.map od) = some l
  | [] => rfl
  | x :: l => by
    simp only [List.map_cons, odsOf, odsOf_map l]
    rfl
theorem rep_ods {w : World} {F : Nat → Prop} : ∀ (l : List Od) (us : List Value), RepL w F (l.map od) us → us = l.flatMap cellsO
  | [], us, h => RepL_nil.1 h
  | x :: l, us, h => by
    obtain ⟨v1, v2, rfl, h1, h2⟩ := RepL_cons.1 h
    rw [rep_ods l v2 h2]
    simp only [RepC] at h1
    obtain ⟨u1, r1, rfl, g1, h1⟩ := RepL_cons.1 h1.1
    obtain ⟨u2, r2, rfl, g2, h1⟩ := RepL_cons.1 h1
    obtain ⟨u3, r3, rfl, g3, h1⟩ := RepL_cons.1 h1
    obtain ⟨u4, r4, rfl, g4, h1⟩ := RepL_cons.1 h1
    simp only [RepC] at g1 g2 g3 g4
    rw [g1.1, g2.1, g3.1, g4.1, RepL_nil.1 h1]
    rfl
theorem cells_ods {w : World} {b : Nat} : ∀ (l : List Od) (o : Nat), CellsAt w b o (l.flatMap cellsO) → ∀ (i : Nat) (x : Od), l[i]? = some x → CellsAt w b (o + i * 4) (cellsO x)
  | [], _, _, i, x, hx => by simp at hx
  | y :: l, o, h, 0, x, hx => by
    simp only [List.getElem?_cons_zero, Option.some.injEq] at hx
    subst hx
    intro j u hu
    have := h j u (by rw [List.flatMap_cons, List.getElem?_append_left (List.getElem?_eq_some_iff.1 hu).1]; exact hu)
    simpa using this
  | y :: l, o, h, i + 1, x, hx => by
    have := cells_ods l (o + 4) (by
      have := h.drop 4
      exact this) i x (by simpa using hx)
    rw [show o + (i + 1) * 4 = o + 4 + i * 4 by omega]
    exact this
theorem RepL_ints {w : World} {F : Nat → Prop} : ∀ (l : List Int), RepL w F (l.map I) (l.map (Value.int .i64))
  | [] => RepL_nil.2 rfl
  | x :: l => RepL_cons.2 ⟨[.int .i64 x], l.map (Value.int .i64), rfl, by simp only [RepC]; exact ⟨trivial, rfl⟩, RepL_ints l⟩

/-- The indices, sorted. -/
def seqL (l : List Od) (lt : Od → Od → Bool) : List Int := (sortN l lt).toList.map fun (x : Nat) => ((x % l.length : Nat) : Int)
theorem seqL_length (l : List Od) (lt : Od → Od → Bool) : (seqL l lt).length = l.length := by
  simp [seqL, size_sortN]
def fSeq : List D → Option Out
  | [.arr _ ds, .clo g []] => (odsOf ds).bind fun l => if l.length ≤ 8 then (if g = 70 then some (.ret [ints (seqL l dueLt)] []) else if g = 55 then some (.ret [ints (seqL l fstLt)] []) else none) else none
  | _ => none
@[reducible] def S_impl_sequenceOf : FS := { pm := [.dat 2, .dat 0], rm := [.own 1 0 false], f := fSeq }
set_option maxRecDepth 100000 in
theorem M_impl_sequenceOf : Meets gl0 Try.prog 54 S_impl_sequenceOf := by
  have he : ∀ args w, (callFunc 54 args).run Try.prog w = .ok (.enter 54 args) w := Go.Proofs.enters_of Try.func54 (by kernel_rfl) rfl
  refine meets_of_calls he fun ds rs us hd args w F ow hg ha hF _ => ?_
  obtain ⟨d, y, d', y', rfl, h2, h3, h4⟩ := args_two ha
  replace hd : fSeq [d, d'] = some (.ret rs us) := hd
  unfold fSeq at hd
  split at hd
  case h_2 => cases hd
  rename_i z ds g e
  cases e
  obtain ⟨l, hl, hd'⟩ := Option.bind_eq_some_iff.1 hd
  clear hd
  split at hd'
  case isFalse => cases hd'
  rename_i hz
  obtain rfl := odsOf_some _ _ hl
  rcases h3 with h3 | h3
  · cases h3
  rcases h4 with h4 | h4
  · cases h4
  simp only [RepV, RepC] at h3 h4
  obtain ⟨A, c, us', hy, hc, hr, _, hA⟩ := h3
  obtain ⟨us2, hy2, hr2⟩ := h4
  simp only [List.cons.injEq, and_true] at hy hy2
  subst hy
  subst hy2
  obtain rfl := RepL_nil.1 hr2
  rw [rep_ods l us' hr] at hA
  rw [size2 h2]
  rw [List.length_map] at hc ⊢
  have key : ∀ lt, LessO g lt → rs = [ints (seqL l lt)] → us = [] → Calls Try.prog 54 #[.slice A l.length c, .func (.func g) #[] [].toArray] w fun e w' => ∃ v, e = .returned v ∧ ∃ F' R vs, v = resV vs ∧ CallPost S_impl_sequenceOf #[.slice A l.length c, .func (.func g) #[] [].toArray] rs us w F ow F' R vs w' := by
    rintro lt hlt rfl rfl
    refine (seq_walk hlt l hz A c w (fun hne => ?_)).mono ?_
    · obtain ⟨b, o, rfl, h5, h6⟩ := hA (by simpa using hne)
      exact ⟨b, o, rfl, (hF b h5).1, cells_ods l o h6⟩
    · rintro e w' ⟨gg, cap, cur, rfl, hB, hgg, hcell, hcap, hcs, hrow⟩
      refine ⟨_, rfl, F, fun b => if b = gg then some 0 else none, [_], rfl, post_own _ hB hF (fun b j hb => ?_) rfl rfl rfl rfl fun j => ?_⟩
      · split at hb
        · rename_i e
          subst e
          exact ⟨hgg, (Array.getElem?_eq_some_iff.1 hcell).1⟩
        · cases hb
      · match j with
        | 0 =>
          refine .inr ⟨(seqL l lt).map I, rfl, fun x hx => ?_, .inr ⟨gg, 0, cap, (seqL l lt).map (Value.int .i64), cur, _, ?_, ?_, hcell, by omega, RepL_ints _, fun i u hu => ?_, by simp, hgg⟩⟩
          · obtain ⟨s, _, rfl⟩ := List.mem_map.1 hx
            rfl
          · rw [List.length_map, seqL_length]
            rfl
          · rw [List.length_map, seqL_length]
            exact hcap
          · rw [Nat.zero_add]
            refine hrow i u ?_
            rw [← hu]
            simp only [seqL, List.map_map]
            rfl
        | j + 1 => exact .inl rfl
  split at hd'
  · rename_i hg70
    cases hd'
    subst hg70
    exact key dueLt due_walk rfl rfl
  · split at hd'
    · rename_i hg55
      cases hd'
      subst hg55
      exact key fstLt fst_walk rfl rfl
    · cases hd'
end Go.Proofs.Ytdgenchlghojlaa
/-
  The library's sort of numbers at this seat: its laying, as the kit's tool writes it.
-/
namespace Go.Proofs
open Go.Shelf
def Try.lays191_ren : Go.Shelf.Ren := ⟨fun | 191 => 67 | 189 => 77 | 125 => 83 | 257 => 82 | 128 => 104 | 129 => 105 | 294 => 95 | 295 => 96 | 296 => 97 | 297 => 98 | 298 => 99 | 299 => 100 | 216 => 101 | 300 => 102 | 301 => 103 | 328 => 107 | 329 => 108 | 330 => 109 | 331 => 110 | 332 => 111 | 215 => 112 | 343 => 114 | n => n, fun | 28 => 23 | 0 => 0 | 3 => 3 | 46 => 57 | 51 => 95 | 53 => 97 | 4 => 4 | 183 => 89 | 182 => 88 | 131 => 25 | 5 => 5 | 9 => 9 | 218 => 98 | 222 => 102 | 228 => 105 | 229 => 106 | n => n, fun | n => n⟩
theorem Try.lays191 : Go.Proofs.Lays.n191 Try.prog Try.lays191_ren := {
  mixed := by kernel_rfl
  f125 := Try.func83.trans (congrArg some (by kernel_rfl))
  f128 := Try.func104.trans (congrArg some (by kernel_rfl))
  f129 := Try.func105.trans (congrArg some (by kernel_rfl))
  f189 := Try.func77.trans (congrArg some (by kernel_rfl))
  f191 := Try.func67.trans (congrArg some (by kernel_rfl))
  f215 := Try.func112.trans (congrArg some (by kernel_rfl))
  f216 := Try.func101.trans (congrArg some (by kernel_rfl))
  f257 := Try.func82.trans (congrArg some (by kernel_rfl))
  f294 := Try.func95.trans (congrArg some (by kernel_rfl))
  f295 := Try.func96.trans (congrArg some (by kernel_rfl))
  f296 := Try.func97.trans (congrArg some (by kernel_rfl))
  f297 := Try.func98.trans (congrArg some (by kernel_rfl))
  f298 := Try.func99.trans (congrArg some (by kernel_rfl))
  f299 := Try.func100.trans (congrArg some (by kernel_rfl))
  f300 := Try.func102.trans (congrArg some (by kernel_rfl))
  f301 := Try.func103.trans (congrArg some (by kernel_rfl))
  f328 := Try.func107.trans (congrArg some (by kernel_rfl))
  f329 := Try.func108.trans (congrArg some (by kernel_rfl))
  f330 := Try.func109.trans (congrArg some (by kernel_rfl))
  f331 := Try.func110.trans (congrArg some (by kernel_rfl))
  f332 := Try.func111.trans (congrArg some (by kernel_rfl))
  f343 := Try.func114.trans (congrArg some (by kernel_rfl))
  t0 := Try.underlying0
  a0 := Try.isAgg0
  z0 := Try.sizeOf0
  v0 := Try.zeroValue0
  t3 := Try.underlying3
  a3 := Try.isAgg3
  z3 := Try.sizeOf3
  v3 := Try.zeroValue3
  t4 := Try.underlying4
  a4 := Try.isAgg4
  z4 := Try.sizeOf4
  v4 := Try.zeroValue4
  t5 := Try.underlying5
  a5 := Try.isAgg5
  z5 := Try.sizeOf5
  v5 := Try.zeroValue5
  t9 := Try.underlying9
  a9 := Try.isAgg9
  z9 := Try.sizeOf9
  v9 := Try.zeroValue9
  t28 := Try.underlying23
  a28 := Try.isAgg23
  z28 := Try.sizeOf23
  v28 := Try.zeroValue23
  t46 := Try.underlying57
  a46 := Try.isAgg57
  z46 := Try.sizeOf57
  v46 := Try.zeroValue57
  t51 := Try.underlying95
  a51 := Try.isAgg95
  z51 := Try.sizeOf95
  v51 := Try.zeroValue95
  t53 := Try.underlying97
  a53 := Try.isAgg97
  z53 := Try.sizeOf97
  v53 := Try.zeroValue97
  t131 := Try.underlying25
  a131 := Try.isAgg25
  z131 := Try.sizeOf25
  v131 := Try.zeroValue25
  t182 := Try.underlying88
  a182 := Try.isAgg88
  z182 := Try.sizeOf88
  v182 := Try.zeroValue88
  t183 := Try.underlying89
  a183 := Try.isAgg89
  z183 := Try.sizeOf89
  v183 := Try.zeroValue89
  t218 := Try.underlying98
  a218 := Try.isAgg98
  z218 := Try.sizeOf98
  v218 := Try.zeroValue98
  t222 := Try.underlying102
  a222 := Try.isAgg102
  z222 := Try.sizeOf102
  v222 := Try.zeroValue102
  t228 := Try.underlying105
  a228 := Try.isAgg105
  z228 := Try.sizeOf105
  v228 := Try.zeroValue105
  t229 := Try.underlying106
  a229 := Try.isAgg106
  z229 := Try.sizeOf106
  v229 := Try.zeroValue106 }
end Go.Proofs
