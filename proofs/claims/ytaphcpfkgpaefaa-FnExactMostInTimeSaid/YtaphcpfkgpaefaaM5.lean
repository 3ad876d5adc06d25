/-
  Contexts and contracts of functions, printed by gen.py.
-/
import Derived.Test.YtaphcpfkgpaefaaRows
import Derived.Test.YtaphcpfkgpaefaaM4
import Derived.Below
import Derived.Maps.OwnSet
import Derived.WalkKit
import Derived.Shelf.Abstract
import Derived.Shelf.GgSortMore.Stable
import Derived.Test.YtaphcpfkgpaefaaProg
namespace Go.Proofs.Ytaphcpfkgpaefaa
open Go.V
set_option maxRecDepth 100000
theorem follows_mixed : Try.prog.follows .mixedOrders = true := by kernel_rfl
@[reducible] def ty3 : TI := { n := 1, zero := [.v (.int .i64 0)], ik := some .i64 }
@[reducible] def ty22 : TI := { n := 1, zero := [.arr 4 []], elem := 42, ez := 4, eb := 32 }
@[reducible] def ty24 : TI := { n := 1, zero := [.arr 1 []], elem := 3, ez := 1, eb := 8 }
@[reducible] def ty27 : TI := { n := 1, zero := [.arr 4 []], elem := 40, ez := 4, eb := 32 }
@[reducible] def ty40 : TI := { agg := true, n := 4, zero := [.v (.int .i64 0), .v (.int .i64 0), .v (.int .i64 0), .v (.int .i64 0)], fs := [(0, 3), (1, 3), (2, 3), (3, 3)], eq := [1, 1, 1, 1] }
@[reducible] def ty42 : TI := { agg := true, n := 4, zero := [.v (.int .i64 0), .v (.int .i64 0), .v (.int .i64 0), .v (.int .i64 0)], fs := [(0, 3), (1, 3), (2, 3), (3, 3)], eq := [1, 1, 1, 1] }
@[reducible] def ty47 : TI := { n := 1, zero := [.v (.int .u64 0)], ik := some .u64 }
/-- loop.example/g01054/spec.l1In -/
@[reducible] noncomputable def c_spec_l1In : Cx := { K := [.dat 0, .dat 0, .dat 0, .no, .no, .no, .dat 0, .dat 0, .dat 0, .dat 0, .dat 0, .dat 0, .dat 0, .dat 0, .dat 0], T := [(3, ty3)], S := [], H := [], res := [.tmp 6], ios := [], G := gl0 }
noncomputable def F_spec_l1In : List D → Option Out := denF c_spec_l1In Try.f45
@[reducible] noncomputable def S_spec_l1In : FS := { pm := [.dat 0, .dat 0, .dat 0], rm := [.dat 0], f := F_spec_l1In }
theorem M_spec_l1In : Meets gl0 Try.prog 45 S_spec_l1In := meets_of (P := Try.prog) (c := c_spec_l1In) (fn := Try.f45) (pm := S_spec_l1In.pm) (rm := S_spec_l1In.rm) (by kernel_rfl) lookNil follows_mixed Try.func45 (by kernel_rfl) (by kernel_rfl) rfl
/-- loop.example/g01054/spec.orOne -/
@[reducible] noncomputable def c_spec_orOne : Cx := { K := [.dat 0, .box 4 0 false, .dat 0, .ref 1, .dat 0, .dat 0, .dat 0, .ref 1, .dat 0, .dat 0, .dat 0, .dat 0, .ref 1, .dat 0, .dat 0, .dat 0, .dat 0, .ref 1, .dat 0, .dat 0, .dat 0], T := [(3, ty3), (40, ty40)], S := [(45, S_spec_l1In)], H := [], res := [.tmp 2], ios := [], G := gl0 }
noncomputable def F_spec_orOne : List D → Option Out := denF c_spec_orOne Try.f33
@[reducible] noncomputable def S_spec_orOne : FS := { pm := [.dat 0], rm := [.dat 0], f := F_spec_orOne }
theorem M_spec_orOne : Meets gl0 Try.prog 33 S_spec_orOne := meets_of (P := Try.prog) (c := c_spec_orOne) (fn := Try.f33) (pm := S_spec_orOne.pm) (rm := S_spec_orOne.rm) (by kernel_rfl) (lookCons M_spec_l1In lookNil) follows_mixed Try.func33 (by kernel_rfl) (by kernel_rfl) rfl
/-- loop.example/g01054/spec.orGood -/
@[reducible] noncomputable def c_spec_orGood : Cx := { K := [.dat 2, .no, .dat 0, .dat 0, .box 4 0 false, .dat 2, .dat 0, .dat 0, .dat 0, .dat 0, .dat 2, .dat 0, .dat 0, .dat 0, .dat 0, .dat 0, .dat 0, .dat 0, .dat 0, .dat 2, .dat 0, .dat 0, .dat 2, .dat 2, .dat 0, .ref 4, .dat 0, .dat 0, .dat 0, .dat 0, .dat 0, .dat 2, .dat 0, .dat 0], T := [(3, ty3), (27, ty27), (40, ty40)], S := [(33, S_spec_orOne)], H := [(0, ([0, 5, 6, 7], [0]))], res := [.tmp 2], ios := [], G := gl0 }
noncomputable def F_spec_orGood : List D → Option Out := denF c_spec_orGood Try.f16
@[reducible] noncomputable def S_spec_orGood : FS := { pm := [.dat 2], rm := [.dat 0], f := F_spec_orGood }
theorem M_spec_orGood : Meets gl0 Try.prog 16 S_spec_orGood := meets_of (P := Try.prog) (c := c_spec_orGood) (fn := Try.f16) (pm := S_spec_orGood.pm) (rm := S_spec_orGood.rm) (by kernel_rfl) (lookCons M_spec_orOne lookNil) follows_mixed Try.func16 (by kernel_rfl) (by kernel_rfl) rfl
/-- loop.example/g01054/spec.l1Most -/
@[reducible] noncomputable def c_spec_l1Most : Cx := { K := [.dat 0, .dat 0, .no, .no, .dat 0, .dat 0, .dat 0, .dat 0, .dat 0, .dat 0], T := [(3, ty3)], S := [], H := [], res := [.tmp 4], ios := [], G := gl0 }
noncomputable def F_spec_l1Most : List D → Option Out := denF c_spec_l1Most Try.f42
@[reducible] noncomputable def S_spec_l1Most : FS := { pm := [.dat 0, .dat 0], rm := [.dat 0], f := F_spec_l1Most }
theorem M_spec_l1Most : Meets gl0 Try.prog 42 S_spec_l1Most := meets_of (P := Try.prog) (c := c_spec_l1Most) (fn := Try.f42) (pm := S_spec_l1Most.pm) (rm := S_spec_l1Most.rm) (by kernel_rfl) lookNil follows_mixed Try.func42 (by kernel_rfl) (by kernel_rfl) rfl
/-- loop.example/g01054/spec.orTimes -/
@[reducible] noncomputable def c_spec_orTimes : Cx := { K := [.dat 2, .dat 2, .no, .no, .own 1 0 false, .dat 0, .own 1 0 false, .dat 0, .dat 0, .dat 0, .no, .dat 0, .dat 2, .dat 0, .dat 0, .dat 0, .dat 2, .dat 0, .dat 0, .dat 2, .dat 0, .dat 2, .dat 2, .dat 0, .dat 0, .dat 0, .dat 0, .dat 0, .dat 0, .dat 0, .dat 0, .dat 0, .dat 0, .dat 0, .dat 2, .dat 0, .dat 2, .dat 2, .dat 0, .dat 0, .own 1 0 false, .dat 0, .dat 1, .own 1 0 false, .dat 0, .own 1 0 false, .dat 0], T := [(3, ty3), (24, ty24), (27, ty27), (40, ty40)], S := [(42, S_spec_l1Most)], H := [(0, ([0, 6, 7, 8, 9, 12, 13, 14], [6, 9]))], res := [.tmp 4, .tmp 5], ios := [], G := gl0 }
noncomputable def F_spec_orTimes : List D → Option Out := denF c_spec_orTimes Try.f47
@[reducible] noncomputable def S_spec_orTimes : FS := { pm := [.dat 2, .dat 2], rm := [.own 1 0 false, .dat 0], f := F_spec_orTimes }
theorem M_spec_orTimes : Meets gl0 Try.prog 47 S_spec_orTimes := meets_of (P := Try.prog) (c := c_spec_orTimes) (fn := Try.f47) (pm := S_spec_orTimes.pm) (rm := S_spec_orTimes.rm) (by kernel_rfl) (lookCons M_spec_l1Most lookNil) follows_mixed Try.func47 (by kernel_rfl) (by kernel_rfl) rfl
/-- loop.example/g01054/spec.orLate -/
@[reducible] noncomputable def c_spec_orLate : Cx := { K := [.dat 2, .dat 2, .no, .no, .own 1 0 false, .dat 1, .dat 0, .own 1 0 false, .dat 0, .dat 0, .tup [.own 1 0 false, .dat 0], .dat 2, .dat 2, .tup [.own 1 0 false, .dat 0], .dat 1, .dat 0, .dat 2, .dat 0, .dat 0, .dat 0, .dat 0, .dat 2, .dat 0, .own 1 0 false, .dat 1, .dat 0, .dat 1, .dat 0, .dat 2, .dat 0, .dat 2, .dat 2, .dat 0, .dat 0, .dat 0, .dat 1, .own 1 0 false, .dat 0, .own 1 0 false], T := [(3, ty3), (24, ty24), (27, ty27), (40, ty40)], S := [(42, S_spec_l1Most), (47, S_spec_orTimes)], H := [(0, ([0, 5, 7, 16, 17, 18], [7]))], res := [.tmp 4], ios := [], G := gl0 }
noncomputable def F_spec_orLate : List D → Option Out := denF c_spec_orLate Try.f41
@[reducible] noncomputable def S_spec_orLate : FS := { pm := [.dat 2, .dat 2], rm := [.own 1 0 false], f := F_spec_orLate }
theorem M_spec_orLate : Meets gl0 Try.prog 41 S_spec_orLate := meets_of (P := Try.prog) (c := c_spec_orLate) (fn := Try.f41) (pm := S_spec_orLate.pm) (rm := S_spec_orLate.rm) (by kernel_rfl) (lookCons M_spec_l1Most (lookCons M_spec_orTimes lookNil)) follows_mixed Try.func41 (by kernel_rfl) (by kernel_rfl) rfl
/-- loop.example/g01054/spec.orWorst -/
@[reducible] noncomputable def c_spec_orWorst : Cx := { K := [.dat 2, .dat 2, .no, .no, .dat 0, .dat 0, .no, .dat 0, .dat 2, .dat 2, .dat 1, .dat 0, .dat 0, .dat 0, .dat 1, .dat 0, .dat 0, .dat 0, .dat 0, .dat 0, .dat 0], T := [(3, ty3), (24, ty24)], S := [(41, S_spec_orLate), (42, S_spec_l1Most)], H := [(0, ([5, 10, 11, 12], [5]))], res := [.tmp 4], ios := [], G := gl0 }
noncomputable def F_spec_orWorst : List D → Option Out := denF c_spec_orWorst Try.f27
@[reducible] noncomputable def S_spec_orWorst : FS := { pm := [.dat 2, .dat 2], rm := [.dat 0], f := F_spec_orWorst }
theorem M_spec_orWorst : Meets gl0 Try.prog 27 S_spec_orWorst := meets_of (P := Try.prog) (c := c_spec_orWorst) (fn := Try.f27) (pm := S_spec_orWorst.pm) (rm := S_spec_orWorst.rm) (by kernel_rfl) (lookCons M_spec_orLate (lookCons M_spec_l1Most lookNil)) follows_mixed Try.func27 (by kernel_rfl) (by kernel_rfl) rfl
/-- loop.example/g01054/spec.l1Has -/
@[reducible] noncomputable def c_spec_l1Has : Cx := { K := [.dat 2, .dat 0, .no, .no, .dat 0, .no, .dat 0, .dat 2, .dat 0, .dat 0, .dat 0, .dat 2, .dat 0, .dat 0, .dat 0, .dat 0, .dat 0], T := [(3, ty3), (24, ty24)], S := [], H := [(0, ([1, 7, 8, 9], []))], res := [.tmp 4], ios := [], G := gl0 }
noncomputable def F_spec_l1Has : List D → Option Out := denF c_spec_l1Has Try.f34
@[reducible] noncomputable def S_spec_l1Has : FS := { pm := [.dat 2, .dat 0], rm := [.dat 0], f := F_spec_l1Has }
theorem M_spec_l1Has : Meets gl0 Try.prog 34 S_spec_l1Has := meets_of (P := Try.prog) (c := c_spec_l1Has) (fn := Try.f34) (pm := S_spec_l1Has.pm) (rm := S_spec_l1Has.rm) (by kernel_rfl) lookNil follows_mixed Try.func34 (by kernel_rfl) (by kernel_rfl) rfl
/-- loop.example/g01054/spec.l1Own -/
@[reducible] noncomputable def c_spec_l1Own : Cx := { K := [.dat 2, .no, .own 1 0 false, .own 1 0 false, .dat 2, .own 1 0 false], T := [(3, ty3), (24, ty24)], S := [], H := [], res := [.tmp 2], ios := [], G := gl0 }
noncomputable def F_spec_l1Own : List D → Option Out := denF c_spec_l1Own Try.f35
@[reducible] noncomputable def S_spec_l1Own : FS := { pm := [.dat 2], rm := [.own 1 0 false], f := F_spec_l1Own }
theorem M_spec_l1Own : Meets gl0 Try.prog 35 S_spec_l1Own := meets_of (P := Try.prog) (c := c_spec_l1Own) (fn := Try.f35) (pm := S_spec_l1Own.pm) (rm := S_spec_l1Own.rm) (by kernel_rfl) lookNil follows_mixed Try.func35 (by kernel_rfl) (by kernel_rfl) rfl
/-- loop.example/g01054/spec.orFirst -/
@[reducible] noncomputable def c_spec_orFirst (k : List D → Option Out) : Cx := { K := [.dat 2, .dat 2, .no, .no, .dat 2, .dat 0, .dat 2, .dat 0, .dat 0, .dat 1, .dat 2, .dat 0, .dat 2, .dat 0, .dat 2, .dat 0, .dat 0, .dat 2, .dat 2, .dat 2, .dat 0, .dat 2, .dat 0, .dat 0, .dat 0, .dat 0, .dat 2, .dat 0, .dat 0, .dat 2, .own 1 0 false, .dat 0, .dat 1, .dat 1, .dat 0, .dat 0, .dat 0, .dat 2, .dat 1, .dat 0, .dat 0, .dat 0, .dat 0, .tup [.dat 2, .dat 0], .dat 2, .dat 1, .tup [.dat 2, .dat 0], .dat 2, .dat 0, .dat 0, .dat 0, .dat 0, .dat 0, .dat 0, .dat 0, .dat 0, .dat 2, .dat 0, .dat 0, .dat 2, .dat 0], T := [(3, ty3), (24, ty24), (27, ty27), (40, ty40)], S := [(17, { pm := [.dat 2, .dat 2], rm := [.dat 2, .dat 0], f := k }), (27, S_spec_orWorst), (34, S_spec_l1Has), (35, S_spec_l1Own)], H := [(0, ([0, 1, 6, 7, 22, 23], [6, 7]))], res := [.tmp 4, .tmp 5], ios := [], G := gl0 }
noncomputable def R_spec_orFirst : Nat → List D → Option Out
  | 0, _ => none
  | n + 1, ds => denF (c_spec_orFirst (R_spec_orFirst n)) Try.f17 ds
noncomputable def F_spec_orFirst : List D → Option Out := R_spec_orFirst 9
@[reducible] noncomputable def S_spec_orFirst : FS := { pm := [.dat 2, .dat 2], rm := [.dat 2, .dat 0], f := F_spec_orFirst }
theorem MR_spec_orFirst : ∀ n : Nat, Meets gl0 Try.prog 17 { pm := [.dat 2, .dat 2], rm := [.dat 2, .dat 0], f := R_spec_orFirst n }
  | 0 => meets_none (fun _ => rfl)
  | n + 1 => by
    have ih := MR_spec_orFirst n
    exact meets_of (P := Try.prog) (c := c_spec_orFirst (R_spec_orFirst n)) (fn := Try.f17) (pm := S_spec_orFirst.pm) (rm := S_spec_orFirst.rm) (by kernel_rfl) (lookCons ih (lookCons M_spec_orWorst (lookCons M_spec_l1Has (lookCons M_spec_l1Own lookNil)))) follows_mixed Try.func17 (by kernel_rfl) (by kernel_rfl) rfl
theorem M_spec_orFirst : Meets gl0 Try.prog 17 S_spec_orFirst := MR_spec_orFirst 9
/-- loop.example/g01054/spec.LeastLateness -/
@[reducible] noncomputable def c_spec_LeastLateness : Cx := { K := [.dat 2, .no, .dat 2, .dat 0, .dat 0, .dat 2, .dat 0, .dat 2, .dat 0, .dat 0, .tup [.dat 2, .dat 0], .dat 2, .tup [.dat 2, .dat 0], .dat 2, .dat 0, .dat 2, .dat 0], T := [(24, ty24)], S := [(16, S_spec_orGood), (17, S_spec_orFirst)], H := [], res := [.tmp 2, .tmp 3, .tmp 4], ios := [], G := gl0 }
noncomputable def F_spec_LeastLateness : List D → Option Out := denF c_spec_LeastLateness Try.f6
@[reducible] noncomputable def S_spec_LeastLateness : FS := { pm := [.dat 2], rm := [.dat 2, .dat 0, .dat 0], f := F_spec_LeastLateness }
theorem M_spec_LeastLateness : Meets gl0 Try.prog 6 S_spec_LeastLateness := meets_of (P := Try.prog) (c := c_spec_LeastLateness) (fn := Try.f6) (pm := S_spec_LeastLateness.pm) (rm := S_spec_LeastLateness.rm) (by kernel_rfl) (lookCons M_spec_orGood (lookCons M_spec_orFirst lookNil)) follows_mixed Try.func6 (by kernel_rfl) (by kernel_rfl) rfl
/-- loop.example/g01054/impl.within -/
@[reducible] noncomputable def c_impl_within : Cx := { K := [.dat 0, .dat 0, .dat 0, .no, .no, .no, .dat 0, .dat 0, .dat 0, .dat 0, .dat 0, .dat 0, .dat 0, .dat 0, .dat 0], T := [(3, ty3)], S := [], H := [], res := [.tmp 6], ios := [], G := gl0 }
noncomputable def F_impl_within : List D → Option Out := denF c_impl_within Try.f46
@[reducible] noncomputable def S_impl_within : FS := { pm := [.dat 0, .dat 0, .dat 0], rm := [.dat 0], f := F_impl_within }
theorem M_impl_within : Meets gl0 Try.prog 46 S_impl_within := meets_of (P := Try.prog) (c := c_impl_within) (fn := Try.f46) (pm := S_impl_within.pm) (rm := S_impl_within.rm) (by kernel_rfl) lookNil follows_mixed Try.func46 (by kernel_rfl) (by kernel_rfl) rfl
/-- loop.example/g01054/impl.isOrder -/
@[reducible] noncomputable def c_impl_isOrder : Cx := { K := [.dat 0, .box 4 0 false, .dat 0, .ref 1, .dat 0, .dat 0, .dat 0, .ref 1, .dat 0, .dat 0, .dat 0, .dat 0, .ref 1, .dat 0, .dat 0, .dat 0, .dat 0, .ref 1, .dat 0, .dat 0, .dat 0], T := [(3, ty3), (40, ty40)], S := [(46, S_impl_within)], H := [], res := [.tmp 2], ios := [], G := gl0 }
noncomputable def F_impl_isOrder : List D → Option Out := denF c_impl_isOrder Try.f36
@[reducible] noncomputable def S_impl_isOrder : FS := { pm := [.dat 0], rm := [.dat 0], f := F_impl_isOrder }
theorem M_impl_isOrder : Meets gl0 Try.prog 36 S_impl_isOrder := meets_of (P := Try.prog) (c := c_impl_isOrder) (fn := Try.f36) (pm := S_impl_isOrder.pm) (rm := S_impl_isOrder.rm) (by kernel_rfl) (lookCons M_impl_within lookNil) follows_mixed Try.func36 (by kernel_rfl) (by kernel_rfl) rfl
/-- loop.example/g01054/impl.AreOrders -/
@[reducible] noncomputable def c_impl_AreOrders : Cx := { K := [.dat 2, .no, .dat 0, .dat 0, .box 4 0 false, .dat 2, .dat 0, .dat 0, .dat 0, .dat 0, .dat 2, .dat 0, .dat 0, .dat 0, .dat 0, .dat 0, .dat 0, .dat 0, .dat 0, .dat 2, .dat 0, .dat 0, .dat 2, .dat 2, .dat 0, .ref 4, .dat 0, .dat 0, .dat 0, .dat 0, .dat 0, .dat 2, .dat 0, .dat 0], T := [(3, ty3), (27, ty27), (40, ty40)], S := [(36, S_impl_isOrder)], H := [(0, ([0, 5, 6, 7], [0]))], res := [.tmp 2], ios := [], G := gl0 }
noncomputable def F_impl_AreOrders : List D → Option Out := denF c_impl_AreOrders Try.f19
@[reducible] noncomputable def S_impl_AreOrders : FS := { pm := [.dat 2], rm := [.dat 0], f := F_impl_AreOrders }
theorem M_impl_AreOrders : Meets gl0 Try.prog 19 S_impl_AreOrders := meets_of (P := Try.prog) (c := c_impl_AreOrders) (fn := Try.f19) (pm := S_impl_AreOrders.pm) (rm := S_impl_AreOrders.rm) (by kernel_rfl) (lookCons M_impl_isOrder lookNil) follows_mixed Try.func19 (by kernel_rfl) (by kernel_rfl) rfl
/-- loop.example/g01054/impl.finished -/
@[reducible] noncomputable def c_impl_finished : Cx := { K := [.dat 2, .dat 2, .no, .no, .own 1 0 false, .own 1 0 false, .dat 0, .dat 0, .no, .dat 0, .own 1 0 false, .dat 2, .dat 0, .dat 0, .dat 0, .dat 2, .dat 0, .dat 0, .dat 2, .dat 0, .dat 2, .dat 2, .dat 0, .dat 0, .dat 0, .dat 0, .dat 0, .dat 2, .dat 0, .dat 2, .dat 2, .dat 0, .dat 0, .own 1 0 false, .dat 0, .dat 1, .own 1 0 false, .dat 0, .own 1 0 false], T := [(3, ty3), (24, ty24), (27, ty27), (40, ty40)], S := [], H := [(0, ([0, 5, 6, 7, 11, 12, 13], [5]))], res := [.tmp 4], ios := [], G := gl0 }
noncomputable def F_impl_finished : List D → Option Out := denF c_impl_finished Try.f39
@[reducible] noncomputable def S_impl_finished : FS := { pm := [.dat 2, .dat 2], rm := [.own 1 0 false], f := F_impl_finished }
theorem M_impl_finished : Meets gl0 Try.prog 39 S_impl_finished := meets_of (P := Try.prog) (c := c_impl_finished) (fn := Try.f39) (pm := S_impl_finished.pm) (rm := S_impl_finished.rm) (by kernel_rfl) lookNil follows_mixed Try.func39 (by kernel_rfl) (by kernel_rfl) rfl
/-- loop.example/g01054/impl.lateness -/
@[reducible] noncomputable def c_impl_lateness : Cx := { K := [.dat 2, .dat 2, .no, .no, .own 1 0 false, .own 1 0 false, .dat 0, .dat 0, .own 1 0 false, .dat 2, .dat 2, .dat 1, .dat 0, .dat 0, .dat 0, .dat 0, .dat 1, .dat 0, .own 1 0 false, .dat 0, .dat 2, .dat 2, .dat 0, .dat 2, .dat 0, .dat 2, .dat 2, .dat 0, .dat 0, .dat 0, .dat 1, .own 1 0 false, .dat 0, .own 1 0 false], T := [(3, ty3), (24, ty24), (27, ty27), (40, ty40)], S := [(39, S_impl_finished)], H := [(0, ([0, 1, 5, 11, 12, 13], [5]))], res := [.tmp 4], ios := [], G := gl0 }
noncomputable def F_impl_lateness : List D → Option Out := denF c_impl_lateness Try.f23
@[reducible] noncomputable def S_impl_lateness : FS := { pm := [.dat 2, .dat 2], rm := [.own 1 0 false], f := F_impl_lateness }
theorem M_impl_lateness : Meets gl0 Try.prog 23 S_impl_lateness := meets_of (P := Try.prog) (c := c_impl_lateness) (fn := Try.f23) (pm := S_impl_lateness.pm) (rm := S_impl_lateness.rm) (by kernel_rfl) (lookCons M_impl_finished lookNil) follows_mixed Try.func23 (by kernel_rfl) (by kernel_rfl) rfl
/-- loop.example/g01054/impl.greatest -/
@[reducible] noncomputable def c_impl_greatest : Cx := { K := [.dat 2, .no, .dat 0, .dat 0, .no, .dat 0, .dat 2, .dat 0, .dat 0, .dat 0, .dat 2, .dat 0, .dat 0, .dat 0, .dat 0, .dat 0, .dat 0], T := [(3, ty3), (24, ty24)], S := [], H := [(0, ([3, 6, 7, 8], [3]))], res := [.tmp 2], ios := [], G := gl0 }
noncomputable def F_impl_greatest : List D → Option Out := denF c_impl_greatest Try.f22
@[reducible] noncomputable def S_impl_greatest : FS := { pm := [.dat 2], rm := [.dat 0], f := F_impl_greatest }
theorem M_impl_greatest : Meets gl0 Try.prog 22 S_impl_greatest := meets_of (P := Try.prog) (c := c_impl_greatest) (fn := Try.f22) (pm := S_impl_greatest.pm) (rm := S_impl_greatest.rm) (by kernel_rfl) lookNil follows_mixed Try.func22 (by kernel_rfl) (by kernel_rfl) rfl
/-- loop.example/g01054/impl.hasNumber -/
@[reducible] noncomputable def c_impl_hasNumber : Cx := { K := [.dat 2, .dat 0, .no, .no, .dat 0, .no, .dat 0, .dat 2, .dat 0, .dat 0, .dat 0, .dat 2, .dat 0, .dat 0, .dat 0, .dat 0, .dat 0], T := [(3, ty3), (24, ty24)], S := [], H := [(0, ([1, 7, 8, 9], []))], res := [.tmp 4], ios := [], G := gl0 }
noncomputable def F_impl_hasNumber : List D → Option Out := denF c_impl_hasNumber Try.f31
@[reducible] noncomputable def S_impl_hasNumber : FS := { pm := [.dat 2, .dat 0], rm := [.dat 0], f := F_impl_hasNumber }
theorem M_impl_hasNumber : Meets gl0 Try.prog 31 S_impl_hasNumber := meets_of (P := Try.prog) (c := c_impl_hasNumber) (fn := Try.f31) (pm := S_impl_hasNumber.pm) (rm := S_impl_hasNumber.rm) (by kernel_rfl) lookNil follows_mixed Try.func31 (by kernel_rfl) (by kernel_rfl) rfl
/-- loop.example/g01054/impl.sum -/
@[reducible] noncomputable def c_impl_sum : Cx := { K := [.dat 2, .no, .dat 0, .dat 0, .no, .dat 0, .dat 2, .dat 0, .dat 0, .dat 0, .dat 2, .dat 0, .dat 0, .dat 0, .dat 0, .dat 0, .dat 0], T := [(3, ty3), (24, ty24)], S := [], H := [(0, ([3, 6, 7, 8], [3]))], res := [.tmp 2], ios := [], G := gl0 }
noncomputable def F_impl_sum : List D → Option Out := denF c_impl_sum Try.f32
@[reducible] noncomputable def S_impl_sum : FS := { pm := [.dat 2], rm := [.dat 0], f := F_impl_sum }
theorem M_impl_sum : Meets gl0 Try.prog 32 S_impl_sum := meets_of (P := Try.prog) (c := c_impl_sum) (fn := Try.f32) (pm := S_impl_sum.pm) (rm := S_impl_sum.rm) (by kernel_rfl) lookNil follows_mixed Try.func32 (by kernel_rfl) (by kernel_rfl) rfl
/-- loop.example/g01054/spec.orSorted -/
@[reducible] noncomputable def c_spec_orSorted : Cx := { K := [.dat 2, .no, .dat 1, .dat 1, .dat 0, .dat 0, .dat 2, .dat 0, .dat 0, .dat 0, .dat 0, .dat 1, .dat 0, .dat 0, .dat 0, .dat 0, .dat 2, .dat 1, .dat 0, .dat 0, .dat 1, .dat 0, .dat 2, .dat 0, .dat 2, .dat 0, .dat 2, .dat 0, .dat 0, .dat 0, .dat 0, .dat 0, .own 1 0 false, .dat 1, .dat 0, .dat 1, .own 1 0 false, .dat 0, .dat 1, .own 1 0 false, .dat 1, .dat 0, .dat 1, .dat 1, .dat 0, .dat 1], T := [(3, ty3), (24, ty24)], S := [], H := [(0, ([0, 3, 7, 8], [3])), (2, ([0, 3, 4, 5, 7, 8], [0, 3, 4, 5, 7, 8]))], res := [.tmp 2], ios := [], G := gl0 }
noncomputable def F_spec_orSorted : List D → Option Out := denF c_spec_orSorted Try.f40
@[reducible] noncomputable def S_spec_orSorted : FS := { pm := [.dat 2], rm := [.dat 1], f := F_spec_orSorted }
theorem M_spec_orSorted : Meets gl0 Try.prog 40 S_spec_orSorted := meets_of (P := Try.prog) (c := c_spec_orSorted) (fn := Try.f40) (pm := S_spec_orSorted.pm) (rm := S_spec_orSorted.rm) (by kernel_rfl) lookNil follows_mixed Try.func40 (by kernel_rfl) (by kernel_rfl) rfl
/-- loop.example/g01054/spec.orByDue -/
@[reducible] noncomputable def c_spec_orByDue : Cx := { K := [.dat 2, .no, .dat 1, .own 1 0 false, .no, .box 4 0 false, .dat 2, .dat 0, .dat 0, .dat 0, .dat 2, .dat 0, .own 1 0 false, .ref 5, .dat 0, .dat 1, .own 1 0 false, .dat 0, .via 3, .dat 1], T := [(3, ty3), (24, ty24), (27, ty27), (40, ty40)], S := [(40, S_spec_orSorted)], H := [(0, ([3, 6, 7, 8], [3]))], res := [.tmp 2], ios := [], G := gl0 }
noncomputable def F_spec_orByDue : List D → Option Out := denF c_spec_orByDue Try.f25
@[reducible] noncomputable def S_spec_orByDue : FS := { pm := [.dat 2], rm := [.dat 1], f := F_spec_orByDue }
theorem M_spec_orByDue : Meets gl0 Try.prog 25 S_spec_orByDue := meets_of (P := Try.prog) (c := c_spec_orByDue) (fn := Try.f25) (pm := S_spec_orByDue.pm) (rm := S_spec_orByDue.rm) (by kernel_rfl) (lookCons M_spec_orSorted lookNil) follows_mixed Try.func25 (by kernel_rfl) (by kernel_rfl) rfl
/-- loop.example/g01054/spec.l1Put -/
@[reducible] noncomputable def c_spec_l1Put : Cx := { K := [.dat 2, .dat 0, .no, .no, .dat 2, .dat 0, .own 1 0 false, .dat 0, .dat 2, .dat 0, .dat 0, .dat 0, .dat 2, .dat 0, .dat 2, .dat 0, .dat 0, .dat 0, .dat 0, .dat 0, .dat 0, .dat 0, .dat 2, .dat 0, .dat 0, .dat 0, .dat 2, .dat 0, .dat 2, .dat 0, .dat 0, .dat 0, .dat 0, .dat 2, .own 1 0 false, .dat 2, .dat 0, .dat 2, .own 1 0 false, .own 1 0 false, .dat 0, .dat 1, .own 1 0 false, .own 1 0 false, .dat 2, .dat 0, .dat 2, .dat 2], T := [(3, ty3), (24, ty24)], S := [], H := [(0, ([0, 1, 5], [0, 1, 5]))], res := [.tmp 4], ios := [], G := gl0 }
noncomputable def F_spec_l1Put : List D → Option Out := denF c_spec_l1Put Try.f26
@[reducible] noncomputable def S_spec_l1Put : FS := { pm := [.dat 2, .dat 0], rm := [.dat 2], f := F_spec_l1Put }
theorem M_spec_l1Put : Meets gl0 Try.prog 26 S_spec_l1Put := meets_of (P := Try.prog) (c := c_spec_l1Put) (fn := Try.f26) (pm := S_spec_l1Put.pm) (rm := S_spec_l1Put.rm) (by kernel_rfl) lookNil follows_mixed Try.func26 (by kernel_rfl) (by kernel_rfl) rfl
/-- loop.example/g01054/spec.tyLess -/
@[reducible] noncomputable def c_spec_tyLess : Cx := { K := [.dat 2, .dat 2, .no, .no, .dat 0, .dat 0, .dat 0, .dat 2, .dat 0, .dat 0, .dat 0, .dat 0, .dat 2, .dat 0, .dat 0, .dat 0, .dat 0, .dat 0, .dat 2, .dat 0, .dat 2, .dat 0, .dat 2, .dat 0, .dat 2, .dat 0, .dat 0, .dat 2, .dat 0, .dat 2, .dat 0, .dat 2, .dat 0, .dat 2, .dat 0, .dat 0, .dat 2, .dat 0, .dat 2, .dat 0, .dat 0], T := [(3, ty3), (24, ty24)], S := [], H := [(0, ([0, 1, 5], [0, 1]))], res := [.tmp 4], ios := [], G := gl0 }
noncomputable def F_spec_tyLess : List D → Option Out := denF c_spec_tyLess Try.f28
@[reducible] noncomputable def S_spec_tyLess : FS := { pm := [.dat 2, .dat 2], rm := [.dat 0], f := F_spec_tyLess }
theorem M_spec_tyLess : Meets gl0 Try.prog 28 S_spec_tyLess := meets_of (P := Try.prog) (c := c_spec_tyLess) (fn := Try.f28) (pm := S_spec_tyLess.pm) (rm := S_spec_tyLess.rm) (by kernel_rfl) lookNil follows_mixed Try.func28 (by kernel_rfl) (by kernel_rfl) rfl
/-- loop.example/g01054/spec.MostInTime -/
@[reducible] noncomputable def c_spec_MostInTime : Cx := { K := [.dat 2, .no, .dat 2, .dat 0, .dat 2, .dat 0, .dat 2, .own 1 0 false, .no, .dat 0, .dat 2, .dat 0, .dat 0, .dat 0, .dat 2, .dat 0, .dat 0, .dat 0, .dat 0, .dat 0, .dat 0, .dat 2, .dat 1, .dat 0, .dat 0, .dat 0, .dat 1, .dat 0, .dat 0, .dat 0, .dat 0, .dat 0, .dat 0, .dat 0, .own 1 0 false, .dat 0, .dat 1, .own 1 0 false, .dat 2, .dat 0, .dat 2, .dat 0, .dat 2, .via 7, .dat 0, .dat 0, .dat 0, .dat 2, .dat 0, .dat 2, .dat 0, .dat 0, .dat 0, .dat 2, .dat 0, .dat 2, .dat 0, .dat 0, .dat 0, .dat 2, .dat 2, .dat 0, .dat 0, .dat 0, .dat 0, .dat 2, .dat 2], T := [(3, ty3), (24, ty24), (27, ty27), (40, ty40), (47, ty47)], S := [(16, S_spec_orGood), (25, S_spec_orByDue), (26, S_spec_l1Put), (27, S_spec_orWorst), (28, S_spec_tyLess)], H := [(0, ([0, 4, 5], [4])), (2, ([0, 4, 5, 6, 7, 22, 23, 24], [0, 4, 5, 6, 7]))], res := [.tmp 2, .tmp 3], ios := [], G := gl0 }
noncomputable def F_spec_MostInTime : List D → Option Out := denF c_spec_MostInTime Try.f14
@[reducible] noncomputable def S_spec_MostInTime : FS := { pm := [.dat 2], rm := [.dat 2, .dat 0], f := F_spec_MostInTime }
theorem M_spec_MostInTime : Meets gl0 Try.prog 14 S_spec_MostInTime := meets_of (P := Try.prog) (c := c_spec_MostInTime) (fn := Try.f14) (pm := S_spec_MostInTime.pm) (rm := S_spec_MostInTime.rm) (by kernel_rfl) (lookCons M_spec_orGood (lookCons M_spec_orByDue (lookCons M_spec_l1Put (lookCons M_spec_orWorst (lookCons M_spec_tyLess lookNil))))) follows_mixed Try.func14 (by kernel_rfl) (by kernel_rfl) rfl
/-- loop.example/g01054/laws.szOrderS -/
@[reducible] noncomputable def c_laws_szOrderS : Cx := { K := [.dat 2, .dat 0, .no, .no, .dat 0, .dat 0, .dat 2, .dat 0, .dat 0, .dat 0, .dat 0, .dat 0], T := [(3, ty3), (22, ty22), (42, ty42)], S := [], H := [], res := [.tmp 4], ios := [], G := gl0 }
noncomputable def F_laws_szOrderS : List D → Option Out := denF c_laws_szOrderS Try.f5
@[reducible] noncomputable def S_laws_szOrderS : FS := { pm := [.dat 2, .dat 0], rm := [.dat 0], f := F_laws_szOrderS }
theorem M_laws_szOrderS : Meets gl0 Try.prog 5 S_laws_szOrderS := meets_of (P := Try.prog) (c := c_laws_szOrderS) (fn := Try.f5) (pm := S_laws_szOrderS.pm) (rm := S_laws_szOrderS.rm) (by kernel_rfl) lookNil follows_mixed Try.func5 (by kernel_rfl) (by kernel_rfl) rfl
/-- loop.example/g01054/laws.toOrder -/
@[reducible] noncomputable def c_laws_toOrder : Cx := { K := [.dat 0, .box 4 0 false, .box 4 0 false, .box 4 0 false, .ref 1, .dat 0, .ref 3, .ref 1, .dat 0, .ref 3, .ref 1, .dat 0, .ref 3, .ref 1, .dat 0, .ref 3, .dat 0], T := [(3, ty3), (40, ty40), (42, ty42)], S := [], H := [], res := [.cell 2 40], ios := [], G := gl0 }
noncomputable def F_laws_toOrder : List D → Option Out := denF c_laws_toOrder Try.f18
@[reducible] noncomputable def S_laws_toOrder : FS := { pm := [.dat 0], rm := [.dat 0], f := F_laws_toOrder }
theorem M_laws_toOrder : Meets gl0 Try.prog 18 S_laws_toOrder := meets_of (P := Try.prog) (c := c_laws_toOrder) (fn := Try.f18) (pm := S_laws_toOrder.pm) (rm := S_laws_toOrder.rm) (by kernel_rfl) lookNil follows_mixed Try.func18 (by kernel_rfl) (by kernel_rfl) rfl
/-- loop.example/g01054/laws.toOrderS -/
@[reducible] noncomputable def c_laws_toOrderS : Cx := { K := [.dat 2, .no, .own 4 0 false, .own 4 0 false, .dat 0, .dat 2, .dat 0, .own 4 0 false, .dat 0, .dat 2, .dat 0, .dat 0, .dat 0, .dat 0, .via 3, .dat 0, .dat 2, .dat 0, .dat 2, .dat 0, .dat 0, .ref 3, .own 4 0 false], T := [(3, ty3), (22, ty22), (27, ty27), (40, ty40), (42, ty42)], S := [(18, S_laws_toOrder)], H := [(0, ([0, 3, 4], [3]))], res := [.tmp 2], ios := [], G := gl0 }
noncomputable def F_laws_toOrderS : List D → Option Out := denF c_laws_toOrderS Try.f7
@[reducible] noncomputable def S_laws_toOrderS : FS := { pm := [.dat 2], rm := [.own 4 0 false], f := F_laws_toOrderS }
theorem M_laws_toOrderS : Meets gl0 Try.prog 7 S_laws_toOrderS := meets_of (P := Try.prog) (c := c_laws_toOrderS) (fn := Try.f7) (pm := S_laws_toOrderS.pm) (rm := S_laws_toOrderS.rm) (by kernel_rfl) (lookCons M_laws_toOrder lookNil) follows_mixed Try.func7 (by kernel_rfl) (by kernel_rfl) rfl
/-- loop.example/g01054/laws.eqIntS -/
@[reducible] noncomputable def c_laws_eqIntS : Cx := { K := [.dat 2, .dat 2, .no, .no, .dat 0, .dat 0, .dat 2, .dat 0, .dat 2, .dat 0, .dat 0, .dat 0, .dat 2, .dat 0, .dat 0, .dat 0, .dat 0, .dat 2, .dat 0, .dat 2, .dat 0, .dat 2, .dat 0, .dat 2, .dat 0, .dat 0], T := [(3, ty3), (24, ty24)], S := [], H := [(0, ([0, 1, 5], []))], res := [.tmp 4], ios := [], G := gl0 }
noncomputable def F_laws_eqIntS : List D → Option Out := denF c_laws_eqIntS Try.f9
@[reducible] noncomputable def S_laws_eqIntS : FS := { pm := [.dat 2, .dat 2], rm := [.dat 0], f := F_laws_eqIntS }
theorem M_laws_eqIntS : Meets gl0 Try.prog 9 S_laws_eqIntS := meets_of (P := Try.prog) (c := c_laws_eqIntS) (fn := Try.f9) (pm := S_laws_eqIntS.pm) (rm := S_laws_eqIntS.rm) (by kernel_rfl) lookNil follows_mixed Try.func9 (by kernel_rfl) (by kernel_rfl) rfl
/-- loop.example/g01054/laws.eqOrder -/
@[reducible] noncomputable def c_laws_eqOrder : Cx := { K := [.dat 0, .dat 0, .box 4 0 false, .box 4 0 false, .dat 0, .ref 2, .dat 0, .ref 3, .dat 0, .dat 0, .ref 2, .dat 0, .ref 3, .dat 0, .dat 0, .ref 2, .dat 0, .ref 3, .dat 0, .dat 0, .ref 2, .dat 0, .ref 3, .dat 0, .dat 0], T := [(3, ty3), (40, ty40)], S := [], H := [], res := [.tmp 4], ios := [], G := gl0 }
noncomputable def F_laws_eqOrder : List D → Option Out := denF c_laws_eqOrder Try.f24
@[reducible] noncomputable def S_laws_eqOrder : FS := { pm := [.dat 0, .dat 0], rm := [.dat 0], f := F_laws_eqOrder }
theorem M_laws_eqOrder : Meets gl0 Try.prog 24 S_laws_eqOrder := meets_of (P := Try.prog) (c := c_laws_eqOrder) (fn := Try.f24) (pm := S_laws_eqOrder.pm) (rm := S_laws_eqOrder.rm) (by kernel_rfl) lookNil follows_mixed Try.func24 (by kernel_rfl) (by kernel_rfl) rfl
/-- loop.example/g01054/laws.eqOrderS -/
@[reducible] noncomputable def c_laws_eqOrderS : Cx := { K := [.dat 2, .dat 2, .no, .no, .dat 0, .dat 0, .dat 2, .dat 0, .dat 2, .dat 0, .dat 0, .dat 0, .dat 2, .dat 0, .dat 0, .dat 0, .dat 0, .dat 2, .dat 0, .dat 2, .dat 0, .dat 2, .dat 0, .dat 2, .dat 0, .dat 0, .dat 0], T := [(3, ty3), (27, ty27), (40, ty40)], S := [(24, S_laws_eqOrder)], H := [(0, ([0, 1, 5], []))], res := [.tmp 4], ios := [], G := gl0 }
noncomputable def F_laws_eqOrderS : List D → Option Out := denF c_laws_eqOrderS Try.f10
@[reducible] noncomputable def S_laws_eqOrderS : FS := { pm := [.dat 2, .dat 2], rm := [.dat 0], f := F_laws_eqOrderS }
theorem M_laws_eqOrderS : Meets gl0 Try.prog 10 S_laws_eqOrderS := meets_of (P := Try.prog) (c := c_laws_eqOrderS) (fn := Try.f10) (pm := S_laws_eqOrderS.pm) (rm := S_laws_eqOrderS.rm) (by kernel_rfl) (lookCons M_laws_eqOrder lookNil) follows_mixed Try.func10 (by kernel_rfl) (by kernel_rfl) rfl
/-- loop.example/g01054/laws.markOrderS -/
@[reducible] noncomputable def c_laws_markOrderS : Cx := { K := [.own 4 0 true, .dat 0, .no, .no, .dat 0, .dat 0, .dat 0, .via 0, .dat 0, .dat 0, .dat 0, .dat 0, .via 0, .dat 0, .dat 0, .ref 0, .ref 0, .dat 0, .dat 0, .via 0, .dat 0, .dat 0, .ref 0, .ref 0, .dat 0, .dat 0, .via 0, .dat 0, .dat 0, .ref 0, .ref 0, .dat 0, .dat 0, .via 0, .dat 0, .dat 0, .ref 0, .ref 0, .dat 0, .dat 0, .dat 0], T := [(3, ty3), (27, ty27), (40, ty40)], S := [], H := [(0, ([0, 1, 5], [0, 1]))], res := [.tmp 4], ios := [0], G := gl0 }
noncomputable def F_laws_markOrderS : List D → Option Out := denF c_laws_markOrderS Try.f11
@[reducible] noncomputable def S_laws_markOrderS : FS := { pm := [.own 4 0 true, .dat 0], rm := [.dat 0], f := F_laws_markOrderS }
theorem M_laws_markOrderS : Meets gl0 Try.prog 11 S_laws_markOrderS := meets_of (P := Try.prog) (c := c_laws_markOrderS) (fn := Try.f11) (pm := S_laws_markOrderS.pm) (rm := S_laws_markOrderS.rm) (by kernel_rfl) lookNil follows_mixed Try.func11 (by kernel_rfl) (by kernel_rfl) rfl
/-- loop.example/g01054/laws.markIntS -/
@[reducible] noncomputable def c_laws_markIntS : Cx := { K := [.own 1 0 true, .dat 0, .no, .no, .dat 0, .dat 0, .dat 0, .via 0, .dat 0, .dat 0, .dat 0, .dat 0, .via 0, .dat 0, .dat 0, .ref 0, .dat 0, .dat 0, .dat 0], T := [(3, ty3), (24, ty24)], S := [], H := [(0, ([0, 1, 5], [0, 1]))], res := [.tmp 4], ios := [0], G := gl0 }
noncomputable def F_laws_markIntS : List D → Option Out := denF c_laws_markIntS Try.f12
@[reducible] noncomputable def S_laws_markIntS : FS := { pm := [.own 1 0 true, .dat 0], rm := [.dat 0], f := F_laws_markIntS }
theorem M_laws_markIntS : Meets gl0 Try.prog 12 S_laws_markIntS := meets_of (P := Try.prog) (c := c_laws_markIntS) (fn := Try.f12) (pm := S_laws_markIntS.pm) (rm := S_laws_markIntS.rm) (by kernel_rfl) lookNil follows_mixed Try.func12 (by kernel_rfl) (by kernel_rfl) rfl
/-- loop.example/g01054/laws.heldIntS -/
@[reducible] noncomputable def c_laws_heldIntS : Cx := { K := [.dat 2, .dat 0, .no, .no, .dat 0, .dat 0, .dat 0, .dat 2, .dat 0, .dat 0, .dat 0, .dat 0, .dat 2, .dat 0, .dat 2, .dat 0, .dat 0, .dat 0, .dat 0, .dat 0, .dat 0], T := [(3, ty3), (24, ty24)], S := [], H := [(0, ([0, 1, 5], [1]))], res := [.tmp 4], ios := [], G := gl0 }
noncomputable def F_laws_heldIntS : List D → Option Out := denF c_laws_heldIntS Try.f13
@[reducible] noncomputable def S_laws_heldIntS : FS := { pm := [.dat 2, .dat 0], rm := [.dat 0], f := F_laws_heldIntS }
theorem M_laws_heldIntS : Meets gl0 Try.prog 13 S_laws_heldIntS := meets_of (P := Try.prog) (c := c_laws_heldIntS) (fn := Try.f13) (pm := S_laws_heldIntS.pm) (rm := S_laws_heldIntS.rm) (by kernel_rfl) lookNil follows_mixed Try.func13 (by kernel_rfl) (by kernel_rfl) rfl
end Go.Proofs.Ytaphcpfkgpaefaa
/-
  What the functions compute: their evaluated texts, printed.
-/
namespace Go.Proofs.Ytaphcpfkgpaefaa
open Go Go.V
theorem t_spec_l1In (x0 x1 x2 : D) : F_spec_l1In [x0, x1, x2] =
  ((bin BinOp.geq false [] x0 x1).bind fun z => (gate (D.tup []) z true (some x0)).bind fun z_1 => (gate (D.tup []) z true (some x2)).bind fun z_2 => (gate (D.tup []) z true (bin BinOp.leq false [] z_1 z_2)).bind fun z_3 =>
 (pickD z z_3 (D.v (Value.bool false))).bind fun z => some (Out.ret [z] [])) := by kernel_rfl
theorem t_spec_orOne (x0 : D) : F_spec_orOne [x0] =
  ((boxD 4 x0).bind fun y => (liveD y (D.ref 0 0)).bind fun z => ((atD y z).bind (takeD false 1)).bind fun z => callK (F_spec_l1In [z, D.v (Value.int IntKind.i64 1), D.v (Value.int IntKind.i64 99)]) fun rs _u =>
 (gate D.bad (sl rs 0) true (liveD y (D.ref 0 1))).bind fun z => (gate (D.tup []) (sl rs 0) true ((atD y z).bind (takeD false 1))).bind fun z => gateC (sl rs 0) true
 (callK (F_spec_l1In [z, D.v (Value.int IntKind.i64 0), D.v (Value.int IntKind.i64 500)]) fun rs _u => some (Out.nrm [sl rs 0])) [D.tup []] fun outs => (pickD (sl rs 0) (sl outs 0) (D.v (Value.bool false))).bind fun z =>
 (gate D.bad z true (liveD y (D.ref 0 2))).bind fun z_1 => (gate (D.tup []) z true ((atD y z_1).bind (takeD false 1))).bind fun z_2 => gateC z true
 (callK (F_spec_l1In [z_2, D.v (Value.int IntKind.i64 0), D.v (Value.int IntKind.i64 500)]) fun rs _u => some (Out.nrm [sl rs 0])) [D.tup []] fun outs => (pickD z (sl outs 0) (D.v (Value.bool false))).bind fun z =>
 (gate D.bad z true (liveD y (D.ref 0 3))).bind fun z_3 => (gate (D.tup []) z true ((atD y z_3).bind (takeD false 1))).bind fun z_4 => gateC z true (callK
 (F_spec_l1In [z_4, D.v (Value.int IntKind.i64 0), D.v (Value.int IntKind.i64 10000)]) fun rs _u => some (Out.nrm [sl rs 0])) [D.tup []] fun outs =>
 (pickD z (sl outs 0) (D.v (Value.bool false))).bind fun z => some (Out.ret [z] [])) := by kernel_rfl
theorem t_spec_orGood (x0 : D) : F_spec_orGood [x0] =
  ((lenD false x0).bind fun z => (loopC (fun s => (bin BinOp.lss false [] (sl s 3) (sl s 2)).bind fun z => ifD z ((Option.map D.ptr (elemD 4 (sl s 1) (sl s 3))).bind fun z => ((ldD true 4 z).bind chkV).bind fun z => (stD 4
 (D.agg [D.v (Value.int IntKind.i64 0), D.v (Value.int IntKind.i64 0), D.v (Value.int IntKind.i64 0), D.v (Value.int IntKind.i64 0)]) (D.ref 0 0) z).bind fun b => (fldD true 4 0 b).bind fun z =>
 callK (F_spec_orOne [z]) fun rs _u => (un UnOp.not (sl rs 0)).bind fun z => (gate (D.tup []) z false (some (sl s 3))).bind fun z_1 => (gate (D.tup []) z false
 (bin BinOp.gtr false [] z_1 (D.v (Value.int IntKind.i64 0)))).bind fun z_2 => (gate (D.tup []) z false (some z_2)).bind fun z_3 => (gate (D.tup []) z_3 true (some (sl s 0))).bind fun z_4 =>
 (gate (D.tup []) z_3 true (some (sl s 3))).bind fun z_5 => (gate (D.tup []) z_3 true (bin BinOp.sub false [] z_5 (D.v (Value.int IntKind.i64 1)))).bind fun z_6 =>
 (gate (D.tup []) z_3 true (Option.map D.ptr (elemD 4 z_4 z_6))).bind fun z_7 => (gate (D.tup []) z_3 true (offD 0 z_7)).bind fun z_8 => (gate (D.tup []) z_3 true ((ldD false 1 z_8).bind chkV)).bind fun z_9 =>
 (gate D.bad z_3 true (liveD b (D.ref 0 0))).bind fun z_10 => (gate (D.tup []) z_3 true ((atD b z_10).bind (takeD false 1))).bind fun z_11 => (gate (D.tup []) z_3 true (bin BinOp.geq false [] z_9 z_11)).bind fun z_12 =>
 (gate (D.tup []) z false (pickD z_3 z_12 (D.v (Value.bool false)))).bind fun z_13 => (pickD z (D.v (Value.bool true)) z_13).bind fun z => ifD z (some (Out.ret [D.v (Value.bool false)] []))
 ((bin BinOp.add false [] (sl s 3) (D.v (Value.int IntKind.i64 1))).bind fun z => some (Out.nrm [sl s 0, sl s 1, sl s 2, z]))) (some (Out.ext 0 [sl s 0]))) [x0, x0, z, D.v (Value.int IntKind.i64 0)]).bind fun o => outK o
 (fun i s => ifN (i.beq 0) ((lenD false (sl s 0)).bind fun z => (bin BinOp.leq false [] z (D.v (Value.int IntKind.i64 8))).bind fun z => some (Out.ret [z] [])) none) fun a b => some (Out.ret a b)) := by kernel_rfl
theorem t_spec_l1Most (x0 x1 : D) : F_spec_l1Most [x0, x1] =
  ((bin BinOp.gtr false [] x0 x1).bind fun z => ifD z (some (Out.ret [x0] [])) (some (Out.ret [x1] []))) := by kernel_rfl
theorem t_spec_orTimes (x0 x1 : D) : F_spec_orTimes [x0, x1] =
  ((lenD false x1).bind fun z => (loopC (fun s => (bin BinOp.lss false [] (sl s 7) (sl s 6)).bind fun z => ifD z ((Option.map D.ptr (elemD 1 (sl s 5) (sl s 7))).bind fun z => ((ldD false 1 z).bind chkV).bind fun z =>
 (Option.map D.ptr (elemD 4 (sl s 0) z)).bind fun z_1 => (offD 1 z_1).bind fun z_2 => ((ldD false 1 z_2).bind chkV).bind fun z_3 => (bin BinOp.add false [] (sl s 2) z_3).bind fun z_4 =>
 (bin BinOp.sub false [] z_4 (sl s 3)).bind fun z_5 => callK (F_spec_l1Most [D.v (Value.int IntKind.i64 0), z_5]) fun rs _u => (bin BinOp.add false [] (sl s 4) (sl rs 0)).bind fun z_6 =>
 callK (F_spec_l1Most [sl s 3, z_4]) fun rs _u => (Option.map D.ptr (elemD 4 (sl s 0) z)).bind fun z => (offD 2 z).bind fun z => ((ldD false 1 z).bind chkV).bind fun z => (bin BinOp.add false [] (sl rs 0) z).bind fun z =>
 (mkArr 1 [z]).bind fun a => (chkA a).bind fun b => (appD 1 8 (sl s 1) b).bind fun y => (bin BinOp.add false [] (sl s 7) (D.v (Value.int IntKind.i64 1))).bind fun z_7 =>
 some (Out.nrm [sl s 0, y, z_4, z, z_6, sl s 5, sl s 6, z_7])) (some (Out.ext 0 [sl s 1, sl s 4]))) [x0, D.arr 1 [], D.v (Value.int IntKind.i64 0), D.v (Value.int IntKind.i64 0), D.v (Value.int IntKind.i64 0),
 x1, z, D.v (Value.int IntKind.i64 0)]).bind fun o => outK o (fun i s => ifN (i.beq 0) (some (Out.ret [sl s 0, sl s 1] [])) none) fun a b => some (Out.ret a b)) := by kernel_rfl
theorem t_spec_orLate (x0 x1 : D) : F_spec_orLate [x0, x1] =
  (callK (F_spec_orTimes [x0, x1]) fun rs _u => (tupAt (D.tup rs) 0).bind fun y => (tupAt (tupCut (D.tup rs) 0) 1).bind fun _u => (lenD false x1).bind fun z => (loopC (fun s =>
 (bin BinOp.lss false [] (sl s 5) (sl s 4)).bind fun z => ifD z ((Option.map D.ptr (elemD 1 (sl s 3) (sl s 5))).bind fun z => ((ldD false 1 z).bind chkV).bind fun z =>
 (Option.map D.ptr (elemD 1 (sl s 1) (sl s 5))).bind fun z_1 => ((ldD false 1 z_1).bind chkV).bind fun z_2 => (Option.map D.ptr (elemD 4 (sl s 0) z)).bind fun z => (offD 3 z).bind fun z =>
 ((ldD false 1 z).bind chkV).bind fun z => (bin BinOp.sub false [] z_2 z).bind fun z => callK (F_spec_l1Most [D.v (Value.int IntKind.i64 0), z]) fun rs _u => (mkArr 1 [sl rs 0]).bind fun a => (chkA a).bind fun b =>
 (appD 1 8 (sl s 2) b).bind fun y => (bin BinOp.add false [] (sl s 5) (D.v (Value.int IntKind.i64 1))).bind fun z => some (Out.nrm [sl s 0, sl s 1, y, sl s 3, sl s 4, z])) (some (Out.ext 0 [sl s 2])))
 [x0, y, D.arr 1 [], x1, z, D.v (Value.int IntKind.i64 0)]).bind fun o => outK o (fun i s => ifN (i.beq 0) (some (Out.ret [sl s 0] [])) none) fun a b => some (Out.ret a b)) := by kernel_rfl
theorem t_spec_orWorst (x0 x1 : D) : F_spec_orWorst [x0, x1] =
  (callK (F_spec_orLate [x0, x1]) fun rs _u => (lenD false (sl rs 0)).bind fun z => (loopC (fun s => (bin BinOp.lss false [] (sl s 3) (sl s 2)).bind fun z => ifD z
 ((Option.map D.ptr (elemD 1 (sl s 1) (sl s 3))).bind fun z => ((ldD false 1 z).bind chkV).bind fun z => callK (F_spec_l1Most [sl s 0, z]) fun rs _u =>
 (bin BinOp.add false [] (sl s 3) (D.v (Value.int IntKind.i64 1))).bind fun z => some (Out.nrm [sl rs 0, sl s 1, sl s 2, z])) (some (Out.ext 0 [sl s 0])))
 [D.v (Value.int IntKind.i64 0), sl rs 0, z, D.v (Value.int IntKind.i64 0)]).bind fun o => outK o (fun i s => ifN (i.beq 0) (some (Out.ret [sl s 0] [])) none) fun a b => some (Out.ret a b)) := by kernel_rfl
theorem t_spec_l1Has (x0 x1 : D) : F_spec_l1Has [x0, x1] =
  ((lenD false x0).bind fun z => (loopC (fun s => (bin BinOp.lss false [] (sl s 3) (sl s 2)).bind fun z => ifD z ((Option.map D.ptr (elemD 1 (sl s 1) (sl s 3))).bind fun z => ((ldD false 1 z).bind chkV).bind fun z =>
 (bin BinOp.eql false [] z (sl s 0)).bind fun z => ifD z (some (Out.ret [D.v (Value.bool true)] [])) ((bin BinOp.add false [] (sl s 3) (D.v (Value.int IntKind.i64 1))).bind fun z =>
 some (Out.nrm [sl s 0, sl s 1, sl s 2, z]))) (some (Out.ext 0 []))) [x1, x0, z, D.v (Value.int IntKind.i64 0)]).bind fun o =>
 outK o (fun i _u => ifN (i.beq 0) (some (Out.ret [D.v (Value.bool false)] [])) none) fun a b => some (Out.ret a b)) := by kernel_rfl
theorem t_spec_l1Own (x0 : D) : F_spec_l1Own [x0] =
  ((mkArr 1 []).bind fun a => (chkA x0).bind fun b => (appD 1 8 a b).bind fun y => some (Out.ret [y] [])) := by kernel_rfl
theorem t_spec_orFirst (n : Nat) (x0 x1 : D) : R_spec_orFirst (n + 1) [x0, x1] =
  ((lenD false x1).bind fun z => (lenD false x0).bind fun z_1 => (bin BinOp.eql false [] z z_1).bind fun z => ifD z (callK (F_spec_orWorst [x0, x1]) fun rs _u => some (Out.ret [x1, sl rs 0] []))
 ((lenD false x0).bind fun z => (loopC (fun s => (bin BinOp.lss false [] (sl s 5) (sl s 4)).bind fun z => ifD z (callK (F_spec_l1Has [sl s 1, sl s 5]) fun rs _u => ifD (sl rs 0)
 ((bin BinOp.add false [] (sl s 5) (D.v (Value.int IntKind.i64 1))).bind fun z => some (Out.nrm [sl s 0, sl s 1, sl s 2, sl s 3, sl s 4, z])) (callK (F_spec_l1Own [sl s 1]) fun rs _u => (mkArr 1 [sl s 5]).bind fun a =>
 (appD 1 8 (sl rs 0) a).bind fun y => (bin BinOp.geq false [] (sl s 3) (D.v (Value.int IntKind.i64 0))).bind fun z => (gate (D.tup []) z true (some (sl s 0))).bind fun z_2 =>
 (gate (D.tup []) z true (some y)).bind fun z_3 => gateC z true (callK (F_spec_orWorst [z_2, z_3]) fun rs _u => some (Out.nrm [sl rs 0])) [D.tup []] fun outs => (gate (D.tup []) z true (some (sl s 3))).bind fun z_4 =>
 (gate (D.tup []) z true (bin BinOp.geq false [] (sl outs 0) z_4)).bind fun z_5 => (pickD z z_5 (D.v (Value.bool false))).bind fun z => ifD z ((bin BinOp.add false [] (sl s 5) (D.v (Value.int IntKind.i64 1))).bind
 fun z => some (Out.nrm [sl s 0, sl s 1, sl s 2, sl s 3, sl s 4, z])) (callK (R_spec_orFirst n [sl s 0, y]) fun rs _u => (tupAt (D.tup rs) 0).bind fun z => (tupAt (D.tup rs) 1).bind fun z_6 =>
 (bin BinOp.lss false [] (sl s 3) (D.v (Value.int IntKind.i64 0))).bind fun z_7 => (gate (D.tup []) z_7 false (some z_6)).bind fun z_8 => (gate (D.tup []) z_7 false (some (sl s 3))).bind fun z_9 =>
 (gate (D.tup []) z_7 false (bin BinOp.lss false [] z_8 z_9)).bind fun z_10 => (pickD z_7 (D.v (Value.bool true)) z_10).bind fun z_11 => ifD z_11 ((bin BinOp.add false [] (sl s 5) (D.v (Value.int IntKind.i64 1))).bind
 fun z_12 => some (Out.nrm [sl s 0, sl s 1, z, z_6, sl s 4, z_12])) ((bin BinOp.add false [] (sl s 5) (D.v (Value.int IntKind.i64 1))).bind fun z => some (Out.nrm [sl s 0, sl s 1, sl s 2, sl s 3, sl s 4, z])))))
 (some (Out.ext 0 [sl s 2, sl s 3]))) [x0, x1, D.arr 1 [], D.v (Value.int IntKind.i64 (-1)), z, D.v (Value.int IntKind.i64 0)]).bind fun o =>
 outK o (fun i s => ifN (i.beq 0) (some (Out.ret [sl s 0, sl s 1] [])) none) fun a b => some (Out.ret a b))) := by kernel_rfl
theorem t_spec_LeastLateness (x0 : D) : F_spec_LeastLateness [x0] =
  (callK (F_spec_orGood [x0]) fun rs _u => (un UnOp.not (sl rs 0)).bind fun z => ifD z (some (Out.ret [D.arr 1 [], D.v (Value.int IntKind.i64 0), D.v (Value.bool false)] []))
 (callK (F_spec_orFirst [x0, D.arr 0 []]) fun rs _u => (tupAt (D.tup rs) 0).bind fun z => (tupAt (D.tup rs) 1).bind fun z_1 => some (Out.ret [z, z_1, D.v (Value.bool true)] []))) := by kernel_rfl
theorem t_impl_within (x0 x1 x2 : D) : F_impl_within [x0, x1, x2] =
  ((bin BinOp.geq false [] x0 x1).bind fun z => (gate (D.tup []) z true (some x0)).bind fun z_1 => (gate (D.tup []) z true (some x2)).bind fun z_2 => (gate (D.tup []) z true (bin BinOp.leq false [] z_1 z_2)).bind fun z_3 =>
 (pickD z z_3 (D.v (Value.bool false))).bind fun z => some (Out.ret [z] [])) := by kernel_rfl
theorem t_impl_isOrder (x0 : D) : F_impl_isOrder [x0] =
  ((boxD 4 x0).bind fun y => (liveD y (D.ref 0 0)).bind fun z => ((atD y z).bind (takeD false 1)).bind fun z => callK (F_impl_within [z, D.v (Value.int IntKind.i64 1), D.v (Value.int IntKind.i64 99)]) fun rs _u =>
 (gate D.bad (sl rs 0) true (liveD y (D.ref 0 1))).bind fun z => (gate (D.tup []) (sl rs 0) true ((atD y z).bind (takeD false 1))).bind fun z => gateC (sl rs 0) true
 (callK (F_impl_within [z, D.v (Value.int IntKind.i64 0), D.v (Value.int IntKind.i64 500)]) fun rs _u => some (Out.nrm [sl rs 0])) [D.tup []] fun outs => (pickD (sl rs 0) (sl outs 0) (D.v (Value.bool false))).bind fun z =>
 (gate D.bad z true (liveD y (D.ref 0 2))).bind fun z_1 => (gate (D.tup []) z true ((atD y z_1).bind (takeD false 1))).bind fun z_2 => gateC z true
 (callK (F_impl_within [z_2, D.v (Value.int IntKind.i64 0), D.v (Value.int IntKind.i64 500)]) fun rs _u => some (Out.nrm [sl rs 0])) [D.tup []] fun outs => (pickD z (sl outs 0) (D.v (Value.bool false))).bind fun z =>
 (gate D.bad z true (liveD y (D.ref 0 3))).bind fun z_3 => (gate (D.tup []) z true ((atD y z_3).bind (takeD false 1))).bind fun z_4 => gateC z true (callK (F_impl_within
 [z_4, D.v (Value.int IntKind.i64 0), D.v (Value.int IntKind.i64 10000)]) fun rs _u => some (Out.nrm [sl rs 0])) [D.tup []] fun outs => (pickD z (sl outs 0) (D.v (Value.bool false))).bind fun z => some (Out.ret [z] [])) := by kernel_rfl
theorem t_impl_AreOrders (x0 : D) : F_impl_AreOrders [x0] =
  ((lenD false x0).bind fun z => (loopC (fun s => (bin BinOp.lss false [] (sl s 3) (sl s 2)).bind fun z => ifD z ((Option.map D.ptr (elemD 4 (sl s 1) (sl s 3))).bind fun z => ((ldD true 4 z).bind chkV).bind fun z => (stD 4
 (D.agg [D.v (Value.int IntKind.i64 0), D.v (Value.int IntKind.i64 0), D.v (Value.int IntKind.i64 0), D.v (Value.int IntKind.i64 0)]) (D.ref 0 0) z).bind fun b => (fldD true 4 0 b).bind fun z =>
 callK (F_impl_isOrder [z]) fun rs _u => (un UnOp.not (sl rs 0)).bind fun z => (gate (D.tup []) z false (some (sl s 3))).bind fun z_1 => (gate (D.tup []) z false
 (bin BinOp.gtr false [] z_1 (D.v (Value.int IntKind.i64 0)))).bind fun z_2 => (gate (D.tup []) z false (some z_2)).bind fun z_3 => (gate (D.tup []) z_3 true (some (sl s 0))).bind fun z_4 =>
 (gate (D.tup []) z_3 true (some (sl s 3))).bind fun z_5 => (gate (D.tup []) z_3 true (bin BinOp.sub false [] z_5 (D.v (Value.int IntKind.i64 1)))).bind fun z_6 =>
 (gate (D.tup []) z_3 true (Option.map D.ptr (elemD 4 z_4 z_6))).bind fun z_7 => (gate (D.tup []) z_3 true (offD 0 z_7)).bind fun z_8 => (gate (D.tup []) z_3 true ((ldD false 1 z_8).bind chkV)).bind fun z_9 =>
 (gate D.bad z_3 true (liveD b (D.ref 0 0))).bind fun z_10 => (gate (D.tup []) z_3 true ((atD b z_10).bind (takeD false 1))).bind fun z_11 => (gate (D.tup []) z_3 true (bin BinOp.geq false [] z_9 z_11)).bind fun z_12 =>
 (gate (D.tup []) z false (pickD z_3 z_12 (D.v (Value.bool false)))).bind fun z_13 => (pickD z (D.v (Value.bool true)) z_13).bind fun z => ifD z (some (Out.ret [D.v (Value.bool false)] []))
 ((bin BinOp.add false [] (sl s 3) (D.v (Value.int IntKind.i64 1))).bind fun z => some (Out.nrm [sl s 0, sl s 1, sl s 2, z]))) (some (Out.ext 0 [sl s 0]))) [x0, x0, z, D.v (Value.int IntKind.i64 0)]).bind fun o => outK o
 (fun i s => ifN (i.beq 0) ((lenD false (sl s 0)).bind fun z => (bin BinOp.leq false [] z (D.v (Value.int IntKind.i64 8))).bind fun z => some (Out.ret [z] [])) none) fun a b => some (Out.ret a b)) := by kernel_rfl
theorem t_impl_finished (x0 x1 : D) : F_impl_finished [x0, x1] =
  ((mkArr 1 []).bind fun a => (lenD false x1).bind fun z => (loopC (fun s => (bin BinOp.lss false [] (sl s 6) (sl s 5)).bind fun z => ifD z ((Option.map D.ptr (elemD 1 (sl s 4) (sl s 6))).bind fun z =>
 ((ldD false 1 z).bind chkV).bind fun z => (Option.map D.ptr (elemD 4 (sl s 0) z)).bind fun z_1 => (offD 1 z_1).bind fun z_2 => ((ldD false 1 z_2).bind chkV).bind fun z_3 =>
 (bin BinOp.add false [] (sl s 2) z_3).bind fun z_4 => ((maxD (sl s 3) z_4).bind fun z => some z).bind fun z_5 => (Option.map D.ptr (elemD 4 (sl s 0) z)).bind fun z => (offD 2 z).bind fun z =>
 ((ldD false 1 z).bind chkV).bind fun z => (bin BinOp.add false [] z_5 z).bind fun z => (mkArr 1 [z]).bind fun a => (chkA a).bind fun b => (appD 1 8 (sl s 1) b).bind fun y =>
 (bin BinOp.add false [] (sl s 6) (D.v (Value.int IntKind.i64 1))).bind fun z_6 => some (Out.nrm [sl s 0, y, z_4, z, sl s 4, sl s 5, z_6])) (some (Out.ext 0 [sl s 1])))
 [x0, a, D.v (Value.int IntKind.i64 0), D.v (Value.int IntKind.i64 0), x1, z, D.v (Value.int IntKind.i64 0)]).bind fun o => outK o (fun i s => ifN (i.beq 0) (some (Out.ret [sl s 0] [])) none) fun a b => some (Out.ret a b)) := by kernel_rfl
theorem t_impl_lateness (x0 x1 : D) : F_impl_lateness [x0, x1] =
  ((mkArr 1 []).bind fun a => callK (F_impl_finished [x0, x1]) fun rs _u => (lenD false (sl rs 0)).bind fun z => (loopC (fun s => (bin BinOp.lss false [] (sl s 5) (sl s 4)).bind fun z => ifD z
 ((Option.map D.ptr (elemD 1 (sl s 3) (sl s 5))).bind fun z => ((ldD false 1 z).bind chkV).bind fun z => (Option.map D.ptr (elemD 1 (sl s 1) (sl s 5))).bind fun z_1 => ((ldD false 1 z_1).bind chkV).bind fun z_2 =>
 (Option.map D.ptr (elemD 4 (sl s 0) z_2)).bind fun z_3 => (offD 3 z_3).bind fun z_4 => ((ldD false 1 z_4).bind chkV).bind fun z_5 => (bin BinOp.sub false [] z z_5).bind fun z =>
 ((maxD (D.v (Value.int IntKind.i64 0)) z).bind fun z => some z).bind fun z => (mkArr 1 [z]).bind fun a => (chkA a).bind fun b => (appD 1 8 (sl s 2) b).bind fun y =>
 (bin BinOp.add false [] (sl s 5) (D.v (Value.int IntKind.i64 1))).bind fun z => some (Out.nrm [sl s 0, sl s 1, y, sl s 3, sl s 4, z])) (some (Out.ext 0 [sl s 2])))
 [x0, x1, a, sl rs 0, z, D.v (Value.int IntKind.i64 0)]).bind fun o => outK o (fun i s => ifN (i.beq 0) (some (Out.ret [sl s 0] [])) none) fun a b => some (Out.ret a b)) := by kernel_rfl
theorem t_impl_greatest (x0 : D) : F_impl_greatest [x0] =
  ((lenD false x0).bind fun z => (loopC (fun s => (bin BinOp.lss false [] (sl s 3) (sl s 2)).bind fun z => ifD z ((Option.map D.ptr (elemD 1 (sl s 1) (sl s 3))).bind fun z => ((ldD false 1 z).bind chkV).bind fun z =>
 ((maxD (sl s 0) z).bind fun z => some z).bind fun z => (bin BinOp.add false [] (sl s 3) (D.v (Value.int IntKind.i64 1))).bind fun z_1 => some (Out.nrm [z, sl s 1, sl s 2, z_1])) (some (Out.ext 0 [sl s 0])))
 [D.v (Value.int IntKind.i64 0), x0, z, D.v (Value.int IntKind.i64 0)]).bind fun o => outK o (fun i s => ifN (i.beq 0) (some (Out.ret [sl s 0] [])) none) fun a b => some (Out.ret a b)) := by kernel_rfl
theorem t_impl_hasNumber (x0 x1 : D) : F_impl_hasNumber [x0, x1] =
  ((lenD false x0).bind fun z => (loopC (fun s => (bin BinOp.lss false [] (sl s 3) (sl s 2)).bind fun z => ifD z ((Option.map D.ptr (elemD 1 (sl s 1) (sl s 3))).bind fun z => ((ldD false 1 z).bind chkV).bind fun z =>
 (bin BinOp.eql false [] z (sl s 0)).bind fun z => ifD z (some (Out.ret [D.v (Value.bool true)] [])) ((bin BinOp.add false [] (sl s 3) (D.v (Value.int IntKind.i64 1))).bind fun z =>
 some (Out.nrm [sl s 0, sl s 1, sl s 2, z]))) (some (Out.ext 0 []))) [x1, x0, z, D.v (Value.int IntKind.i64 0)]).bind fun o =>
 outK o (fun i _u => ifN (i.beq 0) (some (Out.ret [D.v (Value.bool false)] [])) none) fun a b => some (Out.ret a b)) := by kernel_rfl
theorem t_impl_sum (x0 : D) : F_impl_sum [x0] =
  ((lenD false x0).bind fun z => (loopC (fun s => (bin BinOp.lss false [] (sl s 3) (sl s 2)).bind fun z => ifD z ((Option.map D.ptr (elemD 1 (sl s 1) (sl s 3))).bind fun z => ((ldD false 1 z).bind chkV).bind fun z =>
 (bin BinOp.add false [] (sl s 0) z).bind fun z => (bin BinOp.add false [] (sl s 3) (D.v (Value.int IntKind.i64 1))).bind fun z_1 => some (Out.nrm [z, sl s 1, sl s 2, z_1])) (some (Out.ext 0 [sl s 0])))
 [D.v (Value.int IntKind.i64 0), x0, z, D.v (Value.int IntKind.i64 0)]).bind fun o => outK o (fun i s => ifN (i.beq 0) (some (Out.ret [sl s 0] [])) none) fun a b => some (Out.ret a b)) := by kernel_rfl
theorem t_spec_orSorted (x0 : D) : F_spec_orSorted [x0] =
  ((lenD false x0).bind fun z => (loopC (fun s => (bin BinOp.lss false [] (sl s 3) (sl s 2)).bind fun z => ifD z ((lenD false (sl s 1)).bind fun z => (loopC (fun s =>
 (bin BinOp.gtr false [] (sl s 3) (D.v (Value.int IntKind.i64 0))).bind fun z => (gate (D.tup []) z true (some (sl s 0))).bind fun z_1 => (gate (D.tup []) z true (some (sl s 1))).bind fun z_2 =>
 (gate (D.tup []) z true (some (sl s 3))).bind fun z_3 => (gate (D.tup []) z true (bin BinOp.sub false [] z_3 (D.v (Value.int IntKind.i64 1)))).bind fun z_4 =>
 (gate (D.tup []) z true (Option.map D.ptr (elemD 1 z_2 z_4))).bind fun z_5 => (gate (D.tup []) z true ((ldD false 1 z_5).bind chkV)).bind fun z_6 =>
 (gate (D.tup []) z true (Option.map D.ptr (elemD 1 z_1 z_6))).bind fun z_7 => (gate (D.tup []) z true ((ldD false 1 z_7).bind chkV)).bind fun z_8 => (gate (D.tup []) z true (some (sl s 0))).bind fun z_9 =>
 (gate (D.tup []) z true (some (sl s 2))).bind fun z_10 => (gate (D.tup []) z true (Option.map D.ptr (elemD 1 z_9 z_10))).bind fun z_11 => (gate (D.tup []) z true ((ldD false 1 z_11).bind chkV)).bind fun z_12 =>
 (gate (D.tup []) z true (bin BinOp.gtr false [] z_8 z_12)).bind fun z_13 => (pickD z z_13 (D.v (Value.bool false))).bind fun z => ifD z ((bin BinOp.sub false [] (sl s 3) (D.v (Value.int IntKind.i64 1))).bind fun z =>
 some (Out.nrm [sl s 0, sl s 1, sl s 2, z, sl s 4, sl s 5])) (some (Out.ext 2 [sl s 0, sl s 1, sl s 2, sl s 3, sl s 4, sl s 5]))) [sl s 0, sl s 1, sl s 3, z, sl s 2, sl s 3]).bind fun o => outK o (fun i s => ifN (i.beq 2)
 ((mkArr 1 []).bind fun a => (sliceD false 1 (sl s 1) (D.v (Value.int IntKind.i64 0)) (sl s 3)).bind fun z => (chkA z).bind fun b => (appD 1 8 a b).bind fun y => (mkArr 1 [sl s 2]).bind fun a => (chkA a).bind fun b =>
 (appD 1 8 y b).bind fun y => (sliceHi false 1 (sl s 1) (sl s 3)).bind fun z => (appD 1 8 y z).bind fun y => (bin BinOp.add false [] (sl s 5) (D.v (Value.int IntKind.i64 1))).bind
 fun z => some (Out.nrm [sl s 0, y, sl s 4, z])) (ifN (i.beq 1) ((bin BinOp.add false [] (sl s 5) (D.v (Value.int IntKind.i64 1))).bind fun z => some (Out.nrm [sl s 0, sl s 1, sl s 4, z])) (some (Out.ext i [sl s 1]))))
 fun a b => some (Out.ret a b)) (some (Out.ext 0 [sl s 1]))) [x0, D.arr 1 [], z, D.v (Value.int IntKind.i64 0)]).bind
 fun o => outK o (fun i s => ifN (i.beq 0) (some (Out.ret [sl s 0] [])) none) fun a b => some (Out.ret a b)) := by kernel_rfl
theorem t_spec_orByDue (x0 : D) : F_spec_orByDue [x0] =
  ((lenD false x0).bind fun z => (loopC (fun s => (bin BinOp.lss false [] (sl s 3) (sl s 2)).bind fun z => ifD z ((Option.map D.ptr (elemD 4 (sl s 1) (sl s 3))).bind fun z => ((ldD true 4 z).bind chkV).bind fun z => (stD 4
 (D.agg [D.v (Value.int IntKind.i64 0), D.v (Value.int IntKind.i64 0), D.v (Value.int IntKind.i64 0), D.v (Value.int IntKind.i64 0)]) (D.ref 0 0) z).bind fun b => (liveD b (D.ref 0 3)).bind fun z =>
 ((atD b z).bind (takeD false 1)).bind fun z => (mkArr 1 [z]).bind fun a => (chkA a).bind fun b => (appD 1 8 (sl s 0) b).bind fun y => (bin BinOp.add false [] (sl s 3) (D.v (Value.int IntKind.i64 1))).bind fun z =>
 some (Out.nrm [y, sl s 1, sl s 2, z])) (some (Out.ext 0 [sl s 0]))) [D.arr 1 [], x0, z, D.v (Value.int IntKind.i64 0)]).bind fun o => outK o (fun i s => ifN (i.beq 0) ((liveD (sl s 0) (D.ref 0 0)).bind fun z =>
 (liveD z (sl s 0)).bind fun i => callK (F_spec_orSorted [i]) fun rs _u => some (Out.ret [sl rs 0] [])) none) fun a b => some (Out.ret a b)) := by kernel_rfl
theorem t_spec_l1Put (x0 x1 : D) : F_spec_l1Put [x0, x1] =
  ((loopC (fun s => (lenD false (sl s 0)).bind fun z => (bin BinOp.lss false [] (sl s 2) z).bind fun z => (gate (D.tup []) z true (some (sl s 0))).bind fun z_1 => (gate (D.tup []) z true (some (sl s 2))).bind fun z_2 =>
 (gate (D.tup []) z true (Option.map D.ptr (elemD 1 z_1 z_2))).bind fun z_3 => (gate (D.tup []) z true ((ldD false 1 z_3).bind chkV)).bind fun z_4 => (gate (D.tup []) z true (some (sl s 1))).bind fun z_5 =>
 (gate (D.tup []) z true (bin BinOp.lss false [] z_4 z_5)).bind fun z_6 => (pickD z z_6 (D.v (Value.bool false))).bind fun z => ifD z ((bin BinOp.add false [] (sl s 2) (D.v (Value.int IntKind.i64 1))).bind fun z =>
 some (Out.nrm [sl s 0, sl s 1, z])) (some (Out.ext 0 [sl s 0, sl s 1, sl s 2]))) [x0, x1, D.v (Value.int IntKind.i64 0)]).bind fun o => outK o (fun i s => ifN (i.beq 0) ((lenD false (sl s 0)).bind fun z =>
 (bin BinOp.lss false [] (sl s 2) z).bind fun z => (gate (D.tup []) z true (some (sl s 0))).bind fun z_1 => (gate (D.tup []) z true (some (sl s 2))).bind fun z_2 =>
 (gate (D.tup []) z true (Option.map D.ptr (elemD 1 z_1 z_2))).bind fun z_3 => (gate (D.tup []) z true ((ldD false 1 z_3).bind chkV)).bind fun z_4 => (gate (D.tup []) z true (some (sl s 1))).bind fun z_5 =>
 (gate (D.tup []) z true (bin BinOp.eql false [] z_4 z_5)).bind fun z_6 => (pickD z z_6 (D.v (Value.bool false))).bind fun z => ifD z (some (Out.ret [sl s 0] [])) ((mkArr 1 []).bind fun a =>
 (sliceD false 1 (sl s 0) (D.v (Value.int IntKind.i64 0)) (sl s 2)).bind fun z => (chkA z).bind fun b => (appD 1 8 a b).bind fun y => (mkArr 1 [sl s 1]).bind fun a => (chkA a).bind fun b => (appD 1 8 y b).bind fun y =>
 (sliceHi false 1 (sl s 0) (sl s 2)).bind fun z => (appD 1 8 y z).bind fun y => some (Out.ret [y] []))) none) fun a b => some (Out.ret a b)) := by kernel_rfl
theorem t_spec_tyLess (x0 x1 : D) : F_spec_tyLess [x0, x1] =
  ((loopC (fun s => (lenD false (sl s 0)).bind fun z => (bin BinOp.lss false [] (sl s 2) z).bind fun z => (gate (D.tup []) z true (some (sl s 2))).bind fun z_1 => (gate (D.tup []) z true (some (sl s 1))).bind fun z_2 =>
 (gate (D.tup []) z true (lenD false z_2)).bind fun z_3 => (gate (D.tup []) z true (bin BinOp.lss false [] z_1 z_3)).bind fun z_4 => (pickD z z_4 (D.v (Value.bool false))).bind fun z => ifD z
 ((Option.map D.ptr (elemD 1 (sl s 0) (sl s 2))).bind fun z => ((ldD false 1 z).bind chkV).bind fun z => (Option.map D.ptr (elemD 1 (sl s 1) (sl s 2))).bind fun z_5 => ((ldD false 1 z_5).bind chkV).bind fun z_6 =>
 (bin BinOp.neq false [] z z_6).bind fun z => ifD z ((Option.map D.ptr (elemD 1 (sl s 0) (sl s 2))).bind fun z => ((ldD false 1 z).bind chkV).bind fun z => (Option.map D.ptr (elemD 1 (sl s 1) (sl s 2))).bind fun z_7 =>
 ((ldD false 1 z_7).bind chkV).bind fun z_8 => (bin BinOp.lss false [] z z_8).bind fun z => some (Out.ret [z] [])) ((bin BinOp.add false [] (sl s 2) (D.v (Value.int IntKind.i64 1))).bind fun z =>
 some (Out.nrm [sl s 0, sl s 1, z]))) (some (Out.ext 0 [sl s 0, sl s 1]))) [x0, x1, D.v (Value.int IntKind.i64 0)]).bind fun o => outK o (fun i s => ifN (i.beq 0) ((lenD false (sl s 0)).bind fun z =>
 (lenD false (sl s 1)).bind fun z_1 => (bin BinOp.lss false [] z z_1).bind fun z => some (Out.ret [z] [])) none) fun a b => some (Out.ret a b)) := by kernel_rfl
theorem t_spec_MostInTime (x0 : D) : F_spec_MostInTime [x0] =
  (callK (F_spec_orGood [x0]) fun rs _u => (un UnOp.not (sl rs 0)).bind fun z => ifD z (some (Out.ret [D.arr 1 [], D.v (Value.bool false)] [])) ((loopC (fun s => (lenD false (sl s 0)).bind fun z =>
 (convD (some IntKind.u64) false z).bind fun z => (bin BinOp.shl false [] (D.v (Value.int IntKind.i64 1)) z).bind fun z => (bin BinOp.lss false [] (sl s 2) z).bind fun z => ifD z
 (callK (F_spec_orByDue [sl s 0]) fun rs _u => (lenD false (sl rs 0)).bind fun z => (loopC (fun s => (bin BinOp.lss false [] (sl s 7) (sl s 6)).bind fun z => ifD z
 ((Option.map D.ptr (elemD 1 (sl s 5) (sl s 7))).bind fun z => ((ldD false 1 z).bind chkV).bind fun z => (convD (some IntKind.u64) false z).bind fun z_1 => (bin BinOp.shr false [] (sl s 2) z_1).bind fun z_2 =>
 (bin BinOp.and false [] z_2 (D.v (Value.int IntKind.i64 1))).bind fun z_3 => (bin BinOp.eql false [] z_3 (D.v (Value.int IntKind.i64 1))).bind fun z_4 => ifD z_4 ((mkArr 1 [z]).bind fun a => (chkA a).bind fun b =>
 (appD 1 8 (sl s 4) b).bind fun y => callK (F_spec_l1Put [sl s 3, z]) fun rs _u => (bin BinOp.add false [] (sl s 7) (D.v (Value.int IntKind.i64 1))).bind fun z => some (Out.nrm [sl s 0, sl s 1, sl s 2, sl rs 0, y, sl s 5,
 sl s 6, z])) ((bin BinOp.add false [] (sl s 7) (D.v (Value.int IntKind.i64 1))).bind fun z => some (Out.nrm [sl s 0, sl s 1, sl s 2, sl s 3, sl s 4, sl s 5, sl s 6, z])))
 (some (Out.ext 2 [sl s 0, sl s 1, sl s 2, sl s 3, sl s 4]))) [sl s 0, sl s 1, sl s 2, D.arr 1 [], D.arr 1 [], sl rs 0, z, D.v (Value.int IntKind.i64 0)]).bind fun o => outK o (fun i s => ifN (i.beq 2)
 ((liveD (sl s 4) (D.ref 0 0)).bind fun z => (liveD z (sl s 4)).bind fun i => callK (F_spec_orWorst [sl s 0, i]) fun rs _u => (bin BinOp.eql false [] (sl rs 0) (D.v (Value.int IntKind.i64 0))).bind fun z =>
 (gate (D.tup []) z true (some (sl s 3))).bind fun z_1 => (gate (D.tup []) z true (lenD false z_1)).bind fun z_2 => (gate (D.tup []) z true (some (sl s 1))).bind fun z_3 =>
 (gate (D.tup []) z true (lenD false z_3)).bind fun z_4 => (gate (D.tup []) z true (bin BinOp.gtr false [] z_2 z_4)).bind fun z_5 => (gate (D.tup []) z true (some z_5)).bind fun z_6 =>
 (gate (D.tup []) z_6 false (some (sl s 3))).bind fun z_7 => (gate (D.tup []) z_6 false (lenD false z_7)).bind fun z_8 => (gate (D.tup []) z_6 false (some (sl s 1))).bind fun z_9 =>
 (gate (D.tup []) z_6 false (lenD false z_9)).bind fun z_10 => (gate (D.tup []) z_6 false (bin BinOp.eql false [] z_8 z_10)).bind fun z_11 => (gate (D.tup []) z_6 false (some z_11)).bind fun z_12 =>
 (gate (D.tup []) z_12 true (some (sl s 3))).bind fun z_13 => (gate (D.tup []) z_12 true (some (sl s 1))).bind fun z_14 => gateC z_12 true (callK (F_spec_tyLess [z_13, z_14]) fun rs _u => some (Out.nrm [sl rs 0]))
 [D.tup []] fun outs => (gate (D.tup []) z_6 false (pickD z_12 (sl outs 0) (D.v (Value.bool false)))).bind fun z_15 => (gate (D.tup []) z true (pickD z_6 (D.v (Value.bool true)) z_15)).bind fun z_16 => (pickD z z_16
 (D.v (Value.bool false))).bind fun z => ifD z ((bin BinOp.add false [] (sl s 2) (D.v (Value.int IntKind.i64 1))).bind fun z => some (Out.nrm [sl s 0, sl s 3, z])) ((bin BinOp.add false [] (sl s 2) (D.v
 (Value.int IntKind.i64 1))).bind fun z => some (Out.nrm [sl s 0, sl s 1, z]))) (ifN (i.beq 1) ((bin BinOp.add false [] (sl s 2) (D.v (Value.int IntKind.i64 1))).bind fun z => some (Out.nrm [sl s 0, sl s 1, z]))
 (some (Out.ext i [sl s 1])))) fun a b => some (Out.ret a b)) (some (Out.ext 0 [sl s 1]))) [x0, D.arr 1 [], D.v (Value.int IntKind.i64 0)]).bind fun o =>
 outK o (fun i s => ifN (i.beq 0) (some (Out.ret [sl s 0, D.v (Value.bool true)] [])) none) fun a b => some (Out.ret a b))) := by kernel_rfl
theorem t_laws_szOrderS (x0 x1 : D) : F_laws_szOrderS [x0, x1] =
  ((lenD false x0).bind fun z => (bin BinOp.sub false [] x1 z).bind fun z => (bin BinOp.lss false [] z (D.v (Value.int IntKind.i64 0))).bind fun z_1 =>
 ifD z_1 (some (Out.ret [D.v (Value.int IntKind.i64 (-1))] [])) (some (Out.ret [z] []))) := by kernel_rfl
theorem t_laws_toOrder (x0 : D) : F_laws_toOrder [x0] =
  ((boxD 4 x0).bind fun y => (liveD y (D.ref 0 0)).bind fun z => ((atD y z).bind (takeD false 1)).bind fun z => (liveD (D.agg [D.v (Value.int IntKind.i64 0), D.v (Value.int IntKind.i64 0), D.v (Value.int IntKind.i64 0),
 D.v (Value.int IntKind.i64 0)]) (D.ref 0 0)).bind fun z_1 => (stD 1 (D.agg [D.v (Value.int IntKind.i64 0), D.v (Value.int IntKind.i64 0), D.v (Value.int IntKind.i64 0), D.v (Value.int IntKind.i64 0)]) z_1 z).bind fun b =>
 (liveD y (D.ref 0 1)).bind fun z => ((atD y z).bind (takeD false 1)).bind fun z => (liveD b (D.ref 0 1)).bind fun z_2 => (stD 1 b z_2 z).bind fun b => (liveD y (D.ref 0 2)).bind fun z =>
 ((atD y z).bind (takeD false 1)).bind fun z => (liveD b (D.ref 0 2)).bind fun z_3 => (stD 1 b z_3 z).bind fun b => (liveD y (D.ref 0 3)).bind fun z => ((atD y z).bind (takeD false 1)).bind fun z =>
 (liveD b (D.ref 0 3)).bind fun z_4 => (stD 1 b z_4 z).bind fun b => (fldD true 4 0 b).bind fun z => (stD 4 (D.agg [D.v (Value.int IntKind.i64 0), D.v (Value.int IntKind.i64 0),
 D.v (Value.int IntKind.i64 0), D.v (Value.int IntKind.i64 0)]) (D.ref 0 0) z).bind fun b => (fldD true 4 0 b).bind fun y => some (Out.ret [y] [])) := by kernel_rfl
theorem t_laws_toOrderS (x0 : D) : F_laws_toOrderS [x0] =
  ((lenD false x0).bind fun z => (makD 4 32 (D.agg [D.v (Value.int IntKind.i64 0), D.v (Value.int IntKind.i64 0), D.v (Value.int IntKind.i64 0), D.v (Value.int IntKind.i64 0)]) z z).bind fun y => (loopC (fun s =>
 (lenD false (sl s 0)).bind fun z => (bin BinOp.lss false [] (sl s 2) z).bind fun z => ifD z ((liveD (sl s 1) (D.ref 0 0)).bind fun z => (Option.map D.ptr (elemD 4 (sl s 0) (sl s 2))).bind fun z_1 =>
 ((ldD true 4 z_1).bind chkV).bind fun z_2 => callK (F_laws_toOrder [z_2]) fun rs _u => ((liveD z (sl s 1)).bind fun b => refI 4 b (sl s 2)).bind fun z => (stD 4 (sl s 1) z (sl rs 0)).bind fun b =>
 (bin BinOp.add false [] (sl s 2) (D.v (Value.int IntKind.i64 1))).bind fun z => some (Out.nrm [sl s 0, b, z])) (some (Out.ext 0 [sl s 1]))) [x0, y, D.v (Value.int IntKind.i64 0)]).bind
 fun o => outK o (fun i s => ifN (i.beq 0) (some (Out.ret [sl s 0] [])) none) fun a b => some (Out.ret a b)) := by kernel_rfl
theorem t_laws_eqIntS (x0 x1 : D) : F_laws_eqIntS [x0, x1] =
  ((lenD false x0).bind fun z => (lenD false x1).bind fun z_1 => (bin BinOp.neq false [] z z_1).bind fun z => ifD z (some (Out.ret [D.v (Value.bool false)] [])) ((loopC (fun s => (lenD false (sl s 0)).bind fun z =>
 (bin BinOp.lss false [] (sl s 2) z).bind fun z => ifD z ((Option.map D.ptr (elemD 1 (sl s 0) (sl s 2))).bind fun z => ((ldD false 1 z).bind chkV).bind fun z =>
 (Option.map D.ptr (elemD 1 (sl s 1) (sl s 2))).bind fun z_2 => ((ldD false 1 z_2).bind chkV).bind fun z_3 => (bin BinOp.neq false [] z z_3).bind fun z => ifD z (some (Out.ret [D.v (Value.bool false)] []))
 ((bin BinOp.add false [] (sl s 2) (D.v (Value.int IntKind.i64 1))).bind fun z => some (Out.nrm [sl s 0, sl s 1, z]))) (some (Out.ext 0 []))) [x0, x1, D.v (Value.int IntKind.i64 0)]).bind fun o =>
 outK o (fun i _u => ifN (i.beq 0) (some (Out.ret [D.v (Value.bool true)] [])) none) fun a b => some (Out.ret a b))) := by kernel_rfl
theorem t_laws_eqOrder (x0 x1 : D) : F_laws_eqOrder [x0, x1] =
  ((boxD 4 x0).bind fun y => (boxD 4 x1).bind fun y_1 => (liveD y (D.ref 0 0)).bind fun z => ((atD y z).bind (takeD false 1)).bind fun z => (liveD y_1 (D.ref 0 0)).bind fun z_1 =>
 ((atD y_1 z_1).bind (takeD false 1)).bind fun z_2 => (bin BinOp.neq false [] z z_2).bind fun z => ifD z (some (Out.ret [D.v (Value.bool false)] [])) ((liveD y (D.ref 0 1)).bind fun z =>
 ((atD y z).bind (takeD false 1)).bind fun z => (liveD y_1 (D.ref 0 1)).bind fun z_3 => ((atD y_1 z_3).bind (takeD false 1)).bind fun z_4 => (bin BinOp.neq false [] z z_4).bind fun z =>
 ifD z (some (Out.ret [D.v (Value.bool false)] [])) ((liveD y (D.ref 0 2)).bind fun z => ((atD y z).bind (takeD false 1)).bind fun z => (liveD y_1 (D.ref 0 2)).bind fun z_5 =>
 ((atD y_1 z_5).bind (takeD false 1)).bind fun z_6 => (bin BinOp.neq false [] z z_6).bind fun z => ifD z (some (Out.ret [D.v (Value.bool false)] [])) ((liveD y (D.ref 0 3)).bind fun z =>
 ((atD y z).bind (takeD false 1)).bind fun z => (liveD y_1 (D.ref 0 3)).bind fun z_7 => ((atD y_1 z_7).bind (takeD false 1)).bind fun z_8 => (bin BinOp.neq false [] z z_8).bind fun z =>
 ifD z (some (Out.ret [D.v (Value.bool false)] [])) (some (Out.ret [D.v (Value.bool true)] [])))))) := by kernel_rfl
theorem t_laws_eqOrderS (x0 x1 : D) : F_laws_eqOrderS [x0, x1] =
  ((lenD false x0).bind fun z => (lenD false x1).bind fun z_1 => (bin BinOp.neq false [] z z_1).bind fun z => ifD z (some (Out.ret [D.v (Value.bool false)] [])) ((loopC (fun s => (lenD false (sl s 0)).bind fun z =>
 (bin BinOp.lss false [] (sl s 2) z).bind fun z => ifD z ((Option.map D.ptr (elemD 4 (sl s 0) (sl s 2))).bind fun z => ((ldD true 4 z).bind chkV).bind fun z => (Option.map D.ptr (elemD 4 (sl s 1) (sl s 2))).bind fun z_2 =>
 ((ldD true 4 z_2).bind chkV).bind fun z_3 => callK (F_laws_eqOrder [z, z_3]) fun rs _u => (un UnOp.not (sl rs 0)).bind fun z => ifD z (some (Out.ret [D.v (Value.bool false)] []))
 ((bin BinOp.add false [] (sl s 2) (D.v (Value.int IntKind.i64 1))).bind fun z => some (Out.nrm [sl s 0, sl s 1, z]))) (some (Out.ext 0 []))) [x0, x1, D.v (Value.int IntKind.i64 0)]).bind fun o =>
 outK o (fun i _u => ifN (i.beq 0) (some (Out.ret [D.v (Value.bool true)] [])) none) fun a b => some (Out.ret a b))) := by kernel_rfl
theorem t_laws_markOrderS (x0 x1 : D) : F_laws_markOrderS [x0, x1] =
  ((loopC (fun s => (liveD (sl s 0) (D.ref 0 0)).bind fun z => ((liveD z (sl s 0)).bind (lenD false)).bind fun z => (bin BinOp.lss false [] (sl s 2) z).bind fun z => ifD z ((liveD (sl s 0) (D.ref 0 0)).bind fun z =>
 ((liveD z (sl s 0)).bind fun b => refI 4 b (sl s 2)).bind fun z => (refAdd 0 z).bind fun z => (stD 1 (sl s 0) z (sl s 1)).bind fun b => (bin BinOp.add false [] (sl s 1) (D.v (Value.int IntKind.i64 1))).bind fun z =>
 (liveD b (D.ref 0 0)).bind fun z_1 => ((liveD z_1 b).bind fun b => refI 4 b (sl s 2)).bind fun z_2 => (refAdd 1 z_2).bind fun z_3 => (stD 1 b z_3 z).bind fun b =>
 (bin BinOp.add false [] z (D.v (Value.int IntKind.i64 1))).bind fun z => (liveD b (D.ref 0 0)).bind fun z_4 => ((liveD z_4 b).bind fun b => refI 4 b (sl s 2)).bind fun z_5 => (refAdd 2 z_5).bind fun z_6 =>
 (stD 1 b z_6 z).bind fun b => (bin BinOp.add false [] z (D.v (Value.int IntKind.i64 1))).bind fun z => (liveD b (D.ref 0 0)).bind fun z_7 => ((liveD z_7 b).bind fun b => refI 4 b (sl s 2)).bind fun z_8 =>
 (refAdd 3 z_8).bind fun z_9 => (stD 1 b z_9 z).bind fun b => (bin BinOp.add false [] z (D.v (Value.int IntKind.i64 1))).bind fun z => (bin BinOp.add false [] (sl s 2) (D.v (Value.int IntKind.i64 1))).bind
 fun z_10 => some (Out.nrm [b, z, z_10])) (some (Out.ext 0 [sl s 0, sl s 1]))) [x0, x1, D.v (Value.int IntKind.i64 0)]).bind fun o =>
 outK o (fun i s => ifN (i.beq 0) ((liveD (sl s 0) (sl s 0)).bind fun _u => some (Out.ret [sl s 1] [sl s 0])) none) fun a b => some (Out.ret a b)) := by kernel_rfl
theorem t_laws_markIntS (x0 x1 : D) : F_laws_markIntS [x0, x1] =
  ((loopC (fun s => (liveD (sl s 0) (D.ref 0 0)).bind fun z => ((liveD z (sl s 0)).bind (lenD false)).bind fun z => (bin BinOp.lss false [] (sl s 2) z).bind fun z => ifD z ((liveD (sl s 0) (D.ref 0 0)).bind fun z =>
 ((liveD z (sl s 0)).bind fun b => refI 1 b (sl s 2)).bind fun z => (stD 1 (sl s 0) z (sl s 1)).bind fun b => (bin BinOp.add false [] (sl s 1) (D.v (Value.int IntKind.i64 1))).bind fun z =>
 (bin BinOp.add false [] (sl s 2) (D.v (Value.int IntKind.i64 1))).bind fun z_1 => some (Out.nrm [b, z, z_1])) (some (Out.ext 0 [sl s 0, sl s 1]))) [x0, x1, D.v (Value.int IntKind.i64 0)]).bind fun o =>
 outK o (fun i s => ifN (i.beq 0) ((liveD (sl s 0) (sl s 0)).bind fun _u => some (Out.ret [sl s 1] [sl s 0])) none) fun a b => some (Out.ret a b)) := by kernel_rfl
theorem t_laws_heldIntS (x0 x1 : D) : F_laws_heldIntS [x0, x1] =
  ((loopC (fun s => (lenD false (sl s 0)).bind fun z => (bin BinOp.lss false [] (sl s 2) z).bind fun z => ifD z ((Option.map D.ptr (elemD 1 (sl s 0) (sl s 2))).bind fun z => ((ldD false 1 z).bind chkV).bind fun z =>
 (bin BinOp.neq false [] z (sl s 1)).bind fun z => ifD z (some (Out.ret [D.v (Value.int IntKind.i64 (-1))] [])) ((bin BinOp.add false [] (sl s 1) (D.v (Value.int IntKind.i64 1))).bind fun z =>
 (bin BinOp.add false [] (sl s 2) (D.v (Value.int IntKind.i64 1))).bind fun z_1 => some (Out.nrm [sl s 0, z, z_1]))) (some (Out.ext 0 [sl s 1]))) [x0, x1, D.v (Value.int IntKind.i64 0)]).bind
 fun o => outK o (fun i s => ifN (i.beq 0) (some (Out.ret [sl s 0] [])) none) fun a b => some (Out.ret a b)) := by kernel_rfl
end Go.Proofs.Ytaphcpfkgpaefaa
/-
  From contracts of the kit (what a call with given values comes to) to contracts said of data.
-/
namespace Go.V
open Go.RowKit

section
variable {P : Program} {G : List (Nat × (Obj → Prop))}

theorem meets_of_calls {f : FuncId} {S : FS} (he : ∀ args w, (callFunc f args).run P w = .ok (.enter f args) w)
    (h : ∀ ds rs us, S.f ds = some (.ret rs us) → ∀ (args : Array Value) (w : World) (F : Nat → Prop) (ow : Nat → Option Nat), gOk G w F → ArgsOk w F ow 0 S.pm ds args.toList → (∀ b, F b → b < w.heap.size ∧ ow b = none) → (∀ b i, ow b = some i → b < w.heap.size) →
      Calls P f args w fun e w' => ∃ v, e = .returned v ∧ ∃ F' R vs, v = resV vs ∧ CallPost S args rs us w F ow F' R vs w') : Meets G P f S := by
  intro ds rs us hd args w F ow hg ha hF hO o a next Q hn
  rw [he, Oper.upon_enter]
  refine Calls.mono (h ds rs us hd args w F ow hg ha hF hO) (fun e w' hv => ?_)
  obtain ⟨v, rfl, F', R, vs, h1, h2⟩ := hv
  exact hn v w' ⟨F', R, vs, h1, h2⟩

theorem usOk_none {w : World} {F : Nat → Prop} : ∀ (ks : List Kd) (ys : List Value), (ks.all fun k => !isIo k) = true → ks.length = ys.length → UsOk w F ks [] ys
  | [], [], _, _ => trivial
  | k :: ks, y :: ys, h, hl => by
    simp only [List.all_cons, Bool.and_eq_true, Bool.not_eq_true'] at h
    simp only [UsOk, h.1]
    exact usOk_none ks ys h.2 (by simpa using hl)
  | [], _ :: _, _, hl => by cases hl
  | _ :: _, [], _, hl => by cases hl

theorem argsOk_len {w : World} {F : Nat → Prop} {ow : Nat → Option Nat} : ∀ (ks : List Kd) (ds : List D) (ys : List Value) (i : Nat), ArgsOk w F ow i ks ds ys → ds.length = ks.length ∧ ys.length = ks.length
  | [], [], [], _, _ => ⟨rfl, rfl⟩
  | k :: ks, d :: ds, y :: ys, i, h => by
    obtain ⟨h1, h2⟩ := argsOk_len ks ds ys (i + 1) h.2
    exact ⟨by simp [h1], by simp [h2]⟩
  | [], _ :: _, _, _, h => h.elim
  | [], [], _ :: _, _, h => h.elim
  | _ :: _, [], _, _, h => by cases ‹List Value› <;> exact h.elim
  | _ :: _, _ :: _, [], _, h => h.elim

theorem args_one {w : World} {F : Nat → Prop} {ow : Nat → Option Nat} {k : Kd} {ds : List D} {l : List Value} (h : ArgsOk w F ow 0 [k] ds l) : ∃ d y, ds = [d] ∧ l = [y] ∧ ArgOk w F (fun g => ow g = some 0) k d y := by
  match ds, l, h with
  | [d], [y], h => exact ⟨d, y, rfl, rfl, h.1⟩
  | [], l, h => cases l <;> exact h.elim
  | d :: d' :: ds, l, h =>
    match l, h with
    | [], h => exact h.elim
    | [y], h => exact h.2.elim
    | y :: y' :: ys, h => exact h.2.elim
  | [d], [], h => exact h.elim
  | [d], y :: y' :: ys, h => exact h.2.elim

theorem args_two {w : World} {F : Nat → Prop} {ow : Nat → Option Nat} {k k' : Kd} {ds : List D} {l : List Value} (h : ArgsOk w F ow 0 [k, k'] ds l) :
    ∃ d y d' y', ds = [d, d'] ∧ l = [y, y'] ∧ ArgOk w F (fun g => ow g = some 0) k d y ∧ ArgOk w F (fun g => ow g = some 1) k' d' y' := by
  obtain ⟨h1, h2⟩ := argsOk_len _ _ _ _ h
  match ds, l, h1, h2, h with
  | [d, d'], [y, y'], _, _, h => exact ⟨d, y, d', y', rfl, rfl, h.1, h.2.1⟩

theorem argD {w : World} {F own : Nat → Prop} {lv : Nat} {x y : Value} (h : ArgOk w F own (.dat lv) (.v x) y) : y = x ∧ flat x = true := by
  rcases h with h | h
  · cases h
  · exact RepV_v.1 h

/-- What a call leaves that writes nothing that was there. -/
theorem post_own {S : FS} {args : Array Value} {rs : List D} {vs : List Value} {w w' : World} {F : Nat → Prop} {ow : Nat → Option Nat} (R : Nat → Option Nat) (hB : Below w.heap.size w w') (hF : ∀ b, F b → b < w.heap.size ∧ ow b = none)
    (hR : ∀ b j, R b = some j → w.heap.size ≤ b ∧ b < w'.heap.size) (hio : (S.pm.all fun k => !isIo k) = true) (hl : S.pm.length = args.size) (h1 : vs.length = S.rm.length) (h2 : rs.length = S.rm.length)
    (hres : ∀ j, ResOk w' F w.heap.size (fun g => R g = some j) (nthK S.rm j) (nth rs j) (vs.getD j undef)) : CallPost S args rs [] w F ow F R vs w' :=
  ⟨hB.os, hB.tape, hB.output, hB.size, fun b hb _ => hB.block b hb, fun _ h => h, fun b hb => ⟨.inl hb, Nat.lt_of_lt_of_le (hF b hb).1 hB.size, by
    cases h : R b with
    | none => rfl
    | some j => exact absurd (hR b j h).1 (Nat.not_le.2 (hF b hb).1)⟩, hR, h1, h2, hres, usOk_none _ _ hio (by simpa using hl)⟩

/-- Scalars handed back. -/
theorem post_flat {S : FS} {args : Array Value} {w w' : World} {F : Nat → Prop} {ow : Nat → Option Nat} (hB : Below w.heap.size w w') (hF : ∀ b, F b → b < w.heap.size ∧ ow b = none) (hio : (S.pm.all fun k => !isIo k) = true) (hl : S.pm.length = args.size)
    (rs : List D) (vs : List Value) (hrm : S.rm = rs.map fun _ => .dat 0) (hv : vs.length = rs.length) (h : ∀ (j : Nat) (d : D), rs[j]? = some d → ∃ y : Value, vs[j]? = some y ∧ RepV w' (fun _ => False) d y) : CallPost S args rs [] w F ow F (fun _ => none) vs w' := by
  refine post_own _ hB hF (fun b j h => by cases h) hio hl (by rw [hrm, hv]; simp) (by rw [hrm]; simp) (fun j => ?_)
  rw [nth_eq, List.getD_eq_getElem?_getD]
  cases hj : rs[j]? with
  | none => exact .inl rfl
  | some d =>
    obtain ⟨y, h1, h2⟩ := h j d hj
    have hk : nthK S.rm j = .dat 0 := by
      rw [hrm]
      clear hrm h hv h1 h2
      induction rs generalizing j with
      | nil => simp at hj
      | cons r rs ih =>
        cases j with
        | zero => rfl
        | succ j => exact ih j (by simpa using hj)
    refine .inr ?_
    rw [hk, List.getD_eq_getElem?_getD, h1]
    exact RepV_mono (fun b hb => hb.elim) (fun _ _ => rfl) h2

theorem RepL_texts {w : World} {F : Nat → Prop} : ∀ (l : List ByteArray), RepL w F (l.map T) (l.map Value.string)
  | [] => RepL_nil.2 rfl
  | s :: l => RepL_cons.2 ⟨[.string s], l.map Value.string, rfl, by simp only [RepC]; exact ⟨trivial, rfl⟩, RepL_texts l⟩

/-- A new slice of texts handed back. -/
theorem ownV_texts {w' : World} {F own : Nat → Prop} {A c e : Nat} {cur : Array Value} {l : List ByteArray} (hb : w'.heap[A]? = some (.cells cur e (0, 0))) (hc : l.length ≤ c) (hs : c ≤ cur.size) (hl : ∀ (i : Nat) (u : Value), (l.map Value.string)[i]? = some u → cur[i]? = some u) (ho : own A) :
    OwnV w' F own 1 (.arr 1 (l.map T)) (.slice (some ⟨A, 0, none⟩) l.length c) := by
  refine ⟨l.map T, rfl, fun x hx => ?_, .inr ⟨A, 0, c, l.map Value.string, cur, e, by simp, by simpa using hc, hb, by omega, RepL_texts l, fun i u hu => by simpa using hl i u hu, ho⟩⟩
  obtain ⟨s, _, rfl⟩ := List.mem_map.1 hx
  rfl

end
end Go.V
/-
  impl.isDifferent: walked by hand, for it keeps a map.
-/
namespace Go.Proofs.Ytaphcpfkgpaefaa
open Go Go.V Go.RowKit Go.Maps
set_option linter.unusedSimpArgs false

/-- Are numbers different ones from 0 on, less than n? -/
def difG (n : Int) : List Int → List Int → Bool
  | [], _ => true
  | x :: l, seen => decide (0 ≤ x ∧ x ≤ n - 1) && !(decide (x ∈ seen)) && difG n l (x :: seen)
def inI (x : Int) : Prop := -9223372036854775808 ≤ x ∧ x ≤ 9223372036854775807
instance (x : Int) : Decidable (inI x) := by unfold inI; infer_instance
theorem e_within (a b c : Int) : F_impl_within [I a, I b, I c] = some (.ret [B (decide (b ≤ a ∧ a ≤ c))] []) := by
  rw [t_impl_within]
  by_cases h : b ≤ a <;> simp [h]

/-- A call of a function whose contract is said of data. -/
theorem calls_of_meets' {P : Program} {G : List (Nat × (Obj → Prop))} {f : FuncId} {S : FS} (he : ∀ args w, (callFunc f args).run P w = .ok (.enter f args) w) (hm : Meets G P f S) {ds rs us : List D} (hd : S.f ds = some (.ret rs us)) {args : Array Value} {w : World} {F : Nat → Prop} {ow : Nat → Option Nat}
    (hgl : gOk G w F) (ha : ArgsOk w F ow 0 S.pm ds args.toList) (hF : ∀ b, F b → b < w.heap.size ∧ ow b = none) (hO : ∀ b i, ow b = some i → b < w.heap.size) :
    Calls P f args w fun e w' => ∃ v, e = .returned v ∧ ∃ F' R vs, v = resV vs ∧ CallPost S args rs us w F ow F' R vs w' := by
  have h2 := hm ds rs us hd args w F ow hgl ha hF hO { (default : Oper) with dst := some 0 } { tmps := #[undef], defers := [] } (fun a w' => ∃ F' R vs, a.tmps.getD 0 undef = resV vs ∧ CallPost S args rs us w F ow F' R vs w') (fun _ _ _ => False) (fun v w' h => by
    obtain ⟨F', R, vs, rfl, h⟩ := h
    exact ⟨F', R, vs, by simp [Act.put], h⟩)
  rw [he, Oper.upon_enter] at h2
  refine Calls.mono h2 fun e w' he => ?_
  cases e with
  | returned v =>
    obtain ⟨F', R, vs, h3, h4⟩ := he
    exact ⟨v, rfl, F', R, vs, by simpa [Act.put] using h3, h4⟩
  | panicked c => exact he.elim
  | outgrown => obtain ⟨_, _, h⟩ := he; exact h.elim

/-- A call that hands one scalar back, of a function whose contract is said of data. -/
theorem calls_flat1 {P : Program} {G : List (Nat × (Obj → Prop))} {f : FuncId} {S : FS} (he : ∀ args w, (callFunc f args).run P w = .ok (.enter f args) w) (hm : Meets G P f S) {ds : List D} {y : Value} (f' : List D → Option Out) (hf' : S.f = f') (hd : f' ds = some (.ret [.v y] [])) (hrm : S.rm = [.dat 0]) {args : Array Value} {w : World} {F : Nat → Prop}
    (hgl : gOk G w F) (ha : ArgsOk w F (fun _ => none) 0 S.pm ds args.toList) (hF : ∀ b, F b → b < w.heap.size) : Calls P f args w fun e w' => e = .returned y ∧ Below w.heap.size w w' := by
  refine (calls_of_meets' he hm (hf' ▸ hd) hgl ha (fun b hb => ⟨hF b hb, rfl⟩) (fun b i h => by cases h)).mono ?_
  rintro e w' ⟨v, rfl, F', R, vs, rfl, hpost⟩
  have hl := hpost.len
  rw [hrm] at hl
  obtain ⟨u, rfl⟩ := List.length_eq_one_iff.1 hl
  have h0 := hpost.res 0
  rw [hrm] at h0
  simp only [nthK, nth, List.getD_cons_zero] at h0
  rcases h0 with h0 | h0
  · cases h0
  exact ⟨by rw [resV, (RepV_v.1 h0).1], ⟨hpost.os, hpost.tape, hpost.output, hpost.size, fun b hb => hpost.keep b hb rfl⟩⟩
set_option maxRecDepth 100000 in
theorem call_within (a b c : Int) (w : World) : Calls Try.prog 46 #[.int .i64 a, .int .i64 b, .int .i64 c] w fun e w' => e = .returned (.bool (decide (b ≤ a ∧ a ≤ c))) ∧ Below w.heap.size w w' :=
  calls_flat1 (Go.Proofs.enters_of Try.func46 (by kernel_rfl) rfl) M_impl_within F_impl_within rfl (e_within a b c) rfl (F := fun _ => False) gOk_nil
    (show ArgOk w _ _ (.dat 0) (I a) (.int .i64 a) ∧ ArgOk w _ _ (.dat 0) (I b) (.int .i64 b) ∧ ArgOk w _ _ (.dat 0) (I c) (.int .i64 c) ∧ True from ⟨.inr (RepV_v.2 ⟨rfl, rfl⟩), .inr (RepV_v.2 ⟨rfl, rfl⟩), .inr (RepV_v.2 ⟨rfl, rfl⟩), trivial⟩) (fun b h => h.elim)

/-! ### a set of numbers: map[int]bool -/
section
variable {H : Type} {P : Program} {k : TypeId} {w : World} {b n : Nat} {D : DataW H}
theorem plainElem_bool_inv {e : TypeId} (he : P.underlying e = some .bool) {v : Value} {z : DataW H × List MemPlace} (h : plainElem P e v = some z) : ∃ x, v = .bool x ∧ z = (.lit (.bool x), []) := by
  unfold plainElem at h
  rw [he] at h
  cases v <;> simp at h
  exact ⟨_, rfl, h.symm⟩
theorem lookup_bool {t e : TypeId} (h : w.ownsMap P k (plainElem P e) b n D) (K : Keyed P k) (ht : P.underlying t = some (.map k e)) (he : P.underlying e = some .bool) (hz : (zeroValue e).run P w = .ok (.bool false) w)
    {key : Value} {kl : Lit} (hkey : keyOf P k key = some kl) : ∃ c, (Instr.lookup t (.map (some b)) key false).run P w = .ok (.bool c) w ∧ D.atKey kl (.lit (.bool false)) = .lit (.bool c) := by
  obtain ⟨v, ps, hrun, hv⟩ := h.lookup K ht hz (plainElem_bool he false) hkey
  obtain ⟨c, rfl, hc⟩ := plainElem_bool_inv he hv
  simp only [Prod.mk.injEq] at hc
  exact ⟨c, hrun, hc.1⟩
theorem owns_kept {R : Value → Option (DataW H × List MemPlace)} {w' : World} (h : w.ownsMap P k R b n D) (hB : Below w.heap.size w w') : w'.ownsMap P k R b n D := by
  obtain ⟨es, clock, hb, r⟩ := h
  exact ⟨es, clock, (hB.block b (Array.getElem?_eq_some_iff.1 hb).1).trans hb, r⟩
end
/-- What a set holds. -/
def SetIs (D : DataW Unit) (seen : List Int) : Prop := IsMap D ∧ ∀ x : Int, D.atKey (.int .i64 x) (.lit (.bool false)) = .lit (.bool (decide (x ∈ seen)))
theorem set_nil : SetIs (.map []) [] := ⟨⟨_, rfl⟩, fun x => by simp [DataW.atKey]⟩
theorem set_put {D : DataW Unit} {seen : List Int} (h : SetIs D seen) (x : Int) : SetIs (D.put (.int .i64 x) (.lit (.bool true))) (x :: seen) := by
  refine ⟨?_, fun y => ?_⟩
  · obtain ⟨es, rfl⟩ := h.1
    exact ⟨_, rfl⟩
  · by_cases hy : y = x
    · subst hy
      rw [atKey_put_same h.1 (show WideAt.IsKeyLit (.int .i64 y) from trivial)]
      simp
    · rw [atKey_put_other (by intro e; exact hy (by injection e)), h.2 y]
      simp [hy]

theorem key_law : Keyed Try.prog 3 := int_keyed Try.underlying3
theorem key_ok {x : Int} (h : inI x) : keyOf Try.prog 3 (.int .i64 x) = some (.int .i64 x) := keyOf_int_mk Try.underlying3 (by
  simp only [Lit.wf, Bool.and_eq_true, decide_eq_true_eq]
  exact h)
theorem zero_bool (w : World) : (zeroValue 4).run Try.prog w = .ok (.bool false) w := by kernel_rfl

theorem size2 {args : Array Value} {y y' : Value} (h : args.toList = [y, y']) : args = #[y, y'] := by
  apply Array.ext'
  rw [h]
/-- Numbers out of data. -/
def intsOf : List D → Option (List Int)
  | [] => some []
  | .v (.int .i64 a) :: l => if inI a then (intsOf l).map (a :: ·) else none
  | _ => none
theorem intsOf_some : ∀ (ds : List D) (l : List Int), intsOf ds = some l → ds = l.map (fun n => I n) ∧ ∀ x ∈ l, inI x := by
  intro ds
  induction ds with
  | nil => intro l h; cases h; simp
  | cons d ds ih =>
    intro l h
    unfold intsOf at h
    split at h
    · rename_i e; cases e
    · rename_i a m e
      cases e
      split at h
      · rename_i ha
        obtain ⟨m', h2, rfl⟩ := Option.map_eq_some_iff.1 h
        obtain ⟨g1, g2⟩ := ih m' h2
        rw [g1]
        refine ⟨rfl, fun x hx => ?_⟩
        rcases List.mem_cons.1 hx with rfl | hx
        · exact ha
        · exact g2 x hx
      · cases h
    · cases h
theorem intsOf_map : ∀ (l : List Int), (∀ x ∈ l, inI x) → intsOf (l.map fun n => I n) = some l
  | [], _ => rfl
  | x :: l, h => by
    simp only [List.map_cons, intsOf]
    rw [if_pos (h x (by simp)), intsOf_map l fun y hy => h y (by simp [hy])]
    rfl
theorem rep_ints {w : World} {F : Nat → Prop} : ∀ (l : List Int) (us : List Value), RepL w F (l.map fun n => I n) us → us = l.map fun n => .int .i64 n
  | [], us, h => RepL_nil.1 h
  | x :: l, us, h => by
    obtain ⟨v1, v2, rfl, h1, h2⟩ := RepL_cons.1 h
    simp only [RepC] at h1
    rw [rep_ints l v2 h2, h1.1]
    rfl
end Go.Proofs.Ytaphcpfkgpaefaa
/-
  Orders: what the functions compute, said plainly.
-/
namespace Go.Proofs.Ytaphcpfkgpaefaa
open Go Go.V
set_option linter.unusedSimpArgs false

abbrev Od := Int × Int × Int × Int
abbrev od (x : Od) : D := .agg [I x.1, I x.2.1, I x.2.2.1, I x.2.2.2]
abbrev ods (l : List Od) : D := .arr 4 (l.map od)

theorem e_spec_l1In (a b c : Int) : F_spec_l1In [I a, I b, I c] = some (.ret [B (decide (b ≤ a ∧ a ≤ c))] []) := by
  rw [t_spec_l1In]
  by_cases h : b ≤ a <;> simp [h]
theorem e_impl_within (a b c : Int) : F_impl_within [I a, I b, I c] = some (.ret [B (decide (b ≤ a ∧ a ≤ c))] []) := by
  rw [t_impl_within]
  by_cases h : b ≤ a <;> simp [h]
theorem e_laws_toOrder (x : Od) : F_laws_toOrder [od x] = some (.ret [od x] []) := by
  rw [t_laws_toOrder]
  simp -implicitDefEqProofs
def isOd (x : Od) : Bool := decide (1 ≤ x.1 ∧ x.1 ≤ 99) && decide (0 ≤ x.2.1 ∧ x.2.1 ≤ 500) && decide (0 ≤ x.2.2.1 ∧ x.2.2.1 ≤ 500) && decide (0 ≤ x.2.2.2 ∧ x.2.2.2 ≤ 10000)
theorem e_spec_orOne (x : Od) : F_spec_orOne [od x] = some (.ret [B (isOd x)] []) := by
  rw [t_spec_orOne]
  by_cases h1 : 1 ≤ x.1 ∧ x.1 ≤ 99 <;> by_cases h2 : 0 ≤ x.2.1 ∧ x.2.1 ≤ 500 <;> by_cases h3 : 0 ≤ x.2.2.1 ∧ x.2.2.1 ≤ 500 <;> simp -implicitDefEqProofs [e_spec_l1In, isOd, h1, h2, h3]
theorem e_impl_isOrder (x : Od) : F_impl_isOrder [od x] = some (.ret [B (isOd x)] []) := by
  rw [t_impl_isOrder]
  by_cases h1 : 1 ≤ x.1 ∧ x.1 ≤ 99 <;> by_cases h2 : 0 ≤ x.2.1 ∧ x.2.1 ≤ 500 <;> by_cases h3 : 0 ≤ x.2.2.1 ∧ x.2.2.1 ≤ 500 <;> simp -implicitDefEqProofs [e_impl_within, isOd, h1, h2, h3]
theorem e_laws_szOrderS (l : List Od) (n : Int) : ∃ m, F_laws_szOrderS [ods l, I n] = some (.ret [I m] []) ∧ (0 ≤ m → m = IntKind.i64.wrap (n - l.length)) := by
  rw [t_laws_szOrderS]
  by_cases h : IntKind.i64.wrap (n - l.length) < 0
  · exact ⟨-1, by simp [h], by omega⟩
  · exact ⟨_, by simp [h], fun _ => rfl⟩
theorem e_laws_toOrderS (l : List Od) (h : l.length ≤ 1048576) : F_laws_toOrderS [ods l] = some (.ret [ods l] []) := by
  rw [t_laws_toOrderS]
  have h1 : l.length * 32 ≤ 140737488355328 := by omega
  have h2 : l.length ≤ 140737488355328 := by omega
  simp only [lenD_arr, List.length_map, Option.bind_some, makD_nat, Nat.le_refl, h1, h2, and_self, if_true]
  rw [fillL_zero (f := od) (l := l)]
  refine loop_bind (.ext 0 [ods l]) (loop_for l.length (fun i => [ods l, .arr 4 (fillL od (od (0, 0, 0, 0)) l i), I i]) _ (fun i hi => ?_) ?_ rfl rfl) ?_
  · have hx := List.getElem?_eq_getElem hi
    have hg := fillL_get (f := od) (z := od (0, 0, 0, 0)) hi
    have hs := fillL_set (f := od) (z := od (0, 0, 0, 0)) hx
    have hw : IntKind.i64.wrap ((i : Int) + 1) = (i : Int) + 1 := wrap_id (by omega) (by omega)
    simp -implicitDefEqProofs [hi, e_laws_toOrder, Nat.le_of_lt hi, stD_arr hg, hs, hw]
  · simp [fillL_full]
  · simp
/-- Are a list orders? -/
def pOd (l : List Od) (i : Nat) (x : Od) : Bool := isOd x && !(decide (0 < i) && decide (x.1 ≤ (l.getD (i - 1) (0, 0, 0, 0)).1))
def goodO (l : List Od) : Bool := allI (pOd l) 0 l && decide (l.length ≤ 8)
theorem e_spec_orGood (l : List Od) (h : l.length ≤ 1048576) : F_spec_orGood [ods l] = some (.ret [B (goodO l)] []) := by
  rw [t_spec_orGood]
  simp only [lenD_arr, List.length_map, Option.bind_some]
  refine loop_bind _ (loop_all l (fun i => [ods l, ods l, I l.length, I i]) (pOd l) (.ret [B false] []) (.ext 0 [ods l]) (fun i hi => ?_) ?_ rfl rfl rfl) ?_
  · have hw : IntKind.i64.wrap ((i : Int) + 1) = (i : Int) + 1 := wrap_id (by omega) (by omega)
    cases h1 : isOd l[i]
    · simp -implicitDefEqProofs [hi, e_spec_orOne, h1, pOd]
    · by_cases h0 : 0 < i
      · have hw2 : IntKind.i64.wrap ((i : Int) - 1) = ((i - 1 : Nat) : Int) := by rw [wrap_id (by omega) (by omega)]; omega
        have hy : i - 1 < l.length := by omega
        by_cases h2 : l[i].1 ≤ l[i - 1].1 <;> simp -implicitDefEqProofs [hi, hy, e_spec_orOne, h1, pOd, hw, hw2, h0, h2]
      · simp -implicitDefEqProofs [hi, e_spec_orOne, h1, pOd, hw, h0]
  · simp
  · by_cases hg : allI (pOd l) 0 l = true <;> simp [hg, goodO]
    omega
theorem e_impl_AreOrders (l : List Od) (h : l.length ≤ 1048576) : F_impl_AreOrders [ods l] = some (.ret [B (goodO l)] []) := by
  rw [t_impl_AreOrders]
  simp only [lenD_arr, List.length_map, Option.bind_some]
  refine loop_bind _ (loop_all l (fun i => [ods l, ods l, I l.length, I i]) (pOd l) (.ret [B false] []) (.ext 0 [ods l]) (fun i hi => ?_) ?_ rfl rfl rfl) ?_
  · have hw : IntKind.i64.wrap ((i : Int) + 1) = (i : Int) + 1 := wrap_id (by omega) (by omega)
    cases h1 : isOd l[i]
    · simp -implicitDefEqProofs [hi, e_impl_isOrder, h1, pOd]
    · by_cases h0 : 0 < i
      · have hw2 : IntKind.i64.wrap ((i : Int) - 1) = ((i - 1 : Nat) : Int) := by rw [wrap_id (by omega) (by omega)]; omega
        have hy : i - 1 < l.length := by omega
        by_cases h2 : l[i].1 ≤ l[i - 1].1 <;> simp -implicitDefEqProofs [hi, hy, e_impl_isOrder, h1, pOd, hw, hw2, h0, h2]
      · simp -implicitDefEqProofs [hi, e_impl_isOrder, h1, pOd, hw, h0]
  · simp
  · by_cases hg : allI (pOd l) 0 l = true <;> simp [hg, goodO]
    omega
theorem e_laws_eqOrder (x : Od) : F_laws_eqOrder [od x, od x] = some (.ret [B true] []) := by
  rw [t_laws_eqOrder]
  simp -implicitDefEqProofs
theorem e_laws_eqOrderS (l : List Od) (h : l.length ≤ 1048577) : F_laws_eqOrderS [ods l, ods l] = some (.ret [B true] []) := by
  rw [t_laws_eqOrderS]
  simp only [lenD_arr, List.length_map, Option.bind_some, bin_neq, decide_true, Bool.not_true, ifD_B, Bool.false_eq_true, if_false]
  refine loop_bind _ (loop_for l.length (fun i => [ods l, ods l, I i]) (.ext 0 []) (fun i hi => ?_) ?_ rfl rfl) ?_
  · have hw : IntKind.i64.wrap ((i : Int) + 1) = (i : Int) + 1 := wrap_id (by omega) (by omega)
    simp -implicitDefEqProofs [hi, e_laws_eqOrder, hw]
  · simp
  · simp
end Go.Proofs.Ytaphcpfkgpaefaa
/-
  Numbers and orders: copies, marks.
-/
namespace Go.Proofs.Ytaphcpfkgpaefaa
open Go Go.V
set_option linter.unusedSimpArgs false

abbrev ints (l : List Int) : D := .arr 1 (l.map I)
theorem e_laws_eqIntS (l : List Int) (h : l.length ≤ 1048577) : F_laws_eqIntS [ints l, ints l] = some (.ret [B true] []) := by
  rw [t_laws_eqIntS]
  simp only [lenD_arr, List.length_map, Option.bind_some, bin_neq, decide_true, Bool.not_true, ifD_B, Bool.false_eq_true, if_false]
  refine loop_bind _ (loop_for l.length (fun i => [ints l, ints l, I i]) (.ext 0 []) (fun i hi => ?_) ?_ rfl rfl) ?_
  · have hw : IntKind.i64.wrap ((i : Int) + 1) = (i : Int) + 1 := wrap_id (by omega) (by omega)
    simp -implicitDefEqProofs [hi, hw]
  · simp
  · simp
def marksI (k : Int) (n : Nat) : List Int := (List.range n).map fun (j : Nat) => k + (j : Int)
theorem e_laws_markIntS (l : List Int) (k : Int) (h : l.length ≤ 1048577) (h1 : 0 ≤ k) (h2 : k ≤ 100000000) : F_laws_markIntS [ints l, I k] = some (.ret [I (k + l.length)] [ints (marksI k l.length)]) := by
  rw [t_laws_markIntS]
  refine loop_bind _ (loop_for l.length (fun i => [.arr 1 (markL (fun (j : Nat) => I (k + (j : Int))) (fun n => I n) l i), I (k + i), I i]) (.ext 0 [ints (marksI k l.length), I (k + l.length)]) (fun i hi => ?_) ?_ rfl ?_) ?_
  · have hw : IntKind.i64.wrap ((i : Int) + 1) = (i : Int) + 1 := wrap_id (by omega) (by omega)
    have w1 : IntKind.i64.wrap (k + (i : Int) + 1) = k + (i + 1) := by rw [wrap_id (by omega) (by omega)]; omega
    have hg := markL_get (g := fun (j : Nat) => I (k + (j : Int))) (f := fun n => I n) hi
    have hs := markL_set (g := fun (j : Nat) => I (k + (j : Int))) (f := fun n => I n) hi
    have hl := markL_length (g := fun (j : Nat) => I (k + (j : Int))) (f := fun n => I n) (Nat.le_of_lt hi)
    generalize markL (fun (j : Nat) => I (k + (j : Int))) (fun n => I n) l i = L at *
    have s1 := stD_arr1 (z := 1) (v := .int .i64 (k + i)) hg
    simp [hi, hl, hw, w1, s1]
    exact hs
  · simp [markL_full, marksI]
  · simp [markL_zero (g := fun (j : Nat) => I (k + (j : Int))) (f := fun n => I n)]
  · simp
theorem e_laws_heldIntS (k : Int) (n : Nat) (h : n ≤ 1048577) (h1 : 0 ≤ k) (h2 : k ≤ 100000000) : F_laws_heldIntS [ints (marksI k n), I k] = some (.ret [I (k + n)] []) := by
  rw [t_laws_heldIntS]
  refine loop_bind _ (loop_for n (fun i => [ints (marksI k n), I (k + i), I i]) (.ext 0 [I (k + n)]) (fun i hi => ?_) ?_ rfl ?_) ?_
  · have hw : IntKind.i64.wrap ((i : Int) + 1) = (i : Int) + 1 := wrap_id (by omega) (by omega)
    have w1 : IntKind.i64.wrap (k + (i : Int) + 1) = k + (i + 1) := by rw [wrap_id (by omega) (by omega)]; omega
    simp [marksI, hi, hw, w1]
  · simp [marksI]
  · simp
  · simp
def mk4 (k : Int) (j : Nat) : Od := (k + 4 * j, k + 4 * j + 1, k + 4 * j + 2, k + 4 * j + 3)
def marksO (k : Int) (n : Nat) : List Od := (List.range n).map (mk4 k)
theorem e_laws_markOrderS (l : List Od) (k : Int) (h : l.length ≤ 1048577) (h1 : 0 ≤ k) (h2 : k ≤ 100000000) : F_laws_markOrderS [ods l, I k] = some (.ret [I (k + 4 * l.length)] [ods (marksO k l.length)]) := by
  rw [t_laws_markOrderS]
  refine loop_bind _ (loop_for l.length (fun i => [.arr 4 (markL (fun j => od (mk4 k j)) od l i), I (k + 4 * i), I i]) (.ext 0 [ods (marksO k l.length), I (k + 4 * l.length)]) (fun i hi => ?_) ?_ rfl ?_) ?_
  · have hw : IntKind.i64.wrap ((i : Int) + 1) = (i : Int) + 1 := wrap_id (by omega) (by omega)
    have w1 : IntKind.i64.wrap (k + 4 * (i : Int) + 1) = k + 4 * i + 1 := wrap_id (by omega) (by omega)
    have w2 : IntKind.i64.wrap (k + 4 * (i : Int) + 1 + 1) = k + 4 * i + 2 := by rw [wrap_id (by omega) (by omega)]; omega
    have w3 : IntKind.i64.wrap (k + 4 * (i : Int) + 2 + 1) = k + 4 * i + 3 := by rw [wrap_id (by omega) (by omega)]; omega
    have w4 : IntKind.i64.wrap (k + 4 * (i : Int) + 3 + 1) = k + 4 * (i + 1) := by rw [wrap_id (by omega) (by omega)]; omega
    have hg := markL_get (g := fun j => od (mk4 k j)) (f := od) hi
    have hs := markL_set (g := fun j => od (mk4 k j)) (f := od) hi
    have hl := markL_length (g := fun j => od (mk4 k j)) (f := od) (Nat.le_of_lt hi)
    generalize markL (fun j => od (mk4 k j)) od l i = L at *
    have s1 := stD_part (z := 4) (f := 0) (v := .int .i64 (k + 4 * i)) hg (by simp)
    have s2 := stD_part (z := 4) (L := L.set i (.agg [I (k + 4 * i), I l[i].2.1, I l[i].2.2.1, I l[i].2.2.2])) (i := i) (f := 1) (v := .int .i64 (k + 4 * i + 1)) (c := [I (k + 4 * i), I l[i].2.1, I l[i].2.2.1, I l[i].2.2.2]) (by simp [hl, hi]) (by simp)
    have s3 := stD_part (z := 4) (L := L.set i (.agg [I (k + 4 * i), I (k + 4 * i + 1), I l[i].2.2.1, I l[i].2.2.2])) (i := i) (f := 2) (v := .int .i64 (k + 4 * i + 2)) (c := [I (k + 4 * i), I (k + 4 * i + 1), I l[i].2.2.1, I l[i].2.2.2]) (by simp [hl, hi]) (by simp)
    have s4 := stD_part (z := 4) (L := L.set i (.agg [I (k + 4 * i), I (k + 4 * i + 1), I (k + 4 * i + 2), I l[i].2.2.2])) (i := i) (f := 3) (v := .int .i64 (k + 4 * i + 3)) (c := [I (k + 4 * i), I (k + 4 * i + 1), I (k + 4 * i + 2), I l[i].2.2.2]) (by simp [hl, hi]) (by simp)
    simp only [putCells_eq, List.take_zero, List.nil_append, List.length_singleton, Nat.zero_add, List.drop_succ_cons, List.drop_zero, List.singleton_append, List.take_succ_cons, List.cons_append, Nat.reduceAdd, List.set_set, List.drop_nil] at s1 s2 s3 s4
    simp [hi, hl, hw, w1, w2, w3, w4, s1, s2, s3, s4]
    exact hs
  · simp [markL_full, marksO, mk4]
  · simp [markL_zero (g := fun j => od (mk4 k j)) (f := od)]
  · simp
end Go.Proofs.Ytaphcpfkgpaefaa
/-
  Orders in a sequence: the plain laws.
-/
namespace Go.Proofs.Ytaphcpfkgpaefaa
open Go Go.V
set_option linter.unusedSimpArgs false

/-! ### sums over all places -/
def sumTo : Nat → (Nat → Int) → Int
  | 0, _ => 0
  | n + 1, f => sumTo n f + f n
theorem sumTo_congr {f g : Nat → Int} : ∀ (n : Nat), (∀ k, k < n → f k = g k) → sumTo n f = sumTo n g
  | 0, _ => rfl
  | n + 1, h => by
    simp only [sumTo]
    rw [sumTo_congr n fun k hk => h k (by omega), h n (by omega)]
theorem sumTo_add {f g : Nat → Int} : ∀ (n : Nat), sumTo n (fun k => f k + g k) = sumTo n f + sumTo n g
  | 0 => rfl
  | n + 1 => by
    simp only [sumTo]
    rw [sumTo_add n]
    omega
theorem sumTo_zero : ∀ (n : Nat), sumTo n (fun _ => 0) = 0
  | 0 => rfl
  | n + 1 => by simp only [sumTo]; rw [sumTo_zero n]; rfl
theorem sumTo_one {f : Nat → Int} (x : Nat) : ∀ (n : Nat), sumTo n (fun k => if k = x then f k else 0) = if x < n then f x else 0
  | 0 => by simp [sumTo]
  | n + 1 => by
    simp only [sumTo]
    rw [sumTo_one x n]
    by_cases h : n = x
    · subst h
      simp
    · rw [if_neg h]
      by_cases h2 : x < n
      · rw [if_pos h2, if_pos (by omega)]; omega
      · rw [if_neg h2, if_neg (by omega)]; omega
theorem sumTo_le {f : Nat → Int} : ∀ (n : Nat), (∀ k, k < n → f k ≤ 1) → sumTo n f ≤ n
  | 0, _ => by simp [sumTo]
  | n + 1, h => by
    simp only [sumTo]
    have h1 := sumTo_le n fun k hk => h k (by omega)
    have h2 := h n (by omega)
    omega
theorem sumTo_full {f : Nat → Int} : ∀ (n : Nat), (∀ k, k < n → f k ≤ 1) → sumTo n f = n → ∀ k, k < n → f k = 1
  | 0, _, _, k, hk => by omega
  | n + 1, h, e, k, hk => by
    simp only [sumTo] at e
    have h1 := sumTo_le n fun k hk => h k (by omega)
    have h2 := h n (by omega)
    by_cases hkn : k = n
    · subst hkn; omega
    · exact sumTo_full n (fun k hk => h k (by omega)) (by omega) k (by omega)
def sumL (f : Nat → Int) : List Nat → Int
  | [] => 0
  | k :: s => f k + sumL f s
theorem sumTo_mem {f : Nat → Int} {n : Nat} : ∀ (s : List Nat), (∀ k ∈ s, k < n) → s.Nodup → sumTo n (fun k => if k ∈ s then f k else 0) = sumL f s
  | [], _, _ => by simp [sumL, sumTo_zero]
  | x :: s, h, hd => by
    rw [List.nodup_cons] at hd
    have ih := sumTo_mem (f := f) s (fun k hk => h k (by simp [hk])) hd.2
    have e : sumTo n (fun k => if k ∈ x :: s then f k else 0) = sumTo n (fun k => (if k = x then f k else 0) + (if k ∈ s then f k else 0)) := by
      refine sumTo_congr n fun k _ => ?_
      by_cases h1 : k = x
      · subst h1
        simp [hd.1]
      · simp [h1]
    rw [e, sumTo_add, sumTo_one, if_pos (h x (by simp)), ih]
    rfl
theorem sumL_one : ∀ (s : List Nat), sumL (fun _ => 1) s = s.length
  | [] => rfl
  | _ :: s => by simp only [sumL, sumL_one s, List.length_cons]; omega
/-- A list of all places, each once. -/
theorem sum_perm {f : Nat → Int} {n : Nat} {s : List Nat} (h : ∀ k ∈ s, k < n) (hd : s.Nodup) (hl : s.length = n) : sumL f s = sumTo n f := by
  have h1 := sumTo_mem (f := fun _ => 1) s h hd
  rw [sumL_one, hl] at h1
  have all := sumTo_full n (fun k _ => by split <;> omega) h1
  rw [← sumTo_mem (f := f) s h hd]
  refine sumTo_congr n fun k hk => ?_
  have := all k hk
  by_cases hm : k ∈ s
  · rw [if_pos hm]
  · rw [if_neg hm] at this; omega

/-! ### sequences -/
theorem difG_facts {n : Int} : ∀ (l seen : List Int), difG n l seen = true → (∀ x ∈ l, 0 ≤ x ∧ x ≤ n - 1) ∧ l.Nodup ∧ ∀ x ∈ l, x ∉ seen
  | [], _, _ => by simp
  | x :: l, seen, h => by
    simp only [difG, Bool.and_eq_true, decide_eq_true_eq, Bool.not_eq_true', decide_eq_false_iff_not] at h
    obtain ⟨⟨h1, h2⟩, h3⟩ := h
    obtain ⟨g1, g2, g3⟩ := difG_facts l (x :: seen) h3
    refine ⟨fun y hy => ?_, List.nodup_cons.2 ⟨fun hm => g3 x hm (by simp), g2⟩, fun y hy => ?_⟩
    · rcases List.mem_cons.1 hy with rfl | hy
      · exact h1
      · exact g1 y hy
    · rcases List.mem_cons.1 hy with rfl | hy
      · exact h2
      · exact fun hm => g3 y hy (by simp [hm])
abbrev oAt (l : List Od) (k : Int) : Od := l.getD k.toNat (0, 0, 0, 0)
/-- What is composed, what is printed, how long the press waits. -/
def runO (l : List Od) : Int × Int × Int → Int → Int × Int × Int
  | (c, p, w), k => (c + (oAt l k).2.1, max p (c + (oAt l k).2.1) + (oAt l k).2.2.1, w + max 0 (c + (oAt l k).2.1 - p))
def timesO (l : List Od) : Int × Int × Int → List Int → List Int
  | _, [] => []
  | a, k :: s => (runO l a k).2.1 :: timesO l (runO l a k) s
theorem timesO_len (l : List Od) : ∀ (s : List Int) (a : Int × Int × Int), (timesO l a s).length = s.length
  | [], _ => rfl
  | k :: s, a => by simp [timesO, timesO_len l s]
theorem timesO_snoc (l : List Od) (k : Int) : ∀ (s : List Int) (a : Int × Int × Int), timesO l a (s ++ [k]) = timesO l a s ++ [((s ++ [k]).foldl (runO l) a).2.1]
  | [], a => by simp [timesO]
  | x :: s, a => by
    rw [List.cons_append]
    simp only [timesO, timesO_snoc l k s, List.cons_append, List.foldl_cons]
theorem way_take {l : List Od} {s : List Int} {i : Nat} (hi : i < s.length) (a : Int × Int × Int) : (s.take (i + 1)).foldl (runO l) a = runO l ((s.take i).foldl (runO l) a) s[i] := by
  rw [List.take_succ_eq_append_getElem hi, List.foldl_append]
  rfl
theorem times_take {l : List Od} {s : List Int} {i : Nat} (hi : i < s.length) (a : Int × Int × Int) : timesO l a (s.take (i + 1)) = timesO l a (s.take i) ++ [((s.take (i + 1)).foldl (runO l) a).2.1] := by
  rw [List.take_succ_eq_append_getElem hi, timesO_snoc]
/-- Bounds on the way. -/
theorem way_in {l : List Od} (hg : ∀ x ∈ l, isOd x = true) {s : List Int} (hs : ∀ k ∈ s, 0 ≤ k ∧ k < l.length) : ∀ (i : Nat), i ≤ s.length →
    0 ≤ ((s.take i).foldl (runO l) (0, 0, 0)).1 ∧ ((s.take i).foldl (runO l) (0, 0, 0)).1 ≤ 500 * i ∧ 0 ≤ ((s.take i).foldl (runO l) (0, 0, 0)).2.1 ∧ ((s.take i).foldl (runO l) (0, 0, 0)).2.1 ≤ 1000 * i ∧
    0 ≤ ((s.take i).foldl (runO l) (0, 0, 0)).2.2 ∧ ((s.take i).foldl (runO l) (0, 0, 0)).2.2 ≤ 500 * i * i := by
  intro i
  induction i with
  | zero => intro _; simp
  | succ i ih =>
    intro hi
    obtain ⟨h1, h2, h3, h4, h5, h6⟩ := ih (by omega)
    have hk := hs s[i] (List.getElem_mem (by omega))
    rw [way_take (by omega)]
    generalize (s.take i).foldl (runO l) (0, 0, 0) = a at *
    obtain ⟨c, p, w⟩ := a
    simp only at h1 h2 h3 h4 h5 h6
    have hlt : s[i].toNat < l.length := by omega
    have ho : isOd (oAt l s[i]) = true := by
      have e : oAt l s[i] = l[s[i].toNat] := by simp [oAt, hlt]
      rw [e]
      exact hg _ (List.getElem_mem hlt)
    simp only [isOd, Bool.and_eq_true, decide_eq_true_eq] at ho
    have hsq : (500 : Int) * i * i + 500 * i + 500 ≤ 500 * ((i + 1 : Nat) : Int) * ((i + 1 : Nat) : Int) := by
      have : 500 * ((i + 1 : Nat) : Int) * ((i + 1 : Nat) : Int) = 500 * i * i + 1000 * i + 500 := by
        rw [Int.natCast_add]
        simp only [Int.natCast_one, Int.mul_add, Int.add_mul]
        omega
      omega
    simp only [runO]
    refine ⟨by omega, by omega, by omega, by omega, by omega, ?_⟩
    have : max 0 (c + (oAt l s[i]).2.1 - p) ≤ 500 * i + 500 := by omega
    omega
/-- The press has printed all and has waited. -/
theorem way_sum (l : List Od) : ∀ (s : List Int) (a : Int × Int × Int), (s.foldl (runO l) a).2.1 - (s.foldl (runO l) a).2.2 = a.2.1 - a.2.2 + sumL (fun k => (l.getD k (0, 0, 0, 0)).2.2.1) (s.map Int.toNat)
  | [], a => by simp [sumL]
  | k :: s, (c, p, w) => by
    rw [List.foldl_cons, way_sum l s]
    simp only [runO, oAt, List.map_cons, sumL]
    omega
theorem sumTo_list (f : Od → Int) : ∀ (l : List Od), sumTo l.length (fun k => f (l.getD k (0, 0, 0, 0))) = l.foldl (fun a x => a + f x) 0 := by
  intro l
  have key : ∀ (n : Nat), n ≤ l.length → sumTo n (fun k => f (l.getD k (0, 0, 0, 0))) = (l.take n).foldl (fun a x => a + f x) 0 := by
    intro n
    induction n with
    | zero => intro _; simp [sumTo]
    | succ n ih =>
      intro hn
      rw [List.take_succ_eq_append_getElem (by omega), List.foldl_append]
      simp only [sumTo, List.foldl_cons, List.foldl_nil]
      rw [ih (by omega)]
      congr 2
      simp [show n < l.length by omega]
  have := key l.length (Nat.le_refl _)
  rwa [List.take_length] at this
def printS (l : List Od) : Int := l.foldl (fun a x => a + x.2.2.1) 0
theorem idle_eq {l : List Od} {s : List Int} (h : difG l.length s [] = true) (hl : s.length = l.length) : (s.foldl (runO l) (0, 0, 0)).2.1 - printS l = (s.foldl (runO l) (0, 0, 0)).2.2 := by
  obtain ⟨h1, h2, _⟩ := difG_facts s [] h
  have hr := way_sum l s (0, 0, 0)
  have hm : ∀ k ∈ s.map Int.toNat, k < l.length := by
    intro k hk
    obtain ⟨x, hx, rfl⟩ := List.mem_map.1 hk
    have := h1 x hx
    omega
  have hd : (s.map Int.toNat).Nodup := by
    unfold List.Nodup at h2 ⊢
    rw [List.pairwise_map]
    refine h2.imp_of_mem fun {a b} ha hb hne => ?_
    have := h1 a ha
    have := h1 b hb
    omega
  rw [sum_perm hm hd (by rw [List.length_map]; exact hl), sumTo_list (fun x => x.2.2.1)] at hr
  unfold printS
  simp only at hr
  omega
/-- The greatest of the times is the last one. -/
def mostL (l : List Int) : Int := l.foldl max 0
theorem most_times {l : List Od} (hg : ∀ x ∈ l, isOd x = true) {s : List Int} (hs : ∀ k ∈ s, 0 ≤ k ∧ k < l.length) : mostL (timesO l (0, 0, 0) s) = (s.foldl (runO l) (0, 0, 0)).2.1 := by
  have key : ∀ (i : Nat), i ≤ s.length → mostL (timesO l (0, 0, 0) (s.take i)) = ((s.take i).foldl (runO l) (0, 0, 0)).2.1 := by
    intro i
    induction i with
    | zero => intro _; simp [mostL, timesO]
    | succ i ih =>
      intro hi
      have h := way_in hg hs i (by omega)
      have h' := way_in hg hs (i + 1) hi
      rw [times_take (by omega)]
      unfold mostL at ih ⊢
      rw [List.foldl_append, ih (by omega)]
      simp only [List.foldl_cons, List.foldl_nil]
      rw [way_take (by omega)] at h' ⊢
      have hk := hs s[i] (List.getElem_mem (by omega))
      have hlt : s[i].toNat < l.length := by omega
      have ho : isOd (oAt l s[i]) = true := by
        have e : oAt l s[i] = l[s[i].toNat] := by simp [oAt, hlt]
        rw [e]
        exact hg _ (List.getElem_mem hlt)
      simp only [isOd, Bool.and_eq_true, decide_eq_true_eq] at ho
      generalize (s.take i).foldl (runO l) (0, 0, 0) = a at *
      obtain ⟨c, p, w⟩ := a
      simp only [runO]
      omega
  have := key s.length (Nat.le_refl _)
  rwa [List.take_length] at this
theorem goodO_all {l : List Od} (h : goodO l = true) : (∀ x ∈ l, isOd x = true) ∧ l.length ≤ 8 := by
  simp only [goodO, Bool.and_eq_true, decide_eq_true_eq] at h
  refine ⟨?_, h.2⟩
  have key : ∀ (m : List Od) (i : Nat), allI (pOd l) i m = true → ∀ x ∈ m, isOd x = true := by
    intro m
    induction m with
    | nil => intro i _ x hx; cases hx
    | cons y m ih =>
      intro i hp x hx
      simp only [allI, Bool.and_eq_true, pOd] at hp
      rcases List.mem_cons.1 hx with rfl | hx
      · exact hp.1.1
      · exact ih (i + 1) hp.2 x hx
  exact key l 0 h.1
/-- Orders and a sequence of all of them. -/
def askO (l : List Od) (s : List Int) : Bool := goodO l && decide (s.length = l.length) && difG l.length s []
theorem askO_facts {l : List Od} {s : List Int} (h : askO l s = true) : (∀ x ∈ l, isOd x = true) ∧ l.length ≤ 8 ∧ s.length = l.length ∧ difG l.length s [] = true ∧ ∀ k ∈ s, 0 ≤ k ∧ k < l.length := by
  simp only [askO, Bool.and_eq_true, decide_eq_true_eq] at h
  obtain ⟨⟨h1, h2⟩, h3⟩ := h
  obtain ⟨g1, g2⟩ := goodO_all h1
  refine ⟨g1, g2, h2, h3, fun k hk => ?_⟩
  have := (difG_facts s [] h3).1 k hk
  omega
end Go.Proofs.Ytaphcpfkgpaefaa
/-
  Orders in a sequence: what the functions compute.
-/
namespace Go.Proofs.Ytaphcpfkgpaefaa
open Go Go.V
set_option linter.unusedSimpArgs false

theorem e_spec_l1Most (a b : Int) : F_spec_l1Most [I a, I b] = some (.ret [I (max a b)] []) := by
  rw [t_spec_l1Most]
  by_cases h : b < a
  · simp -implicitDefEqProofs [h, Int.max_eq_left (Int.le_of_lt h)]
  · simp -implicitDefEqProofs [h, Int.max_eq_right (Int.not_lt.1 h)]
theorem maxD_I (a b : Int) : maxD (I a) (I b) = some (I (max a b)) := by
  by_cases h : a < b
  · simp [maxD, h, Int.max_eq_right (Int.le_of_lt h)]
  · simp [maxD, h, Int.max_eq_left (Int.not_lt.1 h)]
theorem allI_not {n : Int} : ∀ (l : List Int) (i : Nat), allI (fun _ x => !decide (x = n)) i l = !decide (n ∈ l)
  | [], _ => by simp [allI]
  | x :: l, i => by
    simp only [allI, allI_not l]
    by_cases h : x = n
    · simp [h]
    · simp [h, Ne.symm h]
theorem e_spec_l1Has (l : List Int) (n : Int) (h : l.length ≤ 1048577) : F_spec_l1Has [ints l, I n] = some (.ret [B (decide (n ∈ l))] []) := by
  rw [t_spec_l1Has]
  simp only [lenD_arr, List.length_map, Option.bind_some]
  refine loop_bind _ (loop_all l (fun i => [I n, ints l, I l.length, I i]) (fun _ x => !decide (x = n)) (.ret [B true] []) (.ext 0 []) (fun i hi => ?_) ?_ rfl rfl rfl) ?_
  · have hw : IntKind.i64.wrap ((i : Int) + 1) = (i : Int) + 1 := wrap_id (by omega) (by omega)
    by_cases h1 : l[i] = n <;> simp -implicitDefEqProofs [hi, hw, h1]
  · simp
  · rw [allI_not]
    by_cases hm : n ∈ l <;> simp [hm]
/-- Each number is in its range and not met before. -/
def pDif (n : Int) (s : List Int) (i : Nat) (x : Int) : Bool := decide (0 ≤ x ∧ x ≤ n - 1) && !decide (x ∈ s.take i)
theorem dif_all {n : Int} {s : List Int} : ∀ (m : Nat) (i : Nat) (seen : List Int), i + m = s.length → (∀ x, x ∈ seen ↔ x ∈ s.take i) → allI (pDif n s) i (s.drop i) = difG n (s.drop i) seen
  | 0, i, seen, hi, hs => by
    rw [List.drop_eq_nil_of_le (by omega)]
    rfl
  | m + 1, i, seen, hi, hs => by
    have hlt : i < s.length := by omega
    rw [List.drop_eq_getElem_cons hlt]
    simp only [allI, difG, pDif, hs]
    rw [dif_all m (i + 1) (s[i] :: seen) (by omega)]
    intro x
    rw [List.take_succ_eq_append_getElem hlt, List.mem_append, List.mem_singleton, List.mem_cons, hs]
    exact Or.comm
theorem one_int (a : Int) : mkArr 1 [I a] = some (ints [a]) := by simp [mkArr, lenOkD]
theorem chk_int (a : Int) : chkA (ints [a]) = some (ints [a]) := chkA_map fun _ => rfl
theorem app_ints {l m : List Int} (h : l.length + m.length ≤ 1048577) : appD 1 8 (ints l) (ints m) = some (ints (l ++ m)) := by
  rw [appD_eq, if_pos (by simp only [List.length_map]; omega)]
  simp
theorem ord_at {l : List Od} {k : Int} (h : 0 ≤ k ∧ k < l.length) : elemD 4 (ods l) (I k) = some [I (oAt l k).1, I (oAt l k).2.1, I (oAt l k).2.2.1, I (oAt l k).2.2.2] := by
  have hlt : k.toNat < l.length := by omega
  rw [elemD_int h.1]
  simp [hlt, oAt]
abbrev at0 (l : List Od) (s : List Int) (i : Nat) : Int × Int × Int := (s.take i).foldl (runO l) (0, 0, 0)
theorem e_spec_orTimes (l : List Od) (s : List Int) (hg : ∀ x ∈ l, isOd x = true) (hs : ∀ k ∈ s, 0 ≤ k ∧ k < l.length) (hl : s.length ≤ 100) : F_spec_orTimes [ods l, ints s] = some (.ret [ints (timesO l (0, 0, 0) s), I (s.foldl (runO l) (0, 0, 0)).2.2] []) := by
  rw [t_spec_orTimes]
  simp only [lenD_arr, List.length_map, Option.bind_some]
  refine loop_bind _ (loop_for s.length (fun i => [ods l, ints (timesO l (0, 0, 0) (s.take i)), I (at0 l s i).1, I (at0 l s i).2.1, I (at0 l s i).2.2, ints s, I s.length, I i]) (.ext 0 [ints (timesO l (0, 0, 0) s), I (s.foldl (runO l) (0, 0, 0)).2.2]) (fun i hi => ?_) ?_ rfl rfl) ?_
  · have hi' : (i : Int) < (s.length : Int) := by omega
    have hk := hs s[i] (List.getElem_mem hi)
    have b1 := way_in hg hs i (by omega)
    have b2 := way_in hg hs (i + 1) hi
    have hel : elemD 1 (ints s) (I (i : Int)) = some [I s[i]] := by simp [hi]
    have hw : IntKind.i64.wrap ((i : Int) + 1) = ((i + 1 : Nat) : Int) := by rw [wrap_id (by omega) (by omega)]; omega
    have ht := times_take (l := l) hi (0, 0, 0)
    have hlen := timesO_len l (s.take i) (0, 0, 0)
    rw [List.length_take] at hlen
    have hap := app_ints (l := timesO l (0, 0, 0) (s.take i)) (m := [((s.take (i + 1)).foldl (runO l) (0, 0, 0)).2.1]) (by simp only [List.length_singleton]; omega)
    rw [← ht] at hap
    have hsq : (500 : Int) * ((i + 1 : Nat) : Int) * ((i + 1 : Nat) : Int) ≤ 500 * 100 * 100 := by
      have h1 : ((i + 1 : Nat) : Int) ≤ 100 := by omega
      have h2 : (500 : Int) * ((i + 1 : Nat) : Int) ≤ 500 * 100 := by omega
      exact Int.mul_le_mul h2 h1 (by omega) (by omega)
    show _ = some (Out.nrm [ods l, ints (timesO l (0, 0, 0) (s.take (i + 1))), I (at0 l s (i + 1)).1, I (at0 l s (i + 1)).2.1, I (at0 l s (i + 1)).2.2, ints s, I s.length, I ((i + 1 : Nat) : Int)])
    unfold at0 at *
    rw [way_take hi] at b2 hap ⊢
    generalize (s.take i).foldl (runO l) (0, 0, 0) = a at *
    obtain ⟨c, p, w⟩ := a
    simp only [runO] at b1 b2 hap ⊢
    have w1 : IntKind.i64.wrap (c + (oAt l s[i]).2.1) = c + (oAt l s[i]).2.1 := wrap_id (by omega) (by omega)
    have w2 : IntKind.i64.wrap (c + (oAt l s[i]).2.1 - p) = c + (oAt l s[i]).2.1 - p := wrap_id (by omega) (by omega)
    have w3 : IntKind.i64.wrap (w + max 0 (c + (oAt l s[i]).2.1 - p)) = w + max 0 (c + (oAt l s[i]).2.1 - p) := wrap_id (by omega) (by omega)
    have w4 : IntKind.i64.wrap (max p (c + (oAt l s[i]).2.1) + (oAt l s[i]).2.2.1) = max p (c + (oAt l s[i]).2.1) + (oAt l s[i]).2.2.1 := wrap_id (by omega) (by omega)
    simp -implicitDefEqProofs only [sl_zero, sl_succ, bin_lss, hi', decide_true, Option.bind_some, ifD_B, if_true, hel, Option.map_some, ldD_ptr, takeD_f, chkV_v, ord_at hk, offD_ptr, List.drop_succ_cons, List.drop_zero, bin_add, w1, bin_sub, w2, e_spec_l1Most, callK_ret, w3, w4, one_int, chk_int, hap, hw]
  · simp [at0]
  · simp
theorem e_impl_finished (l : List Od) (s : List Int) (hg : ∀ x ∈ l, isOd x = true) (hs : ∀ k ∈ s, 0 ≤ k ∧ k < l.length) (hl : s.length ≤ 100) : F_impl_finished [ods l, ints s] = some (.ret [ints (timesO l (0, 0, 0) s)] []) := by
  rw [t_impl_finished]
  simp only [lenD_arr, List.length_map, Option.bind_some, mkArr_nil]
  refine loop_bind _ (loop_for s.length (fun i => [ods l, ints (timesO l (0, 0, 0) (s.take i)), I (at0 l s i).1, I (at0 l s i).2.1, ints s, I s.length, I i]) (.ext 0 [ints (timesO l (0, 0, 0) s)]) (fun i hi => ?_) ?_ rfl rfl) ?_
  · have hi' : (i : Int) < (s.length : Int) := by omega
    have hk := hs s[i] (List.getElem_mem hi)
    have b1 := way_in hg hs i (by omega)
    have b2 := way_in hg hs (i + 1) hi
    have hel : elemD 1 (ints s) (I (i : Int)) = some [I s[i]] := by simp [hi]
    have hw : IntKind.i64.wrap ((i : Int) + 1) = ((i + 1 : Nat) : Int) := by rw [wrap_id (by omega) (by omega)]; omega
    have ht := times_take (l := l) hi (0, 0, 0)
    have hlen := timesO_len l (s.take i) (0, 0, 0)
    rw [List.length_take] at hlen
    have hap := app_ints (l := timesO l (0, 0, 0) (s.take i)) (m := [((s.take (i + 1)).foldl (runO l) (0, 0, 0)).2.1]) (by simp only [List.length_singleton]; omega)
    rw [← ht] at hap
    show _ = some (Out.nrm [ods l, ints (timesO l (0, 0, 0) (s.take (i + 1))), I (at0 l s (i + 1)).1, I (at0 l s (i + 1)).2.1, ints s, I s.length, I ((i + 1 : Nat) : Int)])
    unfold at0 at *
    rw [way_take hi] at b2 hap ⊢
    generalize (s.take i).foldl (runO l) (0, 0, 0) = a at *
    obtain ⟨c, p, w⟩ := a
    simp only [runO] at b1 b2 hap ⊢
    have w1 : IntKind.i64.wrap (c + (oAt l s[i]).2.1) = c + (oAt l s[i]).2.1 := wrap_id (by omega) (by omega)
    have w4 : IntKind.i64.wrap (max p (c + (oAt l s[i]).2.1) + (oAt l s[i]).2.2.1) = max p (c + (oAt l s[i]).2.1) + (oAt l s[i]).2.2.1 := wrap_id (by omega) (by omega)
    simp -implicitDefEqProofs only [sl_zero, sl_succ, bin_lss, hi', decide_true, Option.bind_some, ifD_B, if_true, hel, Option.map_some, ldD_ptr, takeD_f, chkV_v, ord_at hk, offD_ptr, List.drop_succ_cons, List.drop_zero, bin_add, w1, maxD_I, w4, one_int, chk_int, hap, hw]
  · simp
  · simp
theorem e_impl_greatest (l : List Int) (h : l.length ≤ 1048577) : F_impl_greatest [ints l] = some (.ret [I (mostL l)] []) := by
  rw [t_impl_greatest]
  simp only [lenD_arr, List.length_map, Option.bind_some]
  refine loop_bind _ (loop_foldl l (fun i a => [I a, ints l, I l.length, I i]) max (fun a => .ext 0 [I a]) 0 (fun i a hi => ?_) (fun a => ?_) (fun _ => rfl) rfl) ?_
  · have hw : IntKind.i64.wrap ((i : Int) + 1) = (i : Int) + 1 := wrap_id (by omega) (by omega)
    simp -implicitDefEqProofs [hi, hw, maxD_I]
  · simp
  · simp [mostL]
end Go.Proofs.Ytaphcpfkgpaefaa
/-
  Late orders, sums; three laws.
-/
namespace Go.Proofs.Ytaphcpfkgpaefaa
open Go Go.V
set_option linter.unusedSimpArgs false

abbrev tms (l : List Od) (s : List Int) : List Int := timesO l (0, 0, 0) s
def lateF (l : List Od) (s : List Int) (i : Nat) : Int := max 0 ((tms l s).getD i 0 - (oAt l (s.getD i 0)).2.2.2)
def lateO (l : List Od) (s : List Int) (n : Nat) : List Int := (List.range n).map (lateF l s)
theorem lateO_succ (l : List Od) (s : List Int) (n : Nat) : lateO l s (n + 1) = lateO l s n ++ [lateF l s n] := by simp [lateO, List.range_succ]
theorem lateO_len (l : List Od) (s : List Int) (n : Nat) : (lateO l s n).length = n := by simp [lateO]
theorem times_at {l : List Od} (hg : ∀ x ∈ l, isOd x = true) {s : List Int} (hs : ∀ k ∈ s, 0 ≤ k ∧ k < l.length) (hl : s.length ≤ 100) {i : Nat} (hi : i < s.length) : ∃ t, (tms l s)[i]? = some t ∧ 0 ≤ t ∧ t ≤ 100000 := by
  have hlen := timesO_len l s (0, 0, 0)
  have key : ∀ (n : Nat), n ≤ s.length → ∀ t ∈ timesO l (0, 0, 0) (s.take n), 0 ≤ t ∧ t ≤ 100000 := by
    intro n
    induction n with
    | zero => intro _ t ht; simp [timesO] at ht
    | succ n ih =>
      intro hn t ht
      rw [times_take (by omega)] at ht
      rcases List.mem_append.1 ht with ht | ht
      · exact ih (by omega) t ht
      · rw [List.mem_singleton.1 ht]
        have := way_in hg hs (n + 1) hn
        omega
  have hlt : i < (tms l s).length := by rw [hlen]; exact hi
  refine ⟨(tms l s)[i], List.getElem?_eq_getElem hlt, ?_⟩
  have := key s.length (Nat.le_refl _) (tms l s)[i] (by rw [List.take_length]; exact List.getElem_mem hlt)
  exact this
theorem od_due {l : List Od} (hg : ∀ x ∈ l, isOd x = true) {k : Int} (hk : 0 ≤ k ∧ k < l.length) : 0 ≤ (oAt l k).2.2.2 ∧ (oAt l k).2.2.2 ≤ 10000 := by
  have hlt : k.toNat < l.length := by omega
  have e : oAt l k = l[k.toNat] := by simp [oAt, hlt]
  have ho := hg _ (List.getElem_mem hlt)
  rw [← e] at ho
  simp only [isOd, Bool.and_eq_true, decide_eq_true_eq] at ho
  exact ho.2
theorem late_in {l : List Od} (hg : ∀ x ∈ l, isOd x = true) {s : List Int} (hs : ∀ k ∈ s, 0 ≤ k ∧ k < l.length) (hl : s.length ≤ 100) : ∀ x ∈ lateO l s s.length, 0 ≤ x ∧ x ≤ 100000 := by
  intro x hx
  obtain ⟨i, hi, rfl⟩ := List.mem_map.1 hx
  have hi := List.mem_range.1 hi
  obtain ⟨t, h1, h2, h3⟩ := times_at hg hs hl hi
  have hd := od_due hg (hs s[i] (List.getElem_mem hi))
  have e1 : (tms l s).getD i 0 = t := by rw [List.getD_eq_getElem?_getD, h1]; rfl
  have e2 : s.getD i 0 = s[i] := by simp [hi]
  unfold lateF
  rw [e1, e2]
  omega
theorem e_spec_orLate (l : List Od) (s : List Int) (hg : ∀ x ∈ l, isOd x = true) (hs : ∀ k ∈ s, 0 ≤ k ∧ k < l.length) (hl : s.length ≤ 100) : F_spec_orLate [ods l, ints s] = some (.ret [ints (lateO l s s.length)] []) := by
  rw [t_spec_orLate]
  simp only [e_spec_orTimes l s hg hs hl, callK_ret, show ∀ a b : D, tupAt (.tup [ints (tms l s), I (s.foldl (runO l) (0, 0, 0)).2.2]) 0 = some (ints (tms l s)) from fun _ _ => rfl, show tupAt (.tup [ints (tms l s), I (s.foldl (runO l) (0, 0, 0)).2.2]) 0 = some (ints (tms l s)) from rfl,
    show tupAt (tupCut (.tup [ints (tms l s), I (s.foldl (runO l) (0, 0, 0)).2.2]) 0) 1 = some (I (s.foldl (runO l) (0, 0, 0)).2.2) from rfl, lenD_arr, List.length_map, Option.bind_some]
  refine loop_bind _ (loop_for s.length (fun i => [ods l, ints (tms l s), ints (lateO l s i), ints s, I s.length, I i]) (.ext 0 [ints (lateO l s s.length)]) (fun i hi => ?_) ?_ rfl rfl) ?_
  · have hi' : (i : Int) < (s.length : Int) := by omega
    have hk := hs s[i] (List.getElem_mem hi)
    have hel : elemD 1 (ints s) (I (i : Int)) = some [I s[i]] := by simp [hi]
    obtain ⟨t, h1, h2, h3⟩ := times_at hg hs hl hi
    have hel2 : elemD 1 (ints (tms l s)) (I (i : Int)) = some [I t] := by simp [h1]
    have hd := od_due hg hk
    have hw : IntKind.i64.wrap ((i : Int) + 1) = ((i + 1 : Nat) : Int) := by rw [wrap_id (by omega) (by omega)]; omega
    have hwd : IntKind.i64.wrap (t - (oAt l s[i]).2.2.2) = t - (oAt l s[i]).2.2.2 := wrap_id (by omega) (by omega)
    have hlen := lateO_len l s i
    have hap := app_ints (l := lateO l s i) (m := [lateF l s i]) (by simp only [List.length_singleton]; omega)
    rw [← lateO_succ] at hap
    have e1 : (tms l s).getD i 0 = t := by rw [List.getD_eq_getElem?_getD, h1]; rfl
    have e2 : s.getD i 0 = s[i] := by simp [hi]
    have hf : lateF l s i = max 0 (t - (oAt l s[i]).2.2.2) := by unfold lateF; rw [e1, e2]
    rw [hf] at hap
    simp -implicitDefEqProofs only [sl_zero, sl_succ, bin_lss, hi', decide_true, Option.bind_some, ifD_B, if_true, hel, hel2, Option.map_some, ldD_ptr, takeD_f, chkV_v, ord_at hk, offD_ptr, List.drop_succ_cons, List.drop_zero, bin_add, bin_sub, hwd, e_spec_l1Most, callK_ret, one_int, chk_int, hap, hw]
  · simp
  · simp
theorem e_impl_lateness (l : List Od) (s : List Int) (hg : ∀ x ∈ l, isOd x = true) (hs : ∀ k ∈ s, 0 ≤ k ∧ k < l.length) (hl : s.length ≤ 100) : F_impl_lateness [ods l, ints s] = some (.ret [ints (lateO l s s.length)] []) := by
  rw [t_impl_lateness]
  have hlen := timesO_len l s (0, 0, 0)
  simp only [mkArr_nil, e_impl_finished l s hg hs hl, callK_ret, sl_zero, lenD_arr, List.length_map, Option.bind_some, hlen]
  refine loop_bind _ (loop_for s.length (fun i => [ods l, ints s, ints (lateO l s i), ints (tms l s), I s.length, I i]) (.ext 0 [ints (lateO l s s.length)]) (fun i hi => ?_) ?_ rfl rfl) ?_
  · have hi' : (i : Int) < (s.length : Int) := by omega
    have hk := hs s[i] (List.getElem_mem hi)
    have hel : elemD 1 (ints s) (I (i : Int)) = some [I s[i]] := by simp [hi]
    obtain ⟨t, h1, h2, h3⟩ := times_at hg hs hl hi
    have hel2 : elemD 1 (ints (tms l s)) (I (i : Int)) = some [I t] := by simp [h1]
    have hd := od_due hg hk
    have hw : IntKind.i64.wrap ((i : Int) + 1) = ((i + 1 : Nat) : Int) := by rw [wrap_id (by omega) (by omega)]; omega
    have hwd : IntKind.i64.wrap (t - (oAt l s[i]).2.2.2) = t - (oAt l s[i]).2.2.2 := wrap_id (by omega) (by omega)
    have hlen := lateO_len l s i
    have hap := app_ints (l := lateO l s i) (m := [lateF l s i]) (by simp only [List.length_singleton]; omega)
    rw [← lateO_succ] at hap
    have e1 : (tms l s).getD i 0 = t := by rw [List.getD_eq_getElem?_getD, h1]; rfl
    have e2 : s.getD i 0 = s[i] := by simp [hi]
    have hf : lateF l s i = max 0 (t - (oAt l s[i]).2.2.2) := by unfold lateF; rw [e1, e2]
    rw [hf] at hap
    simp -implicitDefEqProofs only [sl_zero, sl_succ, bin_lss, hi', decide_true, Option.bind_some, ifD_B, if_true, hel, hel2, Option.map_some, ldD_ptr, takeD_f, chkV_v, ord_at hk, offD_ptr, List.drop_succ_cons, List.drop_zero, bin_add, bin_sub, hwd, maxD_I, one_int, chk_int, hap, hw]
  · simp
  · simp
theorem sum_step (l : List Int) (hl : l.length ≤ 1048576) (hx : ∀ x ∈ l, 0 ≤ x ∧ x ≤ 100000) (i : Nat) (a : Int) (hi : i < l.length) (ha : 0 ≤ a ∧ a ≤ 100000 * (i : Int)) : IntKind.i64.wrap (a + l[i]) = a + l[i] ∧ (0 ≤ a + l[i] ∧ a + l[i] ≤ 100000 * ((i + 1 : Nat) : Int)) := by
  have := hx l[i] (List.getElem_mem hi)
  exact ⟨wrap_id (by omega) (by omega), by omega, by omega⟩
theorem foldI_add (l : List Int) : ∀ (i : Nat) (a : Int), foldI (fun _ a x => a + x) i l a = l.foldl (· + ·) a := by
  induction l with
  | nil => intro i a; rfl
  | cons x l ih => intro i a; simp only [foldI, List.foldl_cons, ih]
theorem e_impl_sum (l : List Int) (hl : l.length ≤ 1048576) (hx : ∀ x ∈ l, 0 ≤ x ∧ x ≤ 100000) : F_impl_sum [ints l] = some (.ret [I (l.foldl (· + ·) 0)] []) := by
  rw [t_impl_sum]
  simp only [lenD_arr, List.length_map, Option.bind_some]
  refine loop_bind _ (loop_foldi l (fun i a => [I a, ints l, I l.length, I i]) (fun i a => 0 ≤ a ∧ a ≤ 100000 * (i : Int)) (fun _ a x => a + x) (fun a => .ext 0 [I a]) 0 (fun i a hi ha => ?_) (fun a _ => ?_) (fun _ => rfl) (by simp) rfl) ?_
  · have hw : IntKind.i64.wrap ((i : Int) + 1) = (i : Int) + 1 := wrap_id (by omega) (by omega)
    obtain ⟨h1, h2⟩ := sum_step l hl hx i a hi ha
    exact ⟨by simp -implicitDefEqProofs [hi, hw, h1], h2⟩
  · simp
  · simp [foldI_add]

/-! ### the functions of the laws -/
def finR (l : List Od) (s : List Int) : List Int := if askO l s = true then tms l s else []
def totR (l : List Od) (s : List Int) : Int := if askO l s = true then (lateO l s s.length).foldl (· + ·) 0 else 0
def idlR (l : List Od) (s : List Int) : Int := if askO l s = true then (s.foldl (runO l) (0, 0, 0)).2.2 else 0
end Go.Proofs.Ytaphcpfkgpaefaa
/-
  The least greatest lateness, the other side: sequences tried in order, what cannot be better left out.
-/
namespace Go.Proofs.Ytaphcpfkgpaefaa
open Go Go.V
set_option linter.unusedSimpArgs false

theorem e_spec_l1Own (l : List Int) (h : l.length ≤ 1048576) : F_spec_l1Own [ints l] = some (.ret [ints l] []) := by
  rw [t_spec_l1Own]
  have hc : chkA (ints l) = some (ints l) := chkA_map fun _ => rfl
  have ha := app_ints (l := []) (m := l) (by simp; omega)
  rw [List.nil_append, show ints [] = D.arr 1 [] from rfl] at ha
  simp -implicitDefEqProofs only [sl_zero, sl_succ, liveD_agg, liveD_ref, liveD_arr, ref0_eq, Option.bind_some, Option.map_some, callK_ret, gate_t, gate_f, gate_s, gateC_t, gateC_f, gateC_s, nrmK_some, pickD_B, ifD_B, ifN_B, if_true, if_false, Bool.false_eq_true, un_not, Bool.not_true, Bool.not_false, decide_true, decide_false, and_self, outK_ext, Nat.beq_refl, bin_lss, bin_gtr, bin_leq, bin_geq, bin_eql, bin_neq, bin_add, bin_sub, bin_mul, lenD_arr, lenD_str, List.length_map, ldD_ptr, takeD_f, chkV_v, offD_ptr, List.drop_zero, List.drop_succ_cons, atD_agg, mkArr_nil, Int.reduceLT, Int.reduceLE, Int.reduceEq, hc, ha]
theorem e_impl_hasNumber (l : List Int) (n : Int) (h : l.length ≤ 1048577) : F_impl_hasNumber [ints l, I n] = some (.ret [B (decide (n ∈ l))] []) := by
  rw [t_impl_hasNumber]
  simp only [lenD_arr, List.length_map, Option.bind_some]
  refine loop_bind _ (loop_all l (fun i => [I n, ints l, I l.length, I i]) (fun _ x => !decide (x = n)) (.ret [B true] []) (.ext 0 []) (fun i hi => ?_) ?_ rfl rfl rfl) ?_
  · have hw : IntKind.i64.wrap ((i : Int) + 1) = (i : Int) + 1 := wrap_id (by omega) (by omega)
    by_cases h1 : l[i] = n <;> simp -implicitDefEqProofs [hi, hw, h1]
  · simp
  · rw [allI_not]
    by_cases hm : n ∈ l <;> simp [hm]

/-- The greatest lateness of a sequence. -/
def costO (l : List Od) (s : List Int) : Int := mostL (lateO l s s.length)
theorem e_spec_orWorst (l : List Od) (s : List Int) (hg : ∀ x ∈ l, isOd x = true) (hs : ∀ k ∈ s, 0 ≤ k ∧ k < l.length) (hl : s.length ≤ 100) : F_spec_orWorst [ods l, ints s] = some (.ret [I (costO l s)] []) := by
  rw [t_spec_orWorst, e_spec_orLate l s hg hs hl]
  have hlen := lateO_len l s s.length
  unfold costO
  generalize lateO l s s.length = L at *
  simp only [callK_ret, sl_zero, lenD_arr, List.length_map, Option.bind_some]
  refine loop_bind _ (loop_foldl L (fun i a => [I a, ints L, I L.length, I i]) max (fun a => .ext 0 [I a]) 0 (fun i a hi => ?_) (fun a => ?_) (fun _ => rfl) rfl) ?_
  · have hw : IntKind.i64.wrap ((i : Int) + 1) = (i : Int) + 1 := wrap_id (by omega) (by omega)
    simp -implicitDefEqProofs [hi, hw, e_spec_l1Most]
  · simp
  · simp [mostL]
theorem most_le : ∀ (l : List Int) (a : Int), a ≤ l.foldl max a
  | [], a => Int.le_refl a
  | x :: l, a => Int.le_trans (Int.le_max_left a x) (most_le l (max a x))
theorem cost_nn (l : List Od) (s : List Int) : 0 ≤ costO l s := most_le _ 0
theorem times_app (l : List Od) (t : List Int) : ∀ (s : List Int) (a : Int × Int × Int), ∃ r, timesO l a (s ++ t) = timesO l a s ++ r
  | [], a => ⟨_, rfl⟩
  | k :: s, a => by
    obtain ⟨r, hr⟩ := times_app l t s (runO l a k)
    exact ⟨r, by simp only [List.cons_append, timesO, hr]⟩
theorem late_app (l : List Od) (s t : List Int) : ∃ r, lateO l (s ++ t) (s ++ t).length = lateO l s s.length ++ r := by
  have h1 : ∀ i, i < s.length → lateF l (s ++ t) i = lateF l s i := fun i hi => by
    obtain ⟨r, hr⟩ := times_app l t s (0, 0, 0)
    unfold lateF tms
    rw [hr, List.getD_eq_getElem?_getD, List.getD_eq_getElem?_getD, List.getElem?_append_left (by rw [timesO_len]; exact hi)]
    rw [List.getD_eq_getElem?_getD, List.getD_eq_getElem?_getD, List.getElem?_append_left hi]
  refine ⟨((List.range t.length).map fun i => s.length + i).map (lateF l (s ++ t)), ?_⟩
  unfold lateO
  rw [List.length_append, List.range_add, List.map_append]
  congr 1
  exact List.map_congr_left fun i hi => h1 i (List.mem_range.1 hi)
/-- With some orders behind it a sequence is late by no less. -/
theorem cost_app (l : List Od) (s t : List Int) : costO l s ≤ costO l (s ++ t) := by
  obtain ⟨r, hr⟩ := late_app l s t
  unfold costO mostL
  rw [hr, List.foldl_append]
  exact most_le _ _

theorem tupAt_ints0 (l : List Int) (ds : List D) : tupAt (.tup (ints l :: ds)) 0 = some (ints l) := rfl
theorem tupAt_v1 (a : D) (v : Value) (ds : List D) : tupAt (.tup (a :: .v v :: ds)) 1 = some (.v v) := rfl
/-- The better of two: the first one, unless the second one is less. -/
def combB (s r : List Int × Int) : List Int × Int := if s.2 < 0 ∨ r.2 < s.2 then r else s
def stepF (l : List Od) (sub : List Int → List Int × Int) (b : List Int) (s : List Int × Int) (i : Nat) : List Int × Int :=
  if (i : Int) ∈ b then s else if 0 ≤ s.2 ∧ s.2 ≤ costO l (b ++ [(i : Int)]) then s else combB s (sub (b ++ [(i : Int)]))
def firstS (l : List Od) : Nat → List Int → List Int × Int
  | 0, b => (b, costO l b)
  | k + 1, b => (List.range l.length).foldl (stepF l (firstS l k) b) ([], -1)
theorem first_len (l : List Od) : ∀ (k : Nat) (b : List Int), b.length + k ≤ 100 → (firstS l k b).1.length ≤ 100
  | 0, b, h => h
  | k + 1, b, h => by
    have key : ∀ (r : List Nat) (s : List Int × Int), s.1.length ≤ 100 → (r.foldl (stepF l (firstS l k) b) s).1.length ≤ 100 := by
      intro r
      induction r with
      | nil => intro s hs; exact hs
      | cons i r ih =>
        intro s hs
        refine ih _ ?_
        unfold stepF
        split
        · exact hs
        · split
          · exact hs
          · unfold combB
            split
            · exact first_len l k _ (by simp; omega)
            · exact hs
    exact key _ _ (by simp)
set_option maxHeartbeats 1000000 in
theorem e_first (l : List Od) (hg : ∀ x ∈ l, isOd x = true) (h8 : l.length ≤ 8) : ∀ (k m : Nat) (b : List Int), k < m → b.length + k = l.length → (∀ x ∈ b, 0 ≤ x ∧ x < l.length) →
    R_spec_orFirst m [ods l, ints b] = some (.ret [ints (firstS l k b).1, I (firstS l k b).2] [])
  | 0, m + 1, b, _, hb, hin => by
    have hw := e_spec_orWorst l b hg hin (by omega)
    rw [t_spec_orFirst]
    simp -implicitDefEqProofs only [sl_zero, sl_succ, liveD_agg, liveD_ref, liveD_arr, ref0_eq, Option.bind_some, Option.map_some, callK_ret, gate_t, gate_f, gate_s, gateC_t, gateC_f, gateC_s, nrmK_some, pickD_B, ifD_B, ifN_B, if_true, if_false, Bool.false_eq_true, un_not, Bool.not_true, Bool.not_false, decide_true, decide_false, and_self, outK_ext, Nat.beq_refl, bin_lss, bin_gtr, bin_leq, bin_geq, bin_eql, bin_neq, bin_add, bin_sub, bin_mul, lenD_arr, lenD_str, List.length_map, ldD_ptr, takeD_f, chkV_v, offD_ptr, List.drop_zero, List.drop_succ_cons, atD_agg, mkArr_nil, Int.reduceLT, Int.reduceLE, Int.reduceEq, show (b.length : Int) = l.length by omega, hw, eq_self]
    rfl
  | k + 1, m + 1, b, hm, hb, hin => by
    have hne : ¬ (b.length : Int) = l.length := by omega
    have ho := e_spec_l1Own b (by omega)
    rw [t_spec_orFirst]
    simp -implicitDefEqProofs only [sl_zero, sl_succ, liveD_agg, liveD_ref, liveD_arr, ref0_eq, Option.bind_some, Option.map_some, callK_ret, gate_t, gate_f, gate_s, gateC_t, gateC_f, gateC_s, nrmK_some, pickD_B, ifD_B, ifN_B, if_true, if_false, Bool.false_eq_true, un_not, Bool.not_true, Bool.not_false, decide_true, decide_false, and_self, outK_ext, Nat.beq_refl, bin_lss, bin_gtr, bin_leq, bin_geq, bin_eql, bin_neq, bin_add, bin_sub, bin_mul, lenD_arr, lenD_str, List.length_map, ldD_ptr, takeD_f, chkV_v, offD_ptr, List.drop_zero, List.drop_succ_cons, atD_agg, mkArr_nil, Int.reduceLT, Int.reduceLE, Int.reduceEq, hne]
    refine loop_bind _ (loop_for l.length (fun i => [ods l, ints b, ints ((List.range i).foldl (stepF l (firstS l k) b) ([], -1)).1, I ((List.range i).foldl (stepF l (firstS l k) b) ([], -1)).2, I l.length, I i]) (.ext 0 [ints (firstS l (k + 1) b).1, I (firstS l (k + 1) b).2]) (fun i hi => ?_) ?_ rfl rfl) ?_
    · have hw : IntKind.i64.wrap ((i : Int) + 1) = (i : Int) + 1 := wrap_id (by omega) (by omega)
      rw [List.range_succ, List.foldl_append, List.foldl_cons, List.foldl_nil]
      generalize (List.range i).foldl (stepF l (firstS l k) b) ([], -1) = s
      obtain ⟨sb, sm⟩ := s
      have hh := e_spec_l1Has b i (by omega)
      have hi' : (i : Int) < l.length := by omega
      by_cases hmem : (i : Int) ∈ b
      · rw [decide_eq_true hmem] at hh
        have e : stepF l (firstS l k) b (sb, sm) i = (sb, sm) := by unfold stepF; rw [if_pos hmem]
        rw [e]
        simp -implicitDefEqProofs only [sl_zero, sl_succ, liveD_agg, liveD_ref, liveD_arr, ref0_eq, Option.bind_some, Option.map_some, callK_ret, gate_t, gate_f, gate_s, gateC_t, gateC_f, gateC_s, nrmK_some, pickD_B, ifD_B, ifN_B, if_true, if_false, Bool.false_eq_true, un_not, Bool.not_true, Bool.not_false, decide_true, decide_false, and_self, outK_ext, Nat.beq_refl, bin_lss, bin_gtr, bin_leq, bin_geq, bin_eql, bin_neq, bin_add, bin_sub, bin_mul, lenD_arr, lenD_str, List.length_map, ldD_ptr, takeD_f, chkV_v, offD_ptr, List.drop_zero, List.drop_succ_cons, atD_agg, mkArr_nil, Int.reduceLT, Int.reduceLE, Int.reduceEq, hi', hh, hw, Int.natCast_add, Int.natCast_one]
      · rw [decide_eq_false hmem] at hh
        have ha := app_ints (l := b) (m := [(i : Int)]) (by simp; omega)
        have hin2 : ∀ x ∈ b ++ [(i : Int)], 0 ≤ x ∧ x < l.length := fun x hx => by
          rcases List.mem_append.1 hx with hx | hx
          · exact hin x hx
          · have := List.mem_singleton.1 hx
            omega
        have hw1 := e_spec_orWorst l (b ++ [(i : Int)]) hg hin2 (by simp; omega)
        have ih := e_first l hg h8 k m (b ++ [(i : Int)]) (by omega) (by simp; omega) hin2
        by_cases h0 : 0 ≤ sm
        · have hn : ¬ sm < 0 := by omega
          by_cases hc : sm ≤ costO l (b ++ [(i : Int)])
          · have e : stepF l (firstS l k) b (sb, sm) i = (sb, sm) := by unfold stepF; rw [if_neg hmem, if_pos ⟨h0, hc⟩]
            rw [e]
            simp -implicitDefEqProofs only [sl_zero, sl_succ, liveD_agg, liveD_ref, liveD_arr, ref0_eq, Option.bind_some, Option.map_some, callK_ret, gate_t, gate_f, gate_s, gateC_t, gateC_f, gateC_s, nrmK_some, pickD_B, ifD_B, ifN_B, if_true, if_false, Bool.false_eq_true, un_not, Bool.not_true, Bool.not_false, decide_true, decide_false, and_self, outK_ext, Nat.beq_refl, bin_lss, bin_gtr, bin_leq, bin_geq, bin_eql, bin_neq, bin_add, bin_sub, bin_mul, lenD_arr, lenD_str, List.length_map, ldD_ptr, takeD_f, chkV_v, offD_ptr, List.drop_zero, List.drop_succ_cons, atD_agg, mkArr_nil, Int.reduceLT, Int.reduceLE, Int.reduceEq, hi', hh, hw, ho, one_int, ha, h0, hw1, hc, Int.natCast_add, Int.natCast_one]
          · by_cases hlt : (firstS l k (b ++ [(i : Int)])).2 < sm
            · have e : stepF l (firstS l k) b (sb, sm) i = firstS l k (b ++ [(i : Int)]) := by unfold stepF; rw [if_neg hmem, if_neg (fun h => hc h.2)]; unfold combB; rw [if_pos (.inr hlt)]
              rw [e]
              simp -implicitDefEqProofs only [sl_zero, sl_succ, liveD_agg, liveD_ref, liveD_arr, ref0_eq, Option.bind_some, Option.map_some, callK_ret, gate_t, gate_f, gate_s, gateC_t, gateC_f, gateC_s, nrmK_some, pickD_B, ifD_B, ifN_B, if_true, if_false, Bool.false_eq_true, un_not, Bool.not_true, Bool.not_false, decide_true, decide_false, and_self, outK_ext, Nat.beq_refl, bin_lss, bin_gtr, bin_leq, bin_geq, bin_eql, bin_neq, bin_add, bin_sub, bin_mul, lenD_arr, lenD_str, List.length_map, ldD_ptr, takeD_f, chkV_v, offD_ptr, List.drop_zero, List.drop_succ_cons, atD_agg, mkArr_nil, Int.reduceLT, Int.reduceLE, Int.reduceEq, hi', hh, hw, ho, one_int, ha, h0, hw1, hc, ih, hn, hlt, tupAt_ints0, tupAt_v1, Int.natCast_add, Int.natCast_one]
            · have e : stepF l (firstS l k) b (sb, sm) i = (sb, sm) := by unfold stepF; rw [if_neg hmem, if_neg (fun h => hc h.2)]; unfold combB; rw [if_neg (fun h => h.elim hn hlt)]
              rw [e]
              simp -implicitDefEqProofs only [sl_zero, sl_succ, liveD_agg, liveD_ref, liveD_arr, ref0_eq, Option.bind_some, Option.map_some, callK_ret, gate_t, gate_f, gate_s, gateC_t, gateC_f, gateC_s, nrmK_some, pickD_B, ifD_B, ifN_B, if_true, if_false, Bool.false_eq_true, un_not, Bool.not_true, Bool.not_false, decide_true, decide_false, and_self, outK_ext, Nat.beq_refl, bin_lss, bin_gtr, bin_leq, bin_geq, bin_eql, bin_neq, bin_add, bin_sub, bin_mul, lenD_arr, lenD_str, List.length_map, ldD_ptr, takeD_f, chkV_v, offD_ptr, List.drop_zero, List.drop_succ_cons, atD_agg, mkArr_nil, Int.reduceLT, Int.reduceLE, Int.reduceEq, hi', hh, hw, ho, one_int, ha, h0, hw1, hc, ih, hn, hlt, tupAt_ints0, tupAt_v1, Int.natCast_add, Int.natCast_one]
        · have hn : sm < 0 := by omega
          have e : stepF l (firstS l k) b (sb, sm) i = firstS l k (b ++ [(i : Int)]) := by unfold stepF; rw [if_neg hmem, if_neg (fun h => h0 h.1)]; unfold combB; rw [if_pos (.inl hn)]
          rw [e]
          simp -implicitDefEqProofs only [sl_zero, sl_succ, liveD_agg, liveD_ref, liveD_arr, ref0_eq, Option.bind_some, Option.map_some, callK_ret, gate_t, gate_f, gate_s, gateC_t, gateC_f, gateC_s, nrmK_some, pickD_B, ifD_B, ifN_B, if_true, if_false, Bool.false_eq_true, un_not, Bool.not_true, Bool.not_false, decide_true, decide_false, and_self, outK_ext, Nat.beq_refl, bin_lss, bin_gtr, bin_leq, bin_geq, bin_eql, bin_neq, bin_add, bin_sub, bin_mul, lenD_arr, lenD_str, List.length_map, ldD_ptr, takeD_f, chkV_v, offD_ptr, List.drop_zero, List.drop_succ_cons, atD_agg, mkArr_nil, Int.reduceLT, Int.reduceLE, Int.reduceEq, hi', hh, hw, ho, one_int, ha, h0, ih, hn, tupAt_ints0, tupAt_v1, Int.natCast_add, Int.natCast_one]
    · simp -implicitDefEqProofs only [sl_zero, sl_succ, liveD_agg, liveD_ref, liveD_arr, ref0_eq, Option.bind_some, Option.map_some, callK_ret, gate_t, gate_f, gate_s, gateC_t, gateC_f, gateC_s, nrmK_some, pickD_B, ifD_B, ifN_B, if_true, if_false, Bool.false_eq_true, un_not, Bool.not_true, Bool.not_false, decide_true, decide_false, and_self, outK_ext, Nat.beq_refl, bin_lss, bin_gtr, bin_leq, bin_geq, bin_eql, bin_neq, bin_add, bin_sub, bin_mul, lenD_arr, lenD_str, List.length_map, ldD_ptr, takeD_f, chkV_v, offD_ptr, List.drop_zero, List.drop_succ_cons, atD_agg, mkArr_nil, Int.reduceLT, Int.reduceLE, Int.reduceEq, Int.lt_irrefl]
      rfl
    · simp -implicitDefEqProofs only [sl_zero, sl_succ, liveD_agg, liveD_ref, liveD_arr, ref0_eq, Option.bind_some, Option.map_some, callK_ret, gate_t, gate_f, gate_s, gateC_t, gateC_f, gateC_s, nrmK_some, pickD_B, ifD_B, ifN_B, if_true, if_false, Bool.false_eq_true, un_not, Bool.not_true, Bool.not_false, decide_true, decide_false, and_self, outK_ext, Nat.beq_refl, bin_lss, bin_gtr, bin_leq, bin_geq, bin_eql, bin_neq, bin_add, bin_sub, bin_mul, lenD_arr, lenD_str, List.length_map, ldD_ptr, takeD_f, chkV_v, offD_ptr, List.drop_zero, List.drop_succ_cons, atD_agg, mkArr_nil, Int.reduceLT, Int.reduceLE, Int.reduceEq]
end Go.Proofs.Ytaphcpfkgpaefaa
/-
  The least greatest lateness: all sequences visited in order, and the same with what cannot be better left out.
-/
namespace Go.Proofs.Ytaphcpfkgpaefaa
open Go Go.V
set_option linter.unusedSimpArgs false

theorem full_len : ∀ (n : Nat) (b : List Int), (∀ i : Nat, i < n → (i : Int) ∈ b) → n ≤ b.length
  | 0, _, _ => Nat.zero_le _
  | n + 1, b, h => by
    have hn : (n : Int) ∈ b := h n (by omega)
    have ih := full_len n (b.filter fun x => !decide (x = (n : Int))) (fun i hi => by
      rw [List.mem_filter]
      refine ⟨h i (by omega), ?_⟩
      simp only [Bool.not_eq_true', decide_eq_false_iff_not]
      omega)
    have : (b.filter fun x => !decide (x = (n : Int))).length < b.length := List.length_filter_lt_length_iff_exists.2 ⟨(n : Int), hn, by simp⟩
    omega
theorem some_out {n : Nat} {b : List Int} (h : b.length < n) : ∃ i, i < n ∧ (i : Int) ∉ b := by
  apply Classical.byContradiction
  intro hc
  have := full_len n b fun i hi => Classical.byContradiction fun hm => hc ⟨i, hi, hm⟩
  omega
theorem comb_assoc {s t a : List Int × Int} (ht : 0 ≤ t.2) : combB (combB s t) a = combB s (combB t a) := by
  unfold combB
  by_cases h1 : s.2 < 0 ∨ t.2 < s.2 <;> by_cases h2 : t.2 < 0 ∨ a.2 < t.2
  · rw [if_pos h1, if_pos h2, if_pos (show s.2 < 0 ∨ a.2 < s.2 by omega)]
  · rw [if_pos h1, if_neg h2, if_pos h1]
  · rw [if_neg h1, if_pos h2]
  · rw [if_neg h1, if_neg h2, if_neg h1, if_neg (show ¬ (s.2 < 0 ∨ a.2 < s.2) by omega)]
/-- What comes of a beginning is late by no less than it. -/
theorem first_ge (l : List Od) : ∀ (k : Nat) (b : List Int), b.length + k = l.length → costO l b ≤ (firstS l k b).2
  | 0, _, _ => Int.le_refl _
  | k + 1, b, hb => by
    have hsub : ∀ i : Nat, costO l b ≤ (firstS l k (b ++ [(i : Int)])).2 := fun i => Int.le_trans (cost_app l b [(i : Int)]) (first_ge l k _ (by simp; omega))
    have hc := cost_nn l b
    have one : ∀ (s : List Int × Int) (i : Nat), s.2 < 0 ∨ costO l b ≤ s.2 → ((stepF l (firstS l k) b s i).2 < 0 ∧ (i : Int) ∈ b) ∨ costO l b ≤ (stepF l (firstS l k) b s i).2 := by
      intro s i hs
      have := hsub i
      unfold stepF
      by_cases hm : (i : Int) ∈ b
      · rw [if_pos hm]
        rcases hs with hs | hs
        · exact .inl ⟨hs, hm⟩
        · exact .inr hs
      · rw [if_neg hm]
        right
        split
        · rcases hs with hs | hs <;> omega
        · unfold combB
          split
          · exact this
          · rcases hs with hs | hs <;> omega
    have key : ∀ (r : List Nat) (s : List Int × Int), (s.2 < 0 ∨ costO l b ≤ s.2) → ((r.foldl (stepF l (firstS l k) b) s).2 < 0 ∧ (∀ i ∈ r, (i : Int) ∈ b)) ∨ costO l b ≤ (r.foldl (stepF l (firstS l k) b) s).2 := by
      intro r
      induction r with
      | nil => intro s hs; exact hs.imp (fun h => ⟨h, fun _ h => by cases h⟩) id
      | cons i r ih =>
        intro s hs
        rw [List.foldl_cons]
        rcases one s i hs with ⟨h1, h2⟩ | h1
        · rcases ih _ (.inl h1) with ⟨h3, h4⟩ | h3
          · refine .inl ⟨h3, fun j hj => ?_⟩
            rcases List.mem_cons.1 hj with rfl | hj
            · exact h2
            · exact h4 j hj
          · exact .inr h3
        · have keep : ∀ (r : List Nat) (s : List Int × Int), costO l b ≤ s.2 → costO l b ≤ (r.foldl (stepF l (firstS l k) b) s).2 := by
            intro r
            induction r with
            | nil => intro s hs; exact hs
            | cons i r ih =>
              intro s hs
              rw [List.foldl_cons]
              refine ih _ ?_
              rcases one s i (.inr hs) with ⟨h1, h2⟩ | h1
              · exfalso
                unfold stepF at h1
                rw [if_pos h2] at h1
                omega
              · exact h1
          exact .inr (keep r _ h1)
    rcases key (List.range l.length) ([], -1) (.inl (by simp)) with ⟨_, h⟩ | h
    · exfalso
      obtain ⟨i, hi, hni⟩ := some_out (n := l.length) (b := b) (by omega)
      exact hni (h i (List.mem_range.2 hi))
    · exact h

/-- All sequences that begin with some orders, visited in order. -/
def eachF (l : List Od) : Nat → List Int → List Int × Int → List Int × Int
  | 0, o, s => combB s (o, costO l o)
  | k + 1, o, s => (List.range l.length).foldl (fun s (i : Nat) => if (i : Int) ∈ o then s else eachF l k (o ++ [(i : Int)]) s) s
theorem each_first (l : List Od) : ∀ (k : Nat) (o : List Int) (s : List Int × Int), o.length + k = l.length → eachF l k o s = combB s (firstS l k o)
  | 0, _, _, _ => rfl
  | k + 1, o, s, ho => by
    have hsub : ∀ i : Nat, costO l (o ++ [(i : Int)]) ≤ (firstS l k (o ++ [(i : Int)])).2 := fun i => first_ge l k _ (by simp; omega)
    have key : ∀ n, (List.range n).foldl (fun s (i : Nat) => if (i : Int) ∈ o then s else eachF l k (o ++ [(i : Int)]) s) s =
        if ((List.range n).foldl (stepF l (firstS l k) o) ([], -1)).2 < 0 then s else combB s ((List.range n).foldl (stepF l (firstS l k) o) ([], -1)) := by
      intro n
      induction n with
      | zero => simp
      | succ n ih =>
        rw [List.range_succ, List.foldl_append, List.foldl_append, ih]
        simp only [List.foldl_cons, List.foldl_nil]
        generalize (List.range n).foldl (stepF l (firstS l k) o) ([], -1) = t
        change _ = if (stepF l (firstS l k) o t n).2 < 0 then s else combB s (stepF l (firstS l k) o t n)
        by_cases hm : (n : Int) ∈ o
        · rw [if_pos hm]
          have e : stepF l (firstS l k) o t n = t := by unfold stepF; rw [if_pos hm]
          rw [e]
        · rw [if_neg hm, each_first l k _ _ (by simp; omega)]
          have h1 := hsub n
          have h2 := cost_nn l (o ++ [(n : Int)])
          have e : stepF l (firstS l k) o t n = combB t (firstS l k (o ++ [(n : Int)])) := by
            unfold stepF
            rw [if_neg hm]
            split
            · unfold combB
              rw [if_neg (by omega)]
            · rfl
          rw [e]
          generalize firstS l k (o ++ [(n : Int)]) = a at *
          by_cases ht : t.2 < 0
          · have e2 : combB t a = a := by unfold combB; rw [if_pos (.inl ht)]
            rw [if_pos ht, e2, if_neg (by omega)]
          · have e3 : ¬ (combB t a).2 < 0 := by
              unfold combB
              split <;> omega
            rw [if_neg ht, if_neg e3, comb_assoc (by omega)]
    have hge := first_ge l (k + 1) o ho
    have hnn := cost_nn l o
    have := key l.length
    rw [if_neg (show ¬ ((List.range l.length).foldl (stepF l (firstS l k) o) ([], -1)).2 < 0 from fun h => by
      have e : ((List.range l.length).foldl (stepF l (firstS l k) o) ([], -1)) = firstS l (k + 1) o := rfl
      rw [e] at h
      omega)] at this
    exact this
theorem each_all (l : List Od) : eachF l l.length [] ([], -1) = firstS l l.length [] := by
  rw [each_first l l.length [] _ (by simp)]
  unfold combB
  rw [if_pos (.inl (by simp))]
end Go.Proofs.Ytaphcpfkgpaefaa
/-
  The library's sort at this seat: its laying, as the kit's tool writes it.
-/
namespace Go.Proofs
open Go.Shelf
def Try.laysGt8_ren : Go.Shelf.Ren := ⟨fun | 8 => 48 | 13 => 50 | 14 => 51 | 16 => 53 | 15 => 52 | 29 => 63 | 30 => 64 | 42 => 65 | 49 => 66 | n => n, fun | 20 => 20 | 26 => 62 | 36 => 66 | 0 => 0 | 38 => 68 | 42 => 72 | 3 => 3 | 4 => 4 | 47 => 47 | 17 => 17 | 33 => 63 | 34 => 64 | 89 => 93 | 12 => 12 | 56 => 85 | 82 => 86 | 5 => 5 | 83 => 87 | 84 => 88 | 85 => 89 | 86 => 90 | 87 => 91 | n => n, fun | n => n⟩
theorem Try.laysGt8 : Go.Proofs.LaysGt.n8 Try.prog Try.laysGt8_ren := {
  mixed := by kernel_rfl
  f8 := Try.func48.trans (congrArg some (by kernel_rfl))
  f13 := Try.func50.trans (congrArg some (by kernel_rfl))
  f14 := Try.func51.trans (congrArg some (by kernel_rfl))
  f15 := Try.func52.trans (congrArg some (by kernel_rfl))
  f16 := Try.func53.trans (congrArg some (by kernel_rfl))
  f29 := Try.func63.trans (congrArg some (by kernel_rfl))
  f30 := Try.func64.trans (congrArg some (by kernel_rfl))
  f42 := Try.func65.trans (congrArg some (by kernel_rfl))
  f49 := Try.func66.trans (congrArg some (by kernel_rfl))
  t0 := Try.underlying0
  a0 := Try.isAgg0
  z0 := Try.sizeOf0
  v0 := Try.zeroValue0
  i0 := by kernel_rfl
  t3 := Try.underlying3
  a3 := Try.isAgg3
  z3 := Try.sizeOf3
  v3 := Try.zeroValue3
  i3 := by kernel_rfl
  t4 := Try.underlying4
  a4 := Try.isAgg4
  z4 := Try.sizeOf4
  v4 := Try.zeroValue4
  i4 := by kernel_rfl
  t5 := Try.underlying5
  a5 := Try.isAgg5
  z5 := Try.sizeOf5
  v5 := Try.zeroValue5
  i5 := by kernel_rfl
  t12 := Try.underlying12
  a12 := Try.isAgg12
  z12 := Try.sizeOf12
  v12 := Try.zeroValue12
  i12 := by kernel_rfl
  t17 := Try.underlying17
  a17 := Try.isAgg17
  z17 := Try.sizeOf17
  v17 := Try.zeroValue17
  i17 := by kernel_rfl
  t20 := Try.underlying20
  a20 := Try.isAgg20
  z20 := Try.sizeOf20
  v20 := Try.zeroValue20
  i20 := by kernel_rfl
  t26 := Try.underlying62
  a26 := Try.isAgg62
  z26 := Try.sizeOf62
  v26 := Try.zeroValue62
  i26 := by kernel_rfl
  t33 := Try.underlying63
  a33 := Try.isAgg63
  z33 := Try.sizeOf63
  v33 := Try.zeroValue63
  i33 := by kernel_rfl
  t34 := Try.underlying64
  a34 := Try.isAgg64
  z34 := Try.sizeOf64
  v34 := Try.zeroValue64
  i34 := by kernel_rfl
  t36 := Try.underlying66
  a36 := Try.isAgg66
  z36 := Try.sizeOf66
  v36 := Try.zeroValue66
  i36 := by kernel_rfl
  t38 := Try.underlying68
  a38 := Try.isAgg68
  z38 := Try.sizeOf68
  v38 := Try.zeroValue68
  i38 := by kernel_rfl
  t42 := Try.underlying72
  a42 := Try.isAgg72
  z42 := Try.sizeOf72
  v42 := Try.zeroValue72
  i42 := by kernel_rfl
  t47 := Try.underlying47
  a47 := Try.isAgg47
  z47 := Try.sizeOf47
  v47 := Try.zeroValue47
  i47 := by kernel_rfl
  t56 := Try.underlying85
  a56 := Try.isAgg85
  z56 := Try.sizeOf85
  v56 := Try.zeroValue85
  i56 := by kernel_rfl
  t82 := Try.underlying86
  a82 := Try.isAgg86
  z82 := Try.sizeOf86
  v82 := Try.zeroValue86
  i82 := by kernel_rfl
  t83 := Try.underlying87
  a83 := Try.isAgg87
  z83 := Try.sizeOf87
  v83 := Try.zeroValue87
  i83 := by kernel_rfl
  t84 := Try.underlying88
  a84 := Try.isAgg88
  z84 := Try.sizeOf88
  v84 := Try.zeroValue88
  i84 := by kernel_rfl
  t85 := Try.underlying89
  a85 := Try.isAgg89
  z85 := Try.sizeOf89
  v85 := Try.zeroValue89
  i85 := by kernel_rfl
  t86 := Try.underlying90
  a86 := Try.isAgg90
  z86 := Try.sizeOf90
  v86 := Try.zeroValue90
  i86 := by kernel_rfl
  t87 := Try.underlying91
  a87 := Try.isAgg91
  z87 := Try.sizeOf91
  v87 := Try.zeroValue91
  i87 := by kernel_rfl
  t89 := Try.underlying93
  a89 := Try.isAgg93
  z89 := Try.sizeOf93
  v89 := Try.zeroValue93
  i89 := by kernel_rfl }
end Go.Proofs
