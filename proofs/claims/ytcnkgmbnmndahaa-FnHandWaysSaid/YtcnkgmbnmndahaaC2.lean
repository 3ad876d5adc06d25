/-
  Contexts and contracts of functions, printed by gen.py.
-/
import Derived.Test.YtcnkgmbnmndahaaVx
namespace Go.Proofs.Ytcnkgmbnmndahaa
open Go.V
set_option maxRecDepth 100000
theorem follows_mixed : Try.prog.follows .mixedOrders = true := by kernel_rfl
@[reducible] def ty3 : TI := { n := 1, zero := [.v (.int .i64 0)], ik := some .i64 }
@[reducible] def ty4 : TI := { n := 1, zero := [.v (.bool false)], bl := true }
@[reducible] def ty5 : TI := { n := 1, zero := [.v (.int .u8 0)], ik := some .u8 }
@[reducible] def ty9 : TI := { n := 1, zero := [.v (.string ⟨#[]⟩)], str := true }
@[reducible] def ty22 : TI := { n := 1, zero := [.arr 4 []], elem := 93, ez := 4, eb := 32 }
@[reducible] def ty25 : TI := { n := 1, zero := [.arr 4 []], elem := 91, ez := 4, eb := 32 }
@[reducible] def ty29 : TI := { n := 1, zero := [.arr 4 []], elem := 135, ez := 4, eb := 40 }
@[reducible] def ty30 : TI := { n := 1, zero := [.arr 4 []], elem := 137, ez := 4, eb := 48 }
@[reducible] def ty32 : TI := { agg := true, n := 4, zero := [.arr 4 [], .arr 4 [], .v (.int .i64 0), .v (.int .i64 0)], fs := [(0, 29), (1, 30), (2, 3), (3, 3)] }
@[reducible] def ty35 : TI := { n := 1, zero := [.arr 4 []], elem := 88, ez := 4, eb := 40 }
@[reducible] def ty36 : TI := { n := 1, zero := [.arr 4 []], elem := 101, ez := 4, eb := 48 }
@[reducible] def ty38 : TI := { agg := true, n := 4, zero := [.arr 4 [], .arr 4 [], .v (.int .i64 0), .v (.int .i64 0)], fs := [(0, 35), (1, 36), (2, 3), (3, 3)] }
@[reducible] def ty44 : TI := { n := 1, zero := [.arr 1 []], elem := 3, ez := 1, eb := 8 }
@[reducible] def ty75 : TI := { n := 1, zero := [.arr 1 []], elem := 9, ez := 1, eb := 16 }
@[reducible] def ty88 : TI := { agg := true, n := 4, zero := [.v (.string ⟨#[]⟩), .v (.int .i64 0), .v (.int .i64 0), .v (.int .i64 0)], fs := [(0, 9), (1, 3), (2, 3), (3, 3)], eq := [3, 1, 1, 1] }
@[reducible] def ty91 : TI := { agg := true, n := 4, zero := [.v (.int .i64 0), .v (.int .i64 0), .v (.int .i64 0), .v (.int .i64 0)], fs := [(0, 3), (1, 3), (2, 3), (3, 3)], eq := [1, 1, 1, 1] }
@[reducible] def ty93 : TI := { agg := true, n := 4, zero := [.v (.int .i64 0), .v (.int .i64 0), .v (.int .i64 0), .v (.int .i64 0)], fs := [(0, 3), (1, 3), (2, 3), (3, 3)], eq := [1, 1, 1, 1] }
@[reducible] def ty101 : TI := { agg := true, n := 4, zero := [.v (.int .i64 0), .arr 1 [], .v (.bool false), .v (.int .i64 0)], fs := [(0, 3), (1, 75), (2, 4), (3, 3)] }
@[reducible] def ty135 : TI := { agg := true, n := 4, zero := [.v (.string ⟨#[]⟩), .v (.int .i64 0), .v (.int .i64 0), .v (.int .i64 0)], fs := [(0, 9), (1, 3), (2, 3), (3, 3)], eq := [3, 1, 1, 1] }
@[reducible] def ty137 : TI := { agg := true, n := 4, zero := [.v (.int .i64 0), .arr 1 [], .v (.bool false), .v (.int .i64 0)], fs := [(0, 3), (1, 75), (2, 4), (3, 3)] }
@[reducible] def ty154 : TI := { n := 1, zero := [.arr 2 []], elem := 156, ez := 2, eb := 24 }
@[reducible] def ty156 : TI := { agg := true, n := 2, zero := [.v (.string ⟨#[]⟩), .v (.int .i64 0)], fs := [(0, 9), (1, 3)], eq := [3, 1] }
/-- loop.example/g01054/laws.szOrderS -/
@[reducible] noncomputable def c_laws_szOrderS : Cx := { K := [.dat 2, .dat 0, .no, .no, .dat 0, .dat 0, .dat 2, .dat 0, .dat 0, .dat 0, .dat 0, .dat 0], T := [(3, ty3), (22, ty22), (93, ty93)], S := [], H := [], res := [.tmp 4], ios := [] }
noncomputable def F_laws_szOrderS : List D → Option Out := denF c_laws_szOrderS Try.f13
@[reducible] noncomputable def S_laws_szOrderS : FS := { pm := [.dat 2, .dat 0], rm := [.dat 0], f := F_laws_szOrderS }
theorem M_laws_szOrderS : Meets Try.prog 13 S_laws_szOrderS := meets_of (P := Try.prog) (c := c_laws_szOrderS) (fn := Try.f13) (pm := S_laws_szOrderS.pm) (rm := S_laws_szOrderS.rm) (by kernel_rfl) lookNil follows_mixed Try.func13 (by kernel_rfl) (by kernel_rfl) rfl
/-- loop.example/g01054/laws.toOrder -/
@[reducible] noncomputable def c_laws_toOrder : Cx := { K := [.dat 0, .box 4 0 false, .box 4 0 false, .box 4 0 false, .ref 1, .dat 0, .ref 3, .ref 1, .dat 0, .ref 3, .ref 1, .dat 0, .ref 3, .ref 1, .dat 0, .ref 3, .dat 0], T := [(3, ty3), (91, ty91), (93, ty93)], S := [], H := [], res := [.cell 2 91], ios := [] }
noncomputable def F_laws_toOrder : List D → Option Out := denF c_laws_toOrder Try.f58
@[reducible] noncomputable def S_laws_toOrder : FS := { pm := [.dat 0], rm := [.dat 0], f := F_laws_toOrder }
theorem M_laws_toOrder : Meets Try.prog 58 S_laws_toOrder := meets_of (P := Try.prog) (c := c_laws_toOrder) (fn := Try.f58) (pm := S_laws_toOrder.pm) (rm := S_laws_toOrder.rm) (by kernel_rfl) lookNil follows_mixed Try.func58 (by kernel_rfl) (by kernel_rfl) rfl
/-- loop.example/g01054/laws.toOrderS -/
@[reducible] noncomputable def c_laws_toOrderS : Cx := { K := [.dat 2, .no, .own 4 0 false, .own 4 0 false, .dat 0, .dat 2, .dat 0, .own 4 0 false, .dat 0, .dat 2, .dat 0, .dat 0, .dat 0, .dat 0, .via 3, .dat 0, .dat 2, .dat 0, .dat 2, .dat 0, .dat 0, .ref 3, .own 4 0 false], T := [(3, ty3), (22, ty22), (25, ty25), (91, ty91), (93, ty93)], S := [(58, S_laws_toOrder)], H := [(0, ([0, 3, 4], [3]))], res := [.tmp 2], ios := [] }
noncomputable def F_laws_toOrderS : List D → Option Out := denF c_laws_toOrderS Try.f15
@[reducible] noncomputable def S_laws_toOrderS : FS := { pm := [.dat 2], rm := [.own 4 0 false], f := F_laws_toOrderS }
theorem M_laws_toOrderS : Meets Try.prog 15 S_laws_toOrderS := meets_of (P := Try.prog) (c := c_laws_toOrderS) (fn := Try.f15) (pm := S_laws_toOrderS.pm) (rm := S_laws_toOrderS.rm) (by kernel_rfl) (lookCons M_laws_toOrder lookNil) follows_mixed Try.func15 (by kernel_rfl) (by kernel_rfl) rfl
/-- loop.example/g01054/spec.l1In -/
@[reducible] noncomputable def c_spec_l1In : Cx := { K := [.dat 0, .dat 0, .dat 0, .no, .no, .no, .dat 0, .dat 0, .dat 0, .dat 0, .dat 0, .dat 0, .dat 0, .dat 0, .dat 0], T := [(3, ty3)], S := [], H := [], res := [.tmp 6], ios := [] }
noncomputable def F_spec_l1In : List D → Option Out := denF c_spec_l1In Try.f102
@[reducible] noncomputable def S_spec_l1In : FS := { pm := [.dat 0, .dat 0, .dat 0], rm := [.dat 0], f := F_spec_l1In }
theorem M_spec_l1In : Meets Try.prog 102 S_spec_l1In := meets_of (P := Try.prog) (c := c_spec_l1In) (fn := Try.f102) (pm := S_spec_l1In.pm) (rm := S_spec_l1In.rm) (by kernel_rfl) lookNil follows_mixed Try.func102 (by kernel_rfl) (by kernel_rfl) rfl
/-- loop.example/g01054/spec.orOne -/
@[reducible] noncomputable def c_spec_orOne : Cx := { K := [.dat 0, .box 4 0 false, .dat 0, .ref 1, .dat 0, .dat 0, .dat 0, .ref 1, .dat 0, .dat 0, .dat 0, .dat 0, .ref 1, .dat 0, .dat 0, .dat 0, .dat 0, .ref 1, .dat 0, .dat 0, .dat 0], T := [(3, ty3), (91, ty91)], S := [(102, S_spec_l1In)], H := [], res := [.tmp 2], ios := [] }
noncomputable def F_spec_orOne : List D → Option Out := denF c_spec_orOne Try.f109
@[reducible] noncomputable def S_spec_orOne : FS := { pm := [.dat 0], rm := [.dat 0], f := F_spec_orOne }
theorem M_spec_orOne : Meets Try.prog 109 S_spec_orOne := meets_of (P := Try.prog) (c := c_spec_orOne) (fn := Try.f109) (pm := S_spec_orOne.pm) (rm := S_spec_orOne.rm) (by kernel_rfl) (lookCons M_spec_l1In lookNil) follows_mixed Try.func109 (by kernel_rfl) (by kernel_rfl) rfl
/-- loop.example/g01054/spec.orGood -/
@[reducible] noncomputable def c_spec_orGood : Cx := { K := [.dat 2, .no, .dat 0, .dat 0, .box 4 0 false, .dat 2, .dat 0, .dat 0, .dat 0, .dat 0, .dat 2, .dat 0, .dat 0, .dat 0, .dat 0, .dat 0, .dat 0, .dat 0, .dat 0, .dat 2, .dat 0, .dat 0, .dat 2, .dat 2, .dat 0, .ref 4, .dat 0, .dat 0, .dat 0, .dat 0, .dat 0, .dat 2, .dat 0, .dat 0], T := [(3, ty3), (25, ty25), (91, ty91)], S := [(109, S_spec_orOne)], H := [(0, ([0, 5, 6, 7], [0]))], res := [.tmp 2], ios := [] }
noncomputable def F_spec_orGood : List D → Option Out := denF c_spec_orGood Try.f57
@[reducible] noncomputable def S_spec_orGood : FS := { pm := [.dat 2], rm := [.dat 0], f := F_spec_orGood }
theorem M_spec_orGood : Meets Try.prog 57 S_spec_orGood := meets_of (P := Try.prog) (c := c_spec_orGood) (fn := Try.f57) (pm := S_spec_orGood.pm) (rm := S_spec_orGood.rm) (by kernel_rfl) (lookCons M_spec_orOne lookNil) follows_mixed Try.func57 (by kernel_rfl) (by kernel_rfl) rfl
/-- loop.example/g01054/spec.AreOrders -/
@[reducible] noncomputable def c_spec_AreOrders : Cx := { K := [.dat 2, .no, .dat 0, .dat 2, .dat 0], T := [], S := [(57, S_spec_orGood)], H := [], res := [.tmp 2], ios := [] }
noncomputable def F_spec_AreOrders : List D → Option Out := denF c_spec_AreOrders Try.f14
@[reducible] noncomputable def S_spec_AreOrders : FS := { pm := [.dat 2], rm := [.dat 0], f := F_spec_AreOrders }
theorem M_spec_AreOrders : Meets Try.prog 14 S_spec_AreOrders := meets_of (P := Try.prog) (c := c_spec_AreOrders) (fn := Try.f14) (pm := S_spec_AreOrders.pm) (rm := S_spec_AreOrders.rm) (by kernel_rfl) (lookCons M_spec_orGood lookNil) follows_mixed Try.func14 (by kernel_rfl) (by kernel_rfl) rfl
/-- loop.example/g01054/impl.within -/
@[reducible] noncomputable def c_impl_within : Cx := { K := [.dat 0, .dat 0, .dat 0, .no, .no, .no, .dat 0, .dat 0, .dat 0, .dat 0, .dat 0, .dat 0, .dat 0, .dat 0, .dat 0], T := [(3, ty3)], S := [], H := [], res := [.tmp 6], ios := [] }
noncomputable def F_impl_within : List D → Option Out := denF c_impl_within Try.f68
@[reducible] noncomputable def S_impl_within : FS := { pm := [.dat 0, .dat 0, .dat 0], rm := [.dat 0], f := F_impl_within }
theorem M_impl_within : Meets Try.prog 68 S_impl_within := meets_of (P := Try.prog) (c := c_impl_within) (fn := Try.f68) (pm := S_impl_within.pm) (rm := S_impl_within.rm) (by kernel_rfl) lookNil follows_mixed Try.func68 (by kernel_rfl) (by kernel_rfl) rfl
/-- loop.example/g01054/impl.isOrder -/
@[reducible] noncomputable def c_impl_isOrder : Cx := { K := [.dat 0, .box 4 0 false, .dat 0, .ref 1, .dat 0, .dat 0, .dat 0, .ref 1, .dat 0, .dat 0, .dat 0, .dat 0, .ref 1, .dat 0, .dat 0, .dat 0, .dat 0, .ref 1, .dat 0, .dat 0, .dat 0], T := [(3, ty3), (91, ty91)], S := [(68, S_impl_within)], H := [], res := [.tmp 2], ios := [] }
noncomputable def F_impl_isOrder : List D → Option Out := denF c_impl_isOrder Try.f59
@[reducible] noncomputable def S_impl_isOrder : FS := { pm := [.dat 0], rm := [.dat 0], f := F_impl_isOrder }
theorem M_impl_isOrder : Meets Try.prog 59 S_impl_isOrder := meets_of (P := Try.prog) (c := c_impl_isOrder) (fn := Try.f59) (pm := S_impl_isOrder.pm) (rm := S_impl_isOrder.rm) (by kernel_rfl) (lookCons M_impl_within lookNil) follows_mixed Try.func59 (by kernel_rfl) (by kernel_rfl) rfl
/-- loop.example/g01054/impl.AreOrders -/
@[reducible] noncomputable def c_impl_AreOrders : Cx := { K := [.dat 2, .no, .dat 0, .dat 0, .box 4 0 false, .dat 2, .dat 0, .dat 0, .dat 0, .dat 0, .dat 2, .dat 0, .dat 0, .dat 0, .dat 0, .dat 0, .dat 0, .dat 0, .dat 0, .dat 2, .dat 0, .dat 0, .dat 2, .dat 2, .dat 0, .ref 4, .dat 0, .dat 0, .dat 0, .dat 0, .dat 0, .dat 2, .dat 0, .dat 0], T := [(3, ty3), (25, ty25), (91, ty91)], S := [(59, S_impl_isOrder)], H := [(0, ([0, 5, 6, 7], [0]))], res := [.tmp 2], ios := [] }
noncomputable def F_impl_AreOrders : List D → Option Out := denF c_impl_AreOrders Try.f16
@[reducible] noncomputable def S_impl_AreOrders : FS := { pm := [.dat 2], rm := [.dat 0], f := F_impl_AreOrders }
theorem M_impl_AreOrders : Meets Try.prog 16 S_impl_AreOrders := meets_of (P := Try.prog) (c := c_impl_AreOrders) (fn := Try.f16) (pm := S_impl_AreOrders.pm) (rm := S_impl_AreOrders.rm) (by kernel_rfl) (lookCons M_impl_isOrder lookNil) follows_mixed Try.func16 (by kernel_rfl) (by kernel_rfl) rfl
/-- loop.example/g01054/laws.eqOrder -/
@[reducible] noncomputable def c_laws_eqOrder : Cx := { K := [.dat 0, .dat 0, .box 4 0 false, .box 4 0 false, .dat 0, .ref 2, .dat 0, .ref 3, .dat 0, .dat 0, .ref 2, .dat 0, .ref 3, .dat 0, .dat 0, .ref 2, .dat 0, .ref 3, .dat 0, .dat 0, .ref 2, .dat 0, .ref 3, .dat 0, .dat 0], T := [(3, ty3), (91, ty91)], S := [], H := [], res := [.tmp 4], ios := [] }
noncomputable def F_laws_eqOrder : List D → Option Out := denF c_laws_eqOrder Try.f60
@[reducible] noncomputable def S_laws_eqOrder : FS := { pm := [.dat 0, .dat 0], rm := [.dat 0], f := F_laws_eqOrder }
theorem M_laws_eqOrder : Meets Try.prog 60 S_laws_eqOrder := meets_of (P := Try.prog) (c := c_laws_eqOrder) (fn := Try.f60) (pm := S_laws_eqOrder.pm) (rm := S_laws_eqOrder.rm) (by kernel_rfl) lookNil follows_mixed Try.func60 (by kernel_rfl) (by kernel_rfl) rfl
/-- loop.example/g01054/laws.eqOrderS -/
@[reducible] noncomputable def c_laws_eqOrderS : Cx := { K := [.dat 2, .dat 2, .no, .no, .dat 0, .dat 0, .dat 2, .dat 0, .dat 2, .dat 0, .dat 0, .dat 0, .dat 2, .dat 0, .dat 0, .dat 0, .dat 0, .dat 2, .dat 0, .dat 2, .dat 0, .dat 2, .dat 0, .dat 2, .dat 0, .dat 0, .dat 0], T := [(3, ty3), (25, ty25), (91, ty91)], S := [(60, S_laws_eqOrder)], H := [(0, ([0, 1, 5], []))], res := [.tmp 4], ios := [] }
noncomputable def F_laws_eqOrderS : List D → Option Out := denF c_laws_eqOrderS Try.f17
@[reducible] noncomputable def S_laws_eqOrderS : FS := { pm := [.dat 2, .dat 2], rm := [.dat 0], f := F_laws_eqOrderS }
theorem M_laws_eqOrderS : Meets Try.prog 17 S_laws_eqOrderS := meets_of (P := Try.prog) (c := c_laws_eqOrderS) (fn := Try.f17) (pm := S_laws_eqOrderS.pm) (rm := S_laws_eqOrderS.rm) (by kernel_rfl) (lookCons M_laws_eqOrder lookNil) follows_mixed Try.func17 (by kernel_rfl) (by kernel_rfl) rfl
/-- loop.example/g01054/laws.FnExactAreOrders -/
@[reducible] noncomputable def c_laws_FnExactAreOrders : Cx := { K := [.dat 2, .no, .dat 0, .dat 0, .dat 0, .dat 1, .dat 0, .dat 2, .dat 0, .dat 0, .dat 0, .dat 0, .dat 2, .dat 1, .dat 0, .dat 2, .dat 1, .dat 1, .dat 0, .dat 0, .dat 0, .dat 0, .dat 1, .dat 2, .dat 1, .dat 0, .dat 0], T := [(3, ty3), (4, ty4)], S := [(13, S_laws_szOrderS), (14, S_spec_AreOrders), (15, S_laws_toOrderS), (16, S_impl_AreOrders), (17, S_laws_eqOrderS)], H := [], res := [.tmp 2], ios := [] }
noncomputable def F_laws_FnExactAreOrders : List D → Option Out := denF c_laws_FnExactAreOrders Try.f3
@[reducible] noncomputable def S_laws_FnExactAreOrders : FS := { pm := [.dat 2], rm := [.dat 0], f := F_laws_FnExactAreOrders }
theorem M_laws_FnExactAreOrders : Meets Try.prog 3 S_laws_FnExactAreOrders := meets_of (P := Try.prog) (c := c_laws_FnExactAreOrders) (fn := Try.f3) (pm := S_laws_FnExactAreOrders.pm) (rm := S_laws_FnExactAreOrders.rm) (by kernel_rfl) (lookCons M_laws_szOrderS (lookCons M_spec_AreOrders (lookCons M_laws_toOrderS (lookCons M_impl_AreOrders (lookCons M_laws_eqOrderS lookNil))))) follows_mixed Try.func3 (by kernel_rfl) (by kernel_rfl) rfl
/-- loop.example/g01054/laws.szBox -/
@[reducible] noncomputable def c_laws_szBox : Cx := { K := [.dat 0, .dat 0, .box 4 0 false, .no, .dat 0, .dat 0, .ref 2, .dat 0, .dat 0, .dat 0, .dat 0, .dat 0, .dat 0], T := [(3, ty3), (9, ty9), (135, ty135)], S := [], H := [], res := [.tmp 4], ios := [] }
noncomputable def F_laws_szBox : List D → Option Out := denF c_laws_szBox Try.f110
@[reducible] noncomputable def S_laws_szBox : FS := { pm := [.dat 0, .dat 0], rm := [.dat 0], f := F_laws_szBox }
theorem M_laws_szBox : Meets Try.prog 110 S_laws_szBox := meets_of (P := Try.prog) (c := c_laws_szBox) (fn := Try.f110) (pm := S_laws_szBox.pm) (rm := S_laws_szBox.rm) (by kernel_rfl) lookNil follows_mixed Try.func110 (by kernel_rfl) (by kernel_rfl) rfl
/-- loop.example/g01054/laws.szBoxS -/
@[reducible] noncomputable def c_laws_szBoxS : Cx := { K := [.dat 2, .dat 0, .no, .no, .dat 0, .dat 0, .dat 0, .dat 2, .dat 0, .dat 0, .dat 0, .dat 0, .dat 0, .dat 2, .dat 0, .dat 0, .dat 0, .dat 0, .dat 2, .dat 0, .dat 2, .dat 0, .dat 0, .dat 0, .dat 0, .dat 0, .dat 0], T := [(3, ty3), (9, ty9), (29, ty29), (135, ty135)], S := [(110, S_laws_szBox)], H := [(0, ([0, 1, 5], [1]))], res := [.tmp 4], ios := [] }
noncomputable def F_laws_szBoxS : List D → Option Out := denF c_laws_szBoxS Try.f61
@[reducible] noncomputable def S_laws_szBoxS : FS := { pm := [.dat 2, .dat 0], rm := [.dat 0], f := F_laws_szBoxS }
theorem M_laws_szBoxS : Meets Try.prog 61 S_laws_szBoxS := meets_of (P := Try.prog) (c := c_laws_szBoxS) (fn := Try.f61) (pm := S_laws_szBoxS.pm) (rm := S_laws_szBoxS.rm) (by kernel_rfl) (lookCons M_laws_szBox lookNil) follows_mixed Try.func61 (by kernel_rfl) (by kernel_rfl) rfl
/-- loop.example/g01054/laws.szStringS -/
@[reducible] noncomputable def c_laws_szStringS : Cx := { K := [.dat 2, .dat 0, .no, .no, .dat 0, .dat 0, .dat 0, .dat 2, .dat 0, .dat 0, .dat 0, .dat 0, .dat 0, .dat 2, .dat 0, .dat 0, .dat 0, .dat 0, .dat 0, .dat 2, .dat 0, .dat 2, .dat 0, .dat 0, .dat 0, .dat 0, .dat 0, .dat 0], T := [(3, ty3), (9, ty9), (75, ty75)], S := [], H := [(0, ([0, 1, 5], [1]))], res := [.tmp 4], ios := [] }
noncomputable def F_laws_szStringS : List D → Option Out := denF c_laws_szStringS Try.f143
@[reducible] noncomputable def S_laws_szStringS : FS := { pm := [.dat 2, .dat 0], rm := [.dat 0], f := F_laws_szStringS }
theorem M_laws_szStringS : Meets Try.prog 143 S_laws_szStringS := meets_of (P := Try.prog) (c := c_laws_szStringS) (fn := Try.f143) (pm := S_laws_szStringS.pm) (rm := S_laws_szStringS.rm) (by kernel_rfl) lookNil follows_mixed Try.func143 (by kernel_rfl) (by kernel_rfl) rfl
/-- loop.example/g01054/laws.szForme -/
@[reducible] noncomputable def c_laws_szForme : Cx := { K := [.dat 2, .dat 0, .box 4 2 false, .no, .dat 0, .ref 2, .dat 2, .dat 0, .dat 0, .dat 0, .dat 0, .dat 0], T := [(3, ty3), (4, ty4), (9, ty9), (75, ty75), (137, ty137)], S := [(143, S_laws_szStringS)], H := [], res := [.tmp 4], ios := [] }
noncomputable def F_laws_szForme : List D → Option Out := denF c_laws_szForme Try.f111
@[reducible] noncomputable def S_laws_szForme : FS := { pm := [.dat 2, .dat 0], rm := [.dat 0], f := F_laws_szForme }
theorem M_laws_szForme : Meets Try.prog 111 S_laws_szForme := meets_of (P := Try.prog) (c := c_laws_szForme) (fn := Try.f111) (pm := S_laws_szForme.pm) (rm := S_laws_szForme.rm) (by kernel_rfl) (lookCons M_laws_szStringS lookNil) follows_mixed Try.func111 (by kernel_rfl) (by kernel_rfl) rfl
/-- loop.example/g01054/laws.szFormeS -/
@[reducible] noncomputable def c_laws_szFormeS : Cx := { K := [.dat 2, .dat 0, .no, .no, .dat 0, .dat 0, .dat 0, .dat 2, .dat 0, .dat 0, .dat 0, .dat 0, .dat 0, .dat 2, .dat 0, .dat 0, .dat 0, .dat 0, .dat 2, .dat 0, .dat 2, .dat 2, .dat 0, .dat 0, .dat 0, .dat 0, .dat 0], T := [(3, ty3), (4, ty4), (30, ty30), (75, ty75), (137, ty137)], S := [(111, S_laws_szForme)], H := [(0, ([0, 1, 5], [1]))], res := [.tmp 4], ios := [] }
noncomputable def F_laws_szFormeS : List D → Option Out := denF c_laws_szFormeS Try.f62
@[reducible] noncomputable def S_laws_szFormeS : FS := { pm := [.dat 2, .dat 0], rm := [.dat 0], f := F_laws_szFormeS }
theorem M_laws_szFormeS : Meets Try.prog 62 S_laws_szFormeS := meets_of (P := Try.prog) (c := c_laws_szFormeS) (fn := Try.f62) (pm := S_laws_szFormeS.pm) (rm := S_laws_szFormeS.rm) (by kernel_rfl) (lookCons M_laws_szForme lookNil) follows_mixed Try.func62 (by kernel_rfl) (by kernel_rfl) rfl
/-- loop.example/g01054/laws.szShop -/
@[reducible] noncomputable def c_laws_szShop : Cx := { K := [.dat 2, .dat 0, .box 4 2 false, .no, .dat 0, .ref 2, .dat 2, .dat 0, .dat 0, .dat 0, .dat 0, .ref 2, .dat 2, .dat 0, .dat 0, .dat 0, .dat 0, .dat 0], T := [(3, ty3), (29, ty29), (30, ty30), (32, ty32), (135, ty135), (137, ty137)], S := [(61, S_laws_szBoxS), (62, S_laws_szFormeS)], H := [], res := [.tmp 4], ios := [] }
noncomputable def F_laws_szShop : List D → Option Out := denF c_laws_szShop Try.f18
@[reducible] noncomputable def S_laws_szShop : FS := { pm := [.dat 2, .dat 0], rm := [.dat 0], f := F_laws_szShop }
theorem M_laws_szShop : Meets Try.prog 18 S_laws_szShop := meets_of (P := Try.prog) (c := c_laws_szShop) (fn := Try.f18) (pm := S_laws_szShop.pm) (rm := S_laws_szShop.rm) (by kernel_rfl) (lookCons M_laws_szBoxS (lookCons M_laws_szFormeS lookNil)) follows_mixed Try.func18 (by kernel_rfl) (by kernel_rfl) rfl
/-- loop.example/g01054/laws.toBox -/
@[reducible] noncomputable def c_laws_toBox : Cx := { K := [.dat 0, .box 4 0 false, .box 4 0 false, .box 4 0 false, .ref 1, .dat 0, .ref 3, .ref 1, .dat 0, .ref 3, .ref 1, .dat 0, .ref 3, .ref 1, .dat 0, .ref 3, .dat 0], T := [(3, ty3), (9, ty9), (88, ty88), (135, ty135)], S := [], H := [], res := [.cell 2 88], ios := [] }
noncomputable def F_laws_toBox : List D → Option Out := denF c_laws_toBox Try.f113
@[reducible] noncomputable def S_laws_toBox : FS := { pm := [.dat 0], rm := [.dat 0], f := F_laws_toBox }
theorem M_laws_toBox : Meets Try.prog 113 S_laws_toBox := meets_of (P := Try.prog) (c := c_laws_toBox) (fn := Try.f113) (pm := S_laws_toBox.pm) (rm := S_laws_toBox.rm) (by kernel_rfl) lookNil follows_mixed Try.func113 (by kernel_rfl) (by kernel_rfl) rfl
/-- loop.example/g01054/laws.toBoxS -/
@[reducible] noncomputable def c_laws_toBoxS : Cx := { K := [.dat 2, .no, .own 4 0 false, .own 4 0 false, .dat 0, .dat 2, .dat 0, .own 4 0 false, .dat 0, .dat 2, .dat 0, .dat 0, .dat 0, .dat 0, .via 3, .dat 0, .dat 2, .dat 0, .dat 2, .dat 0, .dat 0, .ref 3, .own 4 0 false], T := [(3, ty3), (9, ty9), (29, ty29), (35, ty35), (88, ty88), (135, ty135)], S := [(113, S_laws_toBox)], H := [(0, ([0, 3, 4], [3]))], res := [.tmp 2], ios := [] }
noncomputable def F_laws_toBoxS : List D → Option Out := denF c_laws_toBoxS Try.f64
@[reducible] noncomputable def S_laws_toBoxS : FS := { pm := [.dat 2], rm := [.own 4 0 false], f := F_laws_toBoxS }
theorem M_laws_toBoxS : Meets Try.prog 64 S_laws_toBoxS := meets_of (P := Try.prog) (c := c_laws_toBoxS) (fn := Try.f64) (pm := S_laws_toBoxS.pm) (rm := S_laws_toBoxS.rm) (by kernel_rfl) (lookCons M_laws_toBox lookNil) follows_mixed Try.func64 (by kernel_rfl) (by kernel_rfl) rfl
/-- loop.example/g01054/laws.toStringS -/
@[reducible] noncomputable def c_laws_toStringS : Cx := { K := [.dat 2, .no, .own 1 0 false, .own 1 0 false, .dat 0, .dat 2, .dat 0, .own 1 0 false, .dat 0, .dat 2, .dat 0, .dat 0, .dat 0, .dat 0, .via 3, .dat 0, .dat 2, .dat 0, .dat 2, .dat 0, .ref 3, .own 1 0 false], T := [(3, ty3), (9, ty9), (75, ty75)], S := [], H := [(0, ([0, 3, 4], [3]))], res := [.tmp 2], ios := [] }
noncomputable def F_laws_toStringS : List D → Option Out := denF c_laws_toStringS Try.f144
@[reducible] noncomputable def S_laws_toStringS : FS := { pm := [.dat 2], rm := [.own 1 0 false], f := F_laws_toStringS }
theorem M_laws_toStringS : Meets Try.prog 144 S_laws_toStringS := meets_of (P := Try.prog) (c := c_laws_toStringS) (fn := Try.f144) (pm := S_laws_toStringS.pm) (rm := S_laws_toStringS.rm) (by kernel_rfl) lookNil follows_mixed Try.func144 (by kernel_rfl) (by kernel_rfl) rfl
/-- loop.example/g01054/laws.toForme -/
@[reducible] noncomputable def c_laws_toForme : Cx := { K := [.dat 2, .box 4 2 false, .box 4 1 false, .box 4 1 false, .ref 1, .dat 0, .ref 3, .ref 1, .dat 2, .dat 1, .ref 3, .ref 1, .dat 0, .ref 3, .ref 1, .dat 0, .ref 3, .dat 1], T := [(3, ty3), (4, ty4), (9, ty9), (75, ty75), (101, ty101), (137, ty137)], S := [(144, S_laws_toStringS)], H := [], res := [.cell 2 101], ios := [] }
noncomputable def F_laws_toForme : List D → Option Out := denF c_laws_toForme Try.f114
@[reducible] noncomputable def S_laws_toForme : FS := { pm := [.dat 2], rm := [.dat 1], f := F_laws_toForme }
theorem M_laws_toForme : Meets Try.prog 114 S_laws_toForme := meets_of (P := Try.prog) (c := c_laws_toForme) (fn := Try.f114) (pm := S_laws_toForme.pm) (rm := S_laws_toForme.rm) (by kernel_rfl) (lookCons M_laws_toStringS lookNil) follows_mixed Try.func114 (by kernel_rfl) (by kernel_rfl) rfl
/-- loop.example/g01054/laws.toFormeS -/
@[reducible] noncomputable def c_laws_toFormeS : Cx := { K := [.dat 2, .no, .own 4 1 false, .own 4 1 false, .dat 0, .dat 2, .dat 0, .own 4 1 false, .dat 0, .dat 2, .dat 0, .dat 0, .dat 0, .dat 0, .via 3, .dat 0, .dat 2, .dat 0, .dat 2, .dat 2, .dat 1, .ref 3, .own 4 1 false], T := [(3, ty3), (4, ty4), (30, ty30), (36, ty36), (75, ty75), (101, ty101), (137, ty137)], S := [(114, S_laws_toForme)], H := [(0, ([0, 3, 4], [3]))], res := [.tmp 2], ios := [] }
noncomputable def F_laws_toFormeS : List D → Option Out := denF c_laws_toFormeS Try.f65
@[reducible] noncomputable def S_laws_toFormeS : FS := { pm := [.dat 2], rm := [.own 4 1 false], f := F_laws_toFormeS }
theorem M_laws_toFormeS : Meets Try.prog 65 S_laws_toFormeS := meets_of (P := Try.prog) (c := c_laws_toFormeS) (fn := Try.f65) (pm := S_laws_toFormeS.pm) (rm := S_laws_toFormeS.rm) (by kernel_rfl) (lookCons M_laws_toForme lookNil) follows_mixed Try.func65 (by kernel_rfl) (by kernel_rfl) rfl
/-- loop.example/g01054/laws.toShop -/
@[reducible] noncomputable def c_laws_toShop : Cx := { K := [.dat 2, .box 4 2 false, .box 4 1 false, .box 4 1 false, .ref 1, .dat 2, .dat 1, .ref 3, .ref 1, .dat 2, .dat 1, .ref 3, .ref 1, .dat 0, .ref 3, .ref 1, .dat 0, .ref 3, .dat 1], T := [(3, ty3), (29, ty29), (30, ty30), (32, ty32), (35, ty35), (36, ty36), (38, ty38), (88, ty88), (101, ty101), (135, ty135), (137, ty137)], S := [(64, S_laws_toBoxS), (65, S_laws_toFormeS)], H := [], res := [.cell 2 38], ios := [] }
noncomputable def F_laws_toShop : List D → Option Out := denF c_laws_toShop Try.f20
@[reducible] noncomputable def S_laws_toShop : FS := { pm := [.dat 2], rm := [.dat 1], f := F_laws_toShop }
theorem M_laws_toShop : Meets Try.prog 20 S_laws_toShop := meets_of (P := Try.prog) (c := c_laws_toShop) (fn := Try.f20) (pm := S_laws_toShop.pm) (rm := S_laws_toShop.rm) (by kernel_rfl) (lookCons M_laws_toBoxS (lookCons M_laws_toFormeS lookNil)) follows_mixed Try.func20 (by kernel_rfl) (by kernel_rfl) rfl
/-- loop.example/g01054/spec.caFind -/
@[reducible] noncomputable def c_spec_caFind : Cx := { K := [.dat 2, .dat 0, .no, .no, .dat 0, .dat 0, .box 4 0 false, .dat 2, .dat 0, .dat 0, .dat 0, .dat 0, .dat 2, .dat 0, .ref 6, .dat 0, .dat 0, .dat 0, .dat 0, .dat 0], T := [(3, ty3), (9, ty9), (35, ty35), (88, ty88)], S := [], H := [(0, ([1, 7, 8, 9], []))], res := [.tmp 4], ios := [] }
noncomputable def F_spec_caFind : List D → Option Out := denF c_spec_caFind Try.f125
@[reducible] noncomputable def S_spec_caFind : FS := { pm := [.dat 2, .dat 0], rm := [.dat 0], f := F_spec_caFind }
theorem M_spec_caFind : Meets Try.prog 125 S_spec_caFind := meets_of (P := Try.prog) (c := c_spec_caFind) (fn := Try.f125) (pm := S_spec_caFind.pm) (rm := S_spec_caFind.rm) (by kernel_rfl) lookNil follows_mixed Try.func125 (by kernel_rfl) (by kernel_rfl) rfl
/-- loop.example/g01054/spec.shForme -/
@[reducible] noncomputable def c_spec_shForme : Cx := { K := [.dat 2, .dat 2, .no, .box 4 2 false, .dat 0, .no, .dat 0, .ref 3, .dat 0, .dat 0, .dat 0, .dat 0, .ref 3, .dat 2, .dat 0, .dat 0, .dat 0, .dat 0, .ref 3, .dat 0, .dat 0, .dat 0, .dat 0, .dat 0, .ref 3, .dat 0, .dat 0, .ref 3, .dat 2, .dat 0, .dat 0, .dat 0, .dat 0, .ref 3, .dat 2, .dat 0, .dat 0, .dat 0, .dat 2, .dat 0, .dat 2, .dat 0, .dat 0, .dat 0, .dat 0], T := [(3, ty3), (4, ty4), (9, ty9), (75, ty75), (101, ty101)], S := [(102, S_spec_l1In), (125, S_spec_caFind)], H := [(0, ([0, 34, 35, 36], []))], res := [.tmp 4], ios := [] }
noncomputable def F_spec_shForme : List D → Option Out := denF c_spec_shForme Try.f112
@[reducible] noncomputable def S_spec_shForme : FS := { pm := [.dat 2, .dat 2], rm := [.dat 0], f := F_spec_shForme }
theorem M_spec_shForme : Meets Try.prog 112 S_spec_shForme := meets_of (P := Try.prog) (c := c_spec_shForme) (fn := Try.f112) (pm := S_spec_shForme.pm) (rm := S_spec_shForme.rm) (by kernel_rfl) (lookCons M_spec_l1In (lookCons M_spec_caFind lookNil)) follows_mixed Try.func112 (by kernel_rfl) (by kernel_rfl) rfl
/-- loop.example/g01054/spec.tyLetters -/
@[reducible] noncomputable def c_spec_tyLetters : Cx := { K := [.dat 0, .dat 0, .no, .no, .dat 0, .dat 0, .dat 0, .dat 0, .dat 0, .dat 0, .dat 0, .dat 0, .dat 0, .dat 0, .dat 0, .dat 0, .dat 0, .dat 0, .dat 0, .dat 0, .dat 0, .dat 0, .dat 0, .dat 0, .dat 0, .dat 0], T := [(3, ty3), (5, ty5), (9, ty9)], S := [(102, S_spec_l1In)], H := [(0, ([0, 1, 5], [0, 1]))], res := [.tmp 4], ios := [] }
noncomputable def F_spec_tyLetters : List D → Option Out := denF c_spec_tyLetters Try.f123
@[reducible] noncomputable def S_spec_tyLetters : FS := { pm := [.dat 0, .dat 0], rm := [.dat 0], f := F_spec_tyLetters }
theorem M_spec_tyLetters : Meets Try.prog 123 S_spec_tyLetters := meets_of (P := Try.prog) (c := c_spec_tyLetters) (fn := Try.f123) (pm := S_spec_tyLetters.pm) (rm := S_spec_tyLetters.rm) (by kernel_rfl) (lookCons M_spec_l1In lookNil) follows_mixed Try.func123 (by kernel_rfl) (by kernel_rfl) rfl
/-- loop.example/g01054/spec.caBox -/
@[reducible] noncomputable def c_spec_caBox : Cx := { K := [.dat 0, .box 4 0 false, .dat 0, .ref 1, .dat 0, .dat 0, .dat 0, .ref 1, .dat 0, .dat 0, .dat 0, .dat 0, .ref 1, .dat 0, .dat 0, .dat 0, .dat 0, .ref 1, .dat 0, .dat 0, .dat 0], T := [(3, ty3), (9, ty9), (88, ty88)], S := [(102, S_spec_l1In), (123, S_spec_tyLetters)], H := [], res := [.tmp 2], ios := [] }
noncomputable def F_spec_caBox : List D → Option Out := denF c_spec_caBox Try.f137
@[reducible] noncomputable def S_spec_caBox : FS := { pm := [.dat 0], rm := [.dat 0], f := F_spec_caBox }
theorem M_spec_caBox : Meets Try.prog 137 S_spec_caBox := meets_of (P := Try.prog) (c := c_spec_caBox) (fn := Try.f137) (pm := S_spec_caBox.pm) (rm := S_spec_caBox.rm) (by kernel_rfl) (lookCons M_spec_l1In (lookCons M_spec_tyLetters lookNil)) follows_mixed Try.func137 (by kernel_rfl) (by kernel_rfl) rfl
/-- loop.example/g01054/spec.caGood -/
@[reducible] noncomputable def c_spec_caGood : Cx := { K := [.dat 2, .no, .dat 0, .dat 0, .box 4 0 false, .no, .box 4 0 false, .dat 2, .dat 0, .dat 0, .dat 0, .dat 0, .dat 2, .dat 0, .dat 0, .dat 0, .dat 0, .dat 0, .dat 0, .dat 0, .dat 0, .dat 2, .dat 0, .dat 0, .dat 2, .dat 2, .dat 0, .ref 4, .dat 0, .dat 0, .dat 0, .dat 0, .dat 2, .dat 0, .dat 2, .dat 0, .dat 0, .dat 0, .dat 2, .dat 0, .ref 6, .dat 0, .ref 4, .dat 0, .dat 0, .dat 0, .ref 6, .dat 0, .ref 4, .dat 0, .dat 0, .dat 0, .dat 0, .dat 0, .dat 2, .dat 0, .dat 0], T := [(3, ty3), (9, ty9), (35, ty35), (88, ty88)], S := [(102, S_spec_l1In), (137, S_spec_caBox)], H := [(0, ([0, 7, 8, 9], [0])), (2, ([0, 4, 7, 8, 9, 34, 35, 36], [0, 7, 8, 9]))], res := [.tmp 2], ios := [] }
noncomputable def F_spec_caGood : List D → Option Out := denF c_spec_caGood Try.f101
@[reducible] noncomputable def S_spec_caGood : FS := { pm := [.dat 2], rm := [.dat 0], f := F_spec_caGood }
theorem M_spec_caGood : Meets Try.prog 101 S_spec_caGood := meets_of (P := Try.prog) (c := c_spec_caGood) (fn := Try.f101) (pm := S_spec_caGood.pm) (rm := S_spec_caGood.rm) (by kernel_rfl) (lookCons M_spec_l1In (lookCons M_spec_caBox lookNil)) follows_mixed Try.func101 (by kernel_rfl) (by kernel_rfl) rfl
/-- loop.example/g01054/spec.shGood -/
@[reducible] noncomputable def c_spec_shGood : Cx := { K := [.dat 2, .box 4 2 false, .dat 0, .dat 0, .dat 0, .box 4 2 false, .ref 1, .dat 2, .dat 0, .dat 0, .dat 0, .dat 0, .dat 2, .dat 2, .ref 1, .dat 2, .dat 2, .dat 0, .dat 0, .dat 0, .dat 0, .dat 0, .dat 0, .ref 1, .dat 2, .dat 0, .dat 0, .dat 2, .dat 2, .dat 0, .ref 5, .dat 0, .dat 0, .dat 0, .dat 0, .dat 0, .ref 5, .dat 0, .dat 0, .dat 0, .ref 1, .dat 2, .dat 0, .dat 0, .ref 1, .dat 2, .dat 0, .dat 0, .dat 0, .dat 0, .ref 1, .dat 0, .dat 0, .dat 0, .dat 0, .ref 1, .dat 0, .dat 0, .dat 0, .dat 0], T := [(3, ty3), (4, ty4), (35, ty35), (36, ty36), (38, ty38), (75, ty75), (88, ty88), (101, ty101)], S := [(101, S_spec_caGood), (102, S_spec_l1In), (112, S_spec_shForme)], H := [(0, ([1, 3, 7, 8, 9], [1, 3]))], res := [.tmp 2], ios := [] }
noncomputable def F_spec_shGood : List D → Option Out := denF c_spec_shGood Try.f63
@[reducible] noncomputable def S_spec_shGood : FS := { pm := [.dat 2], rm := [.dat 0], f := F_spec_shGood }
theorem M_spec_shGood : Meets Try.prog 63 S_spec_shGood := meets_of (P := Try.prog) (c := c_spec_shGood) (fn := Try.f63) (pm := S_spec_shGood.pm) (rm := S_spec_shGood.rm) (by kernel_rfl) (lookCons M_spec_caGood (lookCons M_spec_l1In (lookCons M_spec_shForme lookNil))) follows_mixed Try.func63 (by kernel_rfl) (by kernel_rfl) rfl
/-- loop.example/g01054/spec.IsShop -/
@[reducible] noncomputable def c_spec_IsShop : Cx := { K := [.dat 2, .box 4 2 false, .dat 0, .dat 2, .dat 0], T := [(3, ty3), (35, ty35), (36, ty36), (38, ty38)], S := [(63, S_spec_shGood)], H := [], res := [.tmp 2], ios := [] }
noncomputable def F_spec_IsShop : List D → Option Out := denF c_spec_IsShop Try.f19
@[reducible] noncomputable def S_spec_IsShop : FS := { pm := [.dat 2], rm := [.dat 0], f := F_spec_IsShop }
theorem M_spec_IsShop : Meets Try.prog 19 S_spec_IsShop := meets_of (P := Try.prog) (c := c_spec_IsShop) (fn := Try.f19) (pm := S_spec_IsShop.pm) (rm := S_spec_IsShop.rm) (by kernel_rfl) (lookCons M_spec_shGood lookNil) follows_mixed Try.func19 (by kernel_rfl) (by kernel_rfl) rfl
/-- loop.example/g01054/impl.isFormeId -/
@[reducible] noncomputable def c_impl_isFormeId : Cx := { K := [.dat 0, .no, .dat 0, .dat 0, .dat 0], T := [], S := [(68, S_impl_within)], H := [], res := [.tmp 2], ios := [] }
noncomputable def F_impl_isFormeId : List D → Option Out := denF c_impl_isFormeId Try.f115
@[reducible] noncomputable def S_impl_isFormeId : FS := { pm := [.dat 0], rm := [.dat 0], f := F_impl_isFormeId }
theorem M_impl_isFormeId : Meets Try.prog 115 S_impl_isFormeId := meets_of (P := Try.prog) (c := c_impl_isFormeId) (fn := Try.f115) (pm := S_impl_isFormeId.pm) (rm := S_impl_isFormeId.rm) (by kernel_rfl) (lookCons M_impl_within lookNil) follows_mixed Try.func115 (by kernel_rfl) (by kernel_rfl) rfl
/-- loop.example/g01054/impl.boxAt -/
@[reducible] noncomputable def c_impl_boxAt : Cx := { K := [.dat 2, .dat 0, .no, .no, .dat 0, .dat 0, .box 4 0 false, .dat 2, .dat 0, .dat 0, .dat 0, .dat 0, .dat 2, .dat 0, .ref 6, .dat 0, .dat 0, .dat 0, .dat 0, .dat 0], T := [(3, ty3), (9, ty9), (35, ty35), (88, ty88)], S := [], H := [(0, ([1, 7, 8, 9], []))], res := [.tmp 4], ios := [] }
noncomputable def F_impl_boxAt : List D → Option Out := denF c_impl_boxAt Try.f136
@[reducible] noncomputable def S_impl_boxAt : FS := { pm := [.dat 2, .dat 0], rm := [.dat 0], f := F_impl_boxAt }
theorem M_impl_boxAt : Meets Try.prog 136 S_impl_boxAt := meets_of (P := Try.prog) (c := c_impl_boxAt) (fn := Try.f136) (pm := S_impl_boxAt.pm) (rm := S_impl_boxAt.rm) (by kernel_rfl) lookNil follows_mixed Try.func136 (by kernel_rfl) (by kernel_rfl) rfl
/-- loop.example/g01054/impl.areLetters -/
@[reducible] noncomputable def c_impl_areLetters : Cx := { K := [.dat 0, .dat 0, .dat 0, .no, .no, .no, .dat 0, .dat 0, .dat 0, .dat 0, .dat 0, .dat 0, .dat 0, .dat 0, .dat 0, .dat 0, .dat 0, .dat 0, .dat 0, .dat 0, .dat 0, .dat 0, .dat 0, .dat 0, .dat 0, .dat 0, .dat 0, .dat 0, .dat 0], T := [(3, ty3), (5, ty5), (9, ty9)], S := [(68, S_impl_within)], H := [(0, ([0, 1, 2, 7], [0, 1, 2]))], res := [.tmp 6], ios := [] }
noncomputable def F_impl_areLetters : List D → Option Out := denF c_impl_areLetters Try.f126
@[reducible] noncomputable def S_impl_areLetters : FS := { pm := [.dat 0, .dat 0, .dat 0], rm := [.dat 0], f := F_impl_areLetters }
theorem M_impl_areLetters : Meets Try.prog 126 S_impl_areLetters := meets_of (P := Try.prog) (c := c_impl_areLetters) (fn := Try.f126) (pm := S_impl_areLetters.pm) (rm := S_impl_areLetters.rm) (by kernel_rfl) (lookCons M_impl_within lookNil) follows_mixed Try.func126 (by kernel_rfl) (by kernel_rfl) rfl
/-- loop.example/g01054/impl.isCode -/
@[reducible] noncomputable def c_impl_isCode : Cx := { K := [.dat 0, .no, .dat 0, .dat 0, .dat 0], T := [], S := [(126, S_impl_areLetters)], H := [], res := [.tmp 2], ios := [] }
noncomputable def F_impl_isCode : List D → Option Out := denF c_impl_isCode Try.f145
@[reducible] noncomputable def S_impl_isCode : FS := { pm := [.dat 0], rm := [.dat 0], f := F_impl_isCode }
theorem M_impl_isCode : Meets Try.prog 145 S_impl_isCode := meets_of (P := Try.prog) (c := c_impl_isCode) (fn := Try.f145) (pm := S_impl_isCode.pm) (rm := S_impl_isCode.rm) (by kernel_rfl) (lookCons M_impl_areLetters lookNil) follows_mixed Try.func145 (by kernel_rfl) (by kernel_rfl) rfl
/-- loop.example/g01054/impl.isPlace -/
@[reducible] noncomputable def c_impl_isPlace : Cx := { K := [.dat 0, .no, .dat 0, .dat 0, .dat 0], T := [], S := [(68, S_impl_within)], H := [], res := [.tmp 2], ios := [] }
noncomputable def F_impl_isPlace : List D → Option Out := denF c_impl_isPlace Try.f105
@[reducible] noncomputable def S_impl_isPlace : FS := { pm := [.dat 0], rm := [.dat 0], f := F_impl_isPlace }
theorem M_impl_isPlace : Meets Try.prog 105 S_impl_isPlace := meets_of (P := Try.prog) (c := c_impl_isPlace) (fn := Try.f105) (pm := S_impl_isPlace.pm) (rm := S_impl_isPlace.rm) (by kernel_rfl) (lookCons M_impl_within lookNil) follows_mixed Try.func105 (by kernel_rfl) (by kernel_rfl) rfl
/-- loop.example/g01054/impl.IsBox -/
@[reducible] noncomputable def c_impl_IsBox : Cx := { K := [.dat 0, .box 4 0 false, .dat 0, .ref 1, .dat 0, .dat 0, .dat 0, .ref 1, .dat 0, .dat 0, .dat 0, .dat 0, .ref 1, .dat 0, .dat 0, .dat 0, .dat 0, .ref 1, .dat 0, .dat 0, .dat 0], T := [(3, ty3), (9, ty9), (88, ty88)], S := [(68, S_impl_within), (105, S_impl_isPlace), (145, S_impl_isCode)], H := [], res := [.tmp 2], ios := [] }
noncomputable def F_impl_IsBox : List D → Option Out := denF c_impl_IsBox Try.f116
@[reducible] noncomputable def S_impl_IsBox : FS := { pm := [.dat 0], rm := [.dat 0], f := F_impl_IsBox }
theorem M_impl_IsBox : Meets Try.prog 116 S_impl_IsBox := meets_of (P := Try.prog) (c := c_impl_IsBox) (fn := Try.f116) (pm := S_impl_IsBox.pm) (rm := S_impl_IsBox.rm) (by kernel_rfl) (lookCons M_impl_within (lookCons M_impl_isPlace (lookCons M_impl_isCode lookNil))) follows_mixed Try.func116 (by kernel_rfl) (by kernel_rfl) rfl
/-- loop.example/g01054/impl.isTaken -/
@[reducible] noncomputable def c_impl_isTaken : Cx := { K := [.dat 2, .dat 0, .dat 0, .no, .no, .no, .dat 0, .no, .box 4 0 false, .dat 2, .dat 0, .dat 0, .dat 0, .dat 2, .dat 0, .ref 8, .dat 0, .dat 0, .dat 0, .dat 0, .ref 8, .dat 0, .dat 0, .dat 0, .dat 0, .dat 0], T := [(3, ty3), (9, ty9), (35, ty35), (88, ty88)], S := [], H := [(0, ([1, 2, 9, 10, 11], []))], res := [.tmp 6], ios := [] }
noncomputable def F_impl_isTaken : List D → Option Out := denF c_impl_isTaken Try.f107
@[reducible] noncomputable def S_impl_isTaken : FS := { pm := [.dat 2, .dat 0, .dat 0], rm := [.dat 0], f := F_impl_isTaken }
theorem M_impl_isTaken : Meets Try.prog 107 S_impl_isTaken := meets_of (P := Try.prog) (c := c_impl_isTaken) (fn := Try.f107) (pm := S_impl_isTaken.pm) (rm := S_impl_isTaken.rm) (by kernel_rfl) lookNil follows_mixed Try.func107 (by kernel_rfl) (by kernel_rfl) rfl
/-- loop.example/g01054/impl.IsCase -/
@[reducible] noncomputable def c_impl_IsCase : Cx := { K := [.dat 2, .no, .dat 0, .dat 0, .box 4 0 false, .dat 2, .dat 0, .dat 0, .dat 0, .dat 0, .dat 2, .dat 0, .dat 0, .dat 0, .dat 0, .dat 0, .dat 0, .dat 0, .dat 0, .dat 2, .dat 0, .dat 0, .dat 2, .dat 2, .dat 0, .ref 4, .dat 0, .dat 0, .dat 0, .dat 0, .dat 0, .dat 2, .dat 0, .dat 2, .ref 4, .dat 0, .ref 4, .dat 0, .dat 0, .dat 0, .dat 0, .dat 2, .dat 0, .dat 0], T := [(3, ty3), (9, ty9), (35, ty35), (88, ty88)], S := [(68, S_impl_within), (107, S_impl_isTaken), (116, S_impl_IsBox)], H := [(0, ([0, 5, 6, 7], [0]))], res := [.tmp 2], ios := [] }
noncomputable def F_impl_IsCase : List D → Option Out := denF c_impl_IsCase Try.f67
@[reducible] noncomputable def S_impl_IsCase : FS := { pm := [.dat 2], rm := [.dat 0], f := F_impl_IsCase }
theorem M_impl_IsCase : Meets Try.prog 67 S_impl_IsCase := meets_of (P := Try.prog) (c := c_impl_IsCase) (fn := Try.f67) (pm := S_impl_IsCase.pm) (rm := S_impl_IsCase.rm) (by kernel_rfl) (lookCons M_impl_within (lookCons M_impl_isTaken (lookCons M_impl_IsBox lookNil))) follows_mixed Try.func67 (by kernel_rfl) (by kernel_rfl) rfl
/-- loop.example/g01054/impl.areCodes -/
@[reducible] noncomputable def c_impl_areCodes : Cx := { K := [.dat 2, .dat 2, .no, .no, .dat 0, .no, .dat 0, .dat 2, .dat 0, .dat 0, .dat 0, .dat 2, .dat 0, .dat 2, .dat 0, .dat 0, .dat 0, .dat 0, .dat 2, .dat 0, .dat 0, .dat 2, .dat 0, .dat 0, .dat 0], T := [(3, ty3), (9, ty9), (75, ty75)], S := [(67, S_impl_IsCase), (136, S_impl_boxAt)], H := [(0, ([0, 1, 7, 8, 9], [0, 1]))], res := [.tmp 4], ios := [] }
noncomputable def F_impl_areCodes : List D → Option Out := denF c_impl_areCodes Try.f95
@[reducible] noncomputable def S_impl_areCodes : FS := { pm := [.dat 2, .dat 2], rm := [.dat 0], f := F_impl_areCodes }
theorem M_impl_areCodes : Meets Try.prog 95 S_impl_areCodes := meets_of (P := Try.prog) (c := c_impl_areCodes) (fn := Try.f95) (pm := S_impl_areCodes.pm) (rm := S_impl_areCodes.rm) (by kernel_rfl) (lookCons M_impl_IsCase (lookCons M_impl_boxAt lookNil)) follows_mixed Try.func95 (by kernel_rfl) (by kernel_rfl) rfl
/-- loop.example/g01054/impl.isForme -/
@[reducible] noncomputable def c_impl_isForme : Cx := { K := [.dat 2, .dat 2, .no, .box 4 2 false, .dat 0, .ref 3, .dat 0, .dat 0, .dat 0, .dat 2, .ref 3, .dat 2, .dat 0, .dat 0, .dat 0, .ref 3, .dat 2, .dat 0, .dat 0, .dat 0, .dat 0, .ref 3, .dat 0, .dat 0, .dat 0, .dat 0, .ref 3, .dat 0, .dat 0, .dat 0, .ref 3, .dat 2, .dat 0, .dat 0, .dat 0, .dat 0], T := [(3, ty3), (4, ty4), (9, ty9), (75, ty75), (101, ty101)], S := [(68, S_impl_within), (95, S_impl_areCodes), (115, S_impl_isFormeId)], H := [], res := [.tmp 4], ios := [] }
noncomputable def F_impl_isForme : List D → Option Out := denF c_impl_isForme Try.f66
@[reducible] noncomputable def S_impl_isForme : FS := { pm := [.dat 2, .dat 2], rm := [.dat 0], f := F_impl_isForme }
theorem M_impl_isForme : Meets Try.prog 66 S_impl_isForme := meets_of (P := Try.prog) (c := c_impl_isForme) (fn := Try.f66) (pm := S_impl_isForme.pm) (rm := S_impl_isForme.rm) (by kernel_rfl) (lookCons M_impl_within (lookCons M_impl_areCodes (lookCons M_impl_isFormeId lookNil))) follows_mixed Try.func66 (by kernel_rfl) (by kernel_rfl) rfl
/-- loop.example/g01054/impl.IsShop -/
@[reducible] noncomputable def c_impl_IsShop : Cx := { K := [.dat 2, .box 4 2 false, .dat 0, .dat 0, .dat 0, .box 4 2 false, .ref 1, .dat 2, .dat 0, .dat 0, .dat 0, .dat 0, .dat 2, .dat 2, .ref 1, .dat 2, .dat 2, .dat 0, .dat 0, .dat 0, .dat 0, .dat 0, .dat 0, .ref 1, .dat 2, .dat 0, .dat 0, .dat 2, .dat 2, .dat 0, .ref 5, .dat 0, .dat 0, .dat 0, .dat 0, .dat 0, .ref 5, .dat 0, .dat 0, .dat 0, .ref 1, .dat 2, .dat 0, .dat 0, .ref 1, .dat 2, .dat 0, .dat 0, .dat 0, .dat 0, .ref 1, .dat 0, .dat 0, .dat 0, .dat 0, .ref 1, .dat 0, .dat 0, .dat 0, .dat 0, .ref 1, .dat 0, .dat 0, .dat 0, .dat 0], T := [(3, ty3), (4, ty4), (35, ty35), (36, ty36), (38, ty38), (75, ty75), (88, ty88), (101, ty101)], S := [(66, S_impl_isForme), (67, S_impl_IsCase), (68, S_impl_within)], H := [(0, ([1, 3, 7, 8, 9], [1, 3]))], res := [.tmp 2], ios := [] }
noncomputable def F_impl_IsShop : List D → Option Out := denF c_impl_IsShop Try.f21
@[reducible] noncomputable def S_impl_IsShop : FS := { pm := [.dat 2], rm := [.dat 0], f := F_impl_IsShop }
theorem M_impl_IsShop : Meets Try.prog 21 S_impl_IsShop := meets_of (P := Try.prog) (c := c_impl_IsShop) (fn := Try.f21) (pm := S_impl_IsShop.pm) (rm := S_impl_IsShop.rm) (by kernel_rfl) (lookCons M_impl_isForme (lookCons M_impl_IsCase (lookCons M_impl_within lookNil))) follows_mixed Try.func21 (by kernel_rfl) (by kernel_rfl) rfl
/-- loop.example/g01054/laws.eqBox -/
@[reducible] noncomputable def c_laws_eqBox : Cx := { K := [.dat 0, .dat 0, .box 4 0 false, .box 4 0 false, .dat 0, .ref 2, .dat 0, .ref 3, .dat 0, .dat 0, .ref 2, .dat 0, .ref 3, .dat 0, .dat 0, .ref 2, .dat 0, .ref 3, .dat 0, .dat 0, .ref 2, .dat 0, .ref 3, .dat 0, .dat 0], T := [(3, ty3), (9, ty9), (88, ty88)], S := [], H := [], res := [.tmp 4], ios := [] }
noncomputable def F_laws_eqBox : List D → Option Out := denF c_laws_eqBox Try.f117
@[reducible] noncomputable def S_laws_eqBox : FS := { pm := [.dat 0, .dat 0], rm := [.dat 0], f := F_laws_eqBox }
theorem M_laws_eqBox : Meets Try.prog 117 S_laws_eqBox := meets_of (P := Try.prog) (c := c_laws_eqBox) (fn := Try.f117) (pm := S_laws_eqBox.pm) (rm := S_laws_eqBox.rm) (by kernel_rfl) lookNil follows_mixed Try.func117 (by kernel_rfl) (by kernel_rfl) rfl
/-- loop.example/g01054/laws.eqBoxS -/
@[reducible] noncomputable def c_laws_eqBoxS : Cx := { K := [.dat 2, .dat 2, .no, .no, .dat 0, .dat 0, .dat 2, .dat 0, .dat 2, .dat 0, .dat 0, .dat 0, .dat 2, .dat 0, .dat 0, .dat 0, .dat 0, .dat 2, .dat 0, .dat 2, .dat 0, .dat 2, .dat 0, .dat 2, .dat 0, .dat 0, .dat 0], T := [(3, ty3), (9, ty9), (35, ty35), (88, ty88)], S := [(117, S_laws_eqBox)], H := [(0, ([0, 1, 5], []))], res := [.tmp 4], ios := [] }
noncomputable def F_laws_eqBoxS : List D → Option Out := denF c_laws_eqBoxS Try.f69
@[reducible] noncomputable def S_laws_eqBoxS : FS := { pm := [.dat 2, .dat 2], rm := [.dat 0], f := F_laws_eqBoxS }
theorem M_laws_eqBoxS : Meets Try.prog 69 S_laws_eqBoxS := meets_of (P := Try.prog) (c := c_laws_eqBoxS) (fn := Try.f69) (pm := S_laws_eqBoxS.pm) (rm := S_laws_eqBoxS.rm) (by kernel_rfl) (lookCons M_laws_eqBox lookNil) follows_mixed Try.func69 (by kernel_rfl) (by kernel_rfl) rfl
/-- loop.example/g01054/laws.eqStringS -/
@[reducible] noncomputable def c_laws_eqStringS : Cx := { K := [.dat 2, .dat 2, .no, .no, .dat 0, .dat 0, .dat 2, .dat 0, .dat 2, .dat 0, .dat 0, .dat 0, .dat 2, .dat 0, .dat 0, .dat 0, .dat 0, .dat 2, .dat 0, .dat 2, .dat 0, .dat 2, .dat 0, .dat 2, .dat 0, .dat 0], T := [(3, ty3), (9, ty9), (75, ty75)], S := [], H := [(0, ([0, 1, 5], []))], res := [.tmp 4], ios := [] }
noncomputable def F_laws_eqStringS : List D → Option Out := denF c_laws_eqStringS Try.f146
@[reducible] noncomputable def S_laws_eqStringS : FS := { pm := [.dat 2, .dat 2], rm := [.dat 0], f := F_laws_eqStringS }
theorem M_laws_eqStringS : Meets Try.prog 146 S_laws_eqStringS := meets_of (P := Try.prog) (c := c_laws_eqStringS) (fn := Try.f146) (pm := S_laws_eqStringS.pm) (rm := S_laws_eqStringS.rm) (by kernel_rfl) lookNil follows_mixed Try.func146 (by kernel_rfl) (by kernel_rfl) rfl
/-- loop.example/g01054/laws.eqForme -/
@[reducible] noncomputable def c_laws_eqForme : Cx := { K := [.dat 2, .dat 2, .box 4 2 false, .box 4 2 false, .dat 0, .ref 2, .dat 0, .ref 3, .dat 0, .dat 0, .ref 2, .dat 2, .ref 3, .dat 2, .dat 0, .dat 0, .ref 2, .dat 0, .ref 3, .dat 0, .dat 0, .ref 2, .dat 0, .ref 3, .dat 0, .dat 0], T := [(3, ty3), (4, ty4), (9, ty9), (75, ty75), (101, ty101)], S := [(146, S_laws_eqStringS)], H := [], res := [.tmp 4], ios := [] }
noncomputable def F_laws_eqForme : List D → Option Out := denF c_laws_eqForme Try.f118
@[reducible] noncomputable def S_laws_eqForme : FS := { pm := [.dat 2, .dat 2], rm := [.dat 0], f := F_laws_eqForme }
theorem M_laws_eqForme : Meets Try.prog 118 S_laws_eqForme := meets_of (P := Try.prog) (c := c_laws_eqForme) (fn := Try.f118) (pm := S_laws_eqForme.pm) (rm := S_laws_eqForme.rm) (by kernel_rfl) (lookCons M_laws_eqStringS lookNil) follows_mixed Try.func118 (by kernel_rfl) (by kernel_rfl) rfl
/-- loop.example/g01054/laws.eqFormeS -/
@[reducible] noncomputable def c_laws_eqFormeS : Cx := { K := [.dat 2, .dat 2, .no, .no, .dat 0, .dat 0, .dat 2, .dat 0, .dat 2, .dat 0, .dat 0, .dat 0, .dat 2, .dat 0, .dat 0, .dat 0, .dat 0, .dat 2, .dat 0, .dat 2, .dat 2, .dat 2, .dat 0, .dat 2, .dat 2, .dat 0, .dat 0], T := [(3, ty3), (4, ty4), (36, ty36), (75, ty75), (101, ty101)], S := [(118, S_laws_eqForme)], H := [(0, ([0, 1, 5], []))], res := [.tmp 4], ios := [] }
noncomputable def F_laws_eqFormeS : List D → Option Out := denF c_laws_eqFormeS Try.f70
@[reducible] noncomputable def S_laws_eqFormeS : FS := { pm := [.dat 2, .dat 2], rm := [.dat 0], f := F_laws_eqFormeS }
theorem M_laws_eqFormeS : Meets Try.prog 70 S_laws_eqFormeS := meets_of (P := Try.prog) (c := c_laws_eqFormeS) (fn := Try.f70) (pm := S_laws_eqFormeS.pm) (rm := S_laws_eqFormeS.rm) (by kernel_rfl) (lookCons M_laws_eqForme lookNil) follows_mixed Try.func70 (by kernel_rfl) (by kernel_rfl) rfl
/-- loop.example/g01054/laws.eqShop -/
@[reducible] noncomputable def c_laws_eqShop : Cx := { K := [.dat 2, .dat 2, .box 4 2 false, .box 4 2 false, .dat 0, .ref 2, .dat 2, .ref 3, .dat 2, .dat 0, .dat 0, .ref 2, .dat 2, .ref 3, .dat 2, .dat 0, .dat 0, .ref 2, .dat 0, .ref 3, .dat 0, .dat 0, .ref 2, .dat 0, .ref 3, .dat 0, .dat 0], T := [(3, ty3), (35, ty35), (36, ty36), (38, ty38), (88, ty88), (101, ty101)], S := [(69, S_laws_eqBoxS), (70, S_laws_eqFormeS)], H := [], res := [.tmp 4], ios := [] }
noncomputable def F_laws_eqShop : List D → Option Out := denF c_laws_eqShop Try.f22
@[reducible] noncomputable def S_laws_eqShop : FS := { pm := [.dat 2, .dat 2], rm := [.dat 0], f := F_laws_eqShop }
theorem M_laws_eqShop : Meets Try.prog 22 S_laws_eqShop := meets_of (P := Try.prog) (c := c_laws_eqShop) (fn := Try.f22) (pm := S_laws_eqShop.pm) (rm := S_laws_eqShop.rm) (by kernel_rfl) (lookCons M_laws_eqBoxS (lookCons M_laws_eqFormeS lookNil)) follows_mixed Try.func22 (by kernel_rfl) (by kernel_rfl) rfl
/-- loop.example/g01054/laws.FnExactIsShop -/
@[reducible] noncomputable def c_laws_FnExactIsShop : Cx := { K := [.dat 2, .box 4 2 false, .dat 0, .dat 0, .dat 0, .box 4 1 false, .dat 0, .dat 2, .dat 0, .dat 0, .dat 0, .dat 0, .dat 2, .dat 1, .dat 0, .dat 2, .dat 1, .dat 1, .dat 0, .dat 0, .dat 0, .dat 0, .dat 1, .dat 2, .dat 1, .dat 0, .dat 0], T := [(3, ty3), (4, ty4), (29, ty29), (30, ty30), (32, ty32), (35, ty35), (36, ty36), (38, ty38)], S := [(18, S_laws_szShop), (19, S_spec_IsShop), (20, S_laws_toShop), (21, S_impl_IsShop), (22, S_laws_eqShop)], H := [], res := [.tmp 2], ios := [] }
noncomputable def F_laws_FnExactIsShop : List D → Option Out := denF c_laws_FnExactIsShop Try.f4
@[reducible] noncomputable def S_laws_FnExactIsShop : FS := { pm := [.dat 2], rm := [.dat 0], f := F_laws_FnExactIsShop }
theorem M_laws_FnExactIsShop : Meets Try.prog 4 S_laws_FnExactIsShop := meets_of (P := Try.prog) (c := c_laws_FnExactIsShop) (fn := Try.f4) (pm := S_laws_FnExactIsShop.pm) (rm := S_laws_FnExactIsShop.rm) (by kernel_rfl) (lookCons M_laws_szShop (lookCons M_spec_IsShop (lookCons M_laws_toShop (lookCons M_impl_IsShop (lookCons M_laws_eqShop lookNil))))) follows_mixed Try.func4 (by kernel_rfl) (by kernel_rfl) rfl
/-- loop.example/g01054/spec.caSum -/
@[reducible] noncomputable def c_spec_caSum : Cx := { K := [.dat 2, .no, .dat 0, .dat 0, .no, .box 4 0 false, .dat 2, .dat 0, .dat 0, .dat 0, .dat 2, .dat 0, .dat 0, .ref 5, .dat 0, .dat 0, .dat 0, .dat 0], T := [(3, ty3), (9, ty9), (35, ty35), (88, ty88)], S := [], H := [(0, ([3, 6, 7, 8], [3]))], res := [.tmp 2], ios := [] }
noncomputable def F_spec_caSum : List D → Option Out := denF c_spec_caSum Try.f71
@[reducible] noncomputable def S_spec_caSum : FS := { pm := [.dat 2], rm := [.dat 0], f := F_spec_caSum }
theorem M_spec_caSum : Meets Try.prog 71 S_spec_caSum := meets_of (P := Try.prog) (c := c_spec_caSum) (fn := Try.f71) (pm := S_spec_caSum.pm) (rm := S_spec_caSum.rm) (by kernel_rfl) lookNil follows_mixed Try.func71 (by kernel_rfl) (by kernel_rfl) rfl
/-- loop.example/g01054/spec.TypesInShop -/
@[reducible] noncomputable def c_spec_TypesInShop : Cx := { K := [.dat 2, .box 4 2 false, .dat 0, .dat 0, .dat 0, .no, .box 4 2 false, .dat 2, .dat 0, .dat 0, .ref 1, .dat 2, .dat 0, .ref 1, .dat 0, .dat 0, .ref 1, .dat 2, .dat 0, .dat 0, .dat 0, .dat 2, .dat 2, .dat 0, .ref 6, .dat 2, .dat 0, .dat 0, .dat 0, .dat 0], T := [(3, ty3), (4, ty4), (9, ty9), (35, ty35), (36, ty36), (38, ty38), (75, ty75), (88, ty88), (101, ty101)], S := [(63, S_spec_shGood), (71, S_spec_caSum)], H := [(0, ([4, 17, 18, 19], [4]))], res := [.tmp 2, .tmp 3], ios := [] }
noncomputable def F_spec_TypesInShop : List D → Option Out := denF c_spec_TypesInShop Try.f23
@[reducible] noncomputable def S_spec_TypesInShop : FS := { pm := [.dat 2], rm := [.dat 0, .dat 0], f := F_spec_TypesInShop }
theorem M_spec_TypesInShop : Meets Try.prog 23 S_spec_TypesInShop := meets_of (P := Try.prog) (c := c_spec_TypesInShop) (fn := Try.f23) (pm := S_spec_TypesInShop.pm) (rm := S_spec_TypesInShop.rm) (by kernel_rfl) (lookCons M_spec_shGood (lookCons M_spec_caSum lookNil)) follows_mixed Try.func23 (by kernel_rfl) (by kernel_rfl) rfl
/-- loop.example/g01054/impl.TypesIn -/
@[reducible] noncomputable def c_impl_TypesIn : Cx := { K := [.dat 2, .no, .dat 0, .dat 0, .dat 0, .no, .box 4 0 false, .dat 2, .dat 0, .dat 0, .dat 2, .dat 0, .dat 0, .dat 0, .dat 2, .dat 0, .dat 0, .ref 6, .dat 0, .dat 0, .dat 0, .dat 0], T := [(3, ty3), (9, ty9), (35, ty35), (88, ty88)], S := [(67, S_impl_IsCase)], H := [(0, ([4, 10, 11, 12], [4]))], res := [.tmp 2, .tmp 3], ios := [] }
noncomputable def F_impl_TypesIn : List D → Option Out := denF c_impl_TypesIn Try.f72
@[reducible] noncomputable def S_impl_TypesIn : FS := { pm := [.dat 2], rm := [.dat 0, .dat 0], f := F_impl_TypesIn }
theorem M_impl_TypesIn : Meets Try.prog 72 S_impl_TypesIn := meets_of (P := Try.prog) (c := c_impl_TypesIn) (fn := Try.f72) (pm := S_impl_TypesIn.pm) (rm := S_impl_TypesIn.rm) (by kernel_rfl) (lookCons M_impl_IsCase lookNil) follows_mixed Try.func72 (by kernel_rfl) (by kernel_rfl) rfl
/-- loop.example/g01054/impl.TypesInShop -/
@[reducible] noncomputable def c_impl_TypesInShop : Cx := { K := [.dat 2, .box 4 2 false, .dat 0, .dat 0, .dat 0, .dat 0, .no, .box 4 2 false, .dat 2, .dat 0, .dat 0, .tup [.dat 0, .dat 0], .ref 1, .dat 2, .tup [.dat 0, .dat 0], .dat 0, .dat 0, .ref 1, .dat 2, .dat 0, .dat 0, .dat 0, .dat 2, .dat 2, .dat 0, .ref 7, .dat 2, .dat 0, .dat 0, .dat 0, .dat 0, .ref 1, .dat 0, .dat 0], T := [(3, ty3), (4, ty4), (9, ty9), (35, ty35), (36, ty36), (38, ty38), (75, ty75), (88, ty88), (101, ty101)], S := [(21, S_impl_IsShop), (72, S_impl_TypesIn)], H := [(0, ([1, 4, 18, 19, 20], [1, 4]))], res := [.tmp 2, .tmp 3], ios := [] }
noncomputable def F_impl_TypesInShop : List D → Option Out := denF c_impl_TypesInShop Try.f24
@[reducible] noncomputable def S_impl_TypesInShop : FS := { pm := [.dat 2], rm := [.dat 0, .dat 0], f := F_impl_TypesInShop }
theorem M_impl_TypesInShop : Meets Try.prog 24 S_impl_TypesInShop := meets_of (P := Try.prog) (c := c_impl_TypesInShop) (fn := Try.f24) (pm := S_impl_TypesInShop.pm) (rm := S_impl_TypesInShop.rm) (by kernel_rfl) (lookCons M_impl_IsShop (lookCons M_impl_TypesIn lookNil)) follows_mixed Try.func24 (by kernel_rfl) (by kernel_rfl) rfl
/-- loop.example/g01054/laws.FnExactTypesInShop -/
@[reducible] noncomputable def c_laws_FnExactTypesInShop : Cx := { K := [.dat 2, .box 4 2 false, .dat 0, .dat 0, .dat 0, .dat 0, .box 4 1 false, .dat 0, .dat 0, .dat 2, .dat 0, .dat 0, .dat 0, .dat 0, .tup [.dat 0, .dat 0], .dat 2, .dat 1, .tup [.dat 0, .dat 0], .dat 0, .dat 0, .dat 2, .dat 1, .tup [.dat 0, .dat 0], .dat 1, .tup [.dat 0, .dat 0], .dat 0, .dat 0, .dat 0, .dat 0, .dat 0, .dat 0, .dat 0, .dat 0, .dat 0, .dat 0, .dat 1, .dat 2, .dat 1, .dat 0, .dat 0], T := [(3, ty3), (4, ty4), (29, ty29), (30, ty30), (32, ty32), (35, ty35), (36, ty36), (38, ty38)], S := [(18, S_laws_szShop), (20, S_laws_toShop), (22, S_laws_eqShop), (23, S_spec_TypesInShop), (24, S_impl_TypesInShop)], H := [], res := [.tmp 2], ios := [] }
noncomputable def F_laws_FnExactTypesInShop : List D → Option Out := denF c_laws_FnExactTypesInShop Try.f5
@[reducible] noncomputable def S_laws_FnExactTypesInShop : FS := { pm := [.dat 2], rm := [.dat 0], f := F_laws_FnExactTypesInShop }
theorem M_laws_FnExactTypesInShop : Meets Try.prog 5 S_laws_FnExactTypesInShop := meets_of (P := Try.prog) (c := c_laws_FnExactTypesInShop) (fn := Try.f5) (pm := S_laws_FnExactTypesInShop.pm) (rm := S_laws_FnExactTypesInShop.rm) (by kernel_rfl) (lookCons M_laws_szShop (lookCons M_laws_toShop (lookCons M_laws_eqShop (lookCons M_spec_TypesInShop (lookCons M_impl_TypesInShop lookNil))))) follows_mixed Try.func5 (by kernel_rfl) (by kernel_rfl) rfl
/-- loop.example/g01054/spec.tyWord -/
@[reducible] noncomputable def c_spec_tyWord : Cx := { K := [.dat 0, .no, .dat 0, .dat 0, .dat 0], T := [], S := [(123, S_spec_tyLetters)], H := [], res := [.tmp 2], ios := [] }
noncomputable def F_spec_tyWord : List D → Option Out := denF c_spec_tyWord Try.f78
@[reducible] noncomputable def S_spec_tyWord : FS := { pm := [.dat 0], rm := [.dat 0], f := F_spec_tyWord }
theorem M_spec_tyWord : Meets Try.prog 78 S_spec_tyWord := meets_of (P := Try.prog) (c := c_spec_tyWord) (fn := Try.f78) (pm := S_spec_tyWord.pm) (rm := S_spec_tyWord.rm) (by kernel_rfl) (lookCons M_spec_tyLetters lookNil) follows_mixed Try.func78 (by kernel_rfl) (by kernel_rfl) rfl
/-- loop.example/g01054/spec.l1Least -/
@[reducible] noncomputable def c_spec_l1Least : Cx := { K := [.dat 0, .dat 0, .no, .no, .dat 0, .dat 0, .dat 0, .dat 0, .dat 0, .dat 0], T := [(3, ty3)], S := [], H := [], res := [.tmp 4], ios := [] }
noncomputable def F_spec_l1Least : List D → Option Out := denF c_spec_l1Least Try.f149
@[reducible] noncomputable def S_spec_l1Least : FS := { pm := [.dat 0, .dat 0], rm := [.dat 0], f := F_spec_l1Least }
theorem M_spec_l1Least : Meets Try.prog 149 S_spec_l1Least := meets_of (P := Try.prog) (c := c_spec_l1Least) (fn := Try.f149) (pm := S_spec_l1Least.pm) (rm := S_spec_l1Least.rm) (by kernel_rfl) lookNil follows_mixed Try.func149 (by kernel_rfl) (by kernel_rfl) rfl
/-- loop.example/g01054/spec.tyFind -/
@[reducible] noncomputable def c_spec_tyFind : Cx := { K := [.dat 2, .dat 0, .no, .no, .dat 0, .dat 0, .box 2 0 false, .dat 2, .dat 0, .dat 0, .dat 0, .dat 0, .dat 2, .dat 0, .ref 6, .dat 0, .dat 0, .dat 0, .dat 0, .dat 0], T := [(3, ty3), (9, ty9), (154, ty154), (156, ty156)], S := [], H := [(0, ([1, 7, 8, 9], []))], res := [.tmp 4], ios := [] }
noncomputable def F_spec_tyFind : List D → Option Out := denF c_spec_tyFind Try.f150
@[reducible] noncomputable def S_spec_tyFind : FS := { pm := [.dat 2, .dat 0], rm := [.dat 0], f := F_spec_tyFind }
theorem M_spec_tyFind : Meets Try.prog 150 S_spec_tyFind := meets_of (P := Try.prog) (c := c_spec_tyFind) (fn := Try.f150) (pm := S_spec_tyFind.pm) (rm := S_spec_tyFind.rm) (by kernel_rfl) lookNil follows_mixed Try.func150 (by kernel_rfl) (by kernel_rfl) rfl
/-- loop.example/g01054/spec.tySet -/
@[reducible] noncomputable def c_spec_tySet : Cx := { K := [.dat 2, .dat 0, .no, .no, .own 1 0 false, .dat 0, .own 1 0 false, .dat 0, .dat 0, .dat 0, .dat 0, .dat 0, .dat 0, .dat 0, .dat 0, .dat 0, .dat 0, .dat 0, .dat 0, .dat 0, .dat 0, .dat 0, .dat 0, .dat 0, .dat 0, .dat 0, .dat 0, .dat 2, .dat 0, .dat 0, .dat 0, .dat 0, .dat 0, .dat 0, .dat 0, .dat 0, .dat 0, .own 1 0 false, .dat 0, .dat 1, .own 1 0 false, .dat 0, .dat 2, .dat 0, .dat 2, .dat 2, .dat 0, .dat 0, .dat 0, .own 1 0 false], T := [(3, ty3), (9, ty9), (44, ty44), (154, ty154), (156, ty156)], S := [(149, S_spec_l1Least), (150, S_spec_tyFind)], H := [(0, ([0, 1, 6, 7], [6])), (2, ([0, 1, 6, 7, 8, 9], [0, 1, 6, 7, 8]))], res := [.tmp 4, .tmp 5], ios := [] }
noncomputable def F_spec_tySet : List D → Option Out := denF c_spec_tySet Try.f124
@[reducible] noncomputable def S_spec_tySet : FS := { pm := [.dat 2, .dat 0], rm := [.own 1 0 false, .dat 0], f := F_spec_tySet }
theorem M_spec_tySet : Meets Try.prog 124 S_spec_tySet := meets_of (P := Try.prog) (c := c_spec_tySet) (fn := Try.f124) (pm := S_spec_tySet.pm) (rm := S_spec_tySet.rm) (by kernel_rfl) (lookCons M_spec_l1Least (lookCons M_spec_tyFind lookNil)) follows_mixed Try.func124 (by kernel_rfl) (by kernel_rfl) rfl
/-- loop.example/g01054/spec.shCodes -/
@[reducible] noncomputable def c_spec_shCodes : Cx := { K := [.dat 2, .dat 0, .no, .no, .own 1 0 false, .dat 0, .own 2 0 false, .no, .box 4 0 false, .dat 1, .dat 0, .own 1 0 false, .no, .dat 0, .dat 2, .dat 0, .dat 0, .dat 0, .dat 2, .dat 0, .own 2 0 false, .ref 8, .dat 0, .dat 0, .dat 1, .own 2 0 false, .dat 0, .tup [.own 1 0 false, .dat 0], .via 6, .dat 0, .tup [.own 1 0 false, .dat 0], .dat 1, .dat 0, .dat 0, .dat 0, .dat 1, .dat 0, .dat 0, .dat 0, .dat 1, .dat 0, .own 1 0 false, .via 6, .dat 0, .ref 6, .ref 6, .dat 0, .dat 1, .own 1 0 false, .dat 0, .own 1 0 false], T := [(3, ty3), (9, ty9), (35, ty35), (44, ty44), (75, ty75), (88, ty88), (154, ty154), (156, ty156)], S := [(124, S_spec_tySet)], H := [(0, ([1, 6, 14, 15, 16], [1, 6])), (2, ([6, 11, 35, 36, 37], [11]))], res := [.tmp 4, .tmp 5], ios := [] }
noncomputable def F_spec_shCodes : List D → Option Out := denF c_spec_shCodes Try.f79
@[reducible] noncomputable def S_spec_shCodes : FS := { pm := [.dat 2, .dat 0], rm := [.own 1 0 false, .dat 0], f := F_spec_shCodes }
theorem M_spec_shCodes : Meets Try.prog 79 S_spec_shCodes := meets_of (P := Try.prog) (c := c_spec_shCodes) (fn := Try.f79) (pm := S_spec_shCodes.pm) (rm := S_spec_shCodes.rm) (by kernel_rfl) (lookCons M_spec_tySet lookNil) follows_mixed Try.func79 (by kernel_rfl) (by kernel_rfl) rfl
/-- loop.example/g01054/spec.caMove -/
@[reducible] noncomputable def c_spec_caMove : Cx := { K := [.dat 2, .dat 2, .dat 0, .no, .no, .no, .own 4 0 false, .dat 0, .own 4 0 false, .no, .dat 0, .own 4 0 false, .dat 2, .own 4 0 false, .dat 2, .dat 0, .dat 0, .dat 0, .dat 2, .dat 0, .via 8, .via 8, .dat 0, .dat 0, .ref 8, .ref 8, .dat 0, .dat 0, .dat 0, .ref 8, .ref 8, .dat 0, .via 8, .dat 0, .dat 0, .own 4 0 false], T := [(3, ty3), (9, ty9), (35, ty35), (75, ty75), (88, ty88)], S := [(101, S_spec_caGood), (125, S_spec_caFind)], H := [(0, ([2, 8, 14, 15, 16], [8]))], res := [.tmp 6, .tmp 7], ios := [] }
noncomputable def F_spec_caMove : List D → Option Out := denF c_spec_caMove Try.f80
@[reducible] noncomputable def S_spec_caMove : FS := { pm := [.dat 2, .dat 2, .dat 0], rm := [.own 4 0 false, .dat 0], f := F_spec_caMove }
theorem M_spec_caMove : Meets Try.prog 80 S_spec_caMove := meets_of (P := Try.prog) (c := c_spec_caMove) (fn := Try.f80) (pm := S_spec_caMove.pm) (rm := S_spec_caMove.rm) (by kernel_rfl) (lookCons M_spec_caGood (lookCons M_spec_caFind lookNil)) follows_mixed Try.func80 (by kernel_rfl) (by kernel_rfl) rfl
/-- loop.example/g01054/spec.MayBeSet -/
@[reducible] noncomputable def c_spec_MayBeSet : Cx := { K := [.dat 2, .dat 0, .box 4 2 false, .no, .dat 0, .dat 0, .dat 1, .dat 0, .dat 1, .dat 0, .dat 2, .dat 0, .dat 0, .dat 0, .dat 0, .dat 0, .dat 0, .dat 0, .tup [.own 1 0 false, .dat 0], .ref 2, .dat 2, .dat 0, .tup [.own 1 0 false, .dat 0], .dat 1, .dat 0, .dat 0, .dat 0, .tup [.own 4 0 false, .dat 0], .ref 2, .dat 2, .dat 1, .tup [.own 4 0 false, .dat 0], .dat 1, .dat 0, .dat 0], T := [(3, ty3), (35, ty35), (36, ty36), (38, ty38), (88, ty88)], S := [(63, S_spec_shGood), (78, S_spec_tyWord), (79, S_spec_shCodes), (80, S_spec_caMove)], H := [], res := [.tmp 4, .tmp 5], ios := [] }
noncomputable def F_spec_MayBeSet : List D → Option Out := denF c_spec_MayBeSet Try.f33
@[reducible] noncomputable def S_spec_MayBeSet : FS := { pm := [.dat 2, .dat 0], rm := [.dat 0, .dat 0], f := F_spec_MayBeSet }
theorem M_spec_MayBeSet : Meets Try.prog 33 S_spec_MayBeSet := meets_of (P := Try.prog) (c := c_spec_MayBeSet) (fn := Try.f33) (pm := S_spec_MayBeSet.pm) (rm := S_spec_MayBeSet.rm) (by kernel_rfl) (lookCons M_spec_shGood (lookCons M_spec_tyWord (lookCons M_spec_shCodes (lookCons M_spec_caMove lookNil)))) follows_mixed Try.func33 (by kernel_rfl) (by kernel_rfl) rfl
/-- loop.example/g01054/impl.isWord -/
@[reducible] noncomputable def c_impl_isWord : Cx := { K := [.dat 0, .no, .dat 0, .dat 0, .dat 0], T := [], S := [(126, S_impl_areLetters)], H := [], res := [.tmp 2], ios := [] }
noncomputable def F_impl_isWord : List D → Option Out := denF c_impl_isWord Try.f81
@[reducible] noncomputable def S_impl_isWord : FS := { pm := [.dat 0], rm := [.dat 0], f := F_impl_isWord }
theorem M_impl_isWord : Meets Try.prog 81 S_impl_isWord := meets_of (P := Try.prog) (c := c_impl_isWord) (fn := Try.f81) (pm := S_impl_isWord.pm) (rm := S_impl_isWord.rm) (by kernel_rfl) (lookCons M_impl_areLetters lookNil) follows_mixed Try.func81 (by kernel_rfl) (by kernel_rfl) rfl
/-- internal/stringslite.HasPrefix -/
@[reducible] noncomputable def c_internal_stringslite_HasPrefix : Cx := { K := [.dat 0, .dat 0, .no, .no, .dat 0, .dat 0, .dat 0, .dat 0, .dat 0, .dat 0, .dat 0, .dat 0, .dat 0, .dat 0, .dat 0, .dat 0, .dat 0, .dat 0], T := [(3, ty3), (9, ty9)], S := [], H := [], res := [.tmp 4], ios := [] }
noncomputable def F_internal_stringslite_HasPrefix : List D → Option Out := denF c_internal_stringslite_HasPrefix Try.f157
@[reducible] noncomputable def S_internal_stringslite_HasPrefix : FS := { pm := [.dat 0, .dat 0], rm := [.dat 0], f := F_internal_stringslite_HasPrefix }
theorem M_internal_stringslite_HasPrefix : Meets Try.prog 157 S_internal_stringslite_HasPrefix := meets_of (P := Try.prog) (c := c_internal_stringslite_HasPrefix) (fn := Try.f157) (pm := S_internal_stringslite_HasPrefix.pm) (rm := S_internal_stringslite_HasPrefix.rm) (by kernel_rfl) lookNil follows_mixed Try.func157 (by kernel_rfl) (by kernel_rfl) rfl
/-- strings.HasPrefix -/
@[reducible] noncomputable def c_strings_HasPrefix : Cx := { K := [.dat 0, .dat 0, .no, .no, .dat 0, .dat 0, .dat 0, .dat 0], T := [], S := [(157, S_internal_stringslite_HasPrefix)], H := [], res := [.tmp 4], ios := [] }
noncomputable def F_strings_HasPrefix : List D → Option Out := denF c_strings_HasPrefix Try.f151
@[reducible] noncomputable def S_strings_HasPrefix : FS := { pm := [.dat 0, .dat 0], rm := [.dat 0], f := F_strings_HasPrefix }
theorem M_strings_HasPrefix : Meets Try.prog 151 S_strings_HasPrefix := meets_of (P := Try.prog) (c := c_strings_HasPrefix) (fn := Try.f151) (pm := S_strings_HasPrefix.pm) (rm := S_strings_HasPrefix.rm) (by kernel_rfl) (lookCons M_internal_stringslite_HasPrefix lookNil) follows_mixed Try.func151 (by kernel_rfl) (by kernel_rfl) rfl
/-- loop.example/g01054/impl.sortsOf -/
@[reducible] noncomputable def c_impl_sortsOf : Cx := { K := [.dat 2, .dat 0, .no, .no, .own 1 0 false, .dat 0, .own 1 0 false, .dat 0, .dat 0, .box 2 0 false, .own 1 0 false, .dat 0, .dat 0, .dat 0, .dat 2, .dat 0, .dat 0, .dat 0, .dat 0, .dat 2, .dat 0, .dat 0, .ref 9, .dat 0, .dat 0, .dat 0, .dat 0, .dat 0, .dat 0, .ref 9, .dat 0, .dat 0, .dat 2, .dat 0, .dat 2, .dat 2, .dat 0, .dat 0, .dat 0, .dat 0, .dat 0, .dat 0, .dat 0, .dat 0, .dat 0, .own 1 0 false, .own 1 0 false, .dat 0, .dat 1, .own 1 0 false, .dat 0, .dat 2, .dat 0, .dat 2, .dat 2, .dat 0, .dat 0, .dat 0, .own 1 0 false], T := [(3, ty3), (9, ty9), (44, ty44), (154, ty154), (156, ty156)], S := [(151, S_strings_HasPrefix)], H := [(0, ([0, 1, 6], [6])), (2, ([0, 1, 6, 7, 14, 15, 16], [0, 1, 6, 7]))], res := [.tmp 4, .tmp 5], ios := [] }
noncomputable def F_impl_sortsOf : List D → Option Out := denF c_impl_sortsOf Try.f127
@[reducible] noncomputable def S_impl_sortsOf : FS := { pm := [.dat 2, .dat 0], rm := [.own 1 0 false, .dat 0], f := F_impl_sortsOf }
theorem M_impl_sortsOf : Meets Try.prog 127 S_impl_sortsOf := meets_of (P := Try.prog) (c := c_impl_sortsOf) (fn := Try.f127) (pm := S_impl_sortsOf.pm) (rm := S_impl_sortsOf.rm) (by kernel_rfl) (lookCons M_strings_HasPrefix lookNil) follows_mixed Try.func127 (by kernel_rfl) (by kernel_rfl) rfl
/-- loop.example/g01054/impl.codesOf -/
@[reducible] noncomputable def c_impl_codesOf : Cx := { K := [.dat 2, .dat 0, .no, .no, .own 1 0 false, .dat 0, .own 2 0 false, .no, .box 4 0 false, .dat 1, .dat 0, .own 1 0 false, .no, .dat 0, .own 2 0 false, .dat 2, .dat 0, .dat 0, .dat 0, .dat 2, .dat 0, .own 2 0 false, .ref 8, .dat 0, .dat 0, .dat 1, .own 2 0 false, .dat 0, .tup [.own 1 0 false, .dat 0], .via 6, .dat 0, .tup [.own 1 0 false, .dat 0], .dat 1, .dat 0, .own 1 0 false, .dat 1, .dat 0, .dat 0, .dat 0, .dat 1, .dat 0, .own 1 0 false, .via 6, .dat 0, .ref 6, .ref 6, .dat 0, .dat 1, .own 1 0 false, .dat 0, .own 1 0 false, .dat 0], T := [(3, ty3), (9, ty9), (35, ty35), (44, ty44), (75, ty75), (88, ty88), (154, ty154), (156, ty156)], S := [(127, S_impl_sortsOf)], H := [(0, ([1, 6, 15, 16, 17], [1, 6])), (2, ([6, 10, 11, 35, 36, 37], [10, 11]))], res := [.tmp 4, .tmp 5], ios := [] }
noncomputable def F_impl_codesOf : List D → Option Out := denF c_impl_codesOf Try.f82
@[reducible] noncomputable def S_impl_codesOf : FS := { pm := [.dat 2, .dat 0], rm := [.own 1 0 false, .dat 0], f := F_impl_codesOf }
theorem M_impl_codesOf : Meets Try.prog 82 S_impl_codesOf := meets_of (P := Try.prog) (c := c_impl_codesOf) (fn := Try.f82) (pm := S_impl_codesOf.pm) (rm := S_impl_codesOf.rm) (by kernel_rfl) (lookCons M_impl_sortsOf lookNil) follows_mixed Try.func82 (by kernel_rfl) (by kernel_rfl) rfl
/-- loop.example/g01054/impl.changed -/
@[reducible] noncomputable def c_impl_changed : Cx := { K := [.dat 2, .dat 2, .dat 0, .no, .no, .no, .own 4 0 false, .dat 0, .own 4 0 false, .no, .dat 0, .dat 2, .dat 2, .dat 0, .dat 0, .own 4 0 false, .own 4 0 false, .dat 2, .own 4 0 false, .dat 2, .dat 0, .dat 0, .dat 0, .dat 2, .dat 0, .via 8, .dat 2, .dat 0, .dat 0, .ref 8, .ref 8, .dat 0, .dat 0, .dat 0, .ref 8, .ref 8, .dat 0, .via 8, .dat 0, .dat 0, .own 4 0 false, .own 4 0 false], T := [(3, ty3), (9, ty9), (35, ty35), (75, ty75), (88, ty88)], S := [(67, S_impl_IsCase), (95, S_impl_areCodes), (136, S_impl_boxAt)], H := [(0, ([0, 2, 8, 19, 20, 21], [8]))], res := [.tmp 6, .tmp 7], ios := [] }
noncomputable def F_impl_changed : List D → Option Out := denF c_impl_changed Try.f128
@[reducible] noncomputable def S_impl_changed : FS := { pm := [.dat 2, .dat 2, .dat 0], rm := [.own 4 0 false, .dat 0], f := F_impl_changed }
theorem M_impl_changed : Meets Try.prog 128 S_impl_changed := meets_of (P := Try.prog) (c := c_impl_changed) (fn := Try.f128) (pm := S_impl_changed.pm) (rm := S_impl_changed.rm) (by kernel_rfl) (lookCons M_impl_IsCase (lookCons M_impl_areCodes (lookCons M_impl_boxAt lookNil))) follows_mixed Try.func128 (by kernel_rfl) (by kernel_rfl) rfl
/-- loop.example/g01054/impl.TakeTypes -/
@[reducible] noncomputable def c_impl_TakeTypes : Cx := { K := [.dat 2, .dat 2, .no, .no, .own 4 0 false, .dat 0, .dat 2, .dat 2, .tup [.own 4 0 false, .dat 0], .own 4 0 false, .dat 0], T := [(35, ty35)], S := [(128, S_impl_changed)], H := [], res := [.tmp 4, .tmp 5], ios := [] }
noncomputable def F_impl_TakeTypes : List D → Option Out := denF c_impl_TakeTypes Try.f83
@[reducible] noncomputable def S_impl_TakeTypes : FS := { pm := [.dat 2, .dat 2], rm := [.own 4 0 false, .dat 0], f := F_impl_TakeTypes }
theorem M_impl_TakeTypes : Meets Try.prog 83 S_impl_TakeTypes := meets_of (P := Try.prog) (c := c_impl_TakeTypes) (fn := Try.f83) (pm := S_impl_TakeTypes.pm) (rm := S_impl_TakeTypes.rm) (by kernel_rfl) (lookCons M_impl_changed lookNil) follows_mixed Try.func83 (by kernel_rfl) (by kernel_rfl) rfl
/-- loop.example/g01054/impl.MayBeSet -/
@[reducible] noncomputable def c_impl_MayBeSet : Cx := { K := [.dat 2, .dat 0, .box 4 2 false, .no, .dat 0, .dat 0, .dat 1, .dat 0, .dat 2, .dat 0, .dat 0, .dat 0, .dat 0, .dat 0, .dat 0, .dat 0, .tup [.own 1 0 false, .dat 0], .ref 2, .dat 2, .dat 0, .tup [.own 1 0 false, .dat 0], .dat 1, .dat 0, .dat 0, .dat 0, .tup [.own 4 0 false, .dat 0], .ref 2, .dat 2, .dat 1, .tup [.own 4 0 false, .dat 0], .dat 1, .dat 0, .dat 0], T := [(3, ty3), (35, ty35), (36, ty36), (38, ty38), (88, ty88)], S := [(21, S_impl_IsShop), (81, S_impl_isWord), (82, S_impl_codesOf), (83, S_impl_TakeTypes)], H := [], res := [.tmp 4, .tmp 5], ios := [] }
noncomputable def F_impl_MayBeSet : List D → Option Out := denF c_impl_MayBeSet Try.f34
@[reducible] noncomputable def S_impl_MayBeSet : FS := { pm := [.dat 2, .dat 0], rm := [.dat 0, .dat 0], f := F_impl_MayBeSet }
theorem M_impl_MayBeSet : Meets Try.prog 34 S_impl_MayBeSet := meets_of (P := Try.prog) (c := c_impl_MayBeSet) (fn := Try.f34) (pm := S_impl_MayBeSet.pm) (rm := S_impl_MayBeSet.rm) (by kernel_rfl) (lookCons M_impl_IsShop (lookCons M_impl_isWord (lookCons M_impl_codesOf (lookCons M_impl_TakeTypes lookNil)))) follows_mixed Try.func34 (by kernel_rfl) (by kernel_rfl) rfl
/-- loop.example/g01054/laws.FnExactMayBeSet -/
@[reducible] noncomputable def c_laws_FnExactMayBeSet : Cx := { K := [.dat 2, .dat 0, .box 4 2 false, .no, .dat 0, .dat 0, .dat 0, .dat 0, .box 4 1 false, .dat 0, .dat 0, .dat 0, .dat 0, .dat 0, .dat 2, .dat 0, .dat 0, .dat 0, .dat 0, .tup [.dat 0, .dat 0], .dat 2, .dat 1, .dat 0, .tup [.dat 0, .dat 0], .dat 0, .dat 0, .dat 2, .dat 1, .tup [.dat 0, .dat 0], .dat 1, .dat 0, .tup [.dat 0, .dat 0], .dat 0, .dat 0, .dat 0, .dat 0, .dat 0, .dat 0, .dat 0, .dat 0, .dat 0, .dat 0, .dat 1, .dat 2, .dat 1, .dat 0, .dat 0], T := [(3, ty3), (4, ty4), (9, ty9), (29, ty29), (30, ty30), (32, ty32), (35, ty35), (36, ty36), (38, ty38)], S := [(18, S_laws_szShop), (20, S_laws_toShop), (22, S_laws_eqShop), (33, S_spec_MayBeSet), (34, S_impl_MayBeSet)], H := [], res := [.tmp 4], ios := [] }
noncomputable def F_laws_FnExactMayBeSet : List D → Option Out := denF c_laws_FnExactMayBeSet Try.f8
@[reducible] noncomputable def S_laws_FnExactMayBeSet : FS := { pm := [.dat 2, .dat 0], rm := [.dat 0], f := F_laws_FnExactMayBeSet }
theorem M_laws_FnExactMayBeSet : Meets Try.prog 8 S_laws_FnExactMayBeSet := meets_of (P := Try.prog) (c := c_laws_FnExactMayBeSet) (fn := Try.f8) (pm := S_laws_FnExactMayBeSet.pm) (rm := S_laws_FnExactMayBeSet.rm) (by kernel_rfl) (lookCons M_laws_szShop (lookCons M_laws_toShop (lookCons M_laws_eqShop (lookCons M_spec_MayBeSet (lookCons M_impl_MayBeSet lookNil))))) follows_mixed Try.func8 (by kernel_rfl) (by kernel_rfl) rfl
end Go.Proofs.Ytcnkgmbnmndahaa
