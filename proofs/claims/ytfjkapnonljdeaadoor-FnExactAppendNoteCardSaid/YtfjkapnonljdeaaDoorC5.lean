/-
  Contexts and contracts of functions, printed by gen.py.
-/
import Derived.Test.YtfjkapnonljdeaaDoorLS
namespace Go.Proofs.YtfjkapnonljdeaaDoor
open Go.V
set_option maxRecDepth 100000
theorem follows_mixed : Tryd.prog.follows .mixedOrders = true := by kernel_rfl
@[reducible] def ty3 : TI := { n := 1, zero := [.v (.int .i64 0)], ik := some .i64 }
@[reducible] def ty9 : TI := { n := 1, zero := [.v (.string ⟨#[]⟩)], str := true }
@[reducible] def ty21 : TI := { n := 1, zero := [.v (.int .i32 0)], ik := some .i32 }
@[reducible] def ty64 : TI := { agg := true, n := 3, zero := [.v (.int .i64 0), .v (.int .i64 0), .v (.int .i64 0)], fs := [(0, 3), (1, 3), (2, 3)], eq := [1, 1, 1] }
@[reducible] def ty71 : TI := { n := 1, zero := [.arr 1 []], elem := 9, ez := 1, eb := 16 }
@[reducible] def ty90 : TI := { n := 1, zero := [.arr 1 []], elem := 3, ez := 1, eb := 8 }
/-- loop.example/g01054/impl.numbersIn$1 -/
@[reducible] noncomputable def c_impl_numbersIn_1 : Cx := { K := [.dat 0, .no, .dat 0, .dat 0, .dat 0, .dat 0, .dat 0, .dat 0, .dat 0], T := [(21, ty21)], S := [], H := [], res := [.tmp 2], ios := [], G := gl0 }
noncomputable def F_impl_numbersIn_1 : List D → Option Out := denF c_impl_numbersIn_1 Tryd.f98
@[reducible] noncomputable def S_impl_numbersIn_1 : FS := { pm := [.dat 0], rm := [.dat 0], f := F_impl_numbersIn_1 }
theorem M_impl_numbersIn_1 : Meets gl0 Tryd.prog 98 S_impl_numbersIn_1 := meets_of (P := Tryd.prog) (c := c_impl_numbersIn_1) (fn := Tryd.f98) (pm := S_impl_numbersIn_1.pm) (rm := S_impl_numbersIn_1.rm) (by kernel_rfl) lookNil follows_mixed Tryd.func98 (by kernel_rfl) (by kernel_rfl) rfl
/-- loop.example/g01054/impl.join -/
@[reducible] noncomputable def c_impl_join : Cx := { K := [.dat 2, .dat 0, .no, .no, .dat 0, .own 1 0 false, .no, .dat 0, .own 1 0 false, .dat 2, .dat 0, .dat 0, .dat 0, .dat 2, .dat 0, .own 1 0 false, .dat 0, .dat 0, .dat 1, .own 1 0 false, .dat 0, .via 5, .dat 0, .dat 0], T := [(3, ty3), (9, ty9), (71, ty71), (90, ty90)], S := [(63, S_strconv_Itoa), (124, S_strings_Join)], H := [(0, ([1, 5, 9, 10, 11], [1, 5]))], res := [.tmp 4], ios := [], G := gl1 }
noncomputable def F_impl_join : List D → Option Out := denF c_impl_join Tryd.f106
@[reducible] noncomputable def S_impl_join : FS := { pm := [.dat 2, .dat 0], rm := [.dat 0], f := F_impl_join }
theorem M_impl_join : Meets gl1 Tryd.prog 106 S_impl_join := meets_of (P := Tryd.prog) (c := c_impl_join) (fn := Tryd.f106) (pm := S_impl_join.pm) (rm := S_impl_join.rm) (by kernel_rfl) (lookCons M_strconv_Itoa (lookCons (meets_mono gl01 M_strings_Join) lookNil)) follows_mixed Tryd.func106 (by kernel_rfl) (by kernel_rfl) rfl
/-- loop.example/g01054/impl.noteLine -/
@[reducible] noncomputable def c_impl_noteLine : Cx := { K := [.dat 0, .dat 0, .box 3 0 false, .no, .dat 0, .ref 2, .dat 0, .ref 2, .dat 0, .ref 2, .dat 0, .dat 0, .dat 1, .dat 0, .dat 0], T := [(3, ty3), (9, ty9), (64, ty64), (90, ty90)], S := [(106, S_impl_join)], H := [], res := [.tmp 4], ios := [], G := gl1 }
noncomputable def F_impl_noteLine : List D → Option Out := denF c_impl_noteLine Tryd.f84
@[reducible] noncomputable def S_impl_noteLine : FS := { pm := [.dat 0, .dat 0], rm := [.dat 0], f := F_impl_noteLine }
theorem M_impl_noteLine : Meets gl1 Tryd.prog 84 S_impl_noteLine := meets_of (P := Tryd.prog) (c := c_impl_noteLine) (fn := Tryd.f84) (pm := S_impl_noteLine.pm) (rm := S_impl_noteLine.rm) (by kernel_rfl) (lookCons M_impl_join lookNil) follows_mixed Tryd.func84 (by kernel_rfl) (by kernel_rfl) rfl
/-- loop.example/g01054/impl.check -/
@[reducible] noncomputable def c_impl_check : Cx := { K := [.dat 0, .dat 0, .no, .box 3 0 false, .dat 0, .dat 0, .dat 0, .ref 3, .dat 0, .dat 0, .dat 0, .ref 3, .dat 0, .dat 0, .dat 0, .ref 3, .dat 0, .dat 0, .dat 0], T := [(3, ty3), (64, ty64)], S := [], H := [], res := [.tmp 4], ios := [], G := gl0 }
noncomputable def F_impl_check : List D → Option Out := denF c_impl_check Tryd.f82
@[reducible] noncomputable def S_impl_check : FS := { pm := [.dat 0, .dat 0], rm := [.dat 0], f := F_impl_check }
theorem M_impl_check : Meets gl0 Tryd.prog 82 S_impl_check := meets_of (P := Tryd.prog) (c := c_impl_check) (fn := Tryd.f82) (pm := S_impl_check.pm) (rm := S_impl_check.rm) (by kernel_rfl) lookNil follows_mixed Tryd.func82 (by kernel_rfl) (by kernel_rfl) rfl
end Go.Proofs.YtfjkapnonljdeaaDoor
