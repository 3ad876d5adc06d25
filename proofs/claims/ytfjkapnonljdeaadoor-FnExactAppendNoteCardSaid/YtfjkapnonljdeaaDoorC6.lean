/-
  Contexts and contracts of functions, printed by gen.py.
-/
import Derived.Test.YtfjkapnonljdeaaDoorLF
namespace Go.Proofs.YtfjkapnonljdeaaDoor
open Go.V
set_option maxRecDepth 100000
@[reducible] def ty4 : TI := { n := 1, zero := [.v (.bool false)], bl := true }
@[reducible] def ty5 : TI := { n := 1, zero := [.v (.int .u8 0)], ik := some .u8 }
@[reducible] def ty23 : TI := { agg := true, n := 4, zero := [.v (.int .i64 0), .v (.int .i64 0), .v (.int .i64 0), .v (.int .i64 0)], fs := [(0, 3), (1, 3), (2, 3), (3, 3)], eq := [1, 1, 1, 1] }
@[reducible] def ty26 : TI := { agg := true, n := 4, zero := [.v (.int .i64 0), .v (.int .i64 0), .v (.int .i64 0), .v (.int .i64 0)], fs := [(0, 3), (1, 3), (2, 3), (3, 3)], eq := [1, 1, 1, 1] }
@[reducible] def ty34 : TI := { n := 1, zero := [.arr 3 []], elem := 64, ez := 3, eb := 24 }
@[reducible] def ty38 : TI := { n := 1, zero := [.arr 4 []], elem := 111, ez := 4, eb := 40 }
@[reducible] def ty39 : TI := { n := 1, zero := [.arr 4 []], elem := 113, ez := 4, eb := 48 }
@[reducible] def ty41 : TI := { agg := true, n := 4, zero := [.arr 4 [], .arr 4 [], .v (.int .i64 0), .v (.int .i64 0)], fs := [(0, 38), (1, 39), (2, 3), (3, 3)] }
@[reducible] def ty44 : TI := { n := 1, zero := [.arr 4 []], elem := 116, ez := 4, eb := 40 }
@[reducible] def ty45 : TI := { n := 1, zero := [.arr 4 []], elem := 82, ez := 4, eb := 48 }
@[reducible] def ty47 : TI := { agg := true, n := 4, zero := [.arr 4 [], .arr 4 [], .v (.int .i64 0), .v (.int .i64 0)], fs := [(0, 44), (1, 45), (2, 3), (3, 3)] }
@[reducible] def ty82 : TI := { agg := true, n := 4, zero := [.v (.int .i64 0), .arr 1 [], .v (.bool false), .v (.int .i64 0)], fs := [(0, 3), (1, 71), (2, 4), (3, 3)] }
@[reducible] def ty101 : TI := { n := 1, zero := [.arr 1 []], elem := 5, ez := 1, eb := 1 }
@[reducible] def ty105 : TI := { n := 1, zero := [.v .nilIface], ifc := true }
@[reducible] def ty111 : TI := { agg := true, n := 4, zero := [.v (.string ⟨#[]⟩), .v (.int .i64 0), .v (.int .i64 0), .v (.int .i64 0)], fs := [(0, 9), (1, 3), (2, 3), (3, 3)], eq := [3, 1, 1, 1] }
@[reducible] def ty113 : TI := { agg := true, n := 4, zero := [.v (.int .i64 0), .arr 1 [], .v (.bool false), .v (.int .i64 0)], fs := [(0, 3), (1, 71), (2, 4), (3, 3)] }
@[reducible] def ty116 : TI := { agg := true, n := 4, zero := [.v (.string ⟨#[]⟩), .v (.int .i64 0), .v (.int .i64 0), .v (.int .i64 0)], fs := [(0, 9), (1, 3), (2, 3), (3, 3)], eq := [3, 1, 1, 1] }
/-- loop.example/g01054/laws.toOrder -/
@[reducible] noncomputable def c_laws_toOrder : Cx := { K := [.dat 0, .box 4 0 false, .box 4 0 false, .box 4 0 false, .ref 1, .dat 0, .ref 3, .ref 1, .dat 0, .ref 3, .ref 1, .dat 0, .ref 3, .ref 1, .dat 0, .ref 3, .dat 0], T := [(3, ty3), (23, ty23), (26, ty26)], S := [], H := [], res := [.cell 2 26], ios := [], G := gl0 }
noncomputable def F_laws_toOrder : List D → Option Out := denF c_laws_toOrder Tryd.f14
@[reducible] noncomputable def S_laws_toOrder : FS := { pm := [.dat 0], rm := [.dat 0], f := F_laws_toOrder }
theorem M_laws_toOrder : Meets gl0 Tryd.prog 14 S_laws_toOrder := meets_of (P := Tryd.prog) (c := c_laws_toOrder) (fn := Tryd.f14) (pm := S_laws_toOrder.pm) (rm := S_laws_toOrder.rm) (by kernel_rfl) lookNil follows_mixed Tryd.func14 (by kernel_rfl) (by kernel_rfl) rfl
/-- loop.example/g01054/spec.l1In -/
@[reducible] noncomputable def c_spec_l1In : Cx := { K := [.dat 0, .dat 0, .dat 0, .no, .no, .no, .dat 0, .dat 0, .dat 0, .dat 0, .dat 0, .dat 0, .dat 0, .dat 0, .dat 0], T := [(3, ty3)], S := [], H := [], res := [.tmp 6], ios := [], G := gl0 }
noncomputable def F_spec_l1In : List D → Option Out := denF c_spec_l1In Tryd.f74
@[reducible] noncomputable def S_spec_l1In : FS := { pm := [.dat 0, .dat 0, .dat 0], rm := [.dat 0], f := F_spec_l1In }
theorem M_spec_l1In : Meets gl0 Tryd.prog 74 S_spec_l1In := meets_of (P := Tryd.prog) (c := c_spec_l1In) (fn := Tryd.f74) (pm := S_spec_l1In.pm) (rm := S_spec_l1In.rm) (by kernel_rfl) lookNil follows_mixed Tryd.func74 (by kernel_rfl) (by kernel_rfl) rfl
/-- loop.example/g01054/spec.orOne -/
@[reducible] noncomputable def c_spec_orOne : Cx := { K := [.dat 0, .box 4 0 false, .dat 0, .ref 1, .dat 0, .dat 0, .dat 0, .ref 1, .dat 0, .dat 0, .dat 0, .dat 0, .ref 1, .dat 0, .dat 0, .dat 0, .dat 0, .ref 1, .dat 0, .dat 0, .dat 0], T := [(3, ty3), (26, ty26)], S := [(74, S_spec_l1In)], H := [], res := [.tmp 2], ios := [], G := gl0 }
noncomputable def F_spec_orOne : List D → Option Out := denF c_spec_orOne Tryd.f44
@[reducible] noncomputable def S_spec_orOne : FS := { pm := [.dat 0], rm := [.dat 0], f := F_spec_orOne }
theorem M_spec_orOne : Meets gl0 Tryd.prog 44 S_spec_orOne := meets_of (P := Tryd.prog) (c := c_spec_orOne) (fn := Tryd.f44) (pm := S_spec_orOne.pm) (rm := S_spec_orOne.rm) (by kernel_rfl) (lookCons M_spec_l1In lookNil) follows_mixed Tryd.func44 (by kernel_rfl) (by kernel_rfl) rfl
/-- loop.example/g01054/spec.l1Num -/
@[reducible] noncomputable def c_spec_l1Num (k : List D → Option Out) : Cx := { K := [.dat 0, .no, .dat 0, .dat 0, .dat 0, .dat 0, .dat 0, .dat 0, .dat 1, .dat 0, .dat 0, .dat 0, .dat 0, .dat 0, .dat 0, .dat 0, .dat 0, .dat 1, .dat 0, .dat 0], T := [(3, ty3), (5, ty5), (9, ty9), (101, ty101)], S := [(59, { pm := [.dat 0], rm := [.dat 0], f := k })], H := [], res := [.tmp 2], ios := [], G := gl0 }
noncomputable def R_spec_l1Num : Nat → List D → Option Out
  | 0, _ => none
  | n + 1, ds => denF (c_spec_l1Num (R_spec_l1Num n)) Tryd.f59 ds
noncomputable def F_spec_l1Num : List D → Option Out := recF R_spec_l1Num
@[reducible] noncomputable def S_spec_l1Num : FS := { pm := [.dat 0], rm := [.dat 0], f := F_spec_l1Num }
theorem MR_spec_l1Num : ∀ n : Nat, Meets gl0 Tryd.prog 59 { pm := [.dat 0], rm := [.dat 0], f := R_spec_l1Num n }
  | 0 => meets_none (fun _ => rfl)
  | n + 1 => by
    have ih := MR_spec_l1Num n
    exact meets_of (P := Tryd.prog) (c := c_spec_l1Num (R_spec_l1Num n)) (fn := Tryd.f59) (pm := S_spec_l1Num.pm) (rm := S_spec_l1Num.rm) (by kernel_rfl) (lookCons ih lookNil) follows_mixed Tryd.func59 (by kernel_rfl) (by kernel_rfl) rfl
theorem M_spec_l1Num : Meets gl0 Tryd.prog 59 S_spec_l1Num := meets_rec MR_spec_l1Num
/-- loop.example/g01054/spec.orText -/
@[reducible] noncomputable def c_spec_orText : Cx := { K := [.dat 0, .box 4 0 false, .dat 0, .ref 1, .dat 0, .dat 0, .dat 0, .dat 0, .ref 1, .dat 0, .dat 0, .dat 0, .dat 0, .ref 1, .dat 0, .dat 0, .dat 0, .dat 0, .ref 1, .dat 0, .dat 0, .dat 0], T := [(3, ty3), (9, ty9), (26, ty26)], S := [(59, S_spec_l1Num)], H := [], res := [.tmp 2], ios := [], G := gl0 }
noncomputable def F_spec_orText : List D → Option Out := denF c_spec_orText Tryd.f45
@[reducible] noncomputable def S_spec_orText : FS := { pm := [.dat 0], rm := [.dat 0], f := F_spec_orText }
theorem M_spec_orText : Meets gl0 Tryd.prog 45 S_spec_orText := meets_of (P := Tryd.prog) (c := c_spec_orText) (fn := Tryd.f45) (pm := S_spec_orText.pm) (rm := S_spec_orText.rm) (by kernel_rfl) (lookCons M_spec_l1Num lookNil) follows_mixed Tryd.func45 (by kernel_rfl) (by kernel_rfl) rfl
/-- loop.example/g01054/spec.OrderText -/
@[reducible] noncomputable def c_spec_OrderText : Cx := { K := [.dat 0, .box 4 0 false, .dat 0, .dat 0, .dat 0, .dat 0, .dat 0, .dat 0, .dat 0], T := [(3, ty3), (26, ty26)], S := [(44, S_spec_orOne), (45, S_spec_orText)], H := [], res := [.tmp 2, .tmp 3], ios := [], G := gl0 }
noncomputable def F_spec_OrderText : List D → Option Out := denF c_spec_OrderText Tryd.f13
@[reducible] noncomputable def S_spec_OrderText : FS := { pm := [.dat 0], rm := [.dat 0, .dat 0], f := F_spec_OrderText }
theorem M_spec_OrderText : Meets gl0 Tryd.prog 13 S_spec_OrderText := meets_of (P := Tryd.prog) (c := c_spec_OrderText) (fn := Tryd.f13) (pm := S_spec_OrderText.pm) (rm := S_spec_OrderText.rm) (by kernel_rfl) (lookCons M_spec_orOne (lookCons M_spec_orText lookNil)) follows_mixed Tryd.func13 (by kernel_rfl) (by kernel_rfl) rfl
/-- loop.example/g01054/impl.within -/
@[reducible] noncomputable def c_impl_within : Cx := { K := [.dat 0, .dat 0, .dat 0, .no, .no, .no, .dat 0, .dat 0, .dat 0, .dat 0, .dat 0, .dat 0, .dat 0, .dat 0, .dat 0], T := [(3, ty3)], S := [], H := [], res := [.tmp 6], ios := [], G := gl0 }
noncomputable def F_impl_within : List D → Option Out := denF c_impl_within Tryd.f75
@[reducible] noncomputable def S_impl_within : FS := { pm := [.dat 0, .dat 0, .dat 0], rm := [.dat 0], f := F_impl_within }
theorem M_impl_within : Meets gl0 Tryd.prog 75 S_impl_within := meets_of (P := Tryd.prog) (c := c_impl_within) (fn := Tryd.f75) (pm := S_impl_within.pm) (rm := S_impl_within.rm) (by kernel_rfl) lookNil follows_mixed Tryd.func75 (by kernel_rfl) (by kernel_rfl) rfl
/-- loop.example/g01054/impl.isOrder -/
@[reducible] noncomputable def c_impl_isOrder : Cx := { K := [.dat 0, .box 4 0 false, .dat 0, .ref 1, .dat 0, .dat 0, .dat 0, .ref 1, .dat 0, .dat 0, .dat 0, .dat 0, .ref 1, .dat 0, .dat 0, .dat 0, .dat 0, .ref 1, .dat 0, .dat 0, .dat 0], T := [(3, ty3), (26, ty26)], S := [(75, S_impl_within)], H := [], res := [.tmp 2], ios := [], G := gl0 }
noncomputable def F_impl_isOrder : List D → Option Out := denF c_impl_isOrder Tryd.f46
@[reducible] noncomputable def S_impl_isOrder : FS := { pm := [.dat 0], rm := [.dat 0], f := F_impl_isOrder }
theorem M_impl_isOrder : Meets gl0 Tryd.prog 46 S_impl_isOrder := meets_of (P := Tryd.prog) (c := c_impl_isOrder) (fn := Tryd.f46) (pm := S_impl_isOrder.pm) (rm := S_impl_isOrder.rm) (by kernel_rfl) (lookCons M_impl_within lookNil) follows_mixed Tryd.func46 (by kernel_rfl) (by kernel_rfl) rfl
/-- loop.example/g01054/impl.orderText -/
@[reducible] noncomputable def c_impl_orderText : Cx := { K := [.dat 0, .box 4 0 false, .dat 0, .ref 1, .dat 0, .dat 0, .dat 0, .dat 0, .ref 1, .dat 0, .dat 0, .dat 0, .dat 0, .ref 1, .dat 0, .dat 0, .dat 0, .dat 0, .ref 1, .dat 0, .dat 0, .dat 0], T := [(3, ty3), (9, ty9), (26, ty26)], S := [(63, S_strconv_Itoa)], H := [], res := [.tmp 2], ios := [], G := gl1 }
noncomputable def F_impl_orderText : List D → Option Out := denF c_impl_orderText Tryd.f47
@[reducible] noncomputable def S_impl_orderText : FS := { pm := [.dat 0], rm := [.dat 0], f := F_impl_orderText }
theorem M_impl_orderText : Meets gl1 Tryd.prog 47 S_impl_orderText := meets_of (P := Tryd.prog) (c := c_impl_orderText) (fn := Tryd.f47) (pm := S_impl_orderText.pm) (rm := S_impl_orderText.rm) (by kernel_rfl) (lookCons M_strconv_Itoa lookNil) follows_mixed Tryd.func47 (by kernel_rfl) (by kernel_rfl) rfl
/-- loop.example/g01054/impl.OrderText -/
@[reducible] noncomputable def c_impl_OrderText : Cx := { K := [.dat 0, .box 4 0 false, .dat 0, .dat 0, .dat 0, .dat 0, .dat 0, .dat 0, .dat 0], T := [(3, ty3), (26, ty26)], S := [(46, S_impl_isOrder), (47, S_impl_orderText)], H := [], res := [.tmp 2, .tmp 3], ios := [], G := gl1 }
noncomputable def F_impl_OrderText : List D → Option Out := denF c_impl_OrderText Tryd.f15
@[reducible] noncomputable def S_impl_OrderText : FS := { pm := [.dat 0], rm := [.dat 0, .dat 0], f := F_impl_OrderText }
theorem M_impl_OrderText : Meets gl1 Tryd.prog 15 S_impl_OrderText := meets_of (P := Tryd.prog) (c := c_impl_OrderText) (fn := Tryd.f15) (pm := S_impl_OrderText.pm) (rm := S_impl_OrderText.rm) (by kernel_rfl) (lookCons (meets_mono gl01 M_impl_isOrder) (lookCons M_impl_orderText lookNil)) follows_mixed Tryd.func15 (by kernel_rfl) (by kernel_rfl) rfl
/-- loop.example/g01054/laws.FnExactOrderText -/
@[reducible] noncomputable def c_laws_FnExactOrderText : Cx := { K := [.dat 0, .box 4 0 false, .dat 0, .dat 0, .dat 0, .dat 0, .dat 0, .tup [.dat 0, .dat 0], .dat 0, .dat 0, .tup [.dat 0, .dat 0], .dat 0, .dat 0, .tup [.dat 0, .dat 0], .dat 0, .dat 0, .tup [.dat 0, .dat 0], .dat 0, .dat 0, .dat 0, .dat 0, .dat 0, .dat 0, .dat 0, .dat 0, .dat 0, .dat 0], T := [(3, ty3), (4, ty4), (9, ty9), (23, ty23)], S := [(13, S_spec_OrderText), (14, S_laws_toOrder), (15, S_impl_OrderText)], H := [], res := [.tmp 2], ios := [], G := gl1 }
noncomputable def F_laws_FnExactOrderText : List D → Option Out := denF c_laws_FnExactOrderText Tryd.f3
@[reducible] noncomputable def S_laws_FnExactOrderText : FS := { pm := [.dat 0], rm := [.dat 0], f := F_laws_FnExactOrderText }
theorem M_laws_FnExactOrderText : Meets gl1 Tryd.prog 3 S_laws_FnExactOrderText := meets_of (P := Tryd.prog) (c := c_laws_FnExactOrderText) (fn := Tryd.f3) (pm := S_laws_FnExactOrderText.pm) (rm := S_laws_FnExactOrderText.rm) (by kernel_rfl) (lookCons (meets_mono gl01 M_spec_OrderText) (lookCons (meets_mono gl01 M_laws_toOrder) (lookCons M_impl_OrderText lookNil))) follows_mixed Tryd.func3 (by kernel_rfl) (by kernel_rfl) rfl
/-- loop.example/g01054/spec.l1Split -/
@[reducible] noncomputable def c_spec_l1Split : Cx := { K := [.dat 0, .dat 0, .no, .no, .own 1 0 false, .own 1 0 false, .dat 0, .dat 0, .dat 0, .dat 0, .dat 0, .dat 0, .dat 0, .dat 0, .dat 0, .dat 0, .dat 0, .dat 0, .dat 0, .own 1 0 false, .dat 0, .dat 0, .dat 0, .dat 0, .dat 1, .own 1 0 false, .dat 0, .dat 0, .own 1 0 false, .dat 0, .dat 0, .dat 0, .dat 1, .own 1 0 false], T := [(3, ty3), (5, ty5), (9, ty9), (71, ty71)], S := [], H := [(0, ([0, 1, 5, 6, 7], [0, 5, 6]))], res := [.tmp 4], ios := [], G := gl0 }
noncomputable def F_spec_l1Split : List D → Option Out := denF c_spec_l1Split Tryd.f66
@[reducible] noncomputable def S_spec_l1Split : FS := { pm := [.dat 0, .dat 0], rm := [.own 1 0 false], f := F_spec_l1Split }
theorem M_spec_l1Split : Meets gl0 Tryd.prog 66 S_spec_l1Split := meets_of (P := Tryd.prog) (c := c_spec_l1Split) (fn := Tryd.f66) (pm := S_spec_l1Split.pm) (rm := S_spec_l1Split.rm) (by kernel_rfl) lookNil follows_mixed Tryd.func66 (by kernel_rfl) (by kernel_rfl) rfl
/-- loop.example/g01054/spec.cnLines -/
@[reducible] noncomputable def c_spec_cnLines : Cx := { K := [.dat 0, .no, .dat 1, .dat 0, .dat 1, .dat 0, .dat 0, .dat 0, .dat 0, .dat 0, .dat 0, .dat 0, .dat 0, .dat 0, .dat 0, .dat 0, .dat 0, .dat 0, .dat 0, .dat 0, .dat 0, .dat 1, .dat 1, .dat 1, .dat 0, .dat 0, .dat 1, .dat 1, .dat 1, .dat 0, .dat 0], T := [(3, ty3), (5, ty5), (9, ty9), (71, ty71)], S := [(66, S_spec_l1Split)], H := [], res := [.tmp 2, .tmp 3], ios := [], G := gl0 }
noncomputable def F_spec_cnLines : List D → Option Out := denF c_spec_cnLines Tryd.f48
@[reducible] noncomputable def S_spec_cnLines : FS := { pm := [.dat 0], rm := [.dat 1, .dat 0], f := F_spec_cnLines }
theorem M_spec_cnLines : Meets gl0 Tryd.prog 48 S_spec_cnLines := meets_of (P := Tryd.prog) (c := c_spec_cnLines) (fn := Tryd.f48) (pm := S_spec_cnLines.pm) (rm := S_spec_cnLines.rm) (by kernel_rfl) (lookCons M_spec_l1Split lookNil) follows_mixed Tryd.func48 (by kernel_rfl) (by kernel_rfl) rfl
/-- loop.example/g01054/spec.JoinScripts -/
@[reducible] noncomputable def c_spec_JoinScripts : Cx := { K := [.dat 0, .dat 0, .no, .no, .dat 0, .dat 0, .dat 1, .dat 0, .dat 1, .dat 0, .dat 1, .dat 0, .tup [.dat 1, .dat 0], .dat 0, .tup [.dat 1, .dat 0], .dat 1, .dat 0, .tup [.dat 1, .dat 0], .dat 0, .tup [.dat 1, .dat 0], .dat 1, .dat 0, .tup [.dat 1, .dat 0], .dat 0, .dat 0, .dat 0, .tup [.dat 1, .dat 0], .dat 1, .dat 0, .dat 0, .dat 0, .dat 0, .dat 0, .dat 0, .dat 0, .dat 0, .dat 0, .dat 0, .dat 0, .dat 0, .dat 0, .dat 0], T := [(9, ty9)], S := [(48, S_spec_cnLines)], H := [], res := [.tmp 4, .tmp 5], ios := [], G := gl0 }
noncomputable def F_spec_JoinScripts : List D → Option Out := denF c_spec_JoinScripts Tryd.f16
@[reducible] noncomputable def S_spec_JoinScripts : FS := { pm := [.dat 0, .dat 0], rm := [.dat 0, .dat 0], f := F_spec_JoinScripts }
theorem M_spec_JoinScripts : Meets gl0 Tryd.prog 16 S_spec_JoinScripts := meets_of (P := Tryd.prog) (c := c_spec_JoinScripts) (fn := Tryd.f16) (pm := S_spec_JoinScripts.pm) (rm := S_spec_JoinScripts.rm) (by kernel_rfl) (lookCons M_spec_cnLines lookNil) follows_mixed Tryd.func16 (by kernel_rfl) (by kernel_rfl) rfl
/-- loop.example/g01054/impl.linesOf -/
@[reducible] noncomputable def c_impl_linesOf : Cx := { K := [.dat 0, .no, .dat 1, .dat 0, .dat 1, .dat 1, .dat 0, .dat 0, .dat 0, .dat 0, .dat 1, .dat 1, .dat 0, .dat 0, .dat 0, .dat 0, .dat 1, .dat 0, .dat 0, .dat 0, .dat 0, .dat 0, .dat 0, .dat 0, .dat 0, .dat 0, .dat 0, .dat 0], T := [(3, ty3), (9, ty9), (71, ty71)], S := [(76, S_strings_Split), (77, S_strings_TrimSuffix), (78, S_strings_HasSuffix)], H := [], res := [.tmp 2, .tmp 3], ios := [], G := gl0 }
noncomputable def F_impl_linesOf : List D → Option Out := denF c_impl_linesOf Tryd.f49
@[reducible] noncomputable def S_impl_linesOf : FS := { pm := [.dat 0], rm := [.dat 1, .dat 0], f := F_impl_linesOf }
theorem M_impl_linesOf : Meets gl0 Tryd.prog 49 S_impl_linesOf := meets_of (P := Tryd.prog) (c := c_impl_linesOf) (fn := Tryd.f49) (pm := S_impl_linesOf.pm) (rm := S_impl_linesOf.rm) (by kernel_rfl) (lookCons M_strings_Split (lookCons M_strings_TrimSuffix (lookCons M_strings_HasSuffix lookNil))) follows_mixed Tryd.func49 (by kernel_rfl) (by kernel_rfl) rfl
/-- loop.example/g01054/impl.JoinScripts -/
@[reducible] noncomputable def c_impl_JoinScripts : Cx := { K := [.dat 0, .dat 0, .no, .no, .dat 0, .dat 0, .dat 1, .dat 0, .dat 1, .dat 0, .dat 1, .dat 0, .tup [.dat 1, .dat 0], .dat 0, .tup [.dat 1, .dat 0], .dat 1, .dat 0, .tup [.dat 1, .dat 0], .dat 0, .tup [.dat 1, .dat 0], .dat 1, .dat 0, .tup [.dat 1, .dat 0], .dat 0, .dat 0, .dat 0, .tup [.dat 1, .dat 0], .dat 1, .dat 0, .dat 0, .dat 0, .dat 0, .dat 0, .dat 0, .dat 0, .dat 0, .dat 0, .dat 0, .dat 0, .dat 0, .dat 0, .dat 0], T := [(9, ty9)], S := [(49, S_impl_linesOf)], H := [], res := [.tmp 4, .tmp 5], ios := [], G := gl0 }
noncomputable def F_impl_JoinScripts : List D → Option Out := denF c_impl_JoinScripts Tryd.f17
@[reducible] noncomputable def S_impl_JoinScripts : FS := { pm := [.dat 0, .dat 0], rm := [.dat 0, .dat 0], f := F_impl_JoinScripts }
theorem M_impl_JoinScripts : Meets gl0 Tryd.prog 17 S_impl_JoinScripts := meets_of (P := Tryd.prog) (c := c_impl_JoinScripts) (fn := Tryd.f17) (pm := S_impl_JoinScripts.pm) (rm := S_impl_JoinScripts.rm) (by kernel_rfl) (lookCons M_impl_linesOf lookNil) follows_mixed Tryd.func17 (by kernel_rfl) (by kernel_rfl) rfl
/-- loop.example/g01054/laws.FnExactJoinScripts -/
@[reducible] noncomputable def c_laws_FnExactJoinScripts : Cx := { K := [.dat 0, .dat 0, .no, .no, .dat 0, .dat 0, .dat 0, .dat 0, .dat 0, .dat 0, .dat 0, .dat 0, .dat 0, .dat 0, .dat 0, .tup [.dat 0, .dat 0], .dat 0, .dat 0, .tup [.dat 0, .dat 0], .dat 0, .dat 0, .tup [.dat 0, .dat 0], .dat 0, .dat 0, .tup [.dat 0, .dat 0], .dat 0, .dat 0, .dat 0, .dat 0, .dat 0, .dat 0, .dat 0, .dat 0, .dat 0, .dat 0], T := [(3, ty3), (4, ty4), (9, ty9)], S := [(16, S_spec_JoinScripts), (17, S_impl_JoinScripts)], H := [], res := [.tmp 4], ios := [], G := gl0 }
noncomputable def F_laws_FnExactJoinScripts : List D → Option Out := denF c_laws_FnExactJoinScripts Tryd.f4
@[reducible] noncomputable def S_laws_FnExactJoinScripts : FS := { pm := [.dat 0, .dat 0], rm := [.dat 0], f := F_laws_FnExactJoinScripts }
theorem M_laws_FnExactJoinScripts : Meets gl0 Tryd.prog 4 S_laws_FnExactJoinScripts := meets_of (P := Tryd.prog) (c := c_laws_FnExactJoinScripts) (fn := Tryd.f4) (pm := S_laws_FnExactJoinScripts.pm) (rm := S_laws_FnExactJoinScripts.rm) (by kernel_rfl) (lookCons M_spec_JoinScripts (lookCons M_impl_JoinScripts lookNil)) follows_mixed Tryd.func4 (by kernel_rfl) (by kernel_rfl) rfl
/-- loop.example/g01054/laws.szBox -/
@[reducible] noncomputable def c_laws_szBox : Cx := { K := [.dat 0, .dat 0, .box 4 0 false, .no, .dat 0, .dat 0, .ref 2, .dat 0, .dat 0, .dat 0, .dat 0, .dat 0, .dat 0], T := [(3, ty3), (9, ty9), (111, ty111)], S := [], H := [], res := [.tmp 4], ios := [], G := gl0 }
noncomputable def F_laws_szBox : List D → Option Out := denF c_laws_szBox Tryd.f86
@[reducible] noncomputable def S_laws_szBox : FS := { pm := [.dat 0, .dat 0], rm := [.dat 0], f := F_laws_szBox }
theorem M_laws_szBox : Meets gl0 Tryd.prog 86 S_laws_szBox := meets_of (P := Tryd.prog) (c := c_laws_szBox) (fn := Tryd.f86) (pm := S_laws_szBox.pm) (rm := S_laws_szBox.rm) (by kernel_rfl) lookNil follows_mixed Tryd.func86 (by kernel_rfl) (by kernel_rfl) rfl
/-- loop.example/g01054/laws.szBoxS -/
@[reducible] noncomputable def c_laws_szBoxS : Cx := { K := [.dat 2, .dat 0, .no, .no, .dat 0, .dat 0, .dat 0, .dat 2, .dat 0, .dat 0, .dat 0, .dat 0, .dat 0, .dat 2, .dat 0, .dat 0, .dat 0, .dat 0, .dat 2, .dat 0, .dat 2, .dat 0, .dat 0, .dat 0, .dat 0, .dat 0, .dat 0], T := [(3, ty3), (9, ty9), (38, ty38), (111, ty111)], S := [(86, S_laws_szBox)], H := [(0, ([0, 1, 5], [1]))], res := [.tmp 4], ios := [], G := gl0 }
noncomputable def F_laws_szBoxS : List D → Option Out := denF c_laws_szBoxS Tryd.f56
@[reducible] noncomputable def S_laws_szBoxS : FS := { pm := [.dat 2, .dat 0], rm := [.dat 0], f := F_laws_szBoxS }
theorem M_laws_szBoxS : Meets gl0 Tryd.prog 56 S_laws_szBoxS := meets_of (P := Tryd.prog) (c := c_laws_szBoxS) (fn := Tryd.f56) (pm := S_laws_szBoxS.pm) (rm := S_laws_szBoxS.rm) (by kernel_rfl) (lookCons M_laws_szBox lookNil) follows_mixed Tryd.func56 (by kernel_rfl) (by kernel_rfl) rfl
/-- loop.example/g01054/laws.szStringS -/
@[reducible] noncomputable def c_laws_szStringS : Cx := { K := [.dat 2, .dat 0, .no, .no, .dat 0, .dat 0, .dat 0, .dat 2, .dat 0, .dat 0, .dat 0, .dat 0, .dat 0, .dat 2, .dat 0, .dat 0, .dat 0, .dat 0, .dat 0, .dat 2, .dat 0, .dat 2, .dat 0, .dat 0, .dat 0, .dat 0, .dat 0, .dat 0], T := [(3, ty3), (9, ty9), (71, ty71)], S := [], H := [(0, ([0, 1, 5], [1]))], res := [.tmp 4], ios := [], G := gl0 }
noncomputable def F_laws_szStringS : List D → Option Out := denF c_laws_szStringS Tryd.f107
@[reducible] noncomputable def S_laws_szStringS : FS := { pm := [.dat 2, .dat 0], rm := [.dat 0], f := F_laws_szStringS }
theorem M_laws_szStringS : Meets gl0 Tryd.prog 107 S_laws_szStringS := meets_of (P := Tryd.prog) (c := c_laws_szStringS) (fn := Tryd.f107) (pm := S_laws_szStringS.pm) (rm := S_laws_szStringS.rm) (by kernel_rfl) lookNil follows_mixed Tryd.func107 (by kernel_rfl) (by kernel_rfl) rfl
/-- loop.example/g01054/laws.szForme -/
@[reducible] noncomputable def c_laws_szForme : Cx := { K := [.dat 2, .dat 0, .box 4 2 false, .no, .dat 0, .ref 2, .dat 2, .dat 0, .dat 0, .dat 0, .dat 0, .dat 0], T := [(3, ty3), (4, ty4), (9, ty9), (71, ty71), (113, ty113)], S := [(107, S_laws_szStringS)], H := [], res := [.tmp 4], ios := [], G := gl0 }
noncomputable def F_laws_szForme : List D → Option Out := denF c_laws_szForme Tryd.f87
@[reducible] noncomputable def S_laws_szForme : FS := { pm := [.dat 2, .dat 0], rm := [.dat 0], f := F_laws_szForme }
theorem M_laws_szForme : Meets gl0 Tryd.prog 87 S_laws_szForme := meets_of (P := Tryd.prog) (c := c_laws_szForme) (fn := Tryd.f87) (pm := S_laws_szForme.pm) (rm := S_laws_szForme.rm) (by kernel_rfl) (lookCons M_laws_szStringS lookNil) follows_mixed Tryd.func87 (by kernel_rfl) (by kernel_rfl) rfl
/-- loop.example/g01054/laws.szFormeS -/
@[reducible] noncomputable def c_laws_szFormeS : Cx := { K := [.dat 2, .dat 0, .no, .no, .dat 0, .dat 0, .dat 0, .dat 2, .dat 0, .dat 0, .dat 0, .dat 0, .dat 0, .dat 2, .dat 0, .dat 0, .dat 0, .dat 0, .dat 2, .dat 0, .dat 2, .dat 2, .dat 0, .dat 0, .dat 0, .dat 0, .dat 0], T := [(3, ty3), (4, ty4), (39, ty39), (71, ty71), (113, ty113)], S := [(87, S_laws_szForme)], H := [(0, ([0, 1, 5], [1]))], res := [.tmp 4], ios := [], G := gl0 }
noncomputable def F_laws_szFormeS : List D → Option Out := denF c_laws_szFormeS Tryd.f57
@[reducible] noncomputable def S_laws_szFormeS : FS := { pm := [.dat 2, .dat 0], rm := [.dat 0], f := F_laws_szFormeS }
theorem M_laws_szFormeS : Meets gl0 Tryd.prog 57 S_laws_szFormeS := meets_of (P := Tryd.prog) (c := c_laws_szFormeS) (fn := Tryd.f57) (pm := S_laws_szFormeS.pm) (rm := S_laws_szFormeS.rm) (by kernel_rfl) (lookCons M_laws_szForme lookNil) follows_mixed Tryd.func57 (by kernel_rfl) (by kernel_rfl) rfl
/-- loop.example/g01054/laws.szShop -/
@[reducible] noncomputable def c_laws_szShop : Cx := { K := [.dat 2, .dat 0, .box 4 2 false, .no, .dat 0, .ref 2, .dat 2, .dat 0, .dat 0, .dat 0, .dat 0, .ref 2, .dat 2, .dat 0, .dat 0, .dat 0, .dat 0, .dat 0], T := [(3, ty3), (38, ty38), (39, ty39), (41, ty41), (111, ty111), (113, ty113)], S := [(56, S_laws_szBoxS), (57, S_laws_szFormeS)], H := [], res := [.tmp 4], ios := [], G := gl0 }
noncomputable def F_laws_szShop : List D → Option Out := denF c_laws_szShop Tryd.f23
@[reducible] noncomputable def S_laws_szShop : FS := { pm := [.dat 2, .dat 0], rm := [.dat 0], f := F_laws_szShop }
theorem M_laws_szShop : Meets gl0 Tryd.prog 23 S_laws_szShop := meets_of (P := Tryd.prog) (c := c_laws_szShop) (fn := Tryd.f23) (pm := S_laws_szShop.pm) (rm := S_laws_szShop.rm) (by kernel_rfl) (lookCons M_laws_szBoxS (lookCons M_laws_szFormeS lookNil)) follows_mixed Tryd.func23 (by kernel_rfl) (by kernel_rfl) rfl
/-- loop.example/g01054/laws.toBox -/
@[reducible] noncomputable def c_laws_toBox : Cx := { K := [.dat 0, .box 4 0 false, .box 4 0 false, .box 4 0 false, .ref 1, .dat 0, .ref 3, .ref 1, .dat 0, .ref 3, .ref 1, .dat 0, .ref 3, .ref 1, .dat 0, .ref 3, .dat 0], T := [(3, ty3), (9, ty9), (111, ty111), (116, ty116)], S := [], H := [], res := [.cell 2 116], ios := [], G := gl0 }
noncomputable def F_laws_toBox : List D → Option Out := denF c_laws_toBox Tryd.f90
@[reducible] noncomputable def S_laws_toBox : FS := { pm := [.dat 0], rm := [.dat 0], f := F_laws_toBox }
theorem M_laws_toBox : Meets gl0 Tryd.prog 90 S_laws_toBox := meets_of (P := Tryd.prog) (c := c_laws_toBox) (fn := Tryd.f90) (pm := S_laws_toBox.pm) (rm := S_laws_toBox.rm) (by kernel_rfl) lookNil follows_mixed Tryd.func90 (by kernel_rfl) (by kernel_rfl) rfl
/-- loop.example/g01054/laws.toBoxS -/
@[reducible] noncomputable def c_laws_toBoxS : Cx := { K := [.dat 2, .no, .own 4 0 false, .own 4 0 false, .dat 0, .dat 2, .dat 0, .own 4 0 false, .dat 0, .dat 2, .dat 0, .dat 0, .dat 0, .dat 0, .via 3, .dat 0, .dat 2, .dat 0, .dat 2, .dat 0, .dat 0, .ref 3, .own 4 0 false], T := [(3, ty3), (9, ty9), (38, ty38), (44, ty44), (111, ty111), (116, ty116)], S := [(90, S_laws_toBox)], H := [(0, ([0, 3, 4], [3]))], res := [.tmp 2], ios := [], G := gl0 }
noncomputable def F_laws_toBoxS : List D → Option Out := denF c_laws_toBoxS Tryd.f60
@[reducible] noncomputable def S_laws_toBoxS : FS := { pm := [.dat 2], rm := [.own 4 0 false], f := F_laws_toBoxS }
theorem M_laws_toBoxS : Meets gl0 Tryd.prog 60 S_laws_toBoxS := meets_of (P := Tryd.prog) (c := c_laws_toBoxS) (fn := Tryd.f60) (pm := S_laws_toBoxS.pm) (rm := S_laws_toBoxS.rm) (by kernel_rfl) (lookCons M_laws_toBox lookNil) follows_mixed Tryd.func60 (by kernel_rfl) (by kernel_rfl) rfl
/-- loop.example/g01054/laws.toStringS -/
@[reducible] noncomputable def c_laws_toStringS : Cx := { K := [.dat 2, .no, .own 1 0 false, .own 1 0 false, .dat 0, .dat 2, .dat 0, .own 1 0 false, .dat 0, .dat 2, .dat 0, .dat 0, .dat 0, .dat 0, .via 3, .dat 0, .dat 2, .dat 0, .dat 2, .dat 0, .ref 3, .own 1 0 false], T := [(3, ty3), (9, ty9), (71, ty71)], S := [], H := [(0, ([0, 3, 4], [3]))], res := [.tmp 2], ios := [], G := gl0 }
noncomputable def F_laws_toStringS : List D → Option Out := denF c_laws_toStringS Tryd.f110
@[reducible] noncomputable def S_laws_toStringS : FS := { pm := [.dat 2], rm := [.own 1 0 false], f := F_laws_toStringS }
theorem M_laws_toStringS : Meets gl0 Tryd.prog 110 S_laws_toStringS := meets_of (P := Tryd.prog) (c := c_laws_toStringS) (fn := Tryd.f110) (pm := S_laws_toStringS.pm) (rm := S_laws_toStringS.rm) (by kernel_rfl) lookNil follows_mixed Tryd.func110 (by kernel_rfl) (by kernel_rfl) rfl
/-- loop.example/g01054/laws.toForme -/
@[reducible] noncomputable def c_laws_toForme : Cx := { K := [.dat 2, .box 4 2 false, .box 4 1 false, .box 4 1 false, .ref 1, .dat 0, .ref 3, .ref 1, .dat 2, .dat 1, .ref 3, .ref 1, .dat 0, .ref 3, .ref 1, .dat 0, .ref 3, .dat 1], T := [(3, ty3), (4, ty4), (9, ty9), (71, ty71), (82, ty82), (113, ty113)], S := [(110, S_laws_toStringS)], H := [], res := [.cell 2 82], ios := [], G := gl0 }
noncomputable def F_laws_toForme : List D → Option Out := denF c_laws_toForme Tryd.f91
@[reducible] noncomputable def S_laws_toForme : FS := { pm := [.dat 2], rm := [.dat 1], f := F_laws_toForme }
theorem M_laws_toForme : Meets gl0 Tryd.prog 91 S_laws_toForme := meets_of (P := Tryd.prog) (c := c_laws_toForme) (fn := Tryd.f91) (pm := S_laws_toForme.pm) (rm := S_laws_toForme.rm) (by kernel_rfl) (lookCons M_laws_toStringS lookNil) follows_mixed Tryd.func91 (by kernel_rfl) (by kernel_rfl) rfl
/-- loop.example/g01054/laws.toFormeS -/
@[reducible] noncomputable def c_laws_toFormeS : Cx := { K := [.dat 2, .no, .own 4 1 false, .own 4 1 false, .dat 0, .dat 2, .dat 0, .own 4 1 false, .dat 0, .dat 2, .dat 0, .dat 0, .dat 0, .dat 0, .via 3, .dat 0, .dat 2, .dat 0, .dat 2, .dat 2, .dat 1, .ref 3, .own 4 1 false], T := [(3, ty3), (4, ty4), (39, ty39), (45, ty45), (71, ty71), (82, ty82), (113, ty113)], S := [(91, S_laws_toForme)], H := [(0, ([0, 3, 4], [3]))], res := [.tmp 2], ios := [], G := gl0 }
noncomputable def F_laws_toFormeS : List D → Option Out := denF c_laws_toFormeS Tryd.f61
@[reducible] noncomputable def S_laws_toFormeS : FS := { pm := [.dat 2], rm := [.own 4 1 false], f := F_laws_toFormeS }
theorem M_laws_toFormeS : Meets gl0 Tryd.prog 61 S_laws_toFormeS := meets_of (P := Tryd.prog) (c := c_laws_toFormeS) (fn := Tryd.f61) (pm := S_laws_toFormeS.pm) (rm := S_laws_toFormeS.rm) (by kernel_rfl) (lookCons M_laws_toForme lookNil) follows_mixed Tryd.func61 (by kernel_rfl) (by kernel_rfl) rfl
/-- loop.example/g01054/laws.toShop -/
@[reducible] noncomputable def c_laws_toShop : Cx := { K := [.dat 2, .box 4 2 false, .box 4 1 false, .box 4 1 false, .ref 1, .dat 2, .dat 1, .ref 3, .ref 1, .dat 2, .dat 1, .ref 3, .ref 1, .dat 0, .ref 3, .ref 1, .dat 0, .ref 3, .dat 1], T := [(3, ty3), (38, ty38), (39, ty39), (41, ty41), (44, ty44), (45, ty45), (47, ty47), (82, ty82), (111, ty111), (113, ty113), (116, ty116)], S := [(60, S_laws_toBoxS), (61, S_laws_toFormeS)], H := [], res := [.cell 2 47], ios := [], G := gl0 }
noncomputable def F_laws_toShop : List D → Option Out := denF c_laws_toShop Tryd.f25
@[reducible] noncomputable def S_laws_toShop : FS := { pm := [.dat 2], rm := [.dat 1], f := F_laws_toShop }
theorem M_laws_toShop : Meets gl0 Tryd.prog 25 S_laws_toShop := meets_of (P := Tryd.prog) (c := c_laws_toShop) (fn := Tryd.f25) (pm := S_laws_toShop.pm) (rm := S_laws_toShop.rm) (by kernel_rfl) (lookCons M_laws_toBoxS (lookCons M_laws_toFormeS lookNil)) follows_mixed Tryd.func25 (by kernel_rfl) (by kernel_rfl) rfl
/-- loop.example/g01054/spec.caFind -/
@[reducible] noncomputable def c_spec_caFind : Cx := { K := [.dat 2, .dat 0, .no, .no, .dat 0, .dat 0, .box 4 0 false, .dat 2, .dat 0, .dat 0, .dat 0, .dat 0, .dat 2, .dat 0, .ref 6, .dat 0, .dat 0, .dat 0, .dat 0, .dat 0], T := [(3, ty3), (9, ty9), (44, ty44), (116, ty116)], S := [], H := [(0, ([1, 7, 8, 9], []))], res := [.tmp 4], ios := [], G := gl0 }
noncomputable def F_spec_caFind : List D → Option Out := denF c_spec_caFind Tryd.f108
@[reducible] noncomputable def S_spec_caFind : FS := { pm := [.dat 2, .dat 0], rm := [.dat 0], f := F_spec_caFind }
theorem M_spec_caFind : Meets gl0 Tryd.prog 108 S_spec_caFind := meets_of (P := Tryd.prog) (c := c_spec_caFind) (fn := Tryd.f108) (pm := S_spec_caFind.pm) (rm := S_spec_caFind.rm) (by kernel_rfl) lookNil follows_mixed Tryd.func108 (by kernel_rfl) (by kernel_rfl) rfl
/-- loop.example/g01054/spec.shForme -/
@[reducible] noncomputable def c_spec_shForme : Cx := { K := [.dat 2, .dat 2, .no, .box 4 2 false, .dat 0, .no, .dat 0, .ref 3, .dat 0, .dat 0, .dat 0, .dat 0, .ref 3, .dat 2, .dat 0, .dat 0, .dat 0, .dat 0, .ref 3, .dat 0, .dat 0, .dat 0, .dat 0, .dat 0, .ref 3, .dat 0, .dat 0, .ref 3, .dat 2, .dat 0, .dat 0, .dat 0, .dat 0, .ref 3, .dat 2, .dat 0, .dat 0, .dat 0, .dat 2, .dat 0, .dat 2, .dat 0, .dat 0, .dat 0, .dat 0], T := [(3, ty3), (4, ty4), (9, ty9), (71, ty71), (82, ty82)], S := [(74, S_spec_l1In), (108, S_spec_caFind)], H := [(0, ([0, 34, 35, 36], []))], res := [.tmp 4], ios := [], G := gl0 }
noncomputable def F_spec_shForme : List D → Option Out := denF c_spec_shForme Tryd.f88
@[reducible] noncomputable def S_spec_shForme : FS := { pm := [.dat 2, .dat 2], rm := [.dat 0], f := F_spec_shForme }
theorem M_spec_shForme : Meets gl0 Tryd.prog 88 S_spec_shForme := meets_of (P := Tryd.prog) (c := c_spec_shForme) (fn := Tryd.f88) (pm := S_spec_shForme.pm) (rm := S_spec_shForme.rm) (by kernel_rfl) (lookCons M_spec_l1In (lookCons M_spec_caFind lookNil)) follows_mixed Tryd.func88 (by kernel_rfl) (by kernel_rfl) rfl
/-- loop.example/g01054/spec.tyLetters -/
@[reducible] noncomputable def c_spec_tyLetters : Cx := { K := [.dat 0, .dat 0, .no, .no, .dat 0, .dat 0, .dat 0, .dat 0, .dat 0, .dat 0, .dat 0, .dat 0, .dat 0, .dat 0, .dat 0, .dat 0, .dat 0, .dat 0, .dat 0, .dat 0, .dat 0, .dat 0, .dat 0, .dat 0, .dat 0, .dat 0], T := [(3, ty3), (5, ty5), (9, ty9)], S := [(74, S_spec_l1In)], H := [(0, ([0, 1, 5], [0, 1]))], res := [.tmp 4], ios := [], G := gl0 }
noncomputable def F_spec_tyLetters : List D → Option Out := denF c_spec_tyLetters Tryd.f125
@[reducible] noncomputable def S_spec_tyLetters : FS := { pm := [.dat 0, .dat 0], rm := [.dat 0], f := F_spec_tyLetters }
theorem M_spec_tyLetters : Meets gl0 Tryd.prog 125 S_spec_tyLetters := meets_of (P := Tryd.prog) (c := c_spec_tyLetters) (fn := Tryd.f125) (pm := S_spec_tyLetters.pm) (rm := S_spec_tyLetters.rm) (by kernel_rfl) (lookCons M_spec_l1In lookNil) follows_mixed Tryd.func125 (by kernel_rfl) (by kernel_rfl) rfl
/-- loop.example/g01054/spec.caBox -/
@[reducible] noncomputable def c_spec_caBox : Cx := { K := [.dat 0, .box 4 0 false, .dat 0, .ref 1, .dat 0, .dat 0, .dat 0, .ref 1, .dat 0, .dat 0, .dat 0, .dat 0, .ref 1, .dat 0, .dat 0, .dat 0, .dat 0, .ref 1, .dat 0, .dat 0, .dat 0], T := [(3, ty3), (9, ty9), (116, ty116)], S := [(74, S_spec_l1In), (125, S_spec_tyLetters)], H := [], res := [.tmp 2], ios := [], G := gl0 }
noncomputable def F_spec_caBox : List D → Option Out := denF c_spec_caBox Tryd.f109
@[reducible] noncomputable def S_spec_caBox : FS := { pm := [.dat 0], rm := [.dat 0], f := F_spec_caBox }
theorem M_spec_caBox : Meets gl0 Tryd.prog 109 S_spec_caBox := meets_of (P := Tryd.prog) (c := c_spec_caBox) (fn := Tryd.f109) (pm := S_spec_caBox.pm) (rm := S_spec_caBox.rm) (by kernel_rfl) (lookCons M_spec_l1In (lookCons M_spec_tyLetters lookNil)) follows_mixed Tryd.func109 (by kernel_rfl) (by kernel_rfl) rfl
/-- loop.example/g01054/spec.caGood -/
@[reducible] noncomputable def c_spec_caGood : Cx := { K := [.dat 2, .no, .dat 0, .dat 0, .box 4 0 false, .no, .box 4 0 false, .dat 2, .dat 0, .dat 0, .dat 0, .dat 0, .dat 2, .dat 0, .dat 0, .dat 0, .dat 0, .dat 0, .dat 0, .dat 0, .dat 0, .dat 2, .dat 0, .dat 0, .dat 2, .dat 2, .dat 0, .ref 4, .dat 0, .dat 0, .dat 0, .dat 0, .dat 2, .dat 0, .dat 2, .dat 0, .dat 0, .dat 0, .dat 2, .dat 0, .ref 6, .dat 0, .ref 4, .dat 0, .dat 0, .dat 0, .ref 6, .dat 0, .ref 4, .dat 0, .dat 0, .dat 0, .dat 0, .dat 0, .dat 2, .dat 0, .dat 0], T := [(3, ty3), (9, ty9), (44, ty44), (116, ty116)], S := [(74, S_spec_l1In), (109, S_spec_caBox)], H := [(0, ([0, 7, 8, 9], [0])), (2, ([0, 4, 7, 8, 9, 34, 35, 36], [0, 7, 8, 9]))], res := [.tmp 2], ios := [], G := gl0 }
noncomputable def F_spec_caGood : List D → Option Out := denF c_spec_caGood Tryd.f89
@[reducible] noncomputable def S_spec_caGood : FS := { pm := [.dat 2], rm := [.dat 0], f := F_spec_caGood }
theorem M_spec_caGood : Meets gl0 Tryd.prog 89 S_spec_caGood := meets_of (P := Tryd.prog) (c := c_spec_caGood) (fn := Tryd.f89) (pm := S_spec_caGood.pm) (rm := S_spec_caGood.rm) (by kernel_rfl) (lookCons M_spec_l1In (lookCons M_spec_caBox lookNil)) follows_mixed Tryd.func89 (by kernel_rfl) (by kernel_rfl) rfl
/-- loop.example/g01054/spec.shGood -/
@[reducible] noncomputable def c_spec_shGood : Cx := { K := [.dat 2, .box 4 2 false, .dat 0, .dat 0, .dat 0, .box 4 2 false, .ref 1, .dat 2, .dat 0, .dat 0, .dat 0, .dat 0, .dat 2, .dat 2, .ref 1, .dat 2, .dat 2, .dat 0, .dat 0, .dat 0, .dat 0, .dat 0, .dat 0, .ref 1, .dat 2, .dat 0, .dat 0, .dat 2, .dat 2, .dat 0, .ref 5, .dat 0, .dat 0, .dat 0, .dat 0, .dat 0, .ref 5, .dat 0, .dat 0, .dat 0, .ref 1, .dat 2, .dat 0, .dat 0, .ref 1, .dat 2, .dat 0, .dat 0, .dat 0, .dat 0, .ref 1, .dat 0, .dat 0, .dat 0, .dat 0, .ref 1, .dat 0, .dat 0, .dat 0, .dat 0], T := [(3, ty3), (4, ty4), (44, ty44), (45, ty45), (47, ty47), (71, ty71), (82, ty82), (116, ty116)], S := [(74, S_spec_l1In), (88, S_spec_shForme), (89, S_spec_caGood)], H := [(0, ([1, 3, 7, 8, 9], [1, 3]))], res := [.tmp 2], ios := [], G := gl0 }
noncomputable def F_spec_shGood : List D → Option Out := denF c_spec_shGood Tryd.f58
@[reducible] noncomputable def S_spec_shGood : FS := { pm := [.dat 2], rm := [.dat 0], f := F_spec_shGood }
theorem M_spec_shGood : Meets gl0 Tryd.prog 58 S_spec_shGood := meets_of (P := Tryd.prog) (c := c_spec_shGood) (fn := Tryd.f58) (pm := S_spec_shGood.pm) (rm := S_spec_shGood.rm) (by kernel_rfl) (lookCons M_spec_l1In (lookCons M_spec_shForme (lookCons M_spec_caGood lookNil))) follows_mixed Tryd.func58 (by kernel_rfl) (by kernel_rfl) rfl
/-- loop.example/g01054/spec.ShopText -/
@[reducible] noncomputable def c_spec_ShopText : Cx := { K := [.dat 2, .box 4 2 false, .dat 0, .dat 0, .dat 0, .no, .box 4 2 false, .dat 2, .dat 0, .dat 0, .ref 1, .dat 2, .dat 0, .dat 0, .dat 0, .dat 2, .dat 2, .dat 0, .ref 6, .dat 0, .dat 0, .dat 0, .ref 6, .dat 2, .dat 0, .dat 0, .dat 0, .dat 0, .ref 6, .dat 0, .dat 0, .dat 0, .dat 0, .ref 6, .dat 0, .dat 0, .dat 0, .dat 0, .dat 0, .dat 0, .dat 0, .dat 0, .ref 1, .dat 0, .dat 0, .dat 0, .dat 0, .ref 1, .dat 0, .dat 0, .dat 0], T := [(3, ty3), (4, ty4), (9, ty9), (44, ty44), (45, ty45), (47, ty47), (71, ty71), (82, ty82)], S := [(58, S_spec_shGood), (59, S_spec_l1Num)], H := [(0, ([1, 4, 11, 12, 13], [1, 4]))], res := [.tmp 2, .tmp 3], ios := [], G := gl0 }
noncomputable def F_spec_ShopText : List D → Option Out := denF c_spec_ShopText Tryd.f24
@[reducible] noncomputable def S_spec_ShopText : FS := { pm := [.dat 2], rm := [.dat 0, .dat 0], f := F_spec_ShopText }
theorem M_spec_ShopText : Meets gl0 Tryd.prog 24 S_spec_ShopText := meets_of (P := Tryd.prog) (c := c_spec_ShopText) (fn := Tryd.f24) (pm := S_spec_ShopText.pm) (rm := S_spec_ShopText.rm) (by kernel_rfl) (lookCons M_spec_shGood (lookCons M_spec_l1Num lookNil)) follows_mixed Tryd.func24 (by kernel_rfl) (by kernel_rfl) rfl
/-- loop.example/g01054/impl.isFormeId -/
@[reducible] noncomputable def c_impl_isFormeId : Cx := { K := [.dat 0, .no, .dat 0, .dat 0, .dat 0], T := [], S := [(75, S_impl_within)], H := [], res := [.tmp 2], ios := [], G := gl0 }
noncomputable def F_impl_isFormeId : List D → Option Out := denF c_impl_isFormeId Tryd.f111
@[reducible] noncomputable def S_impl_isFormeId : FS := { pm := [.dat 0], rm := [.dat 0], f := F_impl_isFormeId }
theorem M_impl_isFormeId : Meets gl0 Tryd.prog 111 S_impl_isFormeId := meets_of (P := Tryd.prog) (c := c_impl_isFormeId) (fn := Tryd.f111) (pm := S_impl_isFormeId.pm) (rm := S_impl_isFormeId.rm) (by kernel_rfl) (lookCons M_impl_within lookNil) follows_mixed Tryd.func111 (by kernel_rfl) (by kernel_rfl) rfl
/-- loop.example/g01054/impl.boxAt -/
@[reducible] noncomputable def c_impl_boxAt : Cx := { K := [.dat 2, .dat 0, .no, .no, .dat 0, .dat 0, .box 4 0 false, .dat 2, .dat 0, .dat 0, .dat 0, .dat 0, .dat 2, .dat 0, .ref 6, .dat 0, .dat 0, .dat 0, .dat 0, .dat 0], T := [(3, ty3), (9, ty9), (44, ty44), (116, ty116)], S := [], H := [(0, ([1, 7, 8, 9], []))], res := [.tmp 4], ios := [], G := gl0 }
noncomputable def F_impl_boxAt : List D → Option Out := denF c_impl_boxAt Tryd.f126
@[reducible] noncomputable def S_impl_boxAt : FS := { pm := [.dat 2, .dat 0], rm := [.dat 0], f := F_impl_boxAt }
theorem M_impl_boxAt : Meets gl0 Tryd.prog 126 S_impl_boxAt := meets_of (P := Tryd.prog) (c := c_impl_boxAt) (fn := Tryd.f126) (pm := S_impl_boxAt.pm) (rm := S_impl_boxAt.rm) (by kernel_rfl) lookNil follows_mixed Tryd.func126 (by kernel_rfl) (by kernel_rfl) rfl
/-- loop.example/g01054/impl.areLetters -/
@[reducible] noncomputable def c_impl_areLetters : Cx := { K := [.dat 0, .dat 0, .dat 0, .no, .no, .no, .dat 0, .dat 0, .dat 0, .dat 0, .dat 0, .dat 0, .dat 0, .dat 0, .dat 0, .dat 0, .dat 0, .dat 0, .dat 0, .dat 0, .dat 0, .dat 0, .dat 0, .dat 0, .dat 0, .dat 0, .dat 0, .dat 0, .dat 0], T := [(3, ty3), (5, ty5), (9, ty9)], S := [(75, S_impl_within)], H := [(0, ([0, 1, 2, 7], [0, 1, 2]))], res := [.tmp 6], ios := [], G := gl0 }
noncomputable def F_impl_areLetters : List D → Option Out := denF c_impl_areLetters Tryd.f143
@[reducible] noncomputable def S_impl_areLetters : FS := { pm := [.dat 0, .dat 0, .dat 0], rm := [.dat 0], f := F_impl_areLetters }
theorem M_impl_areLetters : Meets gl0 Tryd.prog 143 S_impl_areLetters := meets_of (P := Tryd.prog) (c := c_impl_areLetters) (fn := Tryd.f143) (pm := S_impl_areLetters.pm) (rm := S_impl_areLetters.rm) (by kernel_rfl) (lookCons M_impl_within lookNil) follows_mixed Tryd.func143 (by kernel_rfl) (by kernel_rfl) rfl
/-- loop.example/g01054/impl.isCode -/
@[reducible] noncomputable def c_impl_isCode : Cx := { K := [.dat 0, .no, .dat 0, .dat 0, .dat 0], T := [], S := [(143, S_impl_areLetters)], H := [], res := [.tmp 2], ios := [], G := gl0 }
noncomputable def F_impl_isCode : List D → Option Out := denF c_impl_isCode Tryd.f127
@[reducible] noncomputable def S_impl_isCode : FS := { pm := [.dat 0], rm := [.dat 0], f := F_impl_isCode }
theorem M_impl_isCode : Meets gl0 Tryd.prog 127 S_impl_isCode := meets_of (P := Tryd.prog) (c := c_impl_isCode) (fn := Tryd.f127) (pm := S_impl_isCode.pm) (rm := S_impl_isCode.rm) (by kernel_rfl) (lookCons M_impl_areLetters lookNil) follows_mixed Tryd.func127 (by kernel_rfl) (by kernel_rfl) rfl
/-- loop.example/g01054/impl.isPlace -/
@[reducible] noncomputable def c_impl_isPlace : Cx := { K := [.dat 0, .no, .dat 0, .dat 0, .dat 0], T := [], S := [(75, S_impl_within)], H := [], res := [.tmp 2], ios := [], G := gl0 }
noncomputable def F_impl_isPlace : List D → Option Out := denF c_impl_isPlace Tryd.f128
@[reducible] noncomputable def S_impl_isPlace : FS := { pm := [.dat 0], rm := [.dat 0], f := F_impl_isPlace }
theorem M_impl_isPlace : Meets gl0 Tryd.prog 128 S_impl_isPlace := meets_of (P := Tryd.prog) (c := c_impl_isPlace) (fn := Tryd.f128) (pm := S_impl_isPlace.pm) (rm := S_impl_isPlace.rm) (by kernel_rfl) (lookCons M_impl_within lookNil) follows_mixed Tryd.func128 (by kernel_rfl) (by kernel_rfl) rfl
/-- loop.example/g01054/impl.IsBox -/
@[reducible] noncomputable def c_impl_IsBox : Cx := { K := [.dat 0, .box 4 0 false, .dat 0, .ref 1, .dat 0, .dat 0, .dat 0, .ref 1, .dat 0, .dat 0, .dat 0, .dat 0, .ref 1, .dat 0, .dat 0, .dat 0, .dat 0, .ref 1, .dat 0, .dat 0, .dat 0], T := [(3, ty3), (9, ty9), (116, ty116)], S := [(75, S_impl_within), (127, S_impl_isCode), (128, S_impl_isPlace)], H := [], res := [.tmp 2], ios := [], G := gl0 }
noncomputable def F_impl_IsBox : List D → Option Out := denF c_impl_IsBox Tryd.f113
@[reducible] noncomputable def S_impl_IsBox : FS := { pm := [.dat 0], rm := [.dat 0], f := F_impl_IsBox }
theorem M_impl_IsBox : Meets gl0 Tryd.prog 113 S_impl_IsBox := meets_of (P := Tryd.prog) (c := c_impl_IsBox) (fn := Tryd.f113) (pm := S_impl_IsBox.pm) (rm := S_impl_IsBox.rm) (by kernel_rfl) (lookCons M_impl_within (lookCons M_impl_isCode (lookCons M_impl_isPlace lookNil))) follows_mixed Tryd.func113 (by kernel_rfl) (by kernel_rfl) rfl
/-- loop.example/g01054/impl.isTaken -/
@[reducible] noncomputable def c_impl_isTaken : Cx := { K := [.dat 2, .dat 0, .dat 0, .no, .no, .no, .dat 0, .no, .box 4 0 false, .dat 2, .dat 0, .dat 0, .dat 0, .dat 2, .dat 0, .ref 8, .dat 0, .dat 0, .dat 0, .dat 0, .ref 8, .dat 0, .dat 0, .dat 0, .dat 0, .dat 0], T := [(3, ty3), (9, ty9), (44, ty44), (116, ty116)], S := [], H := [(0, ([1, 2, 9, 10, 11], []))], res := [.tmp 6], ios := [], G := gl0 }
noncomputable def F_impl_isTaken : List D → Option Out := denF c_impl_isTaken Tryd.f114
@[reducible] noncomputable def S_impl_isTaken : FS := { pm := [.dat 2, .dat 0, .dat 0], rm := [.dat 0], f := F_impl_isTaken }
theorem M_impl_isTaken : Meets gl0 Tryd.prog 114 S_impl_isTaken := meets_of (P := Tryd.prog) (c := c_impl_isTaken) (fn := Tryd.f114) (pm := S_impl_isTaken.pm) (rm := S_impl_isTaken.rm) (by kernel_rfl) lookNil follows_mixed Tryd.func114 (by kernel_rfl) (by kernel_rfl) rfl
/-- loop.example/g01054/impl.IsCase -/
@[reducible] noncomputable def c_impl_IsCase : Cx := { K := [.dat 2, .no, .dat 0, .dat 0, .box 4 0 false, .dat 2, .dat 0, .dat 0, .dat 0, .dat 0, .dat 2, .dat 0, .dat 0, .dat 0, .dat 0, .dat 0, .dat 0, .dat 0, .dat 0, .dat 2, .dat 0, .dat 0, .dat 2, .dat 2, .dat 0, .ref 4, .dat 0, .dat 0, .dat 0, .dat 0, .dat 0, .dat 2, .dat 0, .dat 2, .ref 4, .dat 0, .ref 4, .dat 0, .dat 0, .dat 0, .dat 0, .dat 2, .dat 0, .dat 0], T := [(3, ty3), (9, ty9), (44, ty44), (116, ty116)], S := [(75, S_impl_within), (113, S_impl_IsBox), (114, S_impl_isTaken)], H := [(0, ([0, 5, 6, 7], [0]))], res := [.tmp 2], ios := [], G := gl0 }
noncomputable def F_impl_IsCase : List D → Option Out := denF c_impl_IsCase Tryd.f93
@[reducible] noncomputable def S_impl_IsCase : FS := { pm := [.dat 2], rm := [.dat 0], f := F_impl_IsCase }
theorem M_impl_IsCase : Meets gl0 Tryd.prog 93 S_impl_IsCase := meets_of (P := Tryd.prog) (c := c_impl_IsCase) (fn := Tryd.f93) (pm := S_impl_IsCase.pm) (rm := S_impl_IsCase.rm) (by kernel_rfl) (lookCons M_impl_within (lookCons M_impl_IsBox (lookCons M_impl_isTaken lookNil))) follows_mixed Tryd.func93 (by kernel_rfl) (by kernel_rfl) rfl
/-- loop.example/g01054/impl.areCodes -/
@[reducible] noncomputable def c_impl_areCodes : Cx := { K := [.dat 2, .dat 2, .no, .no, .dat 0, .no, .dat 0, .dat 2, .dat 0, .dat 0, .dat 0, .dat 2, .dat 0, .dat 2, .dat 0, .dat 0, .dat 0, .dat 0, .dat 2, .dat 0, .dat 0, .dat 2, .dat 0, .dat 0, .dat 0], T := [(3, ty3), (9, ty9), (71, ty71)], S := [(93, S_impl_IsCase), (126, S_impl_boxAt)], H := [(0, ([0, 1, 7, 8, 9], [0, 1]))], res := [.tmp 4], ios := [], G := gl0 }
noncomputable def F_impl_areCodes : List D → Option Out := denF c_impl_areCodes Tryd.f112
@[reducible] noncomputable def S_impl_areCodes : FS := { pm := [.dat 2, .dat 2], rm := [.dat 0], f := F_impl_areCodes }
theorem M_impl_areCodes : Meets gl0 Tryd.prog 112 S_impl_areCodes := meets_of (P := Tryd.prog) (c := c_impl_areCodes) (fn := Tryd.f112) (pm := S_impl_areCodes.pm) (rm := S_impl_areCodes.rm) (by kernel_rfl) (lookCons M_impl_IsCase (lookCons M_impl_boxAt lookNil)) follows_mixed Tryd.func112 (by kernel_rfl) (by kernel_rfl) rfl
/-- loop.example/g01054/impl.isForme -/
@[reducible] noncomputable def c_impl_isForme : Cx := { K := [.dat 2, .dat 2, .no, .box 4 2 false, .dat 0, .ref 3, .dat 0, .dat 0, .dat 0, .dat 2, .ref 3, .dat 2, .dat 0, .dat 0, .dat 0, .ref 3, .dat 2, .dat 0, .dat 0, .dat 0, .dat 0, .ref 3, .dat 0, .dat 0, .dat 0, .dat 0, .ref 3, .dat 0, .dat 0, .dat 0, .ref 3, .dat 2, .dat 0, .dat 0, .dat 0, .dat 0], T := [(3, ty3), (4, ty4), (9, ty9), (71, ty71), (82, ty82)], S := [(75, S_impl_within), (111, S_impl_isFormeId), (112, S_impl_areCodes)], H := [], res := [.tmp 4], ios := [], G := gl0 }
noncomputable def F_impl_isForme : List D → Option Out := denF c_impl_isForme Tryd.f92
@[reducible] noncomputable def S_impl_isForme : FS := { pm := [.dat 2, .dat 2], rm := [.dat 0], f := F_impl_isForme }
theorem M_impl_isForme : Meets gl0 Tryd.prog 92 S_impl_isForme := meets_of (P := Tryd.prog) (c := c_impl_isForme) (fn := Tryd.f92) (pm := S_impl_isForme.pm) (rm := S_impl_isForme.rm) (by kernel_rfl) (lookCons M_impl_within (lookCons M_impl_isFormeId (lookCons M_impl_areCodes lookNil))) follows_mixed Tryd.func92 (by kernel_rfl) (by kernel_rfl) rfl
/-- loop.example/g01054/impl.IsShop -/
@[reducible] noncomputable def c_impl_IsShop : Cx := { K := [.dat 2, .box 4 2 false, .dat 0, .dat 0, .dat 0, .box 4 2 false, .ref 1, .dat 2, .dat 0, .dat 0, .dat 0, .dat 0, .dat 2, .dat 2, .ref 1, .dat 2, .dat 2, .dat 0, .dat 0, .dat 0, .dat 0, .dat 0, .dat 0, .ref 1, .dat 2, .dat 0, .dat 0, .dat 2, .dat 2, .dat 0, .ref 5, .dat 0, .dat 0, .dat 0, .dat 0, .dat 0, .ref 5, .dat 0, .dat 0, .dat 0, .ref 1, .dat 2, .dat 0, .dat 0, .ref 1, .dat 2, .dat 0, .dat 0, .dat 0, .dat 0, .ref 1, .dat 0, .dat 0, .dat 0, .dat 0, .ref 1, .dat 0, .dat 0, .dat 0, .dat 0, .ref 1, .dat 0, .dat 0, .dat 0, .dat 0], T := [(3, ty3), (4, ty4), (44, ty44), (45, ty45), (47, ty47), (71, ty71), (82, ty82), (116, ty116)], S := [(75, S_impl_within), (92, S_impl_isForme), (93, S_impl_IsCase)], H := [(0, ([1, 3, 7, 8, 9], [1, 3]))], res := [.tmp 2], ios := [], G := gl0 }
noncomputable def F_impl_IsShop : List D → Option Out := denF c_impl_IsShop Tryd.f62
@[reducible] noncomputable def S_impl_IsShop : FS := { pm := [.dat 2], rm := [.dat 0], f := F_impl_IsShop }
theorem M_impl_IsShop : Meets gl0 Tryd.prog 62 S_impl_IsShop := meets_of (P := Tryd.prog) (c := c_impl_IsShop) (fn := Tryd.f62) (pm := S_impl_IsShop.pm) (rm := S_impl_IsShop.rm) (by kernel_rfl) (lookCons M_impl_within (lookCons M_impl_isForme (lookCons M_impl_IsCase lookNil))) follows_mixed Tryd.func62 (by kernel_rfl) (by kernel_rfl) rfl
/-- loop.example/g01054/impl.ShopText -/
@[reducible] noncomputable def c_impl_ShopText : Cx := { K := [.dat 2, .box 4 2 false, .dat 0, .dat 0, .dat 0, .no, .box 4 2 false, .dat 2, .dat 0, .dat 0, .ref 1, .dat 2, .dat 0, .dat 0, .dat 0, .dat 2, .dat 2, .dat 0, .ref 6, .dat 0, .dat 0, .dat 0, .ref 6, .dat 2, .dat 0, .dat 0, .dat 0, .dat 0, .ref 6, .dat 0, .dat 0, .dat 0, .dat 0, .ref 6, .dat 0, .dat 0, .dat 0, .dat 0, .dat 0, .dat 0, .dat 0, .dat 0, .ref 1, .dat 0, .dat 0, .dat 0, .dat 0, .ref 1, .dat 0, .dat 0, .dat 0], T := [(3, ty3), (4, ty4), (9, ty9), (44, ty44), (45, ty45), (47, ty47), (71, ty71), (82, ty82)], S := [(62, S_impl_IsShop), (63, S_strconv_Itoa)], H := [(0, ([1, 4, 11, 12, 13], [1, 4]))], res := [.tmp 2, .tmp 3], ios := [], G := gl1 }
noncomputable def F_impl_ShopText : List D → Option Out := denF c_impl_ShopText Tryd.f26
@[reducible] noncomputable def S_impl_ShopText : FS := { pm := [.dat 2], rm := [.dat 0, .dat 0], f := F_impl_ShopText }
theorem M_impl_ShopText : Meets gl1 Tryd.prog 26 S_impl_ShopText := meets_of (P := Tryd.prog) (c := c_impl_ShopText) (fn := Tryd.f26) (pm := S_impl_ShopText.pm) (rm := S_impl_ShopText.rm) (by kernel_rfl) (lookCons (meets_mono gl01 M_impl_IsShop) (lookCons M_strconv_Itoa lookNil)) follows_mixed Tryd.func26 (by kernel_rfl) (by kernel_rfl) rfl
/-- loop.example/g01054/laws.eqBox -/
@[reducible] noncomputable def c_laws_eqBox : Cx := { K := [.dat 0, .dat 0, .box 4 0 false, .box 4 0 false, .dat 0, .ref 2, .dat 0, .ref 3, .dat 0, .dat 0, .ref 2, .dat 0, .ref 3, .dat 0, .dat 0, .ref 2, .dat 0, .ref 3, .dat 0, .dat 0, .ref 2, .dat 0, .ref 3, .dat 0, .dat 0], T := [(3, ty3), (9, ty9), (116, ty116)], S := [], H := [], res := [.tmp 4], ios := [], G := gl0 }
noncomputable def F_laws_eqBox : List D → Option Out := denF c_laws_eqBox Tryd.f95
@[reducible] noncomputable def S_laws_eqBox : FS := { pm := [.dat 0, .dat 0], rm := [.dat 0], f := F_laws_eqBox }
theorem M_laws_eqBox : Meets gl0 Tryd.prog 95 S_laws_eqBox := meets_of (P := Tryd.prog) (c := c_laws_eqBox) (fn := Tryd.f95) (pm := S_laws_eqBox.pm) (rm := S_laws_eqBox.rm) (by kernel_rfl) lookNil follows_mixed Tryd.func95 (by kernel_rfl) (by kernel_rfl) rfl
/-- loop.example/g01054/laws.eqBoxS -/
@[reducible] noncomputable def c_laws_eqBoxS : Cx := { K := [.dat 2, .dat 2, .no, .no, .dat 0, .dat 0, .dat 2, .dat 0, .dat 2, .dat 0, .dat 0, .dat 0, .dat 2, .dat 0, .dat 0, .dat 0, .dat 0, .dat 2, .dat 0, .dat 2, .dat 0, .dat 2, .dat 0, .dat 2, .dat 0, .dat 0, .dat 0], T := [(3, ty3), (9, ty9), (44, ty44), (116, ty116)], S := [(95, S_laws_eqBox)], H := [(0, ([0, 1, 5], []))], res := [.tmp 4], ios := [], G := gl0 }
noncomputable def F_laws_eqBoxS : List D → Option Out := denF c_laws_eqBoxS Tryd.f64
@[reducible] noncomputable def S_laws_eqBoxS : FS := { pm := [.dat 2, .dat 2], rm := [.dat 0], f := F_laws_eqBoxS }
theorem M_laws_eqBoxS : Meets gl0 Tryd.prog 64 S_laws_eqBoxS := meets_of (P := Tryd.prog) (c := c_laws_eqBoxS) (fn := Tryd.f64) (pm := S_laws_eqBoxS.pm) (rm := S_laws_eqBoxS.rm) (by kernel_rfl) (lookCons M_laws_eqBox lookNil) follows_mixed Tryd.func64 (by kernel_rfl) (by kernel_rfl) rfl
/-- loop.example/g01054/laws.eqStringS -/
@[reducible] noncomputable def c_laws_eqStringS : Cx := { K := [.dat 2, .dat 2, .no, .no, .dat 0, .dat 0, .dat 2, .dat 0, .dat 2, .dat 0, .dat 0, .dat 0, .dat 2, .dat 0, .dat 0, .dat 0, .dat 0, .dat 2, .dat 0, .dat 2, .dat 0, .dat 2, .dat 0, .dat 2, .dat 0, .dat 0], T := [(3, ty3), (9, ty9), (71, ty71)], S := [], H := [(0, ([0, 1, 5], []))], res := [.tmp 4], ios := [], G := gl0 }
noncomputable def F_laws_eqStringS : List D → Option Out := denF c_laws_eqStringS Tryd.f116
@[reducible] noncomputable def S_laws_eqStringS : FS := { pm := [.dat 2, .dat 2], rm := [.dat 0], f := F_laws_eqStringS }
theorem M_laws_eqStringS : Meets gl0 Tryd.prog 116 S_laws_eqStringS := meets_of (P := Tryd.prog) (c := c_laws_eqStringS) (fn := Tryd.f116) (pm := S_laws_eqStringS.pm) (rm := S_laws_eqStringS.rm) (by kernel_rfl) lookNil follows_mixed Tryd.func116 (by kernel_rfl) (by kernel_rfl) rfl
/-- loop.example/g01054/laws.eqForme -/
@[reducible] noncomputable def c_laws_eqForme : Cx := { K := [.dat 2, .dat 2, .box 4 2 false, .box 4 2 false, .dat 0, .ref 2, .dat 0, .ref 3, .dat 0, .dat 0, .ref 2, .dat 2, .ref 3, .dat 2, .dat 0, .dat 0, .ref 2, .dat 0, .ref 3, .dat 0, .dat 0, .ref 2, .dat 0, .ref 3, .dat 0, .dat 0], T := [(3, ty3), (4, ty4), (9, ty9), (71, ty71), (82, ty82)], S := [(116, S_laws_eqStringS)], H := [], res := [.tmp 4], ios := [], G := gl0 }
noncomputable def F_laws_eqForme : List D → Option Out := denF c_laws_eqForme Tryd.f96
@[reducible] noncomputable def S_laws_eqForme : FS := { pm := [.dat 2, .dat 2], rm := [.dat 0], f := F_laws_eqForme }
theorem M_laws_eqForme : Meets gl0 Tryd.prog 96 S_laws_eqForme := meets_of (P := Tryd.prog) (c := c_laws_eqForme) (fn := Tryd.f96) (pm := S_laws_eqForme.pm) (rm := S_laws_eqForme.rm) (by kernel_rfl) (lookCons M_laws_eqStringS lookNil) follows_mixed Tryd.func96 (by kernel_rfl) (by kernel_rfl) rfl
/-- loop.example/g01054/laws.eqFormeS -/
@[reducible] noncomputable def c_laws_eqFormeS : Cx := { K := [.dat 2, .dat 2, .no, .no, .dat 0, .dat 0, .dat 2, .dat 0, .dat 2, .dat 0, .dat 0, .dat 0, .dat 2, .dat 0, .dat 0, .dat 0, .dat 0, .dat 2, .dat 0, .dat 2, .dat 2, .dat 2, .dat 0, .dat 2, .dat 2, .dat 0, .dat 0], T := [(3, ty3), (4, ty4), (45, ty45), (71, ty71), (82, ty82)], S := [(96, S_laws_eqForme)], H := [(0, ([0, 1, 5], []))], res := [.tmp 4], ios := [], G := gl0 }
noncomputable def F_laws_eqFormeS : List D → Option Out := denF c_laws_eqFormeS Tryd.f65
@[reducible] noncomputable def S_laws_eqFormeS : FS := { pm := [.dat 2, .dat 2], rm := [.dat 0], f := F_laws_eqFormeS }
theorem M_laws_eqFormeS : Meets gl0 Tryd.prog 65 S_laws_eqFormeS := meets_of (P := Tryd.prog) (c := c_laws_eqFormeS) (fn := Tryd.f65) (pm := S_laws_eqFormeS.pm) (rm := S_laws_eqFormeS.rm) (by kernel_rfl) (lookCons M_laws_eqForme lookNil) follows_mixed Tryd.func65 (by kernel_rfl) (by kernel_rfl) rfl
/-- loop.example/g01054/laws.eqShop -/
@[reducible] noncomputable def c_laws_eqShop : Cx := { K := [.dat 2, .dat 2, .box 4 2 false, .box 4 2 false, .dat 0, .ref 2, .dat 2, .ref 3, .dat 2, .dat 0, .dat 0, .ref 2, .dat 2, .ref 3, .dat 2, .dat 0, .dat 0, .ref 2, .dat 0, .ref 3, .dat 0, .dat 0, .ref 2, .dat 0, .ref 3, .dat 0, .dat 0], T := [(3, ty3), (44, ty44), (45, ty45), (47, ty47), (82, ty82), (116, ty116)], S := [(64, S_laws_eqBoxS), (65, S_laws_eqFormeS)], H := [], res := [.tmp 4], ios := [], G := gl0 }
noncomputable def F_laws_eqShop : List D → Option Out := denF c_laws_eqShop Tryd.f27
@[reducible] noncomputable def S_laws_eqShop : FS := { pm := [.dat 2, .dat 2], rm := [.dat 0], f := F_laws_eqShop }
theorem M_laws_eqShop : Meets gl0 Tryd.prog 27 S_laws_eqShop := meets_of (P := Tryd.prog) (c := c_laws_eqShop) (fn := Tryd.f27) (pm := S_laws_eqShop.pm) (rm := S_laws_eqShop.rm) (by kernel_rfl) (lookCons M_laws_eqBoxS (lookCons M_laws_eqFormeS lookNil)) follows_mixed Tryd.func27 (by kernel_rfl) (by kernel_rfl) rfl
/-- loop.example/g01054/laws.FnExactShopText -/
@[reducible] noncomputable def c_laws_FnExactShopText : Cx := { K := [.dat 2, .box 4 2 false, .dat 0, .dat 0, .dat 0, .dat 0, .box 4 1 false, .dat 0, .dat 0, .dat 2, .dat 0, .dat 0, .dat 0, .dat 0, .tup [.dat 0, .dat 0], .dat 2, .dat 1, .tup [.dat 0, .dat 0], .dat 0, .dat 0, .dat 2, .dat 1, .tup [.dat 0, .dat 0], .dat 1, .tup [.dat 0, .dat 0], .dat 0, .dat 0, .dat 0, .dat 0, .dat 0, .dat 0, .dat 0, .dat 0, .dat 0, .dat 0, .dat 1, .dat 2, .dat 1, .dat 0, .dat 0], T := [(3, ty3), (4, ty4), (9, ty9), (38, ty38), (39, ty39), (41, ty41), (44, ty44), (45, ty45), (47, ty47)], S := [(23, S_laws_szShop), (24, S_spec_ShopText), (25, S_laws_toShop), (26, S_impl_ShopText), (27, S_laws_eqShop)], H := [], res := [.tmp 2], ios := [], G := gl1 }
noncomputable def F_laws_FnExactShopText : List D → Option Out := denF c_laws_FnExactShopText Tryd.f6
@[reducible] noncomputable def S_laws_FnExactShopText : FS := { pm := [.dat 2], rm := [.dat 0], f := F_laws_FnExactShopText }
theorem M_laws_FnExactShopText : Meets gl1 Tryd.prog 6 S_laws_FnExactShopText := meets_of (P := Tryd.prog) (c := c_laws_FnExactShopText) (fn := Tryd.f6) (pm := S_laws_FnExactShopText.pm) (rm := S_laws_FnExactShopText.rm) (by kernel_rfl) (lookCons (meets_mono gl01 M_laws_szShop) (lookCons (meets_mono gl01 M_spec_ShopText) (lookCons (meets_mono gl01 M_laws_toShop) (lookCons M_impl_ShopText (lookCons (meets_mono gl01 M_laws_eqShop) lookNil))))) follows_mixed Tryd.func6 (by kernel_rfl) (by kernel_rfl) rfl
/-- loop.example/g01054/spec.l1Read -/
@[reducible] noncomputable def c_spec_l1Read : Cx := { K := [.dat 0, .no, .dat 0, .dat 0, .dat 0, .dat 0, .dat 0, .dat 0, .dat 0, .dat 0, .dat 0, .dat 0, .dat 0, .dat 0, .dat 0, .dat 0, .dat 0, .dat 0, .dat 0, .dat 0, .dat 0, .dat 0, .dat 0, .dat 0, .dat 0, .dat 0, .dat 0, .dat 0, .dat 0, .dat 0, .dat 0, .dat 0, .dat 0, .dat 0, .dat 0, .dat 0, .dat 0, .dat 0, .dat 0, .dat 0, .dat 0, .dat 0, .dat 0, .dat 0], T := [(3, ty3), (5, ty5), (9, ty9)], S := [(74, S_spec_l1In)], H := [(0, ([0, 3, 4], [3]))], res := [.tmp 2], ios := [], G := gl0 }
noncomputable def F_spec_l1Read : List D → Option Out := denF c_spec_l1Read Tryd.f67
@[reducible] noncomputable def S_spec_l1Read : FS := { pm := [.dat 0], rm := [.dat 0], f := F_spec_l1Read }
theorem M_spec_l1Read : Meets gl0 Tryd.prog 67 S_spec_l1Read := meets_of (P := Tryd.prog) (c := c_spec_l1Read) (fn := Tryd.f67) (pm := S_spec_l1Read.pm) (rm := S_spec_l1Read.rm) (by kernel_rfl) (lookCons M_spec_l1In lookNil) follows_mixed Tryd.func67 (by kernel_rfl) (by kernel_rfl) rfl
/-- loop.example/g01054/spec.ParseOrder -/
@[reducible] noncomputable def c_spec_ParseOrder : Cx := { K := [.dat 0, .no, .box 4 0 false, .dat 0, .dat 1, .dat 1, .box 4 0 false, .dat 0, .dat 1, .dat 1, .dat 0, .dat 0, .dat 0, .dat 1, .dat 1, .dat 0, .dat 0, .dat 0, .dat 0, .dat 1, .dat 1, .dat 0, .dat 1, .dat 1, .dat 0, .dat 0, .dat 0, .dat 1, .dat 1, .dat 0, .dat 0, .dat 0, .dat 1, .dat 1, .dat 0, .dat 0, .dat 1, .dat 1, .dat 0, .dat 0, .dat 1, .dat 1, .dat 0, .dat 0, .dat 0, .dat 0, .dat 0, .dat 0, .dat 0, .dat 0, .dat 0, .dat 0, .dat 0, .dat 0, .dat 0, .dat 0], T := [(3, ty3), (9, ty9), (26, ty26), (71, ty71)], S := [(44, S_spec_orOne), (45, S_spec_orText), (66, S_spec_l1Split), (67, S_spec_l1Read)], H := [], res := [.cell 2 26, .tmp 3], ios := [], G := gl0 }
noncomputable def F_spec_ParseOrder : List D → Option Out := denF c_spec_ParseOrder Tryd.f28
@[reducible] noncomputable def S_spec_ParseOrder : FS := { pm := [.dat 0], rm := [.dat 0, .dat 0], f := F_spec_ParseOrder }
theorem M_spec_ParseOrder : Meets gl0 Tryd.prog 28 S_spec_ParseOrder := meets_of (P := Tryd.prog) (c := c_spec_ParseOrder) (fn := Tryd.f28) (pm := S_spec_ParseOrder.pm) (rm := S_spec_ParseOrder.rm) (by kernel_rfl) (lookCons M_spec_orOne (lookCons M_spec_orText (lookCons M_spec_l1Split (lookCons M_spec_l1Read lookNil)))) follows_mixed Tryd.func28 (by kernel_rfl) (by kernel_rfl) rfl
/-- loop.example/g01054/impl.numbersIn -/
@[reducible] noncomputable def c_impl_numbersIn : Cx := { K := [.dat 0, .no, .own 1 0 false, .own 1 0 false, .no, .dat 0, .dat 0, .dat 0, .own 1 0 false, .dat 0, .dat 1, .dat 0, .dat 0, .dat 0, .dat 1, .dat 0, .tup [.dat 0, .dat 0], .dat 0, .tup [.dat 0, .dat 0], .dat 0, .dat 0, .dat 0, .dat 0, .own 1 0 false, .own 1 0 false, .dat 0, .dat 1, .own 1 0 false, .dat 0, .own 1 0 false], T := [(3, ty3), (9, ty9), (71, ty71), (90, ty90), (105, ty105)], S := [(97, S_strings_FieldsFunc), (99, S_strconv_Atoi)], H := [(0, ([3, 10, 11, 12], [3]))], res := [.tmp 2], ios := [], G := gl2 }
noncomputable def F_impl_numbersIn : List D → Option Out := denF c_impl_numbersIn Tryd.f68
@[reducible] noncomputable def S_impl_numbersIn : FS := { pm := [.dat 0], rm := [.own 1 0 false], f := F_impl_numbersIn }
theorem M_impl_numbersIn : Meets gl2 Tryd.prog 68 S_impl_numbersIn := meets_of (P := Tryd.prog) (c := c_impl_numbersIn) (fn := Tryd.f68) (pm := S_impl_numbersIn.pm) (rm := S_impl_numbersIn.rm) (by kernel_rfl) (lookCons (meets_mono gl02 M_strings_FieldsFunc) (lookCons M_strconv_Atoi lookNil)) follows_mixed Tryd.func68 (by kernel_rfl) (by kernel_rfl) rfl
/-- loop.example/g01054/impl.ParseOrder -/
@[reducible] noncomputable def c_impl_ParseOrder : Cx := { K := [.dat 0, .no, .box 4 0 false, .dat 0, .dat 1, .box 4 0 false, .dat 0, .dat 1, .dat 1, .dat 0, .dat 0, .dat 0, .dat 1, .dat 1, .dat 0, .dat 1, .dat 1, .dat 0, .dat 1, .dat 1, .dat 0, .dat 1, .dat 1, .dat 0, .dat 0, .dat 0, .dat 0, .dat 0, .dat 0, .dat 0, .dat 0, .dat 0, .dat 0, .dat 0, .dat 0, .dat 0], T := [(3, ty3), (9, ty9), (26, ty26), (90, ty90)], S := [(46, S_impl_isOrder), (47, S_impl_orderText), (68, S_impl_numbersIn)], H := [], res := [.cell 2 26, .tmp 3], ios := [], G := gl2 }
noncomputable def F_impl_ParseOrder : List D → Option Out := denF c_impl_ParseOrder Tryd.f29
@[reducible] noncomputable def S_impl_ParseOrder : FS := { pm := [.dat 0], rm := [.dat 0, .dat 0], f := F_impl_ParseOrder }
theorem M_impl_ParseOrder : Meets gl2 Tryd.prog 29 S_impl_ParseOrder := meets_of (P := Tryd.prog) (c := c_impl_ParseOrder) (fn := Tryd.f29) (pm := S_impl_ParseOrder.pm) (rm := S_impl_ParseOrder.rm) (by kernel_rfl) (lookCons (meets_mono gl02 M_impl_isOrder) (lookCons (meets_mono gl12 M_impl_orderText) (lookCons M_impl_numbersIn lookNil))) follows_mixed Tryd.func29 (by kernel_rfl) (by kernel_rfl) rfl
/-- loop.example/g01054/laws.eqOrder -/
@[reducible] noncomputable def c_laws_eqOrder : Cx := { K := [.dat 0, .dat 0, .box 4 0 false, .box 4 0 false, .dat 0, .ref 2, .dat 0, .ref 3, .dat 0, .dat 0, .ref 2, .dat 0, .ref 3, .dat 0, .dat 0, .ref 2, .dat 0, .ref 3, .dat 0, .dat 0, .ref 2, .dat 0, .ref 3, .dat 0, .dat 0], T := [(3, ty3), (26, ty26)], S := [], H := [], res := [.tmp 4], ios := [], G := gl0 }
noncomputable def F_laws_eqOrder : List D → Option Out := denF c_laws_eqOrder Tryd.f30
@[reducible] noncomputable def S_laws_eqOrder : FS := { pm := [.dat 0, .dat 0], rm := [.dat 0], f := F_laws_eqOrder }
theorem M_laws_eqOrder : Meets gl0 Tryd.prog 30 S_laws_eqOrder := meets_of (P := Tryd.prog) (c := c_laws_eqOrder) (fn := Tryd.f30) (pm := S_laws_eqOrder.pm) (rm := S_laws_eqOrder.rm) (by kernel_rfl) lookNil follows_mixed Tryd.func30 (by kernel_rfl) (by kernel_rfl) rfl
/-- loop.example/g01054/laws.FnExactParseOrder -/
@[reducible] noncomputable def c_laws_FnExactParseOrder : Cx := { K := [.dat 0, .no, .dat 0, .box 4 0 false, .dat 0, .box 4 0 false, .dat 0, .dat 0, .dat 0, .dat 0, .tup [.dat 0, .dat 0], .dat 0, .tup [.dat 0, .dat 0], .dat 0, .dat 0, .tup [.dat 0, .dat 0], .dat 0, .tup [.dat 0, .dat 0], .dat 0, .dat 0, .dat 0, .dat 0, .dat 0, .dat 0, .dat 0, .dat 0, .dat 0, .dat 0, .dat 0], T := [(3, ty3), (4, ty4), (9, ty9), (26, ty26)], S := [(28, S_spec_ParseOrder), (29, S_impl_ParseOrder), (30, S_laws_eqOrder)], H := [], res := [.tmp 2], ios := [], G := gl2 }
noncomputable def F_laws_FnExactParseOrder : List D → Option Out := denF c_laws_FnExactParseOrder Tryd.f7
@[reducible] noncomputable def S_laws_FnExactParseOrder : FS := { pm := [.dat 0], rm := [.dat 0], f := F_laws_FnExactParseOrder }
theorem M_laws_FnExactParseOrder : Meets gl2 Tryd.prog 7 S_laws_FnExactParseOrder := meets_of (P := Tryd.prog) (c := c_laws_FnExactParseOrder) (fn := Tryd.f7) (pm := S_laws_FnExactParseOrder.pm) (rm := S_laws_FnExactParseOrder.rm) (by kernel_rfl) (lookCons (meets_mono gl02 M_spec_ParseOrder) (lookCons M_impl_ParseOrder (lookCons (meets_mono gl02 M_laws_eqOrder) lookNil))) follows_mixed Tryd.func7 (by kernel_rfl) (by kernel_rfl) rfl
/-- loop.example/g01054/spec.joNote -/
@[reducible] noncomputable def c_spec_joNote : Cx := { K := [.dat 0, .box 3 0 false, .dat 0, .ref 1, .dat 0, .dat 0, .dat 0, .ref 1, .dat 0, .dat 0, .dat 0, .dat 0, .ref 1, .dat 0, .dat 0, .dat 0], T := [(3, ty3), (64, ty64)], S := [(74, S_spec_l1In)], H := [], res := [.tmp 2], ios := [], G := gl0 }
noncomputable def F_spec_joNote : List D → Option Out := denF c_spec_joNote Tryd.f79
@[reducible] noncomputable def S_spec_joNote : FS := { pm := [.dat 0], rm := [.dat 0], f := F_spec_joNote }
theorem M_spec_joNote : Meets gl0 Tryd.prog 79 S_spec_joNote := meets_of (P := Tryd.prog) (c := c_spec_joNote) (fn := Tryd.f79) (pm := S_spec_joNote.pm) (rm := S_spec_joNote.rm) (by kernel_rfl) (lookCons M_spec_l1In lookNil) follows_mixed Tryd.func79 (by kernel_rfl) (by kernel_rfl) rfl
/-- loop.example/g01054/spec.joGood -/
@[reducible] noncomputable def c_spec_joGood : Cx := { K := [.dat 2, .no, .dat 0, .dat 0, .box 3 0 false, .dat 2, .dat 0, .dat 0, .dat 0, .dat 0, .dat 2, .dat 0, .dat 0, .dat 0, .dat 0, .dat 0, .dat 0, .dat 0, .dat 0, .dat 2, .dat 0, .dat 0, .dat 2, .dat 2, .dat 0, .ref 4, .dat 0, .dat 0, .dat 0, .dat 0, .dat 0, .dat 2, .dat 0, .dat 0], T := [(3, ty3), (34, ty34), (64, ty64)], S := [(79, S_spec_joNote)], H := [(0, ([0, 5, 6, 7], [0]))], res := [.tmp 2], ios := [], G := gl0 }
noncomputable def F_spec_joGood : List D → Option Out := denF c_spec_joGood Tryd.f50
@[reducible] noncomputable def S_spec_joGood : FS := { pm := [.dat 2], rm := [.dat 0], f := F_spec_joGood }
theorem M_spec_joGood : Meets gl0 Tryd.prog 50 S_spec_joGood := meets_of (P := Tryd.prog) (c := c_spec_joGood) (fn := Tryd.f50) (pm := S_spec_joGood.pm) (rm := S_spec_joGood.rm) (by kernel_rfl) (lookCons M_spec_joNote lookNil) follows_mixed Tryd.func50 (by kernel_rfl) (by kernel_rfl) rfl
/-- loop.example/g01054/spec.joCheck -/
@[reducible] noncomputable def c_spec_joCheck : Cx := { K := [.dat 0, .dat 0, .no, .box 3 0 false, .dat 0, .dat 0, .dat 0, .ref 3, .dat 0, .dat 0, .dat 0, .ref 3, .dat 0, .dat 0, .dat 0, .ref 3, .dat 0, .dat 0, .dat 0], T := [(3, ty3), (64, ty64)], S := [], H := [], res := [.tmp 4], ios := [], G := gl0 }
noncomputable def F_spec_joCheck : List D → Option Out := denF c_spec_joCheck Tryd.f80
@[reducible] noncomputable def S_spec_joCheck : FS := { pm := [.dat 0, .dat 0], rm := [.dat 0], f := F_spec_joCheck }
theorem M_spec_joCheck : Meets gl0 Tryd.prog 80 S_spec_joCheck := meets_of (P := Tryd.prog) (c := c_spec_joCheck) (fn := Tryd.f80) (pm := S_spec_joCheck.pm) (rm := S_spec_joCheck.rm) (by kernel_rfl) lookNil follows_mixed Tryd.func80 (by kernel_rfl) (by kernel_rfl) rfl
/-- loop.example/g01054/spec.joLine -/
@[reducible] noncomputable def c_spec_joLine : Cx := { K := [.dat 0, .dat 0, .box 3 0 false, .no, .dat 0, .ref 2, .dat 0, .dat 0, .dat 0, .ref 2, .dat 0, .dat 0, .dat 0, .dat 0, .ref 2, .dat 0, .dat 0, .dat 0, .dat 0, .dat 0, .dat 0, .dat 0, .dat 0], T := [(3, ty3), (9, ty9), (64, ty64)], S := [(59, S_spec_l1Num)], H := [], res := [.tmp 4], ios := [], G := gl0 }
noncomputable def F_spec_joLine : List D → Option Out := denF c_spec_joLine Tryd.f81
@[reducible] noncomputable def S_spec_joLine : FS := { pm := [.dat 0, .dat 0], rm := [.dat 0], f := F_spec_joLine }
theorem M_spec_joLine : Meets gl0 Tryd.prog 81 S_spec_joLine := meets_of (P := Tryd.prog) (c := c_spec_joLine) (fn := Tryd.f81) (pm := S_spec_joLine.pm) (rm := S_spec_joLine.rm) (by kernel_rfl) (lookCons M_spec_l1Num lookNil) follows_mixed Tryd.func81 (by kernel_rfl) (by kernel_rfl) rfl
/-- loop.example/g01054/spec.joRead -/
@[reducible] noncomputable def c_spec_joRead : Cx := { K := [.dat 0, .no, .own 3 0 false, .dat 0, .own 3 0 false, .dat 0, .dat 0, .dat 1, .no, .dat 0, .dat 1, .box 3 0 false, .own 3 0 false, .dat 0, .dat 1, .dat 1, .dat 1, .dat 0, .dat 0, .dat 1, .dat 0, .dat 0, .dat 0, .dat 1, .dat 0, .dat 0, .dat 1, .dat 1, .dat 0, .dat 0, .dat 1, .dat 1, .dat 0, .dat 0, .dat 1, .dat 1, .dat 0, .dat 0, .dat 1, .dat 1, .dat 0, .dat 0, .dat 0, .own 3 0 false, .via 4, .own 3 0 false, .dat 0, .dat 1, .own 3 0 false, .via 12, .dat 0, .dat 0, .dat 0, .dat 0, .dat 0, .dat 0, .dat 0, .dat 0, .dat 0, .dat 0, .dat 0, .dat 0, .dat 0, .dat 0, .dat 0, .dat 0, .dat 0, .dat 0, .dat 0, .dat 0, .own 3 0 false, .dat 0, .own 3 0 false, .dat 0], T := [(3, ty3), (9, ty9), (34, ty34), (64, ty64), (71, ty71)], S := [(50, S_spec_joGood), (66, S_spec_l1Split), (67, S_spec_l1Read), (80, S_spec_joCheck), (81, S_spec_joLine)], H := [(0, ([4, 5, 6, 19, 20, 21], [4, 5]))], res := [.tmp 2, .tmp 3], ios := [], G := gl0 }
noncomputable def F_spec_joRead : List D → Option Out := denF c_spec_joRead Tryd.f69
@[reducible] noncomputable def S_spec_joRead : FS := { pm := [.dat 0], rm := [.own 3 0 false, .dat 0], f := F_spec_joRead }
theorem M_spec_joRead : Meets gl0 Tryd.prog 69 S_spec_joRead := meets_of (P := Tryd.prog) (c := c_spec_joRead) (fn := Tryd.f69) (pm := S_spec_joRead.pm) (rm := S_spec_joRead.rm) (by kernel_rfl) (lookCons M_spec_joGood (lookCons M_spec_l1Split (lookCons M_spec_l1Read (lookCons M_spec_joCheck (lookCons M_spec_joLine lookNil))))) follows_mixed Tryd.func69 (by kernel_rfl) (by kernel_rfl) rfl
/-- loop.example/g01054/spec.FirstBadLine -/
@[reducible] noncomputable def c_spec_FirstBadLine : Cx := { K := [.dat 0, .no, .dat 0, .dat 0, .dat 1, .dat 0, .tup [.own 3 0 false, .dat 0], .dat 0, .tup [.own 3 0 false, .dat 0], .dat 1, .dat 0, .dat 0, .dat 0, .dat 0, .dat 0, .dat 0, .dat 0, .dat 0, .dat 0, .dat 0, .dat 1, .dat 0], T := [(3, ty3), (9, ty9), (34, ty34), (64, ty64)], S := [(69, S_spec_joRead)], H := [], res := [.tmp 2, .tmp 3], ios := [], G := gl0 }
noncomputable def F_spec_FirstBadLine : List D → Option Out := denF c_spec_FirstBadLine Tryd.f31
@[reducible] noncomputable def S_spec_FirstBadLine : FS := { pm := [.dat 0], rm := [.dat 0, .dat 0], f := F_spec_FirstBadLine }
theorem M_spec_FirstBadLine : Meets gl0 Tryd.prog 31 S_spec_FirstBadLine := meets_of (P := Tryd.prog) (c := c_spec_FirstBadLine) (fn := Tryd.f31) (pm := S_spec_FirstBadLine.pm) (rm := S_spec_FirstBadLine.rm) (by kernel_rfl) (lookCons M_spec_joRead lookNil) follows_mixed Tryd.func31 (by kernel_rfl) (by kernel_rfl) rfl
/-- loop.example/g01054/impl.isJournalText -/
@[reducible] noncomputable def c_impl_isJournalText : Cx := { K := [.dat 0, .no, .dat 0, .dat 0, .dat 0, .dat 0], T := [(3, ty3), (9, ty9)], S := [], H := [], res := [.tmp 2], ios := [], G := gl0 }
noncomputable def F_impl_isJournalText : List D → Option Out := denF c_impl_isJournalText Tryd.f71
@[reducible] noncomputable def S_impl_isJournalText : FS := { pm := [.dat 0], rm := [.dat 0], f := F_impl_isJournalText }
theorem M_impl_isJournalText : Meets gl0 Tryd.prog 71 S_impl_isJournalText := meets_of (P := Tryd.prog) (c := c_impl_isJournalText) (fn := Tryd.f71) (pm := S_impl_isJournalText.pm) (rm := S_impl_isJournalText.rm) (by kernel_rfl) lookNil follows_mixed Tryd.func71 (by kernel_rfl) (by kernel_rfl) rfl
/-- loop.example/g01054/impl.isNoteDay -/
@[reducible] noncomputable def c_impl_isNoteDay : Cx := { K := [.dat 0, .no, .dat 0, .dat 0, .dat 0], T := [], S := [(75, S_impl_within)], H := [], res := [.tmp 2], ios := [], G := gl0 }
noncomputable def F_impl_isNoteDay : List D → Option Out := denF c_impl_isNoteDay Tryd.f101
@[reducible] noncomputable def S_impl_isNoteDay : FS := { pm := [.dat 0], rm := [.dat 0], f := F_impl_isNoteDay }
theorem M_impl_isNoteDay : Meets gl0 Tryd.prog 101 S_impl_isNoteDay := meets_of (P := Tryd.prog) (c := c_impl_isNoteDay) (fn := Tryd.f101) (pm := S_impl_isNoteDay.pm) (rm := S_impl_isNoteDay.rm) (by kernel_rfl) (lookCons M_impl_within lookNil) follows_mixed Tryd.func101 (by kernel_rfl) (by kernel_rfl) rfl
/-- loop.example/g01054/impl.isNote -/
@[reducible] noncomputable def c_impl_isNote : Cx := { K := [.dat 0, .box 3 0 false, .dat 0, .ref 1, .dat 0, .dat 0, .dat 0, .ref 1, .dat 0, .dat 0, .dat 0, .dat 0, .ref 1, .dat 0, .dat 0, .dat 0], T := [(3, ty3), (64, ty64)], S := [(75, S_impl_within), (101, S_impl_isNoteDay)], H := [], res := [.tmp 2], ios := [], G := gl0 }
noncomputable def F_impl_isNote : List D → Option Out := denF c_impl_isNote Tryd.f73
@[reducible] noncomputable def S_impl_isNote : FS := { pm := [.dat 0], rm := [.dat 0], f := F_impl_isNote }
theorem M_impl_isNote : Meets gl0 Tryd.prog 73 S_impl_isNote := meets_of (P := Tryd.prog) (c := c_impl_isNote) (fn := Tryd.f73) (pm := S_impl_isNote.pm) (rm := S_impl_isNote.rm) (by kernel_rfl) (lookCons M_impl_within (lookCons M_impl_isNoteDay lookNil)) follows_mixed Tryd.func73 (by kernel_rfl) (by kernel_rfl) rfl
/-- loop.example/g01054/impl.AreNotes -/
@[reducible] noncomputable def c_impl_AreNotes : Cx := { K := [.dat 2, .no, .dat 0, .dat 0, .box 3 0 false, .dat 2, .dat 0, .dat 0, .dat 0, .dat 0, .dat 2, .dat 0, .dat 0, .dat 0, .dat 0, .dat 0, .dat 0, .dat 0, .dat 0, .dat 2, .dat 0, .dat 0, .dat 2, .dat 2, .dat 0, .ref 4, .dat 0, .dat 0, .dat 0, .dat 0, .dat 0, .dat 2, .dat 0, .dat 0], T := [(3, ty3), (34, ty34), (64, ty64)], S := [(73, S_impl_isNote)], H := [(0, ([0, 5, 6, 7], [0]))], res := [.tmp 2], ios := [], G := gl0 }
noncomputable def F_impl_AreNotes : List D → Option Out := denF c_impl_AreNotes Tryd.f53
@[reducible] noncomputable def S_impl_AreNotes : FS := { pm := [.dat 2], rm := [.dat 0], f := F_impl_AreNotes }
theorem M_impl_AreNotes : Meets gl0 Tryd.prog 53 S_impl_AreNotes := meets_of (P := Tryd.prog) (c := c_impl_AreNotes) (fn := Tryd.f53) (pm := S_impl_AreNotes.pm) (rm := S_impl_AreNotes.rm) (by kernel_rfl) (lookCons M_impl_isNote lookNil) follows_mixed Tryd.func53 (by kernel_rfl) (by kernel_rfl) rfl
/-- loop.example/g01054/impl.recovered -/
@[reducible] noncomputable def c_impl_recovered : Cx := { K := [.dat 0, .no, .own 3 0 false, .dat 0, .own 3 0 false, .dat 0, .dat 0, .dat 0, .dat 0, .dat 0, .dat 1, .box 3 0 false, .own 3 0 false, .own 3 0 false, .tup [.dat 0, .dat 0, .dat 0], .dat 0, .dat 0, .dat 0, .tup [.dat 0, .dat 0, .dat 0], .dat 0, .dat 0, .dat 0, .dat 0, .dat 1, .dat 0, .dat 0, .dat 0, .dat 1, .dat 0, .dat 0, .dat 0, .own 3 0 false, .dat 0, .dat 1, .dat 1, .dat 0, .dat 1, .dat 1, .dat 0, .dat 1, .dat 1, .dat 0, .dat 0, .own 3 0 false, .via 4, .own 3 0 false, .dat 0, .dat 1, .own 3 0 false, .via 12, .dat 0, .dat 0, .dat 0, .dat 0, .dat 0, .dat 0, .dat 0, .dat 0, .dat 0, .dat 0, .dat 0, .dat 0, .own 3 0 false, .dat 0, .own 3 0 false, .dat 0, .dat 0, .dat 0, .dat 0, .dat 0, .dat 0, .dat 0, .dat 0], T := [(3, ty3), (9, ty9), (34, ty34), (64, ty64), (90, ty90)], S := [(53, S_impl_AreNotes), (68, S_impl_numbersIn), (82, S_impl_check), (84, S_impl_noteLine), (100, S_strings_Cut)], H := [(0, ([0, 4, 5, 6], [2, 3]))], res := [.tmp 2, .tmp 3], ios := [], G := gl2 }
noncomputable def F_impl_recovered : List D → Option Out := denF c_impl_recovered Tryd.f72
@[reducible] noncomputable def S_impl_recovered : FS := { pm := [.dat 0], rm := [.own 3 0 false, .dat 0], f := F_impl_recovered }
theorem M_impl_recovered : Meets gl2 Tryd.prog 72 S_impl_recovered := meets_of (P := Tryd.prog) (c := c_impl_recovered) (fn := Tryd.f72) (pm := S_impl_recovered.pm) (rm := S_impl_recovered.rm) (by kernel_rfl) (lookCons (meets_mono gl02 M_impl_AreNotes) (lookCons M_impl_numbersIn (lookCons (meets_mono gl02 M_impl_check) (lookCons (meets_mono gl12 M_impl_noteLine) (lookCons (meets_mono gl02 M_strings_Cut) lookNil))))) follows_mixed Tryd.func72 (by kernel_rfl) (by kernel_rfl) rfl
/-- loop.example/g01054/impl.Recovered -/
@[reducible] noncomputable def c_impl_Recovered : Cx := { K := [.dat 0, .no, .own 3 0 false, .dat 0, .dat 0, .own 3 0 false, .dat 0, .dat 0, .dat 0, .dat 0, .own 3 0 false, .tup [.own 3 0 false, .dat 0], .dat 0, .tup [.own 3 0 false, .dat 0], .own 3 0 false, .dat 0, .own 3 0 false, .dat 0], T := [(34, ty34), (64, ty64)], S := [(71, S_impl_isJournalText), (72, S_impl_recovered)], H := [], res := [.tmp 2, .tmp 3, .tmp 4], ios := [], G := gl2 }
noncomputable def F_impl_Recovered : List D → Option Out := denF c_impl_Recovered Tryd.f36
@[reducible] noncomputable def S_impl_Recovered : FS := { pm := [.dat 0], rm := [.own 3 0 false, .dat 0, .dat 0], f := F_impl_Recovered }
theorem M_impl_Recovered : Meets gl2 Tryd.prog 36 S_impl_Recovered := meets_of (P := Tryd.prog) (c := c_impl_Recovered) (fn := Tryd.f36) (pm := S_impl_Recovered.pm) (rm := S_impl_Recovered.rm) (by kernel_rfl) (lookCons (meets_mono gl02 M_impl_isJournalText) (lookCons M_impl_recovered lookNil)) follows_mixed Tryd.func36 (by kernel_rfl) (by kernel_rfl) rfl
/-- loop.example/g01054/impl.FirstBadLine -/
@[reducible] noncomputable def c_impl_FirstBadLine : Cx := { K := [.dat 0, .no, .dat 0, .dat 0, .dat 1, .dat 0, .dat 0, .tup [.own 3 0 false, .dat 0, .dat 0], .dat 0, .tup [.own 3 0 false, .dat 0, .dat 0], .dat 1, .dat 0, .dat 0, .dat 0, .dat 0, .dat 0, .dat 0, .dat 0, .dat 0, .dat 0, .dat 0, .dat 1, .dat 0], T := [(3, ty3), (9, ty9), (34, ty34), (64, ty64)], S := [(36, S_impl_Recovered)], H := [], res := [.tmp 2, .tmp 3], ios := [], G := gl2 }
noncomputable def F_impl_FirstBadLine : List D → Option Out := denF c_impl_FirstBadLine Tryd.f32
@[reducible] noncomputable def S_impl_FirstBadLine : FS := { pm := [.dat 0], rm := [.dat 0, .dat 0], f := F_impl_FirstBadLine }
theorem M_impl_FirstBadLine : Meets gl2 Tryd.prog 32 S_impl_FirstBadLine := meets_of (P := Tryd.prog) (c := c_impl_FirstBadLine) (fn := Tryd.f32) (pm := S_impl_FirstBadLine.pm) (rm := S_impl_FirstBadLine.rm) (by kernel_rfl) (lookCons M_impl_Recovered lookNil) follows_mixed Tryd.func32 (by kernel_rfl) (by kernel_rfl) rfl
/-- loop.example/g01054/laws.FnExactFirstBadLine -/
@[reducible] noncomputable def c_laws_FnExactFirstBadLine : Cx := { K := [.dat 0, .no, .dat 0, .dat 0, .dat 0, .dat 0, .dat 0, .dat 0, .dat 0, .dat 0, .tup [.dat 0, .dat 0], .dat 0, .tup [.dat 0, .dat 0], .dat 0, .dat 0, .tup [.dat 0, .dat 0], .dat 0, .tup [.dat 0, .dat 0], .dat 0, .dat 0, .dat 0, .dat 0, .dat 0, .dat 0, .dat 0, .dat 0, .dat 0, .dat 0], T := [(3, ty3), (4, ty4), (9, ty9)], S := [(31, S_spec_FirstBadLine), (32, S_impl_FirstBadLine)], H := [], res := [.tmp 2], ios := [], G := gl2 }
noncomputable def F_laws_FnExactFirstBadLine : List D → Option Out := denF c_laws_FnExactFirstBadLine Tryd.f8
@[reducible] noncomputable def S_laws_FnExactFirstBadLine : FS := { pm := [.dat 0], rm := [.dat 0], f := F_laws_FnExactFirstBadLine }
theorem M_laws_FnExactFirstBadLine : Meets gl2 Tryd.prog 8 S_laws_FnExactFirstBadLine := meets_of (P := Tryd.prog) (c := c_laws_FnExactFirstBadLine) (fn := Tryd.f8) (pm := S_laws_FnExactFirstBadLine.pm) (rm := S_laws_FnExactFirstBadLine.rm) (by kernel_rfl) (lookCons (meets_mono gl02 M_spec_FirstBadLine) (lookCons M_impl_FirstBadLine lookNil)) follows_mixed Tryd.func8 (by kernel_rfl) (by kernel_rfl) rfl
/-- loop.example/g01054/spec.ReadJournal -/
@[reducible] noncomputable def c_spec_ReadJournal : Cx := { K := [.dat 0, .no, .own 3 0 false, .dat 0, .own 3 0 false, .dat 0, .tup [.own 3 0 false, .dat 0], .dat 0, .tup [.own 3 0 false, .dat 0], .own 3 0 false, .dat 0, .dat 0, .dat 0, .dat 0, .dat 0, .dat 0, .dat 0, .dat 0, .dat 0, .dat 0, .own 3 0 false], T := [(3, ty3), (9, ty9), (34, ty34)], S := [(69, S_spec_joRead)], H := [], res := [.tmp 2, .tmp 3], ios := [], G := gl0 }
noncomputable def F_spec_ReadJournal : List D → Option Out := denF c_spec_ReadJournal Tryd.f42
@[reducible] noncomputable def S_spec_ReadJournal : FS := { pm := [.dat 0], rm := [.own 3 0 false, .dat 0], f := F_spec_ReadJournal }
theorem M_spec_ReadJournal : Meets gl0 Tryd.prog 42 S_spec_ReadJournal := meets_of (P := Tryd.prog) (c := c_spec_ReadJournal) (fn := Tryd.f42) (pm := S_spec_ReadJournal.pm) (rm := S_spec_ReadJournal.rm) (by kernel_rfl) (lookCons M_spec_joRead lookNil) follows_mixed Tryd.func42 (by kernel_rfl) (by kernel_rfl) rfl
/-- loop.example/g01054/spec.SameStart -/
@[reducible] noncomputable def c_spec_SameStart : Cx := { K := [.dat 0, .dat 0, .no, .no, .dat 0, .dat 0, .dat 1, .dat 0, .dat 1, .dat 0, .dat 0, .tup [.own 3 0 false, .dat 0], .dat 0, .tup [.own 3 0 false, .dat 0], .dat 1, .dat 0, .tup [.own 3 0 false, .dat 0], .dat 0, .tup [.own 3 0 false, .dat 0], .dat 1, .dat 0, .dat 0, .dat 0, .dat 0, .dat 0, .dat 0, .dat 0, .dat 0, .dat 1, .dat 0, .dat 0, .dat 0, .dat 0, .dat 1, .dat 0, .dat 0, .dat 0, .dat 0, .dat 1, .dat 0, .dat 1, .dat 0, .dat 1, .dat 0, .dat 1, .dat 0, .dat 0, .dat 0, .dat 0, .dat 0, .dat 0], T := [(3, ty3), (34, ty34), (64, ty64)], S := [(42, S_spec_ReadJournal)], H := [(0, ([6, 8, 10], [10]))], res := [.tmp 4, .tmp 5], ios := [], G := gl0 }
noncomputable def F_spec_SameStart : List D → Option Out := denF c_spec_SameStart Tryd.f33
@[reducible] noncomputable def S_spec_SameStart : FS := { pm := [.dat 0, .dat 0], rm := [.dat 0, .dat 0], f := F_spec_SameStart }
theorem M_spec_SameStart : Meets gl0 Tryd.prog 33 S_spec_SameStart := meets_of (P := Tryd.prog) (c := c_spec_SameStart) (fn := Tryd.f33) (pm := S_spec_SameStart.pm) (rm := S_spec_SameStart.rm) (by kernel_rfl) (lookCons M_spec_ReadJournal lookNil) follows_mixed Tryd.func33 (by kernel_rfl) (by kernel_rfl) rfl
/-- loop.example/g01054/impl.readJournal -/
@[reducible] noncomputable def c_impl_readJournal : Cx := { K := [.dat 0, .no, .own 3 0 false, .dat 0, .own 3 0 false, .dat 0, .dat 0, .dat 0, .dat 0, .own 3 0 false, .tup [.own 3 0 false, .dat 0], .dat 0, .tup [.own 3 0 false, .dat 0], .own 3 0 false, .dat 0, .dat 0, .dat 0, .dat 0, .dat 0, .own 3 0 false, .own 3 0 false], T := [(3, ty3), (9, ty9), (34, ty34), (64, ty64)], S := [(71, S_impl_isJournalText), (72, S_impl_recovered)], H := [], res := [.tmp 2, .tmp 3], ios := [], G := gl2 }
noncomputable def F_impl_readJournal : List D → Option Out := denF c_impl_readJournal Tryd.f70
@[reducible] noncomputable def S_impl_readJournal : FS := { pm := [.dat 0], rm := [.own 3 0 false, .dat 0], f := F_impl_readJournal }
theorem M_impl_readJournal : Meets gl2 Tryd.prog 70 S_impl_readJournal := meets_of (P := Tryd.prog) (c := c_impl_readJournal) (fn := Tryd.f70) (pm := S_impl_readJournal.pm) (rm := S_impl_readJournal.rm) (by kernel_rfl) (lookCons (meets_mono gl02 M_impl_isJournalText) (lookCons M_impl_recovered lookNil)) follows_mixed Tryd.func70 (by kernel_rfl) (by kernel_rfl) rfl
/-- loop.example/g01054/impl.SameStart -/
@[reducible] noncomputable def c_impl_SameStart : Cx := { K := [.dat 0, .dat 0, .no, .no, .dat 0, .dat 0, .dat 1, .dat 0, .dat 1, .dat 0, .dat 0, .tup [.own 3 0 false, .dat 0], .dat 0, .tup [.own 3 0 false, .dat 0], .dat 1, .dat 0, .tup [.own 3 0 false, .dat 0], .dat 0, .tup [.own 3 0 false, .dat 0], .dat 1, .dat 0, .dat 0, .dat 0, .dat 0, .dat 0, .dat 0, .dat 0, .dat 0, .dat 1, .dat 0, .dat 0, .dat 0, .dat 0, .dat 1, .dat 0, .dat 0, .dat 0, .dat 0, .dat 1, .dat 0, .dat 1, .dat 0, .dat 1, .dat 0, .dat 1, .dat 0, .dat 0, .dat 0, .dat 0, .dat 0, .dat 0], T := [(3, ty3), (34, ty34), (64, ty64)], S := [(70, S_impl_readJournal)], H := [(0, ([6, 8, 10], [10]))], res := [.tmp 4, .tmp 5], ios := [], G := gl2 }
noncomputable def F_impl_SameStart : List D → Option Out := denF c_impl_SameStart Tryd.f34
@[reducible] noncomputable def S_impl_SameStart : FS := { pm := [.dat 0, .dat 0], rm := [.dat 0, .dat 0], f := F_impl_SameStart }
theorem M_impl_SameStart : Meets gl2 Tryd.prog 34 S_impl_SameStart := meets_of (P := Tryd.prog) (c := c_impl_SameStart) (fn := Tryd.f34) (pm := S_impl_SameStart.pm) (rm := S_impl_SameStart.rm) (by kernel_rfl) (lookCons M_impl_readJournal lookNil) follows_mixed Tryd.func34 (by kernel_rfl) (by kernel_rfl) rfl
/-- loop.example/g01054/laws.FnExactSameStart -/
@[reducible] noncomputable def c_laws_FnExactSameStart : Cx := { K := [.dat 0, .dat 0, .no, .no, .dat 0, .dat 0, .dat 0, .dat 0, .dat 0, .dat 0, .dat 0, .dat 0, .dat 0, .dat 0, .dat 0, .tup [.dat 0, .dat 0], .dat 0, .dat 0, .tup [.dat 0, .dat 0], .dat 0, .dat 0, .tup [.dat 0, .dat 0], .dat 0, .dat 0, .tup [.dat 0, .dat 0], .dat 0, .dat 0, .dat 0, .dat 0, .dat 0, .dat 0, .dat 0, .dat 0, .dat 0, .dat 0], T := [(3, ty3), (4, ty4), (9, ty9)], S := [(33, S_spec_SameStart), (34, S_impl_SameStart)], H := [], res := [.tmp 4], ios := [], G := gl2 }
noncomputable def F_laws_FnExactSameStart : List D → Option Out := denF c_laws_FnExactSameStart Tryd.f9
@[reducible] noncomputable def S_laws_FnExactSameStart : FS := { pm := [.dat 0, .dat 0], rm := [.dat 0], f := F_laws_FnExactSameStart }
theorem M_laws_FnExactSameStart : Meets gl2 Tryd.prog 9 S_laws_FnExactSameStart := meets_of (P := Tryd.prog) (c := c_laws_FnExactSameStart) (fn := Tryd.f9) (pm := S_laws_FnExactSameStart.pm) (rm := S_laws_FnExactSameStart.rm) (by kernel_rfl) (lookCons (meets_mono gl02 M_spec_SameStart) (lookCons M_impl_SameStart lookNil)) follows_mixed Tryd.func9 (by kernel_rfl) (by kernel_rfl) rfl
/-- loop.example/g01054/spec.Recovered -/
@[reducible] noncomputable def c_spec_Recovered : Cx := { K := [.dat 0, .no, .own 3 0 false, .dat 0, .dat 0, .own 3 0 false, .dat 0, .dat 0, .dat 0, .dat 0, .tup [.own 3 0 false, .dat 0], .dat 0, .tup [.own 3 0 false, .dat 0], .own 3 0 false, .dat 0, .own 3 0 false, .dat 0], T := [(3, ty3), (9, ty9), (34, ty34)], S := [(69, S_spec_joRead)], H := [], res := [.tmp 2, .tmp 3, .tmp 4], ios := [], G := gl0 }
noncomputable def F_spec_Recovered : List D → Option Out := denF c_spec_Recovered Tryd.f35
@[reducible] noncomputable def S_spec_Recovered : FS := { pm := [.dat 0], rm := [.own 3 0 false, .dat 0, .dat 0], f := F_spec_Recovered }
theorem M_spec_Recovered : Meets gl0 Tryd.prog 35 S_spec_Recovered := meets_of (P := Tryd.prog) (c := c_spec_Recovered) (fn := Tryd.f35) (pm := S_spec_Recovered.pm) (rm := S_spec_Recovered.rm) (by kernel_rfl) (lookCons M_spec_joRead lookNil) follows_mixed Tryd.func35 (by kernel_rfl) (by kernel_rfl) rfl
/-- loop.example/g01054/laws.eqNote -/
@[reducible] noncomputable def c_laws_eqNote : Cx := { K := [.dat 0, .dat 0, .box 3 0 false, .box 3 0 false, .dat 0, .ref 2, .dat 0, .ref 3, .dat 0, .dat 0, .ref 2, .dat 0, .ref 3, .dat 0, .dat 0, .ref 2, .dat 0, .ref 3, .dat 0, .dat 0], T := [(3, ty3), (64, ty64)], S := [], H := [], res := [.tmp 4], ios := [], G := gl0 }
noncomputable def F_laws_eqNote : List D → Option Out := denF c_laws_eqNote Tryd.f55
@[reducible] noncomputable def S_laws_eqNote : FS := { pm := [.dat 0, .dat 0], rm := [.dat 0], f := F_laws_eqNote }
theorem M_laws_eqNote : Meets gl0 Tryd.prog 55 S_laws_eqNote := meets_of (P := Tryd.prog) (c := c_laws_eqNote) (fn := Tryd.f55) (pm := S_laws_eqNote.pm) (rm := S_laws_eqNote.rm) (by kernel_rfl) lookNil follows_mixed Tryd.func55 (by kernel_rfl) (by kernel_rfl) rfl
/-- loop.example/g01054/laws.eqNoteS -/
@[reducible] noncomputable def c_laws_eqNoteS : Cx := { K := [.dat 2, .dat 2, .no, .no, .dat 0, .dat 0, .dat 2, .dat 0, .dat 2, .dat 0, .dat 0, .dat 0, .dat 2, .dat 0, .dat 0, .dat 0, .dat 0, .dat 2, .dat 0, .dat 2, .dat 0, .dat 2, .dat 0, .dat 2, .dat 0, .dat 0, .dat 0], T := [(3, ty3), (34, ty34), (64, ty64)], S := [(55, S_laws_eqNote)], H := [(0, ([0, 1, 5], []))], res := [.tmp 4], ios := [], G := gl0 }
noncomputable def F_laws_eqNoteS : List D → Option Out := denF c_laws_eqNoteS Tryd.f22
@[reducible] noncomputable def S_laws_eqNoteS : FS := { pm := [.dat 2, .dat 2], rm := [.dat 0], f := F_laws_eqNoteS }
theorem M_laws_eqNoteS : Meets gl0 Tryd.prog 22 S_laws_eqNoteS := meets_of (P := Tryd.prog) (c := c_laws_eqNoteS) (fn := Tryd.f22) (pm := S_laws_eqNoteS.pm) (rm := S_laws_eqNoteS.rm) (by kernel_rfl) (lookCons M_laws_eqNote lookNil) follows_mixed Tryd.func22 (by kernel_rfl) (by kernel_rfl) rfl
/-- loop.example/g01054/laws.markNoteS -/
@[reducible] noncomputable def c_laws_markNoteS : Cx := { K := [.own 3 0 true, .dat 0, .no, .no, .dat 0, .dat 0, .dat 0, .via 0, .dat 0, .dat 0, .dat 0, .dat 0, .via 0, .dat 0, .dat 0, .ref 0, .ref 0, .dat 0, .dat 0, .via 0, .dat 0, .dat 0, .ref 0, .ref 0, .dat 0, .dat 0, .via 0, .dat 0, .dat 0, .ref 0, .ref 0, .dat 0, .dat 0, .dat 0], T := [(3, ty3), (34, ty34), (64, ty64)], S := [], H := [(0, ([0, 1, 5], [0, 1]))], res := [.tmp 4], ios := [0], G := gl0 }
noncomputable def F_laws_markNoteS : List D → Option Out := denF c_laws_markNoteS Tryd.f37
@[reducible] noncomputable def S_laws_markNoteS : FS := { pm := [.own 3 0 true, .dat 0], rm := [.dat 0], f := F_laws_markNoteS }
theorem M_laws_markNoteS : Meets gl0 Tryd.prog 37 S_laws_markNoteS := meets_of (P := Tryd.prog) (c := c_laws_markNoteS) (fn := Tryd.f37) (pm := S_laws_markNoteS.pm) (rm := S_laws_markNoteS.rm) (by kernel_rfl) lookNil follows_mixed Tryd.func37 (by kernel_rfl) (by kernel_rfl) rfl
/-- loop.example/g01054/laws.heldNoteS -/
@[reducible] noncomputable def c_laws_heldNoteS : Cx := { K := [.dat 2, .dat 0, .no, .no, .dat 0, .dat 0, .dat 0, .dat 2, .dat 0, .dat 0, .dat 0, .dat 0, .dat 2, .dat 0, .dat 2, .dat 2, .dat 0, .dat 0, .dat 0, .dat 0, .dat 0, .dat 2, .dat 0, .dat 2, .dat 2, .dat 0, .dat 0, .dat 0, .dat 0, .dat 0, .dat 2, .dat 0, .dat 2, .dat 2, .dat 0, .dat 0, .dat 0, .dat 0, .dat 0, .dat 0], T := [(3, ty3), (34, ty34), (64, ty64)], S := [], H := [(0, ([0, 1, 5], [1]))], res := [.tmp 4], ios := [], G := gl0 }
noncomputable def F_laws_heldNoteS : List D → Option Out := denF c_laws_heldNoteS Tryd.f38
@[reducible] noncomputable def S_laws_heldNoteS : FS := { pm := [.dat 2, .dat 0], rm := [.dat 0], f := F_laws_heldNoteS }
theorem M_laws_heldNoteS : Meets gl0 Tryd.prog 38 S_laws_heldNoteS := meets_of (P := Tryd.prog) (c := c_laws_heldNoteS) (fn := Tryd.f38) (pm := S_laws_heldNoteS.pm) (rm := S_laws_heldNoteS.rm) (by kernel_rfl) lookNil follows_mixed Tryd.func38 (by kernel_rfl) (by kernel_rfl) rfl
/-- loop.example/g01054/laws.FnExactRecovered -/
@[reducible] noncomputable def c_laws_FnExactRecovered : Cx := { K := [.dat 0, .no, .dat 0, .dat 1, .dat 0, .dat 0, .via 26, .dat 0, .dat 0, .dat 0, .dat 0, .dat 1, .dat 0, .dat 0, .dat 0, .dat 0, .dat 0, .tup [.own 3 0 false, .dat 0, .dat 0], .dat 0, .tup [.own 3 0 false, .dat 0, .dat 0], .dat 1, .dat 0, .dat 0, .tup [.own 3 0 false, .dat 0, .dat 0], .dat 0, .tup [.own 3 0 false, .dat 0, .dat 0], .own 3 0 false, .dat 0, .dat 0, .via 26, .dat 1, .dat 0, .dat 0, .dat 0, .dat 0, .dat 0, .dat 0, .dat 0, .dat 0, .dat 0, .dat 0, .dat 0, .dat 0, .via 26, .dat 0, .dat 0, .via 26, .dat 0, .dat 0, .dat 0, .dat 0, .dat 0, .dat 0, .dat 0, .tup [.own 3 0 false, .dat 0, .dat 0], .dat 0, .tup [.own 3 0 false, .dat 0, .dat 0], .dat 1, .dat 0, .dat 0, .dat 1, .dat 1, .dat 0, .dat 0, .dat 0, .dat 0, .dat 0, .dat 0, .dat 0, .dat 0, .dat 0, .dat 0, .dat 0, .dat 0, .via 26, .dat 0, .dat 0, .dat 0, .dat 0, .dat 0, .dat 0, .dat 0], T := [(3, ty3), (4, ty4), (9, ty9)], S := [(22, S_laws_eqNoteS), (35, S_spec_Recovered), (36, S_impl_Recovered), (37, S_laws_markNoteS), (38, S_laws_heldNoteS)], H := [], res := [.tmp 2], ios := [], G := gl2 }
noncomputable def F_laws_FnExactRecovered : List D → Option Out := denF c_laws_FnExactRecovered Tryd.f10
@[reducible] noncomputable def S_laws_FnExactRecovered : FS := { pm := [.dat 0], rm := [.dat 0], f := F_laws_FnExactRecovered }
theorem M_laws_FnExactRecovered : Meets gl2 Tryd.prog 10 S_laws_FnExactRecovered := meets_of (P := Tryd.prog) (c := c_laws_FnExactRecovered) (fn := Tryd.f10) (pm := S_laws_FnExactRecovered.pm) (rm := S_laws_FnExactRecovered.rm) (by kernel_rfl) (lookCons (meets_mono gl02 M_laws_eqNoteS) (lookCons (meets_mono gl02 M_spec_Recovered) (lookCons M_impl_Recovered (lookCons (meets_mono gl02 M_laws_markNoteS) (lookCons (meets_mono gl02 M_laws_heldNoteS) lookNil))))) follows_mixed Tryd.func10 (by kernel_rfl) (by kernel_rfl) rfl
/-- loop.example/g01054/impl.ReadJournal -/
@[reducible] noncomputable def c_impl_ReadJournal : Cx := { K := [.dat 0, .no, .own 3 0 false, .dat 0, .dat 0, .tup [.own 3 0 false, .dat 0], .own 3 0 false, .dat 0], T := [(34, ty34)], S := [(70, S_impl_readJournal)], H := [], res := [.tmp 2, .tmp 3], ios := [], G := gl2 }
noncomputable def F_impl_ReadJournal : List D → Option Out := denF c_impl_ReadJournal Tryd.f43
@[reducible] noncomputable def S_impl_ReadJournal : FS := { pm := [.dat 0], rm := [.own 3 0 false, .dat 0], f := F_impl_ReadJournal }
theorem M_impl_ReadJournal : Meets gl2 Tryd.prog 43 S_impl_ReadJournal := meets_of (P := Tryd.prog) (c := c_impl_ReadJournal) (fn := Tryd.f43) (pm := S_impl_ReadJournal.pm) (rm := S_impl_ReadJournal.rm) (by kernel_rfl) (lookCons M_impl_readJournal lookNil) follows_mixed Tryd.func43 (by kernel_rfl) (by kernel_rfl) rfl
/-- loop.example/g01054/laws.FnExactReadJournal -/
@[reducible] noncomputable def c_laws_FnExactReadJournal : Cx := { K := [.dat 0, .no, .dat 0, .dat 1, .dat 0, .via 22, .dat 0, .dat 0, .dat 0, .dat 1, .dat 0, .dat 0, .dat 0, .dat 0, .tup [.own 3 0 false, .dat 0], .dat 0, .tup [.own 3 0 false, .dat 0], .dat 1, .dat 0, .tup [.own 3 0 false, .dat 0], .dat 0, .tup [.own 3 0 false, .dat 0], .own 3 0 false, .dat 0, .via 22, .dat 1, .dat 0, .dat 0, .dat 0, .dat 0, .dat 0, .dat 0, .dat 0, .via 22, .dat 0, .dat 0, .via 22, .dat 0, .dat 0, .dat 0, .dat 0, .dat 0, .dat 0, .dat 0, .tup [.own 3 0 false, .dat 0], .dat 0, .tup [.own 3 0 false, .dat 0], .dat 1, .dat 0, .dat 1, .dat 1, .dat 0, .dat 0, .dat 0, .dat 0, .dat 0, .dat 0, .dat 0, .via 22, .dat 0, .dat 0, .dat 0, .dat 0, .dat 0, .dat 0, .dat 0], T := [(3, ty3), (4, ty4), (9, ty9)], S := [(22, S_laws_eqNoteS), (37, S_laws_markNoteS), (38, S_laws_heldNoteS), (42, S_spec_ReadJournal), (43, S_impl_ReadJournal)], H := [], res := [.tmp 2], ios := [], G := gl2 }
noncomputable def F_laws_FnExactReadJournal : List D → Option Out := denF c_laws_FnExactReadJournal Tryd.f12
@[reducible] noncomputable def S_laws_FnExactReadJournal : FS := { pm := [.dat 0], rm := [.dat 0], f := F_laws_FnExactReadJournal }
theorem M_laws_FnExactReadJournal : Meets gl2 Tryd.prog 12 S_laws_FnExactReadJournal := meets_of (P := Tryd.prog) (c := c_laws_FnExactReadJournal) (fn := Tryd.f12) (pm := S_laws_FnExactReadJournal.pm) (rm := S_laws_FnExactReadJournal.rm) (by kernel_rfl) (lookCons (meets_mono gl02 M_laws_eqNoteS) (lookCons (meets_mono gl02 M_laws_markNoteS) (lookCons (meets_mono gl02 M_laws_heldNoteS) (lookCons (meets_mono gl02 M_spec_ReadJournal) (lookCons M_impl_ReadJournal lookNil))))) follows_mixed Tryd.func12 (by kernel_rfl) (by kernel_rfl) rfl
end Go.Proofs.YtfjkapnonljdeaaDoor
