/-
  Contexts and contracts of functions, printed by gen.py.
-/
import Derived.Test.YtdgenchlghojlaaDoorRows
import Derived.Test.YtdgenchlghojlaaDoorTie
import Derived.Test.YtdgenchlghojlaaDoorCards
import Derived.Test.YtdgenchlghojlaaDoorM4
import Derived.Lib.IndexBytes
namespace Go.Proofs.YtdgenchlghojlaaDoor
open Go.V
set_option maxRecDepth 100000
@[reducible] def ty3 : TI := { n := 1, zero := [.v (.int .i64 0)], ik := some .i64 }
@[reducible] def ty4 : TI := { n := 1, zero := [.v (.bool false)], bl := true }
@[reducible] def ty5 : TI := { n := 1, zero := [.v (.int .u8 0)], ik := some .u8 }
@[reducible] def ty9 : TI := { n := 1, zero := [.v (.string ⟨#[]⟩)], str := true }
@[reducible] def ty22 : TI := { n := 1, zero := [.arr 1 []], elem := 5, ez := 1, eb := 1 }
@[reducible] def ty25 : TI := { agg := true, n := 4, zero := [.v (.int .i64 0), .v (.int .i64 0), .v (.int .i64 0), .v (.int .i64 0)], fs := [(0, 3), (1, 3), (2, 3), (3, 3)], eq := [1, 1, 1, 1] }
@[reducible] def ty47 : TI := { n := 1, zero := [.arr 1 []], elem := 3, ez := 1, eb := 8 }
@[reducible] def ty87 : TI := { n := 1, zero := [.arr 1 []], elem := 9, ez := 1, eb := 16 }
@[reducible] def ty107 : TI := { n := 1, zero := [.v (.int .u64 0)], ik := some .u64 }
@[reducible] def ty109 : TI := { agg := true, n := 3, zero := [.arr 1 [], .v (.int .i64 0), .v (.int .u64 0)], fs := [(0, 22), (1, 3), (2, 107)] }
@[reducible] def ty160 : TI := { n := 1, zero := [.v .nilIface], ifc := true }
/-- loop.example/g01054/laws.big -/
@[reducible] noncomputable def c_laws_big : Cx := { K := [.dat 2, .dat 2, .no, .no, .dat 0, .dat 2, .dat 0, .dat 0, .dat 0, .dat 2, .dat 0, .dat 2, .dat 0, .dat 0, .dat 0, .dat 0], T := [(3, ty3), (5, ty5), (22, ty22)], S := [], H := [], res := [.tmp 4], ios := [], G := gl0 }
noncomputable def F_laws_big : List D → Option Out := denF c_laws_big Tryd.f7
@[reducible] noncomputable def S_laws_big : FS := { pm := [.dat 2, .dat 2], rm := [.dat 0], f := F_laws_big }
theorem M_laws_big : Meets gl0 Tryd.prog 7 S_laws_big := meets_of (P := Tryd.prog) (c := c_laws_big) (fn := Tryd.f7) (pm := S_laws_big.pm) (rm := S_laws_big.rm) (by kernel_rfl) lookNil follows_mixed Tryd.func7 (by kernel_rfl) (by kernel_rfl) rfl
/-- (*loop.example/g01054/spec.l1Cur).next -/
@[reducible] noncomputable def c_spec_l1Cur_next : Cx := { K := [.box 3 2 true, .no, .dat 0, .dat 0, .ref 0, .ref 0, .ref 0, .dat 0, .ref 0, .ref 0, .ref 0, .dat 2, .dat 0, .dat 0, .ref 0, .ref 0, .ref 0, .dat 2, .ref 0, .ref 0, .ref 0, .dat 0, .dat 2, .dat 0, .dat 0, .ref 0, .ref 0, .ref 0, .dat 0, .dat 0, .ref 0, .ref 0, .ref 0, .ref 0, .ref 0, .ref 0, .dat 0, .dat 0, .dat 0, .dat 0, .dat 0, .dat 0, .ref 0, .ref 0, .ref 0, .ref 0, .ref 0, .dat 0, .ref 0, .ref 0, .ref 0, .dat 2, .dat 0, .dat 0, .dat 0, .ref 0, .ref 0, .ref 0, .dat 0, .dat 0, .dat 0, .dat 0], T := [(3, ty3), (5, ty5), (22, ty22), (107, ty107), (109, ty109)], S := [], H := [], res := [.tmp 2], ios := [0], G := gl0 }
noncomputable def F_spec_l1Cur_next : List D → Option Out := denF c_spec_l1Cur_next Tryd.f162
@[reducible] noncomputable def S_spec_l1Cur_next : FS := { pm := [.box 3 2 true], rm := [.dat 0], f := F_spec_l1Cur_next }
theorem M_spec_l1Cur_next : Meets gl0 Tryd.prog 162 S_spec_l1Cur_next := meets_of (P := Tryd.prog) (c := c_spec_l1Cur_next) (fn := Tryd.f162) (pm := S_spec_l1Cur_next.pm) (rm := S_spec_l1Cur_next.rm) (by kernel_rfl) lookNil follows_mixed Tryd.func162 (by kernel_rfl) (by kernel_rfl) rfl
/-- (*loop.example/g01054/spec.l1Cur).pick -/
@[reducible] noncomputable def c_spec_l1Cur_pick : Cx := { K := [.box 3 2 true, .dat 0, .no, .no, .dat 0, .dat 0, .dat 0, .dat 0, .ref 0, .dat 0, .dat 0, .dat 0, .dat 0, .dat 0, .ref 0, .dat 0, .dat 0, .dat 0, .dat 0, .dat 0], T := [(3, ty3)], S := [(162, S_spec_l1Cur_next)], H := [], res := [.tmp 4], ios := [0], G := gl0 }
noncomputable def F_spec_l1Cur_pick : List D → Option Out := denF c_spec_l1Cur_pick Tryd.f102
@[reducible] noncomputable def S_spec_l1Cur_pick : FS := { pm := [.box 3 2 true, .dat 0], rm := [.dat 0], f := F_spec_l1Cur_pick }
theorem M_spec_l1Cur_pick : Meets gl0 Tryd.prog 102 S_spec_l1Cur_pick := meets_of (P := Tryd.prog) (c := c_spec_l1Cur_pick) (fn := Tryd.f102) (pm := S_spec_l1Cur_pick.pm) (rm := S_spec_l1Cur_pick.rm) (by kernel_rfl) (lookCons M_spec_l1Cur_next lookNil) follows_mixed Tryd.func102 (by kernel_rfl) (by kernel_rfl) rfl
/-- (*loop.example/g01054/spec.l1Cur).one -/
@[reducible] noncomputable def c_spec_l1Cur_one : Cx := { K := [.box 3 2 true, .dat 0, .no, .no, .dat 0, .ref 0, .dat 0, .dat 0, .dat 0], T := [(3, ty3)], S := [(102, S_spec_l1Cur_pick)], H := [], res := [.tmp 4], ios := [0], G := gl0 }
noncomputable def F_spec_l1Cur_one : List D → Option Out := denF c_spec_l1Cur_one Tryd.f124
@[reducible] noncomputable def S_spec_l1Cur_one : FS := { pm := [.box 3 2 true, .dat 0], rm := [.dat 0], f := F_spec_l1Cur_one }
theorem M_spec_l1Cur_one : Meets gl0 Tryd.prog 124 S_spec_l1Cur_one := meets_of (P := Tryd.prog) (c := c_spec_l1Cur_one) (fn := Tryd.f124) (pm := S_spec_l1Cur_one.pm) (rm := S_spec_l1Cur_one.rm) (by kernel_rfl) (lookCons M_spec_l1Cur_pick lookNil) follows_mixed Tryd.func124 (by kernel_rfl) (by kernel_rfl) rfl
/-- (*loop.example/g01054/spec.l1Cur).among -/
@[reducible] noncomputable def c_spec_l1Cur_among : Cx := { K := [.box 3 2 true, .dat 2, .no, .no, .dat 0, .dat 2, .ref 0, .dat 2, .dat 0, .dat 0, .dat 2, .dat 0], T := [(3, ty3), (47, ty47)], S := [(102, S_spec_l1Cur_pick)], H := [], res := [.tmp 4], ios := [0], G := gl0 }
noncomputable def F_spec_l1Cur_among : List D → Option Out := denF c_spec_l1Cur_among Tryd.f89
@[reducible] noncomputable def S_spec_l1Cur_among : FS := { pm := [.box 3 2 true, .dat 2], rm := [.dat 0], f := F_spec_l1Cur_among }
theorem M_spec_l1Cur_among : Meets gl0 Tryd.prog 89 S_spec_l1Cur_among := meets_of (P := Tryd.prog) (c := c_spec_l1Cur_among) (fn := Tryd.f89) (pm := S_spec_l1Cur_among.pm) (rm := S_spec_l1Cur_among.rm) (by kernel_rfl) (lookCons M_spec_l1Cur_pick lookNil) follows_mixed Tryd.func89 (by kernel_rfl) (by kernel_rfl) rfl
/-- (*loop.example/g01054/spec.l1Cur).pageSide -/
@[reducible] noncomputable def c_spec_l1Cur_pageSide : Cx := { K := [.box 3 2 true, .no, .dat 0, .ref 0, .ref 0, .dat 0, .dat 0, .ref 0, .dat 1, .dat 0, .dat 1, .dat 0], T := [(3, ty3), (47, ty47)], S := [(89, S_spec_l1Cur_among), (102, S_spec_l1Cur_pick)], H := [], res := [.tmp 2], ios := [0], G := gl0 }
noncomputable def F_spec_l1Cur_pageSide : List D → Option Out := denF c_spec_l1Cur_pageSide Tryd.f96
@[reducible] noncomputable def S_spec_l1Cur_pageSide : FS := { pm := [.box 3 2 true], rm := [.dat 0], f := F_spec_l1Cur_pageSide }
theorem M_spec_l1Cur_pageSide : Meets gl0 Tryd.prog 96 S_spec_l1Cur_pageSide := meets_of (P := Tryd.prog) (c := c_spec_l1Cur_pageSide) (fn := Tryd.f96) (pm := S_spec_l1Cur_pageSide.pm) (rm := S_spec_l1Cur_pageSide.rm) (by kernel_rfl) (lookCons M_spec_l1Cur_among (lookCons M_spec_l1Cur_pick lookNil)) follows_mixed Tryd.func96 (by kernel_rfl) (by kernel_rfl) rfl
/-- (*loop.example/g01054/spec.l1Cur).margins -/
@[reducible] noncomputable def c_spec_l1Cur_margins : Cx := { K := [.box 3 2 true, .no, .box 4 0 false, .box 4 0 false, .ref 0, .dat 0, .dat 0, .ref 0, .dat 0, .dat 0, .ref 0, .dat 0, .dat 0, .ref 0, .dat 0, .dat 0, .dat 0, .ref 0, .dat 0, .dat 0, .dat 0, .ref 0, .dat 1, .dat 0, .ref 3, .dat 0, .dat 0, .ref 0, .dat 1, .dat 0, .ref 3, .dat 0, .dat 0, .ref 0, .dat 1, .dat 0, .ref 3, .dat 0], T := [(3, ty3), (25, ty25), (47, ty47)], S := [(89, S_spec_l1Cur_among), (102, S_spec_l1Cur_pick)], H := [], res := [.cell 2 25], ios := [0], G := gl0 }
noncomputable def F_spec_l1Cur_margins : List D → Option Out := denF c_spec_l1Cur_margins Tryd.f101
@[reducible] noncomputable def S_spec_l1Cur_margins : FS := { pm := [.box 3 2 true], rm := [.dat 0], f := F_spec_l1Cur_margins }
theorem M_spec_l1Cur_margins : Meets gl0 Tryd.prog 101 S_spec_l1Cur_margins := meets_of (P := Tryd.prog) (c := c_spec_l1Cur_margins) (fn := Tryd.f101) (pm := S_spec_l1Cur_margins.pm) (rm := S_spec_l1Cur_margins.rm) (by kernel_rfl) (lookCons M_spec_l1Cur_among (lookCons M_spec_l1Cur_pick lookNil)) follows_mixed Tryd.func101 (by kernel_rfl) (by kernel_rfl) rfl
/-- loop.example/g01054/spec.DrawIsLayout -/
@[reducible] noncomputable def c_spec_DrawIsLayout : Cx := { K := [.dat 2, .no, .dat 0, .dat 0, .box 4 0 false, .ref 8, .dat 2, .dat 2, .box 3 2 false, .ref 8, .dat 0, .ref 8, .dat 0, .dat 0, .dat 0, .ref 8, .dat 0, .ref 8, .dat 0, .ref 8, .dat 0], T := [(3, ty3), (22, ty22), (25, ty25), (107, ty107), (109, ty109)], S := [(96, S_spec_l1Cur_pageSide), (101, S_spec_l1Cur_margins), (102, S_spec_l1Cur_pick), (124, S_spec_l1Cur_one)], H := [], res := [.tmp 2, .tmp 3, .cell 4 25], ios := [], G := gl0 }
noncomputable def F_spec_DrawIsLayout : List D → Option Out := denF c_spec_DrawIsLayout Tryd.f88
@[reducible] noncomputable def S_spec_DrawIsLayout : FS := { pm := [.dat 2], rm := [.dat 0, .dat 0, .dat 0], f := F_spec_DrawIsLayout }
theorem M_spec_DrawIsLayout : Meets gl0 Tryd.prog 88 S_spec_DrawIsLayout := meets_of (P := Tryd.prog) (c := c_spec_DrawIsLayout) (fn := Tryd.f88) (pm := S_spec_DrawIsLayout.pm) (rm := S_spec_DrawIsLayout.rm) (by kernel_rfl) (lookCons M_spec_l1Cur_pageSide (lookCons M_spec_l1Cur_margins (lookCons M_spec_l1Cur_pick (lookCons M_spec_l1Cur_one lookNil)))) follows_mixed Tryd.func88 (by kernel_rfl) (by kernel_rfl) rfl
/-- loop.example/g01054/spec.DrawShiftMargins -/
@[reducible] noncomputable def c_spec_DrawShiftMargins : Cx := { K := [.dat 2, .no, .dat 0, .dat 0, .box 4 0 false, .dat 0, .dat 0, .ref 14, .dat 0, .dat 0, .box 4 0 false, .dat 1, .dat 2, .dat 2, .box 3 2 false, .tup [.dat 0, .dat 0, .dat 0], .dat 2, .tup [.dat 0, .dat 0, .dat 0], .dat 0, .dat 0, .dat 0, .ref 14, .ref 14, .ref 14, .ref 14, .dat 1, .dat 0, .dat 1, .dat 0, .dat 0, .dat 0, .ref 14, .dat 1, .dat 0, .ref 14, .dat 1, .dat 0], T := [(3, ty3), (22, ty22), (25, ty25), (47, ty47), (107, ty107), (109, ty109)], S := [(88, S_spec_DrawIsLayout), (89, S_spec_l1Cur_among)], H := [], res := [.tmp 2, .tmp 3, .cell 4 25, .tmp 5, .tmp 6], ios := [], G := gl0 }
noncomputable def F_spec_DrawShiftMargins : List D → Option Out := denF c_spec_DrawShiftMargins Tryd.f8
@[reducible] noncomputable def S_spec_DrawShiftMargins : FS := { pm := [.dat 2], rm := [.dat 0, .dat 0, .dat 0, .dat 0, .dat 0], f := F_spec_DrawShiftMargins }
theorem M_spec_DrawShiftMargins : Meets gl0 Tryd.prog 8 S_spec_DrawShiftMargins := meets_of (P := Tryd.prog) (c := c_spec_DrawShiftMargins) (fn := Tryd.f8) (pm := S_spec_DrawShiftMargins.pm) (rm := S_spec_DrawShiftMargins.rm) (by kernel_rfl) (lookCons M_spec_DrawIsLayout (lookCons M_spec_l1Cur_among lookNil)) follows_mixed Tryd.func8 (by kernel_rfl) (by kernel_rfl) rfl
/-- loop.example/g01054/impl.within -/
@[reducible] noncomputable def c_impl_within : Cx := { K := [.dat 0, .dat 0, .dat 0, .no, .no, .no, .dat 0, .dat 0, .dat 0, .dat 0, .dat 0, .dat 0, .dat 0, .dat 0, .dat 0], T := [(3, ty3)], S := [], H := [], res := [.tmp 6], ios := [], G := gl0 }
noncomputable def F_impl_within : List D → Option Out := denF c_impl_within Tryd.f90
@[reducible] noncomputable def S_impl_within : FS := { pm := [.dat 0, .dat 0, .dat 0], rm := [.dat 0], f := F_impl_within }
theorem M_impl_within : Meets gl0 Tryd.prog 90 S_impl_within := meets_of (P := Tryd.prog) (c := c_impl_within) (fn := Tryd.f90) (pm := S_impl_within.pm) (rm := S_impl_within.rm) (by kernel_rfl) lookNil follows_mixed Tryd.func90 (by kernel_rfl) (by kernel_rfl) rfl
/-- loop.example/g01054/impl.isPageSize -/
@[reducible] noncomputable def c_impl_isPageSize : Cx := { K := [.dat 0, .no, .dat 0, .dat 0, .dat 0], T := [], S := [(90, S_impl_within)], H := [], res := [.tmp 2], ios := [], G := gl0 }
noncomputable def F_impl_isPageSize : List D → Option Out := denF c_impl_isPageSize Tryd.f94
@[reducible] noncomputable def S_impl_isPageSize : FS := { pm := [.dat 0], rm := [.dat 0], f := F_impl_isPageSize }
theorem M_impl_isPageSize : Meets gl0 Tryd.prog 94 S_impl_isPageSize := meets_of (P := Tryd.prog) (c := c_impl_isPageSize) (fn := Tryd.f94) (pm := S_impl_isPageSize.pm) (rm := S_impl_isPageSize.rm) (by kernel_rfl) (lookCons M_impl_within lookNil) follows_mixed Tryd.func94 (by kernel_rfl) (by kernel_rfl) rfl
/-- loop.example/g01054/impl.areMargins -/
@[reducible] noncomputable def c_impl_areMargins : Cx := { K := [.dat 0, .box 4 0 false, .dat 0, .ref 1, .dat 0, .dat 0, .dat 0, .ref 1, .dat 0, .dat 0, .dat 0, .dat 0, .ref 1, .dat 0, .dat 0, .dat 0, .dat 0, .ref 1, .dat 0, .dat 0, .dat 0], T := [(3, ty3), (25, ty25)], S := [(90, S_impl_within)], H := [], res := [.tmp 2], ios := [], G := gl0 }
noncomputable def F_impl_areMargins : List D → Option Out := denF c_impl_areMargins Tryd.f95
@[reducible] noncomputable def S_impl_areMargins : FS := { pm := [.dat 0], rm := [.dat 0], f := F_impl_areMargins }
theorem M_impl_areMargins : Meets gl0 Tryd.prog 95 S_impl_areMargins := meets_of (P := Tryd.prog) (c := c_impl_areMargins) (fn := Tryd.f95) (pm := S_impl_areMargins.pm) (rm := S_impl_areMargins.rm) (by kernel_rfl) (lookCons M_impl_within lookNil) follows_mixed Tryd.func95 (by kernel_rfl) (by kernel_rfl) rfl
/-- loop.example/g01054/impl.IsLayout -/
@[reducible] noncomputable def c_impl_IsLayout : Cx := { K := [.dat 0, .dat 0, .dat 0, .no, .no, .box 4 0 false, .dat 0, .dat 0, .dat 0, .dat 0, .dat 0, .dat 0, .dat 0, .dat 0, .dat 0, .dat 0, .dat 0, .dat 0, .dat 0, .ref 5, .dat 0, .dat 0, .ref 5, .dat 0, .dat 0, .dat 0, .dat 0, .dat 0, .dat 0, .ref 5, .dat 0, .dat 0, .ref 5, .dat 0, .dat 0, .dat 0, .dat 0], T := [(3, ty3), (25, ty25)], S := [(94, S_impl_isPageSize), (95, S_impl_areMargins)], H := [], res := [.tmp 6], ios := [], G := gl0 }
noncomputable def F_impl_IsLayout : List D → Option Out := denF c_impl_IsLayout Tryd.f13
@[reducible] noncomputable def S_impl_IsLayout : FS := { pm := [.dat 0, .dat 0, .dat 0], rm := [.dat 0], f := F_impl_IsLayout }
theorem M_impl_IsLayout : Meets gl0 Tryd.prog 13 S_impl_IsLayout := meets_of (P := Tryd.prog) (c := c_impl_IsLayout) (fn := Tryd.f13) (pm := S_impl_IsLayout.pm) (rm := S_impl_IsLayout.rm) (by kernel_rfl) (lookCons M_impl_isPageSize (lookCons M_impl_areMargins lookNil)) follows_mixed Tryd.func13 (by kernel_rfl) (by kernel_rfl) rfl
/-- loop.example/g01054/impl.checkedMargins -/
@[reducible] noncomputable def c_impl_checkedMargins : Cx := { K := [.dat 0, .dat 0, .dat 0, .no, .no, .box 4 0 false, .box 4 0 false, .dat 0, .dat 0, .dat 0, .dat 0, .dat 0, .dat 0, .dat 0, .dat 0], T := [(3, ty3), (25, ty25)], S := [(13, S_impl_IsLayout)], H := [], res := [.cell 6 25, .tmp 7], ios := [], G := gl0 }
noncomputable def F_impl_checkedMargins : List D → Option Out := denF c_impl_checkedMargins Tryd.f91
@[reducible] noncomputable def S_impl_checkedMargins : FS := { pm := [.dat 0, .dat 0, .dat 0], rm := [.dat 0, .dat 0], f := F_impl_checkedMargins }
theorem M_impl_checkedMargins : Meets gl0 Tryd.prog 91 S_impl_checkedMargins := meets_of (P := Tryd.prog) (c := c_impl_checkedMargins) (fn := Tryd.f91) (pm := S_impl_checkedMargins.pm) (rm := S_impl_checkedMargins.rm) (by kernel_rfl) (lookCons M_impl_IsLayout lookNil) follows_mixed Tryd.func91 (by kernel_rfl) (by kernel_rfl) rfl
/-- loop.example/g01054/impl.ShiftMargins -/
@[reducible] noncomputable def c_impl_ShiftMargins : Cx := { K := [.dat 0, .dat 0, .dat 0, .dat 0, .dat 0, .no, .no, .box 4 0 false, .no, .no, .box 4 0 false, .dat 0, .dat 0, .dat 0, .dat 0, .dat 0, .dat 0, .dat 0, .dat 0, .dat 0, .dat 0, .dat 0, .dat 0, .dat 0, .dat 0, .dat 0, .dat 0, .dat 0, .dat 0, .dat 0, .ref 7, .dat 0, .dat 0, .dat 0, .ref 7, .dat 0, .dat 0, .dat 0, .ref 7, .dat 0, .dat 0, .dat 0, .ref 7, .dat 0, .dat 0, .dat 0, .dat 0, .tup [.dat 0, .dat 0], .dat 0, .dat 0], T := [(3, ty3), (25, ty25)], S := [(13, S_impl_IsLayout), (90, S_impl_within), (91, S_impl_checkedMargins)], H := [], res := [.cell 10 25, .tmp 11], ios := [], G := gl0 }
noncomputable def F_impl_ShiftMargins : List D → Option Out := denF c_impl_ShiftMargins Tryd.f9
@[reducible] noncomputable def S_impl_ShiftMargins : FS := { pm := [.dat 0, .dat 0, .dat 0, .dat 0, .dat 0], rm := [.dat 0, .dat 0], f := F_impl_ShiftMargins }
theorem M_impl_ShiftMargins : Meets gl0 Tryd.prog 9 S_impl_ShiftMargins := meets_of (P := Tryd.prog) (c := c_impl_ShiftMargins) (fn := Tryd.f9) (pm := S_impl_ShiftMargins.pm) (rm := S_impl_ShiftMargins.rm) (by kernel_rfl) (lookCons M_impl_IsLayout (lookCons M_impl_within (lookCons M_impl_checkedMargins lookNil))) follows_mixed Tryd.func9 (by kernel_rfl) (by kernel_rfl) rfl
/-- loop.example/g01054/spec.l1In -/
@[reducible] noncomputable def c_spec_l1In : Cx := { K := [.dat 0, .dat 0, .dat 0, .no, .no, .no, .dat 0, .dat 0, .dat 0, .dat 0, .dat 0, .dat 0, .dat 0, .dat 0, .dat 0], T := [(3, ty3)], S := [], H := [], res := [.tmp 6], ios := [], G := gl0 }
noncomputable def F_spec_l1In : List D → Option Out := denF c_spec_l1In Tryd.f93
@[reducible] noncomputable def S_spec_l1In : FS := { pm := [.dat 0, .dat 0, .dat 0], rm := [.dat 0], f := F_spec_l1In }
theorem M_spec_l1In : Meets gl0 Tryd.prog 93 S_spec_l1In := meets_of (P := Tryd.prog) (c := c_spec_l1In) (fn := Tryd.f93) (pm := S_spec_l1In.pm) (rm := S_spec_l1In.rm) (by kernel_rfl) lookNil follows_mixed Tryd.func93 (by kernel_rfl) (by kernel_rfl) rfl
/-- loop.example/g01054/spec.mgPage -/
@[reducible] noncomputable def c_spec_mgPage : Cx := { K := [.dat 0, .dat 0, .no, .no, .dat 0, .dat 0, .dat 0, .dat 0, .dat 0, .dat 0, .dat 0], T := [], S := [(93, S_spec_l1In)], H := [], res := [.tmp 4], ios := [], G := gl0 }
noncomputable def F_spec_mgPage : List D → Option Out := denF c_spec_mgPage Tryd.f97
@[reducible] noncomputable def S_spec_mgPage : FS := { pm := [.dat 0, .dat 0], rm := [.dat 0], f := F_spec_mgPage }
theorem M_spec_mgPage : Meets gl0 Tryd.prog 97 S_spec_mgPage := meets_of (P := Tryd.prog) (c := c_spec_mgPage) (fn := Tryd.f97) (pm := S_spec_mgPage.pm) (rm := S_spec_mgPage.rm) (by kernel_rfl) (lookCons M_spec_l1In lookNil) follows_mixed Tryd.func97 (by kernel_rfl) (by kernel_rfl) rfl
/-- loop.example/g01054/spec.mgParts -/
@[reducible] noncomputable def c_spec_mgParts : Cx := { K := [.dat 0, .box 4 0 false, .own 1 0 false, .ref 1, .dat 0, .ref 1, .dat 0, .ref 1, .dat 0, .ref 1, .dat 0, .own 1 0 false], T := [(3, ty3), (25, ty25), (47, ty47)], S := [], H := [], res := [.tmp 2], ios := [], G := gl0 }
noncomputable def F_spec_mgParts : List D → Option Out := denF c_spec_mgParts Tryd.f160
@[reducible] noncomputable def S_spec_mgParts : FS := { pm := [.dat 0], rm := [.own 1 0 false], f := F_spec_mgParts }
theorem M_spec_mgParts : Meets gl0 Tryd.prog 160 S_spec_mgParts := meets_of (P := Tryd.prog) (c := c_spec_mgParts) (fn := Tryd.f160) (pm := S_spec_mgParts.pm) (rm := S_spec_mgParts.rm) (by kernel_rfl) lookNil follows_mixed Tryd.func160 (by kernel_rfl) (by kernel_rfl) rfl
/-- loop.example/g01054/spec.l1All -/
@[reducible] noncomputable def c_spec_l1All : Cx := { K := [.dat 2, .dat 0, .dat 0, .no, .no, .no, .dat 0, .no, .dat 0, .dat 2, .dat 0, .dat 0, .dat 0, .dat 2, .dat 0, .dat 0, .dat 0, .dat 0, .dat 0, .dat 0, .dat 0], T := [(3, ty3), (47, ty47)], S := [(93, S_spec_l1In)], H := [(0, ([1, 2, 9, 10, 11], []))], res := [.tmp 6], ios := [], G := gl0 }
noncomputable def F_spec_l1All : List D → Option Out := denF c_spec_l1All Tryd.f159
@[reducible] noncomputable def S_spec_l1All : FS := { pm := [.dat 2, .dat 0, .dat 0], rm := [.dat 0], f := F_spec_l1All }
theorem M_spec_l1All : Meets gl0 Tryd.prog 159 S_spec_l1All := meets_of (P := Tryd.prog) (c := c_spec_l1All) (fn := Tryd.f159) (pm := S_spec_l1All.pm) (rm := S_spec_l1All.rm) (by kernel_rfl) (lookCons M_spec_l1In lookNil) follows_mixed Tryd.func159 (by kernel_rfl) (by kernel_rfl) rfl
/-- loop.example/g01054/spec.mgGood -/
@[reducible] noncomputable def c_spec_mgGood : Cx := { K := [.dat 0, .box 4 0 false, .dat 0, .dat 0, .dat 1, .dat 0], T := [(3, ty3), (25, ty25)], S := [(159, S_spec_l1All), (160, S_spec_mgParts)], H := [], res := [.tmp 2], ios := [], G := gl0 }
noncomputable def F_spec_mgGood : List D → Option Out := denF c_spec_mgGood Tryd.f99
@[reducible] noncomputable def S_spec_mgGood : FS := { pm := [.dat 0], rm := [.dat 0], f := F_spec_mgGood }
theorem M_spec_mgGood : Meets gl0 Tryd.prog 99 S_spec_mgGood := meets_of (P := Tryd.prog) (c := c_spec_mgGood) (fn := Tryd.f99) (pm := S_spec_mgGood.pm) (rm := S_spec_mgGood.rm) (by kernel_rfl) (lookCons M_spec_l1All (lookCons M_spec_mgParts lookNil)) follows_mixed Tryd.func99 (by kernel_rfl) (by kernel_rfl) rfl
/-- loop.example/g01054/spec.mgLayout -/
@[reducible] noncomputable def c_spec_mgLayout : Cx := { K := [.dat 0, .dat 0, .dat 0, .no, .no, .box 4 0 false, .dat 0, .dat 0, .dat 0, .dat 0, .dat 0, .dat 0, .dat 0, .dat 0, .dat 0, .dat 0, .ref 5, .dat 0, .dat 0, .ref 5, .dat 0, .dat 0, .dat 0, .dat 0, .dat 0, .dat 0, .ref 5, .dat 0, .dat 0, .ref 5, .dat 0, .dat 0, .dat 0, .dat 0], T := [(3, ty3), (25, ty25)], S := [(97, S_spec_mgPage), (99, S_spec_mgGood)], H := [], res := [.tmp 6], ios := [], G := gl0 }
noncomputable def F_spec_mgLayout : List D → Option Out := denF c_spec_mgLayout Tryd.f92
@[reducible] noncomputable def S_spec_mgLayout : FS := { pm := [.dat 0, .dat 0, .dat 0], rm := [.dat 0], f := F_spec_mgLayout }
theorem M_spec_mgLayout : Meets gl0 Tryd.prog 92 S_spec_mgLayout := meets_of (P := Tryd.prog) (c := c_spec_mgLayout) (fn := Tryd.f92) (pm := S_spec_mgLayout.pm) (rm := S_spec_mgLayout.rm) (by kernel_rfl) (lookCons M_spec_mgPage (lookCons M_spec_mgGood lookNil)) follows_mixed Tryd.func92 (by kernel_rfl) (by kernel_rfl) rfl
/-- loop.example/g01054/spec.ShiftMargins -/
@[reducible] noncomputable def c_spec_ShiftMargins : Cx := { K := [.dat 0, .dat 0, .dat 0, .dat 0, .dat 0, .no, .no, .box 4 0 false, .no, .no, .box 4 0 false, .dat 0, .box 4 0 false, .dat 0, .dat 0, .dat 0, .dat 0, .dat 0, .dat 0, .dat 0, .dat 0, .dat 0, .dat 0, .dat 0, .dat 0, .dat 0, .dat 0, .dat 0, .dat 0, .ref 7, .dat 0, .dat 0, .dat 0, .ref 7, .dat 0, .dat 0, .dat 0, .ref 7, .dat 0, .dat 0, .dat 0, .ref 7, .dat 0, .dat 0, .dat 0, .dat 0, .dat 0, .dat 0, .dat 0, .dat 0, .dat 0, .dat 0, .dat 0], T := [(3, ty3), (25, ty25)], S := [(92, S_spec_mgLayout), (93, S_spec_l1In)], H := [], res := [.cell 10 25, .tmp 11], ios := [], G := gl0 }
noncomputable def F_spec_ShiftMargins : List D → Option Out := denF c_spec_ShiftMargins Tryd.f10
@[reducible] noncomputable def S_spec_ShiftMargins : FS := { pm := [.dat 0, .dat 0, .dat 0, .dat 0, .dat 0], rm := [.dat 0, .dat 0], f := F_spec_ShiftMargins }
theorem M_spec_ShiftMargins : Meets gl0 Tryd.prog 10 S_spec_ShiftMargins := meets_of (P := Tryd.prog) (c := c_spec_ShiftMargins) (fn := Tryd.f10) (pm := S_spec_ShiftMargins.pm) (rm := S_spec_ShiftMargins.rm) (by kernel_rfl) (lookCons M_spec_mgLayout (lookCons M_spec_l1In lookNil)) follows_mixed Tryd.func10 (by kernel_rfl) (by kernel_rfl) rfl
/-- loop.example/g01054/impl.TypeArea -/
@[reducible] noncomputable def c_impl_TypeArea : Cx := { K := [.dat 0, .dat 0, .dat 0, .no, .no, .box 4 0 false, .dat 0, .dat 0, .dat 0, .dat 0, .dat 0, .dat 0, .dat 0, .dat 0, .dat 0, .ref 5, .dat 0, .dat 0, .ref 5, .dat 0, .dat 0, .dat 0, .ref 5, .dat 0, .dat 0, .ref 5, .dat 0, .dat 0], T := [(3, ty3), (25, ty25)], S := [(13, S_impl_IsLayout)], H := [], res := [.tmp 6, .tmp 7, .tmp 8], ios := [], G := gl0 }
noncomputable def F_impl_TypeArea : List D → Option Out := denF c_impl_TypeArea Tryd.f11
@[reducible] noncomputable def S_impl_TypeArea : FS := { pm := [.dat 0, .dat 0, .dat 0], rm := [.dat 0, .dat 0, .dat 0], f := F_impl_TypeArea }
theorem M_impl_TypeArea : Meets gl0 Tryd.prog 11 S_impl_TypeArea := meets_of (P := Tryd.prog) (c := c_impl_TypeArea) (fn := Tryd.f11) (pm := S_impl_TypeArea.pm) (rm := S_impl_TypeArea.rm) (by kernel_rfl) (lookCons M_impl_IsLayout lookNil) follows_mixed Tryd.func11 (by kernel_rfl) (by kernel_rfl) rfl
/-- loop.example/g01054/spec.TypeArea -/
@[reducible] noncomputable def c_spec_TypeArea : Cx := { K := [.dat 0, .dat 0, .dat 0, .no, .no, .box 4 0 false, .dat 0, .dat 0, .dat 0, .dat 0, .dat 0, .dat 0, .dat 0, .dat 0, .dat 0, .ref 5, .dat 0, .dat 0, .ref 5, .dat 0, .dat 0, .dat 0, .ref 5, .dat 0, .dat 0, .ref 5, .dat 0, .dat 0], T := [(3, ty3), (25, ty25)], S := [(92, S_spec_mgLayout)], H := [], res := [.tmp 6, .tmp 7, .tmp 8], ios := [], G := gl0 }
noncomputable def F_spec_TypeArea : List D → Option Out := denF c_spec_TypeArea Tryd.f12
@[reducible] noncomputable def S_spec_TypeArea : FS := { pm := [.dat 0, .dat 0, .dat 0], rm := [.dat 0, .dat 0, .dat 0], f := F_spec_TypeArea }
theorem M_spec_TypeArea : Meets gl0 Tryd.prog 12 S_spec_TypeArea := meets_of (P := Tryd.prog) (c := c_spec_TypeArea) (fn := Tryd.f12) (pm := S_spec_TypeArea.pm) (rm := S_spec_TypeArea.rm) (by kernel_rfl) (lookCons M_spec_mgLayout lookNil) follows_mixed Tryd.func12 (by kernel_rfl) (by kernel_rfl) rfl
/-- loop.example/g01054/spec.DrawMarginsByRule -/
@[reducible] noncomputable def c_spec_DrawMarginsByRule : Cx := { K := [.dat 2, .no, .dat 0, .dat 0, .dat 0, .ref 10, .dat 0, .dat 0, .dat 2, .dat 2, .box 3 2 false, .ref 10, .dat 0, .ref 10, .dat 0, .dat 0, .dat 0, .ref 10, .dat 0, .dat 0, .dat 0, .dat 0, .dat 0, .dat 0, .dat 0, .dat 0, .ref 10, .dat 0, .dat 0, .dat 1, .dat 0, .dat 1, .dat 0], T := [(3, ty3), (22, ty22), (47, ty47), (107, ty107), (109, ty109)], S := [(89, S_spec_l1Cur_among), (96, S_spec_l1Cur_pageSide)], H := [], res := [.tmp 2, .tmp 3, .tmp 4], ios := [], G := gl0 }
noncomputable def F_spec_DrawMarginsByRule : List D → Option Out := denF c_spec_DrawMarginsByRule Tryd.f14
@[reducible] noncomputable def S_spec_DrawMarginsByRule : FS := { pm := [.dat 2], rm := [.dat 0, .dat 0, .dat 0], f := F_spec_DrawMarginsByRule }
theorem M_spec_DrawMarginsByRule : Meets gl0 Tryd.prog 14 S_spec_DrawMarginsByRule := meets_of (P := Tryd.prog) (c := c_spec_DrawMarginsByRule) (fn := Tryd.f14) (pm := S_spec_DrawMarginsByRule.pm) (rm := S_spec_DrawMarginsByRule.rm) (by kernel_rfl) (lookCons M_spec_l1Cur_among (lookCons M_spec_l1Cur_pageSide lookNil)) follows_mixed Tryd.func14 (by kernel_rfl) (by kernel_rfl) rfl
/-- loop.example/g01054/impl.MarginsByRule -/
@[reducible] noncomputable def c_impl_MarginsByRule : Cx := { K := [.dat 0, .dat 0, .dat 0, .no, .no, .no, .box 4 0 false, .dat 0, .dat 0, .dat 0, .dat 0, .dat 0, .dat 0, .dat 0, .dat 0, .dat 0, .dat 0, .dat 0, .dat 0, .dat 0, .dat 0, .dat 0, .dat 0, .dat 0, .dat 0, .dat 0, .dat 0, .dat 0, .dat 0, .dat 0, .dat 0, .dat 0, .dat 0, .dat 0, .dat 0, .dat 0, .dat 0, .dat 0, .dat 0, .dat 0, .dat 0, .dat 0, .dat 0, .dat 0, .dat 0, .dat 0, .dat 0, .dat 0, .dat 0, .dat 0, .tup [.dat 0, .dat 0], .dat 0, .dat 0], T := [(3, ty3), (25, ty25)], S := [(90, S_impl_within), (91, S_impl_checkedMargins), (94, S_impl_isPageSize)], H := [], res := [.cell 6 25, .tmp 7], ios := [], G := gl0 }
noncomputable def F_impl_MarginsByRule : List D → Option Out := denF c_impl_MarginsByRule Tryd.f15
@[reducible] noncomputable def S_impl_MarginsByRule : FS := { pm := [.dat 0, .dat 0, .dat 0], rm := [.dat 0, .dat 0], f := F_impl_MarginsByRule }
theorem M_impl_MarginsByRule : Meets gl0 Tryd.prog 15 S_impl_MarginsByRule := meets_of (P := Tryd.prog) (c := c_impl_MarginsByRule) (fn := Tryd.f15) (pm := S_impl_MarginsByRule.pm) (rm := S_impl_MarginsByRule.rm) (by kernel_rfl) (lookCons M_impl_within (lookCons M_impl_checkedMargins (lookCons M_impl_isPageSize lookNil))) follows_mixed Tryd.func15 (by kernel_rfl) (by kernel_rfl) rfl
/-- loop.example/g01054/spec.MarginsByRule -/
@[reducible] noncomputable def c_spec_MarginsByRule : Cx := { K := [.dat 0, .dat 0, .dat 0, .no, .no, .no, .box 4 0 false, .dat 0, .dat 0, .box 4 0 false, .dat 0, .dat 0, .dat 0, .dat 0, .dat 0, .dat 0, .dat 0, .dat 0, .dat 0, .dat 0, .dat 0, .dat 0, .dat 0, .dat 0, .dat 0, .dat 0, .dat 0, .dat 0, .dat 0, .dat 0, .dat 0, .dat 0, .dat 0, .dat 0, .dat 0, .dat 0, .dat 0, .dat 0, .ref 9, .dat 0, .dat 0, .ref 9, .dat 0, .dat 0, .dat 0, .ref 9, .dat 0, .dat 0, .ref 9, .dat 0, .dat 0, .dat 0, .dat 0, .dat 0, .dat 0, .dat 0], T := [(3, ty3), (25, ty25)], S := [(92, S_spec_mgLayout), (93, S_spec_l1In), (97, S_spec_mgPage)], H := [], res := [.cell 6 25, .tmp 7], ios := [], G := gl0 }
noncomputable def F_spec_MarginsByRule : List D → Option Out := denF c_spec_MarginsByRule Tryd.f16
@[reducible] noncomputable def S_spec_MarginsByRule : FS := { pm := [.dat 0, .dat 0, .dat 0], rm := [.dat 0, .dat 0], f := F_spec_MarginsByRule }
theorem M_spec_MarginsByRule : Meets gl0 Tryd.prog 16 S_spec_MarginsByRule := meets_of (P := Tryd.prog) (c := c_spec_MarginsByRule) (fn := Tryd.f16) (pm := S_spec_MarginsByRule.pm) (rm := S_spec_MarginsByRule.rm) (by kernel_rfl) (lookCons M_spec_mgLayout (lookCons M_spec_l1In (lookCons M_spec_mgPage lookNil))) follows_mixed Tryd.func16 (by kernel_rfl) (by kernel_rfl) rfl
/-- loop.example/g01054/spec.DrawPlaceOfType -/
@[reducible] noncomputable def c_spec_DrawPlaceOfType : Cx := { K := [.dat 2, .no, .dat 0, .dat 0, .box 4 0 false, .dat 0, .ref 12, .dat 0, .dat 0, .box 4 0 false, .dat 2, .dat 2, .box 3 2 false, .tup [.dat 0, .dat 0, .dat 0], .dat 2, .tup [.dat 0, .dat 0, .dat 0], .dat 0, .dat 0, .dat 0, .ref 12, .ref 12, .ref 12, .dat 0, .dat 0, .dat 0, .ref 12, .ref 12, .dat 1, .dat 0, .dat 1, .dat 0], T := [(3, ty3), (22, ty22), (25, ty25), (47, ty47), (107, ty107), (109, ty109)], S := [(88, S_spec_DrawIsLayout), (89, S_spec_l1Cur_among)], H := [], res := [.tmp 2, .tmp 3, .cell 4 25, .tmp 5], ios := [], G := gl0 }
noncomputable def F_spec_DrawPlaceOfType : List D → Option Out := denF c_spec_DrawPlaceOfType Tryd.f17
@[reducible] noncomputable def S_spec_DrawPlaceOfType : FS := { pm := [.dat 2], rm := [.dat 0, .dat 0, .dat 0, .dat 0], f := F_spec_DrawPlaceOfType }
theorem M_spec_DrawPlaceOfType : Meets gl0 Tryd.prog 17 S_spec_DrawPlaceOfType := meets_of (P := Tryd.prog) (c := c_spec_DrawPlaceOfType) (fn := Tryd.f17) (pm := S_spec_DrawPlaceOfType.pm) (rm := S_spec_DrawPlaceOfType.rm) (by kernel_rfl) (lookCons M_spec_DrawIsLayout (lookCons M_spec_l1Cur_among lookNil)) follows_mixed Tryd.func17 (by kernel_rfl) (by kernel_rfl) rfl
/-- loop.example/g01054/impl.PlaceOfType -/
@[reducible] noncomputable def c_impl_PlaceOfType : Cx := { K := [.dat 0, .dat 0, .dat 0, .dat 0, .no, .no, .box 4 0 false, .no, .dat 0, .dat 0, .dat 0, .dat 0, .dat 0, .dat 0, .dat 0, .dat 0, .dat 0, .dat 0, .dat 0, .dat 0, .dat 0, .dat 0, .dat 0, .dat 0, .ref 6, .dat 0, .ref 6, .dat 0, .ref 6, .dat 0, .ref 6, .dat 0], T := [(3, ty3), (25, ty25)], S := [(13, S_impl_IsLayout), (90, S_impl_within)], H := [], res := [.tmp 8, .tmp 9, .tmp 10], ios := [], G := gl0 }
noncomputable def F_impl_PlaceOfType : List D → Option Out := denF c_impl_PlaceOfType Tryd.f18
@[reducible] noncomputable def S_impl_PlaceOfType : FS := { pm := [.dat 0, .dat 0, .dat 0, .dat 0], rm := [.dat 0, .dat 0, .dat 0], f := F_impl_PlaceOfType }
theorem M_impl_PlaceOfType : Meets gl0 Tryd.prog 18 S_impl_PlaceOfType := meets_of (P := Tryd.prog) (c := c_impl_PlaceOfType) (fn := Tryd.f18) (pm := S_impl_PlaceOfType.pm) (rm := S_impl_PlaceOfType.rm) (by kernel_rfl) (lookCons M_impl_IsLayout (lookCons M_impl_within lookNil)) follows_mixed Tryd.func18 (by kernel_rfl) (by kernel_rfl) rfl
/-- loop.example/g01054/spec.PlaceOfType -/
@[reducible] noncomputable def c_spec_PlaceOfType : Cx := { K := [.dat 0, .dat 0, .dat 0, .dat 0, .no, .no, .box 4 0 false, .no, .dat 0, .dat 0, .dat 0, .dat 0, .dat 0, .dat 0, .dat 0, .dat 0, .dat 0, .dat 0, .dat 0, .dat 0, .dat 0, .dat 0, .dat 0, .dat 0, .ref 6, .dat 0, .ref 6, .dat 0, .ref 6, .dat 0, .ref 6, .dat 0], T := [(3, ty3), (25, ty25)], S := [(92, S_spec_mgLayout), (93, S_spec_l1In)], H := [], res := [.tmp 8, .tmp 9, .tmp 10], ios := [], G := gl0 }
noncomputable def F_spec_PlaceOfType : List D → Option Out := denF c_spec_PlaceOfType Tryd.f19
@[reducible] noncomputable def S_spec_PlaceOfType : FS := { pm := [.dat 0, .dat 0, .dat 0, .dat 0], rm := [.dat 0, .dat 0, .dat 0], f := F_spec_PlaceOfType }
theorem M_spec_PlaceOfType : Meets gl0 Tryd.prog 19 S_spec_PlaceOfType := meets_of (P := Tryd.prog) (c := c_spec_PlaceOfType) (fn := Tryd.f19) (pm := S_spec_PlaceOfType.pm) (rm := S_spec_PlaceOfType.rm) (by kernel_rfl) (lookCons M_spec_mgLayout (lookCons M_spec_l1In lookNil)) follows_mixed Tryd.func19 (by kernel_rfl) (by kernel_rfl) rfl
/-- loop.example/g01054/impl.join -/
@[reducible] noncomputable def c_impl_join : Cx := { K := [.dat 2, .dat 0, .no, .no, .dat 0, .own 1 0 false, .no, .dat 0, .own 1 0 false, .dat 2, .dat 0, .dat 0, .dat 0, .dat 2, .dat 0, .own 1 0 false, .dat 0, .dat 0, .dat 1, .own 1 0 false, .dat 0, .via 5, .dat 0, .dat 0], T := [(3, ty3), (9, ty9), (47, ty47), (87, ty87)], S := [(146, S_strconv_Itoa), (166, S_strings_Join)], H := [(0, ([1, 5, 9, 10, 11], [1, 5]))], res := [.tmp 4], ios := [], G := gl1 }
noncomputable def F_impl_join : List D → Option Out := denF c_impl_join Tryd.f119
@[reducible] noncomputable def S_impl_join : FS := { pm := [.dat 2, .dat 0], rm := [.dat 0], f := F_impl_join }
theorem M_impl_join : Meets gl1 Tryd.prog 119 S_impl_join := meets_of (P := Tryd.prog) (c := c_impl_join) (fn := Tryd.f119) (pm := S_impl_join.pm) (rm := S_impl_join.rm) (by kernel_rfl) (lookCons M_strconv_Itoa (lookCons (meets_mono gl01 M_strings_Join) lookNil)) follows_mixed Tryd.func119 (by kernel_rfl) (by kernel_rfl) rfl
/-- loop.example/g01054/impl.marginsText -/
@[reducible] noncomputable def c_impl_marginsText : Cx := { K := [.dat 0, .box 4 0 false, .dat 0, .ref 1, .dat 0, .ref 1, .dat 0, .ref 1, .dat 0, .ref 1, .dat 0, .dat 1, .dat 0], T := [(3, ty3), (25, ty25), (47, ty47)], S := [(119, S_impl_join)], H := [], res := [.tmp 2], ios := [], G := gl1 }
noncomputable def F_impl_marginsText : List D → Option Out := denF c_impl_marginsText Tryd.f98
@[reducible] noncomputable def S_impl_marginsText : FS := { pm := [.dat 0], rm := [.dat 0], f := F_impl_marginsText }
theorem M_impl_marginsText : Meets gl1 Tryd.prog 98 S_impl_marginsText := meets_of (P := Tryd.prog) (c := c_impl_marginsText) (fn := Tryd.f98) (pm := S_impl_marginsText.pm) (rm := S_impl_marginsText.rm) (by kernel_rfl) (lookCons M_impl_join lookNil) follows_mixed Tryd.func98 (by kernel_rfl) (by kernel_rfl) rfl
/-- loop.example/g01054/impl.MarginsText -/
@[reducible] noncomputable def c_impl_MarginsText : Cx := { K := [.dat 0, .box 4 0 false, .dat 0, .dat 0, .dat 0, .dat 0, .dat 0, .dat 0, .dat 0], T := [(3, ty3), (25, ty25)], S := [(95, S_impl_areMargins), (98, S_impl_marginsText)], H := [], res := [.tmp 2, .tmp 3], ios := [], G := gl1 }
noncomputable def F_impl_MarginsText : List D → Option Out := denF c_impl_MarginsText Tryd.f20
@[reducible] noncomputable def S_impl_MarginsText : FS := { pm := [.dat 0], rm := [.dat 0, .dat 0], f := F_impl_MarginsText }
theorem M_impl_MarginsText : Meets gl1 Tryd.prog 20 S_impl_MarginsText := meets_of (P := Tryd.prog) (c := c_impl_MarginsText) (fn := Tryd.f20) (pm := S_impl_MarginsText.pm) (rm := S_impl_MarginsText.rm) (by kernel_rfl) (lookCons (meets_mono gl01 M_impl_areMargins) (lookCons M_impl_marginsText lookNil)) follows_mixed Tryd.func20 (by kernel_rfl) (by kernel_rfl) rfl
/-- loop.example/g01054/spec.l1Num -/
@[reducible] noncomputable def c_spec_l1Num (k : List D → Option Out) : Cx := { K := [.dat 0, .no, .dat 0, .dat 0, .dat 0, .dat 0, .dat 0, .dat 0, .dat 1, .dat 0, .dat 0, .dat 0, .dat 0, .dat 0, .dat 0, .dat 0, .dat 0, .dat 1, .dat 0, .dat 0], T := [(3, ty3), (5, ty5), (9, ty9), (22, ty22)], S := [(161, { pm := [.dat 0], rm := [.dat 0], f := k })], H := [], res := [.tmp 2], ios := [], G := gl0 }
noncomputable def R_spec_l1Num : Nat → List D → Option Out
  | 0, _ => none
  | n + 1, ds => denF (c_spec_l1Num (R_spec_l1Num n)) Tryd.f161 ds
noncomputable def F_spec_l1Num : List D → Option Out := recF R_spec_l1Num
@[reducible] noncomputable def S_spec_l1Num : FS := { pm := [.dat 0], rm := [.dat 0], f := F_spec_l1Num }
theorem MR_spec_l1Num : ∀ n : Nat, Meets gl0 Tryd.prog 161 { pm := [.dat 0], rm := [.dat 0], f := R_spec_l1Num n }
  | 0 => meets_none (fun _ => rfl)
  | n + 1 => by
    have ih := MR_spec_l1Num n
    exact meets_of (P := Tryd.prog) (c := c_spec_l1Num (R_spec_l1Num n)) (fn := Tryd.f161) (pm := S_spec_l1Num.pm) (rm := S_spec_l1Num.rm) (by kernel_rfl) (lookCons ih lookNil) follows_mixed Tryd.func161 (by kernel_rfl) (by kernel_rfl) rfl
theorem M_spec_l1Num : Meets gl0 Tryd.prog 161 S_spec_l1Num := meets_rec MR_spec_l1Num
/-- loop.example/g01054/spec.mgText -/
@[reducible] noncomputable def c_spec_mgText : Cx := { K := [.dat 0, .box 4 0 false, .dat 0, .dat 0, .dat 0, .dat 0, .dat 0, .dat 1, .dat 0, .dat 0, .dat 0, .dat 0, .dat 1, .dat 0, .dat 0, .dat 0, .dat 0, .dat 0, .dat 0, .dat 0, .dat 0, .dat 0, .dat 0, .dat 0], T := [(3, ty3), (9, ty9), (25, ty25), (47, ty47)], S := [(160, S_spec_mgParts), (161, S_spec_l1Num)], H := [(0, ([3, 7, 8, 9], [3]))], res := [.tmp 2], ios := [], G := gl0 }
noncomputable def F_spec_mgText : List D → Option Out := denF c_spec_mgText Tryd.f100
@[reducible] noncomputable def S_spec_mgText : FS := { pm := [.dat 0], rm := [.dat 0], f := F_spec_mgText }
theorem M_spec_mgText : Meets gl0 Tryd.prog 100 S_spec_mgText := meets_of (P := Tryd.prog) (c := c_spec_mgText) (fn := Tryd.f100) (pm := S_spec_mgText.pm) (rm := S_spec_mgText.rm) (by kernel_rfl) (lookCons M_spec_mgParts (lookCons M_spec_l1Num lookNil)) follows_mixed Tryd.func100 (by kernel_rfl) (by kernel_rfl) rfl
/-- loop.example/g01054/spec.MarginsText -/
@[reducible] noncomputable def c_spec_MarginsText : Cx := { K := [.dat 0, .box 4 0 false, .dat 0, .dat 0, .dat 0, .dat 0, .dat 0, .dat 0, .dat 0], T := [(3, ty3), (25, ty25)], S := [(99, S_spec_mgGood), (100, S_spec_mgText)], H := [], res := [.tmp 2, .tmp 3], ios := [], G := gl0 }
noncomputable def F_spec_MarginsText : List D → Option Out := denF c_spec_MarginsText Tryd.f21
@[reducible] noncomputable def S_spec_MarginsText : FS := { pm := [.dat 0], rm := [.dat 0, .dat 0], f := F_spec_MarginsText }
theorem M_spec_MarginsText : Meets gl0 Tryd.prog 21 S_spec_MarginsText := meets_of (P := Tryd.prog) (c := c_spec_MarginsText) (fn := Tryd.f21) (pm := S_spec_MarginsText.pm) (rm := S_spec_MarginsText.rm) (by kernel_rfl) (lookCons M_spec_mgGood (lookCons M_spec_mgText lookNil)) follows_mixed Tryd.func21 (by kernel_rfl) (by kernel_rfl) rfl
/-- (*loop.example/g01054/spec.l1Cur).spoilt -/
@[reducible] noncomputable def c_spec_l1Cur_spoilt : Cx := { K := [.box 3 2 true, .dat 0, .dat 0, .no, .no, .no, .dat 0, .dat 0, .dat 0, .dat 0, .ref 0, .dat 0, .dat 0, .dat 0, .dat 0, .dat 0, .dat 0, .dat 0, .dat 0, .dat 0, .dat 0, .dat 0, .ref 0, .dat 0, .dat 0, .dat 0, .dat 0, .ref 0, .dat 0, .dat 0, .dat 0, .dat 0, .dat 1, .dat 0, .ref 0, .dat 0, .dat 0, .dat 0, .dat 0, .dat 0, .dat 0, .dat 0, .dat 0, .dat 0, .dat 0, .dat 0, .dat 0, .dat 0, .dat 0, .dat 0, .dat 0, .dat 0, .dat 0, .dat 0, .dat 0, .dat 0, .dat 0, .dat 0, .dat 0, .dat 0, .dat 0, .dat 0, .dat 0, .dat 0, .dat 0, .dat 0, .dat 0, .dat 0], T := [(3, ty3), (5, ty5), (9, ty9), (22, ty22)], S := [(102, S_spec_l1Cur_pick)], H := [(0, ([0, 1, 2, 7], [0, 1]))], res := [.tmp 6], ios := [0], G := gl0 }
noncomputable def F_spec_l1Cur_spoilt : List D → Option Out := denF c_spec_l1Cur_spoilt Tryd.f103
@[reducible] noncomputable def S_spec_l1Cur_spoilt : FS := { pm := [.box 3 2 true, .dat 0, .dat 0], rm := [.dat 0], f := F_spec_l1Cur_spoilt }
theorem M_spec_l1Cur_spoilt : Meets gl0 Tryd.prog 103 S_spec_l1Cur_spoilt := meets_of (P := Tryd.prog) (c := c_spec_l1Cur_spoilt) (fn := Tryd.f103) (pm := S_spec_l1Cur_spoilt.pm) (rm := S_spec_l1Cur_spoilt.rm) (by kernel_rfl) (lookCons M_spec_l1Cur_pick lookNil) follows_mixed Tryd.func103 (by kernel_rfl) (by kernel_rfl) rfl
/-- (*loop.example/g01054/spec.l1Cur).of -/
@[reducible] noncomputable def c_spec_l1Cur_of : Cx := { K := [.box 3 2 true, .dat 2, .no, .no, .dat 0, .dat 2, .ref 0, .dat 2, .dat 0, .dat 0, .dat 2, .dat 0], T := [(9, ty9), (87, ty87)], S := [(102, S_spec_l1Cur_pick)], H := [], res := [.tmp 4], ios := [0], G := gl0 }
noncomputable def F_spec_l1Cur_of : List D → Option Out := denF c_spec_l1Cur_of Tryd.f104
@[reducible] noncomputable def S_spec_l1Cur_of : FS := { pm := [.box 3 2 true, .dat 2], rm := [.dat 0], f := F_spec_l1Cur_of }
theorem M_spec_l1Cur_of : Meets gl0 Tryd.prog 104 S_spec_l1Cur_of := meets_of (P := Tryd.prog) (c := c_spec_l1Cur_of) (fn := Tryd.f104) (pm := S_spec_l1Cur_of.pm) (rm := S_spec_l1Cur_of.rm) (by kernel_rfl) (lookCons M_spec_l1Cur_pick lookNil) follows_mixed Tryd.func104 (by kernel_rfl) (by kernel_rfl) rfl
/-- loop.example/g01054/spec.DrawParseMargins -/
@[reducible] noncomputable def c_spec_DrawParseMargins : Cx := { K := [.dat 2, .no, .dat 0, .ref 8, .dat 0, .box 4 0 false, .dat 2, .dat 2, .box 3 2 false, .ref 8, .dat 0, .dat 0, .dat 0, .dat 0, .dat 0, .ref 8, .dat 0, .dat 0, .dat 0, .ref 8, .dat 0, .dat 0, .dat 0, .dat 0, .ref 8, .dat 1, .dat 0, .dat 0], T := [(3, ty3), (9, ty9), (22, ty22), (25, ty25), (87, ty87), (107, ty107), (109, ty109)], S := [(99, S_spec_mgGood), (100, S_spec_mgText), (101, S_spec_l1Cur_margins), (102, S_spec_l1Cur_pick), (103, S_spec_l1Cur_spoilt), (104, S_spec_l1Cur_of)], H := [], res := [.tmp 2], ios := [], G := gl0 }
noncomputable def F_spec_DrawParseMargins : List D → Option Out := denF c_spec_DrawParseMargins Tryd.f22
@[reducible] noncomputable def S_spec_DrawParseMargins : FS := { pm := [.dat 2], rm := [.dat 0], f := F_spec_DrawParseMargins }
theorem M_spec_DrawParseMargins : Meets gl0 Tryd.prog 22 S_spec_DrawParseMargins := meets_of (P := Tryd.prog) (c := c_spec_DrawParseMargins) (fn := Tryd.f22) (pm := S_spec_DrawParseMargins.pm) (rm := S_spec_DrawParseMargins.rm) (by kernel_rfl) (lookCons M_spec_mgGood (lookCons M_spec_mgText (lookCons M_spec_l1Cur_margins (lookCons M_spec_l1Cur_pick (lookCons M_spec_l1Cur_spoilt (lookCons M_spec_l1Cur_of lookNil)))))) follows_mixed Tryd.func22 (by kernel_rfl) (by kernel_rfl) rfl
/-- loop.example/g01054/impl.numbersIn -/
@[reducible] noncomputable def c_impl_numbersIn : Cx := { K := [.dat 0, .no, .own 1 0 false, .own 1 0 false, .no, .dat 0, .dat 0, .dat 0, .own 1 0 false, .dat 0, .dat 1, .dat 0, .dat 0, .dat 0, .dat 1, .dat 0, .tup [.dat 0, .dat 0], .dat 0, .tup [.dat 0, .dat 0], .dat 0, .dat 0, .dat 0, .dat 0, .own 1 0 false, .own 1 0 false, .dat 0, .dat 1, .own 1 0 false, .dat 0, .own 1 0 false], T := [(3, ty3), (9, ty9), (47, ty47), (87, ty87), (160, ty160)], S := [(163, S_strings_FieldsFunc), (165, S_strconv_Atoi)], H := [(0, ([3, 10, 11, 12], [3]))], res := [.tmp 2], ios := [], G := gl2 }
noncomputable def F_impl_numbersIn : List D → Option Out := denF c_impl_numbersIn Tryd.f105
@[reducible] noncomputable def S_impl_numbersIn : FS := { pm := [.dat 0], rm := [.own 1 0 false], f := F_impl_numbersIn }
theorem M_impl_numbersIn : Meets gl2 Tryd.prog 105 S_impl_numbersIn := meets_of (P := Tryd.prog) (c := c_impl_numbersIn) (fn := Tryd.f105) (pm := S_impl_numbersIn.pm) (rm := S_impl_numbersIn.rm) (by kernel_rfl) (lookCons (meets_mono gl02 M_strings_FieldsFunc) (lookCons M_strconv_Atoi lookNil)) follows_mixed Tryd.func105 (by kernel_rfl) (by kernel_rfl) rfl
/-- loop.example/g01054/impl.ParseMargins -/
@[reducible] noncomputable def c_impl_ParseMargins : Cx := { K := [.dat 0, .no, .box 4 0 false, .dat 0, .dat 1, .box 4 0 false, .dat 0, .dat 1, .dat 1, .dat 0, .dat 0, .dat 0, .dat 1, .dat 1, .dat 0, .dat 1, .dat 1, .dat 0, .dat 1, .dat 1, .dat 0, .dat 1, .dat 1, .dat 0, .dat 0, .dat 0, .dat 0, .dat 0, .dat 0, .dat 0, .dat 0, .dat 0, .dat 0, .dat 0, .dat 0, .dat 0], T := [(3, ty3), (9, ty9), (25, ty25), (47, ty47)], S := [(95, S_impl_areMargins), (98, S_impl_marginsText), (105, S_impl_numbersIn)], H := [], res := [.cell 2 25, .tmp 3], ios := [], G := gl2 }
noncomputable def F_impl_ParseMargins : List D → Option Out := denF c_impl_ParseMargins Tryd.f23
@[reducible] noncomputable def S_impl_ParseMargins : FS := { pm := [.dat 0], rm := [.dat 0, .dat 0], f := F_impl_ParseMargins }
theorem M_impl_ParseMargins : Meets gl2 Tryd.prog 23 S_impl_ParseMargins := meets_of (P := Tryd.prog) (c := c_impl_ParseMargins) (fn := Tryd.f23) (pm := S_impl_ParseMargins.pm) (rm := S_impl_ParseMargins.rm) (by kernel_rfl) (lookCons (meets_mono gl02 M_impl_areMargins) (lookCons (meets_mono gl12 M_impl_marginsText) (lookCons M_impl_numbersIn lookNil))) follows_mixed Tryd.func23 (by kernel_rfl) (by kernel_rfl) rfl
/-- loop.example/g01054/spec.l1Split -/
@[reducible] noncomputable def c_spec_l1Split : Cx := { K := [.dat 0, .dat 0, .no, .no, .own 1 0 false, .own 1 0 false, .dat 0, .dat 0, .dat 0, .dat 0, .dat 0, .dat 0, .dat 0, .dat 0, .dat 0, .dat 0, .dat 0, .dat 0, .dat 0, .own 1 0 false, .dat 0, .dat 0, .dat 0, .dat 0, .dat 1, .own 1 0 false, .dat 0, .dat 0, .own 1 0 false, .dat 0, .dat 0, .dat 0, .dat 1, .own 1 0 false], T := [(3, ty3), (5, ty5), (9, ty9), (87, ty87)], S := [], H := [(0, ([0, 1, 5, 6, 7], [0, 5, 6]))], res := [.tmp 4], ios := [], G := gl0 }
noncomputable def F_spec_l1Split : List D → Option Out := denF c_spec_l1Split Tryd.f106
@[reducible] noncomputable def S_spec_l1Split : FS := { pm := [.dat 0, .dat 0], rm := [.own 1 0 false], f := F_spec_l1Split }
theorem M_spec_l1Split : Meets gl0 Tryd.prog 106 S_spec_l1Split := meets_of (P := Tryd.prog) (c := c_spec_l1Split) (fn := Tryd.f106) (pm := S_spec_l1Split.pm) (rm := S_spec_l1Split.rm) (by kernel_rfl) lookNil follows_mixed Tryd.func106 (by kernel_rfl) (by kernel_rfl) rfl
/-- loop.example/g01054/spec.l1Read -/
@[reducible] noncomputable def c_spec_l1Read : Cx := { K := [.dat 0, .no, .dat 0, .dat 0, .dat 0, .dat 0, .dat 0, .dat 0, .dat 0, .dat 0, .dat 0, .dat 0, .dat 0, .dat 0, .dat 0, .dat 0, .dat 0, .dat 0, .dat 0, .dat 0, .dat 0, .dat 0, .dat 0, .dat 0, .dat 0, .dat 0, .dat 0, .dat 0, .dat 0, .dat 0, .dat 0, .dat 0, .dat 0, .dat 0, .dat 0, .dat 0, .dat 0, .dat 0, .dat 0, .dat 0, .dat 0, .dat 0, .dat 0, .dat 0], T := [(3, ty3), (5, ty5), (9, ty9)], S := [(93, S_spec_l1In)], H := [(0, ([0, 3, 4], [3]))], res := [.tmp 2], ios := [], G := gl0 }
noncomputable def F_spec_l1Read : List D → Option Out := denF c_spec_l1Read Tryd.f107
@[reducible] noncomputable def S_spec_l1Read : FS := { pm := [.dat 0], rm := [.dat 0], f := F_spec_l1Read }
theorem M_spec_l1Read : Meets gl0 Tryd.prog 107 S_spec_l1Read := meets_of (P := Tryd.prog) (c := c_spec_l1Read) (fn := Tryd.f107) (pm := S_spec_l1Read.pm) (rm := S_spec_l1Read.rm) (by kernel_rfl) (lookCons M_spec_l1In lookNil) follows_mixed Tryd.func107 (by kernel_rfl) (by kernel_rfl) rfl
/-- loop.example/g01054/spec.ParseMargins -/
@[reducible] noncomputable def c_spec_ParseMargins : Cx := { K := [.dat 0, .no, .box 4 0 false, .dat 0, .dat 1, .box 4 0 false, .dat 0, .dat 1, .dat 1, .dat 0, .dat 0, .dat 0, .dat 1, .dat 1, .dat 0, .dat 0, .dat 1, .dat 1, .dat 0, .dat 0, .dat 1, .dat 1, .dat 0, .dat 0, .dat 1, .dat 1, .dat 0, .dat 0, .dat 0, .dat 0, .dat 0, .dat 0, .dat 0, .dat 0], T := [(3, ty3), (9, ty9), (25, ty25), (87, ty87)], S := [(99, S_spec_mgGood), (106, S_spec_l1Split), (107, S_spec_l1Read)], H := [], res := [.cell 2 25, .tmp 3], ios := [], G := gl0 }
noncomputable def F_spec_ParseMargins : List D → Option Out := denF c_spec_ParseMargins Tryd.f24
@[reducible] noncomputable def S_spec_ParseMargins : FS := { pm := [.dat 0], rm := [.dat 0, .dat 0], f := F_spec_ParseMargins }
theorem M_spec_ParseMargins : Meets gl0 Tryd.prog 24 S_spec_ParseMargins := meets_of (P := Tryd.prog) (c := c_spec_ParseMargins) (fn := Tryd.f24) (pm := S_spec_ParseMargins.pm) (rm := S_spec_ParseMargins.rm) (by kernel_rfl) (lookCons M_spec_mgGood (lookCons M_spec_l1Split (lookCons M_spec_l1Read lookNil))) follows_mixed Tryd.func24 (by kernel_rfl) (by kernel_rfl) rfl
/-- loop.example/g01054/laws.FnLayouts -/
@[reducible] noncomputable def c_laws_FnLayouts : Cx := { K := [.dat 2, .dat 2, .no, .no, .dat 0, .dat 0, .dat 0, .box 4 0 false, .dat 0, .dat 0, .box 4 0 false, .dat 0, .box 4 0 false, .dat 0, .dat 0, .dat 0, .dat 0, .dat 0, .dat 0, .dat 0, .box 4 0 false, .dat 0, .dat 0, .dat 0, .dat 0, .dat 0, .dat 0, .dat 0, .box 4 0 false, .dat 0, .box 4 0 false, .dat 0, .dat 0, .dat 0, .dat 0, .dat 0, .dat 0, .box 4 0 false, .dat 0, .dat 0, .dat 0, .dat 0, .dat 0, .dat 0, .dat 0, .dat 0, .dat 0, .dat 0, .dat 0, .dat 0, .box 4 0 false, .dat 0, .box 4 0 false, .dat 0, .box 4 0 false, .dat 0, .dat 2, .dat 2, .dat 0, .tup [.dat 0, .dat 0, .dat 0, .dat 0, .dat 0], .dat 2, .tup [.dat 0, .dat 0, .dat 0, .dat 0, .dat 0], .dat 0, .dat 0, .dat 0, .dat 0, .dat 0, .tup [.dat 0, .dat 0], .dat 0, .dat 0, .dat 0, .dat 0, .dat 0, .tup [.dat 0, .dat 0], .dat 0, .dat 0, .tup [.dat 0, .dat 0], .dat 0, .dat 0, .dat 0, .dat 0, .dat 0, .tup [.dat 0, .dat 0], .dat 0, .dat 0, .tup [.dat 0, .dat 0, .dat 0], .dat 0, .dat 0, .dat 0, .tup [.dat 0, .dat 0, .dat 0], .dat 0, .dat 0, .dat 0, .tup [.dat 0, .dat 0, .dat 0], .dat 0, .dat 0, .dat 0, .tup [.dat 0, .dat 0, .dat 0], .dat 0, .dat 0, .dat 0, .dat 0, .dat 0, .dat 0, .dat 0, .dat 0, .dat 0, .dat 0, .dat 0, .dat 0, .dat 0, .dat 0, .dat 0, .dat 0, .dat 0, .dat 0, .dat 0, .dat 0, .dat 0, .dat 0, .dat 0, .dat 0, .dat 0, .dat 0, .dat 0, .dat 0, .dat 0, .dat 0, .dat 0, .dat 0, .dat 0, .dat 0, .dat 0, .dat 0, .dat 0, .dat 0, .dat 0, .dat 0, .dat 0, .dat 0, .dat 0, .dat 0, .ref 7, .dat 0, .dat 0, .ref 7, .dat 0, .dat 0, .dat 0, .dat 0, .dat 0, .dat 0, .ref 7, .dat 0, .dat 0, .ref 7, .dat 0, .dat 0, .dat 0, .dat 0, .dat 0, .dat 0, .dat 0, .dat 0, .dat 0, .dat 0, .dat 0, .dat 0, .dat 0, .dat 0, .dat 0, .tup [.dat 0, .dat 0], .dat 0, .dat 0, .dat 0, .dat 0, .dat 0, .dat 0, .dat 0, .tup [.dat 0, .dat 0], .dat 0, .dat 0, .tup [.dat 0, .dat 0, .dat 0], .dat 0, .dat 0, .dat 0, .tup [.dat 0, .dat 0, .dat 0], .dat 0, .dat 0, .dat 0, .dat 0, .dat 0, .dat 0, .dat 0, .dat 0, .dat 0, .dat 0, .dat 0, .dat 0, .dat 0, .dat 0, .dat 0, .dat 0, .dat 0, .dat 0, .dat 0, .dat 0, .dat 0, .dat 0, .dat 0, .dat 0, .tup [.dat 0, .dat 0, .dat 0], .dat 2, .tup [.dat 0, .dat 0, .dat 0], .dat 0, .dat 0, .dat 0, .tup [.dat 0, .dat 0], .dat 0, .dat 0, .dat 0, .tup [.dat 0, .dat 0], .dat 0, .dat 0, .tup [.dat 0, .dat 0], .dat 0, .dat 0, .dat 0, .tup [.dat 0, .dat 0], .dat 0, .dat 0, .dat 0, .dat 0, .dat 0, .dat 0, .dat 0, .dat 0, .dat 0, .dat 0, .dat 0, .tup [.dat 0, .dat 0, .dat 0], .dat 0, .dat 0, .dat 0, .tup [.dat 0, .dat 0, .dat 0], .dat 0, .dat 0, .dat 0, .dat 0, .dat 0, .dat 0, .dat 0, .dat 0, .dat 0, .dat 0, .dat 0, .ref 30, .dat 0, .ref 30, .dat 0, .dat 0, .dat 0, .dat 0, .dat 0, .ref 30, .dat 0, .ref 30, .dat 0, .dat 0, .dat 0, .dat 0, .tup [.dat 0, .dat 0, .dat 0, .dat 0], .dat 2, .tup [.dat 0, .dat 0, .dat 0, .dat 0], .dat 0, .dat 0, .dat 0, .dat 0, .tup [.dat 0, .dat 0, .dat 0], .dat 0, .dat 0, .dat 0, .dat 0, .tup [.dat 0, .dat 0, .dat 0], .dat 0, .dat 0, .dat 0, .tup [.dat 0, .dat 0, .dat 0], .dat 0, .dat 0, .dat 0, .dat 0, .tup [.dat 0, .dat 0, .dat 0], .dat 0, .dat 0, .dat 0, .dat 0, .dat 0, .dat 0, .dat 0, .dat 0, .dat 0, .dat 0, .dat 0, .dat 0, .dat 0, .dat 0, .dat 0, .dat 0, .dat 0, .dat 0, .dat 0, .dat 0, .ref 37, .dat 0, .dat 0, .dat 0, .dat 0, .ref 37, .dat 0, .dat 0, .dat 0, .dat 0, .ref 37, .dat 0, .dat 0, .dat 0, .dat 0, .dat 0, .dat 0, .tup [.dat 0, .dat 0], .dat 0, .tup [.dat 0, .dat 0], .dat 0, .dat 0, .tup [.dat 0, .dat 0], .dat 0, .tup [.dat 0, .dat 0], .dat 0, .dat 0, .dat 2, .dat 0, .tup [.dat 0, .dat 0], .dat 0, .tup [.dat 0, .dat 0], .dat 0, .dat 0, .tup [.dat 0, .dat 0], .dat 0, .tup [.dat 0, .dat 0], .dat 0, .dat 0, .dat 0, .dat 0, .dat 0, .dat 0, .dat 0, .dat 0, .dat 0, .dat 0, .dat 0, .dat 0, .dat 0, .dat 0, .dat 0, .dat 0, .dat 0, .dat 0, .dat 0, .dat 0, .dat 0, .tup [.dat 0, .dat 0], .dat 0, .tup [.dat 0, .dat 0], .dat 0, .dat 0, .dat 0, .dat 0, .dat 0, .dat 0, .dat 0, .dat 0], T := [(3, ty3), (4, ty4), (9, ty9), (25, ty25)], S := [(7, S_laws_big), (8, S_spec_DrawShiftMargins), (9, S_impl_ShiftMargins), (10, S_spec_ShiftMargins), (11, S_impl_TypeArea), (12, S_spec_TypeArea), (13, S_impl_IsLayout), (14, S_spec_DrawMarginsByRule), (15, S_impl_MarginsByRule), (16, S_spec_MarginsByRule), (17, S_spec_DrawPlaceOfType), (18, S_impl_PlaceOfType), (19, S_spec_PlaceOfType), (20, S_impl_MarginsText), (21, S_spec_MarginsText), (22, S_spec_DrawParseMargins), (23, S_impl_ParseMargins), (24, S_spec_ParseMargins)], H := [], res := [.tmp 4], ios := [], G := gl2 }
@[reducible] def J_laws_FnLayouts : List (Nat × List Nat) := [(1023, [1, 7]), (32767, [1, 7])]
noncomputable def F_laws_FnLayouts : List D → Option Out := denFJ c_laws_FnLayouts J_laws_FnLayouts Tryd.f3
@[reducible] noncomputable def S_laws_FnLayouts : FS := { pm := [.dat 2, .dat 2], rm := [.dat 0], f := F_laws_FnLayouts }
theorem M_laws_FnLayouts : Meets gl2 Tryd.prog 3 S_laws_FnLayouts := meets_ofJ (J := J_laws_FnLayouts) (P := Tryd.prog) (c := c_laws_FnLayouts) (fn := Tryd.f3) (pm := S_laws_FnLayouts.pm) (rm := S_laws_FnLayouts.rm) (by kernel_rfl) (lookCons (meets_mono gl02 M_laws_big) (lookCons (meets_mono gl02 M_spec_DrawShiftMargins) (lookCons (meets_mono gl02 M_impl_ShiftMargins) (lookCons (meets_mono gl02 M_spec_ShiftMargins) (lookCons (meets_mono gl02 M_impl_TypeArea) (lookCons (meets_mono gl02 M_spec_TypeArea) (lookCons (meets_mono gl02 M_impl_IsLayout) (lookCons (meets_mono gl02 M_spec_DrawMarginsByRule) (lookCons (meets_mono gl02 M_impl_MarginsByRule) (lookCons (meets_mono gl02 M_spec_MarginsByRule) (lookCons (meets_mono gl02 M_spec_DrawPlaceOfType) (lookCons (meets_mono gl02 M_impl_PlaceOfType) (lookCons (meets_mono gl02 M_spec_PlaceOfType) (lookCons (meets_mono gl12 M_impl_MarginsText) (lookCons (meets_mono gl02 M_spec_MarginsText) (lookCons (meets_mono gl02 M_spec_DrawParseMargins) (lookCons M_impl_ParseMargins (lookCons (meets_mono gl02 M_spec_ParseMargins) lookNil)))))))))))))))))) follows_mixed (by kernel_rfl) Tryd.func3 (by kernel_rfl) (by kernel_rfl) rfl
end Go.Proofs.YtdgenchlghojlaaDoor
/-
  What the functions compute: their evaluated texts, printed.
-/
namespace Go.Proofs.YtdgenchlghojlaaDoor
open Go Go.V
theorem t_laws_big (x0 x1 : D) : F_laws_big [x0, x1] =
  ((lenD false x0).bind fun z => (bin BinOp.gtr false [] z (D.v (Value.int IntKind.i64 1048576))).bind fun z => (gate (D.tup []) z false (some x1)).bind fun z_1 => (gate (D.tup []) z false (lenD false z_1)).bind fun z_2 =>
 (gate (D.tup []) z false (some x0)).bind fun z_3 => (gate (D.tup []) z false (lenD false z_3)).bind fun z_4 => (gate (D.tup []) z false (bin BinOp.sub false [] (D.v (Value.int IntKind.i64 1048576)) z_4)).bind fun z_5 =>
 (gate (D.tup []) z false (bin BinOp.gtr false [] z_2 z_5)).bind fun z_6 => (pickD z (D.v (Value.bool true)) z_6).bind fun z => some (Out.ret [z] [])) := by kernel_rfl
theorem t_spec_l1Cur_next (x0 : D) : F_spec_l1Cur_next [x0] =
  ((liveD x0 (D.ref 0 0)).bind fun z => (liveD z z).bind fun z => (refAdd 1 z).bind fun z => (((atD x0 z).bind (takeD false 1)).bind chkV).bind fun z => (liveD x0 (D.ref 0 0)).bind fun z_1 => (liveD z_1 z_1).bind fun z_2 =>
 (refAdd 0 z_2).bind fun z_3 => ((atD x0 z_3).bind (takeD false 1)).bind fun z_4 => (lenD false z_4).bind fun z_5 => (bin BinOp.lss false [] z z_5).bind fun z => ifD z ((liveD x0 (D.ref 0 0)).bind fun z =>
 (liveD z z).bind fun z => (refAdd 0 z).bind fun z => ((atD x0 z).bind (takeD false 1)).bind fun z => (liveD x0 (D.ref 0 0)).bind fun z_6 => (liveD z_6 z_6).bind fun z_7 => (refAdd 1 z_7).bind fun z_8 =>
 (((atD x0 z_8).bind (takeD false 1)).bind chkV).bind fun z_9 => (Option.map D.ptr (elemD 1 z z_9)).bind fun z => ((ldD false 1 z).bind chkV).bind fun z => (convD (some IntKind.i64) false z).bind fun z =>
 (liveD x0 (D.ref 0 0)).bind fun z_10 => (liveD z_10 z_10).bind fun z_11 => (refAdd 1 z_11).bind fun z_12 => (((atD x0 z_12).bind (takeD false 1)).bind chkV).bind fun z_13 =>
 (bin BinOp.add false [] z_13 (D.v (Value.int IntKind.i64 1))).bind fun z_14 => (liveD z_10 z_10).bind fun z_15 => (refAdd 1 z_15).bind fun z_16 => (stD 1 x0 z_16 z_14).bind fun b => (liveD b (D.ref 0 0)).bind fun z_17 =>
 (liveD b (D.ref 0 0)).bind fun z_18 => (liveD z_18 z_18).bind fun z_19 => (refAdd 2 z_19).bind fun z_20 => (((atD b z_20).bind (takeD false 1)).bind chkV).bind fun z_21 => (bin BinOp.mul false [] z_21 (D.v
 (Value.int IntKind.u64 6364136223846793005))).bind fun z_22 => (convD (some IntKind.u64) false z).bind fun z_23 => (bin BinOp.add false [] z_22 z_23).bind fun z_24 => (bin BinOp.add false [] z_24 (D.v
 (Value.int IntKind.u64 1442695040888963407))).bind fun z_25 => (liveD z_17 z_17).bind fun z_26 => (refAdd 2 z_26).bind fun z_27 => (stD 1 b z_27 z_25).bind fun b => (liveD b (D.ref 0 0)).bind fun z_28 =>
 (liveD z_28 z_28).bind fun z_29 => (refAdd 1 z_29).bind fun z_30 => (((atD b z_30).bind (takeD false 1)).bind chkV).bind fun z_31 => (liveD b (D.ref 0 0)).bind fun z_32 => (liveD z_32 z_32).bind fun z_33 =>
 (refAdd 0 z_33).bind fun z_34 => ((atD b z_34).bind (takeD false 1)).bind fun z_35 => (lenD false z_35).bind fun z_36 => (bin BinOp.leq false [] z_31 z_36).bind fun z_37 => ifD z_37 ((liveD b b).bind fun _u => some
 (Out.ret [z] [b])) ((liveD b (D.ref 0 0)).bind fun z => (liveD z z).bind fun z => (refAdd 2 z).bind fun z => (((atD b z).bind (takeD false 1)).bind chkV).bind fun z => (bin BinOp.shr false [] z (D.v (Value.int IntKind.u64
 40))).bind fun z => (bin BinOp.and false [] z (D.v (Value.int IntKind.u64 255))).bind fun z => (convD (some IntKind.i64) false z).bind fun z => (liveD b b).bind fun _u => some (Out.ret [z] [b])))
 ((liveD x0 (D.ref 0 0)).bind fun z => (liveD z z).bind fun z_6 => (refAdd 1 z_6).bind fun z_7 => (((atD x0 z_7).bind (takeD false 1)).bind chkV).bind fun z_8 =>
 (bin BinOp.add false [] z_8 (D.v (Value.int IntKind.i64 1))).bind fun z_9 => (liveD z z).bind fun z => (refAdd 1 z).bind fun z => (stD 1 x0 z z_9).bind fun b => (liveD b (D.ref 0 0)).bind fun z =>
 (liveD b (D.ref 0 0)).bind fun z_10 => (liveD z_10 z_10).bind fun z_11 => (refAdd 2 z_11).bind fun z_12 => (((atD b z_12).bind (takeD false 1)).bind chkV).bind fun z_13 => (bin BinOp.mul false [] z_13
 (D.v (Value.int IntKind.u64 6364136223846793005))).bind fun z_14 => (convD (some IntKind.u64) false (D.v (Value.int IntKind.i64 0))).bind fun z_15 => (bin BinOp.add false [] z_14 z_15).bind fun z_16 =>
 (bin BinOp.add false [] z_16 (D.v (Value.int IntKind.u64 1442695040888963407))).bind fun z_17 => (liveD z z).bind fun z => (refAdd 2 z).bind fun z => (stD 1 b z z_17).bind fun b => (liveD b (D.ref 0 0)).bind fun z =>
 (liveD z z).bind fun z => (refAdd 1 z).bind fun z => (((atD b z).bind (takeD false 1)).bind chkV).bind fun z => (liveD b (D.ref 0 0)).bind fun z_18 => (liveD z_18 z_18).bind fun z_19 => (refAdd 0 z_19).bind fun z_20 =>
 ((atD b z_20).bind (takeD false 1)).bind fun z_21 => (lenD false z_21).bind fun z_22 => (bin BinOp.leq false [] z z_22).bind fun z => ifD z ((liveD b b).bind fun _u => some (Out.ret [D.v (Value.int IntKind.i64 0)] [b]))
 ((liveD b (D.ref 0 0)).bind fun z => (liveD z z).bind fun z => (refAdd 2 z).bind fun z => (((atD b z).bind (takeD false 1)).bind chkV).bind fun z => (bin BinOp.shr false [] z (D.v (Value.int IntKind.u64 40))).bind
 fun z => (bin BinOp.and false [] z (D.v (Value.int IntKind.u64 255))).bind fun z => (convD (some IntKind.i64) false z).bind fun z => (liveD b b).bind fun _u => some (Out.ret [z] [b])))) := by kernel_rfl
theorem t_spec_l1Cur_pick (x0 x1 : D) : F_spec_l1Cur_pick [x0, x1] =
  ((bin BinOp.leq false [] x1 (D.v (Value.int IntKind.i64 1))).bind fun z => ifD z ((liveD x0 x0).bind fun _u => some (Out.ret [D.v (Value.int IntKind.i64 0)] [x0])) ((liveD x0 (D.ref 0 0)).bind fun z =>
 (ref0 z x0).bind fun i => (liveD i i).bind fun i => callK (F_spec_l1Cur_next [i]) fun rs us => (bin BinOp.gtr false [] x1 (D.v (Value.int IntKind.i64 200))).bind fun z => ifD z
 ((bin BinOp.mul false [] (sl rs 0) (D.v (Value.int IntKind.i64 256))).bind fun z => (liveD (sl us 0) (D.ref 0 0)).bind fun z_1 => (ref0 z_1 (sl us 0)).bind fun i => (liveD i i).bind fun i =>
 callK (F_spec_l1Cur_next [i]) fun rs us => (bin BinOp.add false [] z (sl rs 0)).bind fun z => (bin BinOp.rem false [] z x1).bind fun z => (liveD (sl us 0) (sl us 0)).bind fun _u => some (Out.ret [z] [sl us 0]))
 ((bin BinOp.rem false [] (sl rs 0) x1).bind fun z => (liveD (sl us 0) (sl us 0)).bind fun _u => some (Out.ret [z] [sl us 0])))) := by kernel_rfl
theorem t_spec_l1Cur_one (x0 x1 : D) : F_spec_l1Cur_one [x0, x1] =
  ((liveD x0 (D.ref 0 0)).bind fun z => (ref0 z x0).bind fun i => (liveD i i).bind fun i => callK (F_spec_l1Cur_pick [i, x1]) fun rs us => (bin BinOp.eql false [] (sl rs 0) (D.v (Value.int IntKind.i64 0))).bind fun z =>
 (liveD (sl us 0) (sl us 0)).bind fun _u => some (Out.ret [z] [sl us 0])) := by kernel_rfl
theorem t_spec_l1Cur_among (x0 x1 : D) : F_spec_l1Cur_among [x0, x1] =
  ((liveD x0 (D.ref 0 0)).bind fun z => (lenD false x1).bind fun z_1 => (ref0 z x0).bind fun i => (liveD i i).bind fun i => callK (F_spec_l1Cur_pick [i, z_1]) fun rs us =>
 (Option.map D.ptr (elemD 1 x1 (sl rs 0))).bind fun z => ((ldD false 1 z).bind chkV).bind fun z => (liveD (sl us 0) (sl us 0)).bind fun _u => some (Out.ret [z] [sl us 0])) := by kernel_rfl
theorem t_spec_l1Cur_pageSide (x0 : D) : F_spec_l1Cur_pageSide [x0] =
  ((liveD x0 (D.ref 0 0)).bind fun z => (liveD x0 (D.ref 0 0)).bind fun z_1 => (ref0 z_1 x0).bind fun i => (liveD i i).bind fun i => callK (F_spec_l1Cur_pick [i, D.v (Value.int IntKind.i64 300)]) fun rs us =>
 (bin BinOp.add false [] (D.v (Value.int IntKind.i64 120)) (sl rs 0)).bind fun z_2 => (liveD (sl us 0) (D.ref 0 0)).bind fun z_3 => (mkArr 1
 [D.v (Value.int IntKind.i64 60), D.v (Value.int IntKind.i64 2000), D.v (Value.int IntKind.i64 59), D.v (Value.int IntKind.i64 2001), D.v (Value.int IntKind.i64 100)]).bind fun a => (ref0 z_3 (sl us 0)).bind fun i =>
 (liveD i i).bind fun i => callK (F_spec_l1Cur_among [i, a]) fun rs us => (mkArr 1 [D.v (Value.int IntKind.i64 300), D.v (Value.int IntKind.i64 450), D.v (Value.int IntKind.i64 200), z_2, sl rs 0]).bind fun a =>
 (ref0 z (sl us 0)).bind fun i => (liveD i i).bind fun i => callK (F_spec_l1Cur_among [i, a]) fun rs us => (liveD (sl us 0) (sl us 0)).bind fun _u => some (Out.ret [sl rs 0] [sl us 0])) := by kernel_rfl
theorem t_spec_l1Cur_margins (x0 : D) : F_spec_l1Cur_margins [x0] =
  ((liveD x0 (D.ref 0 0)).bind fun z => (ref0 z x0).bind fun i => (liveD i i).bind fun i => callK (F_spec_l1Cur_pick [i, D.v (Value.int IntKind.i64 40)]) fun rs us =>
 (bin BinOp.add false [] (D.v (Value.int IntKind.i64 10)) (sl rs 0)).bind fun z => (liveD (sl us 0) (D.ref 0 0)).bind fun z_1 => (ref0 z_1 (sl us 0)).bind fun i => (liveD i i).bind fun i =>
 callK (F_spec_l1Cur_pick [i, D.v (Value.int IntKind.i64 40)]) fun rs us => (bin BinOp.add false [] (D.v (Value.int IntKind.i64 10)) (sl rs 0)).bind fun z_2 => (liveD (sl us 0) (D.ref 0 0)).bind fun z_3 =>
 (ref0 z_3 (sl us 0)).bind fun i => (liveD i i).bind fun i => callK (F_spec_l1Cur_pick [i, D.v (Value.int IntKind.i64 50)]) fun rs us => (bin BinOp.add false [] (D.v (Value.int IntKind.i64 20)) (sl rs 0)).bind fun z_4 =>
 (liveD (sl us 0) (D.ref 0 0)).bind fun z_5 => (ref0 z_5 (sl us 0)).bind fun i => (liveD i i).bind fun i => callK (F_spec_l1Cur_pick [i, D.v (Value.int IntKind.i64 60)]) fun rs us =>
 (bin BinOp.add false [] (D.v (Value.int IntKind.i64 20)) (sl rs 0)).bind fun z_6 => (bldD [(0, 1), (1, 1), (2, 1), (3, 1)] [D.v (Value.int IntKind.i64 0), D.v (Value.int IntKind.i64 0),
 D.v (Value.int IntKind.i64 0), D.v (Value.int IntKind.i64 0)] [z, z_2, z_4, z_6]).bind fun z => (stD 4 (D.agg [D.v (Value.int IntKind.i64 0), D.v (Value.int IntKind.i64 0),
 D.v (Value.int IntKind.i64 0), D.v (Value.int IntKind.i64 0)]) (D.ref 0 0) z).bind fun b => (liveD (sl us 0) (D.ref 0 0)).bind fun z => (ref0 z (sl us 0)).bind fun i => (liveD i i).bind fun i =>
 callK (F_spec_l1Cur_pick [i, D.v (Value.int IntKind.i64 24)]) fun rs us => (bin BinOp.eql false [] (sl rs 0) (D.v (Value.int IntKind.i64 0))).bind fun z => ifD z ((liveD (sl us 0) (D.ref 0 0)).bind fun z => (mkArr 1
 [D.v (Value.int IntKind.i64 0), D.v (Value.int IntKind.i64 1), D.v (Value.int IntKind.i64 2), D.v (Value.int IntKind.i64 300), D.v (Value.int IntKind.i64 301), D.v (Value.int IntKind.i64 (-1))]).bind fun a =>
 (ref0 z (sl us 0)).bind fun i => (liveD i i).bind fun i => callK (F_spec_l1Cur_among [i, a]) fun rs us => (liveD b (D.ref 0 1)).bind fun z => (stD 1 b z (sl rs 0)).bind fun b => (fldD true 4 0 b).bind fun z => (stD 4
 (D.agg [D.v (Value.int IntKind.i64 0), D.v (Value.int IntKind.i64 0), D.v (Value.int IntKind.i64 0), D.v (Value.int IntKind.i64 0)]) (D.ref 0 0) z).bind fun b => (fldD true 4 0 b).bind fun y =>
 (liveD (sl us 0) (sl us 0)).bind fun _u => some (Out.ret [y] [sl us 0])) ((bin BinOp.eql false [] (sl rs 0) (D.v (Value.int IntKind.i64 1))).bind fun z => ifD z ((liveD (sl us 0) (D.ref 0 0)).bind fun z => (mkArr 1
 [D.v (Value.int IntKind.i64 0), D.v (Value.int IntKind.i64 3), D.v (Value.int IntKind.i64 300), D.v (Value.int IntKind.i64 301), D.v (Value.int IntKind.i64 (-1))]).bind fun a => (ref0 z (sl us 0)).bind fun i =>
 (liveD i i).bind fun i => callK (F_spec_l1Cur_among [i, a]) fun rs us => (liveD b (D.ref 0 2)).bind fun z => (stD 1 b z (sl rs 0)).bind fun b => (fldD true 4 0 b).bind fun z => (stD 4 (D.agg
 [D.v (Value.int IntKind.i64 0), D.v (Value.int IntKind.i64 0), D.v (Value.int IntKind.i64 0), D.v (Value.int IntKind.i64 0)]) (D.ref 0 0) z).bind fun b => (fldD true 4 0 b).bind fun y => (liveD (sl us 0) (sl us 0)).bind
 fun _u => some (Out.ret [y] [sl us 0])) ((bin BinOp.eql false [] (sl rs 0) (D.v (Value.int IntKind.i64 2))).bind fun z => ifD z ((liveD (sl us 0) (D.ref 0 0)).bind fun z => (mkArr 1 [D.v (Value.int IntKind.i64 0),
 D.v (Value.int IntKind.i64 300), D.v (Value.int IntKind.i64 (-1)), D.v (Value.int IntKind.i64 (-9223372036854775808))]).bind fun a => (ref0 z (sl us 0)).bind fun i => (liveD i i).bind fun i =>
 callK (F_spec_l1Cur_among [i, a]) fun rs us => (liveD b (D.ref 0 0)).bind fun z => (stD 1 b z (sl rs 0)).bind fun b => (fldD true 4 0 b).bind fun z => (stD 4 (D.agg [D.v (Value.int IntKind.i64 0), D.v
 (Value.int IntKind.i64 0), D.v (Value.int IntKind.i64 0), D.v (Value.int IntKind.i64 0)]) (D.ref 0 0) z).bind fun b => (fldD true 4 0 b).bind fun y => (liveD (sl us 0) (sl us 0)).bind fun _u =>
 some (Out.ret [y] [sl us 0])) ((fldD true 4 0 b).bind fun z => (stD 4 (D.agg [D.v (Value.int IntKind.i64 0), D.v (Value.int IntKind.i64 0), D.v (Value.int IntKind.i64 0), D.v (Value.int IntKind.i64 0)])
 (D.ref 0 0) z).bind fun b => (fldD true 4 0 b).bind fun y => (liveD (sl us 0) (sl us 0)).bind fun _u => some (Out.ret [y] [sl us 0]))))) := by kernel_rfl
theorem t_spec_DrawIsLayout (x0 : D) : F_spec_DrawIsLayout [x0] =
  ((bldD [(0, 1)] [D.arr 1 [], D.v (Value.int IntKind.i64 0), D.v (Value.int IntKind.u64 0)] [x0]).bind fun z => (boxD 3 z).bind fun y => (liveD y (D.ref 0 0)).bind fun z => (liveD z z).bind fun z_1 =>
 (ref0 z_1 y).bind fun i => (liveD i i).bind fun i => callK (F_spec_l1Cur_one [i, D.v (Value.int IntKind.i64 8)]) fun rs us => ifD (sl rs 0) ((liveD z z).bind fun z => (ref0 z (sl us 0)).bind fun i =>
 (liveD i i).bind fun i => callK (F_spec_l1Cur_pick [i, D.v (Value.int IntKind.i64 2)]) fun rs _u => (bin BinOp.add false [] (D.v (Value.int IntKind.i64 30)) (sl rs 0)).bind fun z => (bldD [(0, 1), (1, 1), (2, 1), (3, 1)]
 [D.v (Value.int IntKind.i64 0), D.v (Value.int IntKind.i64 0), D.v (Value.int IntKind.i64 0), D.v (Value.int IntKind.i64 0)] [D.v (Value.int IntKind.i64 35), z, D.v (Value.int IntKind.i64 40),
 D.v (Value.int IntKind.i64 35)]).bind fun z => (stD 4 (D.agg [D.v (Value.int IntKind.i64 0), D.v (Value.int IntKind.i64 0), D.v (Value.int IntKind.i64 0), D.v (Value.int IntKind.i64 0)]) (D.ref 0 0) z).bind fun b =>
 (fldD true 4 0 b).bind fun y => some (Out.ret [D.v (Value.int IntKind.i64 100), D.v (Value.int IntKind.i64 100), y] [])) ((liveD z z).bind fun z_2 => (ref0 z_2 (sl us 0)).bind fun i => (liveD i i).bind fun i =>
 callK (F_spec_l1Cur_pageSide [i]) fun rs us => (liveD z z).bind fun z_3 => (ref0 z_3 (sl us 0)).bind fun i => (liveD i i).bind fun i => callK (F_spec_l1Cur_pageSide [i]) fun rs_1 us => (liveD z z).bind fun z =>
 (ref0 z (sl us 0)).bind fun i => (liveD i i).bind fun i => callK (F_spec_l1Cur_margins [i]) fun rs_2 _u => (stD 4 (D.agg [D.v (Value.int IntKind.i64 0), D.v (Value.int IntKind.i64 0),
 D.v (Value.int IntKind.i64 0), D.v (Value.int IntKind.i64 0)]) (D.ref 0 0) (sl rs_2 0)).bind fun b => (fldD true 4 0 b).bind fun y => some (Out.ret [sl rs 0, sl rs_1 0, y] []))) := by kernel_rfl
theorem t_spec_DrawShiftMargins (x0 : D) : F_spec_DrawShiftMargins [x0] =
  ((bldD [(0, 1)] [D.arr 1 [], D.v (Value.int IntKind.i64 0), D.v (Value.int IntKind.u64 0)] [x0]).bind fun z => (boxD 3 z).bind fun y => (liveD y (D.ref 0 0)).bind fun z => callK (F_spec_DrawIsLayout [x0]) fun rs _u =>
 (tupAt (D.tup rs) 0).bind fun z_1 => (tupAt (D.tup rs) 1).bind fun z_2 => (tupAt (D.tup rs) 2).bind fun z_3 => (stD 4 (D.agg [D.v (Value.int IntKind.i64 0), D.v (Value.int IntKind.i64 0), D.v (Value.int IntKind.i64 0),
 D.v (Value.int IntKind.i64 0)]) (D.ref 0 0) z_3).bind fun b => (liveD z z).bind fun z_4 => (liveD z_4 z_4).bind fun z_5 => (refAdd 1 z_5).bind fun z_6 => (stD 1 y z_6 (D.v (Value.int IntKind.i64 8))).bind fun b_1 =>
 (liveD z z).bind fun z_7 => (mkArr 1 [D.v (Value.int IntKind.i64 300), D.v (Value.int IntKind.i64 (-300)), D.v (Value.int IntKind.i64 301), D.v (Value.int IntKind.i64 (-9223372036854775808))]).bind fun a =>
 (ref0 z_7 b_1).bind fun i => (liveD i i).bind fun i => callK (F_spec_l1Cur_among [i, a]) fun rs us => (mkArr 1 [D.v (Value.int IntKind.i64 0), D.v (Value.int IntKind.i64 5),
 D.v (Value.int IntKind.i64 (-5)), D.v (Value.int IntKind.i64 20), D.v (Value.int IntKind.i64 (-20)), sl rs 0]).bind fun a => (fldD true 4 0 b).bind fun z_8 => (liveD z z).bind fun z_9 => (ref0 z_9 (sl us 0)).bind fun i =>
 (liveD i i).bind fun i => callK (F_spec_l1Cur_among [i, a]) fun rs us => (liveD z z).bind fun z => (ref0 z (sl us 0)).bind fun i => (liveD i i).bind fun i => callK (F_spec_l1Cur_among [i, a]) fun rs_1 _u => (stD 4 (D.agg
 [D.v (Value.int IntKind.i64 0), D.v (Value.int IntKind.i64 0), D.v (Value.int IntKind.i64 0), D.v (Value.int IntKind.i64 0)]) (D.ref 0 0) z_8).bind fun b => (fldD true 4 0 b).bind fun y =>
 some (Out.ret [z_1, z_2, y, sl rs 0, sl rs_1 0] [])) := by kernel_rfl
theorem t_impl_within (x0 x1 x2 : D) : F_impl_within [x0, x1, x2] =
  ((bin BinOp.geq false [] x0 x1).bind fun z => (gate (D.tup []) z true (some x0)).bind fun z_1 => (gate (D.tup []) z true (some x2)).bind fun z_2 => (gate (D.tup []) z true (bin BinOp.leq false [] z_1 z_2)).bind fun z_3 =>
 (pickD z z_3 (D.v (Value.bool false))).bind fun z => some (Out.ret [z] [])) := by kernel_rfl
theorem t_impl_isPageSize (x0 : D) : F_impl_isPageSize [x0] =
  (callK (F_impl_within [x0, D.v (Value.int IntKind.i64 60), D.v (Value.int IntKind.i64 2000)]) fun rs _u => some (Out.ret [sl rs 0] [])) := by kernel_rfl
theorem t_impl_areMargins (x0 : D) : F_impl_areMargins [x0] =
  ((boxD 4 x0).bind fun y => (liveD y (D.ref 0 0)).bind fun z => ((atD y z).bind (takeD false 1)).bind fun z => callK (F_impl_within [z, D.v (Value.int IntKind.i64 0), D.v (Value.int IntKind.i64 300)]) fun rs _u =>
 (gate D.bad (sl rs 0) true (liveD y (D.ref 0 1))).bind fun z => (gate (D.tup []) (sl rs 0) true ((atD y z).bind (takeD false 1))).bind fun z => gateC (sl rs 0) true
 (callK (F_impl_within [z, D.v (Value.int IntKind.i64 0), D.v (Value.int IntKind.i64 300)]) fun rs _u => some (Out.nrm [sl rs 0])) [D.tup []] fun outs => (pickD (sl rs 0) (sl outs 0) (D.v (Value.bool false))).bind fun z =>
 (gate D.bad z true (liveD y (D.ref 0 2))).bind fun z_1 => (gate (D.tup []) z true ((atD y z_1).bind (takeD false 1))).bind fun z_2 => gateC z true
 (callK (F_impl_within [z_2, D.v (Value.int IntKind.i64 0), D.v (Value.int IntKind.i64 300)]) fun rs _u => some (Out.nrm [sl rs 0])) [D.tup []] fun outs => (pickD z (sl outs 0) (D.v (Value.bool false))).bind fun z =>
 (gate D.bad z true (liveD y (D.ref 0 3))).bind fun z_3 => (gate (D.tup []) z true ((atD y z_3).bind (takeD false 1))).bind fun z_4 => gateC z true (callK
 (F_impl_within [z_4, D.v (Value.int IntKind.i64 0), D.v (Value.int IntKind.i64 300)]) fun rs _u => some (Out.nrm [sl rs 0])) [D.tup []] fun outs =>
 (pickD z (sl outs 0) (D.v (Value.bool false))).bind fun z => some (Out.ret [z] [])) := by kernel_rfl
theorem t_impl_IsLayout (x0 x1 x2 : D) : F_impl_IsLayout [x0, x1, x2] =
  ((boxD 4 x2).bind fun y => callK (F_impl_isPageSize [x0]) fun rs _u => (gate (D.tup []) (sl rs 0) true (some x1)).bind fun z =>
 gateC (sl rs 0) true (callK (F_impl_isPageSize [z]) fun rs _u => some (Out.nrm [sl rs 0])) [D.tup []] fun outs => (pickD (sl rs 0) (sl outs 0) (D.v (Value.bool false))).bind fun z =>
 (gate (D.tup []) z true (fldD true 4 0 y)).bind fun z_1 => gateC z true (callK (F_impl_areMargins [z_1]) fun rs _u => some (Out.nrm [sl rs 0])) [D.tup []] fun outs =>
 (pickD z (sl outs 0) (D.v (Value.bool false))).bind fun z => (gate (D.tup []) z true (some x0)).bind fun z_2 => (gate D.bad z true (liveD y (D.ref 0 1))).bind fun z_3 =>
 (gate (D.tup []) z true ((atD y z_3).bind (takeD false 1))).bind fun z_4 => (gate (D.tup []) z true (bin BinOp.sub false [] z_2 z_4)).bind fun z_5 => (gate D.bad z true (liveD y (D.ref 0 2))).bind fun z_6 =>
 (gate (D.tup []) z true ((atD y z_6).bind (takeD false 1))).bind fun z_7 => (gate (D.tup []) z true (bin BinOp.sub false [] z_5 z_7)).bind fun z_8 => (gate (D.tup []) z true
 (bin BinOp.geq false [] z_8 (D.v (Value.int IntKind.i64 30)))).bind fun z_9 => (pickD z z_9 (D.v (Value.bool false))).bind fun z => (gate (D.tup []) z true (some x1)).bind fun z_10 =>
 (gate D.bad z true (liveD y (D.ref 0 0))).bind fun z_11 => (gate (D.tup []) z true ((atD y z_11).bind (takeD false 1))).bind fun z_12 => (gate (D.tup []) z true (bin BinOp.sub false [] z_10 z_12)).bind fun z_13 =>
 (gate D.bad z true (liveD y (D.ref 0 3))).bind fun z_14 => (gate (D.tup []) z true ((atD y z_14).bind (takeD false 1))).bind fun z_15 => (gate (D.tup []) z true (bin BinOp.sub false [] z_13 z_15)).bind fun z_16 =>
 (gate (D.tup []) z true (bin BinOp.geq false [] z_16 (D.v (Value.int IntKind.i64 30)))).bind fun z_17 => (pickD z z_17 (D.v (Value.bool false))).bind fun z => some (Out.ret [z] [])) := by kernel_rfl
theorem t_impl_checkedMargins (x0 x1 x2 : D) : F_impl_checkedMargins [x0, x1, x2] =
  ((boxD 4 x2).bind fun y => (fldD true 4 0 y).bind fun z => callK (F_impl_IsLayout [x0, x1, z]) fun rs _u => (un UnOp.not (sl rs 0)).bind fun z => ifD z ((bldD []
 [D.v (Value.int IntKind.i64 0), D.v (Value.int IntKind.i64 0), D.v (Value.int IntKind.i64 0), D.v (Value.int IntKind.i64 0)] []).bind fun z => (stD 4 (D.agg
 [D.v (Value.int IntKind.i64 0), D.v (Value.int IntKind.i64 0), D.v (Value.int IntKind.i64 0), D.v (Value.int IntKind.i64 0)]) (D.ref 0 0) z).bind
 fun b => (fldD true 4 0 b).bind fun y => some (Out.ret [y, D.v (Value.bool false)] [])) ((fldD true 4 0 y).bind fun z => (stD 4 (D.agg
 [D.v (Value.int IntKind.i64 0), D.v (Value.int IntKind.i64 0), D.v (Value.int IntKind.i64 0), D.v (Value.int IntKind.i64 0)]) (D.ref 0 0) z).bind
 fun b => (fldD true 4 0 b).bind fun y => some (Out.ret [y, D.v (Value.bool true)] []))) := by kernel_rfl
theorem t_impl_ShiftMargins (x0 x1 x2 x3 x4 : D) : F_impl_ShiftMargins [x0, x1, x2, x3, x4] =
  ((boxD 4 x2).bind fun y => (fldD true 4 0 y).bind fun z => callK (F_impl_IsLayout [x0, x1, z]) fun rs _u => (un UnOp.not (sl rs 0)).bind fun z => (gate (D.tup []) z false (some x3)).bind fun z_1 => gateC z false
 (callK (F_impl_within [z_1, D.v (Value.int IntKind.i64 (-300)), D.v (Value.int IntKind.i64 300)]) fun rs _u => some (Out.nrm [sl rs 0])) [D.tup []] fun outs =>
 (gate (D.tup []) z false (un UnOp.not (sl outs 0))).bind fun z_2 => (pickD z (D.v (Value.bool true)) z_2).bind fun z => (gate (D.tup []) z false (some x4)).bind fun z_3 => gateC z false
 (callK (F_impl_within [z_3, D.v (Value.int IntKind.i64 (-300)), D.v (Value.int IntKind.i64 300)]) fun rs _u => some (Out.nrm [sl rs 0])) [D.tup []] fun outs =>
 (gate (D.tup []) z false (un UnOp.not (sl outs 0))).bind fun z_4 => (pickD z (D.v (Value.bool true)) z_4).bind fun z => ifD z ((bldD [] [D.v (Value.int IntKind.i64 0), D.v (Value.int IntKind.i64 0),
 D.v (Value.int IntKind.i64 0), D.v (Value.int IntKind.i64 0)] []).bind fun z => (stD 4 (D.agg [D.v (Value.int IntKind.i64 0), D.v (Value.int IntKind.i64 0), D.v (Value.int IntKind.i64 0), D.v (Value.int IntKind.i64 0)])
 (D.ref 0 0) z).bind fun b => (fldD true 4 0 b).bind fun y => some (Out.ret [y, D.v (Value.bool false)] [])) ((liveD y (D.ref 0 0)).bind fun z => ((atD y z).bind (takeD false 1)).bind fun z =>
 (bin BinOp.add false [] z x4).bind fun z => (liveD y (D.ref 0 1)).bind fun z_5 => ((atD y z_5).bind (takeD false 1)).bind fun z_6 => (bin BinOp.add false [] z_6 x3).bind fun z_7 => (liveD y (D.ref 0 2)).bind fun z_8 =>
 ((atD y z_8).bind (takeD false 1)).bind fun z_9 => (bin BinOp.sub false [] z_9 x3).bind fun z_10 => (liveD y (D.ref 0 3)).bind fun z_11 => ((atD y z_11).bind (takeD false 1)).bind fun z_12 =>
 (bin BinOp.sub false [] z_12 x4).bind fun z_13 => (bldD [(0, 1), (1, 1), (2, 1), (3, 1)] [D.v (Value.int IntKind.i64 0), D.v (Value.int IntKind.i64 0), D.v (Value.int IntKind.i64 0), D.v (Value.int IntKind.i64 0)]
 [z, z_7, z_10, z_13]).bind fun z => callK (F_impl_checkedMargins [x0, x1, z]) fun rs _u => (tupAt (D.tup rs) 0).bind fun z => (tupAt (D.tup rs) 1).bind fun z_14 => (stD 4 (D.agg [D.v (Value.int IntKind.i64 0),
 D.v (Value.int IntKind.i64 0), D.v (Value.int IntKind.i64 0), D.v (Value.int IntKind.i64 0)]) (D.ref 0 0) z).bind fun b => (fldD true 4 0 b).bind fun y => some (Out.ret [y, z_14] []))) := by kernel_rfl
theorem t_spec_l1In (x0 x1 x2 : D) : F_spec_l1In [x0, x1, x2] =
  ((bin BinOp.geq false [] x0 x1).bind fun z => (gate (D.tup []) z true (some x0)).bind fun z_1 => (gate (D.tup []) z true (some x2)).bind fun z_2 => (gate (D.tup []) z true (bin BinOp.leq false [] z_1 z_2)).bind fun z_3 =>
 (pickD z z_3 (D.v (Value.bool false))).bind fun z => some (Out.ret [z] [])) := by kernel_rfl
theorem t_spec_mgPage (x0 x1 : D) : F_spec_mgPage [x0, x1] =
  (callK (F_spec_l1In [x0, D.v (Value.int IntKind.i64 60), D.v (Value.int IntKind.i64 2000)]) fun rs _u => (gate (D.tup []) (sl rs 0) true (some x1)).bind fun z => gateC (sl rs 0) true
 (callK (F_spec_l1In [z, D.v (Value.int IntKind.i64 60), D.v (Value.int IntKind.i64 2000)]) fun rs _u => some (Out.nrm [sl rs 0])) [D.tup []] fun outs =>
 (pickD (sl rs 0) (sl outs 0) (D.v (Value.bool false))).bind fun z => some (Out.ret [z] [])) := by kernel_rfl
theorem t_spec_mgParts (x0 : D) : F_spec_mgParts [x0] =
  ((boxD 4 x0).bind fun y => (liveD y (D.ref 0 0)).bind fun z => ((atD y z).bind (takeD false 1)).bind fun z => (liveD y (D.ref 0 1)).bind fun z_1 => ((atD y z_1).bind (takeD false 1)).bind fun z_2 =>
 (liveD y (D.ref 0 2)).bind fun z_3 => ((atD y z_3).bind (takeD false 1)).bind fun z_4 => (liveD y (D.ref 0 3)).bind fun z_5 => ((atD y z_5).bind (takeD false 1)).bind fun z_6 =>
 (mkArr 1 [z, z_2, z_4, z_6]).bind fun a => some (Out.ret [a] [])) := by kernel_rfl
theorem t_spec_l1All (x0 x1 x2 : D) : F_spec_l1All [x0, x1, x2] =
  ((lenD false x0).bind fun z => (loopC (fun s => (bin BinOp.lss false [] (sl s 4) (sl s 3)).bind fun z => ifD z ((Option.map D.ptr (elemD 1 (sl s 2) (sl s 4))).bind fun z => ((ldD false 1 z).bind chkV).bind fun z =>
 callK (F_spec_l1In [z, sl s 0, sl s 1]) fun rs _u => (un UnOp.not (sl rs 0)).bind fun z => ifD z (some (Out.ret [D.v (Value.bool false)] []))
 ((bin BinOp.add false [] (sl s 4) (D.v (Value.int IntKind.i64 1))).bind fun z => some (Out.nrm [sl s 0, sl s 1, sl s 2, sl s 3, z]))) (some (Out.ext 0 []))) [x1, x2, x0, z, D.v (Value.int IntKind.i64 0)]).bind fun o =>
 outK o (fun i _u => ifN (i.beq 0) (some (Out.ret [D.v (Value.bool true)] [])) none) fun a b => some (Out.ret a b)) := by kernel_rfl
theorem t_spec_mgGood (x0 : D) : F_spec_mgGood [x0] =
  ((boxD 4 x0).bind fun y => (fldD true 4 0 y).bind fun z => callK (F_spec_mgParts [z]) fun rs _u => callK (F_spec_l1All [sl rs 0, D.v (Value.int IntKind.i64 0), D.v (Value.int IntKind.i64 300)]) fun rs _u =>
 some (Out.ret [sl rs 0] [])) := by kernel_rfl
theorem t_spec_mgLayout (x0 x1 x2 : D) : F_spec_mgLayout [x0, x1, x2] =
  ((boxD 4 x2).bind fun y => callK (F_spec_mgPage [x0, x1]) fun rs _u => (gate (D.tup []) (sl rs 0) true (fldD true 4 0 y)).bind fun z =>
 gateC (sl rs 0) true (callK (F_spec_mgGood [z]) fun rs _u => some (Out.nrm [sl rs 0])) [D.tup []] fun outs => (pickD (sl rs 0) (sl outs 0) (D.v (Value.bool false))).bind fun z =>
 (gate (D.tup []) z true (some x0)).bind fun z_1 => (gate D.bad z true (liveD y (D.ref 0 1))).bind fun z_2 => (gate (D.tup []) z true ((atD y z_2).bind (takeD false 1))).bind fun z_3 =>
 (gate (D.tup []) z true (bin BinOp.sub false [] z_1 z_3)).bind fun z_4 => (gate D.bad z true (liveD y (D.ref 0 2))).bind fun z_5 => (gate (D.tup []) z true ((atD y z_5).bind (takeD false 1))).bind fun z_6 =>
 (gate (D.tup []) z true (bin BinOp.sub false [] z_4 z_6)).bind fun z_7 => (gate (D.tup []) z true (bin BinOp.geq false [] z_7 (D.v (Value.int IntKind.i64 30)))).bind fun z_8 =>
 (pickD z z_8 (D.v (Value.bool false))).bind fun z => (gate (D.tup []) z true (some x1)).bind fun z_9 => (gate D.bad z true (liveD y (D.ref 0 0))).bind fun z_10 =>
 (gate (D.tup []) z true ((atD y z_10).bind (takeD false 1))).bind fun z_11 => (gate (D.tup []) z true (bin BinOp.sub false [] z_9 z_11)).bind fun z_12 => (gate D.bad z true (liveD y (D.ref 0 3))).bind fun z_13 =>
 (gate (D.tup []) z true ((atD y z_13).bind (takeD false 1))).bind fun z_14 => (gate (D.tup []) z true (bin BinOp.sub false [] z_12 z_14)).bind fun z_15 => (gate (D.tup []) z true
 (bin BinOp.geq false [] z_15 (D.v (Value.int IntKind.i64 30)))).bind fun z_16 => (pickD z z_16 (D.v (Value.bool false))).bind fun z => some (Out.ret [z] [])) := by kernel_rfl
theorem t_spec_ShiftMargins (x0 x1 x2 x3 x4 : D) : F_spec_ShiftMargins [x0, x1, x2, x3, x4] =
  ((boxD 4 x2).bind fun y => (fldD true 4 0 y).bind fun z => callK (F_spec_mgLayout [x0, x1, z]) fun rs _u => (un UnOp.not (sl rs 0)).bind fun z => (gate (D.tup []) z false (some x3)).bind fun z_1 => gateC z false
 (callK (F_spec_l1In [z_1, D.v (Value.int IntKind.i64 (-300)), D.v (Value.int IntKind.i64 300)]) fun rs _u => some (Out.nrm [sl rs 0])) [D.tup []] fun outs =>
 (gate (D.tup []) z false (un UnOp.not (sl outs 0))).bind fun z_2 => (pickD z (D.v (Value.bool true)) z_2).bind fun z => (gate (D.tup []) z false (some x4)).bind fun z_3 => gateC z false
 (callK (F_spec_l1In [z_3, D.v (Value.int IntKind.i64 (-300)), D.v (Value.int IntKind.i64 300)]) fun rs _u => some (Out.nrm [sl rs 0])) [D.tup []] fun outs =>
 (gate (D.tup []) z false (un UnOp.not (sl outs 0))).bind fun z_4 => (pickD z (D.v (Value.bool true)) z_4).bind fun z => ifD z ((bldD [] [D.v (Value.int IntKind.i64 0), D.v (Value.int IntKind.i64 0),
 D.v (Value.int IntKind.i64 0), D.v (Value.int IntKind.i64 0)] []).bind fun z => (stD 4 (D.agg [D.v (Value.int IntKind.i64 0), D.v (Value.int IntKind.i64 0), D.v (Value.int IntKind.i64 0), D.v (Value.int IntKind.i64 0)])
 (D.ref 0 0) z).bind fun b => (fldD true 4 0 b).bind fun y => some (Out.ret [y, D.v (Value.bool false)] [])) ((liveD y (D.ref 0 0)).bind fun z => ((atD y z).bind (takeD false 1)).bind fun z =>
 (bin BinOp.add false [] z x4).bind fun z => (liveD y (D.ref 0 1)).bind fun z_5 => ((atD y z_5).bind (takeD false 1)).bind fun z_6 => (bin BinOp.add false [] z_6 x3).bind fun z_7 => (liveD y (D.ref 0 2)).bind fun z_8 =>
 ((atD y z_8).bind (takeD false 1)).bind fun z_9 => (bin BinOp.sub false [] z_9 x3).bind fun z_10 => (liveD y (D.ref 0 3)).bind fun z_11 => ((atD y z_11).bind (takeD false 1)).bind fun z_12 =>
 (bin BinOp.sub false [] z_12 x4).bind fun z_13 => (bldD [(0, 1), (1, 1), (2, 1), (3, 1)] [D.v (Value.int IntKind.i64 0), D.v (Value.int IntKind.i64 0), D.v (Value.int IntKind.i64 0), D.v (Value.int IntKind.i64 0)]
 [z, z_7, z_10, z_13]).bind fun z => (stD 4 (D.agg [D.v (Value.int IntKind.i64 0), D.v (Value.int IntKind.i64 0), D.v (Value.int IntKind.i64 0), D.v (Value.int IntKind.i64 0)]) (D.ref 0 0) z).bind fun b =>
 (fldD true 4 0 b).bind fun z => callK (F_spec_mgLayout [x0, x1, z]) fun rs _u => (un UnOp.not (sl rs 0)).bind fun z => ifD z ((bldD [] [D.v (Value.int IntKind.i64 0), D.v (Value.int IntKind.i64 0),
 D.v (Value.int IntKind.i64 0), D.v (Value.int IntKind.i64 0)] []).bind fun z => (stD 4 (D.agg [D.v (Value.int IntKind.i64 0), D.v (Value.int IntKind.i64 0), D.v (Value.int IntKind.i64 0), D.v (Value.int IntKind.i64 0)])
 (D.ref 0 0) z).bind fun b => (fldD true 4 0 b).bind fun y => some (Out.ret [y, D.v (Value.bool false)] [])) ((fldD true 4 0 b).bind fun z => (stD 4 (D.agg [D.v (Value.int IntKind.i64 0), D.v (Value.int IntKind.i64 0),
 D.v (Value.int IntKind.i64 0), D.v (Value.int IntKind.i64 0)]) (D.ref 0 0) z).bind fun b => (fldD true 4 0 b).bind fun y => some (Out.ret [y, D.v (Value.bool true)] [])))) := by kernel_rfl
theorem t_impl_TypeArea (x0 x1 x2 : D) : F_impl_TypeArea [x0, x1, x2] =
  ((boxD 4 x2).bind fun y => (fldD true 4 0 y).bind fun z => callK (F_impl_IsLayout [x0, x1, z]) fun rs _u => (un UnOp.not (sl rs 0)).bind fun z => ifD z
 (some (Out.ret [D.v (Value.int IntKind.i64 0), D.v (Value.int IntKind.i64 0), D.v (Value.bool false)] [])) ((liveD y (D.ref 0 1)).bind fun z => ((atD y z).bind (takeD false 1)).bind fun z =>
 (bin BinOp.sub false [] x0 z).bind fun z => (liveD y (D.ref 0 2)).bind fun z_1 => ((atD y z_1).bind (takeD false 1)).bind fun z_2 => (bin BinOp.sub false [] z z_2).bind fun z => (liveD y (D.ref 0 0)).bind fun z_3 =>
 ((atD y z_3).bind (takeD false 1)).bind fun z_4 => (bin BinOp.sub false [] x1 z_4).bind fun z_5 => (liveD y (D.ref 0 3)).bind fun z_6 => ((atD y z_6).bind (takeD false 1)).bind fun z_7 =>
 (bin BinOp.sub false [] z_5 z_7).bind fun z_8 => some (Out.ret [z, z_8, D.v (Value.bool true)] []))) := by kernel_rfl
theorem t_spec_TypeArea (x0 x1 x2 : D) : F_spec_TypeArea [x0, x1, x2] =
  ((boxD 4 x2).bind fun y => (fldD true 4 0 y).bind fun z => callK (F_spec_mgLayout [x0, x1, z]) fun rs _u => (un UnOp.not (sl rs 0)).bind fun z => ifD z
 (some (Out.ret [D.v (Value.int IntKind.i64 0), D.v (Value.int IntKind.i64 0), D.v (Value.bool false)] [])) ((liveD y (D.ref 0 1)).bind fun z => ((atD y z).bind (takeD false 1)).bind fun z =>
 (bin BinOp.sub false [] x0 z).bind fun z => (liveD y (D.ref 0 2)).bind fun z_1 => ((atD y z_1).bind (takeD false 1)).bind fun z_2 => (bin BinOp.sub false [] z z_2).bind fun z => (liveD y (D.ref 0 0)).bind fun z_3 =>
 ((atD y z_3).bind (takeD false 1)).bind fun z_4 => (bin BinOp.sub false [] x1 z_4).bind fun z_5 => (liveD y (D.ref 0 3)).bind fun z_6 => ((atD y z_6).bind (takeD false 1)).bind fun z_7 =>
 (bin BinOp.sub false [] z_5 z_7).bind fun z_8 => some (Out.ret [z, z_8, D.v (Value.bool true)] []))) := by kernel_rfl
theorem t_spec_DrawMarginsByRule (x0 : D) : F_spec_DrawMarginsByRule [x0] =
  ((bldD [(0, 1)] [D.arr 1 [], D.v (Value.int IntKind.i64 0), D.v (Value.int IntKind.u64 0)] [x0]).bind fun z => (boxD 3 z).bind fun y => (liveD y (D.ref 0 0)).bind fun z => (liveD z z).bind fun z_1 =>
 (ref0 z_1 y).bind fun i => (liveD i i).bind fun i => callK (F_spec_l1Cur_pageSide [i]) fun rs us => (liveD z z).bind fun z_2 => (ref0 z_2 (sl us 0)).bind fun i => (liveD i i).bind fun i =>
 callK (F_spec_l1Cur_pageSide [i]) fun rs_1 us => (liveD z z).bind fun z_3 => (bin BinOp.quo false [] (sl rs 0) (D.v (Value.int IntKind.i64 2))).bind fun z_4 =>
 (bin BinOp.mul false [] (sl rs 0) (D.v (Value.int IntKind.i64 2))).bind fun z_5 => (bin BinOp.quo false [] z_5 (D.v (Value.int IntKind.i64 3))).bind fun z_6 =>
 (bin BinOp.sub false [] (sl rs 0) (D.v (Value.int IntKind.i64 30))).bind fun z_7 => (liveD z z).bind fun z => (bin BinOp.add false [] (sl rs 0) (D.v (Value.int IntKind.i64 1))).bind fun z_8 => (mkArr 1
 [D.v (Value.int IntKind.i64 30), D.v (Value.int IntKind.i64 29), D.v (Value.int IntKind.i64 0), z_8, D.v (Value.int IntKind.i64 (-9223372036854775808))]).bind fun a => (ref0 z (sl us 0)).bind fun i =>
 (liveD i i).bind fun i => callK (F_spec_l1Cur_among [i, a]) fun rs_2 us => (mkArr 1 [z_4, z_6, sl rs 0, z_7, sl rs_2 0]).bind fun a => (ref0 z_3 (sl us 0)).bind fun i => (liveD i i).bind fun i =>
 callK (F_spec_l1Cur_among [i, a]) fun rs_3 _u => some (Out.ret [sl rs 0, sl rs_1 0, sl rs_3 0] [])) := by kernel_rfl
theorem t_impl_MarginsByRule (x0 x1 x2 : D) : F_impl_MarginsByRule [x0, x1, x2] =
  (callK (F_impl_isPageSize [x0]) fun rs _u => (un UnOp.not (sl rs 0)).bind fun z => (gate (D.tup []) z false (some x1)).bind fun z_1 =>
 gateC z false (callK (F_impl_isPageSize [z_1]) fun rs _u => some (Out.nrm [sl rs 0])) [D.tup []] fun outs => (gate (D.tup []) z false (un UnOp.not (sl outs 0))).bind fun z_2 =>
 (pickD z (D.v (Value.bool true)) z_2).bind fun z => (gate (D.tup []) z false (some x2)).bind fun z_3 => (gate (D.tup []) z false (some x0)).bind fun z_4 => gateC z false
 (callK (F_impl_within [z_3, D.v (Value.int IntKind.i64 1), z_4]) fun rs _u => some (Out.nrm [sl rs 0])) [D.tup []] fun outs => (gate (D.tup []) z false (un UnOp.not (sl outs 0))).bind fun z_5 =>
 (pickD z (D.v (Value.bool true)) z_5).bind fun z => ifD z ((bldD [] [D.v (Value.int IntKind.i64 0), D.v (Value.int IntKind.i64 0), D.v (Value.int IntKind.i64 0), D.v (Value.int IntKind.i64 0)] []).bind fun z => (stD 4
 (D.agg [D.v (Value.int IntKind.i64 0), D.v (Value.int IntKind.i64 0), D.v (Value.int IntKind.i64 0), D.v (Value.int IntKind.i64 0)]) (D.ref 0 0) z).bind
 fun b => (fldD true 4 0 b).bind fun y => some (Out.ret [y, D.v (Value.bool false)] [])) ((bin BinOp.sub false [] x0 x2).bind fun z => (bin BinOp.mul false [] x2 x1).bind fun z_6 =>
 (bin BinOp.quo false [] z_6 x0).bind fun z_7 => (bin BinOp.sub false [] x1 z_7).bind fun z_8 => (bin BinOp.quo false [] z_8 (D.v (Value.int IntKind.i64 3))).bind fun z_9 =>
 (bin BinOp.quo false [] z (D.v (Value.int IntKind.i64 3))).bind fun z_10 => (bin BinOp.quo false [] z (D.v (Value.int IntKind.i64 3))).bind fun z_11 => (bin BinOp.sub false [] z z_11).bind fun z =>
 (bin BinOp.quo false [] z_8 (D.v (Value.int IntKind.i64 3))).bind fun z_12 => (bin BinOp.sub false [] z_8 z_12).bind fun z_13 => (bldD [(0, 1), (1, 1), (2, 1), (3, 1)]
 [D.v (Value.int IntKind.i64 0), D.v (Value.int IntKind.i64 0), D.v (Value.int IntKind.i64 0), D.v (Value.int IntKind.i64 0)] [z_9, z_10, z, z_13]).bind fun z => callK (F_impl_checkedMargins [x0, x1, z]) fun rs _u =>
 (tupAt (D.tup rs) 0).bind fun z => (tupAt (D.tup rs) 1).bind fun z_14 => (stD 4 (D.agg [D.v (Value.int IntKind.i64 0), D.v (Value.int IntKind.i64 0), D.v (Value.int IntKind.i64 0), D.v (Value.int IntKind.i64 0)])
 (D.ref 0 0) z).bind fun b => (fldD true 4 0 b).bind fun y => some (Out.ret [y, z_14] []))) := by kernel_rfl
theorem t_spec_MarginsByRule (x0 x1 x2 : D) : F_spec_MarginsByRule [x0, x1, x2] =
  (callK (F_spec_mgPage [x0, x1]) fun rs _u => (un UnOp.not (sl rs 0)).bind fun z => (gate (D.tup []) z false (some x2)).bind fun z_1 => (gate (D.tup []) z false (some x0)).bind fun z_2 => gateC z false
 (callK (F_spec_l1In [z_1, D.v (Value.int IntKind.i64 1), z_2]) fun rs _u => some (Out.nrm [sl rs 0])) [D.tup []] fun outs => (gate (D.tup []) z false (un UnOp.not (sl outs 0))).bind fun z_3 =>
 (pickD z (D.v (Value.bool true)) z_3).bind fun z => ifD z ((bldD [] [D.v (Value.int IntKind.i64 0), D.v (Value.int IntKind.i64 0), D.v (Value.int IntKind.i64 0), D.v (Value.int IntKind.i64 0)] []).bind fun z => (stD 4
 (D.agg [D.v (Value.int IntKind.i64 0), D.v (Value.int IntKind.i64 0), D.v (Value.int IntKind.i64 0), D.v (Value.int IntKind.i64 0)]) (D.ref 0 0) z).bind
 fun b => (fldD true 4 0 b).bind fun y => some (Out.ret [y, D.v (Value.bool false)] [])) ((bin BinOp.mul false [] x2 x1).bind fun z => (bin BinOp.quo false [] z x0).bind fun z =>
 (bin BinOp.sub false [] x1 z).bind fun z_4 => (bin BinOp.quo false [] z_4 (D.v (Value.int IntKind.i64 3))).bind fun z_5 => (bin BinOp.sub false [] x0 x2).bind fun z_6 =>
 (bin BinOp.quo false [] z_6 (D.v (Value.int IntKind.i64 3))).bind fun z_7 => (bldD [(0, 1), (1, 1)] [D.v (Value.int IntKind.i64 0), D.v (Value.int IntKind.i64 0),
 D.v (Value.int IntKind.i64 0), D.v (Value.int IntKind.i64 0)] [z_5, z_7]).bind fun z_8 => (stD 4 (D.agg [D.v (Value.int IntKind.i64 0), D.v (Value.int IntKind.i64 0),
 D.v (Value.int IntKind.i64 0), D.v (Value.int IntKind.i64 0)]) (D.ref 0 0) z_8).bind fun b => (bin BinOp.sub false [] x0 x2).bind fun z_9 => (liveD b (D.ref 0 1)).bind fun z_10 =>
 ((atD b z_10).bind (takeD false 1)).bind fun z_11 => (bin BinOp.sub false [] z_9 z_11).bind fun z_12 => (liveD b (D.ref 0 2)).bind fun z_13 => (stD 1 b z_13 z_12).bind fun b => (bin BinOp.sub false [] x1 z).bind fun z =>
 (liveD b (D.ref 0 0)).bind fun z_14 => ((atD b z_14).bind (takeD false 1)).bind fun z_15 => (bin BinOp.sub false [] z z_15).bind fun z => (liveD b (D.ref 0 3)).bind fun z_16 => (stD 1 b z_16 z).bind fun b =>
 (fldD true 4 0 b).bind fun z => callK (F_spec_mgLayout [x0, x1, z]) fun rs _u => (un UnOp.not (sl rs 0)).bind fun z => ifD z ((bldD [] [D.v (Value.int IntKind.i64 0), D.v (Value.int IntKind.i64 0),
 D.v (Value.int IntKind.i64 0), D.v (Value.int IntKind.i64 0)] []).bind fun z => (stD 4 (D.agg [D.v (Value.int IntKind.i64 0), D.v (Value.int IntKind.i64 0), D.v (Value.int IntKind.i64 0), D.v (Value.int IntKind.i64 0)])
 (D.ref 0 0) z).bind fun b => (fldD true 4 0 b).bind fun y => some (Out.ret [y, D.v (Value.bool false)] [])) ((fldD true 4 0 b).bind fun z => (stD 4 (D.agg [D.v (Value.int IntKind.i64 0), D.v (Value.int IntKind.i64 0),
 D.v (Value.int IntKind.i64 0), D.v (Value.int IntKind.i64 0)]) (D.ref 0 0) z).bind fun b => (fldD true 4 0 b).bind fun y => some (Out.ret [y, D.v (Value.bool true)] [])))) := by kernel_rfl
theorem t_spec_DrawPlaceOfType (x0 : D) : F_spec_DrawPlaceOfType [x0] =
  ((bldD [(0, 1)] [D.arr 1 [], D.v (Value.int IntKind.i64 0), D.v (Value.int IntKind.u64 0)] [x0]).bind fun z => (boxD 3 z).bind fun y => (liveD y (D.ref 0 0)).bind fun z => callK (F_spec_DrawIsLayout [x0]) fun rs _u =>
 (tupAt (D.tup rs) 0).bind fun z_1 => (tupAt (D.tup rs) 1).bind fun z_2 => (tupAt (D.tup rs) 2).bind fun z_3 => (stD 4 (D.agg [D.v (Value.int IntKind.i64 0), D.v (Value.int IntKind.i64 0), D.v (Value.int IntKind.i64 0),
 D.v (Value.int IntKind.i64 0)]) (D.ref 0 0) z_3).bind fun b => (liveD z z).bind fun z_4 => (liveD z_4 z_4).bind fun z_5 => (refAdd 1 z_5).bind fun z_6 => (stD 1 y z_6 (D.v (Value.int IntKind.i64 8))).bind fun b_1 =>
 (fldD true 4 0 b).bind fun z_7 => (liveD z z).bind fun z_8 => (liveD z z).bind fun z => (mkArr 1 [D.v (Value.int IntKind.i64 9999), D.v (Value.int IntKind.i64 0), D.v (Value.int IntKind.i64 10000)]).bind fun a =>
 (ref0 z b_1).bind fun i => (liveD i i).bind fun i => callK (F_spec_l1Cur_among [i, a]) fun rs us => (mkArr 1 [D.v (Value.int IntKind.i64 1), D.v (Value.int IntKind.i64 2),
 D.v (Value.int IntKind.i64 3), D.v (Value.int IntKind.i64 16), sl rs 0]).bind fun a => (ref0 z_8 (sl us 0)).bind fun i => (liveD i i).bind fun i => callK (F_spec_l1Cur_among [i, a]) fun rs _u => (stD 4 (D.agg
 [D.v (Value.int IntKind.i64 0), D.v (Value.int IntKind.i64 0), D.v (Value.int IntKind.i64 0), D.v (Value.int IntKind.i64 0)]) (D.ref 0 0) z_7).bind fun b => (fldD true 4 0 b).bind fun y =>
 some (Out.ret [z_1, z_2, y, sl rs 0] [])) := by kernel_rfl
theorem t_impl_PlaceOfType (x0 x1 x2 x3 : D) : F_impl_PlaceOfType [x0, x1, x2, x3] =
  ((boxD 4 x2).bind fun y => (fldD true 4 0 y).bind fun z => callK (F_impl_IsLayout [x0, x1, z]) fun rs _u => (un UnOp.not (sl rs 0)).bind fun z => (gate (D.tup []) z false (some x3)).bind fun z_1 => gateC z false
 (callK (F_impl_within [z_1, D.v (Value.int IntKind.i64 1), D.v (Value.int IntKind.i64 9999)]) fun rs _u => some (Out.nrm [sl rs 0])) [D.tup []] fun outs =>
 (gate (D.tup []) z false (un UnOp.not (sl outs 0))).bind fun z_2 => (pickD z (D.v (Value.bool true)) z_2).bind fun z => ifD z (some
 (Out.ret [D.v (Value.int IntKind.i64 0), D.v (Value.int IntKind.i64 0), D.v (Value.bool false)] [])) ((bin BinOp.rem false [] x3 (D.v (Value.int IntKind.i64 2))).bind fun z =>
 (bin BinOp.eql false [] z (D.v (Value.int IntKind.i64 1))).bind fun z => ifD z ((liveD y (D.ref 0 1)).bind fun z => ((atD y z).bind (takeD false 1)).bind fun z => (liveD y (D.ref 0 0)).bind fun z_3 =>
 ((atD y z_3).bind (takeD false 1)).bind fun z_4 => some (Out.ret [z, z_4, D.v (Value.bool true)] [])) ((liveD y (D.ref 0 2)).bind fun z => ((atD y z).bind (takeD false 1)).bind fun z =>
 (liveD y (D.ref 0 0)).bind fun z_3 => ((atD y z_3).bind (takeD false 1)).bind fun z_4 => some (Out.ret [z, z_4, D.v (Value.bool true)] [])))) := by kernel_rfl
theorem t_spec_PlaceOfType (x0 x1 x2 x3 : D) : F_spec_PlaceOfType [x0, x1, x2, x3] =
  ((boxD 4 x2).bind fun y => (fldD true 4 0 y).bind fun z => callK (F_spec_mgLayout [x0, x1, z]) fun rs _u => (un UnOp.not (sl rs 0)).bind fun z => (gate (D.tup []) z false (some x3)).bind fun z_1 => gateC z false
 (callK (F_spec_l1In [z_1, D.v (Value.int IntKind.i64 1), D.v (Value.int IntKind.i64 9999)]) fun rs _u => some (Out.nrm [sl rs 0])) [D.tup []] fun outs => (gate (D.tup []) z false (un UnOp.not (sl outs 0))).bind fun z_2 =>
 (pickD z (D.v (Value.bool true)) z_2).bind fun z => ifD z (some (Out.ret [D.v (Value.int IntKind.i64 0), D.v (Value.int IntKind.i64 0), D.v (Value.bool false)] []))
 ((bin BinOp.rem false [] x3 (D.v (Value.int IntKind.i64 2))).bind fun z => (bin BinOp.eql false [] z (D.v (Value.int IntKind.i64 1))).bind fun z => ifD z ((liveD y (D.ref 0 1)).bind fun z =>
 ((atD y z).bind (takeD false 1)).bind fun z => (liveD y (D.ref 0 0)).bind fun z_3 => ((atD y z_3).bind (takeD false 1)).bind fun z_4 => some (Out.ret [z, z_4, D.v (Value.bool true)] []))
 ((liveD y (D.ref 0 2)).bind fun z => ((atD y z).bind (takeD false 1)).bind fun z => (liveD y (D.ref 0 0)).bind fun z_3 => ((atD y z_3).bind (takeD false 1)).bind fun z_4 =>
 some (Out.ret [z, z_4, D.v (Value.bool true)] [])))) := by kernel_rfl
theorem t_impl_join (x0 x1 : D) : F_impl_join [x0, x1] =
  ((mkArr 1 []).bind fun a => (lenD false x0).bind fun z => (loopC (fun s => (bin BinOp.lss false [] (sl s 4) (sl s 3)).bind fun z => ifD z ((Option.map D.ptr (elemD 1 (sl s 2) (sl s 4))).bind fun z =>
 ((ldD false 1 z).bind chkV).bind fun z => callK (fItoa [z]) fun rs _u => (mkArr 1 [sl rs 0]).bind fun a => (chkA a).bind fun b => (appD 1 16 (sl s 1) b).bind fun y =>
 (bin BinOp.add false [] (sl s 4) (D.v (Value.int IntKind.i64 1))).bind fun z => some (Out.nrm [sl s 0, y, sl s 2, sl s 3, z])) (some (Out.ext 0 [sl s 0, sl s 1]))) [x1, a, x0, z, D.v (Value.int IntKind.i64 0)]).bind
 fun o => outK o (fun i s => ifN (i.beq 0) ((liveD (sl s 1) (D.ref 0 0)).bind fun z => (liveD z (sl s 1)).bind fun i => callK (fJoin [i, sl s 0]) fun rs _u => some (Out.ret [sl rs 0] [])) none)
 fun a b => some (Out.ret a b)) := by kernel_rfl
theorem t_impl_marginsText (x0 : D) : F_impl_marginsText [x0] =
  ((boxD 4 x0).bind fun y => (liveD y (D.ref 0 0)).bind fun z => ((atD y z).bind (takeD false 1)).bind fun z => (liveD y (D.ref 0 1)).bind fun z_1 => ((atD y z_1).bind (takeD false 1)).bind fun z_2 =>
 (liveD y (D.ref 0 2)).bind fun z_3 => ((atD y z_3).bind (takeD false 1)).bind fun z_4 => (liveD y (D.ref 0 3)).bind fun z_5 => ((atD y z_5).bind (takeD false 1)).bind fun z_6 => (mkArr 1 [z, z_2, z_4, z_6]).bind fun a =>
 callK (F_impl_join [a, D.v (Value.string { data := { toList := [47] } })]) fun rs _u => some (Out.ret [sl rs 0] [])) := by kernel_rfl
theorem t_impl_MarginsText (x0 : D) : F_impl_MarginsText [x0] =
  ((boxD 4 x0).bind fun y => (fldD true 4 0 y).bind fun z => callK (F_impl_areMargins [z]) fun rs _u => (un UnOp.not (sl rs 0)).bind fun z =>
 ifD z (some (Out.ret [D.v (Value.string { data := { toList := [] } }), D.v (Value.bool false)] [])) ((fldD true 4 0 y).bind fun z =>
 callK (F_impl_marginsText [z]) fun rs _u => some (Out.ret [sl rs 0, D.v (Value.bool true)] []))) := by kernel_rfl
theorem t_spec_l1Num (n : Nat) (x0 : D) : R_spec_l1Num (n + 1) [x0] =
  ((bin BinOp.lss false [] x0 (D.v (Value.int IntKind.i64 10))).bind fun z => ifD z ((bin BinOp.add false [] (D.v (Value.int IntKind.i64 48)) x0).bind fun z => (convD (some IntKind.u8) false z).bind fun z =>
 (mkArr 1 [z]).bind fun a => (strD a).bind fun z => some (Out.ret [z] [])) ((bin BinOp.quo false [] x0 (D.v (Value.int IntKind.i64 10))).bind fun z => callK (R_spec_l1Num n [z]) fun rs _u =>
 (bin BinOp.rem false [] x0 (D.v (Value.int IntKind.i64 10))).bind fun z => (bin BinOp.add false [] (D.v (Value.int IntKind.i64 48)) z).bind fun z => (convD (some IntKind.u8) false z).bind fun z =>
 (mkArr 1 [z]).bind fun a => (strD a).bind fun z => (bin BinOp.add false [] (sl rs 0) z).bind fun z => some (Out.ret [z] []))) := by kernel_rfl
theorem t_spec_mgText (x0 : D) : F_spec_mgText [x0] =
  ((boxD 4 x0).bind fun y => (fldD true 4 0 y).bind fun z => callK (F_spec_mgParts [z]) fun rs _u => (lenD false (sl rs 0)).bind fun z => (loopC (fun s => (bin BinOp.lss false [] (sl s 3) (sl s 2)).bind fun z => ifD z
 ((Option.map D.ptr (elemD 1 (sl s 1) (sl s 3))).bind fun z => ((ldD false 1 z).bind chkV).bind fun z => (bin BinOp.gtr false [] (sl s 3) (D.v (Value.int IntKind.i64 0))).bind fun z_1 => ifD z_1
 ((bin BinOp.add false [] (sl s 0) (D.v (Value.string { data := { toList := [47] } }))).bind fun z_2 => callK (F_spec_l1Num [z]) fun rs _u => (bin BinOp.add false [] z_2 (sl rs 0)).bind fun z =>
 (bin BinOp.add false [] (sl s 3) (D.v (Value.int IntKind.i64 1))).bind fun z_3 => some (Out.nrm [z, sl s 1, sl s 2, z_3])) (callK (F_spec_l1Num [z]) fun rs _u => (bin BinOp.add false [] (sl s 0) (sl rs 0)).bind fun z =>
 (bin BinOp.add false [] (sl s 3) (D.v (Value.int IntKind.i64 1))).bind fun z_2 => some (Out.nrm [z, sl s 1, sl s 2, z_2]))) (some (Out.ext 0 [sl s 0])))
 [D.v (Value.string { data := { toList := [] } }), sl rs 0, z, D.v (Value.int IntKind.i64 0)]).bind fun o => outK o (fun i s => ifN (i.beq 0) (some (Out.ret [sl s 0] [])) none) fun a b => some (Out.ret a b)) := by kernel_rfl
theorem t_spec_MarginsText (x0 : D) : F_spec_MarginsText [x0] =
  ((boxD 4 x0).bind fun y => (fldD true 4 0 y).bind fun z => callK (F_spec_mgGood [z]) fun rs _u => (un UnOp.not (sl rs 0)).bind fun z =>
 ifD z (some (Out.ret [D.v (Value.string { data := { toList := [] } }), D.v (Value.bool false)] [])) ((fldD true 4 0 y).bind fun z =>
 callK (F_spec_mgText [z]) fun rs _u => some (Out.ret [sl rs 0, D.v (Value.bool true)] []))) := by kernel_rfl
theorem t_spec_l1Cur_spoilt (x0 x1 x2 : D) : F_spec_l1Cur_spoilt [x0, x1, x2] =
  ((liveD x0 (D.ref 0 0)).bind fun z => (ref0 z x0).bind fun i => (liveD i i).bind fun i => callK (F_spec_l1Cur_pick [i, D.v (Value.int IntKind.i64 2)]) fun rs us =>
 (bin BinOp.add false [] (D.v (Value.int IntKind.i64 1)) (sl rs 0)).bind fun z => (loopC (fun s => (bin BinOp.gtr false [] (sl s 3) (D.v (Value.int IntKind.i64 0))).bind fun z =>
 (gate (D.tup []) z true (some (sl s 1))).bind fun z_1 => (gate (D.tup []) z true (lenD true z_1)).bind fun z_2 => (gate (D.tup []) z true (bin BinOp.gtr false [] z_2 (D.v (Value.int IntKind.i64 0)))).bind fun z_3 =>
 (pickD z z_3 (D.v (Value.bool false))).bind fun z => ifD z ((liveD (sl s 0) (D.ref 0 0)).bind fun z => (lenD true (sl s 1)).bind fun z_4 => (ref0 z (sl s 0)).bind fun i => (liveD i i).bind fun i =>
 callK (F_spec_l1Cur_pick [i, z_4]) fun rs us => (liveD (sl us 0) (D.ref 0 0)).bind fun z => (lenD true (sl s 2)).bind fun z_5 => (ref0 z (sl us 0)).bind fun i => (liveD i i).bind fun i =>
 callK (F_spec_l1Cur_pick [i, z_5]) fun rs_1 us => (charD (sl s 2) (sl rs_1 0)).bind fun z => (mkArr 1 [z]).bind fun a => (strD a).bind fun z => (liveD (sl us 0) (D.ref 0 0)).bind fun z_6 =>
 (ref0 z_6 (sl us 0)).bind fun i => (liveD i i).bind fun i => callK (F_spec_l1Cur_pick [i, D.v (Value.int IntKind.i64 3)]) fun rs_2 us => (bin BinOp.eql false [] (sl rs_2 0) (D.v (Value.int IntKind.i64 0))).bind fun z_7 =>
 ifD z_7 ((sliceD true 0 (sl s 1) (D.v (Value.int IntKind.i64 0)) (sl rs 0)).bind fun z_8 => (bin BinOp.add false [] z_8 z).bind fun z => (sliceHi true 0 (sl s 1) (sl rs 0)).bind fun z_9 =>
 (bin BinOp.add false [] z z_9).bind fun z => (bin BinOp.sub false [] (sl s 3) (D.v (Value.int IntKind.i64 1))).bind fun z_10 => some (Out.nrm [sl us 0, z, sl s 2, z_10])) ((bin BinOp.eql false [] (sl rs_2 0)
 (D.v (Value.int IntKind.i64 1))).bind fun z_8 => ifD z_8 ((sliceD true 0 (sl s 1) (D.v (Value.int IntKind.i64 0)) (sl rs 0)).bind fun z_9 => (bin BinOp.add false [] z_9 z).bind fun z => (bin BinOp.add false [] (sl rs 0)
 (D.v (Value.int IntKind.i64 1))).bind fun z_10 => (sliceHi true 0 (sl s 1) z_10).bind fun z_11 => (bin BinOp.add false [] z z_11).bind fun z => (bin BinOp.sub false [] (sl s 3) (D.v (Value.int IntKind.i64 1))).bind
 fun z_12 => some (Out.nrm [sl us 0, z, sl s 2, z_12])) ((sliceD true 0 (sl s 1) (D.v (Value.int IntKind.i64 0)) (sl rs 0)).bind fun z => (bin BinOp.add false [] (sl rs 0) (D.v (Value.int IntKind.i64 1))).bind fun z_9 =>
 (sliceHi true 0 (sl s 1) z_9).bind fun z_10 => (bin BinOp.add false [] z z_10).bind fun z => (bin BinOp.sub false [] (sl s 3) (D.v (Value.int IntKind.i64 1))).bind fun z_11 => some (Out.nrm [sl us 0, z, sl s 2, z_11]))))
 (some (Out.ext 0 [sl s 0, sl s 1]))) [sl us 0, x1, x2, z]).bind fun o => outK o (fun i s => ifN (i.beq 0) ((liveD (sl s 0) (sl s 0)).bind fun _u => some (Out.ret [sl s 1] [sl s 0])) none) fun a b => some (Out.ret a b)) := by kernel_rfl
theorem t_spec_l1Cur_of (x0 x1 : D) : F_spec_l1Cur_of [x0, x1] =
  ((liveD x0 (D.ref 0 0)).bind fun z => (lenD false x1).bind fun z_1 => (ref0 z x0).bind fun i => (liveD i i).bind fun i => callK (F_spec_l1Cur_pick [i, z_1]) fun rs us =>
 (Option.map D.ptr (elemD 1 x1 (sl rs 0))).bind fun z => ((ldD false 1 z).bind chkV).bind fun z => (liveD (sl us 0) (sl us 0)).bind fun _u => some (Out.ret [z] [sl us 0])) := by kernel_rfl
theorem t_spec_DrawParseMargins (x0 : D) : F_spec_DrawParseMargins [x0] =
  ((bldD [(0, 1)] [D.arr 1 [], D.v (Value.int IntKind.i64 0), D.v (Value.int IntKind.u64 0)] [x0]).bind fun z => (boxD 3 z).bind fun y => (liveD y (D.ref 0 0)).bind fun z => (liveD z z).bind fun z_1 =>
 (ref0 z_1 y).bind fun i => (liveD i i).bind fun i => callK (F_spec_l1Cur_margins [i]) fun rs us => (stD 4 (D.agg [D.v (Value.int IntKind.i64 0), D.v (Value.int IntKind.i64 0), D.v (Value.int IntKind.i64 0),
 D.v (Value.int IntKind.i64 0)]) (D.ref 0 0) (sl rs 0)).bind fun b => (fldD true 4 0 b).bind fun z_2 => callK (F_spec_mgGood [z_2]) fun rs _u => ifD (sl rs 0) ((fldD true 4 0 b).bind fun z_3 =>
 callK (F_spec_mgText [z_3]) fun rs _u => (liveD z z).bind fun z_4 => (ref0 z_4 (sl us 0)).bind fun i => (liveD i i).bind fun i => callK (F_spec_l1Cur_pick [i, D.v (Value.int IntKind.i64 5)]) fun rs_1 us =>
 (bin BinOp.eql false [] (sl rs_1 0) (D.v (Value.int IntKind.i64 0))).bind fun z_5 => ifD z_5 ((liveD z z).bind fun z => (ref0 z (sl us 0)).bind fun i => (liveD i i).bind fun i => callK (F_spec_l1Cur_spoilt [i, sl rs 0,
 D.v (Value.string { data := { toList := [47, 45, 48, 49, 51] } })]) fun rs _u => some (Out.ret [sl rs 0] [])) ((bin BinOp.eql false [] (sl rs_1 0) (D.v (Value.int IntKind.i64 1))).bind fun z_6 => ifD z_6
 ((liveD z z).bind fun z => (mkArr 1 [D.v (Value.string { data := { toList := [] } }), D.v (Value.string { data := { toList := [48, 47, 48, 47, 48, 47, 48] } }),
 D.v (Value.string { data := { toList := [49, 47, 49, 47, 49] } }), D.v (Value.string { data := { toList := [51, 48, 48, 47, 51, 48, 48, 47, 51, 48, 48, 47, 51, 48, 48] } }), D.v (Value.string { data :=
 { toList := [51, 48, 49, 47, 48, 47, 48, 47, 48] } }), D.v (Value.string { data := { toList := [48, 49, 47, 48, 47, 48, 47, 48] } }), D.v (Value.string { data := { toList :=
 [49, 47, 49, 47, 49, 47, 49, 47, 49] } })]).bind fun a => (ref0 z (sl us 0)).bind fun i => (liveD i i).bind fun i => callK (F_spec_l1Cur_of [i, a]) fun rs _u => some (Out.ret [sl rs 0] [])) (some (Out.ret [sl rs 0] []))))
 ((liveD z z).bind fun z_3 => (ref0 z_3 (sl us 0)).bind fun i => (liveD i i).bind fun i => callK (F_spec_l1Cur_pick [i, D.v (Value.int IntKind.i64 5)]) fun rs us =>
 (bin BinOp.eql false [] (sl rs 0) (D.v (Value.int IntKind.i64 0))).bind fun z_4 => ifD z_4 ((liveD z z).bind fun z => (ref0 z (sl us 0)).bind fun i => (liveD i i).bind fun i => callK (F_spec_l1Cur_spoilt [i, D.v
 (Value.string { data := { toList := [53, 48, 47, 51, 51, 47, 54, 55, 47, 49, 48, 48] } }), D.v (Value.string { data := { toList := [47, 45, 48, 49, 51] } })]) fun rs _u => some (Out.ret [sl rs 0] []))
 ((bin BinOp.eql false [] (sl rs 0) (D.v (Value.int IntKind.i64 1))).bind fun z_5 => ifD z_5 ((liveD z z).bind fun z => (mkArr 1 [D.v (Value.string { data := { toList := [] } }), D.v (Value.string
 { data := { toList := [48, 47, 48, 47, 48, 47, 48] } }), D.v (Value.string { data := { toList := [49, 47, 49, 47, 49] } }), D.v (Value.string { data := { toList := [51, 48, 48, 47, 51, 48, 48, 47, 51, 48, 48, 47, 51, 48,
 48] } }), D.v (Value.string { data := { toList := [51, 48, 49, 47, 48, 47, 48, 47, 48] } }), D.v (Value.string { data := { toList := [48, 49, 47, 48, 47, 48, 47, 48] } }), D.v (Value.string { data :=
 { toList := [49, 47, 49, 47, 49, 47, 49, 47, 49] } })]).bind fun a => (ref0 z (sl us 0)).bind fun i => (liveD i i).bind fun i => callK (F_spec_l1Cur_of [i, a]) fun rs _u => some (Out.ret [sl rs 0] [])) (some (Out.ret [D.v
 (Value.string { data := { toList := [53, 48, 47, 51, 51, 47, 54, 55, 47, 49, 48, 48] } })] []))))) := by kernel_rfl
theorem t_impl_numbersIn (x0 : D) : F_impl_numbersIn [x0] =
  ((mkArr 1 []).bind fun a => callK (fFieldsFunc 164 isSep [x0, D.clo 164 []]) fun rs _u => (lenD false (sl rs 0)).bind fun z => (loopC (fun s => (bin BinOp.lss false [] (sl s 3) (sl s 2)).bind fun z => ifD z
 ((Option.map D.ptr (elemD 1 (sl s 1) (sl s 3))).bind fun z => ((ldD false 1 z).bind chkV).bind fun z => callK (fAtoi [z]) fun rs _u => (tupAt (D.tup rs) 0).bind fun z => (tupAt (D.tup rs) 1).bind fun z_1 =>
 (binI true BinOp.neq z_1 (D.v Value.nilIface)).bind fun z_2 => ifD z_2 ((mkArr 1 []).bind fun a => some (Out.ret [a] [])) ((mkArr 1 [z]).bind fun a => (chkA a).bind fun b => (appD 1 8 (sl s 0) b).bind fun y =>
 (bin BinOp.add false [] (sl s 3) (D.v (Value.int IntKind.i64 1))).bind fun z => some (Out.nrm [y, sl s 1, sl s 2, z]))) (some (Out.ext 0 [sl s 0]))) [a, sl rs 0, z, D.v (Value.int IntKind.i64 0)]).bind
 fun o => outK o (fun i s => ifN (i.beq 0) (some (Out.ret [sl s 0] [])) none) fun a b => some (Out.ret a b)) := by kernel_rfl
theorem t_impl_ParseMargins (x0 : D) : F_impl_ParseMargins [x0] =
  (callK (F_impl_numbersIn [x0]) fun rs _u => (lenD false (sl rs 0)).bind fun z => (bin BinOp.neq false [] z (D.v (Value.int IntKind.i64 4))).bind fun z => ifD z ((bldD []
 [D.v (Value.int IntKind.i64 0), D.v (Value.int IntKind.i64 0), D.v (Value.int IntKind.i64 0), D.v (Value.int IntKind.i64 0)] []).bind fun z => (stD 4 (D.agg
 [D.v (Value.int IntKind.i64 0), D.v (Value.int IntKind.i64 0), D.v (Value.int IntKind.i64 0), D.v (Value.int IntKind.i64 0)]) (D.ref 0 0) z).bind
 fun b => (fldD true 4 0 b).bind fun y => some (Out.ret [y, D.v (Value.bool false)] [])) ((Option.map D.ptr (elemD 1 (sl rs 0) (D.v (Value.int IntKind.i64 0)))).bind fun z => ((ldD false 1 z).bind chkV).bind fun z =>
 (Option.map D.ptr (elemD 1 (sl rs 0) (D.v (Value.int IntKind.i64 1)))).bind fun z_1 => ((ldD false 1 z_1).bind chkV).bind fun z_2 => (Option.map D.ptr (elemD 1 (sl rs 0) (D.v (Value.int IntKind.i64 2)))).bind fun z_3 =>
 ((ldD false 1 z_3).bind chkV).bind fun z_4 => (Option.map D.ptr (elemD 1 (sl rs 0) (D.v (Value.int IntKind.i64 3)))).bind fun z_5 => ((ldD false 1 z_5).bind chkV).bind fun z_6 => (bldD [(0, 1), (1, 1), (2, 1), (3, 1)]
 [D.v (Value.int IntKind.i64 0), D.v (Value.int IntKind.i64 0), D.v (Value.int IntKind.i64 0), D.v (Value.int IntKind.i64 0)] [z, z_2, z_4, z_6]).bind fun z => (stD 4 (D.agg
 [D.v (Value.int IntKind.i64 0), D.v (Value.int IntKind.i64 0), D.v (Value.int IntKind.i64 0), D.v (Value.int IntKind.i64 0)]) (D.ref 0 0) z).bind fun b => (fldD true 4 0 b).bind fun z =>
 callK (F_impl_areMargins [z]) fun rs _u => (un UnOp.not (sl rs 0)).bind fun z => (gate (D.tup []) z false (fldD true 4 0 b)).bind fun z_7 => gateC z false
 (callK (F_impl_marginsText [z_7]) fun rs _u => some (Out.nrm [sl rs 0])) [D.tup []] fun outs => (gate (D.tup []) z false (some x0)).bind fun z_8 => (gate (D.tup []) z false (bin BinOp.neq false [] (sl outs 0) z_8)).bind
 fun z_9 => (pickD z (D.v (Value.bool true)) z_9).bind fun z => ifD z ((bldD [] [D.v (Value.int IntKind.i64 0), D.v (Value.int IntKind.i64 0), D.v (Value.int IntKind.i64 0), D.v (Value.int IntKind.i64 0)] []).bind fun z =>
 (stD 4 (D.agg [D.v (Value.int IntKind.i64 0), D.v (Value.int IntKind.i64 0), D.v (Value.int IntKind.i64 0), D.v (Value.int IntKind.i64 0)]) (D.ref 0 0) z).bind fun b => (fldD true 4 0 b).bind fun y =>
 some (Out.ret [y, D.v (Value.bool false)] [])) ((fldD true 4 0 b).bind fun z => (stD 4 (D.agg [D.v (Value.int IntKind.i64 0), D.v (Value.int IntKind.i64 0), D.v (Value.int IntKind.i64 0), D.v (Value.int IntKind.i64 0)])
 (D.ref 0 0) z).bind fun b => (fldD true 4 0 b).bind fun y => some (Out.ret [y, D.v (Value.bool true)] [])))) := by kernel_rfl
theorem t_spec_l1Split (x0 x1 : D) : F_spec_l1Split [x0, x1] =
  ((loopC (fun s => (lenD true (sl s 0)).bind fun z => (bin BinOp.lss false [] (sl s 4) z).bind fun z => ifD z ((charD (sl s 0) (sl s 4)).bind fun z => (bin BinOp.eql false [] z (sl s 1)).bind fun z => ifD z
 ((sliceD true 0 (sl s 0) (sl s 3) (sl s 4)).bind fun z => (mkArr 1 [z]).bind fun a => (chkA a).bind fun b => (appD 1 16 (sl s 2) b).bind fun y =>
 (bin BinOp.add false [] (sl s 4) (D.v (Value.int IntKind.i64 1))).bind fun z => (bin BinOp.add false [] (sl s 4) (D.v (Value.int IntKind.i64 1))).bind fun z_1 => some (Out.nrm [sl s 0, sl s 1, y, z, z_1]))
 ((bin BinOp.add false [] (sl s 4) (D.v (Value.int IntKind.i64 1))).bind fun z => some (Out.nrm [sl s 0, sl s 1, sl s 2, sl s 3, z]))) (some (Out.ext 0 [sl s 0, sl s 2, sl s 3])))
 [x0, x1, D.arr 1 [], D.v (Value.int IntKind.i64 0), D.v (Value.int IntKind.i64 0)]).bind fun o => outK o (fun i s => ifN (i.beq 0) ((sliceHi true 0 (sl s 0) (sl s 2)).bind fun z => (mkArr 1 [z]).bind fun a =>
 (chkA a).bind fun b => (appD 1 16 (sl s 1) b).bind fun y => some (Out.ret [y] [])) none) fun a b => some (Out.ret a b)) := by kernel_rfl
theorem t_spec_l1Read (x0 : D) : F_spec_l1Read [x0] =
  ((lenD true x0).bind fun z => callK (F_spec_l1In [z, D.v (Value.int IntKind.i64 1), D.v (Value.int IntKind.i64 6)]) fun rs _u => (un UnOp.not (sl rs 0)).bind fun z => (gate (D.tup []) z false (some x0)).bind fun z_1 =>
 (gate (D.tup []) z false (charD z_1 (D.v (Value.int IntKind.i64 0)))).bind fun z_2 => (gate (D.tup []) z false (bin BinOp.eql false [] z_2 (D.v (Value.int IntKind.u8 48)))).bind fun z_3 =>
 (gate (D.tup []) z false (some z_3)).bind fun z_4 => (gate (D.tup []) z_4 true (some x0)).bind fun z_5 => (gate (D.tup []) z_4 true (lenD true z_5)).bind fun z_6 =>
 (gate (D.tup []) z_4 true (bin BinOp.gtr false [] z_6 (D.v (Value.int IntKind.i64 1)))).bind fun z_7 => (gate (D.tup []) z false (pickD z_4 z_7 (D.v (Value.bool false)))).bind fun z_8 =>
 (pickD z (D.v (Value.bool true)) z_8).bind fun z => ifD z (some (Out.ret [D.v (Value.int IntKind.i64 (-1))] [])) ((loopC (fun s => (lenD true (sl s 0)).bind fun z => (bin BinOp.lss false [] (sl s 2) z).bind fun z => ifD z
 ((charD (sl s 0) (sl s 2)).bind fun z => (bin BinOp.lss false [] z (D.v (Value.int IntKind.u8 48))).bind fun z => (gate (D.tup []) z false (some (sl s 0))).bind fun z_9 =>
 (gate (D.tup []) z false (some (sl s 2))).bind fun z_10 => (gate (D.tup []) z false (charD z_9 z_10)).bind fun z_11 => (gate (D.tup []) z false (bin BinOp.gtr false [] z_11 (D.v (Value.int IntKind.u8 57)))).bind
 fun z_12 => (pickD z (D.v (Value.bool true)) z_12).bind fun z => ifD z (some (Out.ret [D.v (Value.int IntKind.i64 (-1))] [])) ((bin BinOp.mul false [] (D.v (Value.int IntKind.i64 10)) (sl s 1)).bind fun z =>
 (charD (sl s 0) (sl s 2)).bind fun z_13 => (bin BinOp.sub false [] z_13 (D.v (Value.int IntKind.u8 48))).bind fun z_14 => (convD (some IntKind.i64) false z_14).bind fun z_15 =>
 (bin BinOp.add false [] z z_15).bind fun z => (bin BinOp.add false [] (sl s 2) (D.v (Value.int IntKind.i64 1))).bind fun z_16 => some (Out.nrm [sl s 0, z, z_16]))) (some (Out.ext 0 [sl s 1])))
 [x0, D.v (Value.int IntKind.i64 0), D.v (Value.int IntKind.i64 0)]).bind fun o => outK o (fun i s => ifN (i.beq 0) (some (Out.ret [sl s 0] [])) none) fun a b => some (Out.ret a b))) := by kernel_rfl
theorem t_spec_ParseMargins (x0 : D) : F_spec_ParseMargins [x0] =
  (callK (F_spec_l1Split [x0, D.v (Value.int IntKind.u8 47)]) fun rs _u => (lenD false (sl rs 0)).bind fun z => (bin BinOp.neq false [] z (D.v (Value.int IntKind.i64 4))).bind fun z => ifD z ((bldD []
 [D.v (Value.int IntKind.i64 0), D.v (Value.int IntKind.i64 0), D.v (Value.int IntKind.i64 0), D.v (Value.int IntKind.i64 0)] []).bind fun z => (stD 4 (D.agg
 [D.v (Value.int IntKind.i64 0), D.v (Value.int IntKind.i64 0), D.v (Value.int IntKind.i64 0), D.v (Value.int IntKind.i64 0)]) (D.ref 0 0) z).bind
 fun b => (fldD true 4 0 b).bind fun y => some (Out.ret [y, D.v (Value.bool false)] [])) ((Option.map D.ptr (elemD 1 (sl rs 0) (D.v (Value.int IntKind.i64 0)))).bind fun z => ((ldD false 1 z).bind chkV).bind fun z =>
 callK (F_spec_l1Read [z]) fun rs_1 _u => (Option.map D.ptr (elemD 1 (sl rs 0) (D.v (Value.int IntKind.i64 1)))).bind fun z => ((ldD false 1 z).bind chkV).bind fun z => callK (F_spec_l1Read [z]) fun rs_2 _u =>
 (Option.map D.ptr (elemD 1 (sl rs 0) (D.v (Value.int IntKind.i64 2)))).bind fun z => ((ldD false 1 z).bind chkV).bind fun z => callK (F_spec_l1Read [z]) fun rs_3 _u =>
 (Option.map D.ptr (elemD 1 (sl rs 0) (D.v (Value.int IntKind.i64 3)))).bind fun z => ((ldD false 1 z).bind chkV).bind fun z => callK (F_spec_l1Read [z]) fun rs _u => (bldD [(0, 1), (1, 1), (2, 1), (3, 1)]
 [D.v (Value.int IntKind.i64 0), D.v (Value.int IntKind.i64 0), D.v (Value.int IntKind.i64 0), D.v (Value.int IntKind.i64 0)] [sl rs_1 0, sl rs_2 0, sl rs_3 0, sl rs 0]).bind fun z => (stD 4 (D.agg
 [D.v (Value.int IntKind.i64 0), D.v (Value.int IntKind.i64 0), D.v (Value.int IntKind.i64 0), D.v (Value.int IntKind.i64 0)]) (D.ref 0 0) z).bind fun b => (fldD true 4 0 b).bind fun z =>
 callK (F_spec_mgGood [z]) fun rs _u => (un UnOp.not (sl rs 0)).bind fun z => ifD z ((bldD [] [D.v (Value.int IntKind.i64 0), D.v (Value.int IntKind.i64 0), D.v (Value.int IntKind.i64 0), D.v (Value.int IntKind.i64 0)]
 []).bind fun z => (stD 4 (D.agg [D.v (Value.int IntKind.i64 0), D.v (Value.int IntKind.i64 0), D.v (Value.int IntKind.i64 0), D.v (Value.int IntKind.i64 0)]) (D.ref 0 0) z).bind fun b => (fldD true 4 0 b).bind fun y =>
 some (Out.ret [y, D.v (Value.bool false)] [])) ((fldD true 4 0 b).bind fun z => (stD 4 (D.agg [D.v (Value.int IntKind.i64 0), D.v (Value.int IntKind.i64 0), D.v (Value.int IntKind.i64 0), D.v (Value.int IntKind.i64 0)])
 (D.ref 0 0) z).bind fun b => (fldD true 4 0 b).bind fun y => some (Out.ret [y, D.v (Value.bool true)] [])))) := by kernel_rfl
theorem t_laws_FnLayouts (x0 x1 : D) : F_laws_FnLayouts [x0, x1] =
  (callK (F_laws_big [x0, x1]) fun rs _u => ifD (sl rs 0) (some (Out.ret [D.v (Value.bool true)] [])) (callK (F_spec_DrawShiftMargins [x0]) fun rs _u => (tupAt (D.tup rs) 0).bind fun z => (tupAt (D.tup rs) 1).bind fun z_1 =>
 (tupAt (D.tup rs) 2).bind fun z_2 => (tupAt (D.tup rs) 3).bind fun z_3 => (tupAt (D.tup rs) 4).bind fun z_4 => (stD 4 (D.agg [D.v (Value.int IntKind.i64 0), D.v (Value.int IntKind.i64 0), D.v (Value.int IntKind.i64 0),
 D.v (Value.int IntKind.i64 0)]) (D.ref 0 0) z_2).bind fun b => (fldD true 4 0 b).bind fun z_5 => callK (F_impl_ShiftMargins [z, z_1, z_5, z_3, z_4]) fun rs _u => (tupAt (D.tup rs) 0).bind fun z_6 =>
 (tupAt (D.tup rs) 1).bind fun z_7 => (stD 4 (D.agg [D.v (Value.int IntKind.i64 0), D.v (Value.int IntKind.i64 0), D.v (Value.int IntKind.i64 0), D.v (Value.int IntKind.i64 0)]) (D.ref 0 0) z_6).bind fun b_1 =>
 (fldD true 4 0 b).bind fun z_8 => callK (F_spec_ShiftMargins [z, z_1, z_8, z_3, z_4]) fun rs _u => (tupAt (D.tup rs) 0).bind fun z_9 => (tupAt (D.tup rs) 1).bind fun z_10 => (stD 4 (D.agg
 [D.v (Value.int IntKind.i64 0), D.v (Value.int IntKind.i64 0), D.v (Value.int IntKind.i64 0), D.v (Value.int IntKind.i64 0)]) (D.ref 0 0) z_9).bind fun b_2 => (fldD true 4 0 b).bind fun z_11 =>
 callK (F_impl_TypeArea [z, z_1, z_11]) fun rs _u => (tupAt (D.tup rs) 0).bind fun z_12 => (tupAt (D.tup rs) 1).bind fun z_13 => (tupAt (D.tup rs) 2).bind fun z_14 => (fldD true 4 0 b).bind fun z_15 =>
 callK (F_spec_TypeArea [z, z_1, z_15]) fun rs _u => (tupAt (D.tup rs) 0).bind fun z_16 => (tupAt (D.tup rs) 1).bind fun z_17 => (tupAt (D.tup rs) 2).bind fun z_18 => (bin BinOp.neq true [] z_7 z_10).bind fun z_19 =>
 (gate (D.tup []) z_19 false (fldD true 4 0 b_1)).bind fun z_20 => (gate (D.tup []) z_19 false (fldD true 4 0 b_2)).bind fun z_21 => (gate (D.tup []) z_19 false (bin BinOp.neq false [1, 1, 1, 1] z_20 z_21)).bind
 fun z_22 => (pickD z_19 (D.v (Value.bool true)) z_22).bind fun z_23 => (gate (D.tup []) z_23 false (some z_14)).bind fun z_24 => (gate (D.tup []) z_23 false (some z_18)).bind fun z_25 => (gate (D.tup []) z_23 false
 (bin BinOp.neq true [] z_24 z_25)).bind fun z_26 => (pickD z_23 (D.v (Value.bool true)) z_26).bind fun z_27 => (gate (D.tup []) z_27 false (some z_12)).bind fun z_28 => (gate (D.tup []) z_27 false (some z_16)).bind
 fun z_29 => (gate (D.tup []) z_27 false (bin BinOp.neq false [] z_28 z_29)).bind fun z_30 => (pickD z_27 (D.v (Value.bool true)) z_30).bind fun z_31 => (gate (D.tup []) z_31 false (some z_13)).bind fun z_32 =>
 (gate (D.tup []) z_31 false (some z_17)).bind fun z_33 => (gate (D.tup []) z_31 false (bin BinOp.neq false [] z_32 z_33)).bind fun z_34 => (pickD z_31 (D.v (Value.bool true)) z_34).bind fun z_35 => (gate (D.tup []) z_35
 false (some z_14)).bind fun z_36 => (gate (D.tup []) z_35 false (some z)).bind fun z_37 => (gate (D.tup []) z_35 false (some z_1)).bind fun z_38 => (gate (D.tup []) z_35 false (fldD true 4 0 b)).bind fun z_39 =>
 gateC z_35 false (callK (F_impl_IsLayout [z_37, z_38, z_39]) fun rs _u => some (Out.nrm [sl rs 0])) [D.tup []] fun outs => (gate (D.tup []) z_35 false (bin BinOp.neq true [] z_36 (sl outs 0))).bind fun z_40 => (pickD z_35
 (D.v (Value.bool true)) z_40).bind fun z_41 => (gate (D.tup []) z_41 false (some z_7)).bind fun z_42 => (gate (D.tup []) z_41 false (some z_42)).bind fun z_43 => (gate (D.tup []) z_43 true (some z_14)).bind fun z_44 =>
 (gate (D.tup []) z_43 true (un UnOp.not z_44)).bind fun z_45 => (gate (D.tup []) z_41 false (pickD z_43 z_45 (D.v (Value.bool false)))).bind fun z_46 => (pickD z_41 (D.v (Value.bool true)) z_46).bind fun z_47 => ifD z_47
 (some (Out.ret [D.v (Value.bool false)] [])) ((gate (D.tup []) z_14 true (some z_16)).bind fun z_48 => (gate D.bad z_14 true (liveD b (D.ref 0 1))).bind fun z_49 => (gate (D.tup []) z_14 true ((atD b z_49).bind (takeD
 false 1))).bind fun z_50 => (gate (D.tup []) z_14 true (bin BinOp.add false [] z_48 z_50)).bind fun z_51 => (gate D.bad z_14 true (liveD b (D.ref 0 2))).bind fun z_52 => (gate (D.tup []) z_14 true ((atD b z_52).bind
 (takeD false 1))).bind fun z_53 => (gate (D.tup []) z_14 true (bin BinOp.add false [] z_51 z_53)).bind fun z_54 => (gate (D.tup []) z_14 true (some z)).bind fun z_55 => (gate (D.tup []) z_14 true (bin BinOp.neq false []
 z_54 z_55)).bind fun z_56 => (gate (D.tup []) z_14 true (some z_56)).bind fun z_57 => (gate (D.tup []) z_57 false (some z_17)).bind fun z_58 => (gate D.bad z_57 false (liveD b (D.ref 0 0))).bind fun z_59 => (gate (D.tup
 []) z_57 false ((atD b z_59).bind (takeD false 1))).bind fun z_60 => (gate (D.tup []) z_57 false (bin BinOp.add false [] z_58 z_60)).bind fun z_61 => (gate D.bad z_57 false (liveD b (D.ref 0 3))).bind fun z_62 => (gate
 (D.tup []) z_57 false ((atD b z_62).bind (takeD false 1))).bind fun z_63 => (gate (D.tup []) z_57 false (bin BinOp.add false [] z_61 z_63)).bind fun z_64 => (gate (D.tup []) z_57 false (some z_1)).bind fun z_65 => (gate
 (D.tup []) z_57 false (bin BinOp.neq false [] z_64 z_65)).bind fun z_66 => (gate (D.tup []) z_14 true (pickD z_57 (D.v (Value.bool true)) z_66)).bind fun z_67 => (gate (D.tup []) z_14 true (some z_67)).bind fun z_68 =>
 (gate (D.tup []) z_68 false (some z_16)).bind fun z_69 => (gate (D.tup []) z_68 false (bin BinOp.lss false [] z_69 (D.v (Value.int IntKind.i64 30)))).bind fun z_70 => (gate (D.tup []) z_14 true (pickD z_68 (D.v
 (Value.bool true)) z_70)).bind fun z_71 => (gate (D.tup []) z_14 true (some z_71)).bind fun z_72 => (gate (D.tup []) z_72 false (some z_17)).bind fun z_73 => (gate (D.tup []) z_72 false (bin BinOp.lss false [] z_73 (D.v
 (Value.int IntKind.i64 30)))).bind fun z_74 => (gate (D.tup []) z_14 true (pickD z_72 (D.v (Value.bool true)) z_74)).bind fun z_75 => (pickD z_14 z_75 (D.v (Value.bool false))).bind fun z_76 => ifD z_76 (some (Out.ret
 [D.v (Value.bool false)] [])) (joinC (fun j => ifD z_7 ((fldD true 4 0 b_1).bind fun z_77 => (un UnOp.neg z_3).bind fun z_78 => (un UnOp.neg z_4).bind fun z_79 => callK (F_impl_ShiftMargins [z, z_1, z_77, z_78, z_79]) fun
 rs _u => (tupAt (D.tup rs) 0).bind fun z_80 => (tupAt (D.tup rs) 1).bind fun z_81 => (stD 4 (D.agg [D.v (Value.int IntKind.i64 0), D.v (Value.int IntKind.i64 0), D.v (Value.int IntKind.i64 0), D.v (Value.int IntKind.i64
 0)]) (D.ref 0 0) z_80).bind fun b_3 => (fldD true 4 0 b_1).bind fun z_82 => callK (F_impl_TypeArea [z, z_1, z_82]) fun rs _u => (tupAt (D.tup rs) 0).bind fun z => (tupAt (D.tup rs) 1).bind fun z_83 => (tupAt (D.tup rs)
 2).bind fun z_84 => (un UnOp.not z_81).bind fun z_85 => (gate (D.tup []) z_85 false (fldD true 4 0 b_3)).bind fun z_86 => (gate (D.tup []) z_85 false (fldD true 4 0 b)).bind fun z_87 => (gate (D.tup []) z_85 false (bin
 BinOp.neq false [1, 1, 1, 1] z_86 z_87)).bind fun z_88 => (pickD z_85 (D.v (Value.bool true)) z_88).bind fun z_89 => (gate (D.tup []) z_89 false (some z_84)).bind fun z_90 => (gate (D.tup []) z_89 false (un UnOp.not
 z_90)).bind fun z_91 => (pickD z_89 (D.v (Value.bool true)) z_91).bind fun z_92 => (gate (D.tup []) z_92 false (some z)).bind fun z => (gate (D.tup []) z_92 false (some z_16)).bind fun z_93 => (gate (D.tup []) z_92 false
 (bin BinOp.neq false [] z z_93)).bind fun z => (pickD z_92 (D.v (Value.bool true)) z).bind fun z => (gate (D.tup []) z false (some z_83)).bind fun z_94 => (gate (D.tup []) z false (some z_17)).bind fun z_95 => (gate
 (D.tup []) z false (bin BinOp.neq false [] z_94 z_95)).bind fun z_96 => (pickD z (D.v (Value.bool true)) z_96).bind fun z => ifD z (some (Out.ret [D.v (Value.bool false)] [])) (j [x1, b])) (j [x1, b])) fun s => callK
 (F_spec_DrawMarginsByRule [sl s 0]) fun rs _u => (tupAt (D.tup rs) 0).bind fun z => (tupAt (D.tup rs) 1).bind fun z_77 => (tupAt (D.tup rs) 2).bind fun z_78 => callK (F_impl_MarginsByRule [z, z_77, z_78]) fun rs _u =>
 (tupAt (D.tup rs) 0).bind fun z_79 => (tupAt (D.tup rs) 1).bind fun z_80 => (stD 4 (D.agg [D.v (Value.int IntKind.i64 0), D.v (Value.int IntKind.i64 0), D.v (Value.int IntKind.i64 0), D.v (Value.int IntKind.i64 0)])
 (D.ref 0 0) z_79).bind fun b => callK (F_spec_MarginsByRule [z, z_77, z_78]) fun rs _u => (tupAt (D.tup rs) 0).bind fun z_81 => (tupAt (D.tup rs) 1).bind fun z_82 => (stD 4 (D.agg [D.v (Value.int IntKind.i64 0), D.v
 (Value.int IntKind.i64 0), D.v (Value.int IntKind.i64 0), D.v (Value.int IntKind.i64 0)]) (D.ref 0 0) z_81).bind fun b_3 => (bin BinOp.neq true [] z_80 z_82).bind fun z_83 => (gate (D.tup []) z_83 false (fldD true 4 0
 b)).bind fun z_84 => (gate (D.tup []) z_83 false (fldD true 4 0 b_3)).bind fun z_85 => (gate (D.tup []) z_83 false (bin BinOp.neq false [1, 1, 1, 1] z_84 z_85)).bind fun z_86 => (pickD z_83 (D.v (Value.bool true))
 z_86).bind fun z_87 => ifD z_87 (some (Out.ret [D.v (Value.bool false)] [])) (joinC (fun j => ifD z_80 ((fldD true 4 0 b).bind fun z_88 => callK (F_impl_TypeArea [z, z_77, z_88]) fun rs _u => (tupAt (D.tup rs) 0).bind fun
 z => (tupAt (D.tup rs) 1).bind fun _u => (tupAt (D.tup rs) 2).bind fun z_89 => (un UnOp.not z_89).bind fun z_90 => (gate (D.tup []) z_90 false (some z)).bind fun z => (gate (D.tup []) z_90 false (some z_78)).bind fun
 z_91 => (gate (D.tup []) z_90 false (bin BinOp.neq false [] z z_91)).bind fun z => (pickD z_90 (D.v (Value.bool true)) z).bind fun z => (gate D.bad z false (liveD b_3 (D.ref 0 2))).bind fun z_92 => (gate (D.tup []) z
 false ((atD b_3 z_92).bind (takeD false 1))).bind fun z_93 => (gate D.bad z false (liveD b_3 (D.ref 0 1))).bind fun z_94 => (gate (D.tup []) z false ((atD b_3 z_94).bind (takeD false 1))).bind fun z_95 => (gate (D.tup [])
 z false (bin BinOp.mul false [] (D.v (Value.int IntKind.i64 2)) z_95)).bind fun z_96 => (gate (D.tup []) z false (bin BinOp.lss false [] z_93 z_96)).bind fun z_97 => (pickD z (D.v (Value.bool true)) z_97).bind fun z =>
 (gate D.bad z false (liveD b_3 (D.ref 0 3))).bind fun z_98 => (gate (D.tup []) z false ((atD b_3 z_98).bind (takeD false 1))).bind fun z_99 => (gate D.bad z false (liveD b_3 (D.ref 0 0))).bind fun z_100 => (gate (D.tup
 []) z false ((atD b_3 z_100).bind (takeD false 1))).bind fun z_101 => (gate (D.tup []) z false (bin BinOp.mul false [] (D.v (Value.int IntKind.i64 2)) z_101)).bind fun z_102 => (gate (D.tup []) z false (bin BinOp.lss
 false [] z_99 z_102)).bind fun z_103 => (pickD z (D.v (Value.bool true)) z_103).bind fun z => ifD z (some (Out.ret [D.v (Value.bool false)] [])) (j [sl s 0, sl s 1])) (j [sl s 0, sl s 1])) fun s => callK
 (F_spec_DrawPlaceOfType [sl s 0]) fun rs _u => (tupAt (D.tup rs) 0).bind fun z => (tupAt (D.tup rs) 1).bind fun z_88 => (tupAt (D.tup rs) 2).bind fun z_89 => (tupAt (D.tup rs) 3).bind fun z_90 => (stD 4 (D.agg [D.v
 (Value.int IntKind.i64 0), D.v (Value.int IntKind.i64 0), D.v (Value.int IntKind.i64 0), D.v (Value.int IntKind.i64 0)]) (D.ref 0 0) z_89).bind fun b => (fldD true 4 0 b).bind fun z_91 => callK (F_impl_PlaceOfType [z,
 z_88, z_91, z_90]) fun rs _u => (tupAt (D.tup rs) 0).bind fun z_92 => (tupAt (D.tup rs) 1).bind fun z_93 => (tupAt (D.tup rs) 2).bind fun z_94 => (fldD true 4 0 b).bind fun z_95 => callK (F_spec_PlaceOfType [z, z_88,
 z_95, z_90]) fun rs _u => (tupAt (D.tup rs) 0).bind fun z => (tupAt (D.tup rs) 1).bind fun z_96 => (tupAt (D.tup rs) 2).bind fun z_97 => (bin BinOp.neq true [] z_94 z_97).bind fun z_98 => (gate (D.tup []) z_98 false (some
 z_92)).bind fun z_99 => (gate (D.tup []) z_98 false (some z)).bind fun z_100 => (gate (D.tup []) z_98 false (bin BinOp.neq false [] z_99 z_100)).bind fun z_101 => (pickD z_98 (D.v (Value.bool true)) z_101).bind fun
 z_102 => (gate (D.tup []) z_102 false (some z_93)).bind fun z_103 => (gate (D.tup []) z_102 false (some z_96)).bind fun z_104 => (gate (D.tup []) z_102 false (bin BinOp.neq false [] z_103 z_104)).bind fun z_105 => (pickD
 z_102 (D.v (Value.bool true)) z_105).bind fun z_106 => (gate (D.tup []) z_106 false (some z_94)).bind fun z_107 => (gate (D.tup []) z_106 false (some z_107)).bind fun z_108 => (gate (D.tup []) z_108 true (some z_96)).bind
 fun z_109 => (gate D.bad z_108 true (liveD b (D.ref 0 0))).bind fun z_110 => (gate (D.tup []) z_108 true ((atD b z_110).bind (takeD false 1))).bind fun z_111 => (gate (D.tup []) z_108 true (bin BinOp.neq false [] z_109
 z_111)).bind fun z_112 => (gate (D.tup []) z_108 true (some z_112)).bind fun z_113 => (gate (D.tup []) z_113 false (some z)).bind fun z_114 => (gate D.bad z_113 false (liveD b (D.ref 0 1))).bind fun z_115 => (gate (D.tup
 []) z_113 false ((atD b z_115).bind (takeD false 1))).bind fun z_116 => (gate (D.tup []) z_113 false (bin BinOp.neq false [] z_114 z_116)).bind fun z_117 => (gate (D.tup []) z_113 false (some z_117)).bind fun z_118 =>
 (gate (D.tup []) z_118 true (some z)).bind fun z => (gate D.bad z_118 true (liveD b (D.ref 0 2))).bind fun z_119 => (gate (D.tup []) z_118 true ((atD b z_119).bind (takeD false 1))).bind fun z_120 => (gate (D.tup [])
 z_118 true (bin BinOp.neq false [] z z_120)).bind fun z => (gate (D.tup []) z_113 false (pickD z_118 z (D.v (Value.bool false)))).bind fun z => (gate (D.tup []) z_108 true (pickD z_113 (D.v (Value.bool true)) z)).bind fun
 z => (gate (D.tup []) z_106 false (pickD z_108 z (D.v (Value.bool false)))).bind fun z => (pickD z_106 (D.v (Value.bool true)) z).bind fun z => ifD z (some (Out.ret [D.v (Value.bool false)] [])) ((fldD true 4 0 (sl s
 1)).bind fun z => callK (F_impl_MarginsText [z]) fun rs _u => (tupAt (D.tup rs) 0).bind fun z => (tupAt (D.tup rs) 1).bind fun z_121 => (fldD true 4 0 (sl s 1)).bind fun z_122 => callK (F_spec_MarginsText [z_122]) fun rs
 _u => (tupAt (D.tup rs) 0).bind fun z_123 => (tupAt (D.tup rs) 1).bind fun z_124 => callK (F_spec_DrawParseMargins [sl s 0]) fun rs _u => callK (F_impl_ParseMargins [sl rs 0]) fun rs_1 _u => (tupAt (D.tup rs_1) 0).bind
 fun z_125 => (tupAt (D.tup rs_1) 1).bind fun z_126 => (stD 4 (D.agg [D.v (Value.int IntKind.i64 0), D.v (Value.int IntKind.i64 0), D.v (Value.int IntKind.i64 0), D.v (Value.int IntKind.i64 0)]) (D.ref 0 0) z_125).bind fun
 b => callK (F_spec_ParseMargins [sl rs 0]) fun rs _u => (tupAt (D.tup rs) 0).bind fun z_127 => (tupAt (D.tup rs) 1).bind fun z_128 => (stD 4 (D.agg [D.v (Value.int IntKind.i64 0), D.v (Value.int IntKind.i64 0), D.v
 (Value.int IntKind.i64 0), D.v (Value.int IntKind.i64 0)]) (D.ref 0 0) z_127).bind fun b_4 => (bin BinOp.neq true [] z_121 z_124).bind fun z_129 => (gate (D.tup []) z_129 false (some z)).bind fun z_130 => (gate (D.tup [])
 z_129 false (some z_123)).bind fun z_131 => (gate (D.tup []) z_129 false (bin BinOp.neq false [] z_130 z_131)).bind fun z_132 => (pickD z_129 (D.v (Value.bool true)) z_132).bind fun z_133 => (gate (D.tup []) z_133 false
 (some z_126)).bind fun z_134 => (gate (D.tup []) z_133 false (some z_128)).bind fun z_135 => (gate (D.tup []) z_133 false (bin BinOp.neq true [] z_134 z_135)).bind fun z_136 => (pickD z_133 (D.v (Value.bool true))
 z_136).bind fun z_137 => (gate (D.tup []) z_137 false (fldD true 4 0 b)).bind fun z_138 => (gate (D.tup []) z_137 false (fldD true 4 0 b_4)).bind fun z_139 => (gate (D.tup []) z_137 false (bin BinOp.neq false [1, 1, 1, 1]
 z_138 z_139)).bind fun z_140 => (pickD z_137 (D.v (Value.bool true)) z_140).bind fun z_141 => ifD z_141 (some (Out.ret [D.v (Value.bool false)] [])) (ifD z_121 (callK (F_impl_ParseMargins [z]) fun rs _u => (tupAt (D.tup
 rs) 0).bind fun z => (tupAt (D.tup rs) 1).bind fun z_142 => (stD 4 (D.agg [D.v (Value.int IntKind.i64 0), D.v (Value.int IntKind.i64 0), D.v (Value.int IntKind.i64 0), D.v (Value.int IntKind.i64 0)]) (D.ref 0 0) z).bind
 fun b => (gate (D.tup []) z_142 true (fldD true 4 0 b)).bind fun z => (gate (D.tup []) z_142 true (fldD true 4 0 (sl s 1))).bind fun z_143 => (gate (D.tup []) z_142 true (bin BinOp.eql false [1, 1, 1, 1] z z_143)).bind
 fun z => (pickD z_142 z (D.v (Value.bool false))).bind fun z => some (Out.ret [z] [])) (some (Out.ret [D.v (Value.bool true)] []))))))))) := by kernel_rfl
end Go.Proofs.YtdgenchlghojlaaDoor
/-
  Numbers as texts; the text of an order.
-/
namespace Go.Proofs.YtdgenchlghojlaaDoor
open Go Go.V
set_option linter.unusedSimpArgs false

theorem e_spec_l1In (a b c : Int) : F_spec_l1In [I a, I b, I c] = some (.ret [B (decide (b ≤ a ∧ a ≤ c))] []) := by
  rw [t_spec_l1In]
  by_cases h : b ≤ a <;> simp [h]
theorem e_impl_within (a b c : Int) : F_impl_within [I a, I b, I c] = some (.ret [B (decide (b ≤ a ∧ a ≤ c))] []) := by
  rw [t_impl_within]
  by_cases h : b ≤ a <;> simp [h]

/-! ### numbers -/
/-- The decimal numeral. -/
def numT (u : Nat) : ByteArray := ⟨(Lib.decDigits u).toArray⟩
def intT (n : Int) : ByteArray := ⟨(Lib.itoa n).toArray⟩
theorem intT_nat (u : Nat) : intT (u : Int) = numT u := by
  unfold intT numT
  rw [Lib.itoa_nonneg]
theorem numT_small {u : Nat} (h : u < 10) : numT u = ⟨#[UInt8.ofNat (48 + u)]⟩ := by
  unfold numT
  rw [Lib.decDigits_one h]
theorem numT_big {u : Nat} (h : ¬ u < 10) : numT u = numT (u / 10) ++ ⟨#[UInt8.ofNat (48 + u % 10)]⟩ := by
  unfold numT
  rw [Lib.decDigits, dif_neg h]
  apply ByteArray.ext
  simp
theorem numT_size : ∀ (k u : Nat), u < 10 ^ (k + 1) → (numT u).size ≤ k + 1
  | 0, u, h => by
    rw [numT_small (by simpa using h)]
    exact Nat.le_refl _
  | k + 1, u, h => by
    by_cases hu : u < 10
    · rw [numT_small hu]
      show 1 ≤ k + 1 + 1
      omega
    · rw [numT_big hu, ByteArray.size_append]
      have h1 := numT_size k (u / 10) (by rw [Nat.pow_succ] at h; exact Nat.div_lt_of_lt_mul (by rw [Nat.mul_comm]; exact h))
      have h2 : (⟨#[UInt8.ofNat (48 + u % 10)]⟩ : ByteArray).size = 1 := rfl
      omega
theorem intT_size (k : Nat) {n : Int} (h0 : 0 ≤ n) (h1 : n < 10 ^ (k + 1)) : (intT n).size ≤ k + 1 := by
  obtain ⟨u, rfl⟩ := Int.eq_ofNat_of_zero_le h0
  rw [intT_nat]
  exact numT_size k u (by exact_mod_cast h1)
theorem byte_of (u : Nat) (h : u < 10) : bytesOf [.v (.int .u8 (48 + (u : Int)))] = some [UInt8.ofNat (48 + u)] := by
  have e : (48 + (u : Int)).toNat = 48 + u := by omega
  simp only [bytesOf, e, Option.map_some]
theorem wrap8 (a : Int) (h0 : 0 ≤ a) (h1 : a < 256) : IntKind.u8.wrap a = a := by
  have := Int.emod_eq_of_lt h0 h1
  simpa [IntKind.wrap, IntKind.bits, IntKind.signed] using this
theorem mkArr_u8 (a : Int) : mkArr 1 [.v (.int .u8 a)] = some (.arr 1 [.v (.int .u8 a)]) := by simp [mkArr, lenOkD]

theorem num_step (k u : Nat) (hu : u < 10 ^ 18) (ih : R_spec_l1Num k [I ((u / 10 : Nat) : Int)] = none ∨ R_spec_l1Num k [I ((u / 10 : Nat) : Int)] = some (.ret [T (numT (u / 10))] [])) :
    (R_spec_l1Num (k + 1) [I (u : Int)] = none ∧ R_spec_l1Num k [I ((u / 10 : Nat) : Int)] = none ∧ ¬ u < 10) ∨ R_spec_l1Num (k + 1) [I (u : Int)] = some (.ret [T (numT u)] []) := by
  rw [t_spec_l1Num]
  by_cases h : u < 10
  · right
    have h1 : (u : Int) < 10 := by omega
    have hw : IntKind.i64.wrap (48 + (u : Int)) = 48 + (u : Int) := wrap_id (by omega) (by omega)
    have hw8 := wrap8 (48 + (u : Int)) (by omega) (by omega)
    simp only [bin_lss, h1, decide_true, Option.bind_some, ifD_B, if_true, bin_add, hw, convD, hw8, mkArr_u8, strD, byte_of u h, Option.map_some, numT_small h]
  · have h1 : ¬ (u : Int) < 10 := by omega
    have hq : IntKind.i64.wrap ((u : Int).tdiv 10) = ((u / 10 : Nat) : Int) := by
      rw [Int.tdiv_eq_ediv_of_nonneg (by omega), wrap_id (by omega) (by omega)]
      omega
    have hr : (u : Int).tmod 10 = ((u % 10 : Nat) : Int) := by
      rw [Int.tmod_eq_emod_of_nonneg (by omega)]
      omega
    have hm : u % 10 < 10 := Nat.mod_lt _ (by decide)
    have hw : IntKind.i64.wrap (48 + ((u % 10 : Nat) : Int)) = 48 + ((u % 10 : Nat) : Int) := wrap_id (by omega) (by omega)
    have hw8 := wrap8 (48 + ((u % 10 : Nat) : Int)) (by omega) (by omega)
    have hs : (numT (u / 10)).size + (⟨#[UInt8.ofNat (48 + u % 10)]⟩ : ByteArray).size ≤ 1152921504606846976 := by
      have := numT_size 17 (u / 10) (by omega)
      have h2 : (⟨#[UInt8.ofNat (48 + u % 10)]⟩ : ByteArray).size = 1 := rfl
      omega
    rcases ih with e | e
    · left
      refine ⟨?_, e, h⟩
      simp only [bin_lss, h1, decide_false, Option.bind_some, ifD_B, Bool.false_eq_true, if_false, bin_quo, show ¬ (10 : Int) = 0 by decide, hq, e, callK]
    · right
      simp only [bin_lss, h1, decide_false, Option.bind_some, ifD_B, Bool.false_eq_true, if_false, bin_quo, show ¬ (10 : Int) = 0 by decide, hq, e, callK_ret, bin_rem, hr, bin_add, hw, convD, hw8, mkArr_u8, strD,
        byte_of _ hm, Option.map_some, sl_zero, bin_addS, hs, if_true, numT_big h]
theorem num_or : ∀ (k u : Nat), u < 10 ^ 18 → R_spec_l1Num k [I (u : Int)] = none ∨ R_spec_l1Num k [I (u : Int)] = some (.ret [T (numT u)] [])
  | 0, _, _ => .inl rfl
  | k + 1, u, hu => (num_step k u hu (num_or k (u / 10) (by omega))).imp (fun h => h.1) id
theorem num_big : ∀ (k u : Nat), u < 10 ^ 18 → u < 10 ^ (k + 1) → R_spec_l1Num (k + 1) [I (u : Int)] = some (.ret [T (numT u)] [])
  | 0, u, hu, h => by
    rcases num_step 0 u hu (num_or 0 _ (by omega)) with ⟨_, _, h1⟩ | h1
    · exact absurd (by simpa using h) h1
    · exact h1
  | k + 1, u, hu, h => by
    rcases num_step (k + 1) u hu (num_or (k + 1) _ (by omega)) with ⟨_, h1, _⟩ | h1
    · rw [num_big k (u / 10) (by omega) (by rw [Nat.pow_succ] at h; exact Nat.div_lt_of_lt_mul (by rw [Nat.mul_comm]; exact h))] at h1
      cases h1
    · exact h1
theorem e_spec_l1Num {n : Int} (h0 : 0 ≤ n) (h1 : n < 1000000000000000000) : F_spec_l1Num [I n] = some (.ret [T (intT n)] []) := by
  obtain ⟨u, rfl⟩ := Int.eq_ofNat_of_zero_le h0
  have hu : u < 10 ^ 18 := by omega
  rw [intT_nat]
  refine recF_eq (fun k o ho => ?_) 18 (num_big 17 u hu hu)
  rcases num_or k u hu with e | e
  · rw [e] at ho; cases ho
  · rw [e] at ho; cases ho; rfl
theorem e_Itoa {n : Int} (h0 : -9223372036854775808 ≤ n) (h1 : n ≤ 9223372036854775807) : fItoa [I n] = some (.ret [T (intT n)] []) := by
  simp only [fItoa, h0, h1, and_self, if_true]
  rfl

/-! ### orders -/
/-- A text of few bytes. -/
theorem addS {a b : ByteArray} {bl : Bool} {eq : List Nat} (h : a.size + b.size ≤ 1152921504606846976) : bin .add bl eq (T a) (T b) = some (T (a ++ b)) := by rw [bin_addS, if_pos h]
theorem sz1 (a : UInt8) : (⟨#[a]⟩ : ByteArray).size = 1 := rfl
theorem sz4 (a b c d : UInt8) : (⟨#[a, b, c, d]⟩ : ByteArray).size = 4 := rfl
end Go.Proofs.YtdgenchlghojlaaDoor
/-
  More laws of loops; letters; cases.
-/
namespace Go.Proofs.YtdgenchlghojlaaDoor
open Go Go.V
set_option linter.unusedSimpArgs false

/-- The first place where something holds. -/
def findI {β : Type} (p : β → Bool) : Nat → List β → Option Nat
  | _, [] => none
  | i, x :: l => if p x = true then some i else findI p (i + 1) l
theorem loop_find {β : Type} {body : List D → Option Out} (l : List β) (st : Nat → List D) (p : β → Bool) (o1 : Nat → Out) (o2 : Out) (hs : ∀ (i : Nat) (hi : i < l.length), body (st i) = some (if p l[i] = true then o1 i else .nrm (st (i + 1)))) (he : body (st l.length) = some o2)
    (h1 : ∀ i, (o1 i).ends = true) (h2 : o2.ends = true) {s0 : List D} (h : s0 = st 0) : loopC body s0 = some ((findI p 0 l).elim o2 o1) := by
  have e : ∀ (m : List β) (i : Nat), goL (fun i x (_ : Unit) => if p x = true then .inr (o1 i) else .inl ()) (fun _ => o2) i m () = (findI p i m).elim o2 o1 := by
    intro m
    induction m with
    | nil => intro i; simp [goL, findI]
    | cons x m ih =>
      intro i
      simp only [goL, findI]
      by_cases hp : p x = true
      · simp [hp]
      · simp [hp, ih]
  rw [← e]
  refine loop_list l (fun i _ => st i) (fun _ _ => True) _ _ (fun i x a hx _ => ?_) (fun _ _ => ⟨he, h2⟩) () trivial h
  have hi : i < l.length := (List.getElem?_eq_some_iff.1 hx).1
  have hxe : l[i] = x := (List.getElem?_eq_some_iff.1 hx).2
  have := hs i hi
  rw [hxe] at this
  by_cases hp : p x = true
  · simpa [hp, h1] using this
  · simpa [hp] using this
/-- All is well, and something is gathered. -/
theorem loop_allf {α β : Type} {body : List D → Option Out} (l : List β) (st : Nat → α → List D) (Inv : Nat → α → Prop) (p : Nat → β → Bool) (f : α → β → α) (o1 : Out) (fin : α → Out) (a : α) (hs : ∀ (i : Nat) (a : α) (hi : i < l.length), Inv i a → body (st i a) = some (if p i l[i] = true then .nrm (st (i + 1) (f a l[i])) else o1) ∧ (p i l[i] = true → Inv (i + 1) (f a l[i])))
    (he : ∀ a, Inv l.length a → body (st l.length a) = some (fin a)) (h1 : o1.ends = true) (h2 : ∀ a, (fin a).ends = true) (h0 : Inv 0 a) {s0 : List D} (h : s0 = st 0 a) : loopC body s0 = some (if allI p 0 l = true then fin (l.foldl f a) else o1) := by
  have e : ∀ (m : List β) (i : Nat) (a : α), goL (fun i x (a : α) => if p i x = true then .inl (f a x) else .inr o1) fin i m a = if allI p i m = true then fin (m.foldl f a) else o1 := by
    intro m
    induction m with
    | nil => intro i a; simp [goL, allI]
    | cons x m ih =>
      intro i a
      simp only [goL, allI, List.foldl_cons]
      by_cases hp : p i x = true
      · simp [hp, ih]
      · simp [hp]
  rw [← e]
  refine loop_list l st Inv _ _ (fun i x a hx hI => ?_) (fun a hI => ⟨he a hI, h2 a⟩) a h0 h
  have hi : i < l.length := (List.getElem?_eq_some_iff.1 hx).1
  have hxe : l[i] = x := (List.getElem?_eq_some_iff.1 hx).2
  have := hs i a hi hI
  rw [hxe] at this
  by_cases hp : p i x = true
  · simpa [hp] using this
  · simpa [hp, h1] using this
def chars (s : ByteArray) : List UInt8 := s.data.toList
theorem charD_nat {s : ByteArray} {k : IntKind} {i : Nat} : charD (T s) (.v (.int k (i : Int))) = ((chars s)[i]?).map fun b => U b.toNat := by simp [charD, chars]
theorem size_list (s : ByteArray) : s.size = (chars s).length := rfl
theorem bin_geqS {a b : ByteArray} {bl : Bool} {eq : List Nat} : bin .geq bl eq (T a) (T b) = some (B (!Op.bytesLess a.toList b.toList)) := by simp [bin, strBin]

/-! ### letters -/
/-! ### cases -/
end Go.Proofs.YtdgenchlghojlaaDoor
/-
  Texts cut at a byte.
-/
namespace Go.Proofs.YtdgenchlghojlaaDoor
open Go Go.V
set_option linter.unusedSimpArgs false

theorem chars_inj {a b : ByteArray} (h : chars a = chars b) : a = b := by
  cases a with | mk a => cases b with | mk b =>
    cases a with | mk a => cases b with | mk b =>
      simp [chars] at h
      rw [h]
theorem chars_extract (s : ByteArray) (i j : Nat) : chars (s.extract i j) = ((chars s).take j).drop i := by
  simp [chars, List.drop_take]
theorem chars_mk (l : List UInt8) : chars ⟨l.toArray⟩ = l := by simp [chars]
theorem mk_chars (s : ByteArray) : (⟨(chars s).toArray⟩ : ByteArray) = s := chars_inj (chars_mk _)
theorem chars_append (a b : ByteArray) : chars (a ++ b) = chars a ++ chars b := by simp [chars]
theorem sliceS {s : ByteArray} {z i j : Nat} (h1 : i ≤ j) (h2 : j ≤ s.size) : sliceD true z (T s) (I (i : Int)) (I (j : Int)) = some (T (s.extract i j)) := by
  simp only [sliceD, Int.toNat_natCast]
  rw [if_pos (by omega)]
theorem sliceHiS {s : ByteArray} {z i : Nat} (h : i ≤ s.size) : sliceHi true z (T s) (I (i : Int)) = some (T (s.extract i s.size)) := by
  simp only [sliceHi, Int.toNat_natCast]
  rw [if_pos (by omega)]

/-! ### the pieces -/
def consH (x : UInt8) : List (List UInt8) → List (List UInt8)
  | [] => [[x]]
  | h :: t => (x :: h) :: t
/-- A text cut at each c. -/
def splitL (c : UInt8) : List UInt8 → List (List UInt8)
  | [] => [[]]
  | x :: l => if x = c then [] :: splitL c l else consH x (splitL c l)
theorem splitL_ne (c : UInt8) (l : List UInt8) : splitL c l ≠ [] := by
  cases l with
  | nil => simp [splitL]
  | cons x l =>
    simp only [splitL]
    split
    · simp
    · cases splitL c l <;> simp [consH]
theorem splitL_miss {c : UInt8} : ∀ {l : List UInt8}, c ∉ l → splitL c l = [l]
  | [], _ => rfl
  | x :: l, h => by
    simp only [List.mem_cons, not_or] at h
    simp only [splitL]
    rw [if_neg (Ne.symm h.1), splitL_miss h.2]
    rfl
theorem splitL_hit {c : UInt8} {b : List UInt8} : ∀ {a : List UInt8}, c ∉ a → splitL c (a ++ c :: b) = a :: splitL c b
  | [], _ => by simp [splitL]
  | x :: a, h => by
    simp only [List.mem_cons, not_or] at h
    rw [List.cons_append]
    simp only [splitL]
    rw [if_neg (Ne.symm h.1), splitL_hit h.2]
    rfl
theorem splitL_snoc (c x : UInt8) : ∀ (l : List UInt8) (o : List (List UInt8)) (p : List UInt8), splitL c l = o ++ [p] → splitL c (l ++ [x]) = if x = c then (o ++ [p]) ++ [[]] else o ++ [p ++ [x]]
  | [], o, p, h => by
    have h : [[]] = o ++ [p] := h
    have : o = [] ∧ p = [] := by
      cases o with
      | nil => simpa using h.symm
      | cons y o => cases o <;> simp at h
    obtain ⟨rfl, rfl⟩ := this
    simp only [List.nil_append, splitL]
    split <;> rfl
  | y :: l, o, p, h => by
    simp only [splitL] at h
    rw [List.cons_append]
    simp only [splitL]
    by_cases hy : y = c
    · rw [if_pos hy] at h ⊢
      cases o with
      | nil => exact absurd (List.cons.inj h).2 (splitL_ne c l)
      | cons z o =>
        rw [List.cons_append, List.cons.injEq] at h
        obtain ⟨rfl, h⟩ := h
        rw [splitL_snoc c x l o p h]
        split <;> rfl
    · rw [if_neg hy] at h ⊢
      generalize hs : splitL c l = s at h
      cases s with
      | nil => exact absurd hs (splitL_ne c l)
      | cons z s =>
        simp only [consH] at h
        cases o with
        | nil =>
          have : s = [] ∧ p = y :: z := by
            rw [List.nil_append, List.cons.injEq] at h
            exact ⟨h.2, h.1.symm⟩
          obtain ⟨rfl, rfl⟩ := this
          rw [splitL_snoc c x l [] z hs]
          split <;> simp [consH]
        | cons w o =>
          rw [List.cons_append, List.cons.injEq] at h
          obtain ⟨rfl, h⟩ := h
          rw [splitL_snoc c x l (z :: o) p (by rw [hs, h]; rfl)]
          split <;> simp [consH]

/-! ### the library's own words -/
theorem index_spec (c : UInt8) : ∀ (l : List UInt8), (Lib.index l [c] = -1 ∧ c ∉ l) ∨ ∃ a b, l = a ++ c :: b ∧ c ∉ a ∧ Lib.index l [c] = a.length
  | [] => .inl ⟨by simp [Lib.index], by simp⟩
  | x :: l => by
    rw [Lib.index_one]
    simp only [Lib.indexByte]
    by_cases hx : x = c
    · subst hx
      exact .inr ⟨[], l, rfl, by simp, by simp⟩
    · have ih := index_spec c l
      rw [Lib.index_one] at ih
      rw [if_neg (by simpa using hx)]
      rcases ih with ⟨h1, h2⟩ | ⟨a, b, rfl, h2, h3⟩
      · exact .inl ⟨by rw [h1]; rfl, by simp [h2, Ne.symm hx]⟩
      · refine .inr ⟨x :: a, b, rfl, by simp [h2, Ne.symm hx], ?_⟩
        rw [if_neg (by rw [h3]; simp), h3]
        simp
theorem splitK_eq (c : UInt8) : ∀ (n : Nat) (l : List UInt8), l.length ≤ n → Lib.splitK [c] 0 (Lib.count l [c]) l = splitL c l
  | n, l, hn => by
    rcases index_spec c l with ⟨h1, h2⟩ | ⟨a, b, rfl, h2, h3⟩
    · rw [Lib.count_miss h1, splitL_miss h2]
      rfl
    · rw [Lib.count_hit (by simp) h3, splitL_hit h2, Nat.add_comm 1]
      have hb : (a ++ c :: b).drop (a.length + [c].length) = b := by
        rw [← List.drop_drop]
        simp
      cases n with
      | zero => simp at hn
      | succ n =>
        rw [hb]
        unfold Lib.splitK
        rw [if_neg (by rw [h3]; simp), h3]
        have e : ((a.length : Int)).toNat = a.length := by omega
        rw [e, hb, splitK_eq c n b (by simp at hn; omega)]
        simp
/-- A text cut at each c. -/
def splitT (c : UInt8) (s : ByteArray) : List ByteArray := (splitL c (chars s)).map fun l => ⟨l.toArray⟩
theorem splitOf_eq (c : UInt8) (s : ByteArray) : splitOf s ⟨#[c]⟩ = splitT c s := by
  have h : (splitOf s ⟨#[c]⟩).map chars = splitL c (chars s) := by
    have := Lib.splitB_data ⟨#[c]⟩ 0 (Lib.countB s ⟨#[c]⟩) s
    rw [show (fun x : ByteArray => x.data.toList) = chars from rfl] at this
    rw [splitOf, this]
    exact splitK_eq c _ _ (Nat.le_refl _)
  have h2 : (splitOf s ⟨#[c]⟩).map (fun x => (⟨(chars x).toArray⟩ : ByteArray)) = splitT c s := by
    rw [splitT, ← h, List.map_map]
    rfl
  rw [← h2]
  have : (fun x : ByteArray => (⟨(chars x).toArray⟩ : ByteArray)) = id := funext mk_chars
  rw [this, List.map_id]
theorem e_Split {c : UInt8} {s : ByteArray} (h : s.size < 4294967281) : fSplit [T s, T ⟨#[c]⟩] = some (.ret [.arr 1 ((splitT c s).map T)] []) := by
  have h1 : 1 ≤ (⟨#[c]⟩ : ByteArray).size := Nat.le_refl 1
  simp only [fSplit, h, h1, and_self, if_true, splitOf_eq]
theorem cut_miss {c : UInt8} {l : List UInt8} (h : c ∉ l) : Lib.cut l [c] = (l, [], false) := by
  rcases index_spec c l with ⟨h1, _⟩ | ⟨a, b, rfl, _, _⟩
  · unfold Lib.cut
    rw [h1, if_neg (by decide)]
  · simp at h
theorem cut_hit {c : UInt8} {a b : List UInt8} (h : c ∉ a) : Lib.cut (a ++ c :: b) [c] = (a, b, true) := by
  rcases index_spec c (a ++ c :: b) with ⟨_, h2⟩ | ⟨a', b', e, h2, h3⟩
  · simp at h2
  · have hl : a.length = a'.length := by
      have key : ∀ (a a' b b' : List UInt8), c ∉ a → c ∉ a' → a ++ c :: b = a' ++ c :: b' → a.length = a'.length := by
        intro a
        induction a with
        | nil =>
          intro a' b b' _ h2 e
          cases a' with
          | nil => rfl
          | cons y a' =>
            simp at e
            simp [e.1] at h2
        | cons x a ih =>
          intro a' b b' h1 h2 e
          cases a' with
          | nil =>
            simp at e
            simp [e.1] at h1
          | cons y a' =>
            simp at e h1 h2 ⊢
            exact ih a' b b' h1.2 h2.2 e.2
      exact key a a' b b' h h2 e
    unfold Lib.cut
    rw [h3, if_pos (by omega)]
    have e2 : ((a'.length : Int)).toNat = a.length := by omega
    rw [e2]
    have hb : (a ++ c :: b).drop (a.length + [c].length) = b := by
      rw [← List.drop_drop]
      simp
    rw [hb]
    simp

theorem splitL_length (c : UInt8) : ∀ (l : List UInt8), (splitL c l).length ≤ l.length + 1
  | [] => by simp [splitL]
  | x :: l => by
    have ih := splitL_length c l
    simp only [splitL]
    split
    · simp; omega
    · generalize splitL c l = s at ih
      cases s <;> simp [consH] at ih ⊢ <;> omega
theorem one_text (s : ByteArray) : mkArr 1 [T s] = some (.arr 1 [T s]) := by simp [mkArr, lenOkD]
theorem chkA_texts (l : List ByteArray) : chkA (.arr 1 (l.map T)) = some (.arr 1 (l.map T)) := chkA_map fun _ => rfl

theorem e_spec_l1Split (s : ByteArray) (c : UInt8) (h : s.size ≤ 4294967296) : F_spec_l1Split [T s, U c.toNat] = some (.ret [.arr 1 ((splitT c s).map T)] []) := by
  rw [t_spec_l1Split]
  let mk : List UInt8 → ByteArray := fun l => ⟨l.toArray⟩
  refine loop_wf_bind (fun r => r = _) (fun (a : List (List UInt8) × Nat × Nat) => [T s, U c.toNat, .arr 1 ((a.1.map mk).map T), I (a.2.1 : Int), I (a.2.2 : Int)])
    (fun a => a.2.2 ≤ s.size ∧ a.2.1 ≤ a.2.2 ∧ a.1.length ≤ a.2.2 ∧ splitL c ((chars s).take a.2.2) = a.1 ++ [((chars s).take a.2.2).drop a.2.1])
    (fun a => s.size - a.2.2) (fun o => ∃ (outs : List (List UInt8)) (fr : Nat), o = .ext 0 [T s, .arr 1 ((outs.map mk).map T), I (fr : Int)] ∧ fr ≤ s.size ∧ outs.length ≤ s.size ∧ splitL c (chars s) = outs ++ [(chars s).drop fr])
    ?_ ([], 0, 0) ⟨Nat.zero_le _, Nat.le_refl _, Nat.le_refl _, by simp [splitL]⟩ rfl ?_
  · rintro ⟨outs, fr, i⟩ ⟨h1, h2, h3, h4⟩
    simp only at h1 h2 h3 h4
    by_cases hi : i < s.size
    · left
      have hl : i < (chars s).length := by rw [← size_list]; exact hi
      have hi' : (i : Int) < (s.size : Int) := by omega
      have hw : IntKind.i64.wrap ((i : Int) + 1) = ((i + 1 : Nat) : Int) := by rw [wrap_id (by omega) (by omega)]; omega
      have hch : charD (T s) (I (i : Int)) = some (U ((chars s)[i].toNat : Int)) := by
        rw [charD_nat, List.getElem?_eq_getElem hl]
        rfl
      have htk : (chars s).take (i + 1) = (chars s).take i ++ [(chars s)[i]] := List.take_succ_eq_append_getElem hl
      have hdr : ((chars s).take i ++ [(chars s)[i]]).drop fr = ((chars s).take i).drop fr ++ [(chars s)[i]] := by
        rw [List.drop_append_of_le_length (by rw [List.length_take]; omega)]
      by_cases hc : (chars s)[i] = c
      · refine ⟨(outs ++ [((chars s).take i).drop fr], i + 1, i + 1), ?_, ⟨by simp only; omega, Nat.le_refl _, by simp; omega, ?_⟩, by simp only; omega⟩
        · have hsl := sliceS (s := s) (z := 0) (i := fr) (j := i) h2 (by omega)
          have hmk : mk (((chars s).take i).drop fr) = s.extract fr i := chars_inj (by rw [chars_extract]; exact chars_mk _)
          have hap : (outs.length + 1) * 16 ≤ 140737488355328 ∧ outs.length + 1 ≤ 1152921504606846976 := by omega
          have e2 : (outs ++ [((chars s).take i).drop fr]).map mk = outs.map mk ++ [s.extract fr i] := by rw [List.map_append, List.map_cons, List.map_nil, hmk]
          have e1 : ((outs.map mk).map T).length + [T (s.extract fr i)].length = outs.length + 1 := by simp
          have hck : chkA (.arr 1 [T (s.extract fr i)]) = some (.arr 1 [T (s.extract fr i)]) := chkA_texts [s.extract fr i]
          simp only [sl_zero, sl_succ, lenD_str, Option.bind_some, bin_lss, hi', decide_true, ifD_B, if_true, hch, bin_eql, hc, hsl, one_text, hck, appD_eq, e1, hap, and_self, bin_add, hw, e2, List.map_append, List.map_cons, List.map_nil]
        · have := splitL_snoc c (chars s)[i] _ _ _ h4
          rw [if_pos hc, ← htk] at this
          simp only
          have hz : ((chars s).take (i + 1)).drop (i + 1) = [] := List.drop_eq_nil_of_le (by rw [List.length_take]; omega)
          rw [this, hz]
      · refine ⟨(outs, fr, i + 1), ?_, ⟨by simp only; omega, by simp only; omega, by simp only; omega, ?_⟩, by simp only; omega⟩
        · have hne : ¬ ((chars s)[i].toNat : Int) = (c.toNat : Int) := fun e => hc (UInt8.toNat_inj.1 (by omega))
          simp only [sl_zero, sl_succ, lenD_str, Option.bind_some, bin_lss, hi', decide_true, ifD_B, if_true, hch, bin_eql, hne, decide_false, Bool.false_eq_true, if_false, bin_add, hw]
        · have := splitL_snoc c (chars s)[i] _ _ _ h4
          rw [if_neg hc, ← htk] at this
          simp only
          rw [this, htk, hdr]
    · right
      have hi' : ¬ (i : Int) < (s.size : Int) := by omega
      have hie : i = s.size := by omega
      refine ⟨_, ?_, rfl, outs, fr, rfl, by omega, by omega, ?_⟩
      · simp only [sl_zero, sl_succ, lenD_str, Option.bind_some, bin_lss, hi', decide_false, ifD_B, Bool.false_eq_true, if_false]
      · rw [hie, size_list, List.take_length] at h4
        exact h4
  · rintro o ⟨outs, fr, rfl, h1, h2, h3⟩
    have hsl := sliceHiS (s := s) (z := 0) (i := fr) h1
    have hmk : mk ((chars s).drop fr) = s.extract fr s.size := chars_inj (by rw [chars_extract, size_list, List.take_length]; exact chars_mk _)
    have hap : (outs.length + 1) * 16 ≤ 140737488355328 ∧ outs.length + 1 ≤ 1152921504606846976 := by omega
    have e1 : ((outs.map mk).map T).length + [T (s.extract fr s.size)].length = outs.length + 1 := by simp
    have hck : chkA (.arr 1 [T (s.extract fr s.size)]) = some (.arr 1 [T (s.extract fr s.size)]) := chkA_texts [s.extract fr s.size]
    have e2 : splitT c s = outs.map mk ++ [s.extract fr s.size] := by rw [splitT, h3, List.map_append, List.map_cons, List.map_nil]; exact congrArg _ (congrArg (fun x => [x]) hmk)
    simp only [outK_ext, Nat.beq_refl, ifN_B, if_true, sl_zero, sl_succ, hsl, Option.bind_some, one_text, hck, appD_eq, e1, hap, and_self, e2, List.map_append, List.map_cons, List.map_nil]
end Go.Proofs.YtdgenchlghojlaaDoor
