/-
  Contexts and contracts of functions, printed by gen.py.
-/
import Derived.Test.YtlphibidnkjpdaaDoorRows
import Derived.Test.YtlphibidnkjpdaaDoorTie
import Derived.Test.YtlphibidnkjpdaaDoorCards
import Derived.Test.YtlphibidnkjpdaaDoorM4
namespace Go.Proofs.YtlphibidnkjpdaaDoor
open Go.V
set_option maxRecDepth 100000
@[reducible] def ty3 : TI := { n := 1, zero := [.v (.int .i64 0)], ik := some .i64 }
@[reducible] def ty4 : TI := { n := 1, zero := [.v (.bool false)], bl := true }
@[reducible] def ty5 : TI := { n := 1, zero := [.v (.int .u8 0)], ik := some .u8 }
@[reducible] def ty9 : TI := { n := 1, zero := [.v (.string ⟨#[]⟩)], str := true }
@[reducible] def ty22 : TI := { n := 1, zero := [.arr 1 []], elem := 5, ez := 1, eb := 1 }
@[reducible] def ty25 : TI := { agg := true, n := 5, zero := [.v (.int .i64 0), .v (.int .i64 0), .v (.int .i64 0), .v (.int .i64 0), .v (.int .i64 0)], fs := [(0, 3), (1, 3), (2, 3), (3, 3), (4, 3)], eq := [1, 1, 1, 1, 1] }
@[reducible] def ty28 : TI := { n := 1, zero := [.arr 1 []], elem := 3, ez := 1, eb := 8 }
@[reducible] def ty51 : TI := { agg := true, n := 3, zero := [.v (.int .i64 0), .v (.int .i64 0), .v (.int .i64 0)], fs := [(0, 3), (1, 3), (2, 3)], eq := [1, 1, 1] }
@[reducible] def ty93 : TI := { n := 1, zero := [.arr 1 []], elem := 9, ez := 1, eb := 16 }
@[reducible] def ty108 : TI := { n := 1, zero := [.v (.int .u64 0)], ik := some .u64 }
@[reducible] def ty110 : TI := { agg := true, n := 3, zero := [.arr 1 [], .v (.int .i64 0), .v (.int .u64 0)], fs := [(0, 22), (1, 3), (2, 108)] }
@[reducible] def ty152 : TI := { n := 1, zero := [.v .nilIface], ifc := true }
/-- loop.example/g01054/laws.big -/
@[reducible] noncomputable def c_laws_big : Cx := { K := [.dat 2, .dat 2, .no, .no, .dat 0, .dat 2, .dat 0, .dat 0, .dat 0, .dat 2, .dat 0, .dat 2, .dat 0, .dat 0, .dat 0, .dat 0], T := [(3, ty3), (5, ty5), (22, ty22)], S := [], H := [], res := [.tmp 4], ios := [], G := gl0 }
noncomputable def F_laws_big : List D → Option Out := denF c_laws_big Tryd.f7
@[reducible] noncomputable def S_laws_big : FS := { pm := [.dat 2, .dat 2], rm := [.dat 0], f := F_laws_big }
theorem M_laws_big : Meets gl0 Tryd.prog 7 S_laws_big := meets_of (P := Tryd.prog) (c := c_laws_big) (fn := Tryd.f7) (pm := S_laws_big.pm) (rm := S_laws_big.rm) (by kernel_rfl) lookNil follows_mixed Tryd.func7 (by kernel_rfl) (by kernel_rfl) rfl
/-- (*loop.example/g01054/spec.l1Cur).next -/
@[reducible] noncomputable def c_spec_l1Cur_next : Cx := { K := [.box 3 2 true, .no, .dat 0, .dat 0, .ref 0, .ref 0, .ref 0, .dat 0, .ref 0, .ref 0, .ref 0, .dat 2, .dat 0, .dat 0, .ref 0, .ref 0, .ref 0, .dat 2, .ref 0, .ref 0, .ref 0, .dat 0, .dat 2, .dat 0, .dat 0, .ref 0, .ref 0, .ref 0, .dat 0, .dat 0, .ref 0, .ref 0, .ref 0, .ref 0, .ref 0, .ref 0, .dat 0, .dat 0, .dat 0, .dat 0, .dat 0, .dat 0, .ref 0, .ref 0, .ref 0, .ref 0, .ref 0, .dat 0, .ref 0, .ref 0, .ref 0, .dat 2, .dat 0, .dat 0, .dat 0, .ref 0, .ref 0, .ref 0, .dat 0, .dat 0, .dat 0, .dat 0], T := [(3, ty3), (5, ty5), (22, ty22), (108, ty108), (110, ty110)], S := [], H := [], res := [.tmp 2], ios := [0], G := gl0 }
noncomputable def F_spec_l1Cur_next : List D → Option Out := denF c_spec_l1Cur_next Tryd.f153
@[reducible] noncomputable def S_spec_l1Cur_next : FS := { pm := [.box 3 2 true], rm := [.dat 0], f := F_spec_l1Cur_next }
theorem M_spec_l1Cur_next : Meets gl0 Tryd.prog 153 S_spec_l1Cur_next := meets_of (P := Tryd.prog) (c := c_spec_l1Cur_next) (fn := Tryd.f153) (pm := S_spec_l1Cur_next.pm) (rm := S_spec_l1Cur_next.rm) (by kernel_rfl) lookNil follows_mixed Tryd.func153 (by kernel_rfl) (by kernel_rfl) rfl
/-- (*loop.example/g01054/spec.l1Cur).pick -/
@[reducible] noncomputable def c_spec_l1Cur_pick : Cx := { K := [.box 3 2 true, .dat 0, .no, .no, .dat 0, .dat 0, .dat 0, .dat 0, .ref 0, .dat 0, .dat 0, .dat 0, .dat 0, .dat 0, .ref 0, .dat 0, .dat 0, .dat 0, .dat 0, .dat 0], T := [(3, ty3)], S := [(153, S_spec_l1Cur_next)], H := [], res := [.tmp 4], ios := [0], G := gl0 }
noncomputable def F_spec_l1Cur_pick : List D → Option Out := denF c_spec_l1Cur_pick Tryd.f99
@[reducible] noncomputable def S_spec_l1Cur_pick : FS := { pm := [.box 3 2 true, .dat 0], rm := [.dat 0], f := F_spec_l1Cur_pick }
theorem M_spec_l1Cur_pick : Meets gl0 Tryd.prog 99 S_spec_l1Cur_pick := meets_of (P := Tryd.prog) (c := c_spec_l1Cur_pick) (fn := Tryd.f99) (pm := S_spec_l1Cur_pick.pm) (rm := S_spec_l1Cur_pick.rm) (by kernel_rfl) (lookCons M_spec_l1Cur_next lookNil) follows_mixed Tryd.func99 (by kernel_rfl) (by kernel_rfl) rfl
/-- (*loop.example/g01054/spec.l1Cur).strike -/
@[reducible] noncomputable def c_spec_l1Cur_strike : Cx := { K := [.box 3 2 true, .no, .box 5 0 false, .ref 0, .dat 0, .dat 0, .ref 0, .dat 0, .dat 0, .ref 0, .dat 0, .dat 0, .ref 0, .dat 0, .dat 0, .ref 0, .dat 0, .dat 0, .dat 0], T := [(3, ty3), (25, ty25)], S := [(99, S_spec_l1Cur_pick)], H := [], res := [.cell 2 25], ios := [0], G := gl0 }
noncomputable def F_spec_l1Cur_strike : List D → Option Out := denF c_spec_l1Cur_strike Tryd.f105
@[reducible] noncomputable def S_spec_l1Cur_strike : FS := { pm := [.box 3 2 true], rm := [.dat 0], f := F_spec_l1Cur_strike }
theorem M_spec_l1Cur_strike : Meets gl0 Tryd.prog 105 S_spec_l1Cur_strike := meets_of (P := Tryd.prog) (c := c_spec_l1Cur_strike) (fn := Tryd.f105) (pm := S_spec_l1Cur_strike.pm) (rm := S_spec_l1Cur_strike.rm) (by kernel_rfl) (lookCons M_spec_l1Cur_pick lookNil) follows_mixed Tryd.func105 (by kernel_rfl) (by kernel_rfl) rfl
/-- (*loop.example/g01054/spec.l1Cur).one -/
@[reducible] noncomputable def c_spec_l1Cur_one : Cx := { K := [.box 3 2 true, .dat 0, .no, .no, .dat 0, .ref 0, .dat 0, .dat 0, .dat 0], T := [(3, ty3)], S := [(99, S_spec_l1Cur_pick)], H := [], res := [.tmp 4], ios := [0], G := gl0 }
noncomputable def F_spec_l1Cur_one : List D → Option Out := denF c_spec_l1Cur_one Tryd.f113
@[reducible] noncomputable def S_spec_l1Cur_one : FS := { pm := [.box 3 2 true, .dat 0], rm := [.dat 0], f := F_spec_l1Cur_one }
theorem M_spec_l1Cur_one : Meets gl0 Tryd.prog 113 S_spec_l1Cur_one := meets_of (P := Tryd.prog) (c := c_spec_l1Cur_one) (fn := Tryd.f113) (pm := S_spec_l1Cur_one.pm) (rm := S_spec_l1Cur_one.rm) (by kernel_rfl) (lookCons M_spec_l1Cur_pick lookNil) follows_mixed Tryd.func113 (by kernel_rfl) (by kernel_rfl) rfl
/-- loop.example/g01054/spec.maParts -/
@[reducible] noncomputable def c_spec_maParts : Cx := { K := [.dat 0, .box 5 0 false, .own 1 0 false, .ref 1, .dat 0, .ref 1, .dat 0, .ref 1, .dat 0, .ref 1, .dat 0, .ref 1, .dat 0, .own 1 0 false], T := [(3, ty3), (25, ty25), (28, ty28)], S := [], H := [], res := [.tmp 2], ios := [], G := gl0 }
noncomputable def F_spec_maParts : List D → Option Out := denF c_spec_maParts Tryd.f101
@[reducible] noncomputable def S_spec_maParts : FS := { pm := [.dat 0], rm := [.own 1 0 false], f := F_spec_maParts }
theorem M_spec_maParts : Meets gl0 Tryd.prog 101 S_spec_maParts := meets_of (P := Tryd.prog) (c := c_spec_maParts) (fn := Tryd.f101) (pm := S_spec_maParts.pm) (rm := S_spec_maParts.rm) (by kernel_rfl) lookNil follows_mixed Tryd.func101 (by kernel_rfl) (by kernel_rfl) rfl
/-- (*loop.example/g01054/spec.l1Cur).among -/
@[reducible] noncomputable def c_spec_l1Cur_among : Cx := { K := [.box 3 2 true, .dat 2, .no, .no, .dat 0, .dat 2, .ref 0, .dat 2, .dat 0, .dat 0, .dat 2, .dat 0], T := [(3, ty3), (28, ty28)], S := [(99, S_spec_l1Cur_pick)], H := [], res := [.tmp 4], ios := [0], G := gl0 }
noncomputable def F_spec_l1Cur_among : List D → Option Out := denF c_spec_l1Cur_among Tryd.f96
@[reducible] noncomputable def S_spec_l1Cur_among : FS := { pm := [.box 3 2 true, .dat 2], rm := [.dat 0], f := F_spec_l1Cur_among }
theorem M_spec_l1Cur_among : Meets gl0 Tryd.prog 96 S_spec_l1Cur_among := meets_of (P := Tryd.prog) (c := c_spec_l1Cur_among) (fn := Tryd.f96) (pm := S_spec_l1Cur_among.pm) (rm := S_spec_l1Cur_among.rm) (by kernel_rfl) (lookCons M_spec_l1Cur_pick lookNil) follows_mixed Tryd.func96 (by kernel_rfl) (by kernel_rfl) rfl
/-- loop.example/g01054/spec.maOf -/
@[reducible] noncomputable def c_spec_maOf : Cx := { K := [.dat 2, .no, .box 5 0 false, .dat 2, .dat 2, .dat 0, .dat 2, .dat 2, .dat 0, .dat 2, .dat 2, .dat 0, .dat 2, .dat 2, .dat 0, .dat 2, .dat 2, .dat 0, .dat 0], T := [(3, ty3), (25, ty25), (28, ty28)], S := [], H := [], res := [.cell 2 25], ios := [], G := gl0 }
noncomputable def F_spec_maOf : List D → Option Out := denF c_spec_maOf Tryd.f102
@[reducible] noncomputable def S_spec_maOf : FS := { pm := [.dat 2], rm := [.dat 0], f := F_spec_maOf }
theorem M_spec_maOf : Meets gl0 Tryd.prog 102 S_spec_maOf := meets_of (P := Tryd.prog) (c := c_spec_maOf) (fn := Tryd.f102) (pm := S_spec_maOf.pm) (rm := S_spec_maOf.rm) (by kernel_rfl) lookNil follows_mixed Tryd.func102 (by kernel_rfl) (by kernel_rfl) rfl
/-- (*loop.example/g01054/spec.l1Cur).anyStrike -/
@[reducible] noncomputable def c_spec_l1Cur_anyStrike : Cx := { K := [.box 3 2 true, .no, .box 5 0 false, .box 5 0 false, .via 10, .ref 0, .dat 0, .ref 0, .dat 0, .dat 0, .own 1 0 false, .via 10, .ref 0, .dat 0, .ref 0, .dat 1, .dat 0, .ref 10, .via 10, .dat 0, .dat 0], T := [(3, ty3), (25, ty25), (28, ty28)], S := [(96, S_spec_l1Cur_among), (99, S_spec_l1Cur_pick), (101, S_spec_maParts), (102, S_spec_maOf), (105, S_spec_l1Cur_strike), (113, S_spec_l1Cur_one)], H := [], res := [.cell 2 25], ios := [0], G := gl0 }
noncomputable def F_spec_l1Cur_anyStrike : List D → Option Out := denF c_spec_l1Cur_anyStrike Tryd.f88
@[reducible] noncomputable def S_spec_l1Cur_anyStrike : FS := { pm := [.box 3 2 true], rm := [.dat 0], f := F_spec_l1Cur_anyStrike }
theorem M_spec_l1Cur_anyStrike : Meets gl0 Tryd.prog 88 S_spec_l1Cur_anyStrike := meets_of (P := Tryd.prog) (c := c_spec_l1Cur_anyStrike) (fn := Tryd.f88) (pm := S_spec_l1Cur_anyStrike.pm) (rm := S_spec_l1Cur_anyStrike.rm) (by kernel_rfl) (lookCons M_spec_l1Cur_among (lookCons M_spec_l1Cur_pick (lookCons M_spec_maParts (lookCons M_spec_maOf (lookCons M_spec_l1Cur_strike (lookCons M_spec_l1Cur_one lookNil)))))) follows_mixed Tryd.func88 (by kernel_rfl) (by kernel_rfl) rfl
/-- (*loop.example/g01054/spec.l1Cur).lower -/
@[reducible] noncomputable def c_spec_l1Cur_lower : Cx := { K := [.box 3 2 true, .dat 0, .no, .box 5 0 false, .box 5 0 false, .ref 0, .dat 0, .ref 0, .dat 0, .ref 3, .dat 0, .ref 0, .dat 0, .dat 0, .ref 3, .ref 3, .dat 0, .ref 0, .dat 0, .dat 0, .ref 3, .ref 3, .dat 0, .ref 0, .dat 0, .ref 0, .dat 0, .dat 0, .dat 0, .dat 0, .ref 3, .dat 0], T := [(3, ty3), (25, ty25)], S := [(88, S_spec_l1Cur_anyStrike), (99, S_spec_l1Cur_pick), (113, S_spec_l1Cur_one)], H := [], res := [.cell 4 25], ios := [0], G := gl0 }
noncomputable def F_spec_l1Cur_lower : List D → Option Out := denF c_spec_l1Cur_lower Tryd.f89
@[reducible] noncomputable def S_spec_l1Cur_lower : FS := { pm := [.box 3 2 true, .dat 0], rm := [.dat 0], f := F_spec_l1Cur_lower }
theorem M_spec_l1Cur_lower : Meets gl0 Tryd.prog 89 S_spec_l1Cur_lower := meets_of (P := Tryd.prog) (c := c_spec_l1Cur_lower) (fn := Tryd.f89) (pm := S_spec_l1Cur_lower.pm) (rm := S_spec_l1Cur_lower.rm) (by kernel_rfl) (lookCons M_spec_l1Cur_anyStrike (lookCons M_spec_l1Cur_pick (lookCons M_spec_l1Cur_one lookNil))) follows_mixed Tryd.func89 (by kernel_rfl) (by kernel_rfl) rfl
/-- loop.example/g01054/spec.DrawFilingsFor -/
@[reducible] noncomputable def c_spec_DrawFilingsFor : Cx := { K := [.dat 2, .no, .box 5 0 false, .box 5 0 false, .ref 8, .box 5 0 false, .dat 2, .dat 2, .box 3 2 false, .ref 8, .dat 0, .dat 0, .ref 8, .dat 0, .dat 0], T := [(3, ty3), (22, ty22), (25, ty25), (108, ty108), (110, ty110)], S := [(88, S_spec_l1Cur_anyStrike), (89, S_spec_l1Cur_lower)], H := [], res := [.cell 2 25, .cell 3 25], ios := [], G := gl0 }
noncomputable def F_spec_DrawFilingsFor : List D → Option Out := denF c_spec_DrawFilingsFor Tryd.f8
@[reducible] noncomputable def S_spec_DrawFilingsFor : FS := { pm := [.dat 2], rm := [.dat 0, .dat 0], f := F_spec_DrawFilingsFor }
theorem M_spec_DrawFilingsFor : Meets gl0 Tryd.prog 8 S_spec_DrawFilingsFor := meets_of (P := Tryd.prog) (c := c_spec_DrawFilingsFor) (fn := Tryd.f8) (pm := S_spec_DrawFilingsFor.pm) (rm := S_spec_DrawFilingsFor.rm) (by kernel_rfl) (lookCons M_spec_l1Cur_anyStrike (lookCons M_spec_l1Cur_lower lookNil)) follows_mixed Tryd.func8 (by kernel_rfl) (by kernel_rfl) rfl
/-- (loop.example/g01054/impl.Strike).parts -/
@[reducible] noncomputable def c_impl_Strike_parts : Cx := { K := [.dat 0, .box 5 0 false, .own 1 0 false, .ref 1, .dat 0, .ref 1, .dat 0, .ref 1, .dat 0, .ref 1, .dat 0, .ref 1, .dat 0, .own 1 0 false], T := [(3, ty3), (25, ty25), (28, ty28)], S := [], H := [], res := [.tmp 2], ios := [], G := gl0 }
noncomputable def F_impl_Strike_parts : List D → Option Out := denF c_impl_Strike_parts Tryd.f94
@[reducible] noncomputable def S_impl_Strike_parts : FS := { pm := [.dat 0], rm := [.own 1 0 false], f := F_impl_Strike_parts }
theorem M_impl_Strike_parts : Meets gl0 Tryd.prog 94 S_impl_Strike_parts := meets_of (P := Tryd.prog) (c := c_impl_Strike_parts) (fn := Tryd.f94) (pm := S_impl_Strike_parts.pm) (rm := S_impl_Strike_parts.rm) (by kernel_rfl) lookNil follows_mixed Tryd.func94 (by kernel_rfl) (by kernel_rfl) rfl
/-- loop.example/g01054/impl.within -/
@[reducible] noncomputable def c_impl_within : Cx := { K := [.dat 0, .dat 0, .dat 0, .no, .no, .no, .dat 0, .dat 0, .dat 0, .dat 0, .dat 0, .dat 0, .dat 0, .dat 0, .dat 0], T := [(3, ty3)], S := [], H := [], res := [.tmp 6], ios := [], G := gl0 }
noncomputable def F_impl_within : List D → Option Out := denF c_impl_within Tryd.f95
@[reducible] noncomputable def S_impl_within : FS := { pm := [.dat 0, .dat 0, .dat 0], rm := [.dat 0], f := F_impl_within }
theorem M_impl_within : Meets gl0 Tryd.prog 95 S_impl_within := meets_of (P := Tryd.prog) (c := c_impl_within) (fn := Tryd.f95) (pm := S_impl_within.pm) (rm := S_impl_within.rm) (by kernel_rfl) lookNil follows_mixed Tryd.func95 (by kernel_rfl) (by kernel_rfl) rfl
/-- loop.example/g01054/impl.IsStrike -/
@[reducible] noncomputable def c_impl_IsStrike : Cx := { K := [.dat 0, .box 5 0 false, .dat 0, .no, .dat 0, .dat 0, .dat 1, .dat 0, .dat 0, .dat 0, .dat 1, .dat 0, .dat 0, .dat 0, .dat 0, .dat 0], T := [(3, ty3), (25, ty25), (28, ty28)], S := [(94, S_impl_Strike_parts), (95, S_impl_within)], H := [(0, ([6, 7, 8], []))], res := [.tmp 2], ios := [], G := gl0 }
noncomputable def F_impl_IsStrike : List D → Option Out := denF c_impl_IsStrike Tryd.f14
@[reducible] noncomputable def S_impl_IsStrike : FS := { pm := [.dat 0], rm := [.dat 0], f := F_impl_IsStrike }
theorem M_impl_IsStrike : Meets gl0 Tryd.prog 14 S_impl_IsStrike := meets_of (P := Tryd.prog) (c := c_impl_IsStrike) (fn := Tryd.f14) (pm := S_impl_IsStrike.pm) (rm := S_impl_IsStrike.rm) (by kernel_rfl) (lookCons M_impl_Strike_parts (lookCons M_impl_within lookNil)) follows_mixed Tryd.func14 (by kernel_rfl) (by kernel_rfl) rfl
/-- (loop.example/g01054/impl.Strike).filings -/
@[reducible] noncomputable def c_impl_Strike_filings : Cx := { K := [.dat 0, .dat 0, .box 5 0 false, .box 5 0 false, .own 1 0 false, .dat 0, .own 1 0 false, .dat 1, .dat 0, .dat 0, .dat 0, .own 1 0 false, .dat 0, .dat 1, .ref 2, .dat 0, .ref 3, .dat 0, .dat 0, .dat 0, .dat 1, .dat 0, .dat 0, .dat 0, .dat 0, .dat 1, .dat 0, .own 1 0 false, .dat 0, .dat 1, .dat 0, .dat 1, .dat 0, .dat 0, .dat 1, .own 1 0 false, .dat 0, .dat 0, .dat 0, .dat 1, .dat 0, .dat 1, .dat 0, .dat 0, .dat 0, .dat 0, .own 1 0 false, .dat 0], T := [(3, ty3), (25, ty25), (28, ty28)], S := [(94, S_impl_Strike_parts)], H := [(0, ([6, 7, 8, 20, 21, 22], [6, 8]))], res := [.tmp 4, .tmp 5], ios := [], G := gl0 }
noncomputable def F_impl_Strike_filings : List D → Option Out := denF c_impl_Strike_filings Tryd.f90
@[reducible] noncomputable def S_impl_Strike_filings : FS := { pm := [.dat 0, .dat 0], rm := [.own 1 0 false, .dat 0], f := F_impl_Strike_filings }
theorem M_impl_Strike_filings : Meets gl0 Tryd.prog 90 S_impl_Strike_filings := meets_of (P := Tryd.prog) (c := c_impl_Strike_filings) (fn := Tryd.f90) (pm := S_impl_Strike_filings.pm) (rm := S_impl_Strike_filings.rm) (by kernel_rfl) (lookCons M_impl_Strike_parts lookNil) follows_mixed Tryd.func90 (by kernel_rfl) (by kernel_rfl) rfl
/-- loop.example/g01054/impl.FilingsFor -/
@[reducible] noncomputable def c_impl_FilingsFor : Cx := { K := [.dat 0, .dat 0, .box 5 0 false, .box 5 0 false, .own 1 0 false, .dat 0, .own 1 0 false, .dat 0, .dat 0, .dat 0, .dat 0, .dat 0, .dat 0, .dat 0, .dat 0, .dat 0, .own 1 0 false, .tup [.own 1 0 false, .dat 0], .dat 0, .dat 0, .tup [.own 1 0 false, .dat 0], .own 1 0 false, .dat 0, .dat 0, .dat 0, .own 1 0 false, .own 1 0 false], T := [(3, ty3), (25, ty25), (28, ty28)], S := [(14, S_impl_IsStrike), (90, S_impl_Strike_filings)], H := [], res := [.tmp 4, .tmp 5], ios := [], G := gl0 }
noncomputable def F_impl_FilingsFor : List D → Option Out := denF c_impl_FilingsFor Tryd.f9
@[reducible] noncomputable def S_impl_FilingsFor : FS := { pm := [.dat 0, .dat 0], rm := [.own 1 0 false, .dat 0], f := F_impl_FilingsFor }
theorem M_impl_FilingsFor : Meets gl0 Tryd.prog 9 S_impl_FilingsFor := meets_of (P := Tryd.prog) (c := c_impl_FilingsFor) (fn := Tryd.f9) (pm := S_impl_FilingsFor.pm) (rm := S_impl_FilingsFor.rm) (by kernel_rfl) (lookCons M_impl_IsStrike (lookCons M_impl_Strike_filings lookNil)) follows_mixed Tryd.func9 (by kernel_rfl) (by kernel_rfl) rfl
/-- loop.example/g01054/spec.l1In -/
@[reducible] noncomputable def c_spec_l1In : Cx := { K := [.dat 0, .dat 0, .dat 0, .no, .no, .no, .dat 0, .dat 0, .dat 0, .dat 0, .dat 0, .dat 0, .dat 0, .dat 0, .dat 0], T := [(3, ty3)], S := [], H := [], res := [.tmp 6], ios := [], G := gl0 }
noncomputable def F_spec_l1In : List D → Option Out := denF c_spec_l1In Tryd.f97
@[reducible] noncomputable def S_spec_l1In : FS := { pm := [.dat 0, .dat 0, .dat 0], rm := [.dat 0], f := F_spec_l1In }
theorem M_spec_l1In : Meets gl0 Tryd.prog 97 S_spec_l1In := meets_of (P := Tryd.prog) (c := c_spec_l1In) (fn := Tryd.f97) (pm := S_spec_l1In.pm) (rm := S_spec_l1In.rm) (by kernel_rfl) lookNil follows_mixed Tryd.func97 (by kernel_rfl) (by kernel_rfl) rfl
/-- loop.example/g01054/spec.l1All -/
@[reducible] noncomputable def c_spec_l1All : Cx := { K := [.dat 2, .dat 0, .dat 0, .no, .no, .no, .dat 0, .no, .dat 0, .dat 2, .dat 0, .dat 0, .dat 0, .dat 2, .dat 0, .dat 0, .dat 0, .dat 0, .dat 0, .dat 0, .dat 0], T := [(3, ty3), (28, ty28)], S := [(97, S_spec_l1In)], H := [(0, ([1, 2, 9, 10, 11], []))], res := [.tmp 6], ios := [], G := gl0 }
noncomputable def F_spec_l1All : List D → Option Out := denF c_spec_l1All Tryd.f139
@[reducible] noncomputable def S_spec_l1All : FS := { pm := [.dat 2, .dat 0, .dat 0], rm := [.dat 0], f := F_spec_l1All }
theorem M_spec_l1All : Meets gl0 Tryd.prog 139 S_spec_l1All := meets_of (P := Tryd.prog) (c := c_spec_l1All) (fn := Tryd.f139) (pm := S_spec_l1All.pm) (rm := S_spec_l1All.rm) (by kernel_rfl) (lookCons M_spec_l1In lookNil) follows_mixed Tryd.func139 (by kernel_rfl) (by kernel_rfl) rfl
/-- loop.example/g01054/spec.maGood -/
@[reducible] noncomputable def c_spec_maGood : Cx := { K := [.dat 0, .box 5 0 false, .dat 0, .dat 0, .dat 1, .dat 0], T := [(3, ty3), (25, ty25)], S := [(101, S_spec_maParts), (139, S_spec_l1All)], H := [], res := [.tmp 2], ios := [], G := gl0 }
noncomputable def F_spec_maGood : List D → Option Out := denF c_spec_maGood Tryd.f91
@[reducible] noncomputable def S_spec_maGood : FS := { pm := [.dat 0], rm := [.dat 0], f := F_spec_maGood }
theorem M_spec_maGood : Meets gl0 Tryd.prog 91 S_spec_maGood := meets_of (P := Tryd.prog) (c := c_spec_maGood) (fn := Tryd.f91) (pm := S_spec_maGood.pm) (rm := S_spec_maGood.rm) (by kernel_rfl) (lookCons M_spec_maParts (lookCons M_spec_l1All lookNil)) follows_mixed Tryd.func91 (by kernel_rfl) (by kernel_rfl) rfl
/-- loop.example/g01054/spec.maCan -/
@[reducible] noncomputable def c_spec_maCan : Cx := { K := [.dat 0, .dat 0, .box 5 0 false, .box 5 0 false, .dat 0, .dat 1, .dat 0, .dat 0, .dat 0, .dat 1, .dat 0, .dat 1, .dat 0, .dat 0, .dat 0, .dat 0, .dat 1, .dat 0, .dat 0, .dat 1, .dat 0, .dat 1, .dat 0, .dat 0, .dat 0, .ref 2, .dat 0, .ref 3, .dat 0, .dat 0], T := [(3, ty3), (25, ty25), (28, ty28)], S := [(101, S_spec_maParts)], H := [(0, ([2, 3, 5, 11, 12, 13], [2, 3]))], res := [.tmp 4], ios := [], G := gl0 }
noncomputable def F_spec_maCan : List D → Option Out := denF c_spec_maCan Tryd.f92
@[reducible] noncomputable def S_spec_maCan : FS := { pm := [.dat 0, .dat 0], rm := [.dat 0], f := F_spec_maCan }
theorem M_spec_maCan : Meets gl0 Tryd.prog 92 S_spec_maCan := meets_of (P := Tryd.prog) (c := c_spec_maCan) (fn := Tryd.f92) (pm := S_spec_maCan.pm) (rm := S_spec_maCan.rm) (by kernel_rfl) (lookCons M_spec_maParts lookNil) follows_mixed Tryd.func92 (by kernel_rfl) (by kernel_rfl) rfl
/-- loop.example/g01054/spec.maFilings -/
@[reducible] noncomputable def c_spec_maFilings : Cx := { K := [.dat 0, .dat 0, .box 5 0 false, .box 5 0 false, .own 1 0 false, .own 1 0 false, .dat 1, .dat 0, .dat 0, .dat 0, .dat 1, .dat 0, .dat 1, .dat 0, .dat 0, .dat 0, .dat 0, .dat 1, .dat 0, .own 1 0 false, .dat 0, .dat 1, .dat 0, .dat 1, .dat 0, .dat 0, .dat 1, .own 1 0 false, .dat 0, .own 1 0 false], T := [(3, ty3), (25, ty25), (28, ty28)], S := [(101, S_spec_maParts)], H := [(0, ([5, 6, 12, 13, 14], [5]))], res := [.tmp 4], ios := [], G := gl0 }
noncomputable def F_spec_maFilings : List D → Option Out := denF c_spec_maFilings Tryd.f93
@[reducible] noncomputable def S_spec_maFilings : FS := { pm := [.dat 0, .dat 0], rm := [.own 1 0 false], f := F_spec_maFilings }
theorem M_spec_maFilings : Meets gl0 Tryd.prog 93 S_spec_maFilings := meets_of (P := Tryd.prog) (c := c_spec_maFilings) (fn := Tryd.f93) (pm := S_spec_maFilings.pm) (rm := S_spec_maFilings.rm) (by kernel_rfl) (lookCons M_spec_maParts lookNil) follows_mixed Tryd.func93 (by kernel_rfl) (by kernel_rfl) rfl
/-- loop.example/g01054/spec.FilingsFor -/
@[reducible] noncomputable def c_spec_FilingsFor : Cx := { K := [.dat 0, .dat 0, .box 5 0 false, .box 5 0 false, .own 1 0 false, .dat 0, .dat 0, .dat 0, .dat 0, .dat 0, .dat 0, .dat 0, .dat 0, .dat 0, .dat 0, .dat 0, .dat 0, .dat 0, .dat 0, .dat 0, .dat 0, .dat 0, .own 1 0 false], T := [(3, ty3), (25, ty25), (28, ty28)], S := [(91, S_spec_maGood), (92, S_spec_maCan), (93, S_spec_maFilings)], H := [], res := [.tmp 4, .tmp 5], ios := [], G := gl0 }
noncomputable def F_spec_FilingsFor : List D → Option Out := denF c_spec_FilingsFor Tryd.f10
@[reducible] noncomputable def S_spec_FilingsFor : FS := { pm := [.dat 0, .dat 0], rm := [.own 1 0 false, .dat 0], f := F_spec_FilingsFor }
theorem M_spec_FilingsFor : Meets gl0 Tryd.prog 10 S_spec_FilingsFor := meets_of (P := Tryd.prog) (c := c_spec_FilingsFor) (fn := Tryd.f10) (pm := S_spec_FilingsFor.pm) (rm := S_spec_FilingsFor.rm) (by kernel_rfl) (lookCons M_spec_maGood (lookCons M_spec_maCan (lookCons M_spec_maFilings lookNil))) follows_mixed Tryd.func10 (by kernel_rfl) (by kernel_rfl) rfl
/-- loop.example/g01054/impl.CanBeJustified -/
@[reducible] noncomputable def c_impl_CanBeJustified : Cx := { K := [.dat 0, .dat 0, .box 5 0 false, .box 5 0 false, .dat 0, .dat 0, .dat 1, .dat 0, .dat 0, .dat 0, .dat 0, .dat 0, .dat 0, .dat 0, .dat 0, .dat 0, .tup [.own 1 0 false, .dat 0], .dat 0, .dat 0, .tup [.own 1 0 false, .dat 0], .dat 1, .dat 0, .dat 0], T := [(3, ty3), (25, ty25)], S := [(14, S_impl_IsStrike), (90, S_impl_Strike_filings)], H := [], res := [.tmp 4, .tmp 5], ios := [], G := gl0 }
noncomputable def F_impl_CanBeJustified : List D → Option Out := denF c_impl_CanBeJustified Tryd.f11
@[reducible] noncomputable def S_impl_CanBeJustified : FS := { pm := [.dat 0, .dat 0], rm := [.dat 0, .dat 0], f := F_impl_CanBeJustified }
theorem M_impl_CanBeJustified : Meets gl0 Tryd.prog 11 S_impl_CanBeJustified := meets_of (P := Tryd.prog) (c := c_impl_CanBeJustified) (fn := Tryd.f11) (pm := S_impl_CanBeJustified.pm) (rm := S_impl_CanBeJustified.rm) (by kernel_rfl) (lookCons M_impl_IsStrike (lookCons M_impl_Strike_filings lookNil)) follows_mixed Tryd.func11 (by kernel_rfl) (by kernel_rfl) rfl
/-- loop.example/g01054/spec.CanBeJustified -/
@[reducible] noncomputable def c_spec_CanBeJustified : Cx := { K := [.dat 0, .dat 0, .box 5 0 false, .box 5 0 false, .dat 0, .dat 0, .dat 0, .dat 0, .dat 0, .dat 0, .dat 0, .dat 0, .dat 0, .dat 0, .dat 0, .dat 0, .dat 0], T := [(3, ty3), (25, ty25)], S := [(91, S_spec_maGood), (92, S_spec_maCan)], H := [], res := [.tmp 4, .tmp 5], ios := [], G := gl0 }
noncomputable def F_spec_CanBeJustified : List D → Option Out := denF c_spec_CanBeJustified Tryd.f12
@[reducible] noncomputable def S_spec_CanBeJustified : FS := { pm := [.dat 0, .dat 0], rm := [.dat 0, .dat 0], f := F_spec_CanBeJustified }
theorem M_spec_CanBeJustified : Meets gl0 Tryd.prog 12 S_spec_CanBeJustified := meets_of (P := Tryd.prog) (c := c_spec_CanBeJustified) (fn := Tryd.f12) (pm := S_spec_CanBeJustified.pm) (rm := S_spec_CanBeJustified.rm) (by kernel_rfl) (lookCons M_spec_maGood (lookCons M_spec_maCan lookNil)) follows_mixed Tryd.func12 (by kernel_rfl) (by kernel_rfl) rfl
/-- loop.example/g01054/laws.sameInts -/
@[reducible] noncomputable def c_laws_sameInts : Cx := { K := [.dat 2, .dat 2, .no, .no, .dat 0, .dat 0, .dat 2, .dat 0, .dat 2, .dat 0, .dat 0, .dat 2, .dat 0, .dat 0, .dat 0, .dat 0, .dat 2, .dat 0, .dat 2, .dat 0, .dat 2, .dat 0, .dat 2, .dat 0, .dat 0, .dat 0], T := [(3, ty3), (28, ty28)], S := [], H := [(0, ([0, 1, 12, 13], []))], res := [.tmp 4], ios := [], G := gl0 }
noncomputable def F_laws_sameInts : List D → Option Out := denF c_laws_sameInts Tryd.f13
@[reducible] noncomputable def S_laws_sameInts : FS := { pm := [.dat 2, .dat 2], rm := [.dat 0], f := F_laws_sameInts }
theorem M_laws_sameInts : Meets gl0 Tryd.prog 13 S_laws_sameInts := meets_of (P := Tryd.prog) (c := c_laws_sameInts) (fn := Tryd.f13) (pm := S_laws_sameInts.pm) (rm := S_laws_sameInts.rm) (by kernel_rfl) lookNil follows_mixed Tryd.func13 (by kernel_rfl) (by kernel_rfl) rfl
/-- loop.example/g01054/spec.DrawCastsLeft -/
@[reducible] noncomputable def c_spec_DrawCastsLeft : Cx := { K := [.dat 2, .no, .box 5 0 false, .box 5 0 false, .dat 0, .ref 9, .box 5 0 false, .dat 2, .dat 2, .box 3 2 false, .ref 9, .dat 0, .dat 0, .ref 9, .dat 0, .dat 0, .ref 9, .ref 9, .dat 1, .dat 0, .dat 1, .dat 0], T := [(3, ty3), (22, ty22), (25, ty25), (28, ty28), (108, ty108), (110, ty110)], S := [(88, S_spec_l1Cur_anyStrike), (89, S_spec_l1Cur_lower), (96, S_spec_l1Cur_among)], H := [], res := [.cell 2 25, .cell 3 25, .tmp 4], ios := [], G := gl0 }
noncomputable def F_spec_DrawCastsLeft : List D → Option Out := denF c_spec_DrawCastsLeft Tryd.f15
@[reducible] noncomputable def S_spec_DrawCastsLeft : FS := { pm := [.dat 2], rm := [.dat 0, .dat 0, .dat 0], f := F_spec_DrawCastsLeft }
theorem M_spec_DrawCastsLeft : Meets gl0 Tryd.prog 15 S_spec_DrawCastsLeft := meets_of (P := Tryd.prog) (c := c_spec_DrawCastsLeft) (fn := Tryd.f15) (pm := S_spec_DrawCastsLeft.pm) (rm := S_spec_DrawCastsLeft.rm) (by kernel_rfl) (lookCons M_spec_l1Cur_anyStrike (lookCons M_spec_l1Cur_lower (lookCons M_spec_l1Cur_among lookNil))) follows_mixed Tryd.func15 (by kernel_rfl) (by kernel_rfl) rfl
/-- loop.example/g01054/impl.CastsLeft -/
@[reducible] noncomputable def c_impl_CastsLeft : Cx := { K := [.dat 0, .dat 0, .dat 0, .box 5 0 false, .box 5 0 false, .no, .dat 0, .dat 0, .dat 0, .dat 0, .ref 4, .dat 0, .dat 0, .ref 3, .dat 0, .dat 0, .dat 0, .dat 0, .dat 0, .dat 0, .dat 0, .dat 0, .dat 0, .dat 0, .dat 0, .dat 0, .dat 0, .dat 0, .dat 0, .dat 0, .dat 0, .dat 0, .dat 0, .dat 0, .dat 0, .dat 0, .dat 0], T := [(3, ty3), (25, ty25)], S := [(14, S_impl_IsStrike), (95, S_impl_within)], H := [], res := [.tmp 6, .tmp 7], ios := [], G := gl0 }
noncomputable def F_impl_CastsLeft : List D → Option Out := denF c_impl_CastsLeft Tryd.f16
@[reducible] noncomputable def S_impl_CastsLeft : FS := { pm := [.dat 0, .dat 0, .dat 0], rm := [.dat 0, .dat 0], f := F_impl_CastsLeft }
theorem M_impl_CastsLeft : Meets gl0 Tryd.prog 16 S_impl_CastsLeft := meets_of (P := Tryd.prog) (c := c_impl_CastsLeft) (fn := Tryd.f16) (pm := S_impl_CastsLeft.pm) (rm := S_impl_CastsLeft.rm) (by kernel_rfl) (lookCons M_impl_IsStrike (lookCons M_impl_within lookNil)) follows_mixed Tryd.func16 (by kernel_rfl) (by kernel_rfl) rfl
/-- loop.example/g01054/spec.l1Least -/
@[reducible] noncomputable def c_spec_l1Least : Cx := { K := [.dat 0, .dat 0, .no, .no, .dat 0, .dat 0, .dat 0, .dat 0, .dat 0, .dat 0], T := [(3, ty3)], S := [], H := [], res := [.tmp 4], ios := [], G := gl0 }
noncomputable def F_spec_l1Least : List D → Option Out := denF c_spec_l1Least Tryd.f98
@[reducible] noncomputable def S_spec_l1Least : FS := { pm := [.dat 0, .dat 0], rm := [.dat 0], f := F_spec_l1Least }
theorem M_spec_l1Least : Meets gl0 Tryd.prog 98 S_spec_l1Least := meets_of (P := Tryd.prog) (c := c_spec_l1Least) (fn := Tryd.f98) (pm := S_spec_l1Least.pm) (rm := S_spec_l1Least.rm) (by kernel_rfl) lookNil follows_mixed Tryd.func98 (by kernel_rfl) (by kernel_rfl) rfl
/-- loop.example/g01054/spec.CastsLeft -/
@[reducible] noncomputable def c_spec_CastsLeft : Cx := { K := [.dat 0, .dat 0, .dat 0, .box 5 0 false, .box 5 0 false, .no, .dat 0, .dat 0, .dat 0, .dat 0, .dat 0, .dat 0, .dat 0, .dat 0, .dat 0, .dat 0, .dat 0, .dat 0, .dat 0, .dat 0, .dat 0, .dat 0, .ref 3, .dat 0, .ref 4, .dat 0, .dat 0, .dat 0, .dat 0, .dat 0, .ref 4, .dat 0, .dat 0, .dat 0, .ref 3, .dat 0, .dat 0, .dat 0, .dat 0, .dat 0], T := [(3, ty3), (25, ty25)], S := [(91, S_spec_maGood), (97, S_spec_l1In), (98, S_spec_l1Least)], H := [], res := [.tmp 6, .tmp 7], ios := [], G := gl0 }
noncomputable def F_spec_CastsLeft : List D → Option Out := denF c_spec_CastsLeft Tryd.f17
@[reducible] noncomputable def S_spec_CastsLeft : FS := { pm := [.dat 0, .dat 0, .dat 0], rm := [.dat 0, .dat 0], f := F_spec_CastsLeft }
theorem M_spec_CastsLeft : Meets gl0 Tryd.prog 17 S_spec_CastsLeft := meets_of (P := Tryd.prog) (c := c_spec_CastsLeft) (fn := Tryd.f17) (pm := S_spec_CastsLeft.pm) (rm := S_spec_CastsLeft.rm) (by kernel_rfl) (lookCons M_spec_maGood (lookCons M_spec_l1In (lookCons M_spec_l1Least lookNil))) follows_mixed Tryd.func17 (by kernel_rfl) (by kernel_rfl) rfl
/-- loop.example/g01054/impl.DepthAfter -/
@[reducible] noncomputable def c_impl_DepthAfter : Cx := { K := [.dat 0, .dat 0, .box 5 0 false, .no, .dat 0, .dat 0, .dat 0, .dat 0, .dat 0, .dat 0, .dat 0, .dat 0, .dat 0, .dat 0, .ref 2, .dat 0, .dat 0, .dat 0, .dat 0], T := [(3, ty3), (25, ty25)], S := [(14, S_impl_IsStrike), (95, S_impl_within)], H := [], res := [.tmp 4, .tmp 5], ios := [], G := gl0 }
noncomputable def F_impl_DepthAfter : List D → Option Out := denF c_impl_DepthAfter Tryd.f18
@[reducible] noncomputable def S_impl_DepthAfter : FS := { pm := [.dat 0, .dat 0], rm := [.dat 0, .dat 0], f := F_impl_DepthAfter }
theorem M_impl_DepthAfter : Meets gl0 Tryd.prog 18 S_impl_DepthAfter := meets_of (P := Tryd.prog) (c := c_impl_DepthAfter) (fn := Tryd.f18) (pm := S_impl_DepthAfter.pm) (rm := S_impl_DepthAfter.rm) (by kernel_rfl) (lookCons M_impl_IsStrike (lookCons M_impl_within lookNil)) follows_mixed Tryd.func18 (by kernel_rfl) (by kernel_rfl) rfl
/-- loop.example/g01054/spec.DrawFileStrike -/
@[reducible] noncomputable def c_spec_DrawFileStrike : Cx := { K := [.dat 2, .no, .box 5 0 false, .dat 0, .dat 0, .ref 8, .dat 2, .dat 2, .box 3 2 false, .ref 8, .dat 0, .ref 8, .dat 0, .ref 8, .dat 0, .dat 0, .dat 0, .ref 8, .ref 8, .dat 1, .dat 0, .dat 1, .dat 0], T := [(3, ty3), (22, ty22), (25, ty25), (28, ty28), (108, ty108), (110, ty110)], S := [(88, S_spec_l1Cur_anyStrike), (96, S_spec_l1Cur_among), (99, S_spec_l1Cur_pick)], H := [], res := [.cell 2 25, .tmp 3, .tmp 4], ios := [], G := gl0 }
noncomputable def F_spec_DrawFileStrike : List D → Option Out := denF c_spec_DrawFileStrike Tryd.f19
@[reducible] noncomputable def S_spec_DrawFileStrike : FS := { pm := [.dat 2], rm := [.dat 0, .dat 0, .dat 0], f := F_spec_DrawFileStrike }
theorem M_spec_DrawFileStrike : Meets gl0 Tryd.prog 19 S_spec_DrawFileStrike := meets_of (P := Tryd.prog) (c := c_spec_DrawFileStrike) (fn := Tryd.f19) (pm := S_spec_DrawFileStrike.pm) (rm := S_spec_DrawFileStrike.rm) (by kernel_rfl) (lookCons M_spec_l1Cur_anyStrike (lookCons M_spec_l1Cur_among (lookCons M_spec_l1Cur_pick lookNil))) follows_mixed Tryd.func19 (by kernel_rfl) (by kernel_rfl) rfl
/-- loop.example/g01054/impl.strikeOf -/
@[reducible] noncomputable def c_impl_strikeOf : Cx := { K := [.dat 2, .no, .box 5 0 false, .dat 2, .dat 2, .dat 0, .dat 2, .dat 2, .dat 0, .dat 2, .dat 2, .dat 0, .dat 2, .dat 2, .dat 0, .dat 2, .dat 2, .dat 0, .dat 0], T := [(3, ty3), (25, ty25), (28, ty28)], S := [], H := [], res := [.cell 2 25], ios := [], G := gl0 }
noncomputable def F_impl_strikeOf : List D → Option Out := denF c_impl_strikeOf Tryd.f100
@[reducible] noncomputable def S_impl_strikeOf : FS := { pm := [.dat 2], rm := [.dat 0], f := F_impl_strikeOf }
theorem M_impl_strikeOf : Meets gl0 Tryd.prog 100 S_impl_strikeOf := meets_of (P := Tryd.prog) (c := c_impl_strikeOf) (fn := Tryd.f100) (pm := S_impl_strikeOf.pm) (rm := S_impl_strikeOf.rm) (by kernel_rfl) lookNil follows_mixed Tryd.func100 (by kernel_rfl) (by kernel_rfl) rfl
/-- loop.example/g01054/impl.FileStrike -/
@[reducible] noncomputable def c_impl_FileStrike : Cx := { K := [.dat 0, .dat 0, .dat 0, .box 5 0 false, .no, .no, .box 5 0 false, .dat 0, .via 29, .box 5 0 false, .dat 0, .dat 0, .dat 0, .dat 0, .dat 0, .dat 0, .dat 0, .dat 0, .dat 0, .dat 0, .dat 0, .dat 0, .dat 0, .dat 0, .dat 0, .dat 0, .dat 0, .dat 0, .dat 0, .own 1 0 false, .via 29, .dat 0, .ref 29, .dat 0, .dat 0, .dat 0, .ref 29, .via 29, .dat 0, .dat 0, .dat 0, .dat 0, .dat 0, .dat 0], T := [(3, ty3), (25, ty25), (28, ty28)], S := [(14, S_impl_IsStrike), (94, S_impl_Strike_parts), (95, S_impl_within), (100, S_impl_strikeOf)], H := [], res := [.cell 6 25, .tmp 7], ios := [], G := gl0 }
noncomputable def F_impl_FileStrike : List D → Option Out := denF c_impl_FileStrike Tryd.f20
@[reducible] noncomputable def S_impl_FileStrike : FS := { pm := [.dat 0, .dat 0, .dat 0], rm := [.dat 0, .dat 0], f := F_impl_FileStrike }
theorem M_impl_FileStrike : Meets gl0 Tryd.prog 20 S_impl_FileStrike := meets_of (P := Tryd.prog) (c := c_impl_FileStrike) (fn := Tryd.f20) (pm := S_impl_FileStrike.pm) (rm := S_impl_FileStrike.rm) (by kernel_rfl) (lookCons M_impl_IsStrike (lookCons M_impl_Strike_parts (lookCons M_impl_within (lookCons M_impl_strikeOf lookNil)))) follows_mixed Tryd.func20 (by kernel_rfl) (by kernel_rfl) rfl
/-- loop.example/g01054/spec.FileStrike -/
@[reducible] noncomputable def c_spec_FileStrike : Cx := { K := [.dat 0, .dat 0, .dat 0, .box 5 0 false, .no, .no, .box 5 0 false, .dat 0, .via 28, .dat 0, .dat 0, .dat 0, .dat 0, .dat 0, .dat 0, .dat 0, .dat 0, .dat 0, .dat 0, .dat 0, .dat 0, .dat 0, .dat 0, .dat 0, .dat 0, .dat 0, .dat 0, .dat 0, .own 1 0 false, .via 28, .dat 0, .ref 28, .dat 0, .dat 0, .dat 0, .ref 28, .via 28, .dat 0, .dat 0, .dat 0, .dat 0, .via 28, .dat 0], T := [(3, ty3), (25, ty25), (28, ty28)], S := [(91, S_spec_maGood), (97, S_spec_l1In), (101, S_spec_maParts), (102, S_spec_maOf)], H := [], res := [.cell 6 25, .tmp 7], ios := [], G := gl0 }
noncomputable def F_spec_FileStrike : List D → Option Out := denF c_spec_FileStrike Tryd.f21
@[reducible] noncomputable def S_spec_FileStrike : FS := { pm := [.dat 0, .dat 0, .dat 0], rm := [.dat 0, .dat 0], f := F_spec_FileStrike }
theorem M_spec_FileStrike : Meets gl0 Tryd.prog 21 S_spec_FileStrike := meets_of (P := Tryd.prog) (c := c_spec_FileStrike) (fn := Tryd.f21) (pm := S_spec_FileStrike.pm) (rm := S_spec_FileStrike.rm) (by kernel_rfl) (lookCons M_spec_maGood (lookCons M_spec_l1In (lookCons M_spec_maParts (lookCons M_spec_maOf lookNil)))) follows_mixed Tryd.func21 (by kernel_rfl) (by kernel_rfl) rfl
/-- loop.example/g01054/impl.CentreStrike -/
@[reducible] noncomputable def c_impl_CentreStrike : Cx := { K := [.dat 0, .box 5 0 false, .box 5 0 false, .dat 0, .dat 0, .dat 0, .dat 0, .dat 0, .dat 0, .ref 1, .dat 0, .ref 1, .dat 0, .dat 0, .dat 0, .dat 0, .ref 1, .ref 1, .dat 0], T := [(3, ty3), (25, ty25)], S := [(14, S_impl_IsStrike)], H := [], res := [.cell 2 25, .tmp 3], ios := [], G := gl0 }
noncomputable def F_impl_CentreStrike : List D → Option Out := denF c_impl_CentreStrike Tryd.f22
@[reducible] noncomputable def S_impl_CentreStrike : FS := { pm := [.dat 0], rm := [.dat 0, .dat 0], f := F_impl_CentreStrike }
theorem M_impl_CentreStrike : Meets gl0 Tryd.prog 22 S_impl_CentreStrike := meets_of (P := Tryd.prog) (c := c_impl_CentreStrike) (fn := Tryd.f22) (pm := S_impl_CentreStrike.pm) (rm := S_impl_CentreStrike.rm) (by kernel_rfl) (lookCons M_impl_IsStrike lookNil) follows_mixed Tryd.func22 (by kernel_rfl) (by kernel_rfl) rfl
/-- loop.example/g01054/spec.CentreStrike -/
@[reducible] noncomputable def c_spec_CentreStrike : Cx := { K := [.dat 0, .box 5 0 false, .box 5 0 false, .dat 0, .dat 0, .dat 0, .dat 0, .dat 0, .dat 0, .ref 1, .dat 0, .ref 1, .dat 0, .dat 0, .dat 0, .ref 1, .dat 0, .ref 1, .dat 0], T := [(3, ty3), (25, ty25)], S := [(91, S_spec_maGood), (98, S_spec_l1Least)], H := [], res := [.cell 2 25, .tmp 3], ios := [], G := gl0 }
noncomputable def F_spec_CentreStrike : List D → Option Out := denF c_spec_CentreStrike Tryd.f23
@[reducible] noncomputable def S_spec_CentreStrike : FS := { pm := [.dat 0], rm := [.dat 0, .dat 0], f := F_spec_CentreStrike }
theorem M_spec_CentreStrike : Meets gl0 Tryd.prog 23 S_spec_CentreStrike := meets_of (P := Tryd.prog) (c := c_spec_CentreStrike) (fn := Tryd.f23) (pm := S_spec_CentreStrike.pm) (rm := S_spec_CentreStrike.rm) (by kernel_rfl) (lookCons M_spec_maGood (lookCons M_spec_l1Least lookNil)) follows_mixed Tryd.func23 (by kernel_rfl) (by kernel_rfl) rfl
/-- loop.example/g01054/impl.join -/
@[reducible] noncomputable def c_impl_join : Cx := { K := [.dat 2, .dat 0, .no, .no, .dat 0, .own 1 0 false, .no, .dat 0, .own 1 0 false, .dat 2, .dat 0, .dat 0, .dat 0, .dat 2, .dat 0, .own 1 0 false, .dat 0, .dat 0, .dat 1, .own 1 0 false, .dat 0, .via 5, .dat 0, .dat 0], T := [(3, ty3), (9, ty9), (28, ty28), (93, ty93)], S := [(150, S_strings_Join), (154, S_strconv_Itoa)], H := [(0, ([1, 5, 9, 10, 11], [1, 5]))], res := [.tmp 4], ios := [], G := gl1 }
noncomputable def F_impl_join : List D → Option Out := denF c_impl_join Tryd.f103
@[reducible] noncomputable def S_impl_join : FS := { pm := [.dat 2, .dat 0], rm := [.dat 0], f := F_impl_join }
theorem M_impl_join : Meets gl1 Tryd.prog 103 S_impl_join := meets_of (P := Tryd.prog) (c := c_impl_join) (fn := Tryd.f103) (pm := S_impl_join.pm) (rm := S_impl_join.rm) (by kernel_rfl) (lookCons (meets_mono gl01 M_strings_Join) (lookCons M_strconv_Itoa lookNil)) follows_mixed Tryd.func103 (by kernel_rfl) (by kernel_rfl) rfl
/-- loop.example/g01054/impl.StrikeText -/
@[reducible] noncomputable def c_impl_StrikeText : Cx := { K := [.dat 0, .box 5 0 false, .dat 0, .dat 0, .dat 0, .dat 0, .dat 0, .dat 0, .dat 1, .dat 0], T := [(3, ty3), (25, ty25)], S := [(14, S_impl_IsStrike), (94, S_impl_Strike_parts), (103, S_impl_join)], H := [], res := [.tmp 2, .tmp 3], ios := [], G := gl1 }
noncomputable def F_impl_StrikeText : List D → Option Out := denF c_impl_StrikeText Tryd.f24
@[reducible] noncomputable def S_impl_StrikeText : FS := { pm := [.dat 0], rm := [.dat 0, .dat 0], f := F_impl_StrikeText }
theorem M_impl_StrikeText : Meets gl1 Tryd.prog 24 S_impl_StrikeText := meets_of (P := Tryd.prog) (c := c_impl_StrikeText) (fn := Tryd.f24) (pm := S_impl_StrikeText.pm) (rm := S_impl_StrikeText.rm) (by kernel_rfl) (lookCons (meets_mono gl01 M_impl_IsStrike) (lookCons (meets_mono gl01 M_impl_Strike_parts) (lookCons M_impl_join lookNil))) follows_mixed Tryd.func24 (by kernel_rfl) (by kernel_rfl) rfl
/-- loop.example/g01054/spec.l1Num -/
@[reducible] noncomputable def c_spec_l1Num (k : List D → Option Out) : Cx := { K := [.dat 0, .no, .dat 0, .dat 0, .dat 0, .dat 0, .dat 0, .dat 0, .dat 1, .dat 0, .dat 0, .dat 0, .dat 0, .dat 0, .dat 0, .dat 0, .dat 0, .dat 1, .dat 0, .dat 0], T := [(3, ty3), (5, ty5), (9, ty9), (22, ty22)], S := [(155, { pm := [.dat 0], rm := [.dat 0], f := k })], H := [], res := [.tmp 2], ios := [], G := gl0 }
noncomputable def R_spec_l1Num : Nat → List D → Option Out
  | 0, _ => none
  | n + 1, ds => denF (c_spec_l1Num (R_spec_l1Num n)) Tryd.f155 ds
noncomputable def F_spec_l1Num : List D → Option Out := recF R_spec_l1Num
@[reducible] noncomputable def S_spec_l1Num : FS := { pm := [.dat 0], rm := [.dat 0], f := F_spec_l1Num }
theorem MR_spec_l1Num : ∀ n : Nat, Meets gl0 Tryd.prog 155 { pm := [.dat 0], rm := [.dat 0], f := R_spec_l1Num n }
  | 0 => meets_none (fun _ => rfl)
  | n + 1 => by
    have ih := MR_spec_l1Num n
    exact meets_of (P := Tryd.prog) (c := c_spec_l1Num (R_spec_l1Num n)) (fn := Tryd.f155) (pm := S_spec_l1Num.pm) (rm := S_spec_l1Num.rm) (by kernel_rfl) (lookCons ih lookNil) follows_mixed Tryd.func155 (by kernel_rfl) (by kernel_rfl) rfl
theorem M_spec_l1Num : Meets gl0 Tryd.prog 155 S_spec_l1Num := meets_rec MR_spec_l1Num
/-- loop.example/g01054/spec.maText -/
@[reducible] noncomputable def c_spec_maText : Cx := { K := [.dat 0, .box 5 0 false, .dat 0, .dat 0, .dat 0, .dat 0, .dat 0, .dat 1, .dat 0, .dat 0, .dat 0, .dat 0, .dat 1, .dat 0, .dat 0, .dat 0, .dat 0, .dat 0, .dat 0, .dat 0, .dat 0, .dat 0, .dat 0, .dat 0], T := [(3, ty3), (9, ty9), (25, ty25), (28, ty28)], S := [(101, S_spec_maParts), (155, S_spec_l1Num)], H := [(0, ([3, 7, 8, 9], [3]))], res := [.tmp 2], ios := [], G := gl0 }
noncomputable def F_spec_maText : List D → Option Out := denF c_spec_maText Tryd.f104
@[reducible] noncomputable def S_spec_maText : FS := { pm := [.dat 0], rm := [.dat 0], f := F_spec_maText }
theorem M_spec_maText : Meets gl0 Tryd.prog 104 S_spec_maText := meets_of (P := Tryd.prog) (c := c_spec_maText) (fn := Tryd.f104) (pm := S_spec_maText.pm) (rm := S_spec_maText.rm) (by kernel_rfl) (lookCons M_spec_maParts (lookCons M_spec_l1Num lookNil)) follows_mixed Tryd.func104 (by kernel_rfl) (by kernel_rfl) rfl
/-- loop.example/g01054/spec.StrikeText -/
@[reducible] noncomputable def c_spec_StrikeText : Cx := { K := [.dat 0, .box 5 0 false, .dat 0, .dat 0, .dat 0, .dat 0, .dat 0, .dat 0, .dat 0], T := [(3, ty3), (25, ty25)], S := [(91, S_spec_maGood), (104, S_spec_maText)], H := [], res := [.tmp 2, .tmp 3], ios := [], G := gl0 }
noncomputable def F_spec_StrikeText : List D → Option Out := denF c_spec_StrikeText Tryd.f25
@[reducible] noncomputable def S_spec_StrikeText : FS := { pm := [.dat 0], rm := [.dat 0, .dat 0], f := F_spec_StrikeText }
theorem M_spec_StrikeText : Meets gl0 Tryd.prog 25 S_spec_StrikeText := meets_of (P := Tryd.prog) (c := c_spec_StrikeText) (fn := Tryd.f25) (pm := S_spec_StrikeText.pm) (rm := S_spec_StrikeText.rm) (by kernel_rfl) (lookCons M_spec_maGood (lookCons M_spec_maText lookNil)) follows_mixed Tryd.func25 (by kernel_rfl) (by kernel_rfl) rfl
/-- (*loop.example/g01054/spec.l1Cur).spoilt -/
@[reducible] noncomputable def c_spec_l1Cur_spoilt : Cx := { K := [.box 3 2 true, .dat 0, .dat 0, .no, .no, .no, .dat 0, .dat 0, .dat 0, .dat 0, .ref 0, .dat 0, .dat 0, .dat 0, .dat 0, .dat 0, .dat 0, .dat 0, .dat 0, .dat 0, .dat 0, .dat 0, .ref 0, .dat 0, .dat 0, .dat 0, .dat 0, .ref 0, .dat 0, .dat 0, .dat 0, .dat 0, .dat 1, .dat 0, .ref 0, .dat 0, .dat 0, .dat 0, .dat 0, .dat 0, .dat 0, .dat 0, .dat 0, .dat 0, .dat 0, .dat 0, .dat 0, .dat 0, .dat 0, .dat 0, .dat 0, .dat 0, .dat 0, .dat 0, .dat 0, .dat 0, .dat 0, .dat 0, .dat 0, .dat 0, .dat 0, .dat 0, .dat 0, .dat 0, .dat 0, .dat 0, .dat 0, .dat 0], T := [(3, ty3), (5, ty5), (9, ty9), (22, ty22)], S := [(99, S_spec_l1Cur_pick)], H := [(0, ([0, 1, 2, 7], [0, 1]))], res := [.tmp 6], ios := [0], G := gl0 }
noncomputable def F_spec_l1Cur_spoilt : List D → Option Out := denF c_spec_l1Cur_spoilt Tryd.f106
@[reducible] noncomputable def S_spec_l1Cur_spoilt : FS := { pm := [.box 3 2 true, .dat 0, .dat 0], rm := [.dat 0], f := F_spec_l1Cur_spoilt }
theorem M_spec_l1Cur_spoilt : Meets gl0 Tryd.prog 106 S_spec_l1Cur_spoilt := meets_of (P := Tryd.prog) (c := c_spec_l1Cur_spoilt) (fn := Tryd.f106) (pm := S_spec_l1Cur_spoilt.pm) (rm := S_spec_l1Cur_spoilt.rm) (by kernel_rfl) (lookCons M_spec_l1Cur_pick lookNil) follows_mixed Tryd.func106 (by kernel_rfl) (by kernel_rfl) rfl
/-- (*loop.example/g01054/spec.l1Cur).of -/
@[reducible] noncomputable def c_spec_l1Cur_of : Cx := { K := [.box 3 2 true, .dat 2, .no, .no, .dat 0, .dat 2, .ref 0, .dat 2, .dat 0, .dat 0, .dat 2, .dat 0], T := [(9, ty9), (93, ty93)], S := [(99, S_spec_l1Cur_pick)], H := [], res := [.tmp 4], ios := [0], G := gl0 }
noncomputable def F_spec_l1Cur_of : List D → Option Out := denF c_spec_l1Cur_of Tryd.f107
@[reducible] noncomputable def S_spec_l1Cur_of : FS := { pm := [.box 3 2 true, .dat 2], rm := [.dat 0], f := F_spec_l1Cur_of }
theorem M_spec_l1Cur_of : Meets gl0 Tryd.prog 107 S_spec_l1Cur_of := meets_of (P := Tryd.prog) (c := c_spec_l1Cur_of) (fn := Tryd.f107) (pm := S_spec_l1Cur_of.pm) (rm := S_spec_l1Cur_of.rm) (by kernel_rfl) (lookCons M_spec_l1Cur_pick lookNil) follows_mixed Tryd.func107 (by kernel_rfl) (by kernel_rfl) rfl
/-- loop.example/g01054/spec.DrawParseStrike -/
@[reducible] noncomputable def c_spec_DrawParseStrike : Cx := { K := [.dat 2, .no, .dat 0, .ref 7, .dat 0, .dat 2, .dat 2, .box 3 2 false, .ref 7, .dat 0, .dat 0, .ref 7, .dat 0, .dat 0, .dat 0, .ref 7, .dat 0, .dat 0, .dat 0, .dat 0, .ref 7, .dat 1, .dat 0, .dat 0], T := [(3, ty3), (9, ty9), (22, ty22), (93, ty93), (108, ty108), (110, ty110)], S := [(99, S_spec_l1Cur_pick), (104, S_spec_maText), (105, S_spec_l1Cur_strike), (106, S_spec_l1Cur_spoilt), (107, S_spec_l1Cur_of)], H := [], res := [.tmp 2], ios := [], G := gl0 }
noncomputable def F_spec_DrawParseStrike : List D → Option Out := denF c_spec_DrawParseStrike Tryd.f26
@[reducible] noncomputable def S_spec_DrawParseStrike : FS := { pm := [.dat 2], rm := [.dat 0], f := F_spec_DrawParseStrike }
theorem M_spec_DrawParseStrike : Meets gl0 Tryd.prog 26 S_spec_DrawParseStrike := meets_of (P := Tryd.prog) (c := c_spec_DrawParseStrike) (fn := Tryd.f26) (pm := S_spec_DrawParseStrike.pm) (rm := S_spec_DrawParseStrike.rm) (by kernel_rfl) (lookCons M_spec_l1Cur_pick (lookCons M_spec_maText (lookCons M_spec_l1Cur_strike (lookCons M_spec_l1Cur_spoilt (lookCons M_spec_l1Cur_of lookNil))))) follows_mixed Tryd.func26 (by kernel_rfl) (by kernel_rfl) rfl
/-- loop.example/g01054/impl.numbersIn -/
@[reducible] noncomputable def c_impl_numbersIn : Cx := { K := [.dat 0, .no, .own 1 0 false, .own 1 0 false, .no, .dat 0, .dat 0, .dat 0, .own 1 0 false, .dat 0, .dat 1, .dat 0, .dat 0, .dat 0, .dat 1, .dat 0, .tup [.dat 0, .dat 0], .dat 0, .tup [.dat 0, .dat 0], .dat 0, .dat 0, .dat 0, .dat 0, .own 1 0 false, .own 1 0 false, .dat 0, .dat 1, .own 1 0 false, .dat 0, .own 1 0 false], T := [(3, ty3), (9, ty9), (28, ty28), (93, ty93), (152, ty152)], S := [(156, S_strings_FieldsFunc), (158, S_strconv_Atoi)], H := [(0, ([3, 10, 11, 12], [3]))], res := [.tmp 2], ios := [], G := gl2 }
noncomputable def F_impl_numbersIn : List D → Option Out := denF c_impl_numbersIn Tryd.f108
@[reducible] noncomputable def S_impl_numbersIn : FS := { pm := [.dat 0], rm := [.own 1 0 false], f := F_impl_numbersIn }
theorem M_impl_numbersIn : Meets gl2 Tryd.prog 108 S_impl_numbersIn := meets_of (P := Tryd.prog) (c := c_impl_numbersIn) (fn := Tryd.f108) (pm := S_impl_numbersIn.pm) (rm := S_impl_numbersIn.rm) (by kernel_rfl) (lookCons (meets_mono gl02 M_strings_FieldsFunc) (lookCons M_strconv_Atoi lookNil)) follows_mixed Tryd.func108 (by kernel_rfl) (by kernel_rfl) rfl
/-- loop.example/g01054/impl.ParseStrike -/
@[reducible] noncomputable def c_impl_ParseStrike : Cx := { K := [.dat 0, .no, .box 5 0 false, .dat 0, .dat 1, .dat 0, .dat 1, .dat 1, .dat 0, .dat 0, .dat 0, .dat 1, .dat 0, .dat 0, .dat 0, .dat 0, .dat 0, .dat 1, .dat 0, .dat 0, .dat 0, .dat 0, .dat 0, .dat 1, .dat 0], T := [(3, ty3), (9, ty9), (25, ty25), (28, ty28)], S := [(14, S_impl_IsStrike), (100, S_impl_strikeOf), (103, S_impl_join), (108, S_impl_numbersIn)], H := [], res := [.cell 2 25, .tmp 3], ios := [], G := gl2 }
noncomputable def F_impl_ParseStrike : List D → Option Out := denF c_impl_ParseStrike Tryd.f27
@[reducible] noncomputable def S_impl_ParseStrike : FS := { pm := [.dat 0], rm := [.dat 0, .dat 0], f := F_impl_ParseStrike }
theorem M_impl_ParseStrike : Meets gl2 Tryd.prog 27 S_impl_ParseStrike := meets_of (P := Tryd.prog) (c := c_impl_ParseStrike) (fn := Tryd.f27) (pm := S_impl_ParseStrike.pm) (rm := S_impl_ParseStrike.rm) (by kernel_rfl) (lookCons (meets_mono gl02 M_impl_IsStrike) (lookCons (meets_mono gl02 M_impl_strikeOf) (lookCons (meets_mono gl12 M_impl_join) (lookCons M_impl_numbersIn lookNil)))) follows_mixed Tryd.func27 (by kernel_rfl) (by kernel_rfl) rfl
/-- loop.example/g01054/spec.l1Split -/
@[reducible] noncomputable def c_spec_l1Split : Cx := { K := [.dat 0, .dat 0, .no, .no, .own 1 0 false, .own 1 0 false, .dat 0, .dat 0, .dat 0, .dat 0, .dat 0, .dat 0, .dat 0, .dat 0, .dat 0, .dat 0, .dat 0, .dat 0, .dat 0, .own 1 0 false, .dat 0, .dat 0, .dat 0, .dat 0, .dat 1, .own 1 0 false, .dat 0, .dat 0, .own 1 0 false, .dat 0, .dat 0, .dat 0, .dat 1, .own 1 0 false], T := [(3, ty3), (5, ty5), (9, ty9), (93, ty93)], S := [], H := [(0, ([0, 1, 5, 6, 7], [0, 5, 6]))], res := [.tmp 4], ios := [], G := gl0 }
noncomputable def F_spec_l1Split : List D → Option Out := denF c_spec_l1Split Tryd.f109
@[reducible] noncomputable def S_spec_l1Split : FS := { pm := [.dat 0, .dat 0], rm := [.own 1 0 false], f := F_spec_l1Split }
theorem M_spec_l1Split : Meets gl0 Tryd.prog 109 S_spec_l1Split := meets_of (P := Tryd.prog) (c := c_spec_l1Split) (fn := Tryd.f109) (pm := S_spec_l1Split.pm) (rm := S_spec_l1Split.rm) (by kernel_rfl) lookNil follows_mixed Tryd.func109 (by kernel_rfl) (by kernel_rfl) rfl
/-- loop.example/g01054/spec.l1Read -/
@[reducible] noncomputable def c_spec_l1Read : Cx := { K := [.dat 0, .no, .dat 0, .dat 0, .dat 0, .dat 0, .dat 0, .dat 0, .dat 0, .dat 0, .dat 0, .dat 0, .dat 0, .dat 0, .dat 0, .dat 0, .dat 0, .dat 0, .dat 0, .dat 0, .dat 0, .dat 0, .dat 0, .dat 0, .dat 0, .dat 0, .dat 0, .dat 0, .dat 0, .dat 0, .dat 0, .dat 0, .dat 0, .dat 0, .dat 0, .dat 0, .dat 0, .dat 0, .dat 0, .dat 0, .dat 0, .dat 0, .dat 0, .dat 0], T := [(3, ty3), (5, ty5), (9, ty9)], S := [(97, S_spec_l1In)], H := [(0, ([0, 3, 4], [3]))], res := [.tmp 2], ios := [], G := gl0 }
noncomputable def F_spec_l1Read : List D → Option Out := denF c_spec_l1Read Tryd.f110
@[reducible] noncomputable def S_spec_l1Read : FS := { pm := [.dat 0], rm := [.dat 0], f := F_spec_l1Read }
theorem M_spec_l1Read : Meets gl0 Tryd.prog 110 S_spec_l1Read := meets_of (P := Tryd.prog) (c := c_spec_l1Read) (fn := Tryd.f110) (pm := S_spec_l1Read.pm) (rm := S_spec_l1Read.rm) (by kernel_rfl) (lookCons M_spec_l1In lookNil) follows_mixed Tryd.func110 (by kernel_rfl) (by kernel_rfl) rfl
/-- loop.example/g01054/spec.ParseStrike -/
@[reducible] noncomputable def c_spec_ParseStrike : Cx := { K := [.dat 0, .no, .box 5 0 false, .dat 0, .dat 1, .own 1 0 false, .no, .dat 0, .dat 0, .dat 1, .dat 1, .dat 0, .dat 0, .dat 0, .dat 1, .dat 0, .dat 0, .dat 0, .dat 1, .dat 0, .own 1 0 false, .dat 0, .dat 0, .dat 1, .own 1 0 false, .dat 0, .via 5, .dat 0, .dat 0, .dat 0, .dat 0, .via 5, .dat 0], T := [(3, ty3), (9, ty9), (25, ty25), (28, ty28), (93, ty93)], S := [(91, S_spec_maGood), (102, S_spec_maOf), (109, S_spec_l1Split), (110, S_spec_l1Read)], H := [(0, ([2, 5, 14, 15, 16], [2, 5]))], res := [.cell 2 25, .tmp 3], ios := [], G := gl0 }
noncomputable def F_spec_ParseStrike : List D → Option Out := denF c_spec_ParseStrike Tryd.f28
@[reducible] noncomputable def S_spec_ParseStrike : FS := { pm := [.dat 0], rm := [.dat 0, .dat 0], f := F_spec_ParseStrike }
theorem M_spec_ParseStrike : Meets gl0 Tryd.prog 28 S_spec_ParseStrike := meets_of (P := Tryd.prog) (c := c_spec_ParseStrike) (fn := Tryd.f28) (pm := S_spec_ParseStrike.pm) (rm := S_spec_ParseStrike.rm) (by kernel_rfl) (lookCons M_spec_maGood (lookCons M_spec_maOf (lookCons M_spec_l1Split (lookCons M_spec_l1Read lookNil)))) follows_mixed Tryd.func28 (by kernel_rfl) (by kernel_rfl) rfl
/-- loop.example/g01054/impl.WidthOfStrike -/
@[reducible] noncomputable def c_impl_WidthOfStrike : Cx := { K := [.dat 0, .box 5 0 false, .dat 0, .dat 0, .dat 0, .dat 0, .dat 0, .ref 1, .dat 0, .ref 1, .dat 0, .dat 0, .ref 1, .dat 0, .dat 0], T := [(3, ty3), (25, ty25)], S := [(14, S_impl_IsStrike)], H := [], res := [.tmp 2, .tmp 3], ios := [], G := gl0 }
noncomputable def F_impl_WidthOfStrike : List D → Option Out := denF c_impl_WidthOfStrike Tryd.f29
@[reducible] noncomputable def S_impl_WidthOfStrike : FS := { pm := [.dat 0], rm := [.dat 0, .dat 0], f := F_impl_WidthOfStrike }
theorem M_impl_WidthOfStrike : Meets gl0 Tryd.prog 29 S_impl_WidthOfStrike := meets_of (P := Tryd.prog) (c := c_impl_WidthOfStrike) (fn := Tryd.f29) (pm := S_impl_WidthOfStrike.pm) (rm := S_impl_WidthOfStrike.rm) (by kernel_rfl) (lookCons M_impl_IsStrike lookNil) follows_mixed Tryd.func29 (by kernel_rfl) (by kernel_rfl) rfl
/-- loop.example/g01054/laws.FnStrikes -/
@[reducible] noncomputable def c_laws_FnStrikes : Cx := { K := [.dat 2, .dat 2, .no, .no, .dat 0, .box 5 0 false, .box 5 0 false, .dat 1, .dat 0, .dat 1, .dat 0, .dat 0, .dat 0, .dat 0, .dat 0, .box 5 0 false, .box 5 0 false, .dat 0, .dat 0, .dat 0, .dat 0, .dat 0, .dat 0, .dat 0, .dat 0, .dat 0, .box 5 0 false, .dat 0, .dat 0, .box 5 0 false, .dat 0, .box 5 0 false, .dat 0, .box 5 0 false, .dat 0, .box 5 0 false, .dat 0, .dat 0, .dat 0, .dat 0, .dat 0, .dat 0, .box 5 0 false, .dat 0, .box 5 0 false, .dat 0, .box 5 0 false, .dat 0, .dat 0, .dat 0, .dat 0, .dat 0, .dat 2, .dat 2, .dat 0, .tup [.dat 0, .dat 0], .dat 2, .tup [.dat 0, .dat 0], .dat 0, .dat 0, .tup [.own 1 0 false, .dat 0], .dat 0, .dat 0, .tup [.own 1 0 false, .dat 0], .dat 1, .dat 0, .tup [.own 1 0 false, .dat 0], .dat 0, .dat 0, .tup [.own 1 0 false, .dat 0], .dat 1, .dat 0, .tup [.dat 0, .dat 0], .dat 0, .dat 0, .tup [.dat 0, .dat 0], .dat 0, .dat 0, .tup [.dat 0, .dat 0], .dat 0, .dat 0, .tup [.dat 0, .dat 0], .dat 0, .dat 0, .dat 0, .dat 0, .dat 0, .dat 0, .dat 1, .dat 1, .dat 0, .dat 0, .dat 0, .dat 0, .dat 0, .dat 0, .dat 0, .dat 0, .dat 0, .dat 0, .dat 0, .dat 0, .dat 0, .dat 0, .dat 0, .dat 0, .dat 0, .dat 0, .dat 0, .dat 0, .dat 0, .dat 0, .dat 0, .dat 0, .dat 0, .dat 0, .dat 0, .dat 0, .dat 0, .dat 0, .dat 0, .dat 0, .dat 0, .dat 1, .dat 0, .dat 0, .dat 0, .ref 5, .dat 0, .dat 1, .dat 1, .dat 0, .dat 0, .ref 6, .dat 0, .dat 0, .dat 0, .dat 0, .ref 5, .dat 0, .dat 1, .dat 1, .dat 0, .dat 0, .ref 6, .dat 0, .dat 0, .dat 0, .dat 0, .dat 1, .dat 1, .dat 0, .dat 0, .dat 0, .dat 0, .ref 5, .dat 0, .dat 1, .dat 1, .dat 0, .dat 0, .ref 6, .dat 0, .dat 0, .dat 0, .dat 0, .ref 5, .dat 0, .dat 1, .dat 1, .dat 0, .dat 0, .ref 6, .dat 0, .dat 0, .dat 0, .dat 0, .tup [.dat 0, .dat 0, .dat 0], .dat 2, .tup [.dat 0, .dat 0, .dat 0], .dat 0, .dat 0, .dat 0, .tup [.dat 0, .dat 0], .dat 0, .dat 0, .dat 0, .tup [.dat 0, .dat 0], .dat 0, .dat 0, .tup [.dat 0, .dat 0], .dat 0, .dat 0, .dat 0, .tup [.dat 0, .dat 0], .dat 0, .dat 0, .dat 0, .dat 0, .dat 0, .dat 0, .dat 0, .dat 0, .dat 0, .dat 0, .dat 0, .tup [.dat 0, .dat 0], .dat 0, .dat 0, .tup [.dat 0, .dat 0], .dat 0, .dat 0, .dat 0, .dat 0, .dat 0, .dat 0, .ref 16, .dat 0, .dat 0, .dat 0, .dat 0, .dat 0, .dat 0, .dat 0, .tup [.dat 0, .dat 0], .dat 0, .dat 0, .dat 0, .tup [.dat 0, .dat 0], .dat 0, .dat 0, .dat 0, .dat 0, .dat 0, .dat 0, .ref 16, .dat 0, .dat 0, .dat 0, .dat 0, .dat 0, .tup [.dat 0, .dat 0, .dat 0], .dat 2, .tup [.dat 0, .dat 0, .dat 0], .dat 0, .dat 0, .dat 0, .tup [.dat 0, .dat 0], .dat 0, .dat 0, .dat 0, .tup [.dat 0, .dat 0], .dat 0, .dat 0, .tup [.dat 0, .dat 0], .dat 0, .dat 0, .dat 0, .tup [.dat 0, .dat 0], .dat 0, .dat 0, .tup [.dat 0, .dat 0], .dat 0, .tup [.dat 0, .dat 0], .dat 0, .dat 0, .tup [.dat 0, .dat 0], .dat 0, .tup [.dat 0, .dat 0], .dat 0, .dat 0, .tup [.dat 0, .dat 0], .dat 0, .tup [.dat 0, .dat 0], .dat 0, .dat 0, .tup [.dat 0, .dat 0], .dat 0, .tup [.dat 0, .dat 0], .dat 0, .dat 0, .dat 2, .dat 0, .tup [.dat 0, .dat 0], .dat 0, .tup [.dat 0, .dat 0], .dat 0, .dat 0, .tup [.dat 0, .dat 0], .dat 0, .tup [.dat 0, .dat 0], .dat 0, .dat 0, .dat 0, .dat 0, .dat 0, .dat 0, .dat 0, .dat 0, .dat 0, .dat 0, .dat 0, .dat 0, .dat 0, .dat 0, .dat 0, .dat 0, .dat 0, .dat 0, .dat 0, .dat 0, .dat 0, .dat 0, .dat 0, .dat 0, .dat 0, .dat 0, .dat 0, .dat 0, .dat 0, .dat 0, .dat 0, .dat 0, .dat 0, .dat 0, .dat 0, .dat 0, .dat 0, .dat 0, .dat 0, .dat 0, .dat 0, .dat 0, .dat 0, .dat 0, .dat 0, .dat 0, .dat 0, .dat 0, .dat 0, .dat 0, .dat 0, .dat 0, .tup [.dat 0, .dat 0], .dat 0, .tup [.dat 0, .dat 0], .dat 0, .dat 0, .tup [.dat 0, .dat 0], .dat 0, .tup [.dat 0, .dat 0], .dat 0, .dat 0, .tup [.dat 0, .dat 0], .dat 0, .tup [.dat 0, .dat 0], .dat 0, .dat 0, .dat 0, .dat 0, .dat 0, .dat 0, .dat 0, .dat 0, .dat 0, .dat 0, .dat 0, .dat 0, .dat 0, .dat 0, .dat 0, .dat 0, .dat 0, .dat 0, .dat 0, .dat 0, .ref 35, .dat 0, .ref 35, .dat 0, .dat 0, .dat 0], T := [(3, ty3), (4, ty4), (9, ty9), (25, ty25), (28, ty28)], S := [(7, S_laws_big), (8, S_spec_DrawFilingsFor), (9, S_impl_FilingsFor), (10, S_spec_FilingsFor), (11, S_impl_CanBeJustified), (12, S_spec_CanBeJustified), (13, S_laws_sameInts), (14, S_impl_IsStrike), (15, S_spec_DrawCastsLeft), (16, S_impl_CastsLeft), (17, S_spec_CastsLeft), (18, S_impl_DepthAfter), (19, S_spec_DrawFileStrike), (20, S_impl_FileStrike), (21, S_spec_FileStrike), (22, S_impl_CentreStrike), (23, S_spec_CentreStrike), (24, S_impl_StrikeText), (25, S_spec_StrikeText), (26, S_spec_DrawParseStrike), (27, S_impl_ParseStrike), (28, S_spec_ParseStrike), (29, S_impl_WidthOfStrike)], H := [], res := [.tmp 4], ios := [], G := gl2 }
@[reducible] def J_laws_FnStrikes : List (Nat × List Nat) := [(16383, [1])]
noncomputable def F_laws_FnStrikes : List D → Option Out := denFJ c_laws_FnStrikes J_laws_FnStrikes Tryd.f3
@[reducible] noncomputable def S_laws_FnStrikes : FS := { pm := [.dat 2, .dat 2], rm := [.dat 0], f := F_laws_FnStrikes }
theorem M_laws_FnStrikes : Meets gl2 Tryd.prog 3 S_laws_FnStrikes := meets_ofJ (J := J_laws_FnStrikes) (P := Tryd.prog) (c := c_laws_FnStrikes) (fn := Tryd.f3) (pm := S_laws_FnStrikes.pm) (rm := S_laws_FnStrikes.rm) (by kernel_rfl) (lookCons (meets_mono gl02 M_laws_big) (lookCons (meets_mono gl02 M_spec_DrawFilingsFor) (lookCons (meets_mono gl02 M_impl_FilingsFor) (lookCons (meets_mono gl02 M_spec_FilingsFor) (lookCons (meets_mono gl02 M_impl_CanBeJustified) (lookCons (meets_mono gl02 M_spec_CanBeJustified) (lookCons (meets_mono gl02 M_laws_sameInts) (lookCons (meets_mono gl02 M_impl_IsStrike) (lookCons (meets_mono gl02 M_spec_DrawCastsLeft) (lookCons (meets_mono gl02 M_impl_CastsLeft) (lookCons (meets_mono gl02 M_spec_CastsLeft) (lookCons (meets_mono gl02 M_impl_DepthAfter) (lookCons (meets_mono gl02 M_spec_DrawFileStrike) (lookCons (meets_mono gl02 M_impl_FileStrike) (lookCons (meets_mono gl02 M_spec_FileStrike) (lookCons (meets_mono gl02 M_impl_CentreStrike) (lookCons (meets_mono gl02 M_spec_CentreStrike) (lookCons (meets_mono gl12 M_impl_StrikeText) (lookCons (meets_mono gl02 M_spec_StrikeText) (lookCons (meets_mono gl02 M_spec_DrawParseStrike) (lookCons M_impl_ParseStrike (lookCons (meets_mono gl02 M_spec_ParseStrike) (lookCons (meets_mono gl02 M_impl_WidthOfStrike) lookNil))))))))))))))))))))))) follows_mixed (by kernel_rfl) Tryd.func3 (by kernel_rfl) (by kernel_rfl) rfl
/-- loop.example/g01054/impl.isGrams -/
@[reducible] noncomputable def c_impl_isGrams : Cx := { K := [.dat 0, .no, .dat 0, .dat 0, .dat 0], T := [], S := [(95, S_impl_within)], H := [], res := [.tmp 2], ios := [], G := gl0 }
noncomputable def F_impl_isGrams : List D → Option Out := denF c_impl_isGrams Tryd.f122
@[reducible] noncomputable def S_impl_isGrams : FS := { pm := [.dat 0], rm := [.dat 0], f := F_impl_isGrams }
theorem M_impl_isGrams : Meets gl0 Tryd.prog 122 S_impl_isGrams := meets_of (P := Tryd.prog) (c := c_impl_isGrams) (fn := Tryd.f122) (pm := S_impl_isGrams.pm) (rm := S_impl_isGrams.rm) (by kernel_rfl) (lookCons M_impl_within lookNil) follows_mixed Tryd.func122 (by kernel_rfl) (by kernel_rfl) rfl
/-- loop.example/g01054/impl.IsMelt -/
@[reducible] noncomputable def c_impl_IsMelt : Cx := { K := [.dat 0, .box 3 0 false, .dat 0, .ref 1, .dat 0, .dat 0, .dat 0, .ref 1, .dat 0, .dat 0, .dat 0, .dat 0, .ref 1, .dat 0, .dat 0, .dat 0], T := [(3, ty3), (51, ty51)], S := [(122, S_impl_isGrams)], H := [], res := [.tmp 2], ios := [], G := gl0 }
noncomputable def F_impl_IsMelt : List D → Option Out := denF c_impl_IsMelt Tryd.f42
@[reducible] noncomputable def S_impl_IsMelt : FS := { pm := [.dat 0], rm := [.dat 0], f := F_impl_IsMelt }
theorem M_impl_IsMelt : Meets gl0 Tryd.prog 42 S_impl_IsMelt := meets_of (P := Tryd.prog) (c := c_impl_IsMelt) (fn := Tryd.f42) (pm := S_impl_IsMelt.pm) (rm := S_impl_IsMelt.rm) (by kernel_rfl) (lookCons M_impl_isGrams lookNil) follows_mixed Tryd.func42 (by kernel_rfl) (by kernel_rfl) rfl
/-- (loop.example/g01054/impl.Melt).grams -/
@[reducible] noncomputable def c_impl_Melt_grams : Cx := { K := [.dat 0, .box 3 0 false, .dat 0, .ref 1, .dat 0, .ref 1, .dat 0, .dat 0, .ref 1, .dat 0, .dat 0], T := [(3, ty3), (51, ty51)], S := [], H := [], res := [.tmp 2], ios := [], G := gl0 }
noncomputable def F_impl_Melt_grams : List D → Option Out := denF c_impl_Melt_grams Tryd.f115
@[reducible] noncomputable def S_impl_Melt_grams : FS := { pm := [.dat 0], rm := [.dat 0], f := F_impl_Melt_grams }
theorem M_impl_Melt_grams : Meets gl0 Tryd.prog 115 S_impl_Melt_grams := meets_of (P := Tryd.prog) (c := c_impl_Melt_grams) (fn := Tryd.f115) (pm := S_impl_Melt_grams.pm) (rm := S_impl_Melt_grams.rm) (by kernel_rfl) lookNil follows_mixed Tryd.func115 (by kernel_rfl) (by kernel_rfl) rfl
end Go.Proofs.YtlphibidnkjpdaaDoor
/-
  What the functions compute: their evaluated texts, printed.
-/
namespace Go.Proofs.YtlphibidnkjpdaaDoor
open Go Go.V
theorem t_laws_big (x0 x1 : D) : F_laws_big [x0, x1] =
  ((lenD false x0).bind fun z => (bin BinOp.gtr false [] z (D.v (Value.int IntKind.i64 1048576))).bind fun z => (gate (D.tup []) z false (some x1)).bind fun z_1 => (gate (D.tup []) z false (lenD false z_1)).bind fun z_2 =>
 (gate (D.tup []) z false (some x0)).bind fun z_3 => (gate (D.tup []) z false (lenD false z_3)).bind fun z_4 => (gate (D.tup []) z false (bin BinOp.sub false [] (D.v (Value.int IntKind.i64 1048576)) z_4)).bind fun z_5 =>
 (gate (D.tup []) z false (bin BinOp.gtr false [] z_2 z_5)).bind fun z_6 => (pickD z (D.v (Value.bool true)) z_6).bind fun z => some (Out.ret [z] [])) := by kernel_rfl
theorem t_spec_l1Cur_next (x0 : D) : F_spec_l1Cur_next [x0] =
  ((liveD x0 (D.ref 0 0)).bind fun z => (liveD z z).bind fun z => (refAdd 1 z).bind fun z => (((atD x0 z).bind (takeD false 1)).bind chkV).bind fun z => (liveD x0 (D.ref 0 0)).bind fun z_1 => (liveD z_1 z_1).bind fun z_2 =>
 (refAdd 0 z_2).bind fun z_3 => ((atD x0 z_3).bind (takeD false 1)).bind fun z_4 => (lenD false z_4).bind fun z_5 => (bin BinOp.lss false [] z z_5).bind fun z => ifD z ((liveD x0 (D.ref 0 0)).bind fun z =>
 (liveD z z).bind fun z => (refAdd 0 z).bind fun z => ((atD x0 z).bind (takeD false 1)).bind fun z => (liveD x0 (D.ref 0 0)).bind fun z_6 => (liveD z_6 z_6).bind fun z_7 => (refAdd 1 z_7).bind fun z_8 =>
 (((atD x0 z_8).bind (takeD false 1)).bind chkV).bind fun z_9 => (Option.map D.ptr (elemD 1 z z_9)).bind fun z => ((ldD false 1 z).bind chkV).bind fun z => (convD (some IntKind.i64) false z).bind fun z =>
 (liveD x0 (D.ref 0 0)).bind fun z_10 => (liveD z_10 z_10).bind fun z_11 => (refAdd 1 z_11).bind fun z_12 => (((atD x0 z_12).bind (takeD false 1)).bind chkV).bind fun z_13 =>
 (bin BinOp.add false [] z_13 (D.v (Value.int IntKind.i64 1))).bind fun z_14 => (liveD z_10 z_10).bind fun z_15 => (refAdd 1 z_15).bind fun z_16 => (stD 1 x0 z_16 z_14).bind fun b => (liveD b (D.ref 0 0)).bind fun z_17 =>
 (liveD b (D.ref 0 0)).bind fun z_18 => (liveD z_18 z_18).bind fun z_19 => (refAdd 2 z_19).bind fun z_20 => (((atD b z_20).bind (takeD false 1)).bind chkV).bind fun z_21 => (bin BinOp.mul false [] z_21 (D.v
 (Value.int IntKind.u64 6364136223846793005))).bind fun z_22 => (convD (some IntKind.u64) false z).bind fun z_23 => (bin BinOp.add false [] z_22 z_23).bind fun z_24 => (bin BinOp.add false [] z_24 (D.v
 (Value.int IntKind.u64 1442695040888963407))).bind fun z_25 => (liveD z_17 z_17).bind fun z_26 => (refAdd 2 z_26).bind fun z_27 => (stD 1 b z_27 z_25).bind fun b => (liveD b (D.ref 0 0)).bind fun z_28 =>
 (liveD z_28 z_28).bind fun z_29 => (refAdd 1 z_29).bind fun z_30 => (((atD b z_30).bind (takeD false 1)).bind chkV).bind fun z_31 => (liveD b (D.ref 0 0)).bind fun z_32 => (liveD z_32 z_32).bind fun z_33 =>
 (refAdd 0 z_33).bind fun z_34 => ((atD b z_34).bind (takeD false 1)).bind fun z_35 => (lenD false z_35).bind fun z_36 => (bin BinOp.leq false [] z_31 z_36).bind fun z_37 => ifD z_37 ((liveD b b).bind fun _u => some
 (Out.ret [z] [b])) ((liveD b (D.ref 0 0)).bind fun z => (liveD z z).bind fun z => (refAdd 2 z).bind fun z => (((atD b z).bind (takeD false 1)).bind chkV).bind fun z => (bin BinOp.shr false [] z (D.v (Value.int IntKind.u64
 40))).bind fun z => (bin BinOp.and false [] z (D.v (Value.int IntKind.u64 255))).bind fun z => (convD (some IntKind.i64) false z).bind fun z => (liveD b b).bind fun _u => some (Out.ret [z] [b])))
 ((liveD x0 (D.ref 0 0)).bind fun z => (liveD z z).bind fun z_6 => (refAdd 1 z_6).bind fun z_7 => (((atD x0 z_7).bind (takeD false 1)).bind chkV).bind fun z_8 =>
 (bin BinOp.add false [] z_8 (D.v (Value.int IntKind.i64 1))).bind fun z_9 => (liveD z z).bind fun z => (refAdd 1 z).bind fun z => (stD 1 x0 z z_9).bind fun b => (liveD b (D.ref 0 0)).bind fun z =>
 (liveD b (D.ref 0 0)).bind fun z_10 => (liveD z_10 z_10).bind fun z_11 => (refAdd 2 z_11).bind fun z_12 => (((atD b z_12).bind (takeD false 1)).bind chkV).bind fun z_13 => (bin BinOp.mul false [] z_13
 (D.v (Value.int IntKind.u64 6364136223846793005))).bind fun z_14 => (convD (some IntKind.u64) false (D.v (Value.int IntKind.i64 0))).bind fun z_15 => (bin BinOp.add false [] z_14 z_15).bind fun z_16 =>
 (bin BinOp.add false [] z_16 (D.v (Value.int IntKind.u64 1442695040888963407))).bind fun z_17 => (liveD z z).bind fun z => (refAdd 2 z).bind fun z => (stD 1 b z z_17).bind fun b => (liveD b (D.ref 0 0)).bind fun z =>
 (liveD z z).bind fun z => (refAdd 1 z).bind fun z => (((atD b z).bind (takeD false 1)).bind chkV).bind fun z => (liveD b (D.ref 0 0)).bind fun z_18 => (liveD z_18 z_18).bind fun z_19 => (refAdd 0 z_19).bind fun z_20 =>
 ((atD b z_20).bind (takeD false 1)).bind fun z_21 => (lenD false z_21).bind fun z_22 => (bin BinOp.leq false [] z z_22).bind fun z => ifD z ((liveD b b).bind fun _u => some (Out.ret [D.v (Value.int IntKind.i64 0)] [b]))
 ((liveD b (D.ref 0 0)).bind fun z => (liveD z z).bind fun z => (refAdd 2 z).bind fun z => (((atD b z).bind (takeD false 1)).bind chkV).bind fun z => (bin BinOp.shr false [] z (D.v (Value.int IntKind.u64 40))).bind
 fun z => (bin BinOp.and false [] z (D.v (Value.int IntKind.u64 255))).bind fun z => (convD (some IntKind.i64) false z).bind fun z => (liveD b b).bind fun _u => some (Out.ret [z] [b])))) := by kernel_rfl
theorem t_spec_l1Cur_pick (x0 x1 : D) : F_spec_l1Cur_pick [x0, x1] =
  ((bin BinOp.leq false [] x1 (D.v (Value.int IntKind.i64 1))).bind fun z => ifD z ((liveD x0 x0).bind fun _u => some (Out.ret [D.v (Value.int IntKind.i64 0)] [x0])) ((liveD x0 (D.ref 0 0)).bind fun z =>
 (ref0 z x0).bind fun i => (liveD i i).bind fun i => callK (F_spec_l1Cur_next [i]) fun rs us => (bin BinOp.gtr false [] x1 (D.v (Value.int IntKind.i64 200))).bind fun z => ifD z
 ((bin BinOp.mul false [] (sl rs 0) (D.v (Value.int IntKind.i64 256))).bind fun z => (liveD (sl us 0) (D.ref 0 0)).bind fun z_1 => (ref0 z_1 (sl us 0)).bind fun i => (liveD i i).bind fun i =>
 callK (F_spec_l1Cur_next [i]) fun rs us => (bin BinOp.add false [] z (sl rs 0)).bind fun z => (bin BinOp.rem false [] z x1).bind fun z => (liveD (sl us 0) (sl us 0)).bind fun _u => some (Out.ret [z] [sl us 0]))
 ((bin BinOp.rem false [] (sl rs 0) x1).bind fun z => (liveD (sl us 0) (sl us 0)).bind fun _u => some (Out.ret [z] [sl us 0])))) := by kernel_rfl
theorem t_spec_l1Cur_strike (x0 : D) : F_spec_l1Cur_strike [x0] =
  ((liveD x0 (D.ref 0 0)).bind fun z => (ref0 z x0).bind fun i => (liveD i i).bind fun i => callK (F_spec_l1Cur_pick [i, D.v (Value.int IntKind.i64 8)]) fun rs us =>
 (bin BinOp.add false [] (D.v (Value.int IntKind.i64 120)) (sl rs 0)).bind fun z => (liveD (sl us 0) (D.ref 0 0)).bind fun z_1 => (ref0 z_1 (sl us 0)).bind fun i => (liveD i i).bind fun i =>
 callK (F_spec_l1Cur_pick [i, D.v (Value.int IntKind.i64 8)]) fun rs us => (bin BinOp.add false [] (D.v (Value.int IntKind.i64 30)) (sl rs 0)).bind fun z_2 => (liveD (sl us 0) (D.ref 0 0)).bind fun z_3 =>
 (ref0 z_3 (sl us 0)).bind fun i => (liveD i i).bind fun i => callK (F_spec_l1Cur_pick [i, D.v (Value.int IntKind.i64 2)]) fun rs us => (bin BinOp.add false [] (D.v (Value.int IntKind.i64 200)) (sl rs 0)).bind fun z_4 =>
 (liveD (sl us 0) (D.ref 0 0)).bind fun z_5 => (ref0 z_5 (sl us 0)).bind fun i => (liveD i i).bind fun i => callK (F_spec_l1Cur_pick [i, D.v (Value.int IntKind.i64 8)]) fun rs us =>
 (bin BinOp.add false [] (D.v (Value.int IntKind.i64 30)) (sl rs 0)).bind fun z_6 => (liveD (sl us 0) (D.ref 0 0)).bind fun z_7 => (ref0 z_7 (sl us 0)).bind fun i => (liveD i i).bind fun i =>
 callK (F_spec_l1Cur_pick [i, D.v (Value.int IntKind.i64 6)]) fun rs us => (bin BinOp.add false [] (D.v (Value.int IntKind.i64 60)) (sl rs 0)).bind fun z_8 => (bldD [(0, 1), (1, 1), (2, 1), (3, 1), (4, 1)]
 [D.v (Value.int IntKind.i64 0), D.v (Value.int IntKind.i64 0), D.v (Value.int IntKind.i64 0), D.v (Value.int IntKind.i64 0), D.v (Value.int IntKind.i64 0)] [z, z_2, z_4, z_6, z_8]).bind fun z => (stD 5 (D.agg
 [D.v (Value.int IntKind.i64 0), D.v (Value.int IntKind.i64 0), D.v (Value.int IntKind.i64 0), D.v (Value.int IntKind.i64 0), D.v (Value.int IntKind.i64 0)]) (D.ref 0 0) z).bind fun b => (fldD true 5 0 b).bind fun y =>
 (liveD (sl us 0) (sl us 0)).bind fun _u => some (Out.ret [y] [sl us 0])) := by kernel_rfl
theorem t_spec_l1Cur_one (x0 x1 : D) : F_spec_l1Cur_one [x0, x1] =
  ((liveD x0 (D.ref 0 0)).bind fun z => (ref0 z x0).bind fun i => (liveD i i).bind fun i => callK (F_spec_l1Cur_pick [i, x1]) fun rs us => (bin BinOp.eql false [] (sl rs 0) (D.v (Value.int IntKind.i64 0))).bind fun z =>
 (liveD (sl us 0) (sl us 0)).bind fun _u => some (Out.ret [z] [sl us 0])) := by kernel_rfl
theorem t_spec_maParts (x0 : D) : F_spec_maParts [x0] =
  ((boxD 5 x0).bind fun y => (liveD y (D.ref 0 0)).bind fun z => ((atD y z).bind (takeD false 1)).bind fun z => (liveD y (D.ref 0 1)).bind fun z_1 => ((atD y z_1).bind (takeD false 1)).bind fun z_2 =>
 (liveD y (D.ref 0 2)).bind fun z_3 => ((atD y z_3).bind (takeD false 1)).bind fun z_4 => (liveD y (D.ref 0 3)).bind fun z_5 => ((atD y z_5).bind (takeD false 1)).bind fun z_6 => (liveD y (D.ref 0 4)).bind fun z_7 =>
 ((atD y z_7).bind (takeD false 1)).bind fun z_8 => (mkArr 1 [z, z_2, z_4, z_6, z_8]).bind fun a => some (Out.ret [a] [])) := by kernel_rfl
theorem t_spec_l1Cur_among (x0 x1 : D) : F_spec_l1Cur_among [x0, x1] =
  ((liveD x0 (D.ref 0 0)).bind fun z => (lenD false x1).bind fun z_1 => (ref0 z x0).bind fun i => (liveD i i).bind fun i => callK (F_spec_l1Cur_pick [i, z_1]) fun rs us =>
 (Option.map D.ptr (elemD 1 x1 (sl rs 0))).bind fun z => ((ldD false 1 z).bind chkV).bind fun z => (liveD (sl us 0) (sl us 0)).bind fun _u => some (Out.ret [z] [sl us 0])) := by kernel_rfl
theorem t_spec_maOf (x0 : D) : F_spec_maOf [x0] =
  ((Option.map D.ptr (elemD 1 x0 (D.v (Value.int IntKind.i64 0)))).bind fun z => ((ldD false 1 z).bind chkV).bind fun z => (Option.map D.ptr (elemD 1 x0 (D.v (Value.int IntKind.i64 1)))).bind fun z_1 =>
 ((ldD false 1 z_1).bind chkV).bind fun z_2 => (Option.map D.ptr (elemD 1 x0 (D.v (Value.int IntKind.i64 2)))).bind fun z_3 => ((ldD false 1 z_3).bind chkV).bind fun z_4 =>
 (Option.map D.ptr (elemD 1 x0 (D.v (Value.int IntKind.i64 3)))).bind fun z_5 => ((ldD false 1 z_5).bind chkV).bind fun z_6 => (Option.map D.ptr (elemD 1 x0 (D.v (Value.int IntKind.i64 4)))).bind fun z_7 =>
 ((ldD false 1 z_7).bind chkV).bind fun z_8 => (bldD [(0, 1), (1, 1), (2, 1), (3, 1), (4, 1)] [D.v (Value.int IntKind.i64 0), D.v (Value.int IntKind.i64 0), D.v (Value.int IntKind.i64 0), D.v (Value.int IntKind.i64 0),
 D.v (Value.int IntKind.i64 0)] [z, z_2, z_4, z_6, z_8]).bind fun z => (stD 5 (D.agg [D.v (Value.int IntKind.i64 0), D.v (Value.int IntKind.i64 0), D.v (Value.int IntKind.i64 0), D.v (Value.int IntKind.i64 0),
 D.v (Value.int IntKind.i64 0)]) (D.ref 0 0) z).bind fun b => (fldD true 5 0 b).bind fun y => some (Out.ret [y] [])) := by kernel_rfl
theorem t_spec_l1Cur_anyStrike (x0 : D) : F_spec_l1Cur_anyStrike [x0] =
  ((liveD x0 (D.ref 0 0)).bind fun z => (ref0 z x0).bind fun i => (liveD i i).bind fun i => callK (F_spec_l1Cur_strike [i]) fun rs us => (stD 5 (D.agg
 [D.v (Value.int IntKind.i64 0), D.v (Value.int IntKind.i64 0), D.v (Value.int IntKind.i64 0), D.v (Value.int IntKind.i64 0), D.v (Value.int IntKind.i64 0)]) (D.ref 0 0) (sl rs 0)).bind fun b =>
 (liveD (sl us 0) (D.ref 0 0)).bind fun z => (ref0 z (sl us 0)).bind fun i => (liveD i i).bind fun i => callK (F_spec_l1Cur_one [i, D.v (Value.int IntKind.i64 8)]) fun rs us => ifD (sl rs 0)
 ((fldD true 5 0 b).bind fun z => callK (F_spec_maParts [z]) fun rs _u => (liveD (sl rs 0) (D.ref 0 0)).bind fun z => (liveD z (D.ref 0 0)).bind fun z_1 => (liveD (sl us 0) (D.ref 0 0)).bind fun z_2 =>
 (ref0 z_2 (sl us 0)).bind fun i => (liveD i i).bind fun i => callK (F_spec_l1Cur_pick [i, D.v (Value.int IntKind.i64 5)]) fun rs_1 us => (liveD (sl us 0) (D.ref 0 0)).bind fun z_3 => (mkArr 1
 [D.v (Value.int IntKind.i64 1), D.v (Value.int IntKind.i64 999), D.v (Value.int IntKind.i64 0), D.v (Value.int IntKind.i64 1000), D.v (Value.int IntKind.i64 (-9223372036854775808))]).bind fun a =>
 (ref0 z_3 (sl us 0)).bind fun i => (liveD i i).bind fun i => callK (F_spec_l1Cur_among [i, a]) fun rs_2 us => ((liveD z_1 (sl rs 0)).bind fun b => refI 1 b (sl rs_1 0)).bind fun z_4 =>
 (stD 1 (sl rs 0) z_4 (sl rs_2 0)).bind fun b_1 => (liveD z (D.ref 0 0)).bind fun z => (liveD z b_1).bind fun i => callK (F_spec_maOf [i]) fun rs _u => (stD 5 b (D.ref 0 0) (sl rs 0)).bind fun b =>
 (fldD true 5 0 b).bind fun z => (stD 5 (D.agg [D.v (Value.int IntKind.i64 0), D.v (Value.int IntKind.i64 0), D.v (Value.int IntKind.i64 0), D.v (Value.int IntKind.i64 0), D.v (Value.int IntKind.i64 0)])
 (D.ref 0 0) z).bind fun b => (fldD true 5 0 b).bind fun y => (liveD (sl us 0) (sl us 0)).bind fun _u => some (Out.ret [y] [sl us 0])) ((fldD true 5 0 b).bind fun z => (stD 5 (D.agg
 [D.v (Value.int IntKind.i64 0), D.v (Value.int IntKind.i64 0), D.v (Value.int IntKind.i64 0), D.v (Value.int IntKind.i64 0), D.v (Value.int IntKind.i64 0)]) (D.ref 0 0) z).bind fun b => (fldD true 5 0 b).bind fun y =>
 (liveD (sl us 0) (sl us 0)).bind fun _u => some (Out.ret [y] [sl us 0]))) := by kernel_rfl
theorem t_spec_l1Cur_lower (x0 x1 : D) : F_spec_l1Cur_lower [x0, x1] =
  ((boxD 5 x1).bind fun y => (liveD x0 (D.ref 0 0)).bind fun z => (ref0 z x0).bind fun i => (liveD i i).bind fun i => callK (F_spec_l1Cur_one [i, D.v (Value.int IntKind.i64 4)]) fun rs us => ifD (sl rs 0)
 ((liveD (sl us 0) (D.ref 0 0)).bind fun z => (ref0 z (sl us 0)).bind fun i => (liveD i i).bind fun i => callK (F_spec_l1Cur_anyStrike [i]) fun rs us => (stD 5 (D.agg
 [D.v (Value.int IntKind.i64 0), D.v (Value.int IntKind.i64 0), D.v (Value.int IntKind.i64 0), D.v (Value.int IntKind.i64 0), D.v (Value.int IntKind.i64 0)]) (D.ref 0 0) (sl rs 0)).bind fun b =>
 (fldD true 5 0 b).bind fun y => (liveD (sl us 0) (sl us 0)).bind fun _u => some (Out.ret [y] [sl us 0])) ((liveD y (D.ref 0 0)).bind fun z => ((atD y z).bind (takeD false 1)).bind fun z =>
 (liveD (sl us 0) (D.ref 0 0)).bind fun z_1 => (ref0 z_1 (sl us 0)).bind fun i => (liveD i i).bind fun i => callK (F_spec_l1Cur_pick [i, D.v (Value.int IntKind.i64 3)]) fun rs us =>
 (bin BinOp.sub false [] z (sl rs 0)).bind fun z => (liveD y (D.ref 0 0)).bind fun z_2 => (stD 1 y z_2 z).bind fun b => (liveD b (D.ref 0 1)).bind fun z => ((atD b z).bind (takeD false 1)).bind fun z =>
 (liveD (sl us 0) (D.ref 0 0)).bind fun z_3 => (ref0 z_3 (sl us 0)).bind fun i => (liveD i i).bind fun i => callK (F_spec_l1Cur_pick [i, D.v (Value.int IntKind.i64 4)]) fun rs us =>
 (bin BinOp.sub false [] z (sl rs 0)).bind fun z => (liveD b (D.ref 0 1)).bind fun z_4 => (stD 1 b z_4 z).bind fun b => (liveD b (D.ref 0 4)).bind fun z => ((atD b z).bind (takeD false 1)).bind fun z =>
 (liveD (sl us 0) (D.ref 0 0)).bind fun z_5 => (ref0 z_5 (sl us 0)).bind fun i => (liveD i i).bind fun i => callK (F_spec_l1Cur_pick [i, D.v (Value.int IntKind.i64 3)]) fun rs us =>
 (liveD (sl us 0) (D.ref 0 0)).bind fun z_6 => (ref0 z_6 (sl us 0)).bind fun i => (liveD i i).bind fun i => callK (F_spec_l1Cur_pick [i, D.v (Value.int IntKind.i64 8)]) fun rs_1 us => (bin BinOp.quo false [] (sl rs_1 0)
 (D.v (Value.int IntKind.i64 7))).bind fun z_7 => (bin BinOp.sub false [] (sl rs 0) z_7).bind fun z_8 => (bin BinOp.sub false [] z z_8).bind fun z => (liveD b (D.ref 0 4)).bind fun z_9 => (stD 1 b z_9 z).bind fun b =>
 (fldD true 5 0 b).bind fun z => (stD 5 (D.agg [D.v (Value.int IntKind.i64 0), D.v (Value.int IntKind.i64 0), D.v (Value.int IntKind.i64 0), D.v (Value.int IntKind.i64 0), D.v (Value.int IntKind.i64 0)])
 (D.ref 0 0) z).bind fun b => (fldD true 5 0 b).bind fun y => (liveD (sl us 0) (sl us 0)).bind fun _u => some (Out.ret [y] [sl us 0]))) := by kernel_rfl
theorem t_spec_DrawFilingsFor (x0 : D) : F_spec_DrawFilingsFor [x0] =
  ((bldD [(0, 1)] [D.arr 1 [], D.v (Value.int IntKind.i64 0), D.v (Value.int IntKind.u64 0)] [x0]).bind fun z => (boxD 3 z).bind fun y => (liveD y (D.ref 0 0)).bind fun z => (liveD z z).bind fun z_1 =>
 (ref0 z_1 y).bind fun i => (liveD i i).bind fun i => callK (F_spec_l1Cur_anyStrike [i]) fun rs us => (stD 5 (D.agg [D.v (Value.int IntKind.i64 0), D.v (Value.int IntKind.i64 0), D.v (Value.int IntKind.i64 0),
 D.v (Value.int IntKind.i64 0), D.v (Value.int IntKind.i64 0)]) (D.ref 0 0) (sl rs 0)).bind fun b => (fldD true 5 0 b).bind fun z_2 => (liveD z z).bind fun z => (fldD true 5 0 b).bind fun z_3 =>
 (ref0 z (sl us 0)).bind fun i => (liveD i i).bind fun i => callK (F_spec_l1Cur_lower [i, z_3]) fun rs _u => (stD 5 (D.agg [D.v (Value.int IntKind.i64 0), D.v (Value.int IntKind.i64 0),
 D.v (Value.int IntKind.i64 0), D.v (Value.int IntKind.i64 0), D.v (Value.int IntKind.i64 0)]) (D.ref 0 0) z_2).bind fun b => (stD 5 (D.agg [D.v (Value.int IntKind.i64 0), D.v (Value.int IntKind.i64 0),
 D.v (Value.int IntKind.i64 0), D.v (Value.int IntKind.i64 0), D.v (Value.int IntKind.i64 0)]) (D.ref 0 0) (sl rs 0)).bind fun b_1 => (fldD true 5 0 b).bind fun y =>
 (fldD true 5 0 b_1).bind fun y_1 => some (Out.ret [y, y_1] [])) := by kernel_rfl
theorem t_impl_Strike_parts (x0 : D) : F_impl_Strike_parts [x0] =
  ((boxD 5 x0).bind fun y => (liveD y (D.ref 0 0)).bind fun z => ((atD y z).bind (takeD false 1)).bind fun z => (liveD y (D.ref 0 1)).bind fun z_1 => ((atD y z_1).bind (takeD false 1)).bind fun z_2 =>
 (liveD y (D.ref 0 2)).bind fun z_3 => ((atD y z_3).bind (takeD false 1)).bind fun z_4 => (liveD y (D.ref 0 3)).bind fun z_5 => ((atD y z_5).bind (takeD false 1)).bind fun z_6 => (liveD y (D.ref 0 4)).bind fun z_7 =>
 ((atD y z_7).bind (takeD false 1)).bind fun z_8 => (mkArr 1 [z, z_2, z_4, z_6, z_8]).bind fun a => some (Out.ret [a] [])) := by kernel_rfl
theorem t_impl_within (x0 x1 x2 : D) : F_impl_within [x0, x1, x2] =
  ((bin BinOp.geq false [] x0 x1).bind fun z => (gate (D.tup []) z true (some x0)).bind fun z_1 => (gate (D.tup []) z true (some x2)).bind fun z_2 => (gate (D.tup []) z true (bin BinOp.leq false [] z_1 z_2)).bind fun z_3 =>
 (pickD z z_3 (D.v (Value.bool false))).bind fun z => some (Out.ret [z] [])) := by kernel_rfl
theorem t_impl_IsStrike (x0 : D) : F_impl_IsStrike [x0] =
  ((boxD 5 x0).bind fun y => (fldD true 5 0 y).bind fun z => callK (F_impl_Strike_parts [z]) fun rs _u => (lenD false (sl rs 0)).bind fun z => (loopC (fun s => (bin BinOp.lss false [] (sl s 2) (sl s 1)).bind fun z => ifD z
 ((Option.map D.ptr (elemD 1 (sl s 0) (sl s 2))).bind fun z => ((ldD false 1 z).bind chkV).bind fun z => callK (F_impl_within [z, D.v (Value.int IntKind.i64 1), D.v (Value.int IntKind.i64 999)]) fun rs _u =>
 (un UnOp.not (sl rs 0)).bind fun z => ifD z (some (Out.ret [D.v (Value.bool false)] [])) ((bin BinOp.add false [] (sl s 2) (D.v (Value.int IntKind.i64 1))).bind fun z => some (Out.nrm [sl s 0, sl s 1, z])))
 (some (Out.ext 0 []))) [sl rs 0, z, D.v (Value.int IntKind.i64 0)]).bind fun o => outK o (fun i _u => ifN (i.beq 0) (some (Out.ret [D.v (Value.bool true)] [])) none) fun a b => some (Out.ret a b)) := by kernel_rfl
theorem t_impl_Strike_filings (x0 x1 : D) : F_impl_Strike_filings [x0, x1] =
  ((boxD 5 x0).bind fun y => (boxD 5 x1).bind fun y_1 => (mkArr 1 []).bind fun a => (fldD true 5 0 y_1).bind fun z => callK (F_impl_Strike_parts [z]) fun rs _u => (liveD y (D.ref 0 2)).bind fun z =>
 ((atD y z).bind (takeD false 1)).bind fun z => (liveD y_1 (D.ref 0 2)).bind fun z_1 => ((atD y_1 z_1).bind (takeD false 1)).bind fun z_2 => (bin BinOp.eql false [] z z_2).bind fun z => (fldD true 5 0 y).bind fun z_3 =>
 callK (F_impl_Strike_parts [z_3]) fun rs_1 _u => (lenD false (sl rs_1 0)).bind fun z_4 => (loopC (fun s => (bin BinOp.lss false [] (sl s 5) (sl s 4)).bind fun z => ifD z
 ((Option.map D.ptr (elemD 1 (sl s 3) (sl s 5))).bind fun z => ((ldD false 1 z).bind chkV).bind fun z => (Option.map D.ptr (elemD 1 (sl s 1) (sl s 5))).bind fun z_5 => ((ldD false 1 z_5).bind chkV).bind fun z_6 =>
 (bin BinOp.sub false [] z z_6).bind fun z_7 => (mkArr 1 [z_7]).bind fun a => (chkA a).bind fun b => (appD 1 8 (sl s 0) b).bind fun y => (gate (D.tup []) (sl s 2) true (some z)).bind fun z =>
 (gate (D.tup []) (sl s 2) true (some (sl s 1))).bind fun z_8 => (gate (D.tup []) (sl s 2) true (some (sl s 5))).bind fun z_9 => (gate (D.tup []) (sl s 2) true (Option.map D.ptr (elemD 1 z_8 z_9))).bind fun z_10 =>
 (gate (D.tup []) (sl s 2) true ((ldD false 1 z_10).bind chkV)).bind fun z_11 => (gate (D.tup []) (sl s 2) true (bin BinOp.geq false [] z z_11)).bind fun z => (pickD (sl s 2) z (D.v (Value.bool false))).bind fun z =>
 (bin BinOp.add false [] (sl s 5) (D.v (Value.int IntKind.i64 1))).bind fun z_12 => some (Out.nrm [y, sl s 1, z, sl s 3, sl s 4, z_12])) (some (Out.ext 0 [sl s 0, sl s 2])))
 [a, sl rs 0, z, sl rs_1 0, z_4, D.v (Value.int IntKind.i64 0)]).bind fun o => outK o (fun i s => ifN (i.beq 0) (some (Out.ret [sl s 0, sl s 1] [])) none) fun a b => some (Out.ret a b)) := by kernel_rfl
theorem t_impl_FilingsFor (x0 x1 : D) : F_impl_FilingsFor [x0, x1] =
  ((boxD 5 x0).bind fun y => (boxD 5 x1).bind fun y_1 => (fldD true 5 0 y).bind fun z => callK (F_impl_IsStrike [z]) fun rs _u => (un UnOp.not (sl rs 0)).bind fun z =>
 (gate (D.tup []) z false (fldD true 5 0 y_1)).bind fun z_1 => gateC z false (callK (F_impl_IsStrike [z_1]) fun rs _u => some (Out.nrm [sl rs 0])) [D.tup []] fun outs =>
 (gate (D.tup []) z false (un UnOp.not (sl outs 0))).bind fun z_2 => (pickD z (D.v (Value.bool true)) z_2).bind fun z => ifD z ((mkArr 1 []).bind fun a => some (Out.ret [a, D.v (Value.bool false)] []))
 ((fldD true 5 0 y).bind fun z => (fldD true 5 0 y_1).bind fun z_3 => callK (F_impl_Strike_filings [z, z_3]) fun rs _u => (tupAt (D.tup rs) 0).bind fun y => (tupAt (tupCut (D.tup rs) 0) 1).bind fun z =>
 (un UnOp.not z).bind fun z => ifD z ((mkArr 1 []).bind fun a => some (Out.ret [a, D.v (Value.bool false)] [])) (some (Out.ret [y, D.v (Value.bool true)] [])))) := by kernel_rfl
theorem t_spec_l1In (x0 x1 x2 : D) : F_spec_l1In [x0, x1, x2] =
  ((bin BinOp.geq false [] x0 x1).bind fun z => (gate (D.tup []) z true (some x0)).bind fun z_1 => (gate (D.tup []) z true (some x2)).bind fun z_2 => (gate (D.tup []) z true (bin BinOp.leq false [] z_1 z_2)).bind fun z_3 =>
 (pickD z z_3 (D.v (Value.bool false))).bind fun z => some (Out.ret [z] [])) := by kernel_rfl
theorem t_spec_l1All (x0 x1 x2 : D) : F_spec_l1All [x0, x1, x2] =
  ((lenD false x0).bind fun z => (loopC (fun s => (bin BinOp.lss false [] (sl s 4) (sl s 3)).bind fun z => ifD z ((Option.map D.ptr (elemD 1 (sl s 2) (sl s 4))).bind fun z => ((ldD false 1 z).bind chkV).bind fun z =>
 callK (F_spec_l1In [z, sl s 0, sl s 1]) fun rs _u => (un UnOp.not (sl rs 0)).bind fun z => ifD z (some (Out.ret [D.v (Value.bool false)] []))
 ((bin BinOp.add false [] (sl s 4) (D.v (Value.int IntKind.i64 1))).bind fun z => some (Out.nrm [sl s 0, sl s 1, sl s 2, sl s 3, z]))) (some (Out.ext 0 []))) [x1, x2, x0, z, D.v (Value.int IntKind.i64 0)]).bind fun o =>
 outK o (fun i _u => ifN (i.beq 0) (some (Out.ret [D.v (Value.bool true)] [])) none) fun a b => some (Out.ret a b)) := by kernel_rfl
theorem t_spec_maGood (x0 : D) : F_spec_maGood [x0] =
  ((boxD 5 x0).bind fun y => (fldD true 5 0 y).bind fun z => callK (F_spec_maParts [z]) fun rs _u => callK (F_spec_l1All [sl rs 0, D.v (Value.int IntKind.i64 1), D.v (Value.int IntKind.i64 999)]) fun rs _u =>
 some (Out.ret [sl rs 0] [])) := by kernel_rfl
theorem t_spec_maCan (x0 x1 : D) : F_spec_maCan [x0, x1] =
  ((boxD 5 x0).bind fun y => (boxD 5 x1).bind fun y_1 => (fldD true 5 0 y_1).bind fun z => callK (F_spec_maParts [z]) fun rs _u => (fldD true 5 0 y).bind fun z => callK (F_spec_maParts [z]) fun rs_1 _u =>
 (lenD false (sl rs_1 0)).bind fun z => (loopC (fun s => (bin BinOp.lss false [] (sl s 5) (sl s 4)).bind fun z => ifD z ((Option.map D.ptr (elemD 1 (sl s 3) (sl s 5))).bind fun z =>
 ((ldD false 1 z).bind chkV).bind fun z => (Option.map D.ptr (elemD 1 (sl s 2) (sl s 5))).bind fun z_1 => ((ldD false 1 z_1).bind chkV).bind fun z_2 => (bin BinOp.lss false [] z z_2).bind fun z =>
 ifD z (some (Out.ret [D.v (Value.bool false)] [])) ((bin BinOp.add false [] (sl s 5) (D.v (Value.int IntKind.i64 1))).bind fun z => some (Out.nrm [sl s 0, sl s 1, sl s 2, sl s 3, sl s 4, z])))
 (some (Out.ext 0 [sl s 0, sl s 1]))) [y, y_1, sl rs 0, sl rs_1 0, z, D.v (Value.int IntKind.i64 0)]).bind fun o => outK o (fun i s => ifN (i.beq 0) ((liveD (sl s 0) (D.ref 0 2)).bind fun z =>
 ((atD (sl s 0) z).bind (takeD false 1)).bind fun z => (liveD (sl s 1) (D.ref 0 2)).bind fun z_1 => ((atD (sl s 1) z_1).bind (takeD false 1)).bind fun z_2 =>
 (bin BinOp.eql false [] z z_2).bind fun z => some (Out.ret [z] [])) none) fun a b => some (Out.ret a b)) := by kernel_rfl
theorem t_spec_maFilings (x0 x1 : D) : F_spec_maFilings [x0, x1] =
  ((boxD 5 x0).bind fun y => (boxD 5 x1).bind fun y_1 => (fldD true 5 0 y_1).bind fun z => callK (F_spec_maParts [z]) fun rs _u => (fldD true 5 0 y).bind fun z => callK (F_spec_maParts [z]) fun rs_1 _u =>
 (lenD false (sl rs_1 0)).bind fun z => (loopC (fun s => (bin BinOp.lss false [] (sl s 4) (sl s 3)).bind fun z => ifD z ((Option.map D.ptr (elemD 1 (sl s 2) (sl s 4))).bind fun z =>
 ((ldD false 1 z).bind chkV).bind fun z => (Option.map D.ptr (elemD 1 (sl s 1) (sl s 4))).bind fun z_1 => ((ldD false 1 z_1).bind chkV).bind fun z_2 => (bin BinOp.sub false [] z z_2).bind fun z =>
 (mkArr 1 [z]).bind fun a => (chkA a).bind fun b => (appD 1 8 (sl s 0) b).bind fun y => (bin BinOp.add false [] (sl s 4) (D.v (Value.int IntKind.i64 1))).bind fun z => some (Out.nrm [y, sl s 1, sl s 2, sl s 3, z]))
 (some (Out.ext 0 [sl s 0]))) [D.arr 1 [], sl rs 0, sl rs_1 0, z, D.v (Value.int IntKind.i64 0)]).bind fun o => outK o (fun i s => ifN (i.beq 0) (some (Out.ret [sl s 0] [])) none) fun a b => some (Out.ret a b)) := by kernel_rfl
theorem t_spec_FilingsFor (x0 x1 : D) : F_spec_FilingsFor [x0, x1] =
  ((boxD 5 x0).bind fun y => (boxD 5 x1).bind fun y_1 => (fldD true 5 0 y).bind fun z => callK (F_spec_maGood [z]) fun rs _u => (un UnOp.not (sl rs 0)).bind fun z =>
 (gate (D.tup []) z false (fldD true 5 0 y_1)).bind fun z_1 => gateC z false (callK (F_spec_maGood [z_1]) fun rs _u => some (Out.nrm [sl rs 0])) [D.tup []] fun outs =>
 (gate (D.tup []) z false (un UnOp.not (sl outs 0))).bind fun z_2 => (pickD z (D.v (Value.bool true)) z_2).bind fun z => (gate (D.tup []) z false (fldD true 5 0 y)).bind fun z_3 =>
 (gate (D.tup []) z false (fldD true 5 0 y_1)).bind fun z_4 => gateC z false (callK (F_spec_maCan [z_3, z_4]) fun rs _u => some (Out.nrm [sl rs 0])) [D.tup []] fun outs =>
 (gate (D.tup []) z false (un UnOp.not (sl outs 0))).bind fun z_5 => (pickD z (D.v (Value.bool true)) z_5).bind fun z => ifD z (some (Out.ret [D.arr 1 [], D.v (Value.bool false)] [])) ((fldD true 5 0 y).bind fun z =>
 (fldD true 5 0 y_1).bind fun z_6 => callK (F_spec_maFilings [z, z_6]) fun rs _u => some (Out.ret [sl rs 0, D.v (Value.bool true)] []))) := by kernel_rfl
theorem t_impl_CanBeJustified (x0 x1 : D) : F_impl_CanBeJustified [x0, x1] =
  ((boxD 5 x0).bind fun y => (boxD 5 x1).bind fun y_1 => (fldD true 5 0 y).bind fun z => callK (F_impl_IsStrike [z]) fun rs _u => (un UnOp.not (sl rs 0)).bind fun z =>
 (gate (D.tup []) z false (fldD true 5 0 y_1)).bind fun z_1 => gateC z false (callK (F_impl_IsStrike [z_1]) fun rs _u => some (Out.nrm [sl rs 0])) [D.tup []] fun outs =>
 (gate (D.tup []) z false (un UnOp.not (sl outs 0))).bind fun z_2 => (pickD z (D.v (Value.bool true)) z_2).bind fun z => ifD z (some (Out.ret [D.v (Value.bool false), D.v (Value.bool false)] []))
 ((fldD true 5 0 y).bind fun z => (fldD true 5 0 y_1).bind fun z_3 => callK (F_impl_Strike_filings [z, z_3]) fun rs _u => (tupAt (D.tup rs) 0).bind fun _u => (tupAt (tupCut (D.tup rs) 0) 1).bind fun z =>
 some (Out.ret [z, D.v (Value.bool true)] []))) := by kernel_rfl
theorem t_spec_CanBeJustified (x0 x1 : D) : F_spec_CanBeJustified [x0, x1] =
  ((boxD 5 x0).bind fun y => (boxD 5 x1).bind fun y_1 => (fldD true 5 0 y).bind fun z => callK (F_spec_maGood [z]) fun rs _u => (un UnOp.not (sl rs 0)).bind fun z =>
 (gate (D.tup []) z false (fldD true 5 0 y_1)).bind fun z_1 => gateC z false (callK (F_spec_maGood [z_1]) fun rs _u => some (Out.nrm [sl rs 0])) [D.tup []] fun outs =>
 (gate (D.tup []) z false (un UnOp.not (sl outs 0))).bind fun z_2 => (pickD z (D.v (Value.bool true)) z_2).bind fun z => ifD z (some (Out.ret [D.v (Value.bool false), D.v (Value.bool false)] []))
 ((fldD true 5 0 y).bind fun z => (fldD true 5 0 y_1).bind fun z_3 => callK (F_spec_maCan [z, z_3]) fun rs _u => some (Out.ret [sl rs 0, D.v (Value.bool true)] []))) := by kernel_rfl
theorem t_laws_sameInts (x0 x1 : D) : F_laws_sameInts [x0, x1] =
  ((lenD false x0).bind fun z => (lenD false x1).bind fun z_1 => (bin BinOp.neq false [] z z_1).bind fun z => ifD z (some (Out.ret [D.v (Value.bool false)] [])) ((lenD false x0).bind fun z => (loopC (fun s =>
 (bin BinOp.lss false [] (sl s 3) (sl s 2)).bind fun z => ifD z ((Option.map D.ptr (elemD 1 (sl s 0) (sl s 3))).bind fun z => ((ldD false 1 z).bind chkV).bind fun z =>
 (Option.map D.ptr (elemD 1 (sl s 1) (sl s 3))).bind fun z_2 => ((ldD false 1 z_2).bind chkV).bind fun z_3 => (bin BinOp.neq false [] z z_3).bind fun z => ifD z (some (Out.ret [D.v (Value.bool false)] []))
 ((bin BinOp.add false [] (sl s 3) (D.v (Value.int IntKind.i64 1))).bind fun z => some (Out.nrm [sl s 0, sl s 1, sl s 2, z]))) (some (Out.ext 0 []))) [x0, x1, z, D.v (Value.int IntKind.i64 0)]).bind fun o =>
 outK o (fun i _u => ifN (i.beq 0) (some (Out.ret [D.v (Value.bool true)] [])) none) fun a b => some (Out.ret a b))) := by kernel_rfl
theorem t_spec_DrawCastsLeft (x0 : D) : F_spec_DrawCastsLeft [x0] =
  ((bldD [(0, 1)] [D.arr 1 [], D.v (Value.int IntKind.i64 0), D.v (Value.int IntKind.u64 0)] [x0]).bind fun z => (boxD 3 z).bind fun y => (liveD y (D.ref 0 0)).bind fun z => (liveD z z).bind fun z_1 =>
 (ref0 z_1 y).bind fun i => (liveD i i).bind fun i => callK (F_spec_l1Cur_anyStrike [i]) fun rs us => (stD 5 (D.agg [D.v (Value.int IntKind.i64 0), D.v (Value.int IntKind.i64 0), D.v (Value.int IntKind.i64 0),
 D.v (Value.int IntKind.i64 0), D.v (Value.int IntKind.i64 0)]) (D.ref 0 0) (sl rs 0)).bind fun b => (fldD true 5 0 b).bind fun z_2 => (liveD z z).bind fun z_3 => (fldD true 5 0 b).bind fun z_4 =>
 (ref0 z_3 (sl us 0)).bind fun i => (liveD i i).bind fun i => callK (F_spec_l1Cur_lower [i, z_4]) fun rs us => (liveD z z).bind fun z_5 => (liveD z z).bind fun z => (mkArr 1
 [D.v (Value.int IntKind.i64 999), D.v (Value.int IntKind.i64 (-1)), D.v (Value.int IntKind.i64 1000)]).bind fun a => (ref0 z (sl us 0)).bind fun i => (liveD i i).bind fun i =>
 callK (F_spec_l1Cur_among [i, a]) fun rs_1 us => (mkArr 1 [D.v (Value.int IntKind.i64 0), D.v (Value.int IntKind.i64 1), D.v (Value.int IntKind.i64 3), D.v (Value.int IntKind.i64 10), sl rs_1 0]).bind fun a =>
 (ref0 z_5 (sl us 0)).bind fun i => (liveD i i).bind fun i => callK (F_spec_l1Cur_among [i, a]) fun rs_2 _u => (stD 5 (D.agg [D.v (Value.int IntKind.i64 0), D.v (Value.int IntKind.i64 0), D.v (Value.int IntKind.i64 0),
 D.v (Value.int IntKind.i64 0), D.v (Value.int IntKind.i64 0)]) (D.ref 0 0) z_2).bind fun b => (stD 5 (D.agg [D.v (Value.int IntKind.i64 0), D.v (Value.int IntKind.i64 0), D.v (Value.int IntKind.i64 0),
 D.v (Value.int IntKind.i64 0), D.v (Value.int IntKind.i64 0)]) (D.ref 0 0) (sl rs 0)).bind fun b_1 => (fldD true 5 0 b).bind fun y => (fldD true 5 0 b_1).bind fun y_1 => some (Out.ret [y, y_1, sl rs_2 0] [])) := by kernel_rfl
theorem t_impl_CastsLeft (x0 x1 x2 : D) : F_impl_CastsLeft [x0, x1, x2] =
  ((boxD 5 x0).bind fun y => (boxD 5 x1).bind fun y_1 => (liveD y_1 (D.ref 0 0)).bind fun z => ((atD y_1 z).bind (takeD false 1)).bind fun z => (bin BinOp.add false [] x2 z).bind fun z =>
 (liveD y (D.ref 0 0)).bind fun z_1 => ((atD y z_1).bind (takeD false 1)).bind fun z_2 => (bin BinOp.sub false [] z z_2).bind fun z => (fldD true 5 0 y).bind fun z_3 => callK (F_impl_IsStrike [z_3]) fun rs _u =>
 (un UnOp.not (sl rs 0)).bind fun z_4 => (gate (D.tup []) z_4 false (fldD true 5 0 y_1)).bind fun z_5 => gateC z_4 false (callK (F_impl_IsStrike [z_5]) fun rs _u => some (Out.nrm [sl rs 0])) [D.tup []] fun outs =>
 (gate (D.tup []) z_4 false (un UnOp.not (sl outs 0))).bind fun z_6 => (pickD z_4 (D.v (Value.bool true)) z_6).bind fun z_7 => (gate (D.tup []) z_7 false (some x2)).bind fun z_8 => gateC z_7 false (callK (F_impl_within
 [z_8, D.v (Value.int IntKind.i64 0), D.v (Value.int IntKind.i64 999)]) fun rs _u => some (Out.nrm [sl rs 0])) [D.tup []] fun outs => (gate (D.tup []) z_7 false (un UnOp.not (sl outs 0))).bind fun z_9 =>
 (pickD z_7 (D.v (Value.bool true)) z_9).bind fun z_10 => (gate (D.tup []) z_10 false (some z)).bind fun z_11 => (gate (D.tup []) z_10 false (bin BinOp.lss false [] z_11 (D.v (Value.int IntKind.i64 0)))).bind fun z_12 =>
 (pickD z_10 (D.v (Value.bool true)) z_12).bind fun z_13 => ifD z_13 (some (Out.ret [D.v (Value.int IntKind.i64 0), D.v (Value.bool false)] [])) ((bin BinOp.mul false [] (D.v (Value.int IntKind.i64 1000)) z).bind fun z =>
 (bin BinOp.add false [] z (D.v (Value.int IntKind.i64 999))).bind fun z => ((minD (D.v (Value.int IntKind.i64 1000000)) z).bind fun z => some z).bind fun z => some (Out.ret [z, D.v (Value.bool true)] []))) := by kernel_rfl
theorem t_spec_l1Least (x0 x1 : D) : F_spec_l1Least [x0, x1] =
  ((bin BinOp.lss false [] x0 x1).bind fun z => ifD z (some (Out.ret [x0] [])) (some (Out.ret [x1] []))) := by kernel_rfl
theorem t_spec_CastsLeft (x0 x1 x2 : D) : F_spec_CastsLeft [x0, x1, x2] =
  ((boxD 5 x0).bind fun y => (boxD 5 x1).bind fun y_1 => (fldD true 5 0 y).bind fun z => callK (F_spec_maGood [z]) fun rs _u => (un UnOp.not (sl rs 0)).bind fun z =>
 (gate (D.tup []) z false (fldD true 5 0 y_1)).bind fun z_1 => gateC z false (callK (F_spec_maGood [z_1]) fun rs _u => some (Out.nrm [sl rs 0])) [D.tup []] fun outs =>
 (gate (D.tup []) z false (un UnOp.not (sl outs 0))).bind fun z_2 => (pickD z (D.v (Value.bool true)) z_2).bind fun z => (gate (D.tup []) z false (some x2)).bind fun z_3 => gateC z false
 (callK (F_spec_l1In [z_3, D.v (Value.int IntKind.i64 0), D.v (Value.int IntKind.i64 999)]) fun rs _u => some (Out.nrm [sl rs 0])) [D.tup []] fun outs => (gate (D.tup []) z false (un UnOp.not (sl outs 0))).bind fun z_4 =>
 (pickD z (D.v (Value.bool true)) z_4).bind fun z => (gate D.bad z false (liveD y (D.ref 0 0))).bind fun z_5 => (gate (D.tup []) z false ((atD y z_5).bind (takeD false 1))).bind fun z_6 =>
 (gate D.bad z false (liveD y_1 (D.ref 0 0))).bind fun z_7 => (gate (D.tup []) z false ((atD y_1 z_7).bind (takeD false 1))).bind fun z_8 => (gate (D.tup []) z false (bin BinOp.sub false [] z_6 z_8)).bind fun z_9 =>
 (gate (D.tup []) z false (some x2)).bind fun z_10 => (gate (D.tup []) z false (bin BinOp.gtr false [] z_9 z_10)).bind fun z_11 => (pickD z (D.v (Value.bool true)) z_11).bind fun z => ifD z (some
 (Out.ret [D.v (Value.int IntKind.i64 0), D.v (Value.bool false)] [])) ((liveD y_1 (D.ref 0 0)).bind fun z => ((atD y_1 z).bind (takeD false 1)).bind fun z => (bin BinOp.add false [] z x2).bind fun z =>
 (liveD y (D.ref 0 0)).bind fun z_12 => ((atD y z_12).bind (takeD false 1)).bind fun z_13 => (bin BinOp.sub false [] z z_13).bind fun z => (bin BinOp.mul false [] (D.v (Value.int IntKind.i64 1000)) z).bind fun z =>
 (bin BinOp.add false [] z (D.v (Value.int IntKind.i64 999))).bind fun z => callK (F_spec_l1Least [D.v (Value.int IntKind.i64 1000000), z]) fun rs _u => some (Out.ret [sl rs 0, D.v (Value.bool true)] []))) := by kernel_rfl
theorem t_impl_DepthAfter (x0 x1 : D) : F_impl_DepthAfter [x0, x1] =
  ((boxD 5 x0).bind fun y => (fldD true 5 0 y).bind fun z => callK (F_impl_IsStrike [z]) fun rs _u => (un UnOp.not (sl rs 0)).bind fun z => (gate (D.tup []) z false (some x1)).bind fun z_1 => gateC z false
 (callK (F_impl_within [z_1, D.v (Value.int IntKind.i64 0), D.v (Value.int IntKind.i64 1000000)]) fun rs _u => some (Out.nrm [sl rs 0])) [D.tup []] fun outs =>
 (gate (D.tup []) z false (un UnOp.not (sl outs 0))).bind fun z_2 => (pickD z (D.v (Value.bool true)) z_2).bind fun z => ifD z (some (Out.ret [D.v (Value.int IntKind.i64 0), D.v (Value.bool false)] []))
 ((liveD y (D.ref 0 0)).bind fun z => ((atD y z).bind (takeD false 1)).bind fun z => (bin BinOp.quo false [] x1 (D.v (Value.int IntKind.i64 1000))).bind fun z_3 =>
 (bin BinOp.add false [] z z_3).bind fun z => some (Out.ret [z, D.v (Value.bool true)] []))) := by kernel_rfl
theorem t_spec_DrawFileStrike (x0 : D) : F_spec_DrawFileStrike [x0] =
  ((bldD [(0, 1)] [D.arr 1 [], D.v (Value.int IntKind.i64 0), D.v (Value.int IntKind.u64 0)] [x0]).bind fun z => (boxD 3 z).bind fun y => (liveD y (D.ref 0 0)).bind fun z => (liveD z z).bind fun z_1 =>
 (ref0 z_1 y).bind fun i => (liveD i i).bind fun i => callK (F_spec_l1Cur_anyStrike [i]) fun rs us => (liveD z z).bind fun z_2 => (ref0 z_2 (sl us 0)).bind fun i => (liveD i i).bind fun i =>
 callK (F_spec_l1Cur_pick [i, D.v (Value.int IntKind.i64 6)]) fun rs_1 us => (liveD z z).bind fun z_3 => (ref0 z_3 (sl us 0)).bind fun i => (liveD i i).bind fun i =>
 callK (F_spec_l1Cur_pick [i, D.v (Value.int IntKind.i64 12)]) fun rs_2 us => (bin BinOp.quo false [] (sl rs_2 0) (D.v (Value.int IntKind.i64 11))).bind fun z_4 => (bin BinOp.sub false [] (sl rs_1 0) z_4).bind fun z_5 =>
 (liveD z z).bind fun z_6 => (liveD z z).bind fun z => (mkArr 1 [D.v (Value.int IntKind.i64 999), D.v (Value.int IntKind.i64 0), D.v (Value.int IntKind.i64 1000)]).bind fun a => (ref0 z (sl us 0)).bind fun i =>
 (liveD i i).bind fun i => callK (F_spec_l1Cur_among [i, a]) fun rs_3 us => (mkArr 1 [D.v (Value.int IntKind.i64 1), D.v (Value.int IntKind.i64 5), D.v (Value.int IntKind.i64 30), D.v (Value.int IntKind.i64 40),
 sl rs_3 0]).bind fun a => (ref0 z_6 (sl us 0)).bind fun i => (liveD i i).bind fun i => callK (F_spec_l1Cur_among [i, a]) fun rs_4 _u => (stD 5 (D.agg [D.v (Value.int IntKind.i64 0), D.v (Value.int IntKind.i64 0),
 D.v (Value.int IntKind.i64 0), D.v (Value.int IntKind.i64 0), D.v (Value.int IntKind.i64 0)]) (D.ref 0 0) (sl rs 0)).bind fun b => (fldD true 5 0 b).bind fun y => some (Out.ret [y, z_5, sl rs_4 0] [])) := by kernel_rfl
theorem t_impl_strikeOf (x0 : D) : F_impl_strikeOf [x0] =
  ((Option.map D.ptr (elemD 1 x0 (D.v (Value.int IntKind.i64 0)))).bind fun z => ((ldD false 1 z).bind chkV).bind fun z => (Option.map D.ptr (elemD 1 x0 (D.v (Value.int IntKind.i64 1)))).bind fun z_1 =>
 ((ldD false 1 z_1).bind chkV).bind fun z_2 => (Option.map D.ptr (elemD 1 x0 (D.v (Value.int IntKind.i64 2)))).bind fun z_3 => ((ldD false 1 z_3).bind chkV).bind fun z_4 =>
 (Option.map D.ptr (elemD 1 x0 (D.v (Value.int IntKind.i64 3)))).bind fun z_5 => ((ldD false 1 z_5).bind chkV).bind fun z_6 => (Option.map D.ptr (elemD 1 x0 (D.v (Value.int IntKind.i64 4)))).bind fun z_7 =>
 ((ldD false 1 z_7).bind chkV).bind fun z_8 => (bldD [(0, 1), (1, 1), (2, 1), (3, 1), (4, 1)] [D.v (Value.int IntKind.i64 0), D.v (Value.int IntKind.i64 0), D.v (Value.int IntKind.i64 0), D.v (Value.int IntKind.i64 0),
 D.v (Value.int IntKind.i64 0)] [z, z_2, z_4, z_6, z_8]).bind fun z => (stD 5 (D.agg [D.v (Value.int IntKind.i64 0), D.v (Value.int IntKind.i64 0), D.v (Value.int IntKind.i64 0), D.v (Value.int IntKind.i64 0),
 D.v (Value.int IntKind.i64 0)]) (D.ref 0 0) z).bind fun b => (fldD true 5 0 b).bind fun y => some (Out.ret [y] [])) := by kernel_rfl
theorem t_impl_FileStrike (x0 x1 x2 : D) : F_impl_FileStrike [x0, x1, x2] =
  ((boxD 5 x0).bind fun y => (fldD true 5 0 y).bind fun z => callK (F_impl_IsStrike [z]) fun rs _u => (un UnOp.not (sl rs 0)).bind fun z => (gate (D.tup []) z false (some x1)).bind fun z_1 => gateC z false
 (callK (F_impl_within [z_1, D.v (Value.int IntKind.i64 0), D.v (Value.int IntKind.i64 4)]) fun rs _u => some (Out.nrm [sl rs 0])) [D.tup []] fun outs => (gate (D.tup []) z false (un UnOp.not (sl outs 0))).bind fun z_2 =>
 (pickD z (D.v (Value.bool true)) z_2).bind fun z => (gate (D.tup []) z false (some x1)).bind fun z_3 => (gate (D.tup []) z false (bin BinOp.eql false [] z_3 (D.v (Value.int IntKind.i64 2)))).bind fun z_4 =>
 (pickD z (D.v (Value.bool true)) z_4).bind fun z => (gate (D.tup []) z false (some x2)).bind fun z_5 => gateC z false (callK (F_impl_within [z_5, D.v (Value.int IntKind.i64 1), D.v (Value.int IntKind.i64 999)])
 fun rs _u => some (Out.nrm [sl rs 0])) [D.tup []] fun outs => (gate (D.tup []) z false (un UnOp.not (sl outs 0))).bind fun z_6 => (pickD z (D.v (Value.bool true)) z_6).bind fun z => ifD z ((bldD []
 [D.v (Value.int IntKind.i64 0), D.v (Value.int IntKind.i64 0), D.v (Value.int IntKind.i64 0), D.v (Value.int IntKind.i64 0), D.v (Value.int IntKind.i64 0)] []).bind fun z => (stD 5 (D.agg
 [D.v (Value.int IntKind.i64 0), D.v (Value.int IntKind.i64 0), D.v (Value.int IntKind.i64 0), D.v (Value.int IntKind.i64 0), D.v (Value.int IntKind.i64 0)]) (D.ref 0 0) z).bind fun b =>
 (fldD true 5 0 b).bind fun y => some (Out.ret [y, D.v (Value.bool false)] [])) ((fldD true 5 0 y).bind fun z => callK (F_impl_Strike_parts [z]) fun rs _u => (liveD (sl rs 0) (D.ref 0 0)).bind fun z =>
 (liveD z (D.ref 0 0)).bind fun z_7 => ((liveD z_7 (sl rs 0)).bind fun b => refI 1 b x1).bind fun z_8 => ((atD (sl rs 0) z_8).bind (takeD false 1)).bind fun z_9 => (bin BinOp.sub false [] z_9 x2).bind fun z_10 =>
 ((liveD z_7 (sl rs 0)).bind fun b => refI 1 b x1).bind fun z_11 => (stD 1 (sl rs 0) z_11 z_10).bind fun b => (liveD z (D.ref 0 0)).bind fun z => (liveD z b).bind fun i => callK (F_impl_strikeOf [i]) fun rs _u => (stD 5
 (D.agg [D.v (Value.int IntKind.i64 0), D.v (Value.int IntKind.i64 0), D.v (Value.int IntKind.i64 0), D.v (Value.int IntKind.i64 0), D.v (Value.int IntKind.i64 0)]) (D.ref 0 0) (sl rs 0)).bind fun b =>
 (fldD true 5 0 b).bind fun z => callK (F_impl_IsStrike [z]) fun rs _u => (un UnOp.not (sl rs 0)).bind fun z => ifD z ((bldD [] [D.v (Value.int IntKind.i64 0), D.v (Value.int IntKind.i64 0), D.v (Value.int IntKind.i64 0),
 D.v (Value.int IntKind.i64 0), D.v (Value.int IntKind.i64 0)] []).bind fun z => (stD 5 (D.agg [D.v (Value.int IntKind.i64 0), D.v (Value.int IntKind.i64 0), D.v (Value.int IntKind.i64 0), D.v (Value.int IntKind.i64 0),
 D.v (Value.int IntKind.i64 0)]) (D.ref 0 0) z).bind fun b => (fldD true 5 0 b).bind fun y => some (Out.ret [y, D.v (Value.bool false)] [])) ((fldD true 5 0 b).bind fun z => (stD 5 (D.agg [D.v (Value.int IntKind.i64 0),
 D.v (Value.int IntKind.i64 0), D.v (Value.int IntKind.i64 0), D.v (Value.int IntKind.i64 0), D.v (Value.int IntKind.i64 0)]) (D.ref 0 0) z).bind fun b => (fldD true 5 0 b).bind fun y =>
 some (Out.ret [y, D.v (Value.bool true)] [])))) := by kernel_rfl
theorem t_spec_FileStrike (x0 x1 x2 : D) : F_spec_FileStrike [x0, x1, x2] =
  ((boxD 5 x0).bind fun y => (fldD true 5 0 y).bind fun z => callK (F_spec_maGood [z]) fun rs _u => (un UnOp.not (sl rs 0)).bind fun z => (gate (D.tup []) z false (some x1)).bind fun z_1 => gateC z false
 (callK (F_spec_l1In [z_1, D.v (Value.int IntKind.i64 0), D.v (Value.int IntKind.i64 4)]) fun rs _u => some (Out.nrm [sl rs 0])) [D.tup []] fun outs => (gate (D.tup []) z false (un UnOp.not (sl outs 0))).bind fun z_2 =>
 (pickD z (D.v (Value.bool true)) z_2).bind fun z => (gate (D.tup []) z false (some x1)).bind fun z_3 => (gate (D.tup []) z false (bin BinOp.eql false [] z_3 (D.v (Value.int IntKind.i64 2)))).bind fun z_4 =>
 (pickD z (D.v (Value.bool true)) z_4).bind fun z => (gate (D.tup []) z false (some x2)).bind fun z_5 => gateC z false (callK (F_spec_l1In [z_5, D.v (Value.int IntKind.i64 1), D.v (Value.int IntKind.i64 999)])
 fun rs _u => some (Out.nrm [sl rs 0])) [D.tup []] fun outs => (gate (D.tup []) z false (un UnOp.not (sl outs 0))).bind fun z_6 => (pickD z (D.v (Value.bool true)) z_6).bind fun z => ifD z ((bldD []
 [D.v (Value.int IntKind.i64 0), D.v (Value.int IntKind.i64 0), D.v (Value.int IntKind.i64 0), D.v (Value.int IntKind.i64 0), D.v (Value.int IntKind.i64 0)] []).bind fun z => (stD 5 (D.agg
 [D.v (Value.int IntKind.i64 0), D.v (Value.int IntKind.i64 0), D.v (Value.int IntKind.i64 0), D.v (Value.int IntKind.i64 0), D.v (Value.int IntKind.i64 0)]) (D.ref 0 0) z).bind fun b =>
 (fldD true 5 0 b).bind fun y => some (Out.ret [y, D.v (Value.bool false)] [])) ((fldD true 5 0 y).bind fun z => callK (F_spec_maParts [z]) fun rs _u => (liveD (sl rs 0) (D.ref 0 0)).bind fun z =>
 (liveD z (D.ref 0 0)).bind fun z_7 => ((liveD z_7 (sl rs 0)).bind fun b => refI 1 b x1).bind fun z_8 => ((atD (sl rs 0) z_8).bind (takeD false 1)).bind fun z_9 => (bin BinOp.sub false [] z_9 x2).bind fun z_10 =>
 ((liveD z_7 (sl rs 0)).bind fun b => refI 1 b x1).bind fun z_11 => (stD 1 (sl rs 0) z_11 z_10).bind fun b => (liveD z (D.ref 0 0)).bind fun z_12 => (liveD z_12 b).bind fun i => callK (F_spec_maOf [i]) fun rs _u =>
 callK (F_spec_maGood [sl rs 0]) fun rs _u => (un UnOp.not (sl rs 0)).bind fun z_13 => ifD z_13 ((bldD [] [D.v (Value.int IntKind.i64 0), D.v (Value.int IntKind.i64 0), D.v (Value.int IntKind.i64 0),
 D.v (Value.int IntKind.i64 0), D.v (Value.int IntKind.i64 0)] []).bind fun z => (stD 5 (D.agg [D.v (Value.int IntKind.i64 0), D.v (Value.int IntKind.i64 0), D.v (Value.int IntKind.i64 0), D.v (Value.int IntKind.i64 0),
 D.v (Value.int IntKind.i64 0)]) (D.ref 0 0) z).bind fun b => (fldD true 5 0 b).bind fun y => some (Out.ret [y, D.v (Value.bool false)] [])) ((liveD z (D.ref 0 0)).bind fun z => (liveD z b).bind fun i =>
 callK (F_spec_maOf [i]) fun rs _u => (stD 5 (D.agg [D.v (Value.int IntKind.i64 0), D.v (Value.int IntKind.i64 0), D.v (Value.int IntKind.i64 0), D.v (Value.int IntKind.i64 0), D.v (Value.int IntKind.i64 0)])
 (D.ref 0 0) (sl rs 0)).bind fun b => (fldD true 5 0 b).bind fun y => some (Out.ret [y, D.v (Value.bool true)] [])))) := by kernel_rfl
theorem t_impl_CentreStrike (x0 : D) : F_impl_CentreStrike [x0] =
  ((boxD 5 x0).bind fun y => (fldD true 5 0 y).bind fun z => callK (F_impl_IsStrike [z]) fun rs _u => (un UnOp.not (sl rs 0)).bind fun z => ifD z ((bldD []
 [D.v (Value.int IntKind.i64 0), D.v (Value.int IntKind.i64 0), D.v (Value.int IntKind.i64 0), D.v (Value.int IntKind.i64 0), D.v (Value.int IntKind.i64 0)] []).bind fun z => (stD 5 (D.agg
 [D.v (Value.int IntKind.i64 0), D.v (Value.int IntKind.i64 0), D.v (Value.int IntKind.i64 0), D.v (Value.int IntKind.i64 0), D.v (Value.int IntKind.i64 0)]) (D.ref 0 0) z).bind
 fun b => (fldD true 5 0 b).bind fun y => some (Out.ret [y, D.v (Value.bool false)] [])) ((liveD y (D.ref 0 1)).bind fun z => ((atD y z).bind (takeD false 1)).bind fun z => (liveD y (D.ref 0 3)).bind fun z_1 =>
 ((atD y z_1).bind (takeD false 1)).bind fun z_2 => ((minD z z_2).bind fun z => some z).bind fun z => (liveD y (D.ref 0 1)).bind fun z_3 => (stD 1 y z_3 z).bind fun b => (liveD b (D.ref 0 3)).bind fun z_4 =>
 (stD 1 b z_4 z).bind fun b => (fldD true 5 0 b).bind fun z => (stD 5 (D.agg [D.v (Value.int IntKind.i64 0), D.v (Value.int IntKind.i64 0), D.v (Value.int IntKind.i64 0), D.v (Value.int IntKind.i64 0),
 D.v (Value.int IntKind.i64 0)]) (D.ref 0 0) z).bind fun b => (fldD true 5 0 b).bind fun y => some (Out.ret [y, D.v (Value.bool true)] []))) := by kernel_rfl
theorem t_spec_CentreStrike (x0 : D) : F_spec_CentreStrike [x0] =
  ((boxD 5 x0).bind fun y => (fldD true 5 0 y).bind fun z => callK (F_spec_maGood [z]) fun rs _u => (un UnOp.not (sl rs 0)).bind fun z => ifD z ((bldD []
 [D.v (Value.int IntKind.i64 0), D.v (Value.int IntKind.i64 0), D.v (Value.int IntKind.i64 0), D.v (Value.int IntKind.i64 0), D.v (Value.int IntKind.i64 0)] []).bind fun z => (stD 5 (D.agg
 [D.v (Value.int IntKind.i64 0), D.v (Value.int IntKind.i64 0), D.v (Value.int IntKind.i64 0), D.v (Value.int IntKind.i64 0), D.v (Value.int IntKind.i64 0)]) (D.ref 0 0) z).bind
 fun b => (fldD true 5 0 b).bind fun y => some (Out.ret [y, D.v (Value.bool false)] [])) ((liveD y (D.ref 0 1)).bind fun z => ((atD y z).bind (takeD false 1)).bind fun z => (liveD y (D.ref 0 3)).bind fun z_1 =>
 ((atD y z_1).bind (takeD false 1)).bind fun z_2 => callK (F_spec_l1Least [z, z_2]) fun rs _u => (liveD y (D.ref 0 1)).bind fun z => (stD 1 y z (sl rs 0)).bind fun b => (liveD b (D.ref 0 3)).bind fun z =>
 (stD 1 b z (sl rs 0)).bind fun b => (fldD true 5 0 b).bind fun z => (stD 5 (D.agg [D.v (Value.int IntKind.i64 0), D.v (Value.int IntKind.i64 0), D.v (Value.int IntKind.i64 0), D.v (Value.int IntKind.i64 0),
 D.v (Value.int IntKind.i64 0)]) (D.ref 0 0) z).bind fun b => (fldD true 5 0 b).bind fun y => some (Out.ret [y, D.v (Value.bool true)] []))) := by kernel_rfl
theorem t_impl_join (x0 x1 : D) : F_impl_join [x0, x1] =
  ((mkArr 1 []).bind fun a => (lenD false x0).bind fun z => (loopC (fun s => (bin BinOp.lss false [] (sl s 4) (sl s 3)).bind fun z => ifD z ((Option.map D.ptr (elemD 1 (sl s 2) (sl s 4))).bind fun z =>
 ((ldD false 1 z).bind chkV).bind fun z => callK (fItoa [z]) fun rs _u => (mkArr 1 [sl rs 0]).bind fun a => (chkA a).bind fun b => (appD 1 16 (sl s 1) b).bind fun y =>
 (bin BinOp.add false [] (sl s 4) (D.v (Value.int IntKind.i64 1))).bind fun z => some (Out.nrm [sl s 0, y, sl s 2, sl s 3, z])) (some (Out.ext 0 [sl s 0, sl s 1]))) [x1, a, x0, z, D.v (Value.int IntKind.i64 0)]).bind
 fun o => outK o (fun i s => ifN (i.beq 0) ((liveD (sl s 1) (D.ref 0 0)).bind fun z => (liveD z (sl s 1)).bind fun i => callK (fJoin [i, sl s 0]) fun rs _u => some (Out.ret [sl rs 0] [])) none)
 fun a b => some (Out.ret a b)) := by kernel_rfl
theorem t_impl_StrikeText (x0 : D) : F_impl_StrikeText [x0] =
  ((boxD 5 x0).bind fun y => (fldD true 5 0 y).bind fun z => callK (F_impl_IsStrike [z]) fun rs _u => (un UnOp.not (sl rs 0)).bind fun z =>
 ifD z (some (Out.ret [D.v (Value.string { data := { toList := [] } }), D.v (Value.bool false)] [])) ((fldD true 5 0 y).bind fun z => callK (F_impl_Strike_parts [z]) fun rs _u =>
 callK (F_impl_join [sl rs 0, D.v (Value.string { data := { toList := [47] } })]) fun rs _u => some (Out.ret [sl rs 0, D.v (Value.bool true)] []))) := by kernel_rfl
theorem t_spec_l1Num (n : Nat) (x0 : D) : R_spec_l1Num (n + 1) [x0] =
  ((bin BinOp.lss false [] x0 (D.v (Value.int IntKind.i64 10))).bind fun z => ifD z ((bin BinOp.add false [] (D.v (Value.int IntKind.i64 48)) x0).bind fun z => (convD (some IntKind.u8) false z).bind fun z =>
 (mkArr 1 [z]).bind fun a => (strD a).bind fun z => some (Out.ret [z] [])) ((bin BinOp.quo false [] x0 (D.v (Value.int IntKind.i64 10))).bind fun z => callK (R_spec_l1Num n [z]) fun rs _u =>
 (bin BinOp.rem false [] x0 (D.v (Value.int IntKind.i64 10))).bind fun z => (bin BinOp.add false [] (D.v (Value.int IntKind.i64 48)) z).bind fun z => (convD (some IntKind.u8) false z).bind fun z =>
 (mkArr 1 [z]).bind fun a => (strD a).bind fun z => (bin BinOp.add false [] (sl rs 0) z).bind fun z => some (Out.ret [z] []))) := by kernel_rfl
theorem t_spec_maText (x0 : D) : F_spec_maText [x0] =
  ((boxD 5 x0).bind fun y => (fldD true 5 0 y).bind fun z => callK (F_spec_maParts [z]) fun rs _u => (lenD false (sl rs 0)).bind fun z => (loopC (fun s => (bin BinOp.lss false [] (sl s 3) (sl s 2)).bind fun z => ifD z
 ((Option.map D.ptr (elemD 1 (sl s 1) (sl s 3))).bind fun z => ((ldD false 1 z).bind chkV).bind fun z => (bin BinOp.gtr false [] (sl s 3) (D.v (Value.int IntKind.i64 0))).bind fun z_1 => ifD z_1
 ((bin BinOp.add false [] (sl s 0) (D.v (Value.string { data := { toList := [47] } }))).bind fun z_2 => callK (F_spec_l1Num [z]) fun rs _u => (bin BinOp.add false [] z_2 (sl rs 0)).bind fun z =>
 (bin BinOp.add false [] (sl s 3) (D.v (Value.int IntKind.i64 1))).bind fun z_3 => some (Out.nrm [z, sl s 1, sl s 2, z_3])) (callK (F_spec_l1Num [z]) fun rs _u => (bin BinOp.add false [] (sl s 0) (sl rs 0)).bind fun z =>
 (bin BinOp.add false [] (sl s 3) (D.v (Value.int IntKind.i64 1))).bind fun z_2 => some (Out.nrm [z, sl s 1, sl s 2, z_2]))) (some (Out.ext 0 [sl s 0])))
 [D.v (Value.string { data := { toList := [] } }), sl rs 0, z, D.v (Value.int IntKind.i64 0)]).bind fun o => outK o (fun i s => ifN (i.beq 0) (some (Out.ret [sl s 0] [])) none) fun a b => some (Out.ret a b)) := by kernel_rfl
theorem t_spec_StrikeText (x0 : D) : F_spec_StrikeText [x0] =
  ((boxD 5 x0).bind fun y => (fldD true 5 0 y).bind fun z => callK (F_spec_maGood [z]) fun rs _u => (un UnOp.not (sl rs 0)).bind fun z =>
 ifD z (some (Out.ret [D.v (Value.string { data := { toList := [] } }), D.v (Value.bool false)] [])) ((fldD true 5 0 y).bind fun z =>
 callK (F_spec_maText [z]) fun rs _u => some (Out.ret [sl rs 0, D.v (Value.bool true)] []))) := by kernel_rfl
theorem t_spec_l1Cur_spoilt (x0 x1 x2 : D) : F_spec_l1Cur_spoilt [x0, x1, x2] =
  ((liveD x0 (D.ref 0 0)).bind fun z => (ref0 z x0).bind fun i => (liveD i i).bind fun i => callK (F_spec_l1Cur_pick [i, D.v (Value.int IntKind.i64 2)]) fun rs us =>
 (bin BinOp.add false [] (D.v (Value.int IntKind.i64 1)) (sl rs 0)).bind fun z => (loopC (fun s => (bin BinOp.gtr false [] (sl s 3) (D.v (Value.int IntKind.i64 0))).bind fun z =>
 (gate (D.tup []) z true (some (sl s 1))).bind fun z_1 => (gate (D.tup []) z true (lenD true z_1)).bind fun z_2 => (gate (D.tup []) z true (bin BinOp.gtr false [] z_2 (D.v (Value.int IntKind.i64 0)))).bind fun z_3 =>
 (pickD z z_3 (D.v (Value.bool false))).bind fun z => ifD z ((liveD (sl s 0) (D.ref 0 0)).bind fun z => (lenD true (sl s 1)).bind fun z_4 => (ref0 z (sl s 0)).bind fun i => (liveD i i).bind fun i =>
 callK (F_spec_l1Cur_pick [i, z_4]) fun rs us => (liveD (sl us 0) (D.ref 0 0)).bind fun z => (lenD true (sl s 2)).bind fun z_5 => (ref0 z (sl us 0)).bind fun i => (liveD i i).bind fun i =>
 callK (F_spec_l1Cur_pick [i, z_5]) fun rs_1 us => (charD (sl s 2) (sl rs_1 0)).bind fun z => (mkArr 1 [z]).bind fun a => (strD a).bind fun z => (liveD (sl us 0) (D.ref 0 0)).bind fun z_6 =>
 (ref0 z_6 (sl us 0)).bind fun i => (liveD i i).bind fun i => callK (F_spec_l1Cur_pick [i, D.v (Value.int IntKind.i64 3)]) fun rs_2 us => (bin BinOp.eql false [] (sl rs_2 0) (D.v (Value.int IntKind.i64 0))).bind fun z_7 =>
 ifD z_7 ((sliceD true 0 (sl s 1) (D.v (Value.int IntKind.i64 0)) (sl rs 0)).bind fun z_8 => (bin BinOp.add false [] z_8 z).bind fun z => (sliceHi true 0 (sl s 1) (sl rs 0)).bind fun z_9 =>
 (bin BinOp.add false [] z z_9).bind fun z => (bin BinOp.sub false [] (sl s 3) (D.v (Value.int IntKind.i64 1))).bind fun z_10 => some (Out.nrm [sl us 0, z, sl s 2, z_10])) ((bin BinOp.eql false [] (sl rs_2 0)
 (D.v (Value.int IntKind.i64 1))).bind fun z_8 => ifD z_8 ((sliceD true 0 (sl s 1) (D.v (Value.int IntKind.i64 0)) (sl rs 0)).bind fun z_9 => (bin BinOp.add false [] z_9 z).bind fun z => (bin BinOp.add false [] (sl rs 0)
 (D.v (Value.int IntKind.i64 1))).bind fun z_10 => (sliceHi true 0 (sl s 1) z_10).bind fun z_11 => (bin BinOp.add false [] z z_11).bind fun z => (bin BinOp.sub false [] (sl s 3) (D.v (Value.int IntKind.i64 1))).bind
 fun z_12 => some (Out.nrm [sl us 0, z, sl s 2, z_12])) ((sliceD true 0 (sl s 1) (D.v (Value.int IntKind.i64 0)) (sl rs 0)).bind fun z => (bin BinOp.add false [] (sl rs 0) (D.v (Value.int IntKind.i64 1))).bind fun z_9 =>
 (sliceHi true 0 (sl s 1) z_9).bind fun z_10 => (bin BinOp.add false [] z z_10).bind fun z => (bin BinOp.sub false [] (sl s 3) (D.v (Value.int IntKind.i64 1))).bind fun z_11 => some (Out.nrm [sl us 0, z, sl s 2, z_11]))))
 (some (Out.ext 0 [sl s 0, sl s 1]))) [sl us 0, x1, x2, z]).bind fun o => outK o (fun i s => ifN (i.beq 0) ((liveD (sl s 0) (sl s 0)).bind fun _u => some (Out.ret [sl s 1] [sl s 0])) none) fun a b => some (Out.ret a b)) := by kernel_rfl
theorem t_spec_l1Cur_of (x0 x1 : D) : F_spec_l1Cur_of [x0, x1] =
  ((liveD x0 (D.ref 0 0)).bind fun z => (lenD false x1).bind fun z_1 => (ref0 z x0).bind fun i => (liveD i i).bind fun i => callK (F_spec_l1Cur_pick [i, z_1]) fun rs us =>
 (Option.map D.ptr (elemD 1 x1 (sl rs 0))).bind fun z => ((ldD false 1 z).bind chkV).bind fun z => (liveD (sl us 0) (sl us 0)).bind fun _u => some (Out.ret [z] [sl us 0])) := by kernel_rfl
theorem t_spec_DrawParseStrike (x0 : D) : F_spec_DrawParseStrike [x0] =
  ((bldD [(0, 1)] [D.arr 1 [], D.v (Value.int IntKind.i64 0), D.v (Value.int IntKind.u64 0)] [x0]).bind fun z => (boxD 3 z).bind fun y => (liveD y (D.ref 0 0)).bind fun z => (liveD z z).bind fun z_1 =>
 (ref0 z_1 y).bind fun i => (liveD i i).bind fun i => callK (F_spec_l1Cur_strike [i]) fun rs us => callK (F_spec_maText [sl rs 0]) fun rs _u => (liveD z z).bind fun z_2 => (ref0 z_2 (sl us 0)).bind fun i =>
 (liveD i i).bind fun i => callK (F_spec_l1Cur_pick [i, D.v (Value.int IntKind.i64 5)]) fun rs_1 us => (bin BinOp.eql false [] (sl rs_1 0) (D.v (Value.int IntKind.i64 0))).bind fun z_3 => ifD z_3 ((liveD z z).bind fun z =>
 (ref0 z (sl us 0)).bind fun i => (liveD i i).bind fun i => callK (F_spec_l1Cur_spoilt [i, sl rs 0, D.v (Value.string { data := { toList := [47, 45, 48, 49, 57] } })]) fun rs _u => some (Out.ret [sl rs 0] []))
 ((bin BinOp.eql false [] (sl rs_1 0) (D.v (Value.int IntKind.i64 1))).bind fun z_4 => ifD z_4 ((liveD z z).bind fun z => (mkArr 1 [D.v (Value.string { data := { toList := [] } }), D.v (Value.string
 { data := { toList := [49, 47, 49, 47, 49, 47, 49, 47, 49] } }), D.v (Value.string { data := { toList := [48, 47, 49, 47, 49, 47, 49, 47, 49] } }),
 D.v (Value.string { data := { toList := [49, 47, 49, 47, 49, 47, 49] } }), D.v (Value.string { data := { toList := [57, 57, 57, 47, 57, 57, 57, 47, 57, 57, 57, 47, 57, 57, 57, 47, 57, 57, 57] } }), D.v (Value.string {
 data := { toList := [49, 48, 48, 48, 47, 49, 47, 49, 47, 49, 47, 49] } }), D.v (Value.string { data := { toList := [48, 49, 47, 49, 47, 49, 47, 49, 47, 49] } })]).bind fun a => (ref0 z (sl us 0)).bind fun i =>
 (liveD i i).bind fun i => callK (F_spec_l1Cur_of [i, a]) fun rs _u => some (Out.ret [sl rs 0] [])) (some (Out.ret [sl rs 0] [])))) := by kernel_rfl
theorem t_impl_numbersIn (x0 : D) : F_impl_numbersIn [x0] =
  ((mkArr 1 []).bind fun a => callK (fFieldsFunc 157 isSep [x0, D.clo 157 []]) fun rs _u => (lenD false (sl rs 0)).bind fun z => (loopC (fun s => (bin BinOp.lss false [] (sl s 3) (sl s 2)).bind fun z => ifD z
 ((Option.map D.ptr (elemD 1 (sl s 1) (sl s 3))).bind fun z => ((ldD false 1 z).bind chkV).bind fun z => callK (fAtoi [z]) fun rs _u => (tupAt (D.tup rs) 0).bind fun z => (tupAt (D.tup rs) 1).bind fun z_1 =>
 (binI true BinOp.neq z_1 (D.v Value.nilIface)).bind fun z_2 => ifD z_2 ((mkArr 1 []).bind fun a => some (Out.ret [a] [])) ((mkArr 1 [z]).bind fun a => (chkA a).bind fun b => (appD 1 8 (sl s 0) b).bind fun y =>
 (bin BinOp.add false [] (sl s 3) (D.v (Value.int IntKind.i64 1))).bind fun z => some (Out.nrm [y, sl s 1, sl s 2, z]))) (some (Out.ext 0 [sl s 0]))) [a, sl rs 0, z, D.v (Value.int IntKind.i64 0)]).bind
 fun o => outK o (fun i s => ifN (i.beq 0) (some (Out.ret [sl s 0] [])) none) fun a b => some (Out.ret a b)) := by kernel_rfl
theorem t_impl_ParseStrike (x0 : D) : F_impl_ParseStrike [x0] =
  (callK (F_impl_numbersIn [x0]) fun rs _u => (lenD false (sl rs 0)).bind fun z => (bin BinOp.neq false [] z (D.v (Value.int IntKind.i64 5))).bind fun z => (gate (D.tup []) z false (some (sl rs 0))).bind fun z_1 =>
 gateC z false (callK (F_impl_join [z_1, D.v (Value.string { data := { toList := [47] } })]) fun rs _u => some (Out.nrm [sl rs 0])) [D.tup []] fun outs => (gate (D.tup []) z false (some x0)).bind fun z_2 =>
 (gate (D.tup []) z false (bin BinOp.neq false [] (sl outs 0) z_2)).bind fun z_3 => (pickD z (D.v (Value.bool true)) z_3).bind fun z => (gate (D.tup []) z false (some (sl rs 0))).bind fun z_4 =>
 gateC z false (callK (F_impl_strikeOf [z_4]) fun rs _u => some (Out.nrm [sl rs 0])) [D.tup []] fun outs => gateC z false (callK (F_impl_IsStrike [sl outs 0]) fun rs _u => some (Out.nrm [sl rs 0])) [D.tup []] fun outs =>
 (gate (D.tup []) z false (un UnOp.not (sl outs 0))).bind fun z_5 => (pickD z (D.v (Value.bool true)) z_5).bind fun z => ifD z ((bldD [] [D.v (Value.int IntKind.i64 0), D.v (Value.int IntKind.i64 0),
 D.v (Value.int IntKind.i64 0), D.v (Value.int IntKind.i64 0), D.v (Value.int IntKind.i64 0)] []).bind fun z => (stD 5 (D.agg [D.v (Value.int IntKind.i64 0), D.v (Value.int IntKind.i64 0),
 D.v (Value.int IntKind.i64 0), D.v (Value.int IntKind.i64 0), D.v (Value.int IntKind.i64 0)]) (D.ref 0 0) z).bind fun b => (fldD true 5 0 b).bind fun y => some (Out.ret [y, D.v (Value.bool false)] []))
 (callK (F_impl_strikeOf [sl rs 0]) fun rs _u => (stD 5 (D.agg [D.v (Value.int IntKind.i64 0), D.v (Value.int IntKind.i64 0), D.v (Value.int IntKind.i64 0), D.v (Value.int IntKind.i64 0), D.v (Value.int IntKind.i64 0)])
 (D.ref 0 0) (sl rs 0)).bind fun b => (fldD true 5 0 b).bind fun y => some (Out.ret [y, D.v (Value.bool true)] []))) := by kernel_rfl
theorem t_spec_l1Split (x0 x1 : D) : F_spec_l1Split [x0, x1] =
  ((loopC (fun s => (lenD true (sl s 0)).bind fun z => (bin BinOp.lss false [] (sl s 4) z).bind fun z => ifD z ((charD (sl s 0) (sl s 4)).bind fun z => (bin BinOp.eql false [] z (sl s 1)).bind fun z => ifD z
 ((sliceD true 0 (sl s 0) (sl s 3) (sl s 4)).bind fun z => (mkArr 1 [z]).bind fun a => (chkA a).bind fun b => (appD 1 16 (sl s 2) b).bind fun y =>
 (bin BinOp.add false [] (sl s 4) (D.v (Value.int IntKind.i64 1))).bind fun z => (bin BinOp.add false [] (sl s 4) (D.v (Value.int IntKind.i64 1))).bind fun z_1 => some (Out.nrm [sl s 0, sl s 1, y, z, z_1]))
 ((bin BinOp.add false [] (sl s 4) (D.v (Value.int IntKind.i64 1))).bind fun z => some (Out.nrm [sl s 0, sl s 1, sl s 2, sl s 3, z]))) (some (Out.ext 0 [sl s 0, sl s 2, sl s 3])))
 [x0, x1, D.arr 1 [], D.v (Value.int IntKind.i64 0), D.v (Value.int IntKind.i64 0)]).bind fun o => outK o (fun i s => ifN (i.beq 0) ((sliceHi true 0 (sl s 0) (sl s 2)).bind fun z => (mkArr 1 [z]).bind fun a =>
 (chkA a).bind fun b => (appD 1 16 (sl s 1) b).bind fun y => some (Out.ret [y] [])) none) fun a b => some (Out.ret a b)) := by kernel_rfl
theorem t_spec_l1Read (x0 : D) : F_spec_l1Read [x0] =
  ((lenD true x0).bind fun z => callK (F_spec_l1In [z, D.v (Value.int IntKind.i64 1), D.v (Value.int IntKind.i64 6)]) fun rs _u => (un UnOp.not (sl rs 0)).bind fun z => (gate (D.tup []) z false (some x0)).bind fun z_1 =>
 (gate (D.tup []) z false (charD z_1 (D.v (Value.int IntKind.i64 0)))).bind fun z_2 => (gate (D.tup []) z false (bin BinOp.eql false [] z_2 (D.v (Value.int IntKind.u8 48)))).bind fun z_3 =>
 (gate (D.tup []) z false (some z_3)).bind fun z_4 => (gate (D.tup []) z_4 true (some x0)).bind fun z_5 => (gate (D.tup []) z_4 true (lenD true z_5)).bind fun z_6 =>
 (gate (D.tup []) z_4 true (bin BinOp.gtr false [] z_6 (D.v (Value.int IntKind.i64 1)))).bind fun z_7 => (gate (D.tup []) z false (pickD z_4 z_7 (D.v (Value.bool false)))).bind fun z_8 =>
 (pickD z (D.v (Value.bool true)) z_8).bind fun z => ifD z (some (Out.ret [D.v (Value.int IntKind.i64 (-1))] [])) ((loopC (fun s => (lenD true (sl s 0)).bind fun z => (bin BinOp.lss false [] (sl s 2) z).bind fun z => ifD z
 ((charD (sl s 0) (sl s 2)).bind fun z => (bin BinOp.lss false [] z (D.v (Value.int IntKind.u8 48))).bind fun z => (gate (D.tup []) z false (some (sl s 0))).bind fun z_9 =>
 (gate (D.tup []) z false (some (sl s 2))).bind fun z_10 => (gate (D.tup []) z false (charD z_9 z_10)).bind fun z_11 => (gate (D.tup []) z false (bin BinOp.gtr false [] z_11 (D.v (Value.int IntKind.u8 57)))).bind
 fun z_12 => (pickD z (D.v (Value.bool true)) z_12).bind fun z => ifD z (some (Out.ret [D.v (Value.int IntKind.i64 (-1))] [])) ((bin BinOp.mul false [] (D.v (Value.int IntKind.i64 10)) (sl s 1)).bind fun z =>
 (charD (sl s 0) (sl s 2)).bind fun z_13 => (bin BinOp.sub false [] z_13 (D.v (Value.int IntKind.u8 48))).bind fun z_14 => (convD (some IntKind.i64) false z_14).bind fun z_15 =>
 (bin BinOp.add false [] z z_15).bind fun z => (bin BinOp.add false [] (sl s 2) (D.v (Value.int IntKind.i64 1))).bind fun z_16 => some (Out.nrm [sl s 0, z, z_16]))) (some (Out.ext 0 [sl s 1])))
 [x0, D.v (Value.int IntKind.i64 0), D.v (Value.int IntKind.i64 0)]).bind fun o => outK o (fun i s => ifN (i.beq 0) (some (Out.ret [sl s 0] [])) none) fun a b => some (Out.ret a b))) := by kernel_rfl
theorem t_spec_ParseStrike (x0 : D) : F_spec_ParseStrike [x0] =
  (callK (F_spec_l1Split [x0, D.v (Value.int IntKind.u8 47)]) fun rs _u => (lenD false (sl rs 0)).bind fun z => (bin BinOp.neq false [] z (D.v (Value.int IntKind.i64 5))).bind fun z => ifD z ((bldD []
 [D.v (Value.int IntKind.i64 0), D.v (Value.int IntKind.i64 0), D.v (Value.int IntKind.i64 0), D.v (Value.int IntKind.i64 0), D.v (Value.int IntKind.i64 0)] []).bind fun z => (stD 5 (D.agg
 [D.v (Value.int IntKind.i64 0), D.v (Value.int IntKind.i64 0), D.v (Value.int IntKind.i64 0), D.v (Value.int IntKind.i64 0), D.v (Value.int IntKind.i64 0)]) (D.ref 0 0) z).bind
 fun b => (fldD true 5 0 b).bind fun y => some (Out.ret [y, D.v (Value.bool false)] [])) ((lenD false (sl rs 0)).bind fun z => (loopC (fun s => (bin BinOp.lss false [] (sl s 4) (sl s 3)).bind fun z => ifD z
 ((Option.map D.ptr (elemD 1 (sl s 2) (sl s 4))).bind fun z => ((ldD false 1 z).bind chkV).bind fun z => callK (F_spec_l1Read [z]) fun rs _u => (mkArr 1 [sl rs 0]).bind fun a => (chkA a).bind fun b =>
 (appD 1 8 (sl s 1) b).bind fun y => (bin BinOp.add false [] (sl s 4) (D.v (Value.int IntKind.i64 1))).bind fun z => some (Out.nrm [sl s 0, y, sl s 2, sl s 3, z])) (some (Out.ext 0 [sl s 0, sl s 1]))) [D.agg
 [D.v (Value.int IntKind.i64 0), D.v (Value.int IntKind.i64 0), D.v (Value.int IntKind.i64 0), D.v (Value.int IntKind.i64 0), D.v (Value.int IntKind.i64 0)], D.arr 1 [], sl rs 0, z, D.v (Value.int IntKind.i64 0)]).bind
 fun o => outK o (fun i s => ifN (i.beq 0) ((liveD (sl s 1) (D.ref 0 0)).bind fun z => (liveD z (sl s 1)).bind fun i => callK (F_spec_maOf [i]) fun rs _u => callK (F_spec_maGood [sl rs 0]) fun rs _u =>
 (un UnOp.not (sl rs 0)).bind fun z => ifD z ((bldD [] [D.v (Value.int IntKind.i64 0), D.v (Value.int IntKind.i64 0), D.v (Value.int IntKind.i64 0), D.v (Value.int IntKind.i64 0), D.v (Value.int IntKind.i64 0)] []).bind
 fun z => (stD 5 (sl s 0) (D.ref 0 0) z).bind fun b => (fldD true 5 0 b).bind fun y => some (Out.ret [y, D.v (Value.bool false)] [])) ((liveD (sl s 1) (D.ref 0 0)).bind fun z => (liveD z (sl s 1)).bind fun i =>
 callK (F_spec_maOf [i]) fun rs _u => (stD 5 (sl s 0) (D.ref 0 0) (sl rs 0)).bind fun b => (fldD true 5 0 b).bind fun y => some (Out.ret [y, D.v (Value.bool true)] []))) none) fun a b => some (Out.ret a b))) := by kernel_rfl
theorem t_impl_WidthOfStrike (x0 : D) : F_impl_WidthOfStrike [x0] =
  ((boxD 5 x0).bind fun y => (fldD true 5 0 y).bind fun z => callK (F_impl_IsStrike [z]) fun rs _u => (un UnOp.not (sl rs 0)).bind fun z => ifD z (some (Out.ret [D.v (Value.int IntKind.i64 0), D.v (Value.bool false)] []))
 ((liveD y (D.ref 0 1)).bind fun z => ((atD y z).bind (takeD false 1)).bind fun z => (liveD y (D.ref 0 2)).bind fun z_1 => ((atD y z_1).bind (takeD false 1)).bind fun z_2 => (bin BinOp.add false [] z z_2).bind fun z =>
 (liveD y (D.ref 0 3)).bind fun z_3 => ((atD y z_3).bind (takeD false 1)).bind fun z_4 => (bin BinOp.add false [] z z_4).bind fun z => some (Out.ret [z, D.v (Value.bool true)] []))) := by kernel_rfl
theorem t_laws_FnStrikes (x0 x1 : D) : F_laws_FnStrikes [x0, x1] =
  (callK (F_laws_big [x0, x1]) fun rs _u => ifD (sl rs 0) (some (Out.ret [D.v (Value.bool true)] [])) (callK (F_spec_DrawFilingsFor [x0]) fun rs _u => (tupAt (D.tup rs) 0).bind fun z => (tupAt (D.tup rs) 1).bind fun z_1 =>
 (stD 5 (D.agg [D.v (Value.int IntKind.i64 0), D.v (Value.int IntKind.i64 0), D.v (Value.int IntKind.i64 0), D.v (Value.int IntKind.i64 0), D.v (Value.int IntKind.i64 0)]) (D.ref 0 0) z).bind fun b => (stD 5 (D.agg
 [D.v (Value.int IntKind.i64 0), D.v (Value.int IntKind.i64 0), D.v (Value.int IntKind.i64 0), D.v (Value.int IntKind.i64 0), D.v (Value.int IntKind.i64 0)]) (D.ref 0 0) z_1).bind fun b_1 => (fldD true 5 0 b).bind fun z =>
 (fldD true 5 0 b_1).bind fun z_2 => callK (F_impl_FilingsFor [z, z_2]) fun rs _u => (tupAt (D.tup rs) 0).bind fun y => (tupAt (tupCut (D.tup rs) 0) 1).bind fun z => (fldD true 5 0 b).bind fun z_3 =>
 (fldD true 5 0 b_1).bind fun z_4 => callK (F_spec_FilingsFor [z_3, z_4]) fun rs _u => (tupAt (D.tup rs) 0).bind fun y_1 => (tupAt (tupCut (D.tup rs) 0) 1).bind fun z_5 => (fldD true 5 0 b).bind fun z_6 =>
 (fldD true 5 0 b_1).bind fun z_7 => callK (F_impl_CanBeJustified [z_6, z_7]) fun rs _u => (tupAt (D.tup rs) 0).bind fun z_8 => (tupAt (D.tup rs) 1).bind fun z_9 => (fldD true 5 0 b).bind fun z_10 =>
 (fldD true 5 0 b_1).bind fun z_11 => callK (F_spec_CanBeJustified [z_10, z_11]) fun rs _u => (tupAt (D.tup rs) 0).bind fun z_12 => (tupAt (D.tup rs) 1).bind fun z_13 => (bin BinOp.neq true [] z z_5).bind fun z_14 =>
 (gate (D.tup []) z_14 false (some y)).bind fun z_15 => (gate (D.tup []) z_14 false (some y_1)).bind fun z_16 => gateC z_14 false (callK (F_laws_sameInts [z_15, z_16]) fun rs _u => some (Out.nrm [sl rs 0]))
 [D.tup []] fun outs => (gate (D.tup []) z_14 false (un UnOp.not (sl outs 0))).bind fun z_17 => (pickD z_14 (D.v (Value.bool true)) z_17).bind fun z_18 => (gate (D.tup []) z_18 false (some z_9)).bind fun z_19 =>
 (gate (D.tup []) z_18 false (some z_13)).bind fun z_20 => (gate (D.tup []) z_18 false (bin BinOp.neq true [] z_19 z_20)).bind fun z_21 => (pickD z_18 (D.v (Value.bool true)) z_21).bind fun z_22 =>
 (gate (D.tup []) z_22 false (some z_8)).bind fun z_23 => (gate (D.tup []) z_22 false (some z_12)).bind fun z_24 => (gate (D.tup []) z_22 false (bin BinOp.neq true [] z_23 z_24)).bind fun z_25 =>
 (pickD z_22 (D.v (Value.bool true)) z_25).bind fun z_26 => (gate (D.tup []) z_26 false (some z)).bind fun z_27 => (gate (D.tup []) z_26 false (some z_9)).bind fun z_28 => (gate (D.tup []) z_26 false (some z_28)).bind
 fun z_29 => (gate (D.tup []) z_29 true (some z_12)).bind fun z_30 => (gate (D.tup []) z_26 false (pickD z_29 z_30 (D.v (Value.bool false)))).bind fun z_31 => (gate (D.tup []) z_26 false (bin BinOp.neq true [] z_27
 z_31)).bind fun z_32 => (pickD z_26 (D.v (Value.bool true)) z_32).bind fun z_33 => (gate (D.tup []) z_33 false (some z_9)).bind fun z_34 => (gate (D.tup []) z_33 false (fldD true 5 0 b)).bind fun z_35 => gateC z_33 false
 (callK (F_impl_IsStrike [z_35]) fun rs _u => some (Out.nrm [sl rs 0])) [D.tup []] fun outs => (gate (D.tup []) z_33 false (some (sl outs 0))).bind fun z_36 => (gate (D.tup []) z_36 true (fldD true 5 0 b_1)).bind
 fun z_37 => gateC z_36 true (callK (F_impl_IsStrike [z_37]) fun rs _u => some (Out.nrm [sl rs 0])) [D.tup []] fun outs => (gate (D.tup []) z_33 false (pickD z_36 (sl outs 0) (D.v (Value.bool false)))).bind fun z_38 =>
 (gate (D.tup []) z_33 false (bin BinOp.neq true [] z_34 z_38)).bind fun z_39 => (pickD z_33 (D.v (Value.bool true)) z_39).bind fun z_40 => ifD z_40 (some (Out.ret [D.v (Value.bool false)] [])) ((gate (D.tup []) z true
 (some y)).bind fun z_41 => (gate (D.tup []) z true (lenD false z_41)).bind fun z_42 => (gate (D.tup []) z true (bin BinOp.neq false [] z_42 (D.v (Value.int IntKind.i64 5)))).bind fun z_43 => (gate (D.tup []) z true (some
 z_43)).bind fun z_44 => (gate D.bad z_44 false (liveD b (D.ref 0 0))).bind fun z_45 => (gate (D.tup []) z_44 false ((atD b z_45).bind (takeD false 1))).bind fun z_46 => (gate (D.tup []) z_44 false (some y_1)).bind fun
 z_47 => (gate (D.tup []) z_44 false (Option.map D.ptr (elemD 1 z_47 (D.v (Value.int IntKind.i64 0))))).bind fun z_48 => (gate (D.tup []) z_44 false ((ldD false 1 z_48).bind chkV)).bind fun z_49 => (gate (D.tup []) z_44
 false (bin BinOp.sub false [] z_46 z_49)).bind fun z_50 => (gate D.bad z_44 false (liveD b_1 (D.ref 0 0))).bind fun z_51 => (gate (D.tup []) z_44 false ((atD b_1 z_51).bind (takeD false 1))).bind fun z_52 => (gate (D.tup
 []) z_44 false (bin BinOp.neq false [] z_50 z_52)).bind fun z_53 => (gate (D.tup []) z true (pickD z_44 (D.v (Value.bool true)) z_53)).bind fun z_54 => (gate (D.tup []) z true (some z_54)).bind fun z_55 => (gate D.bad
 z_55 false (liveD b (D.ref 0 1))).bind fun z_56 => (gate (D.tup []) z_55 false ((atD b z_56).bind (takeD false 1))).bind fun z_57 => (gate (D.tup []) z_55 false (some y_1)).bind fun z_58 => (gate (D.tup []) z_55 false
 (Option.map D.ptr (elemD 1 z_58 (D.v (Value.int IntKind.i64 1))))).bind fun z_59 => (gate (D.tup []) z_55 false ((ldD false 1 z_59).bind chkV)).bind fun z_60 => (gate (D.tup []) z_55 false (bin BinOp.sub false [] z_57
 z_60)).bind fun z_61 => (gate D.bad z_55 false (liveD b_1 (D.ref 0 1))).bind fun z_62 => (gate (D.tup []) z_55 false ((atD b_1 z_62).bind (takeD false 1))).bind fun z_63 => (gate (D.tup []) z_55 false (bin BinOp.neq false
 [] z_61 z_63)).bind fun z_64 => (gate (D.tup []) z true (pickD z_55 (D.v (Value.bool true)) z_64)).bind fun z_65 => (gate (D.tup []) z true (some z_65)).bind fun z_66 => (gate (D.tup []) z_66 false (some y_1)).bind fun
 z_67 => (gate (D.tup []) z_66 false (Option.map D.ptr (elemD 1 z_67 (D.v (Value.int IntKind.i64 2))))).bind fun z_68 => (gate (D.tup []) z_66 false ((ldD false 1 z_68).bind chkV)).bind fun z_69 => (gate (D.tup []) z_66
 false (bin BinOp.neq false [] z_69 (D.v (Value.int IntKind.i64 0)))).bind fun z_70 => (gate (D.tup []) z true (pickD z_66 (D.v (Value.bool true)) z_70)).bind fun z_71 => (gate (D.tup []) z true (some z_71)).bind fun
 z_72 => (gate D.bad z_72 false (liveD b (D.ref 0 3))).bind fun z_73 => (gate (D.tup []) z_72 false ((atD b z_73).bind (takeD false 1))).bind fun z_74 => (gate (D.tup []) z_72 false (some y_1)).bind fun z_75 => (gate
 (D.tup []) z_72 false (Option.map D.ptr (elemD 1 z_75 (D.v (Value.int IntKind.i64 3))))).bind fun z_76 => (gate (D.tup []) z_72 false ((ldD false 1 z_76).bind chkV)).bind fun z_77 => (gate (D.tup []) z_72 false (bin
 BinOp.sub false [] z_74 z_77)).bind fun z_78 => (gate D.bad z_72 false (liveD b_1 (D.ref 0 3))).bind fun z_79 => (gate (D.tup []) z_72 false ((atD b_1 z_79).bind (takeD false 1))).bind fun z_80 => (gate (D.tup []) z_72
 false (bin BinOp.neq false [] z_78 z_80)).bind fun z_81 => (gate (D.tup []) z true (pickD z_72 (D.v (Value.bool true)) z_81)).bind fun z_82 => (gate (D.tup []) z true (some z_82)).bind fun z_83 => (gate D.bad z_83 false
 (liveD b (D.ref 0 4))).bind fun z_84 => (gate (D.tup []) z_83 false ((atD b z_84).bind (takeD false 1))).bind fun z_85 => (gate (D.tup []) z_83 false (some y_1)).bind fun z_86 => (gate (D.tup []) z_83 false (Option.map
 D.ptr (elemD 1 z_86 (D.v (Value.int IntKind.i64 4))))).bind fun z_87 => (gate (D.tup []) z_83 false ((ldD false 1 z_87).bind chkV)).bind fun z_88 => (gate (D.tup []) z_83 false (bin BinOp.sub false [] z_85 z_88)).bind fun
 z_89 => (gate D.bad z_83 false (liveD b_1 (D.ref 0 4))).bind fun z_90 => (gate (D.tup []) z_83 false ((atD b_1 z_90).bind (takeD false 1))).bind fun z_91 => (gate (D.tup []) z_83 false (bin BinOp.neq false [] z_89
 z_91)).bind fun z_92 => (gate (D.tup []) z true (pickD z_83 (D.v (Value.bool true)) z_92)).bind fun z_93 => (pickD z z_93 (D.v (Value.bool false))).bind fun z => ifD z (some (Out.ret [D.v (Value.bool false)] [])) (callK
 (F_spec_DrawCastsLeft [x1]) fun rs _u => (tupAt (D.tup rs) 0).bind fun z => (tupAt (D.tup rs) 1).bind fun z_94 => (tupAt (D.tup rs) 2).bind fun z_95 => (stD 5 (D.agg [D.v (Value.int IntKind.i64 0), D.v (Value.int
 IntKind.i64 0), D.v (Value.int IntKind.i64 0), D.v (Value.int IntKind.i64 0), D.v (Value.int IntKind.i64 0)]) (D.ref 0 0) z).bind fun b => (stD 5 (D.agg [D.v (Value.int IntKind.i64 0), D.v (Value.int IntKind.i64 0), D.v
 (Value.int IntKind.i64 0), D.v (Value.int IntKind.i64 0), D.v (Value.int IntKind.i64 0)]) (D.ref 0 0) z_94).bind fun b_2 => (fldD true 5 0 b).bind fun z => (fldD true 5 0 b_2).bind fun z_96 => callK (F_impl_CastsLeft [z,
 z_96, z_95]) fun rs _u => (tupAt (D.tup rs) 0).bind fun z => (tupAt (D.tup rs) 1).bind fun z_97 => (fldD true 5 0 b).bind fun z_98 => (fldD true 5 0 b_2).bind fun z_99 => callK (F_spec_CastsLeft [z_98, z_99, z_95]) fun rs
 _u => (tupAt (D.tup rs) 0).bind fun z_100 => (tupAt (D.tup rs) 1).bind fun z_101 => (bin BinOp.neq true [] z_97 z_101).bind fun z_102 => (gate (D.tup []) z_102 false (some z)).bind fun z_103 => (gate (D.tup []) z_102
 false (some z_100)).bind fun z_104 => (gate (D.tup []) z_102 false (bin BinOp.neq false [] z_103 z_104)).bind fun z_105 => (pickD z_102 (D.v (Value.bool true)) z_105).bind fun z_106 => ifD z_106 (some (Out.ret [D.v
 (Value.bool false)] [])) (joinC (fun j => ifD z_97 ((fldD true 5 0 b).bind fun z_107 => callK (F_impl_DepthAfter [z_107, z]) fun rs _u => (tupAt (D.tup rs) 0).bind fun z_108 => (tupAt (D.tup rs) 1).bind fun z_109 => (un
 UnOp.not z_109).bind fun z_110 => (gate (D.tup []) z_110 false (some z_108)).bind fun z_111 => (gate D.bad z_110 false (liveD b_2 (D.ref 0 0))).bind fun z_112 => (gate (D.tup []) z_110 false ((atD b_2 z_112).bind (takeD
 false 1))).bind fun z_113 => (gate (D.tup []) z_110 false (bin BinOp.sub false [] z_111 z_113)).bind fun z_114 => (gate (D.tup []) z_110 false (some z_95)).bind fun z_115 => (gate (D.tup []) z_110 false (bin BinOp.gtr
 false [] z_114 z_115)).bind fun z_116 => (pickD z_110 (D.v (Value.bool true)) z_116).bind fun z_117 => ifD z_117 (some (Out.ret [D.v (Value.bool false)] [])) ((bin BinOp.lss false [] z_100 (D.v (Value.int IntKind.i64
 1000000))).bind fun z_118 => ifD z_118 ((fldD true 5 0 b).bind fun z_119 => (bin BinOp.add false [] z (D.v (Value.int IntKind.i64 1))).bind fun z => callK (F_impl_DepthAfter [z_119, z]) fun rs _u => (tupAt (D.tup rs)
 0).bind fun z => (tupAt (D.tup rs) 1).bind fun z_120 => (un UnOp.not z_120).bind fun z_121 => (gate (D.tup []) z_121 false (some z)).bind fun z => (gate D.bad z_121 false (liveD b_2 (D.ref 0 0))).bind fun z_122 => (gate
 (D.tup []) z_121 false ((atD b_2 z_122).bind (takeD false 1))).bind fun z_123 => (gate (D.tup []) z_121 false (bin BinOp.sub false [] z z_123)).bind fun z => (gate (D.tup []) z_121 false (some z_95)).bind fun z_124 =>
 (gate (D.tup []) z_121 false (bin BinOp.leq false [] z z_124)).bind fun z => (pickD z_121 (D.v (Value.bool true)) z).bind fun z => ifD z (some (Out.ret [D.v (Value.bool false)] [])) (j [x1])) (j [x1]))) (j [x1])) fun s =>
 callK (F_spec_DrawFileStrike [sl s 0]) fun rs _u => (tupAt (D.tup rs) 0).bind fun z => (tupAt (D.tup rs) 1).bind fun z_107 => (tupAt (D.tup rs) 2).bind fun z_108 => (stD 5 (D.agg [D.v (Value.int IntKind.i64 0), D.v
 (Value.int IntKind.i64 0), D.v (Value.int IntKind.i64 0), D.v (Value.int IntKind.i64 0), D.v (Value.int IntKind.i64 0)]) (D.ref 0 0) z).bind fun b => (fldD true 5 0 b).bind fun z => callK (F_impl_FileStrike [z, z_107,
 z_108]) fun rs _u => (tupAt (D.tup rs) 0).bind fun z => (tupAt (D.tup rs) 1).bind fun z_109 => (stD 5 (D.agg [D.v (Value.int IntKind.i64 0), D.v (Value.int IntKind.i64 0), D.v (Value.int IntKind.i64 0), D.v (Value.int
 IntKind.i64 0), D.v (Value.int IntKind.i64 0)]) (D.ref 0 0) z).bind fun b_3 => (fldD true 5 0 b).bind fun z => callK (F_spec_FileStrike [z, z_107, z_108]) fun rs _u => (tupAt (D.tup rs) 0).bind fun z => (tupAt (D.tup rs)
 1).bind fun z_110 => (stD 5 (D.agg [D.v (Value.int IntKind.i64 0), D.v (Value.int IntKind.i64 0), D.v (Value.int IntKind.i64 0), D.v (Value.int IntKind.i64 0), D.v (Value.int IntKind.i64 0)]) (D.ref 0 0) z).bind fun
 b_4 => (fldD true 5 0 b).bind fun z => callK (F_impl_CentreStrike [z]) fun rs _u => (tupAt (D.tup rs) 0).bind fun z => (tupAt (D.tup rs) 1).bind fun z_111 => (stD 5 (D.agg [D.v (Value.int IntKind.i64 0), D.v (Value.int
 IntKind.i64 0), D.v (Value.int IntKind.i64 0), D.v (Value.int IntKind.i64 0), D.v (Value.int IntKind.i64 0)]) (D.ref 0 0) z).bind fun b_5 => (fldD true 5 0 b).bind fun z => callK (F_spec_CentreStrike [z]) fun rs _u =>
 (tupAt (D.tup rs) 0).bind fun z => (tupAt (D.tup rs) 1).bind fun z_112 => (stD 5 (D.agg [D.v (Value.int IntKind.i64 0), D.v (Value.int IntKind.i64 0), D.v (Value.int IntKind.i64 0), D.v (Value.int IntKind.i64 0), D.v
 (Value.int IntKind.i64 0)]) (D.ref 0 0) z).bind fun b_6 => (fldD true 5 0 b).bind fun z => callK (F_impl_StrikeText [z]) fun rs _u => (tupAt (D.tup rs) 0).bind fun z => (tupAt (D.tup rs) 1).bind fun z_113 => (fldD true 5
 0 b).bind fun z_114 => callK (F_spec_StrikeText [z_114]) fun rs _u => (tupAt (D.tup rs) 0).bind fun z_115 => (tupAt (D.tup rs) 1).bind fun z_116 => callK (F_spec_DrawParseStrike [sl s 0]) fun rs _u => callK
 (F_impl_ParseStrike [sl rs 0]) fun rs_1 _u => (tupAt (D.tup rs_1) 0).bind fun z_117 => (tupAt (D.tup rs_1) 1).bind fun z_118 => (stD 5 (D.agg [D.v (Value.int IntKind.i64 0), D.v (Value.int IntKind.i64 0), D.v (Value.int
 IntKind.i64 0), D.v (Value.int IntKind.i64 0), D.v (Value.int IntKind.i64 0)]) (D.ref 0 0) z_117).bind fun b_7 => callK (F_spec_ParseStrike [sl rs 0]) fun rs _u => (tupAt (D.tup rs) 0).bind fun z_119 => (tupAt (D.tup rs)
 1).bind fun z_120 => (stD 5 (D.agg [D.v (Value.int IntKind.i64 0), D.v (Value.int IntKind.i64 0), D.v (Value.int IntKind.i64 0), D.v (Value.int IntKind.i64 0), D.v (Value.int IntKind.i64 0)]) (D.ref 0 0) z_119).bind fun
 b_8 => (bin BinOp.neq true [] z_109 z_110).bind fun z_121 => (gate (D.tup []) z_121 false (fldD true 5 0 b_3)).bind fun z_122 => (gate (D.tup []) z_121 false (fldD true 5 0 b_4)).bind fun z_123 => (gate (D.tup []) z_121
 false (bin BinOp.neq false [1, 1, 1, 1, 1] z_122 z_123)).bind fun z_124 => (pickD z_121 (D.v (Value.bool true)) z_124).bind fun z_125 => (gate (D.tup []) z_125 false (some z_111)).bind fun z_126 => (gate (D.tup []) z_125
 false (some z_112)).bind fun z_127 => (gate (D.tup []) z_125 false (bin BinOp.neq true [] z_126 z_127)).bind fun z_128 => (pickD z_125 (D.v (Value.bool true)) z_128).bind fun z_129 => (gate (D.tup []) z_129 false (fldD
 true 5 0 b_5)).bind fun z_130 => (gate (D.tup []) z_129 false (fldD true 5 0 b_6)).bind fun z_131 => (gate (D.tup []) z_129 false (bin BinOp.neq false [1, 1, 1, 1, 1] z_130 z_131)).bind fun z_132 => (pickD z_129 (D.v
 (Value.bool true)) z_132).bind fun z_133 => (gate (D.tup []) z_133 false (some z_113)).bind fun z_134 => (gate (D.tup []) z_133 false (some z_116)).bind fun z_135 => (gate (D.tup []) z_133 false (bin BinOp.neq true []
 z_134 z_135)).bind fun z_136 => (pickD z_133 (D.v (Value.bool true)) z_136).bind fun z_137 => (gate (D.tup []) z_137 false (some z)).bind fun z_138 => (gate (D.tup []) z_137 false (some z_115)).bind fun z_139 => (gate
 (D.tup []) z_137 false (bin BinOp.neq false [] z_138 z_139)).bind fun z_140 => (pickD z_137 (D.v (Value.bool true)) z_140).bind fun z_141 => (gate (D.tup []) z_141 false (some z_118)).bind fun z_142 => (gate (D.tup [])
 z_141 false (some z_120)).bind fun z_143 => (gate (D.tup []) z_141 false (bin BinOp.neq true [] z_142 z_143)).bind fun z_144 => (pickD z_141 (D.v (Value.bool true)) z_144).bind fun z_145 => (gate (D.tup []) z_145 false
 (fldD true 5 0 b_7)).bind fun z_146 => (gate (D.tup []) z_145 false (fldD true 5 0 b_8)).bind fun z_147 => (gate (D.tup []) z_145 false (bin BinOp.neq false [1, 1, 1, 1, 1] z_146 z_147)).bind fun z_148 => (pickD z_145
 (D.v (Value.bool true)) z_148).bind fun z_149 => (gate (D.tup []) z_149 false (some z_111)).bind fun z_150 => (gate (D.tup []) z_149 false (fldD true 5 0 b)).bind fun z_151 => gateC z_149 false (callK (F_impl_IsStrike
 [z_151]) fun rs _u => some (Out.nrm [sl rs 0])) [D.tup []] fun outs => (gate (D.tup []) z_149 false (bin BinOp.neq true [] z_150 (sl outs 0))).bind fun z_152 => (pickD z_149 (D.v (Value.bool true)) z_152).bind fun
 z_153 => (gate (D.tup []) z_153 false (some z_113)).bind fun z_154 => (gate (D.tup []) z_153 false (some z_111)).bind fun z_155 => (gate (D.tup []) z_153 false (bin BinOp.neq true [] z_154 z_155)).bind fun z_156 => (pickD
 z_153 (D.v (Value.bool true)) z_156).bind fun z_157 => ifD z_157 (some (Out.ret [D.v (Value.bool false)] [])) (ifD z_111 (callK (F_impl_ParseStrike [z]) fun rs _u => (tupAt (D.tup rs) 0).bind fun z => (tupAt (D.tup rs)
 1).bind fun z_158 => (stD 5 (D.agg [D.v (Value.int IntKind.i64 0), D.v (Value.int IntKind.i64 0), D.v (Value.int IntKind.i64 0), D.v (Value.int IntKind.i64 0), D.v (Value.int IntKind.i64 0)]) (D.ref 0 0) z).bind fun
 b_9 => (fldD true 5 0 b).bind fun z => callK (F_impl_WidthOfStrike [z]) fun rs _u => (tupAt (D.tup rs) 0).bind fun z => (tupAt (D.tup rs) 1).bind fun z_159 => (fldD true 5 0 b_5).bind fun z_160 => callK
 (F_impl_WidthOfStrike [z_160]) fun rs _u => (tupAt (D.tup rs) 0).bind fun z_161 => (tupAt (D.tup rs) 1).bind fun z_162 => (gate (D.tup []) z_158 true (fldD true 5 0 b_9)).bind fun z_163 => (gate (D.tup []) z_158 true
 (fldD true 5 0 b)).bind fun z_164 => (gate (D.tup []) z_158 true (bin BinOp.eql false [1, 1, 1, 1, 1] z_163 z_164)).bind fun z_165 => (pickD z_158 z_165 (D.v (Value.bool false))).bind fun z_166 => (gate (D.tup []) z_166
 true (some z_159)).bind fun z_167 => (pickD z_166 z_167 (D.v (Value.bool false))).bind fun z_168 => (gate (D.tup []) z_168 true (some z_162)).bind fun z_169 => (pickD z_168 z_169 (D.v (Value.bool false))).bind fun
 z_170 => (gate (D.tup []) z_170 true (some z_161)).bind fun z_171 => (gate (D.tup []) z_170 true (some z)).bind fun z => (gate (D.tup []) z_170 true (bin BinOp.leq false [] z_171 z)).bind fun z => (pickD z_170 z (D.v
 (Value.bool false))).bind fun z => (gate D.bad z true (liveD b_6 (D.ref 0 1))).bind fun z_172 => (gate (D.tup []) z true ((atD b_6 z_172).bind (takeD false 1))).bind fun z_173 => (gate D.bad z true (liveD b_6 (D.ref 0
 3))).bind fun z_174 => (gate (D.tup []) z true ((atD b_6 z_174).bind (takeD false 1))).bind fun z_175 => (gate (D.tup []) z true (bin BinOp.eql false [] z_173 z_175)).bind fun z_176 => (pickD z z_176 (D.v (Value.bool
 false))).bind fun z => some (Out.ret [z] [])) (some (Out.ret [D.v (Value.bool true)] [])))))))) := by kernel_rfl
theorem t_impl_isGrams (x0 : D) : F_impl_isGrams [x0] =
  (callK (F_impl_within [x0, D.v (Value.int IntKind.i64 0), D.v (Value.int IntKind.i64 1000000)]) fun rs _u => some (Out.ret [sl rs 0] [])) := by kernel_rfl
theorem t_impl_IsMelt (x0 : D) : F_impl_IsMelt [x0] =
  ((boxD 3 x0).bind fun y => (liveD y (D.ref 0 0)).bind fun z => ((atD y z).bind (takeD false 1)).bind fun z => callK (F_impl_isGrams [z]) fun rs _u => (gate D.bad (sl rs 0) true (liveD y (D.ref 0 1))).bind fun z =>
 (gate (D.tup []) (sl rs 0) true ((atD y z).bind (takeD false 1))).bind fun z => gateC (sl rs 0) true (callK (F_impl_isGrams [z]) fun rs _u => some (Out.nrm [sl rs 0])) [D.tup []] fun outs =>
 (pickD (sl rs 0) (sl outs 0) (D.v (Value.bool false))).bind fun z => (gate D.bad z true (liveD y (D.ref 0 2))).bind fun z_1 => (gate (D.tup []) z true ((atD y z_1).bind (takeD false 1))).bind fun z_2 =>
 gateC z true (callK (F_impl_isGrams [z_2]) fun rs _u => some (Out.nrm [sl rs 0])) [D.tup []] fun outs => (pickD z (sl outs 0) (D.v (Value.bool false))).bind fun z => some (Out.ret [z] [])) := by kernel_rfl
theorem t_impl_Melt_grams (x0 : D) : F_impl_Melt_grams [x0] =
  ((boxD 3 x0).bind fun y => (liveD y (D.ref 0 0)).bind fun z => ((atD y z).bind (takeD false 1)).bind fun z => (liveD y (D.ref 0 1)).bind fun z_1 => ((atD y z_1).bind (takeD false 1)).bind fun z_2 =>
 (bin BinOp.add false [] z z_2).bind fun z => (liveD y (D.ref 0 2)).bind fun z_3 => ((atD y z_3).bind (takeD false 1)).bind fun z_4 => (bin BinOp.add false [] z z_4).bind fun z => some (Out.ret [z] [])) := by kernel_rfl
end Go.Proofs.YtlphibidnkjpdaaDoor
/-
  Numbers as texts; the text of an order.
-/
namespace Go.Proofs.YtlphibidnkjpdaaDoor
open Go Go.V
set_option linter.unusedSimpArgs false

theorem e_spec_l1In (a b c : Int) : F_spec_l1In [I a, I b, I c] = some (.ret [B (decide (b ≤ a ∧ a ≤ c))] []) := by
  rw [t_spec_l1In]
  by_cases h : b ≤ a <;> simp [h]
theorem e_impl_within (a b c : Int) : F_impl_within [I a, I b, I c] = some (.ret [B (decide (b ≤ a ∧ a ≤ c))] []) := by
  rw [t_impl_within]
  by_cases h : b ≤ a <;> simp [h]

/-! ### numbers -/
/-- The decimal numeral. -/
def numT (u : Nat) : ByteArray := ⟨(Lib.decDigits u).toArray⟩
def intT (n : Int) : ByteArray := ⟨(Lib.itoa n).toArray⟩
theorem intT_nat (u : Nat) : intT (u : Int) = numT u := by
  unfold intT numT
  rw [Lib.itoa_nonneg]
theorem numT_small {u : Nat} (h : u < 10) : numT u = ⟨#[UInt8.ofNat (48 + u)]⟩ := by
  unfold numT
  rw [Lib.decDigits_one h]
theorem numT_big {u : Nat} (h : ¬ u < 10) : numT u = numT (u / 10) ++ ⟨#[UInt8.ofNat (48 + u % 10)]⟩ := by
  unfold numT
  rw [Lib.decDigits, dif_neg h]
  apply ByteArray.ext
  simp
theorem numT_size : ∀ (k u : Nat), u < 10 ^ (k + 1) → (numT u).size ≤ k + 1
  | 0, u, h => by
    rw [numT_small (by simpa using h)]
    exact Nat.le_refl _
  | k + 1, u, h => by
    by_cases hu : u < 10
    · rw [numT_small hu]
      show 1 ≤ k + 1 + 1
      omega
    · rw [numT_big hu, ByteArray.size_append]
      have h1 := numT_size k (u / 10) (by rw [Nat.pow_succ] at h; exact Nat.div_lt_of_lt_mul (by rw [Nat.mul_comm]; exact h))
      have h2 : (⟨#[UInt8.ofNat (48 + u % 10)]⟩ : ByteArray).size = 1 := rfl
      omega
theorem intT_size (k : Nat) {n : Int} (h0 : 0 ≤ n) (h1 : n < 10 ^ (k + 1)) : (intT n).size ≤ k + 1 := by
  obtain ⟨u, rfl⟩ := Int.eq_ofNat_of_zero_le h0
  rw [intT_nat]
  exact numT_size k u (by exact_mod_cast h1)
theorem byte_of (u : Nat) (h : u < 10) : bytesOf [.v (.int .u8 (48 + (u : Int)))] = some [UInt8.ofNat (48 + u)] := by
  have e : (48 + (u : Int)).toNat = 48 + u := by omega
  simp only [bytesOf, e, Option.map_some]
theorem wrap8 (a : Int) (h0 : 0 ≤ a) (h1 : a < 256) : IntKind.u8.wrap a = a := by
  have := Int.emod_eq_of_lt h0 h1
  simpa [IntKind.wrap, IntKind.bits, IntKind.signed] using this
theorem mkArr_u8 (a : Int) : mkArr 1 [.v (.int .u8 a)] = some (.arr 1 [.v (.int .u8 a)]) := by simp [mkArr, lenOkD]

theorem num_step (k u : Nat) (hu : u < 10 ^ 18) (ih : R_spec_l1Num k [I ((u / 10 : Nat) : Int)] = none ∨ R_spec_l1Num k [I ((u / 10 : Nat) : Int)] = some (.ret [T (numT (u / 10))] [])) :
    (R_spec_l1Num (k + 1) [I (u : Int)] = none ∧ R_spec_l1Num k [I ((u / 10 : Nat) : Int)] = none ∧ ¬ u < 10) ∨ R_spec_l1Num (k + 1) [I (u : Int)] = some (.ret [T (numT u)] []) := by
  rw [t_spec_l1Num]
  by_cases h : u < 10
  · right
    have h1 : (u : Int) < 10 := by omega
    have hw : IntKind.i64.wrap (48 + (u : Int)) = 48 + (u : Int) := wrap_id (by omega) (by omega)
    have hw8 := wrap8 (48 + (u : Int)) (by omega) (by omega)
    simp only [bin_lss, h1, decide_true, Option.bind_some, ifD_B, if_true, bin_add, hw, convD, hw8, mkArr_u8, strD, byte_of u h, Option.map_some, numT_small h]
  · have h1 : ¬ (u : Int) < 10 := by omega
    have hq : IntKind.i64.wrap ((u : Int).tdiv 10) = ((u / 10 : Nat) : Int) := by
      rw [Int.tdiv_eq_ediv_of_nonneg (by omega), wrap_id (by omega) (by omega)]
      omega
    have hr : (u : Int).tmod 10 = ((u % 10 : Nat) : Int) := by
      rw [Int.tmod_eq_emod_of_nonneg (by omega)]
      omega
    have hm : u % 10 < 10 := Nat.mod_lt _ (by decide)
    have hw : IntKind.i64.wrap (48 + ((u % 10 : Nat) : Int)) = 48 + ((u % 10 : Nat) : Int) := wrap_id (by omega) (by omega)
    have hw8 := wrap8 (48 + ((u % 10 : Nat) : Int)) (by omega) (by omega)
    have hs : (numT (u / 10)).size + (⟨#[UInt8.ofNat (48 + u % 10)]⟩ : ByteArray).size ≤ 1152921504606846976 := by
      have := numT_size 17 (u / 10) (by omega)
      have h2 : (⟨#[UInt8.ofNat (48 + u % 10)]⟩ : ByteArray).size = 1 := rfl
      omega
    rcases ih with e | e
    · left
      refine ⟨?_, e, h⟩
      simp only [bin_lss, h1, decide_false, Option.bind_some, ifD_B, Bool.false_eq_true, if_false, bin_quo, show ¬ (10 : Int) = 0 by decide, hq, e, callK]
    · right
      simp only [bin_lss, h1, decide_false, Option.bind_some, ifD_B, Bool.false_eq_true, if_false, bin_quo, show ¬ (10 : Int) = 0 by decide, hq, e, callK_ret, bin_rem, hr, bin_add, hw, convD, hw8, mkArr_u8, strD,
        byte_of _ hm, Option.map_some, sl_zero, bin_addS, hs, if_true, numT_big h]
theorem num_or : ∀ (k u : Nat), u < 10 ^ 18 → R_spec_l1Num k [I (u : Int)] = none ∨ R_spec_l1Num k [I (u : Int)] = some (.ret [T (numT u)] [])
  | 0, _, _ => .inl rfl
  | k + 1, u, hu => (num_step k u hu (num_or k (u / 10) (by omega))).imp (fun h => h.1) id
theorem num_big : ∀ (k u : Nat), u < 10 ^ 18 → u < 10 ^ (k + 1) → R_spec_l1Num (k + 1) [I (u : Int)] = some (.ret [T (numT u)] [])
  | 0, u, hu, h => by
    rcases num_step 0 u hu (num_or 0 _ (by omega)) with ⟨_, _, h1⟩ | h1
    · exact absurd (by simpa using h) h1
    · exact h1
  | k + 1, u, hu, h => by
    rcases num_step (k + 1) u hu (num_or (k + 1) _ (by omega)) with ⟨_, h1, _⟩ | h1
    · rw [num_big k (u / 10) (by omega) (by rw [Nat.pow_succ] at h; exact Nat.div_lt_of_lt_mul (by rw [Nat.mul_comm]; exact h))] at h1
      cases h1
    · exact h1
theorem e_spec_l1Num {n : Int} (h0 : 0 ≤ n) (h1 : n < 1000000000000000000) : F_spec_l1Num [I n] = some (.ret [T (intT n)] []) := by
  obtain ⟨u, rfl⟩ := Int.eq_ofNat_of_zero_le h0
  have hu : u < 10 ^ 18 := by omega
  rw [intT_nat]
  refine recF_eq (fun k o ho => ?_) 18 (num_big 17 u hu hu)
  rcases num_or k u hu with e | e
  · rw [e] at ho; cases ho
  · rw [e] at ho; cases ho; rfl
theorem e_Itoa {n : Int} (h0 : -9223372036854775808 ≤ n) (h1 : n ≤ 9223372036854775807) : fItoa [I n] = some (.ret [T (intT n)] []) := by
  simp only [fItoa, h0, h1, and_self, if_true]
  rfl

/-! ### orders -/
/-- A text of few bytes. -/
theorem addS {a b : ByteArray} {bl : Bool} {eq : List Nat} (h : a.size + b.size ≤ 1152921504606846976) : bin .add bl eq (T a) (T b) = some (T (a ++ b)) := by rw [bin_addS, if_pos h]
theorem sz1 (a : UInt8) : (⟨#[a]⟩ : ByteArray).size = 1 := rfl
theorem sz4 (a b c d : UInt8) : (⟨#[a, b, c, d]⟩ : ByteArray).size = 4 := rfl
end Go.Proofs.YtlphibidnkjpdaaDoor
/-
  More laws of loops; letters; cases.
-/
namespace Go.Proofs.YtlphibidnkjpdaaDoor
open Go Go.V
set_option linter.unusedSimpArgs false

/-- The first place where something holds. -/
def findI {β : Type} (p : β → Bool) : Nat → List β → Option Nat
  | _, [] => none
  | i, x :: l => if p x = true then some i else findI p (i + 1) l
theorem loop_find {β : Type} {body : List D → Option Out} (l : List β) (st : Nat → List D) (p : β → Bool) (o1 : Nat → Out) (o2 : Out) (hs : ∀ (i : Nat) (hi : i < l.length), body (st i) = some (if p l[i] = true then o1 i else .nrm (st (i + 1)))) (he : body (st l.length) = some o2)
    (h1 : ∀ i, (o1 i).ends = true) (h2 : o2.ends = true) {s0 : List D} (h : s0 = st 0) : loopC body s0 = some ((findI p 0 l).elim o2 o1) := by
  have e : ∀ (m : List β) (i : Nat), goL (fun i x (_ : Unit) => if p x = true then .inr (o1 i) else .inl ()) (fun _ => o2) i m () = (findI p i m).elim o2 o1 := by
    intro m
    induction m with
    | nil => intro i; simp [goL, findI]
    | cons x m ih =>
      intro i
      simp only [goL, findI]
      by_cases hp : p x = true
      · simp [hp]
      · simp [hp, ih]
  rw [← e]
  refine loop_list l (fun i _ => st i) (fun _ _ => True) _ _ (fun i x a hx _ => ?_) (fun _ _ => ⟨he, h2⟩) () trivial h
  have hi : i < l.length := (List.getElem?_eq_some_iff.1 hx).1
  have hxe : l[i] = x := (List.getElem?_eq_some_iff.1 hx).2
  have := hs i hi
  rw [hxe] at this
  by_cases hp : p x = true
  · simpa [hp, h1] using this
  · simpa [hp] using this
/-- All is well, and something is gathered. -/
theorem loop_allf {α β : Type} {body : List D → Option Out} (l : List β) (st : Nat → α → List D) (Inv : Nat → α → Prop) (p : Nat → β → Bool) (f : α → β → α) (o1 : Out) (fin : α → Out) (a : α) (hs : ∀ (i : Nat) (a : α) (hi : i < l.length), Inv i a → body (st i a) = some (if p i l[i] = true then .nrm (st (i + 1) (f a l[i])) else o1) ∧ (p i l[i] = true → Inv (i + 1) (f a l[i])))
    (he : ∀ a, Inv l.length a → body (st l.length a) = some (fin a)) (h1 : o1.ends = true) (h2 : ∀ a, (fin a).ends = true) (h0 : Inv 0 a) {s0 : List D} (h : s0 = st 0 a) : loopC body s0 = some (if allI p 0 l = true then fin (l.foldl f a) else o1) := by
  have e : ∀ (m : List β) (i : Nat) (a : α), goL (fun i x (a : α) => if p i x = true then .inl (f a x) else .inr o1) fin i m a = if allI p i m = true then fin (m.foldl f a) else o1 := by
    intro m
    induction m with
    | nil => intro i a; simp [goL, allI]
    | cons x m ih =>
      intro i a
      simp only [goL, allI, List.foldl_cons]
      by_cases hp : p i x = true
      · simp [hp, ih]
      · simp [hp]
  rw [← e]
  refine loop_list l st Inv _ _ (fun i x a hx hI => ?_) (fun a hI => ⟨he a hI, h2 a⟩) a h0 h
  have hi : i < l.length := (List.getElem?_eq_some_iff.1 hx).1
  have hxe : l[i] = x := (List.getElem?_eq_some_iff.1 hx).2
  have := hs i a hi hI
  rw [hxe] at this
  by_cases hp : p i x = true
  · simpa [hp] using this
  · simpa [hp, h1] using this
def chars (s : ByteArray) : List UInt8 := s.data.toList
theorem charD_nat {s : ByteArray} {k : IntKind} {i : Nat} : charD (T s) (.v (.int k (i : Int))) = ((chars s)[i]?).map fun b => U b.toNat := by simp [charD, chars]
theorem size_list (s : ByteArray) : s.size = (chars s).length := rfl
theorem bin_geqS {a b : ByteArray} {bl : Bool} {eq : List Nat} : bin .geq bl eq (T a) (T b) = some (B (!Op.bytesLess a.toList b.toList)) := by simp [bin, strBin]

/-! ### letters -/
/-! ### cases -/
end Go.Proofs.YtlphibidnkjpdaaDoor
