/-
  Contexts and contracts of functions, printed by gen.py.
-/
import Derived.Test.YtkhggkbmjdopcaaVx
namespace Go.Proofs.Ytkhggkbmjdopcaa
open Go.V
theorem follows_mixed : Try.prog.follows .mixedOrders = true := by kernel_rfl
@[reducible] def ty3 : TI := { n := 1, zero := [.v (.int .i64 0)], ik := some .i64 }
@[reducible] def ty4 : TI := { n := 1, zero := [.v (.bool false)], bl := true }
@[reducible] def ty5 : TI := { n := 1, zero := [.v (.int .u8 0)], ik := some .u8 }
@[reducible] def ty23 : TI := { agg := true, n := 3, zero := [.v (.int .i64 0), .v (.int .i64 0), .v (.int .i64 0)], fs := [(0, 3), (1, 3), (2, 3)], eq := [1, 1, 1] }
@[reducible] def ty26 : TI := { agg := true, n := 3, zero := [.v (.int .i64 0), .v (.int .i64 0), .v (.int .i64 0)], fs := [(0, 3), (1, 3), (2, 3)], eq := [1, 1, 1] }
@[reducible] def ty29 : TI := { n := 1, zero := [.arr 3 []], elem := 23, ez := 3, eb := 24 }
@[reducible] def ty32 : TI := { n := 1, zero := [.arr 3 []], elem := 26, ez := 3, eb := 24 }
@[reducible] def ty45 : TI := { n := 1, zero := [.arr 1 []], elem := 5, ez := 1, eb := 1 }
@[reducible] def ty60 : TI := { n := 1, zero := [.v (.int .u64 0)], ik := some .u64 }
@[reducible] def ty62 : TI := { agg := true, n := 3, zero := [.arr 1 [], .v (.int .i64 0), .v (.int .u64 0)], fs := [(0, 45), (1, 3), (2, 60)] }
@[reducible] def ty65 : TI := { n := 1, zero := [.arr 1 []], elem := 3, ez := 1, eb := 8 }
/-- loop.example/g01054/laws.toNote -/
@[reducible] noncomputable def c11 : Cx := { K := [.dat 0, .box 3 0 false, .box 3 0 false, .box 3 0 false, .ref 1, .dat 0, .ref 3, .ref 1, .dat 0, .ref 3, .ref 1, .dat 0, .ref 3, .dat 0], T := [(3, ty3), (23, ty23), (26, ty26)], S := [], H := [], res := [.cell 2 26], ios := [] }
noncomputable def F11 : List D → Option Out := denF c11 Try.f11
@[reducible] noncomputable def S11 : FS := { pm := [.dat 0], rm := [.dat 0], f := F11 }
theorem M11 : Meets Try.prog 11 S11 := meets_of (P := Try.prog) (c := c11) (fn := Try.f11) (pm := S11.pm) (rm := S11.rm) (by kernel_rfl) lookNil follows_mixed Try.func11 (by kernel_rfl) (by kernel_rfl) rfl
/-- loop.example/g01054/spec.l1In -/
@[reducible] noncomputable def c35 : Cx := { K := [.dat 0, .dat 0, .dat 0, .no, .no, .no, .dat 0, .dat 0, .dat 0, .dat 0, .dat 0, .dat 0, .dat 0, .dat 0, .dat 0], T := [(3, ty3)], S := [], H := [], res := [.tmp 6], ios := [] }
noncomputable def F35 : List D → Option Out := denF c35 Try.f35
@[reducible] noncomputable def S35 : FS := { pm := [.dat 0, .dat 0, .dat 0], rm := [.dat 0], f := F35 }
theorem M35 : Meets Try.prog 35 S35 := meets_of (P := Try.prog) (c := c35) (fn := Try.f35) (pm := S35.pm) (rm := S35.rm) (by kernel_rfl) lookNil follows_mixed Try.func35 (by kernel_rfl) (by kernel_rfl) rfl
/-- loop.example/g01054/spec.joNote -/
@[reducible] noncomputable def c36 : Cx := { K := [.dat 0, .box 3 0 false, .dat 0, .ref 1, .dat 0, .dat 0, .dat 0, .ref 1, .dat 0, .dat 0, .dat 0, .dat 0, .ref 1, .dat 0, .dat 0, .dat 0], T := [(3, ty3), (26, ty26)], S := [(35, S35)], H := [], res := [.tmp 2], ios := [] }
noncomputable def F36 : List D → Option Out := denF c36 Try.f36
@[reducible] noncomputable def S36 : FS := { pm := [.dat 0], rm := [.dat 0], f := F36 }
theorem M36 : Meets Try.prog 36 S36 := meets_of (P := Try.prog) (c := c36) (fn := Try.f36) (pm := S36.pm) (rm := S36.rm) (by kernel_rfl) (lookCons M35 lookNil) follows_mixed Try.func36 (by kernel_rfl) (by kernel_rfl) rfl
/-- loop.example/g01054/spec.joCheck -/
@[reducible] noncomputable def c37 : Cx := { K := [.dat 0, .dat 0, .no, .box 3 0 false, .dat 0, .dat 0, .dat 0, .ref 3, .dat 0, .dat 0, .dat 0, .ref 3, .dat 0, .dat 0, .dat 0, .ref 3, .dat 0, .dat 0, .dat 0], T := [(3, ty3), (26, ty26)], S := [], H := [], res := [.tmp 4], ios := [] }
noncomputable def F37 : List D → Option Out := denF c37 Try.f37
@[reducible] noncomputable def S37 : FS := { pm := [.dat 0, .dat 0], rm := [.dat 0], f := F37 }
theorem M37 : Meets Try.prog 37 S37 := meets_of (P := Try.prog) (c := c37) (fn := Try.f37) (pm := S37.pm) (rm := S37.rm) (by kernel_rfl) lookNil follows_mixed Try.func37 (by kernel_rfl) (by kernel_rfl) rfl
/-- loop.example/g01054/spec.NoteCheck -/
@[reducible] noncomputable def c10 : Cx := { K := [.dat 0, .dat 0, .no, .box 3 0 false, .dat 0, .dat 0, .dat 0, .dat 0, .dat 0, .dat 0, .dat 0, .dat 0, .dat 0, .dat 0, .dat 0, .dat 0, .dat 0], T := [(3, ty3), (26, ty26)], S := [(35, S35), (36, S36), (37, S37)], H := [], res := [.tmp 4, .tmp 5], ios := [] }
noncomputable def F10 : List D → Option Out := denF c10 Try.f10
@[reducible] noncomputable def S10 : FS := { pm := [.dat 0, .dat 0], rm := [.dat 0, .dat 0], f := F10 }
theorem M10 : Meets Try.prog 10 S10 := meets_of (P := Try.prog) (c := c10) (fn := Try.f10) (pm := S10.pm) (rm := S10.rm) (by kernel_rfl) (lookCons M35 (lookCons M36 (lookCons M37 lookNil))) follows_mixed Try.func10 (by kernel_rfl) (by kernel_rfl) rfl
/-- loop.example/g01054/impl.within -/
@[reducible] noncomputable def c38 : Cx := { K := [.dat 0, .dat 0, .dat 0, .no, .no, .no, .dat 0, .dat 0, .dat 0, .dat 0, .dat 0, .dat 0, .dat 0, .dat 0, .dat 0], T := [(3, ty3)], S := [], H := [], res := [.tmp 6], ios := [] }
noncomputable def F38 : List D → Option Out := denF c38 Try.f38
@[reducible] noncomputable def S38 : FS := { pm := [.dat 0, .dat 0, .dat 0], rm := [.dat 0], f := F38 }
theorem M38 : Meets Try.prog 38 S38 := meets_of (P := Try.prog) (c := c38) (fn := Try.f38) (pm := S38.pm) (rm := S38.rm) (by kernel_rfl) lookNil follows_mixed Try.func38 (by kernel_rfl) (by kernel_rfl) rfl
/-- loop.example/g01054/impl.isNoteDay -/
@[reducible] noncomputable def c46 : Cx := { K := [.dat 0, .no, .dat 0, .dat 0, .dat 0], T := [], S := [(38, S38)], H := [], res := [.tmp 2], ios := [] }
noncomputable def F46 : List D → Option Out := denF c46 Try.f46
@[reducible] noncomputable def S46 : FS := { pm := [.dat 0], rm := [.dat 0], f := F46 }
theorem M46 : Meets Try.prog 46 S46 := meets_of (P := Try.prog) (c := c46) (fn := Try.f46) (pm := S46.pm) (rm := S46.rm) (by kernel_rfl) (lookCons M38 lookNil) follows_mixed Try.func46 (by kernel_rfl) (by kernel_rfl) rfl
/-- loop.example/g01054/impl.isNote -/
@[reducible] noncomputable def c39 : Cx := { K := [.dat 0, .box 3 0 false, .dat 0, .ref 1, .dat 0, .dat 0, .dat 0, .ref 1, .dat 0, .dat 0, .dat 0, .dat 0, .ref 1, .dat 0, .dat 0, .dat 0], T := [(3, ty3), (26, ty26)], S := [(38, S38), (46, S46)], H := [], res := [.tmp 2], ios := [] }
noncomputable def F39 : List D → Option Out := denF c39 Try.f39
@[reducible] noncomputable def S39 : FS := { pm := [.dat 0], rm := [.dat 0], f := F39 }
theorem M39 : Meets Try.prog 39 S39 := meets_of (P := Try.prog) (c := c39) (fn := Try.f39) (pm := S39.pm) (rm := S39.rm) (by kernel_rfl) (lookCons M38 (lookCons M46 lookNil)) follows_mixed Try.func39 (by kernel_rfl) (by kernel_rfl) rfl
/-- loop.example/g01054/impl.check -/
@[reducible] noncomputable def c40 : Cx := { K := [.dat 0, .dat 0, .no, .box 3 0 false, .dat 0, .dat 0, .dat 0, .ref 3, .dat 0, .dat 0, .dat 0, .ref 3, .dat 0, .dat 0, .dat 0, .ref 3, .dat 0, .dat 0, .dat 0], T := [(3, ty3), (26, ty26)], S := [], H := [], res := [.tmp 4], ios := [] }
noncomputable def F40 : List D → Option Out := denF c40 Try.f40
@[reducible] noncomputable def S40 : FS := { pm := [.dat 0, .dat 0], rm := [.dat 0], f := F40 }
theorem M40 : Meets Try.prog 40 S40 := meets_of (P := Try.prog) (c := c40) (fn := Try.f40) (pm := S40.pm) (rm := S40.rm) (by kernel_rfl) lookNil follows_mixed Try.func40 (by kernel_rfl) (by kernel_rfl) rfl
/-- loop.example/g01054/impl.NoteCheck -/
@[reducible] noncomputable def c12 : Cx := { K := [.dat 0, .dat 0, .no, .box 3 0 false, .dat 0, .dat 0, .dat 0, .dat 0, .dat 0, .dat 0, .dat 0, .dat 0, .dat 0, .dat 0, .dat 0, .dat 0, .dat 0], T := [(3, ty3), (26, ty26)], S := [(38, S38), (39, S39), (40, S40)], H := [], res := [.tmp 4, .tmp 5], ios := [] }
noncomputable def F12 : List D → Option Out := denF c12 Try.f12
@[reducible] noncomputable def S12 : FS := { pm := [.dat 0, .dat 0], rm := [.dat 0, .dat 0], f := F12 }
theorem M12 : Meets Try.prog 12 S12 := meets_of (P := Try.prog) (c := c12) (fn := Try.f12) (pm := S12.pm) (rm := S12.rm) (by kernel_rfl) (lookCons M38 (lookCons M39 (lookCons M40 lookNil))) follows_mixed Try.func12 (by kernel_rfl) (by kernel_rfl) rfl
/-- loop.example/g01054/laws.FnExactNoteCheck -/
@[reducible] noncomputable def c3 : Cx := { K := [.dat 0, .dat 0, .no, .box 3 0 false, .dat 0, .dat 0, .dat 0, .dat 0, .dat 0, .tup [.dat 0, .dat 0], .dat 0, .dat 0, .dat 0, .tup [.dat 0, .dat 0], .dat 0, .dat 0, .tup [.dat 0, .dat 0], .dat 0, .dat 0, .dat 0, .tup [.dat 0, .dat 0], .dat 0, .dat 0, .dat 0, .dat 0, .dat 0, .dat 0, .dat 0, .dat 0, .dat 0, .dat 0], T := [(3, ty3), (4, ty4), (23, ty23)], S := [(10, S10), (11, S11), (12, S12)], H := [], res := [.tmp 4], ios := [] }
noncomputable def F3 : List D → Option Out := denF c3 Try.f3
@[reducible] noncomputable def S3 : FS := { pm := [.dat 0, .dat 0], rm := [.dat 0], f := F3 }
theorem M3 : Meets Try.prog 3 S3 := meets_of (P := Try.prog) (c := c3) (fn := Try.f3) (pm := S3.pm) (rm := S3.rm) (by kernel_rfl) (lookCons M10 (lookCons M11 (lookCons M12 lookNil))) follows_mixed Try.func3 (by kernel_rfl) (by kernel_rfl) rfl
/-- loop.example/g01054/laws.szNoteS -/
@[reducible] noncomputable def c13 : Cx := { K := [.dat 2, .dat 0, .no, .no, .dat 0, .dat 0, .dat 2, .dat 0, .dat 0, .dat 0, .dat 0, .dat 0], T := [(3, ty3), (23, ty23), (29, ty29)], S := [], H := [], res := [.tmp 4], ios := [] }
noncomputable def F13 : List D → Option Out := denF c13 Try.f13
@[reducible] noncomputable def S13 : FS := { pm := [.dat 2, .dat 0], rm := [.dat 0], f := F13 }
theorem M13 : Meets Try.prog 13 S13 := meets_of (P := Try.prog) (c := c13) (fn := Try.f13) (pm := S13.pm) (rm := S13.rm) (by kernel_rfl) lookNil follows_mixed Try.func13 (by kernel_rfl) (by kernel_rfl) rfl
/-- loop.example/g01054/laws.toNoteS -/
@[reducible] noncomputable def c15 : Cx := { K := [.dat 2, .no, .own 3 0 false, .own 3 0 false, .dat 0, .dat 2, .dat 0, .own 3 0 false, .dat 0, .dat 2, .dat 0, .dat 0, .dat 0, .dat 0, .via 3, .dat 0, .dat 2, .dat 0, .dat 2, .dat 0, .dat 0, .ref 3, .own 3 0 false], T := [(3, ty3), (23, ty23), (26, ty26), (29, ty29), (32, ty32)], S := [(11, S11)], H := [(0, ([0, 3, 4], [3]))], res := [.tmp 2], ios := [] }
noncomputable def F15 : List D → Option Out := denF c15 Try.f15
@[reducible] noncomputable def S15 : FS := { pm := [.dat 2], rm := [.own 3 0 false], f := F15 }
theorem M15 : Meets Try.prog 15 S15 := meets_of (P := Try.prog) (c := c15) (fn := Try.f15) (pm := S15.pm) (rm := S15.rm) (by kernel_rfl) (lookCons M11 lookNil) follows_mixed Try.func15 (by kernel_rfl) (by kernel_rfl) rfl
/-- loop.example/g01054/spec.joGood -/
@[reducible] noncomputable def c41 : Cx := { K := [.dat 2, .no, .dat 0, .dat 0, .box 3 0 false, .dat 2, .dat 0, .dat 0, .dat 0, .dat 0, .dat 2, .dat 0, .dat 0, .dat 0, .dat 0, .dat 0, .dat 0, .dat 0, .dat 0, .dat 2, .dat 0, .dat 0, .dat 2, .dat 2, .dat 0, .ref 4, .dat 0, .dat 0, .dat 0, .dat 0, .dat 0, .dat 2, .dat 0, .dat 0], T := [(3, ty3), (26, ty26), (32, ty32)], S := [(36, S36)], H := [(0, ([0, 4, 5, 6, 7, 16, 17, 18, 19, 20, 21, 22, 23, 24, 25, 26, 27, 28], [0]))], res := [.tmp 2], ios := [] }
noncomputable def F41 : List D → Option Out := denF c41 Try.f41
@[reducible] noncomputable def S41 : FS := { pm := [.dat 2], rm := [.dat 0], f := F41 }
theorem M41 : Meets Try.prog 41 S41 := meets_of (P := Try.prog) (c := c41) (fn := Try.f41) (pm := S41.pm) (rm := S41.rm) (by kernel_rfl) (lookCons M36 lookNil) follows_mixed Try.func41 (by kernel_rfl) (by kernel_rfl) rfl
/-- loop.example/g01054/spec.AreNotes -/
@[reducible] noncomputable def c14 : Cx := { K := [.dat 2, .no, .dat 0, .dat 2, .dat 0], T := [], S := [(41, S41)], H := [], res := [.tmp 2], ios := [] }
noncomputable def F14 : List D → Option Out := denF c14 Try.f14
@[reducible] noncomputable def S14 : FS := { pm := [.dat 2], rm := [.dat 0], f := F14 }
theorem M14 : Meets Try.prog 14 S14 := meets_of (P := Try.prog) (c := c14) (fn := Try.f14) (pm := S14.pm) (rm := S14.rm) (by kernel_rfl) (lookCons M41 lookNil) follows_mixed Try.func14 (by kernel_rfl) (by kernel_rfl) rfl
/-- loop.example/g01054/impl.AreNotes -/
@[reducible] noncomputable def c16 : Cx := { K := [.dat 2, .no, .dat 0, .dat 0, .box 3 0 false, .dat 2, .dat 0, .dat 0, .dat 0, .dat 0, .dat 2, .dat 0, .dat 0, .dat 0, .dat 0, .dat 0, .dat 0, .dat 0, .dat 0, .dat 2, .dat 0, .dat 0, .dat 2, .dat 2, .dat 0, .ref 4, .dat 0, .dat 0, .dat 0, .dat 0, .dat 0, .dat 2, .dat 0, .dat 0], T := [(3, ty3), (26, ty26), (32, ty32)], S := [(39, S39)], H := [(0, ([0, 4, 5, 6, 7, 16, 17, 18, 19, 20, 21, 22, 23, 24, 25, 26, 27, 28], [0]))], res := [.tmp 2], ios := [] }
noncomputable def F16 : List D → Option Out := denF c16 Try.f16
@[reducible] noncomputable def S16 : FS := { pm := [.dat 2], rm := [.dat 0], f := F16 }
theorem M16 : Meets Try.prog 16 S16 := meets_of (P := Try.prog) (c := c16) (fn := Try.f16) (pm := S16.pm) (rm := S16.rm) (by kernel_rfl) (lookCons M39 lookNil) follows_mixed Try.func16 (by kernel_rfl) (by kernel_rfl) rfl
/-- loop.example/g01054/laws.eqNote -/
@[reducible] noncomputable def c42 : Cx := { K := [.dat 0, .dat 0, .box 3 0 false, .box 3 0 false, .dat 0, .ref 2, .dat 0, .ref 3, .dat 0, .dat 0, .ref 2, .dat 0, .ref 3, .dat 0, .dat 0, .ref 2, .dat 0, .ref 3, .dat 0, .dat 0], T := [(3, ty3), (26, ty26)], S := [], H := [], res := [.tmp 4], ios := [] }
noncomputable def F42 : List D → Option Out := denF c42 Try.f42
@[reducible] noncomputable def S42 : FS := { pm := [.dat 0, .dat 0], rm := [.dat 0], f := F42 }
theorem M42 : Meets Try.prog 42 S42 := meets_of (P := Try.prog) (c := c42) (fn := Try.f42) (pm := S42.pm) (rm := S42.rm) (by kernel_rfl) lookNil follows_mixed Try.func42 (by kernel_rfl) (by kernel_rfl) rfl
/-- loop.example/g01054/laws.eqNoteS -/
@[reducible] noncomputable def c17 : Cx := { K := [.dat 2, .dat 2, .no, .no, .dat 0, .dat 0, .dat 2, .dat 0, .dat 2, .dat 0, .dat 0, .dat 0, .dat 2, .dat 0, .dat 0, .dat 0, .dat 0, .dat 2, .dat 0, .dat 2, .dat 0, .dat 2, .dat 0, .dat 2, .dat 0, .dat 0, .dat 0], T := [(3, ty3), (26, ty26), (32, ty32)], S := [(42, S42)], H := [(0, ([0, 1, 5], []))], res := [.tmp 4], ios := [] }
noncomputable def F17 : List D → Option Out := denF c17 Try.f17
@[reducible] noncomputable def S17 : FS := { pm := [.dat 2, .dat 2], rm := [.dat 0], f := F17 }
theorem M17 : Meets Try.prog 17 S17 := meets_of (P := Try.prog) (c := c17) (fn := Try.f17) (pm := S17.pm) (rm := S17.rm) (by kernel_rfl) (lookCons M42 lookNil) follows_mixed Try.func17 (by kernel_rfl) (by kernel_rfl) rfl
/-- loop.example/g01054/laws.FnExactAreNotes -/
@[reducible] noncomputable def c4 : Cx := { K := [.dat 2, .no, .dat 0, .dat 0, .dat 0, .dat 1, .dat 0, .dat 2, .dat 0, .dat 0, .dat 0, .dat 0, .dat 2, .dat 1, .dat 0, .dat 2, .dat 1, .dat 1, .dat 0, .dat 0, .dat 0, .dat 0, .dat 1, .dat 2, .dat 1, .dat 0, .dat 0], T := [(3, ty3), (4, ty4)], S := [(13, S13), (14, S14), (15, S15), (16, S16), (17, S17)], H := [], res := [.tmp 2], ios := [] }
noncomputable def F4 : List D → Option Out := denF c4 Try.f4
@[reducible] noncomputable def S4 : FS := { pm := [.dat 2], rm := [.dat 0], f := F4 }
theorem M4 : Meets Try.prog 4 S4 := meets_of (P := Try.prog) (c := c4) (fn := Try.f4) (pm := S4.pm) (rm := S4.rm) (by kernel_rfl) (lookCons M13 (lookCons M14 (lookCons M15 (lookCons M16 (lookCons M17 lookNil))))) follows_mixed Try.func4 (by kernel_rfl) (by kernel_rfl) rfl
/-- loop.example/g01054/spec.joDay -/
@[reducible] noncomputable def c43 : Cx := { K := [.dat 0, .no, .dat 0, .dat 0, .dat 0], T := [], S := [(35, S35)], H := [], res := [.tmp 2], ios := [] }
noncomputable def F43 : List D → Option Out := denF c43 Try.f43
@[reducible] noncomputable def S43 : FS := { pm := [.dat 0], rm := [.dat 0], f := F43 }
theorem M43 : Meets Try.prog 43 S43 := meets_of (P := Try.prog) (c := c43) (fn := Try.f43) (pm := S43.pm) (rm := S43.rm) (by kernel_rfl) (lookCons M35 lookNil) follows_mixed Try.func43 (by kernel_rfl) (by kernel_rfl) rfl
/-- loop.example/g01054/spec.joMetal -/
@[reducible] noncomputable def c44 : Cx := { K := [.dat 0, .dat 0, .no, .box 3 0 false, .dat 0, .ref 3, .dat 0, .dat 0, .dat 0, .ref 3, .dat 0, .dat 0, .dat 0, .dat 0, .ref 3, .dat 0, .dat 0, .dat 0, .ref 3, .dat 0, .dat 0], T := [(3, ty3), (26, ty26)], S := [], H := [], res := [.tmp 4], ios := [] }
noncomputable def F44 : List D → Option Out := denF c44 Try.f44
@[reducible] noncomputable def S44 : FS := { pm := [.dat 0, .dat 0], rm := [.dat 0], f := F44 }
theorem M44 : Meets Try.prog 44 S44 := meets_of (P := Try.prog) (c := c44) (fn := Try.f44) (pm := S44.pm) (rm := S44.rm) (by kernel_rfl) lookNil follows_mixed Try.func44 (by kernel_rfl) (by kernel_rfl) rfl
/-- loop.example/g01054/spec.MetalAfter -/
@[reducible] noncomputable def c18 : Cx := { K := [.dat 2, .dat 0, .dat 0, .no, .no, .no, .dat 0, .dat 0, .no, .box 3 0 false, .dat 2, .dat 0, .dat 0, .dat 0, .dat 0, .dat 0, .dat 0, .dat 0, .dat 0, .dat 0, .dat 0, .dat 0, .dat 0, .dat 2, .dat 0, .dat 0, .dat 0, .dat 2, .dat 0, .ref 9, .dat 0, .dat 0, .dat 0, .dat 0, .dat 0, .dat 0, .dat 0, .dat 0], T := [(3, ty3), (26, ty26), (32, ty32)], S := [(35, S35), (41, S41), (43, S43), (44, S44)], H := [(0, ([1, 2, 23, 24, 25], [1]))], res := [.tmp 6, .tmp 7], ios := [] }
noncomputable def F18 : List D → Option Out := denF c18 Try.f18
@[reducible] noncomputable def S18 : FS := { pm := [.dat 2, .dat 0, .dat 0], rm := [.dat 0, .dat 0], f := F18 }
theorem M18 : Meets Try.prog 18 S18 := meets_of (P := Try.prog) (c := c18) (fn := Try.f18) (pm := S18.pm) (rm := S18.rm) (by kernel_rfl) (lookCons M35 (lookCons M41 (lookCons M43 (lookCons M44 lookNil)))) follows_mixed Try.func18 (by kernel_rfl) (by kernel_rfl) rfl
/-- loop.example/g01054/impl.isMetalStart -/
@[reducible] noncomputable def c45 : Cx := { K := [.dat 0, .no, .dat 0, .dat 0, .dat 0], T := [], S := [(38, S38)], H := [], res := [.tmp 2], ios := [] }
noncomputable def F45 : List D → Option Out := denF c45 Try.f45
@[reducible] noncomputable def S45 : FS := { pm := [.dat 0], rm := [.dat 0], f := F45 }
theorem M45 : Meets Try.prog 45 S45 := meets_of (P := Try.prog) (c := c45) (fn := Try.f45) (pm := S45.pm) (rm := S45.rm) (by kernel_rfl) (lookCons M38 lookNil) follows_mixed Try.func45 (by kernel_rfl) (by kernel_rfl) rfl
/-- loop.example/g01054/impl.change -/
@[reducible] noncomputable def c47 : Cx := { K := [.dat 0, .box 3 0 false, .dat 0, .ref 1, .dat 0, .dat 0, .dat 0, .ref 1, .dat 0, .dat 0, .dat 0, .ref 1, .dat 0, .ref 1, .dat 0, .dat 0], T := [(3, ty3), (26, ty26)], S := [], H := [], res := [.tmp 2], ios := [] }
noncomputable def F47 : List D → Option Out := denF c47 Try.f47
@[reducible] noncomputable def S47 : FS := { pm := [.dat 0], rm := [.dat 0], f := F47 }
theorem M47 : Meets Try.prog 47 S47 := meets_of (P := Try.prog) (c := c47) (fn := Try.f47) (pm := S47.pm) (rm := S47.rm) (by kernel_rfl) lookNil follows_mixed Try.func47 (by kernel_rfl) (by kernel_rfl) rfl
/-- loop.example/g01054/impl.MetalAfter -/
@[reducible] noncomputable def c19 : Cx := { K := [.dat 2, .dat 0, .dat 0, .no, .no, .no, .dat 0, .dat 0, .no, .box 3 0 false, .dat 2, .dat 0, .dat 0, .dat 0, .dat 0, .dat 0, .dat 0, .dat 0, .dat 0, .dat 0, .dat 0, .dat 0, .dat 0, .dat 2, .dat 0, .dat 0, .dat 0, .dat 2, .dat 0, .ref 9, .dat 0, .dat 0, .dat 0, .dat 0, .dat 0, .dat 0, .dat 0, .dat 0, .dat 0], T := [(3, ty3), (26, ty26), (32, ty32)], S := [(16, S16), (45, S45), (46, S46), (47, S47)], H := [(0, ([1, 2, 23, 24, 25], [1]))], res := [.tmp 6, .tmp 7], ios := [] }
noncomputable def F19 : List D → Option Out := denF c19 Try.f19
@[reducible] noncomputable def S19 : FS := { pm := [.dat 2, .dat 0, .dat 0], rm := [.dat 0, .dat 0], f := F19 }
theorem M19 : Meets Try.prog 19 S19 := meets_of (P := Try.prog) (c := c19) (fn := Try.f19) (pm := S19.pm) (rm := S19.rm) (by kernel_rfl) (lookCons M16 (lookCons M45 (lookCons M46 (lookCons M47 lookNil)))) follows_mixed Try.func19 (by kernel_rfl) (by kernel_rfl) rfl
/-- loop.example/g01054/laws.FnExactMetalAfter -/
@[reducible] noncomputable def c5 : Cx := { K := [.dat 2, .dat 0, .dat 0, .no, .no, .no, .dat 0, .dat 0, .dat 0, .dat 0, .dat 1, .dat 0, .dat 0, .dat 2, .dat 0, .dat 0, .dat 0, .dat 0, .tup [.dat 0, .dat 0], .dat 2, .dat 1, .dat 0, .dat 0, .tup [.dat 0, .dat 0], .dat 0, .dat 0, .dat 2, .dat 1, .tup [.dat 0, .dat 0], .dat 1, .dat 0, .dat 0, .tup [.dat 0, .dat 0], .dat 0, .dat 0, .dat 0, .dat 0, .dat 0, .dat 0, .dat 0, .dat 0, .dat 0, .dat 0, .dat 1, .dat 2, .dat 1, .dat 0, .dat 0], T := [(3, ty3), (4, ty4)], S := [(13, S13), (15, S15), (17, S17), (18, S18), (19, S19)], H := [], res := [.tmp 6], ios := [] }
noncomputable def F5 : List D → Option Out := denF c5 Try.f5
@[reducible] noncomputable def S5 : FS := { pm := [.dat 2, .dat 0, .dat 0], rm := [.dat 0], f := F5 }
theorem M5 : Meets Try.prog 5 S5 := meets_of (P := Try.prog) (c := c5) (fn := Try.f5) (pm := S5.pm) (rm := S5.rm) (by kernel_rfl) (lookCons M13 (lookCons M15 (lookCons M17 (lookCons M18 (lookCons M19 lookNil))))) follows_mixed Try.func5 (by kernel_rfl) (by kernel_rfl) rfl
/-- loop.example/g01054/spec.DropNote -/
@[reducible] noncomputable def c20 : Cx := { K := [.dat 2, .dat 0, .no, .no, .own 3 0 false, .dat 0, .dat 2, .dat 0, .dat 0, .dat 0, .dat 0, .dat 2, .dat 0, .dat 0, .dat 0, .dat 0, .dat 0, .own 3 0 false, .dat 2, .dat 0, .dat 2, .own 3 0 false, .dat 2, .dat 0, .dat 0, .dat 2, .own 3 0 false], T := [(3, ty3), (26, ty26), (32, ty32)], S := [(35, S35), (41, S41)], H := [], res := [.tmp 4, .tmp 5], ios := [] }
noncomputable def F20 : List D → Option Out := denF c20 Try.f20
@[reducible] noncomputable def S20 : FS := { pm := [.dat 2, .dat 0], rm := [.own 3 0 false, .dat 0], f := F20 }
theorem M20 : Meets Try.prog 20 S20 := meets_of (P := Try.prog) (c := c20) (fn := Try.f20) (pm := S20.pm) (rm := S20.rm) (by kernel_rfl) (lookCons M35 (lookCons M41 lookNil)) follows_mixed Try.func20 (by kernel_rfl) (by kernel_rfl) rfl
/-- loop.example/g01054/impl.DropNote -/
@[reducible] noncomputable def c21 : Cx := { K := [.dat 2, .dat 0, .no, .no, .own 3 0 false, .dat 0, .dat 2, .dat 0, .dat 0, .dat 0, .dat 0, .dat 2, .dat 0, .dat 0, .dat 0, .dat 0, .dat 0, .own 3 0 false, .own 3 0 false, .dat 2, .dat 0, .dat 2, .own 3 0 false, .dat 2, .dat 0, .dat 0, .dat 2, .own 3 0 false], T := [(3, ty3), (26, ty26), (32, ty32)], S := [(16, S16), (38, S38)], H := [], res := [.tmp 4, .tmp 5], ios := [] }
noncomputable def F21 : List D → Option Out := denF c21 Try.f21
@[reducible] noncomputable def S21 : FS := { pm := [.dat 2, .dat 0], rm := [.own 3 0 false, .dat 0], f := F21 }
theorem M21 : Meets Try.prog 21 S21 := meets_of (P := Try.prog) (c := c21) (fn := Try.f21) (pm := S21.pm) (rm := S21.rm) (by kernel_rfl) (lookCons M16 (lookCons M38 lookNil)) follows_mixed Try.func21 (by kernel_rfl) (by kernel_rfl) rfl
/-- loop.example/g01054/laws.markNoteS -/
@[reducible] noncomputable def c22 : Cx := { K := [.own 3 0 true, .dat 0, .no, .no, .dat 0, .dat 0, .dat 0, .via 0, .dat 0, .dat 0, .dat 0, .dat 0, .via 0, .dat 0, .dat 0, .ref 0, .ref 0, .dat 0, .dat 0, .via 0, .dat 0, .dat 0, .ref 0, .ref 0, .dat 0, .dat 0, .via 0, .dat 0, .dat 0, .ref 0, .ref 0, .dat 0, .dat 0, .dat 0], T := [(3, ty3), (26, ty26), (32, ty32)], S := [], H := [(0, ([0, 1, 5], [0, 1]))], res := [.tmp 4], ios := [0] }
noncomputable def F22 : List D → Option Out := denF c22 Try.f22
@[reducible] noncomputable def S22 : FS := { pm := [.own 3 0 true, .dat 0], rm := [.dat 0], f := F22 }
theorem M22 : Meets Try.prog 22 S22 := meets_of (P := Try.prog) (c := c22) (fn := Try.f22) (pm := S22.pm) (rm := S22.rm) (by kernel_rfl) lookNil follows_mixed Try.func22 (by kernel_rfl) (by kernel_rfl) rfl
/-- loop.example/g01054/laws.heldNoteS -/
@[reducible] noncomputable def c23 : Cx := { K := [.dat 2, .dat 0, .no, .no, .dat 0, .dat 0, .dat 0, .dat 2, .dat 0, .dat 0, .dat 0, .dat 0, .dat 2, .dat 0, .dat 2, .dat 2, .dat 0, .dat 0, .dat 0, .dat 0, .dat 0, .dat 2, .dat 0, .dat 2, .dat 2, .dat 0, .dat 0, .dat 0, .dat 0, .dat 0, .dat 2, .dat 0, .dat 2, .dat 2, .dat 0, .dat 0, .dat 0, .dat 0, .dat 0, .dat 0], T := [(3, ty3), (26, ty26), (32, ty32)], S := [], H := [(0, ([0, 1, 5], [1]))], res := [.tmp 4], ios := [] }
noncomputable def F23 : List D → Option Out := denF c23 Try.f23
@[reducible] noncomputable def S23 : FS := { pm := [.dat 2, .dat 0], rm := [.dat 0], f := F23 }
theorem M23 : Meets Try.prog 23 S23 := meets_of (P := Try.prog) (c := c23) (fn := Try.f23) (pm := S23.pm) (rm := S23.rm) (by kernel_rfl) lookNil follows_mixed Try.func23 (by kernel_rfl) (by kernel_rfl) rfl
/-- loop.example/g01054/laws.FnExactDropNote -/
@[reducible] noncomputable def c6 : Cx := { K := [.dat 2, .dat 0, .no, .no, .dat 0, .dat 0, .dat 1, .dat 0, .via 29, .via 34, .dat 0, .dat 0, .dat 0, .dat 0, .dat 1, .dat 0, .dat 2, .dat 0, .dat 0, .dat 0, .dat 0, .tup [.own 3 0 false, .dat 0], .dat 2, .dat 1, .dat 0, .tup [.own 3 0 false, .dat 0], .dat 1, .dat 0, .dat 2, .own 3 0 false, .tup [.own 3 0 false, .dat 0], .via 29, .dat 0, .tup [.own 3 0 false, .dat 0], .own 3 0 false, .dat 0, .via 34, .dat 1, .dat 0, .dat 0, .dat 0, .dat 0, .dat 0, .dat 0, .dat 0, .via 29, .dat 2, .dat 1, .dat 0, .dat 0, .via 29, .dat 0, .dat 0, .dat 0, .dat 0, .dat 0, .via 34, .dat 1, .dat 0, .dat 0, .dat 0, .dat 0, .dat 0, .dat 0, .dat 0, .dat 0, .via 34, .dat 0, .dat 0, .via 34, .dat 0, .dat 0, .dat 0, .dat 0, .dat 0, .dat 0, .dat 0, .tup [.own 3 0 false, .dat 0], .dat 2, .dat 1, .dat 0, .tup [.own 3 0 false, .dat 0], .dat 1, .dat 0, .dat 1, .dat 1, .dat 0, .dat 0, .dat 0, .dat 0, .dat 0, .dat 0, .dat 0, .via 34, .dat 0, .dat 0, .dat 0, .dat 0, .dat 0, .dat 0, .dat 0], T := [(3, ty3), (4, ty4)], S := [(13, S13), (15, S15), (17, S17), (20, S20), (21, S21), (22, S22), (23, S23)], H := [], res := [.tmp 4], ios := [] }
noncomputable def F6 : List D → Option Out := denF c6 Try.f6
@[reducible] noncomputable def S6 : FS := { pm := [.dat 2, .dat 0], rm := [.dat 0], f := F6 }
theorem M6 : Meets Try.prog 6 S6 := meets_of (P := Try.prog) (c := c6) (fn := Try.f6) (pm := S6.pm) (rm := S6.rm) (by kernel_rfl) (lookCons M13 (lookCons M15 (lookCons M17 (lookCons M20 (lookCons M21 (lookCons M22 (lookCons M23 lookNil))))))) follows_mixed Try.func6 (by kernel_rfl) (by kernel_rfl) rfl
/-- loop.example/g01054/spec.LeastMetal -/
@[reducible] noncomputable def c24 : Cx := { K := [.dat 2, .dat 0, .no, .no, .dat 0, .dat 0, .dat 0, .dat 0, .dat 0, .dat 0, .box 3 0 false, .dat 2, .dat 0, .dat 0, .dat 0, .dat 0, .dat 0, .dat 0, .dat 0, .dat 0, .dat 2, .dat 0, .dat 0, .dat 0, .dat 2, .dat 0, .dat 0, .dat 0, .dat 0, .dat 2, .dat 0, .dat 0, .dat 0, .dat 0, .dat 0, .dat 0, .dat 0, .dat 0, .dat 0, .dat 0, .dat 0, .dat 0, .dat 0, .dat 0, .dat 0, .dat 0], T := [(3, ty3), (26, ty26), (32, ty32)], S := [(35, S35), (41, S41), (44, S44)], H := [(0, ([1, 7, 8, 24, 25, 26, 37, 38, 39], [7, 8]))], res := [.tmp 4, .tmp 5, .tmp 6], ios := [] }
noncomputable def F24 : List D → Option Out := denF c24 Try.f24
@[reducible] noncomputable def S24 : FS := { pm := [.dat 2, .dat 0], rm := [.dat 0, .dat 0, .dat 0], f := F24 }
theorem M24 : Meets Try.prog 24 S24 := meets_of (P := Try.prog) (c := c24) (fn := Try.f24) (pm := S24.pm) (rm := S24.rm) (by kernel_rfl) (lookCons M35 (lookCons M41 (lookCons M44 lookNil))) follows_mixed Try.func24 (by kernel_rfl) (by kernel_rfl) rfl
/-- loop.example/g01054/impl.LeastMetal -/
@[reducible] noncomputable def c25 : Cx := { K := [.dat 2, .dat 0, .no, .no, .dat 0, .dat 0, .dat 0, .dat 0, .dat 0, .dat 0, .box 3 0 false, .dat 2, .dat 0, .dat 0, .dat 0, .dat 0, .dat 0, .dat 0, .dat 0, .dat 0, .dat 2, .dat 0, .dat 0, .dat 0, .dat 2, .dat 0, .dat 0, .dat 0, .dat 0, .dat 2, .dat 0, .dat 0, .dat 0, .dat 0, .dat 0, .dat 0, .dat 0, .dat 0, .dat 0, .dat 0, .dat 0, .dat 0, .dat 0, .dat 0, .dat 0, .dat 0, .dat 0], T := [(3, ty3), (26, ty26), (32, ty32)], S := [(16, S16), (45, S45), (47, S47)], H := [(0, ([1, 7, 8, 24, 25, 26, 38, 39, 40], [7, 8]))], res := [.tmp 4, .tmp 5, .tmp 6], ios := [] }
noncomputable def F25 : List D → Option Out := denF c25 Try.f25
@[reducible] noncomputable def S25 : FS := { pm := [.dat 2, .dat 0], rm := [.dat 0, .dat 0, .dat 0], f := F25 }
theorem M25 : Meets Try.prog 25 S25 := meets_of (P := Try.prog) (c := c25) (fn := Try.f25) (pm := S25.pm) (rm := S25.rm) (by kernel_rfl) (lookCons M16 (lookCons M45 (lookCons M47 lookNil))) follows_mixed Try.func25 (by kernel_rfl) (by kernel_rfl) rfl
/-- loop.example/g01054/laws.FnExactLeastMetal -/
@[reducible] noncomputable def c7 : Cx := { K := [.dat 2, .dat 0, .no, .no, .dat 0, .dat 0, .dat 0, .dat 0, .dat 0, .dat 1, .dat 0, .dat 0, .dat 0, .dat 2, .dat 0, .dat 0, .dat 0, .dat 0, .tup [.dat 0, .dat 0, .dat 0], .dat 2, .dat 1, .dat 0, .tup [.dat 0, .dat 0, .dat 0], .dat 0, .dat 0, .dat 0, .dat 2, .dat 1, .tup [.dat 0, .dat 0, .dat 0], .dat 1, .dat 0, .tup [.dat 0, .dat 0, .dat 0], .dat 0, .dat 0, .dat 0, .dat 0, .dat 0, .dat 0, .dat 0, .dat 0, .dat 0, .dat 0, .dat 0, .dat 0, .dat 0, .dat 0, .dat 0, .dat 0, .dat 1, .dat 2, .dat 1, .dat 0, .dat 0], T := [(3, ty3), (4, ty4)], S := [(13, S13), (15, S15), (17, S17), (24, S24), (25, S25)], H := [], res := [.tmp 4], ios := [] }
noncomputable def F7 : List D → Option Out := denF c7 Try.f7
@[reducible] noncomputable def S7 : FS := { pm := [.dat 2, .dat 0], rm := [.dat 0], f := F7 }
theorem M7 : Meets Try.prog 7 S7 := meets_of (P := Try.prog) (c := c7) (fn := Try.f7) (pm := S7.pm) (rm := S7.rm) (by kernel_rfl) (lookCons M13 (lookCons M15 (lookCons M17 (lookCons M24 (lookCons M25 lookNil))))) follows_mixed Try.func7 (by kernel_rfl) (by kernel_rfl) rfl
/-- loop.example/g01054/spec.NotesOn -/
@[reducible] noncomputable def c26 : Cx := { K := [.dat 2, .dat 0, .dat 0, .no, .no, .no, .own 3 0 false, .dat 0, .own 3 0 false, .no, .box 3 0 false, .dat 2, .dat 0, .dat 0, .dat 0, .dat 0, .dat 0, .dat 0, .dat 0, .dat 0, .dat 0, .dat 0, .dat 0, .dat 0, .dat 2, .dat 0, .dat 0, .dat 0, .dat 2, .dat 0, .ref 10, .dat 0, .dat 0, .dat 0, .dat 0, .own 3 0 false, .dat 0, .dat 1, .own 3 0 false, .dat 0, .own 3 0 false], T := [(3, ty3), (26, ty26), (32, ty32)], S := [(35, S35), (41, S41), (43, S43)], H := [(0, ([1, 2, 8, 24, 25, 26], [8]))], res := [.tmp 6, .tmp 7], ios := [] }
noncomputable def F26 : List D → Option Out := denF c26 Try.f26
@[reducible] noncomputable def S26 : FS := { pm := [.dat 2, .dat 0, .dat 0], rm := [.own 3 0 false, .dat 0], f := F26 }
theorem M26 : Meets Try.prog 26 S26 := meets_of (P := Try.prog) (c := c26) (fn := Try.f26) (pm := S26.pm) (rm := S26.rm) (by kernel_rfl) (lookCons M35 (lookCons M41 (lookCons M43 lookNil))) follows_mixed Try.func26 (by kernel_rfl) (by kernel_rfl) rfl
/-- loop.example/g01054/impl.NotesOn -/
@[reducible] noncomputable def c27 : Cx := { K := [.dat 2, .dat 0, .dat 0, .no, .no, .no, .own 3 0 false, .dat 0, .own 3 0 false, .no, .box 3 0 false, .dat 2, .dat 0, .dat 0, .dat 0, .dat 0, .dat 0, .dat 0, .dat 0, .dat 0, .dat 0, .dat 0, .dat 0, .dat 0, .own 3 0 false, .own 3 0 false, .dat 2, .dat 0, .dat 0, .dat 0, .dat 2, .dat 0, .ref 10, .dat 0, .dat 0, .dat 0, .dat 0, .own 3 0 false, .dat 0, .dat 1, .own 3 0 false, .dat 0, .own 3 0 false], T := [(3, ty3), (26, ty26), (32, ty32)], S := [(16, S16), (38, S38), (46, S46)], H := [(0, ([1, 2, 8, 26, 27, 28], [8]))], res := [.tmp 6, .tmp 7], ios := [] }
noncomputable def F27 : List D → Option Out := denF c27 Try.f27
@[reducible] noncomputable def S27 : FS := { pm := [.dat 2, .dat 0, .dat 0], rm := [.own 3 0 false, .dat 0], f := F27 }
theorem M27 : Meets Try.prog 27 S27 := meets_of (P := Try.prog) (c := c27) (fn := Try.f27) (pm := S27.pm) (rm := S27.rm) (by kernel_rfl) (lookCons M16 (lookCons M38 (lookCons M46 lookNil))) follows_mixed Try.func27 (by kernel_rfl) (by kernel_rfl) rfl
/-- loop.example/g01054/laws.FnExactNotesOn -/
@[reducible] noncomputable def c8 : Cx := { K := [.dat 2, .dat 0, .dat 0, .no, .no, .no, .dat 0, .dat 0, .dat 1, .dat 0, .via 32, .via 38, .dat 0, .dat 0, .dat 0, .dat 0, .dat 1, .dat 0, .dat 2, .dat 0, .dat 0, .dat 0, .dat 0, .tup [.own 3 0 false, .dat 0], .dat 2, .dat 1, .dat 0, .dat 0, .tup [.own 3 0 false, .dat 0], .dat 1, .dat 0, .dat 2, .own 3 0 false, .tup [.own 3 0 false, .dat 0], .via 32, .dat 0, .dat 0, .tup [.own 3 0 false, .dat 0], .own 3 0 false, .dat 0, .via 38, .dat 1, .dat 0, .dat 0, .dat 0, .dat 0, .dat 0, .dat 0, .dat 0, .via 32, .dat 2, .dat 1, .dat 0, .dat 0, .via 32, .dat 0, .dat 0, .dat 0, .dat 0, .dat 0, .via 38, .dat 1, .dat 0, .dat 0, .dat 0, .dat 0, .dat 0, .dat 0, .dat 0, .dat 0, .via 38, .dat 0, .dat 0, .via 38, .dat 0, .dat 0, .dat 0, .dat 0, .dat 0, .dat 0, .dat 0, .tup [.own 3 0 false, .dat 0], .dat 2, .dat 1, .dat 0, .dat 0, .tup [.own 3 0 false, .dat 0], .dat 1, .dat 0, .dat 1, .dat 1, .dat 0, .dat 0, .dat 0, .dat 0, .dat 0, .dat 0, .dat 0, .via 38, .dat 0, .dat 0, .dat 0, .dat 0, .dat 0, .dat 0, .dat 0], T := [(3, ty3), (4, ty4)], S := [(13, S13), (15, S15), (17, S17), (22, S22), (23, S23), (26, S26), (27, S27)], H := [], res := [.tmp 6], ios := [] }
noncomputable def F8 : List D → Option Out := denF c8 Try.f8
@[reducible] noncomputable def S8 : FS := { pm := [.dat 2, .dat 0, .dat 0], rm := [.dat 0], f := F8 }
theorem M8 : Meets Try.prog 8 S8 := meets_of (P := Try.prog) (c := c8) (fn := Try.f8) (pm := S8.pm) (rm := S8.rm) (by kernel_rfl) (lookCons M13 (lookCons M15 (lookCons M17 (lookCons M22 (lookCons M23 (lookCons M26 (lookCons M27 lookNil))))))) follows_mixed Try.func8 (by kernel_rfl) (by kernel_rfl) rfl
/-- loop.example/g01054/laws.big -/
@[reducible] noncomputable def c28 : Cx := { K := [.dat 2, .dat 2, .no, .no, .dat 0, .dat 2, .dat 0, .dat 0, .dat 0, .dat 2, .dat 0, .dat 2, .dat 0, .dat 0, .dat 0, .dat 0], T := [(3, ty3), (5, ty5), (45, ty45)], S := [], H := [], res := [.tmp 4], ios := [] }
noncomputable def F28 : List D → Option Out := denF c28 Try.f28
@[reducible] noncomputable def S28 : FS := { pm := [.dat 2, .dat 2], rm := [.dat 0], f := F28 }
theorem M28 : Meets Try.prog 28 S28 := meets_of (P := Try.prog) (c := c28) (fn := Try.f28) (pm := S28.pm) (rm := S28.rm) (by kernel_rfl) lookNil follows_mixed Try.func28 (by kernel_rfl) (by kernel_rfl) rfl
/-- (*loop.example/g01054/spec.l1Cur).next -/
@[reducible] noncomputable def c53 : Cx := { K := [.box 3 2 true, .no, .dat 0, .dat 0, .ref 0, .ref 0, .ref 0, .dat 0, .ref 0, .ref 0, .ref 0, .dat 2, .dat 0, .dat 0, .ref 0, .ref 0, .ref 0, .dat 2, .ref 0, .ref 0, .ref 0, .dat 0, .dat 2, .dat 0, .dat 0, .ref 0, .ref 0, .ref 0, .dat 0, .dat 0, .ref 0, .ref 0, .ref 0, .ref 0, .ref 0, .ref 0, .dat 0, .dat 0, .dat 0, .dat 0, .dat 0, .dat 0, .ref 0, .ref 0, .ref 0, .ref 0, .ref 0, .dat 0, .ref 0, .ref 0, .ref 0, .dat 2, .dat 0, .dat 0, .dat 0, .ref 0, .ref 0, .ref 0, .dat 0, .dat 0, .dat 0, .dat 0], T := [(3, ty3), (5, ty5), (45, ty45), (60, ty60), (62, ty62)], S := [], H := [], res := [.tmp 2], ios := [0] }
noncomputable def F53 : List D → Option Out := denF c53 Try.f53
@[reducible] noncomputable def S53 : FS := { pm := [.box 3 2 true], rm := [.dat 0], f := F53 }
theorem M53 : Meets Try.prog 53 S53 := meets_of (P := Try.prog) (c := c53) (fn := Try.f53) (pm := S53.pm) (rm := S53.rm) (by kernel_rfl) lookNil follows_mixed Try.func53 (by kernel_rfl) (by kernel_rfl) rfl
/-- (*loop.example/g01054/spec.l1Cur).pick -/
@[reducible] noncomputable def c50 : Cx := { K := [.box 3 2 true, .dat 0, .no, .no, .dat 0, .dat 0, .dat 0, .dat 0, .ref 0, .dat 0, .dat 0, .dat 0, .dat 0, .dat 0, .ref 0, .dat 0, .dat 0, .dat 0, .dat 0, .dat 0], T := [(3, ty3)], S := [(53, S53)], H := [], res := [.tmp 4], ios := [0] }
noncomputable def F50 : List D → Option Out := denF c50 Try.f50
@[reducible] noncomputable def S50 : FS := { pm := [.box 3 2 true, .dat 0], rm := [.dat 0], f := F50 }
theorem M50 : Meets Try.prog 50 S50 := meets_of (P := Try.prog) (c := c50) (fn := Try.f50) (pm := S50.pm) (rm := S50.rm) (by kernel_rfl) (lookCons M53 lookNil) follows_mixed Try.func50 (by kernel_rfl) (by kernel_rfl) rfl
/-- (*loop.example/g01054/spec.l1Cur).one -/
@[reducible] noncomputable def c52 : Cx := { K := [.box 3 2 true, .dat 0, .no, .no, .dat 0, .ref 0, .dat 0, .dat 0, .dat 0], T := [(3, ty3)], S := [(50, S50)], H := [], res := [.tmp 4], ios := [0] }
noncomputable def F52 : List D → Option Out := denF c52 Try.f52
@[reducible] noncomputable def S52 : FS := { pm := [.box 3 2 true, .dat 0], rm := [.dat 0], f := F52 }
theorem M52 : Meets Try.prog 52 S52 := meets_of (P := Try.prog) (c := c52) (fn := Try.f52) (pm := S52.pm) (rm := S52.rm) (by kernel_rfl) (lookCons M50 lookNil) follows_mixed Try.func52 (by kernel_rfl) (by kernel_rfl) rfl
/-- (*loop.example/g01054/spec.l1Cur).among -/
@[reducible] noncomputable def c49 : Cx := { K := [.box 3 2 true, .dat 2, .no, .no, .dat 0, .dat 2, .ref 0, .dat 2, .dat 0, .dat 0, .dat 2, .dat 0], T := [(3, ty3), (65, ty65)], S := [(50, S50)], H := [], res := [.tmp 4], ios := [0] }
noncomputable def F49 : List D → Option Out := denF c49 Try.f49
@[reducible] noncomputable def S49 : FS := { pm := [.box 3 2 true, .dat 2], rm := [.dat 0], f := F49 }
theorem M49 : Meets Try.prog 49 S49 := meets_of (P := Try.prog) (c := c49) (fn := Try.f49) (pm := S49.pm) (rm := S49.rm) (by kernel_rfl) (lookCons M50 lookNil) follows_mixed Try.func49 (by kernel_rfl) (by kernel_rfl) rfl
/-- (*loop.example/g01054/spec.l1Cur).note -/
@[reducible] noncomputable def c51 : Cx := { K := [.box 3 2 true, .dat 0, .no, .no, .box 3 0 false, .box 3 0 false, .dat 0, .ref 0, .dat 0, .ref 0, .dat 0, .dat 0, .dat 0, .ref 0, .dat 0, .dat 0, .dat 0, .ref 0, .dat 1, .dat 0, .ref 5, .dat 0, .dat 0, .ref 0, .dat 1, .dat 0, .ref 5, .dat 0, .dat 0, .ref 0, .dat 1, .dat 0, .ref 5, .dat 0], T := [(3, ty3), (26, ty26), (65, ty65)], S := [(49, S49), (50, S50)], H := [], res := [.cell 4 26], ios := [0] }
noncomputable def F51 : List D → Option Out := denF c51 Try.f51
@[reducible] noncomputable def S51 : FS := { pm := [.box 3 2 true, .dat 0], rm := [.dat 0], f := F51 }
theorem M51 : Meets Try.prog 51 S51 := meets_of (P := Try.prog) (c := c51) (fn := Try.f51) (pm := S51.pm) (rm := S51.rm) (by kernel_rfl) (lookCons M49 (lookCons M50 lookNil)) follows_mixed Try.func51 (by kernel_rfl) (by kernel_rfl) rfl
/-- (*loop.example/g01054/spec.l1Cur).notes -/
@[reducible] noncomputable def c48 : Cx := { K := [.box 3 2 true, .no, .own 3 0 false, .own 3 0 false, .dat 0, .dat 0, .ref 0, .dat 0, .ref 0, .dat 0, .ref 0, .dat 0, .ref 0, .dat 0, .dat 0, .via 3, .dat 0, .dat 0, .dat 0, .own 3 0 false, .ref 0, .dat 0, .dat 0, .dat 1, .own 3 0 false, .dat 0, .ref 0, .dat 0, .dat 0, .dat 0, .dat 0, .dat 0, .ref 0, .dat 0, .dat 0, .via 3, .dat 0, .dat 0, .ref 3, .ref 3, .own 3 0 false], T := [(3, ty3), (26, ty26), (32, ty32)], S := [(50, S50), (51, S51), (52, S52)], H := [(0, ([0, 3, 4, 5, 32, 33], [0, 3, 5, 32, 33]))], res := [.tmp 2], ios := [0] }
noncomputable def F48 : List D → Option Out := denF c48 Try.f48
@[reducible] noncomputable def S48 : FS := { pm := [.box 3 2 true], rm := [.own 3 0 false], f := F48 }
theorem M48 : Meets Try.prog 48 S48 := meets_of (P := Try.prog) (c := c48) (fn := Try.f48) (pm := S48.pm) (rm := S48.rm) (by kernel_rfl) (lookCons M50 (lookCons M51 (lookCons M52 lookNil))) follows_mixed Try.func48 (by kernel_rfl) (by kernel_rfl) rfl
/-- loop.example/g01054/spec.DrawLeastMetal -/
@[reducible] noncomputable def c29 : Cx := { K := [.dat 2, .no, .own 3 0 false, .dat 0, .ref 7, .dat 2, .dat 2, .box 3 2 false, .ref 7, .own 3 0 false, .ref 7, .ref 7, .dat 1, .dat 0, .dat 1, .dat 0], T := [(3, ty3), (32, ty32), (45, ty45), (60, ty60), (62, ty62), (65, ty65)], S := [(48, S48), (49, S49)], H := [], res := [.tmp 2, .tmp 3], ios := [] }
noncomputable def F29 : List D → Option Out := denF c29 Try.f29
@[reducible] noncomputable def S29 : FS := { pm := [.dat 2], rm := [.own 3 0 false, .dat 0], f := F29 }
theorem M29 : Meets Try.prog 29 S29 := meets_of (P := Try.prog) (c := c29) (fn := Try.f29) (pm := S29.pm) (rm := S29.rm) (by kernel_rfl) (lookCons M48 (lookCons M49 lookNil)) follows_mixed Try.func29 (by kernel_rfl) (by kernel_rfl) rfl
/-- loop.example/g01054/spec.DrawNotesOn -/
@[reducible] noncomputable def c30 : Cx := { K := [.dat 2, .no, .own 3 0 false, .dat 0, .dat 0, .ref 8, .dat 2, .dat 2, .box 3 2 false, .ref 8, .own 3 0 false, .ref 8, .ref 8, .dat 1, .dat 0, .dat 1, .dat 0, .ref 8, .ref 8, .dat 1, .dat 0, .dat 1, .dat 0], T := [(3, ty3), (32, ty32), (45, ty45), (60, ty60), (62, ty62), (65, ty65)], S := [(48, S48), (49, S49)], H := [], res := [.tmp 2, .tmp 3, .tmp 4], ios := [] }
noncomputable def F30 : List D → Option Out := denF c30 Try.f30
@[reducible] noncomputable def S30 : FS := { pm := [.dat 2], rm := [.own 3 0 false, .dat 0, .dat 0], f := F30 }
theorem M30 : Meets Try.prog 30 S30 := meets_of (P := Try.prog) (c := c30) (fn := Try.f30) (pm := S30.pm) (rm := S30.rm) (by kernel_rfl) (lookCons M48 (lookCons M49 lookNil)) follows_mixed Try.func30 (by kernel_rfl) (by kernel_rfl) rfl
/-- loop.example/g01054/spec.DrawMetalAfter -/
@[reducible] noncomputable def c31 : Cx := { K := [.dat 2, .no, .own 3 0 false, .dat 0, .dat 0, .ref 8, .dat 2, .dat 2, .box 3 2 false, .ref 8, .own 3 0 false, .ref 8, .ref 8, .dat 1, .dat 0, .dat 1, .dat 0, .ref 8, .ref 8, .dat 1, .dat 0, .dat 1, .dat 0], T := [(3, ty3), (32, ty32), (45, ty45), (60, ty60), (62, ty62), (65, ty65)], S := [(48, S48), (49, S49)], H := [], res := [.tmp 2, .tmp 3, .tmp 4], ios := [] }
noncomputable def F31 : List D → Option Out := denF c31 Try.f31
@[reducible] noncomputable def S31 : FS := { pm := [.dat 2], rm := [.own 3 0 false, .dat 0, .dat 0], f := F31 }
theorem M31 : Meets Try.prog 31 S31 := meets_of (P := Try.prog) (c := c31) (fn := Try.f31) (pm := S31.pm) (rm := S31.rm) (by kernel_rfl) (lookCons M48 (lookCons M49 lookNil)) follows_mixed Try.func31 (by kernel_rfl) (by kernel_rfl) rfl
/-- loop.example/g01054/laws.pSameNotes -/
@[reducible] noncomputable def c32 : Cx := { K := [.dat 2, .dat 2, .no, .no, .dat 0, .dat 0, .dat 2, .dat 0, .dat 2, .dat 0, .dat 0, .dat 2, .dat 0, .dat 0, .dat 0, .dat 0, .dat 2, .dat 0, .dat 2, .dat 0, .dat 2, .dat 0, .dat 2, .dat 0, .dat 0, .dat 0], T := [(3, ty3), (26, ty26), (32, ty32)], S := [], H := [(0, ([0, 1, 12, 13], []))], res := [.tmp 4], ios := [] }
noncomputable def F32 : List D → Option Out := denF c32 Try.f32
@[reducible] noncomputable def S32 : FS := { pm := [.dat 2, .dat 2], rm := [.dat 0], f := F32 }
theorem M32 : Meets Try.prog 32 S32 := meets_of (P := Try.prog) (c := c32) (fn := Try.f32) (pm := S32.pm) (rm := S32.rm) (by kernel_rfl) lookNil follows_mixed Try.func32 (by kernel_rfl) (by kernel_rfl) rfl
/-- loop.example/g01054/spec.DrawDropNote -/
@[reducible] noncomputable def c33 : Cx := { K := [.dat 2, .no, .own 3 0 false, .dat 0, .ref 8, .own 3 0 false, .dat 2, .dat 2, .box 3 2 false, .ref 8, .own 3 0 false, .own 3 0 false, .ref 8, .ref 8, .via 5, .dat 0, .dat 0, .dat 0, .via 5, .dat 0, .dat 0, .ref 8, .via 5, .dat 0, .dat 1, .dat 0, .dat 1, .dat 0], T := [(3, ty3), (26, ty26), (32, ty32), (45, ty45), (60, ty60), (62, ty62), (65, ty65)], S := [(48, S48), (49, S49), (50, S50)], H := [], res := [.tmp 2, .tmp 3], ios := [] }
noncomputable def F33 : List D → Option Out := denF c33 Try.f33
@[reducible] noncomputable def S33 : FS := { pm := [.dat 2], rm := [.own 3 0 false, .dat 0], f := F33 }
theorem M33 : Meets Try.prog 33 S33 := meets_of (P := Try.prog) (c := c33) (fn := Try.f33) (pm := S33.pm) (rm := S33.rm) (by kernel_rfl) (lookCons M48 (lookCons M49 (lookCons M50 lookNil))) follows_mixed Try.func33 (by kernel_rfl) (by kernel_rfl) rfl
/-- loop.example/g01054/spec.DrawNoteCheck -/
@[reducible] noncomputable def c34 : Cx := { K := [.dat 2, .no, .dat 0, .box 3 0 false, .ref 7, .dat 2, .dat 2, .box 3 2 false, .ref 7, .ref 7, .dat 0, .ref 7, .dat 1, .dat 0, .dat 1, .dat 0, .ref 7, .ref 7, .dat 0, .dat 0], T := [(3, ty3), (26, ty26), (45, ty45), (60, ty60), (62, ty62), (65, ty65)], S := [(49, S49), (50, S50), (51, S51)], H := [], res := [.tmp 2, .cell 3 26], ios := [] }
noncomputable def F34 : List D → Option Out := denF c34 Try.f34
@[reducible] noncomputable def S34 : FS := { pm := [.dat 2], rm := [.dat 0, .dat 0], f := F34 }
theorem M34 : Meets Try.prog 34 S34 := meets_of (P := Try.prog) (c := c34) (fn := Try.f34) (pm := S34.pm) (rm := S34.rm) (by kernel_rfl) (lookCons M49 (lookCons M50 (lookCons M51 lookNil))) follows_mixed Try.func34 (by kernel_rfl) (by kernel_rfl) rfl
/-- loop.example/g01054/laws.FnMetals -/
@[reducible] noncomputable def c9 : Cx := { K := [.dat 2, .dat 2, .no, .no, .dat 0, .dat 1, .dat 0, .dat 0, .dat 0, .dat 0, .dat 0, .dat 0, .dat 0, .dat 0, .dat 0, .box 3 0 false, .dat 0, .dat 0, .dat 1, .dat 0, .dat 0, .dat 0, .dat 1, .dat 0, .dat 0, .dat 1, .dat 0, .dat 1, .dat 0, .dat 1, .dat 0, .dat 0, .dat 0, .dat 0, .dat 0, .dat 0, .no, .box 3 0 false, .dat 1, .dat 0, .dat 1, .dat 0, .dat 1, .dat 0, .dat 0, .box 3 0 false, .dat 0, .dat 0, .dat 0, .dat 0, .dat 2, .dat 2, .dat 0, .tup [.own 3 0 false, .dat 0], .dat 2, .tup [.own 3 0 false, .dat 0], .dat 1, .dat 0, .tup [.dat 0, .dat 0, .dat 0], .dat 1, .dat 0, .tup [.dat 0, .dat 0, .dat 0], .dat 0, .dat 0, .dat 0, .tup [.dat 0, .dat 0, .dat 0], .dat 1, .dat 0, .tup [.dat 0, .dat 0, .dat 0], .dat 0, .dat 0, .dat 0, .dat 0, .dat 0, .dat 0, .dat 0, .dat 0, .dat 0, .dat 0, .dat 0, .dat 0, .dat 0, .dat 0, .dat 0, .dat 0, .dat 0, .dat 0, .dat 1, .dat 0, .dat 0, .dat 0, .dat 0, .dat 1, .dat 0, .ref 15, .dat 0, .dat 0, .dat 0, .ref 15, .dat 0, .dat 0, .dat 0, .dat 0, .ref 15, .dat 0, .dat 0, .dat 0, .ref 15, .dat 0, .dat 0, .dat 0, .dat 0, .dat 0, .dat 0, .dat 0, .dat 0, .dat 0, .dat 0, .dat 0, .dat 0, .dat 0, .dat 0, .dat 0, .dat 0, .dat 0, .dat 0, .dat 0, .dat 0, .dat 0, .dat 0, .dat 0, .dat 0, .dat 0, .dat 0, .tup [.dat 0, .dat 0], .dat 1, .dat 0, .tup [.dat 0, .dat 0], .dat 0, .dat 0, .dat 0, .dat 0, .dat 0, .dat 0, .dat 0, .dat 0, .dat 0, .tup [.own 3 0 false, .dat 0], .dat 1, .dat 1, .dat 0, .dat 0, .tup [.own 3 0 false, .dat 0], .dat 1, .dat 0, .tup [.dat 0, .dat 0], .dat 1, .dat 0, .tup [.dat 0, .dat 0], .dat 0, .dat 0, .dat 0, .dat 0, .dat 0, .dat 0, .dat 0, .dat 0, .dat 0, .dat 1, .dat 0, .dat 1, .dat 0, .dat 0, .dat 0, .dat 0, .dat 0, .dat 0, .dat 0, .dat 0, .dat 0, .tup [.own 3 0 false, .dat 0, .dat 0], .dat 2, .tup [.own 3 0 false, .dat 0, .dat 0], .dat 1, .dat 0, .dat 0, .tup [.own 3 0 false, .dat 0], .dat 1, .dat 0, .dat 0, .tup [.own 3 0 false, .dat 0], .dat 1, .dat 0, .tup [.own 3 0 false, .dat 0], .dat 1, .dat 0, .dat 0, .tup [.own 3 0 false, .dat 0], .dat 1, .dat 0, .tup [.own 3 0 false, .dat 0, .dat 0], .dat 2, .tup [.own 3 0 false, .dat 0, .dat 0], .dat 1, .dat 0, .dat 0, .tup [.dat 0, .dat 0], .dat 1, .dat 0, .dat 0, .tup [.dat 0, .dat 0], .dat 0, .dat 0, .tup [.dat 0, .dat 0], .dat 1, .dat 0, .dat 0, .tup [.dat 0, .dat 0], .dat 0, .dat 0, .dat 0, .dat 0, .dat 0, .dat 0, .dat 1, .dat 1, .dat 0, .dat 0, .dat 0, .dat 0, .dat 0, .dat 0, .dat 0, .dat 0, .dat 0, .dat 0, .dat 0, .dat 0, .dat 0, .dat 1, .dat 0, .dat 0, .dat 0, .dat 1, .dat 0, .ref 37, .dat 0, .dat 0, .dat 0, .dat 0, .ref 37, .dat 0, .dat 0, .dat 0, .dat 0, .dat 0, .tup [.own 3 0 false, .dat 0], .dat 2, .tup [.own 3 0 false, .dat 0], .dat 1, .dat 0, .tup [.own 3 0 false, .dat 0], .dat 1, .dat 0, .tup [.own 3 0 false, .dat 0], .dat 1, .dat 0, .tup [.own 3 0 false, .dat 0], .dat 1, .dat 0, .tup [.own 3 0 false, .dat 0], .dat 1, .dat 0, .tup [.dat 0, .dat 0], .dat 2, .tup [.dat 0, .dat 0], .dat 0, .dat 0, .tup [.dat 0, .dat 0], .dat 0, .dat 0, .tup [.dat 0, .dat 0], .dat 0, .dat 0, .tup [.dat 0, .dat 0], .dat 0, .dat 0, .tup [.dat 0, .dat 0], .dat 0, .dat 0, .dat 0, .dat 0, .dat 0, .dat 0, .dat 1, .dat 1, .dat 0, .dat 0, .dat 0, .dat 0, .dat 0, .dat 0, .dat 0, .dat 0, .dat 0, .dat 0, .dat 0, .dat 0, .dat 0, .dat 0, .dat 0, .dat 0, .dat 0, .dat 0, .dat 0, .dat 0, .dat 0, .dat 0, .dat 0, .dat 0], T := [(3, ty3), (4, ty4), (26, ty26), (32, ty32)], S := [(10, S10), (12, S12), (18, S18), (19, S19), (20, S20), (21, S21), (24, S24), (25, S25), (26, S26), (27, S27), (28, S28), (29, S29), (30, S30), (31, S31), (32, S32), (33, S33), (34, S34)], H := [(0, ([1, 5, 6, 10, 11, 13, 15, 37, 87, 88, 89, 98, 99, 100, 114, 115, 116, 117, 118, 119, 120, 121, 124, 125, 126, 127, 128, 129, 130, 131, 143, 144, 145, 164, 165, 168, 169, 170, 171, 172, 173, 176, 177, 178, 224, 225, 226, 227, 230, 231, 232, 235, 236, 237, 250, 251, 252, 253, 294, 295, 296, 299, 300, 301, 304, 305, 306, 309, 310, 311, 312, 313, 314, 315, 316, 317, 318], [1, 5, 6, 13, 37, 143, 144, 145, 164, 165, 168, 169, 170, 171, 172, 173, 176, 177, 178, 224, 225, 226, 227, 230, 231, 232, 235, 236, 237, 250, 251, 252, 253, 294, 295, 296, 299, 300, 301, 304, 305, 306, 309, 310, 311, 312, 313, 314, 315, 316, 317, 318])), (2, ([1, 23, 24, 37, 239, 240, 241, 250, 251, 252, 253, 294, 295, 296, 299, 300, 301, 304, 305, 306, 309, 310, 311, 312, 313, 314, 315, 316, 317, 318], [1, 294, 295, 296, 299, 300, 301, 304, 305, 306, 309, 310, 311, 312, 313, 314, 315, 316, 317, 318]))], res := [.tmp 4], ios := [] }
noncomputable def F9 : List D → Option Out := denF c9 Try.f9
@[reducible] noncomputable def S9 : FS := { pm := [.dat 2, .dat 2], rm := [.dat 0], f := F9 }
theorem M9 : Meets Try.prog 9 S9 := meets_of (P := Try.prog) (c := c9) (fn := Try.f9) (pm := S9.pm) (rm := S9.rm) (by kernel_rfl) (lookCons M10 (lookCons M12 (lookCons M18 (lookCons M19 (lookCons M20 (lookCons M21 (lookCons M24 (lookCons M25 (lookCons M26 (lookCons M27 (lookCons M28 (lookCons M29 (lookCons M30 (lookCons M31 (lookCons M32 (lookCons M33 (lookCons M34 lookNil))))))))))))))))) follows_mixed Try.func9 (by kernel_rfl) (by kernel_rfl) rfl
end Go.Proofs.Ytkhggkbmjdopcaa
