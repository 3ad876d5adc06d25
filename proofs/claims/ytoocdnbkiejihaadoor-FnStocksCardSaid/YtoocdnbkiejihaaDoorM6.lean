/-
  Contexts and contracts of functions, printed by gen.py.
-/
import Derived.Test.YtoocdnbkiejihaaDoorRows
import Derived.Test.YtoocdnbkiejihaaDoorTie
import Derived.Test.YtoocdnbkiejihaaDoorCards
import Derived.Test.YtoocdnbkiejihaaDoorM5
namespace Go.Proofs.YtoocdnbkiejihaaDoor
open Go.V
set_option maxRecDepth 100000
@[reducible] def ty3 : TI := { n := 1, zero := [.v (.int .i64 0)], ik := some .i64 }
@[reducible] def ty5 : TI := { n := 1, zero := [.v (.int .u8 0)], ik := some .u8 }
@[reducible] def ty9 : TI := { n := 1, zero := [.v (.string ⟨#[]⟩)], str := true }
@[reducible] def ty22 : TI := { n := 1, zero := [.arr 1 []], elem := 5, ez := 1, eb := 1 }
@[reducible] def ty24 : TI := { n := 1, zero := [.arr 2 []], elem := 44, ez := 2, eb := 16 }
@[reducible] def ty36 : TI := { n := 1, zero := [.arr 1 []], elem := 3, ez := 1, eb := 8 }
@[reducible] def ty39 : TI := { n := 1, zero := [.arr 1 []], elem := 36, ez := 1, eb := 24 }
@[reducible] def ty44 : TI := { agg := true, n := 2, zero := [.v (.int .i64 0), .v (.int .i64 0)], fs := [(0, 3), (1, 3)], eq := [1, 1] }
@[reducible] def ty52 : TI := { n := 1, zero := [.arr 1 []], elem := 9, ez := 1, eb := 16 }
@[reducible] def ty70 : TI := { n := 1, zero := [.v (.int .u64 0)], ik := some .u64 }
@[reducible] def ty72 : TI := { agg := true, n := 3, zero := [.arr 1 [], .v (.int .i64 0), .v (.int .u64 0)], fs := [(0, 22), (1, 3), (2, 70)] }
@[reducible] def ty102 : TI := { n := 1, zero := [.v .nilIface], ifc := true }
/-- (*loop.example/g01054/spec.l1Cur).next -/
@[reducible] noncomputable def c_spec_l1Cur_next : Cx := { K := [.box 3 2 true, .no, .dat 0, .dat 0, .ref 0, .ref 0, .ref 0, .dat 0, .ref 0, .ref 0, .ref 0, .dat 2, .dat 0, .dat 0, .ref 0, .ref 0, .ref 0, .dat 2, .ref 0, .ref 0, .ref 0, .dat 0, .dat 2, .dat 0, .dat 0, .ref 0, .ref 0, .ref 0, .dat 0, .dat 0, .ref 0, .ref 0, .ref 0, .ref 0, .ref 0, .ref 0, .dat 0, .dat 0, .dat 0, .dat 0, .dat 0, .dat 0, .ref 0, .ref 0, .ref 0, .ref 0, .ref 0, .dat 0, .ref 0, .ref 0, .ref 0, .dat 2, .dat 0, .dat 0, .dat 0, .ref 0, .ref 0, .ref 0, .dat 0, .dat 0, .dat 0, .dat 0], T := [(3, ty3), (5, ty5), (22, ty22), (70, ty70), (72, ty72)], S := [], H := [], res := [.tmp 2], ios := [0], G := gl0 }
noncomputable def F_spec_l1Cur_next : List D → Option Out := denF c_spec_l1Cur_next Tryd.f79
@[reducible] noncomputable def S_spec_l1Cur_next : FS := { pm := [.box 3 2 true], rm := [.dat 0], f := F_spec_l1Cur_next }
theorem M_spec_l1Cur_next : Meets gl0 Tryd.prog 79 S_spec_l1Cur_next := meets_of (P := Tryd.prog) (c := c_spec_l1Cur_next) (fn := Tryd.f79) (pm := S_spec_l1Cur_next.pm) (rm := S_spec_l1Cur_next.rm) (by kernel_rfl) lookNil follows_mixed Tryd.func79 (by kernel_rfl) (by kernel_rfl) rfl
/-- (*loop.example/g01054/spec.l1Cur).pick -/
@[reducible] noncomputable def c_spec_l1Cur_pick : Cx := { K := [.box 3 2 true, .dat 0, .no, .no, .dat 0, .dat 0, .dat 0, .dat 0, .ref 0, .dat 0, .dat 0, .dat 0, .dat 0, .dat 0, .ref 0, .dat 0, .dat 0, .dat 0, .dat 0, .dat 0], T := [(3, ty3)], S := [(79, S_spec_l1Cur_next)], H := [], res := [.tmp 4], ios := [0], G := gl0 }
noncomputable def F_spec_l1Cur_pick : List D → Option Out := denF c_spec_l1Cur_pick Tryd.f46
@[reducible] noncomputable def S_spec_l1Cur_pick : FS := { pm := [.box 3 2 true, .dat 0], rm := [.dat 0], f := F_spec_l1Cur_pick }
theorem M_spec_l1Cur_pick : Meets gl0 Tryd.prog 46 S_spec_l1Cur_pick := meets_of (P := Tryd.prog) (c := c_spec_l1Cur_pick) (fn := Tryd.f46) (pm := S_spec_l1Cur_pick.pm) (rm := S_spec_l1Cur_pick.rm) (by kernel_rfl) (lookCons M_spec_l1Cur_next lookNil) follows_mixed Tryd.func46 (by kernel_rfl) (by kernel_rfl) rfl
/-- (*loop.example/g01054/spec.l1Cur).among -/
@[reducible] noncomputable def c_spec_l1Cur_among : Cx := { K := [.box 3 2 true, .dat 2, .no, .no, .dat 0, .dat 2, .ref 0, .dat 2, .dat 0, .dat 0, .dat 2, .dat 0], T := [(3, ty3), (36, ty36)], S := [(46, S_spec_l1Cur_pick)], H := [], res := [.tmp 4], ios := [0], G := gl0 }
noncomputable def F_spec_l1Cur_among : List D → Option Out := denF c_spec_l1Cur_among Tryd.f45
@[reducible] noncomputable def S_spec_l1Cur_among : FS := { pm := [.box 3 2 true, .dat 2], rm := [.dat 0], f := F_spec_l1Cur_among }
theorem M_spec_l1Cur_among : Meets gl0 Tryd.prog 45 S_spec_l1Cur_among := meets_of (P := Tryd.prog) (c := c_spec_l1Cur_among) (fn := Tryd.f45) (pm := S_spec_l1Cur_among.pm) (rm := S_spec_l1Cur_among.rm) (by kernel_rfl) (lookCons M_spec_l1Cur_pick lookNil) follows_mixed Tryd.func45 (by kernel_rfl) (by kernel_rfl) rfl
/-- loop.example/g01054/spec.ruPut -/
@[reducible] noncomputable def c_spec_ruPut : Cx := { K := [.dat 2, .dat 0, .dat 0, .no, .no, .no, .own 2 0 false, .dat 0, .own 2 0 false, .dat 0, .dat 2, .dat 0, .dat 0, .dat 0, .dat 2, .dat 0, .dat 2, .dat 2, .dat 0, .dat 0, .dat 0, .dat 0, .dat 0, .dat 0, .own 2 0 false, .dat 2, .own 2 0 false, .dat 0, .dat 2, .dat 0, .dat 0, .dat 0, .dat 2, .dat 0, .dat 2, .dat 2, .dat 0, .dat 0, .dat 0, .dat 0, .via 8, .dat 0, .ref 8, .ref 8, .dat 0, .dat 0, .dat 0, .ref 8, .ref 8, .own 2 0 false, .own 2 0 false, .dat 2, .dat 0, .dat 2, .own 2 0 false, .dat 0, .dat 0, .dat 0, .dat 1, .own 2 0 false, .dat 2, .dat 0, .dat 2, .own 2 0 false], T := [(3, ty3), (24, ty24), (44, ty44)], S := [], H := [(0, ([0, 1, 2, 7], [0, 1, 2, 7]))], res := [.tmp 6], ios := [], G := gl0 }
noncomputable def F_spec_ruPut : List D → Option Out := denF c_spec_ruPut Tryd.f53
@[reducible] noncomputable def S_spec_ruPut : FS := { pm := [.dat 2, .dat 0, .dat 0], rm := [.own 2 0 false], f := F_spec_ruPut }
theorem M_spec_ruPut : Meets gl0 Tryd.prog 53 S_spec_ruPut := meets_of (P := Tryd.prog) (c := c_spec_ruPut) (fn := Tryd.f53) (pm := S_spec_ruPut.pm) (rm := S_spec_ruPut.rm) (by kernel_rfl) lookNil follows_mixed Tryd.func53 (by kernel_rfl) (by kernel_rfl) rfl
/-- (*loop.example/g01054/spec.l1Cur).stock -/
@[reducible] noncomputable def c_spec_l1Cur_stock : Cx := { K := [.box 3 2 true, .no, .own 2 0 false, .own 2 0 false, .dat 0, .dat 0, .ref 0, .dat 0, .dat 0, .dat 0, .dat 0, .dat 0, .via 3, .ref 0, .dat 1, .dat 0, .ref 0, .dat 0, .own 2 0 false, .ref 0, .dat 0, .dat 0, .dat 0, .ref 0, .dat 0, .dat 0, .via 3, .dat 0, .dat 0, .dat 0, .via 3, .via 3, .dat 0, .dat 0, .dat 0, .ref 0, .dat 0, .dat 0, .dat 1, .own 2 0 false, .dat 0, .dat 0, .own 2 0 false, .ref 0, .dat 1, .dat 0, .ref 0, .dat 1, .dat 0, .dat 0, .dat 1, .own 2 0 false, .dat 0, .dat 0, .via 3, .dat 0, .dat 0, .via 3, .ref 0, .dat 1, .dat 0, .ref 3, .ref 3, .own 2 0 false], T := [(3, ty3), (24, ty24), (36, ty36), (44, ty44)], S := [(45, S_spec_l1Cur_among), (46, S_spec_l1Cur_pick), (53, S_spec_ruPut)], H := [(0, ([0, 3, 4], [0, 3])), (3, ([0, 3, 5], [0, 3]))], res := [.tmp 2], ios := [0], G := gl0 }
noncomputable def F_spec_l1Cur_stock : List D → Option Out := denF c_spec_l1Cur_stock Tryd.f44
@[reducible] noncomputable def S_spec_l1Cur_stock : FS := { pm := [.box 3 2 true], rm := [.own 2 0 false], f := F_spec_l1Cur_stock }
theorem M_spec_l1Cur_stock : Meets gl0 Tryd.prog 44 S_spec_l1Cur_stock := meets_of (P := Tryd.prog) (c := c_spec_l1Cur_stock) (fn := Tryd.f44) (pm := S_spec_l1Cur_stock.pm) (rm := S_spec_l1Cur_stock.rm) (by kernel_rfl) (lookCons M_spec_l1Cur_among (lookCons M_spec_l1Cur_pick (lookCons M_spec_ruPut lookNil))) follows_mixed Tryd.func44 (by kernel_rfl) (by kernel_rfl) rfl
/-- loop.example/g01054/spec.DrawCutSlip -/
@[reducible] noncomputable def c_spec_DrawCutSlip : Cx := { K := [.dat 2, .no, .dat 1, .dat 0, .dat 0, .ref 9, .dat 1, .dat 2, .dat 2, .box 3 2 false, .ref 9, .dat 1, .dat 1, .ref 9, .ref 9, .dat 1, .dat 0, .dat 0, .dat 0, .dat 1, .dat 0, .dat 0, .ref 9, .dat 1, .dat 0, .dat 1, .dat 0, .dat 1, .dat 0, .ref 9, .ref 9, .dat 1, .dat 0, .dat 1, .dat 0], T := [(3, ty3), (22, ty22), (24, ty24), (36, ty36), (44, ty44), (70, ty70), (72, ty72)], S := [(44, S_spec_l1Cur_stock), (45, S_spec_l1Cur_among), (46, S_spec_l1Cur_pick)], H := [], res := [.tmp 2, .tmp 3, .tmp 4], ios := [], G := gl0 }
noncomputable def F_spec_DrawCutSlip : List D → Option Out := denF c_spec_DrawCutSlip Tryd.f6
@[reducible] noncomputable def S_spec_DrawCutSlip : FS := { pm := [.dat 2], rm := [.dat 1, .dat 0, .dat 0], f := F_spec_DrawCutSlip }
theorem M_spec_DrawCutSlip : Meets gl0 Tryd.prog 6 S_spec_DrawCutSlip := meets_of (P := Tryd.prog) (c := c_spec_DrawCutSlip) (fn := Tryd.f6) (pm := S_spec_DrawCutSlip.pm) (rm := S_spec_DrawCutSlip.rm) (by kernel_rfl) (lookCons M_spec_l1Cur_stock (lookCons M_spec_l1Cur_among (lookCons M_spec_l1Cur_pick lookNil))) follows_mixed Tryd.func6 (by kernel_rfl) (by kernel_rfl) rfl
/-- loop.example/g01054/impl.within -/
@[reducible] noncomputable def c_impl_within : Cx := { K := [.dat 0, .dat 0, .dat 0, .no, .no, .no, .dat 0, .dat 0, .dat 0, .dat 0, .dat 0, .dat 0, .dat 0, .dat 0, .dat 0], T := [(3, ty3)], S := [], H := [], res := [.tmp 6], ios := [], G := gl0 }
noncomputable def F_impl_within : List D → Option Out := denF c_impl_within Tryd.f47
@[reducible] noncomputable def S_impl_within : FS := { pm := [.dat 0, .dat 0, .dat 0], rm := [.dat 0], f := F_impl_within }
theorem M_impl_within : Meets gl0 Tryd.prog 47 S_impl_within := meets_of (P := Tryd.prog) (c := c_impl_within) (fn := Tryd.f47) (pm := S_impl_within.pm) (rm := S_impl_within.rm) (by kernel_rfl) lookNil follows_mixed Tryd.func47 (by kernel_rfl) (by kernel_rfl) rfl
/-- loop.example/g01054/impl.IsStock -/
@[reducible] noncomputable def c_impl_IsStock : Cx := { K := [.dat 2, .no, .dat 0, .dat 0, .box 2 0 false, .dat 2, .dat 0, .dat 0, .dat 0, .dat 0, .dat 2, .dat 0, .ref 4, .dat 0, .dat 0, .dat 0, .dat 0, .ref 4, .dat 0, .dat 0, .dat 0, .dat 0, .dat 0, .dat 0, .dat 0, .dat 0, .dat 2, .dat 0, .dat 0, .dat 2, .dat 2, .dat 0, .ref 4, .dat 0, .dat 0, .dat 0, .dat 0, .dat 0, .dat 2, .dat 0, .dat 0], T := [(3, ty3), (24, ty24), (44, ty44)], S := [(47, S_impl_within)], H := [(0, ([0, 5, 6, 7], [0]))], res := [.tmp 2], ios := [], G := gl0 }
noncomputable def F_impl_IsStock : List D → Option Out := denF c_impl_IsStock Tryd.f11
@[reducible] noncomputable def S_impl_IsStock : FS := { pm := [.dat 2], rm := [.dat 0], f := F_impl_IsStock }
theorem M_impl_IsStock : Meets gl0 Tryd.prog 11 S_impl_IsStock := meets_of (P := Tryd.prog) (c := c_impl_IsStock) (fn := Tryd.f11) (pm := S_impl_IsStock.pm) (rm := S_impl_IsStock.rm) (by kernel_rfl) (lookCons M_impl_within lookNil) follows_mixed Tryd.func11 (by kernel_rfl) (by kernel_rfl) rfl
/-- loop.example/g01054/impl.withPieces -/
@[reducible] noncomputable def c_impl_withPieces : Cx := { K := [.dat 2, .dat 0, .dat 0, .no, .no, .no, .own 2 0 false, .dat 0, .own 2 0 false, .dat 0, .dat 2, .dat 0, .dat 0, .dat 0, .dat 2, .dat 0, .dat 2, .dat 2, .dat 0, .dat 0, .dat 0, .dat 0, .dat 0, .dat 0, .dat 0, .dat 2, .dat 0, .dat 0, .dat 0, .dat 2, .dat 0, .dat 2, .dat 2, .dat 0, .dat 0, .dat 0, .dat 0, .own 2 0 false, .dat 2, .own 2 0 false, .via 8, .dat 0, .ref 8, .ref 8, .dat 0, .dat 0, .dat 0, .ref 8, .ref 8, .own 2 0 false, .own 2 0 false, .dat 2, .dat 0, .dat 2, .own 2 0 false, .dat 0, .dat 0, .dat 0, .dat 1, .own 2 0 false, .dat 2, .dat 0, .dat 2, .own 2 0 false], T := [(3, ty3), (24, ty24), (44, ty44)], S := [], H := [(0, ([0, 1, 2, 7], [0, 1, 2, 7]))], res := [.tmp 6], ios := [], G := gl0 }
noncomputable def F_impl_withPieces : List D → Option Out := denF c_impl_withPieces Tryd.f49
@[reducible] noncomputable def S_impl_withPieces : FS := { pm := [.dat 2, .dat 0, .dat 0], rm := [.own 2 0 false], f := F_impl_withPieces }
theorem M_impl_withPieces : Meets gl0 Tryd.prog 49 S_impl_withPieces := meets_of (P := Tryd.prog) (c := c_impl_withPieces) (fn := Tryd.f49) (pm := S_impl_withPieces.pm) (rm := S_impl_withPieces.rm) (by kernel_rfl) lookNil follows_mixed Tryd.func49 (by kernel_rfl) (by kernel_rfl) rfl
/-- loop.example/g01054/impl.checkedStock -/
@[reducible] noncomputable def c_impl_checkedStock : Cx := { K := [.dat 2, .no, .dat 2, .dat 0, .dat 2, .dat 0, .dat 0, .dat 1, .dat 2], T := [(24, ty24), (44, ty44)], S := [(11, S_impl_IsStock)], H := [], res := [.tmp 2, .tmp 3], ios := [], G := gl0 }
noncomputable def F_impl_checkedStock : List D → Option Out := denF c_impl_checkedStock Tryd.f48
@[reducible] noncomputable def S_impl_checkedStock : FS := { pm := [.dat 2], rm := [.dat 2, .dat 0], f := F_impl_checkedStock }
theorem M_impl_checkedStock : Meets gl0 Tryd.prog 48 S_impl_checkedStock := meets_of (P := Tryd.prog) (c := c_impl_checkedStock) (fn := Tryd.f48) (pm := S_impl_checkedStock.pm) (rm := S_impl_checkedStock.rm) (by kernel_rfl) (lookCons M_impl_IsStock lookNil) follows_mixed Tryd.func48 (by kernel_rfl) (by kernel_rfl) rfl
/-- loop.example/g01054/impl.CutSlip -/
@[reducible] noncomputable def c_impl_CutSlip : Cx := { K := [.dat 2, .dat 0, .dat 0, .no, .no, .no, .dat 2, .dat 0, .via 42, .dat 2, .dat 0, .dat 0, .dat 0, .dat 0, .dat 2, .dat 0, .dat 0, .dat 0, .dat 0, .dat 0, .dat 0, .dat 2, .dat 0, .dat 2, .dat 2, .dat 0, .dat 0, .dat 0, .dat 0, .dat 0, .dat 2, .dat 0, .dat 2, .dat 2, .dat 0, .dat 0, .dat 0, .dat 0, .dat 0, .dat 1, .own 2 0 false, .dat 2, .own 2 0 false, .via 42, .dat 0, .ref 42, .ref 42, .dat 0, .dat 0, .ref 42, .ref 42, .via 42, .dat 0, .dat 1, .dat 2, .dat 0, .dat 2, .dat 2, .dat 0, .dat 0, .dat 0, .dat 1, .tup [.dat 2, .dat 0], .dat 2, .dat 0], T := [(3, ty3), (24, ty24), (44, ty44)], S := [(11, S_impl_IsStock), (47, S_impl_within), (48, S_impl_checkedStock), (49, S_impl_withPieces)], H := [], res := [.tmp 6, .tmp 7], ios := [], G := gl0 }
noncomputable def F_impl_CutSlip : List D → Option Out := denF c_impl_CutSlip Tryd.f7
@[reducible] noncomputable def S_impl_CutSlip : FS := { pm := [.dat 2, .dat 0, .dat 0], rm := [.dat 2, .dat 0], f := F_impl_CutSlip }
theorem M_impl_CutSlip : Meets gl0 Tryd.prog 7 S_impl_CutSlip := meets_of (P := Tryd.prog) (c := c_impl_CutSlip) (fn := Tryd.f7) (pm := S_impl_CutSlip.pm) (rm := S_impl_CutSlip.rm) (by kernel_rfl) (lookCons M_impl_IsStock (lookCons M_impl_within (lookCons M_impl_checkedStock (lookCons M_impl_withPieces lookNil)))) follows_mixed Tryd.func7 (by kernel_rfl) (by kernel_rfl) rfl
/-- loop.example/g01054/spec.l1In -/
@[reducible] noncomputable def c_spec_l1In : Cx := { K := [.dat 0, .dat 0, .dat 0, .no, .no, .no, .dat 0, .dat 0, .dat 0, .dat 0, .dat 0, .dat 0, .dat 0, .dat 0, .dat 0], T := [(3, ty3)], S := [], H := [], res := [.tmp 6], ios := [], G := gl0 }
noncomputable def F_spec_l1In : List D → Option Out := denF c_spec_l1In Tryd.f51
@[reducible] noncomputable def S_spec_l1In : FS := { pm := [.dat 0, .dat 0, .dat 0], rm := [.dat 0], f := F_spec_l1In }
theorem M_spec_l1In : Meets gl0 Tryd.prog 51 S_spec_l1In := meets_of (P := Tryd.prog) (c := c_spec_l1In) (fn := Tryd.f51) (pm := S_spec_l1In.pm) (rm := S_spec_l1In.rm) (by kernel_rfl) lookNil follows_mixed Tryd.func51 (by kernel_rfl) (by kernel_rfl) rfl
/-- loop.example/g01054/spec.ruSlip -/
@[reducible] noncomputable def c_spec_ruSlip : Cx := { K := [.dat 0, .box 2 0 false, .dat 0, .ref 1, .dat 0, .dat 0, .dat 0, .ref 1, .dat 0, .dat 0, .dat 0], T := [(3, ty3), (44, ty44)], S := [(51, S_spec_l1In)], H := [], res := [.tmp 2], ios := [], G := gl0 }
noncomputable def F_spec_ruSlip : List D → Option Out := denF c_spec_ruSlip Tryd.f80
@[reducible] noncomputable def S_spec_ruSlip : FS := { pm := [.dat 0], rm := [.dat 0], f := F_spec_ruSlip }
theorem M_spec_ruSlip : Meets gl0 Tryd.prog 80 S_spec_ruSlip := meets_of (P := Tryd.prog) (c := c_spec_ruSlip) (fn := Tryd.f80) (pm := S_spec_ruSlip.pm) (rm := S_spec_ruSlip.rm) (by kernel_rfl) (lookCons M_spec_l1In lookNil) follows_mixed Tryd.func80 (by kernel_rfl) (by kernel_rfl) rfl
/-- loop.example/g01054/spec.ruGood -/
@[reducible] noncomputable def c_spec_ruGood : Cx := { K := [.dat 2, .no, .dat 0, .dat 0, .box 2 0 false, .dat 2, .dat 0, .dat 0, .dat 0, .dat 0, .dat 2, .dat 0, .dat 0, .dat 0, .dat 0, .dat 0, .dat 0, .dat 0, .dat 0, .dat 2, .dat 0, .dat 0, .dat 2, .dat 2, .dat 0, .ref 4, .dat 0, .dat 0, .dat 0, .dat 0, .dat 0, .dat 2, .dat 0, .dat 0], T := [(3, ty3), (24, ty24), (44, ty44)], S := [(80, S_spec_ruSlip)], H := [(0, ([0, 5, 6, 7], [0]))], res := [.tmp 2], ios := [], G := gl0 }
noncomputable def F_spec_ruGood : List D → Option Out := denF c_spec_ruGood Tryd.f50
@[reducible] noncomputable def S_spec_ruGood : FS := { pm := [.dat 2], rm := [.dat 0], f := F_spec_ruGood }
theorem M_spec_ruGood : Meets gl0 Tryd.prog 50 S_spec_ruGood := meets_of (P := Tryd.prog) (c := c_spec_ruGood) (fn := Tryd.f50) (pm := S_spec_ruGood.pm) (rm := S_spec_ruGood.rm) (by kernel_rfl) (lookCons M_spec_ruSlip lookNil) follows_mixed Tryd.func50 (by kernel_rfl) (by kernel_rfl) rfl
/-- loop.example/g01054/spec.ruIf -/
@[reducible] noncomputable def c_spec_ruIf : Cx := { K := [.dat 2, .no, .dat 2, .dat 0, .dat 2, .dat 0, .dat 0, .dat 2], T := [(24, ty24)], S := [(50, S_spec_ruGood)], H := [], res := [.tmp 2, .tmp 3], ios := [], G := gl0 }
noncomputable def F_spec_ruIf : List D → Option Out := denF c_spec_ruIf Tryd.f52
@[reducible] noncomputable def S_spec_ruIf : FS := { pm := [.dat 2], rm := [.dat 2, .dat 0], f := F_spec_ruIf }
theorem M_spec_ruIf : Meets gl0 Tryd.prog 52 S_spec_ruIf := meets_of (P := Tryd.prog) (c := c_spec_ruIf) (fn := Tryd.f52) (pm := S_spec_ruIf.pm) (rm := S_spec_ruIf.rm) (by kernel_rfl) (lookCons M_spec_ruGood lookNil) follows_mixed Tryd.func52 (by kernel_rfl) (by kernel_rfl) rfl
/-- loop.example/g01054/spec.CutSlip -/
@[reducible] noncomputable def c_spec_CutSlip : Cx := { K := [.dat 2, .dat 0, .dat 0, .no, .no, .no, .dat 2, .dat 0, .via 41, .dat 2, .dat 0, .dat 0, .dat 0, .dat 0, .dat 2, .dat 0, .dat 0, .dat 0, .dat 0, .dat 0, .dat 0, .dat 2, .dat 0, .dat 2, .dat 2, .dat 0, .dat 0, .dat 0, .dat 0, .dat 0, .dat 2, .dat 0, .dat 2, .dat 2, .dat 0, .dat 0, .dat 0, .dat 0, .dat 0, .own 2 0 false, .dat 2, .own 2 0 false, .via 41, .dat 0, .ref 41, .ref 41, .dat 0, .dat 0, .ref 41, .ref 41, .via 41, .dat 0, .dat 1, .dat 2, .dat 0, .dat 2, .dat 2, .dat 0, .dat 0, .dat 0, .dat 1, .tup [.dat 2, .dat 0], .dat 2, .dat 0], T := [(3, ty3), (24, ty24), (44, ty44)], S := [(50, S_spec_ruGood), (51, S_spec_l1In), (52, S_spec_ruIf), (53, S_spec_ruPut)], H := [], res := [.tmp 6, .tmp 7], ios := [], G := gl0 }
noncomputable def F_spec_CutSlip : List D → Option Out := denF c_spec_CutSlip Tryd.f8
@[reducible] noncomputable def S_spec_CutSlip : FS := { pm := [.dat 2, .dat 0, .dat 0], rm := [.dat 2, .dat 0], f := F_spec_CutSlip }
theorem M_spec_CutSlip : Meets gl0 Tryd.prog 8 S_spec_CutSlip := meets_of (P := Tryd.prog) (c := c_spec_CutSlip) (fn := Tryd.f8) (pm := S_spec_CutSlip.pm) (rm := S_spec_CutSlip.rm) (by kernel_rfl) (lookCons M_spec_ruGood (lookCons M_spec_l1In (lookCons M_spec_ruIf (lookCons M_spec_ruPut lookNil)))) follows_mixed Tryd.func8 (by kernel_rfl) (by kernel_rfl) rfl
/-- loop.example/g01054/laws.pSameSlips -/
@[reducible] noncomputable def c_laws_pSameSlips : Cx := { K := [.dat 2, .dat 2, .no, .no, .dat 0, .dat 0, .dat 2, .dat 0, .dat 2, .dat 0, .dat 0, .dat 2, .dat 0, .dat 0, .dat 0, .dat 0, .dat 2, .dat 0, .dat 2, .dat 0, .dat 2, .dat 0, .dat 2, .dat 0, .dat 0, .dat 0], T := [(3, ty3), (24, ty24), (44, ty44)], S := [], H := [(0, ([0, 1, 12, 13], []))], res := [.tmp 4], ios := [], G := gl0 }
noncomputable def F_laws_pSameSlips : List D → Option Out := denF c_laws_pSameSlips Tryd.f9
@[reducible] noncomputable def S_laws_pSameSlips : FS := { pm := [.dat 2, .dat 2], rm := [.dat 0], f := F_laws_pSameSlips }
theorem M_laws_pSameSlips : Meets gl0 Tryd.prog 9 S_laws_pSameSlips := meets_of (P := Tryd.prog) (c := c_laws_pSameSlips) (fn := Tryd.f9) (pm := S_laws_pSameSlips.pm) (rm := S_laws_pSameSlips.rm) (by kernel_rfl) lookNil follows_mixed Tryd.func9 (by kernel_rfl) (by kernel_rfl) rfl
/-- loop.example/g01054/impl.StockLength -/
@[reducible] noncomputable def c_impl_StockLength : Cx := { K := [.dat 2, .no, .dat 0, .dat 0, .dat 0, .no, .box 2 0 false, .dat 2, .dat 0, .dat 0, .dat 2, .dat 0, .dat 0, .dat 0, .dat 2, .dat 0, .dat 0, .ref 6, .dat 0, .ref 6, .dat 0, .dat 0, .dat 0, .dat 0, .dat 0], T := [(3, ty3), (24, ty24), (44, ty44)], S := [(11, S_impl_IsStock)], H := [(0, ([4, 10, 11, 12], [4]))], res := [.tmp 2, .tmp 3], ios := [], G := gl0 }
noncomputable def F_impl_StockLength : List D → Option Out := denF c_impl_StockLength Tryd.f10
@[reducible] noncomputable def S_impl_StockLength : FS := { pm := [.dat 2], rm := [.dat 0, .dat 0], f := F_impl_StockLength }
theorem M_impl_StockLength : Meets gl0 Tryd.prog 10 S_impl_StockLength := meets_of (P := Tryd.prog) (c := c_impl_StockLength) (fn := Tryd.f10) (pm := S_impl_StockLength.pm) (rm := S_impl_StockLength.rm) (by kernel_rfl) (lookCons M_impl_IsStock lookNil) follows_mixed Tryd.func10 (by kernel_rfl) (by kernel_rfl) rfl
/-- loop.example/g01054/spec.DrawJoinStocks -/
@[reducible] noncomputable def c_spec_DrawJoinStocks : Cx := { K := [.dat 2, .no, .own 2 0 false, .own 2 0 false, .ref 7, .dat 2, .dat 2, .box 3 2 false, .ref 7, .own 2 0 false, .ref 7, .own 2 0 false], T := [(3, ty3), (22, ty22), (24, ty24), (70, ty70), (72, ty72)], S := [(44, S_spec_l1Cur_stock)], H := [], res := [.tmp 2, .tmp 3], ios := [], G := gl0 }
noncomputable def F_spec_DrawJoinStocks : List D → Option Out := denF c_spec_DrawJoinStocks Tryd.f12
@[reducible] noncomputable def S_spec_DrawJoinStocks : FS := { pm := [.dat 2], rm := [.own 2 0 false, .own 2 0 false], f := F_spec_DrawJoinStocks }
theorem M_spec_DrawJoinStocks : Meets gl0 Tryd.prog 12 S_spec_DrawJoinStocks := meets_of (P := Tryd.prog) (c := c_spec_DrawJoinStocks) (fn := Tryd.f12) (pm := S_spec_DrawJoinStocks.pm) (rm := S_spec_DrawJoinStocks.rm) (by kernel_rfl) (lookCons M_spec_l1Cur_stock lookNil) follows_mixed Tryd.func12 (by kernel_rfl) (by kernel_rfl) rfl
/-- loop.example/g01054/impl.JoinStocks -/
@[reducible] noncomputable def c_impl_JoinStocks : Cx := { K := [.dat 2, .dat 2, .no, .no, .dat 2, .dat 0, .dat 2, .no, .box 2 0 false, .dat 2, .dat 0, .dat 0, .dat 0, .dat 2, .dat 0, .dat 0, .dat 0, .dat 1, .own 2 0 false, .dat 2, .dat 2, .dat 2, .dat 0, .dat 0, .dat 0, .dat 2, .dat 0, .dat 2, .ref 8, .dat 0, .ref 8, .dat 0, .dat 1, .dat 0, .dat 2, .tup [.dat 2, .dat 0], .dat 2, .dat 0], T := [(3, ty3), (24, ty24), (44, ty44)], S := [(11, S_impl_IsStock), (48, S_impl_checkedStock), (49, S_impl_withPieces)], H := [(0, ([6, 21, 22, 23], [6]))], res := [.tmp 4, .tmp 5], ios := [], G := gl0 }
noncomputable def F_impl_JoinStocks : List D → Option Out := denF c_impl_JoinStocks Tryd.f13
@[reducible] noncomputable def S_impl_JoinStocks : FS := { pm := [.dat 2, .dat 2], rm := [.dat 2, .dat 0], f := F_impl_JoinStocks }
theorem M_impl_JoinStocks : Meets gl0 Tryd.prog 13 S_impl_JoinStocks := meets_of (P := Tryd.prog) (c := c_impl_JoinStocks) (fn := Tryd.f13) (pm := S_impl_JoinStocks.pm) (rm := S_impl_JoinStocks.rm) (by kernel_rfl) (lookCons M_impl_IsStock (lookCons M_impl_checkedStock (lookCons M_impl_withPieces lookNil))) follows_mixed Tryd.func13 (by kernel_rfl) (by kernel_rfl) rfl
/-- loop.example/g01054/spec.JoinStocks -/
@[reducible] noncomputable def c_spec_JoinStocks : Cx := { K := [.dat 2, .dat 2, .no, .no, .dat 2, .dat 0, .dat 2, .no, .box 2 0 false, .dat 2, .dat 0, .dat 0, .dat 0, .dat 2, .dat 0, .dat 0, .dat 0, .own 2 0 false, .dat 2, .dat 2, .dat 2, .dat 0, .dat 0, .dat 0, .dat 2, .dat 0, .dat 2, .ref 8, .dat 0, .ref 8, .dat 0, .dat 1, .dat 0, .dat 2, .tup [.dat 2, .dat 0], .dat 2, .dat 0], T := [(3, ty3), (24, ty24), (44, ty44)], S := [(50, S_spec_ruGood), (52, S_spec_ruIf), (53, S_spec_ruPut)], H := [(0, ([6, 20, 21, 22], [6]))], res := [.tmp 4, .tmp 5], ios := [], G := gl0 }
noncomputable def F_spec_JoinStocks : List D → Option Out := denF c_spec_JoinStocks Tryd.f14
@[reducible] noncomputable def S_spec_JoinStocks : FS := { pm := [.dat 2, .dat 2], rm := [.dat 2, .dat 0], f := F_spec_JoinStocks }
theorem M_spec_JoinStocks : Meets gl0 Tryd.prog 14 S_spec_JoinStocks := meets_of (P := Tryd.prog) (c := c_spec_JoinStocks) (fn := Tryd.f14) (pm := S_spec_JoinStocks.pm) (rm := S_spec_JoinStocks.rm) (by kernel_rfl) (lookCons M_spec_ruGood (lookCons M_spec_ruIf (lookCons M_spec_ruPut lookNil))) follows_mixed Tryd.func14 (by kernel_rfl) (by kernel_rfl) rfl
/-- (*loop.example/g01054/spec.l1Cur).one -/
@[reducible] noncomputable def c_spec_l1Cur_one : Cx := { K := [.box 3 2 true, .dat 0, .no, .no, .dat 0, .ref 0, .dat 0, .dat 0, .dat 0], T := [(3, ty3)], S := [(46, S_spec_l1Cur_pick)], H := [], res := [.tmp 4], ios := [0], G := gl0 }
noncomputable def F_spec_l1Cur_one : List D → Option Out := denF c_spec_l1Cur_one Tryd.f54
@[reducible] noncomputable def S_spec_l1Cur_one : FS := { pm := [.box 3 2 true, .dat 0], rm := [.dat 0], f := F_spec_l1Cur_one }
theorem M_spec_l1Cur_one : Meets gl0 Tryd.prog 54 S_spec_l1Cur_one := meets_of (P := Tryd.prog) (c := c_spec_l1Cur_one) (fn := Tryd.f54) (pm := S_spec_l1Cur_one.pm) (rm := S_spec_l1Cur_one.rm) (by kernel_rfl) (lookCons M_spec_l1Cur_pick lookNil) follows_mixed Tryd.func54 (by kernel_rfl) (by kernel_rfl) rfl
/-- (*loop.example/g01054/spec.l1Cur).ruleLength -/
@[reducible] noncomputable def c_spec_l1Cur_ruleLength : Cx := { K := [.box 3 2 true, .no, .dat 0, .ref 0, .ref 0, .dat 0, .dat 0, .ref 0, .dat 0, .dat 0, .ref 0, .dat 1, .dat 0, .dat 1, .dat 0], T := [(3, ty3), (36, ty36)], S := [(45, S_spec_l1Cur_among), (46, S_spec_l1Cur_pick)], H := [], res := [.tmp 2], ios := [0], G := gl0 }
noncomputable def F_spec_l1Cur_ruleLength : List D → Option Out := denF c_spec_l1Cur_ruleLength Tryd.f55
@[reducible] noncomputable def S_spec_l1Cur_ruleLength : FS := { pm := [.box 3 2 true], rm := [.dat 0], f := F_spec_l1Cur_ruleLength }
theorem M_spec_l1Cur_ruleLength : Meets gl0 Tryd.prog 55 S_spec_l1Cur_ruleLength := meets_of (P := Tryd.prog) (c := c_spec_l1Cur_ruleLength) (fn := Tryd.f55) (pm := S_spec_l1Cur_ruleLength.pm) (rm := S_spec_l1Cur_ruleLength.rm) (by kernel_rfl) (lookCons M_spec_l1Cur_among (lookCons M_spec_l1Cur_pick lookNil)) follows_mixed Tryd.func55 (by kernel_rfl) (by kernel_rfl) rfl
/-- loop.example/g01054/spec.DrawRulesOf -/
@[reducible] noncomputable def c_spec_DrawRulesOf : Cx := { K := [.dat 2, .no, .own 2 0 false, .own 1 0 false, .ref 10, .own 2 0 false, .own 1 0 false, .dat 0, .dat 2, .dat 2, .box 3 2 false, .ref 10, .own 2 0 false, .ref 10, .dat 0, .ref 10, .dat 0, .ref 10, .dat 0, .dat 0, .via 6, .dat 0, .dat 0, .dat 0, .own 1 0 false, .ref 10, .ref 10, .dat 0, .dat 1, .dat 0, .dat 1, .own 1 0 false, .own 2 0 false, .own 1 0 false], T := [(3, ty3), (22, ty22), (24, ty24), (36, ty36), (70, ty70), (72, ty72)], S := [(44, S_spec_l1Cur_stock), (45, S_spec_l1Cur_among), (46, S_spec_l1Cur_pick), (54, S_spec_l1Cur_one), (55, S_spec_l1Cur_ruleLength)], H := [(0, ([4, 5, 6, 7, 10], [5, 6]))], res := [.tmp 2, .tmp 3], ios := [], G := gl0 }
noncomputable def F_spec_DrawRulesOf : List D → Option Out := denF c_spec_DrawRulesOf Tryd.f15
@[reducible] noncomputable def S_spec_DrawRulesOf : FS := { pm := [.dat 2], rm := [.own 2 0 false, .own 1 0 false], f := F_spec_DrawRulesOf }
theorem M_spec_DrawRulesOf : Meets gl0 Tryd.prog 15 S_spec_DrawRulesOf := meets_of (P := Tryd.prog) (c := c_spec_DrawRulesOf) (fn := Tryd.f15) (pm := S_spec_DrawRulesOf.pm) (rm := S_spec_DrawRulesOf.rm) (by kernel_rfl) (lookCons M_spec_l1Cur_stock (lookCons M_spec_l1Cur_among (lookCons M_spec_l1Cur_pick (lookCons M_spec_l1Cur_one (lookCons M_spec_l1Cur_ruleLength lookNil))))) follows_mixed Tryd.func15 (by kernel_rfl) (by kernel_rfl) rfl
/-- loop.example/g01054/impl.isRuleLength -/
@[reducible] noncomputable def c_impl_isRuleLength : Cx := { K := [.dat 0, .no, .dat 0, .dat 0, .dat 0], T := [], S := [(47, S_impl_within)], H := [], res := [.tmp 2], ios := [], G := gl0 }
noncomputable def F_impl_isRuleLength : List D → Option Out := denF c_impl_isRuleLength Tryd.f56
@[reducible] noncomputable def S_impl_isRuleLength : FS := { pm := [.dat 0], rm := [.dat 0], f := F_impl_isRuleLength }
theorem M_impl_isRuleLength : Meets gl0 Tryd.prog 56 S_impl_isRuleLength := meets_of (P := Tryd.prog) (c := c_impl_isRuleLength) (fn := Tryd.f56) (pm := S_impl_isRuleLength.pm) (rm := S_impl_isRuleLength.rm) (by kernel_rfl) (lookCons M_impl_within lookNil) follows_mixed Tryd.func56 (by kernel_rfl) (by kernel_rfl) rfl
/-- loop.example/g01054/impl.lengthsOf -/
@[reducible] noncomputable def c_impl_lengthsOf : Cx := { K := [.dat 2, .no, .own 1 0 false, .own 1 0 false, .own 1 0 false, .own 1 0 false, .no, .box 2 0 false, .own 1 0 false, .own 1 0 false, .dat 2, .dat 0, .dat 0, .dat 0, .dat 2, .dat 0, .own 1 0 false, .ref 7, .dat 0, .dat 1, .own 1 0 false, .own 1 0 false, .ref 7, .dat 0, .dat 1, .own 1 0 false, .dat 0, .own 1 0 false, .own 1 0 false], T := [(3, ty3), (24, ty24), (36, ty36), (44, ty44)], S := [], H := [(0, ([4, 5, 10, 11, 12], [4, 5]))], res := [.tmp 2, .tmp 3], ios := [], G := gl0 }
noncomputable def F_impl_lengthsOf : List D → Option Out := denF c_impl_lengthsOf Tryd.f81
@[reducible] noncomputable def S_impl_lengthsOf : FS := { pm := [.dat 2], rm := [.own 1 0 false, .own 1 0 false], f := F_impl_lengthsOf }
theorem M_impl_lengthsOf : Meets gl0 Tryd.prog 81 S_impl_lengthsOf := meets_of (P := Tryd.prog) (c := c_impl_lengthsOf) (fn := Tryd.f81) (pm := S_impl_lengthsOf.pm) (rm := S_impl_lengthsOf.rm) (by kernel_rfl) lookNil follows_mixed Tryd.func81 (by kernel_rfl) (by kernel_rfl) rfl
/-- loop.example/g01054/impl.fewest -/
@[reducible] noncomputable def c_impl_fewest : Cx := { K := [.dat 2, .dat 2, .dat 0, .no, .no, .no, .own 1 1 false, .via 18, .dat 0, .own 1 1 false, .dat 0, .dat 0, .via 38, .dat 0, .dat 0, .dat 0, .dat 0, .dat 0, .own 1 0 false, .dat 0, .dat 0, .dat 0, .dat 0, .dat 0, .via 18, .dat 0, .ref 18, .via 18, .own 1 1 false, .dat 2, .dat 0, .dat 0, .dat 0, .dat 0, .dat 2, .dat 0, .dat 0, .dat 0, .own 1 0 false, .via 38, .dat 0, .dat 0, .dat 0, .dat 0, .via 38, .dat 0, .ref 38, .dat 0, .dat 2, .dat 0, .dat 2, .dat 0, .dat 0, .dat 0, .dat 0, .dat 0, .dat 0, .dat 0, .dat 0, .dat 0, .dat 0, .dat 0, .via 9, .dat 0, .ref 9, .dat 1, .dat 0, .dat 0, .dat 0, .dat 0, .dat 0, .dat 1, .dat 0, .dat 0, .dat 0, .dat 0, .via 38, .dat 0, .ref 38, .dat 0, .dat 0, .dat 0, .dat 0, .dat 0, .dat 0, .via 38, .dat 0, .ref 38, .dat 0, .dat 0, .dat 0, .dat 0, .via 38, .dat 0, .dat 0, .dat 0, .dat 0, .ref 38, .dat 0, .own 1 1 false, .via 38, .dat 1, .own 1 1 false, .dat 0, .own 1 1 false], T := [(3, ty3), (36, ty36), (39, ty39)], S := [], H := [(0, ([0, 1, 2, 7, 8, 18], [0, 1, 2, 7, 18])), (2, ([1, 2, 9, 29, 30, 31], [9])), (4, ([1, 2, 9, 10, 11, 12, 29, 30, 31, 38, 40, 41], [1, 2, 9, 12, 29, 30, 31, 38])), (6, ([1, 2, 9, 10, 11, 12, 13, 14, 29, 30, 31, 38, 40, 41], [1, 2, 9, 10, 11, 12, 29, 30, 31, 38, 40, 41]))], res := [.tmp 6], ios := [], G := gl0 }
@[reducible] def Z_impl_fewest : List (Nat × List Nat) := [(6, [18]), (22, [38])]
noncomputable def F_impl_fewest : List D → Option Out := denFQ c_impl_fewest Z_impl_fewest Tryd.f106
@[reducible] noncomputable def S_impl_fewest : FS := { pm := [.dat 2, .dat 2, .dat 0], rm := [.own 1 1 false], f := F_impl_fewest }
theorem M_impl_fewest : Meets gl0 Tryd.prog 106 S_impl_fewest := meets_ofQ (Z := Z_impl_fewest) (P := Tryd.prog) (c := c_impl_fewest) (fn := Tryd.f106) (pm := S_impl_fewest.pm) (rm := S_impl_fewest.rm) (by kernel_rfl) lookNil follows_mixed Tryd.func106 (by kernel_rfl) (by kernel_rfl) rfl
/-- loop.example/g01054/impl.bestOf -/
@[reducible] noncomputable def c_impl_bestOf : Cx := { K := [.dat 2, .dat 2, .dat 0, .no, .no, .no, .dat 1, .dat 1, .via 27, .dat 0, .dat 0, .dat 0, .dat 2, .dat 2, .dat 0, .dat 1, .dat 1, .dat 2, .dat 0, .dat 1, .dat 1, .dat 0, .dat 1, .dat 0, .dat 0, .dat 2, .dat 0, .own 1 0 false, .dat 2, .dat 0, .dat 0, .dat 0, .dat 0, .dat 0, .dat 0, .dat 2, .dat 0, .dat 2, .dat 0, .dat 0, .dat 2, .dat 0, .dat 2, .dat 0, .dat 0, .dat 0, .dat 0, .dat 0, .dat 0, .dat 0, .dat 1, .dat 0, .dat 1, .dat 1, .dat 0, .dat 0, .dat 2, .dat 0, .dat 2, .dat 0, .dat 0, .dat 0, .dat 1, .dat 0, .dat 0, .dat 0, .dat 0, .dat 0, .dat 0, .dat 0, .dat 1, .dat 0, .dat 0, .dat 1, .dat 1, .dat 0, .dat 1, .dat 0, .dat 0, .dat 0, .via 27, .dat 0, .dat 0, .ref 27, .dat 0, .dat 0, .dat 2, .dat 0, .dat 2, .dat 0, .dat 0, .dat 0, .via 27], T := [(3, ty3), (36, ty36), (39, ty39)], S := [(106, S_impl_fewest)], H := [(0, ([0, 1, 2, 7, 8, 9, 27], [8, 27])), (2, ([0, 1, 2, 7, 8, 9, 10, 27], [0, 1, 2, 7, 8, 9, 27]))], res := [.tmp 6], ios := [], G := gl0, N := [6] }
@[reducible] def Z_impl_bestOf : List (Nat × List Nat) := [(15, [27])]
noncomputable def F_impl_bestOf : List D → Option Out := denFQ c_impl_bestOf Z_impl_bestOf Tryd.f82
@[reducible] noncomputable def S_impl_bestOf : FS := { pm := [.dat 2, .dat 2, .dat 0], rm := [.dat 1], f := F_impl_bestOf }
theorem M_impl_bestOf : Meets gl0 Tryd.prog 82 S_impl_bestOf := meets_ofQ (Z := Z_impl_bestOf) (P := Tryd.prog) (c := c_impl_bestOf) (fn := Tryd.f82) (pm := S_impl_bestOf.pm) (rm := S_impl_bestOf.rm) (by kernel_rfl) (lookCons M_impl_fewest lookNil) follows_mixed Tryd.func82 (by kernel_rfl) (by kernel_rfl) rfl
/-- loop.example/g01054/impl.ruleOf -/
@[reducible] noncomputable def c_impl_ruleOf : Cx := { K := [.dat 2, .dat 0, .no, .no, .dat 1, .dat 1, .dat 1, .tup [.own 1 0 false, .own 1 0 false], .dat 2, .tup [.own 1 0 false, .own 1 0 false], .dat 1, .dat 1, .dat 1, .dat 1, .dat 0, .dat 1], T := [(36, ty36)], S := [(81, S_impl_lengthsOf), (82, S_impl_bestOf)], H := [], res := [.tmp 4], ios := [], G := gl0, N := [4, 15] }
noncomputable def F_impl_ruleOf : List D → Option Out := denF c_impl_ruleOf Tryd.f57
@[reducible] noncomputable def S_impl_ruleOf : FS := { pm := [.dat 2, .dat 0], rm := [.dat 1], f := F_impl_ruleOf }
theorem M_impl_ruleOf : Meets gl0 Tryd.prog 57 S_impl_ruleOf := meets_of (P := Tryd.prog) (c := c_impl_ruleOf) (fn := Tryd.f57) (pm := S_impl_ruleOf.pm) (rm := S_impl_ruleOf.rm) (by kernel_rfl) (lookCons M_impl_lengthsOf (lookCons M_impl_bestOf lookNil)) follows_mixed Tryd.func57 (by kernel_rfl) (by kernel_rfl) rfl
/-- loop.example/g01054/impl.rest -/
@[reducible] noncomputable def c_impl_rest : Cx := { K := [.dat 2, .dat 2, .no, .no, .own 2 0 false, .own 2 0 false, .dat 0, .dat 0, .own 2 0 false, .dat 2, .own 2 0 false, .dat 2, .dat 0, .dat 0, .dat 0, .dat 0, .dat 2, .dat 0, .via 5, .dat 0, .ref 5, .ref 5, .dat 0, .dat 0, .dat 0, .ref 5, .ref 5, .dat 0, .own 2 0 false], T := [(3, ty3), (24, ty24), (36, ty36), (44, ty44)], S := [], H := [(0, ([5, 11, 12, 13], [5]))], res := [.tmp 4], ios := [], G := gl0 }
noncomputable def F_impl_rest : List D → Option Out := denF c_impl_rest Tryd.f58
@[reducible] noncomputable def S_impl_rest : FS := { pm := [.dat 2, .dat 2], rm := [.own 2 0 false], f := F_impl_rest }
theorem M_impl_rest : Meets gl0 Tryd.prog 58 S_impl_rest := meets_of (P := Tryd.prog) (c := c_impl_rest) (fn := Tryd.f58) (pm := S_impl_rest.pm) (rm := S_impl_rest.rm) (by kernel_rfl) lookNil follows_mixed Tryd.func58 (by kernel_rfl) (by kernel_rfl) rfl
/-- loop.example/g01054/impl.RulesOf -/
@[reducible] noncomputable def c_impl_RulesOf : Cx := { K := [.dat 2, .dat 2, .no, .no, .own 1 1 false, .dat 0, .no, .dat 0, .dat 2, .own 1 1 false, .no, .dat 0, .dat 1, .dat 2, .dat 0, .dat 0, .dat 0, .dat 2, .dat 0, .dat 0, .dat 0, .own 1 1 false, .dat 2, .dat 0, .dat 0, .dat 0, .dat 2, .dat 0, .dat 0, .dat 0, .dat 0, .own 1 1 false, .dat 0, .dat 2, .own 1 1 false, .dat 2, .dat 0, .dat 0, .dat 0, .dat 2, .dat 0, .dat 2, .dat 0, .dat 1, .dat 1, .dat 0, .own 1 1 false, .dat 2, .dat 1, .dat 1, .own 1 1 false, .dat 1, .dat 1, .own 1 1 false, .dat 0, .own 1 1 false], T := [(3, ty3), (36, ty36), (39, ty39)], S := [(11, S_impl_IsStock), (56, S_impl_isRuleLength), (57, S_impl_ruleOf), (58, S_impl_rest)], H := [(0, ([0, 1, 22, 23, 24], [0, 1])), (2, ([8, 9, 35, 36, 37], [9]))], res := [.tmp 4, .tmp 5], ios := [], G := gl0, N := [12, 43, 44, 48, 51] }
noncomputable def F_impl_RulesOf : List D → Option Out := denF c_impl_RulesOf Tryd.f16
@[reducible] noncomputable def S_impl_RulesOf : FS := { pm := [.dat 2, .dat 2], rm := [.own 1 1 false, .dat 0], f := F_impl_RulesOf }
theorem M_impl_RulesOf : Meets gl0 Tryd.prog 16 S_impl_RulesOf := meets_of (P := Tryd.prog) (c := c_impl_RulesOf) (fn := Tryd.f16) (pm := S_impl_RulesOf.pm) (rm := S_impl_RulesOf.rm) (by kernel_rfl) (lookCons M_impl_IsStock (lookCons M_impl_isRuleLength (lookCons M_impl_ruleOf (lookCons M_impl_rest lookNil)))) follows_mixed Tryd.func16 (by kernel_rfl) (by kernel_rfl) rfl
/-- loop.example/g01054/spec.l1All -/
@[reducible] noncomputable def c_spec_l1All : Cx := { K := [.dat 2, .dat 0, .dat 0, .no, .no, .no, .dat 0, .no, .dat 0, .dat 2, .dat 0, .dat 0, .dat 0, .dat 2, .dat 0, .dat 0, .dat 0, .dat 0, .dat 0, .dat 0, .dat 0], T := [(3, ty3), (36, ty36)], S := [(51, S_spec_l1In)], H := [(0, ([1, 2, 9, 10, 11], []))], res := [.tmp 6], ios := [], G := gl0 }
noncomputable def F_spec_l1All : List D → Option Out := denF c_spec_l1All Tryd.f59
@[reducible] noncomputable def S_spec_l1All : FS := { pm := [.dat 2, .dat 0, .dat 0], rm := [.dat 0], f := F_spec_l1All }
theorem M_spec_l1All : Meets gl0 Tryd.prog 59 S_spec_l1All := meets_of (P := Tryd.prog) (c := c_spec_l1All) (fn := Tryd.f59) (pm := S_spec_l1All.pm) (rm := S_spec_l1All.rm) (by kernel_rfl) (lookCons M_spec_l1In lookNil) follows_mixed Tryd.func59 (by kernel_rfl) (by kernel_rfl) rfl
/-- loop.example/g01054/spec.l1Least -/
@[reducible] noncomputable def c_spec_l1Least : Cx := { K := [.dat 0, .dat 0, .no, .no, .dat 0, .dat 0, .dat 0, .dat 0, .dat 0, .dat 0], T := [(3, ty3)], S := [], H := [], res := [.tmp 4], ios := [], G := gl0 }
noncomputable def F_spec_l1Least : List D → Option Out := denF c_spec_l1Least Tryd.f108
@[reducible] noncomputable def S_spec_l1Least : FS := { pm := [.dat 0, .dat 0], rm := [.dat 0], f := F_spec_l1Least }
theorem M_spec_l1Least : Meets gl0 Tryd.prog 108 S_spec_l1Least := meets_of (P := Tryd.prog) (c := c_spec_l1Least) (fn := Tryd.f108) (pm := S_spec_l1Least.pm) (rm := S_spec_l1Least.rm) (by kernel_rfl) lookNil follows_mixed Tryd.func108 (by kernel_rfl) (by kernel_rfl) rfl
/-- loop.example/g01054/spec.ruTables -/
@[reducible] noncomputable def c_spec_ruTables : Cx := { K := [.dat 2, .dat 0, .no, .no, .own 1 1 false, .own 1 0 false, .dat 0, .own 1 1 false, .dat 0, .box 2 0 false, .own 1 0 false, .dat 0, .dat 0, .dat 0, .dat 0, .dat 0, .dat 0, .dat 0, .dat 0, .own 1 0 false, .dat 1, .own 1 0 false, .via 5, .ref 5, .via 5, .own 1 1 false, .dat 2, .dat 0, .dat 0, .dat 0, .dat 0, .dat 2, .dat 0, .dat 0, .dat 0, .dat 0, .dat 0, .dat 0, .dat 0, .ref 9, .dat 0, .dat 0, .dat 0, .dat 0, .ref 9, .dat 0, .dat 0, .dat 0, .dat 0, .dat 0, .dat 0, .dat 0, .dat 0, .via 7, .dat 0, .ref 7, .dat 1, .dat 0, .dat 0, .ref 9, .dat 0, .dat 0, .dat 0, .dat 1, .dat 0, .dat 0, .dat 0, .dat 0, .own 1 0 false, .dat 0, .dat 1, .own 1 0 false, .own 1 1 false, .via 10, .dat 1, .own 1 1 false, .dat 0, .own 1 1 false], T := [(3, ty3), (24, ty24), (36, ty36), (39, ty39), (44, ty44)], S := [(108, S_spec_l1Least)], H := [(0, ([0, 1, 5, 6], [0, 1, 5])), (2, ([1, 7, 26, 27, 28], [7])), (4, ([1, 7, 8, 9, 10, 11, 26, 27, 28], [1, 7, 10, 26, 27, 28])), (6, ([1, 7, 8, 9, 10, 11, 12, 13, 26, 27, 28], [1, 7, 8, 9, 10, 11, 12, 26, 27, 28]))], res := [.tmp 4], ios := [], G := gl0 }
@[reducible] def Z_spec_ruTables : List (Nat × List Nat) := [(7, [5]), (21, [10])]
noncomputable def F_spec_ruTables : List D → Option Out := denFQ c_spec_ruTables Z_spec_ruTables Tryd.f107
@[reducible] noncomputable def S_spec_ruTables : FS := { pm := [.dat 2, .dat 0], rm := [.own 1 1 false], f := F_spec_ruTables }
theorem M_spec_ruTables : Meets gl0 Tryd.prog 107 S_spec_ruTables := meets_ofQ (Z := Z_spec_ruTables) (P := Tryd.prog) (c := c_spec_ruTables) (fn := Tryd.f107) (pm := S_spec_ruTables.pm) (rm := S_spec_ruTables.rm) (by kernel_rfl) (lookCons M_spec_l1Least lookNil) follows_mixed Tryd.func107 (by kernel_rfl) (by kernel_rfl) rfl
/-- loop.example/g01054/spec.ruRule -/
@[reducible] noncomputable def c_spec_ruRule : Cx := { K := [.dat 2, .dat 0, .no, .no, .own 1 0 false, .dat 0, .dat 1, .own 1 0 false, .dat 0, .dat 0, .dat 2, .dat 0, .dat 1, .dat 1, .dat 2, .dat 0, .dat 1, .dat 1, .dat 0, .dat 1, .dat 0, .dat 0, .dat 2, .dat 0, .own 1 0 false, .dat 2, .dat 0, .dat 0, .dat 0, .dat 0, .dat 0, .dat 0, .dat 2, .dat 0, .dat 2, .dat 2, .dat 0, .dat 0, .dat 2, .dat 0, .dat 2, .dat 2, .dat 0, .dat 0, .dat 0, .dat 1, .dat 0, .dat 1, .dat 1, .dat 0, .dat 0, .dat 2, .dat 0, .dat 2, .dat 2, .dat 0, .dat 0, .dat 0, .dat 1, .dat 0, .dat 0, .dat 0, .dat 1, .dat 0, .dat 0, .dat 1, .dat 1, .dat 0, .dat 1, .dat 0, .dat 0, .dat 0, .dat 0, .via 7, .dat 0, .dat 0, .ref 7, .dat 0, .dat 0, .dat 2, .dat 0, .dat 2, .dat 2, .dat 0, .dat 0, .dat 0, .own 1 0 false], T := [(3, ty3), (24, ty24), (36, ty36), (39, ty39), (44, ty44)], S := [(107, S_spec_ruTables), (108, S_spec_l1Least)], H := [(0, ([0, 1, 6, 7, 8], [7])), (2, ([0, 1, 6, 7, 8, 9], [0, 1, 6, 7, 8, 9]))], res := [.tmp 4, .tmp 5], ios := [], G := gl0 }
noncomputable def F_spec_ruRule : List D → Option Out := denF c_spec_ruRule Tryd.f83
@[reducible] noncomputable def S_spec_ruRule : FS := { pm := [.dat 2, .dat 0], rm := [.own 1 0 false, .dat 0], f := F_spec_ruRule }
theorem M_spec_ruRule : Meets gl0 Tryd.prog 83 S_spec_ruRule := meets_of (P := Tryd.prog) (c := c_spec_ruRule) (fn := Tryd.f83) (pm := S_spec_ruRule.pm) (rm := S_spec_ruRule.rm) (by kernel_rfl) (lookCons M_spec_ruTables (lookCons M_spec_l1Least lookNil)) follows_mixed Tryd.func83 (by kernel_rfl) (by kernel_rfl) rfl
/-- loop.example/g01054/spec.ruRest -/
@[reducible] noncomputable def c_spec_ruRest : Cx := { K := [.dat 2, .dat 2, .no, .no, .own 2 0 false, .own 2 0 false, .dat 0, .dat 0, .own 2 0 false, .dat 2, .own 2 0 false, .dat 2, .dat 0, .dat 0, .dat 0, .dat 0, .dat 2, .dat 0, .via 5, .dat 0, .ref 5, .ref 5, .dat 0, .dat 0, .dat 0, .ref 5, .ref 5, .dat 0, .own 2 0 false], T := [(3, ty3), (24, ty24), (36, ty36), (44, ty44)], S := [], H := [(0, ([5, 11, 12, 13], [5]))], res := [.tmp 4], ios := [], G := gl0 }
noncomputable def F_spec_ruRest : List D → Option Out := denF c_spec_ruRest Tryd.f84
@[reducible] noncomputable def S_spec_ruRest : FS := { pm := [.dat 2, .dat 2], rm := [.own 2 0 false], f := F_spec_ruRest }
theorem M_spec_ruRest : Meets gl0 Tryd.prog 84 S_spec_ruRest := meets_of (P := Tryd.prog) (c := c_spec_ruRest) (fn := Tryd.f84) (pm := S_spec_ruRest.pm) (rm := S_spec_ruRest.rm) (by kernel_rfl) lookNil follows_mixed Tryd.func84 (by kernel_rfl) (by kernel_rfl) rfl
/-- loop.example/g01054/spec.ruRules -/
@[reducible] noncomputable def c_spec_ruRules : Cx := { K := [.dat 2, .dat 2, .no, .no, .own 1 1 false, .dat 0, .own 1 1 false, .no, .dat 0, .dat 1, .dat 0, .dat 2, .dat 0, .dat 0, .dat 0, .dat 2, .dat 0, .tup [.own 1 0 false, .dat 0], .dat 2, .dat 0, .tup [.own 1 0 false, .dat 0], .dat 1, .dat 0, .dat 0, .dat 0, .own 1 1 false, .dat 1, .dat 1, .own 1 1 false, .dat 2, .dat 1, .dat 1, .dat 0, .own 1 1 false], T := [(3, ty3), (36, ty36), (39, ty39)], S := [(83, S_spec_ruRule), (84, S_spec_ruRest)], H := [(0, ([0, 6, 11, 12, 13], [6]))], res := [.tmp 4, .tmp 5], ios := [], G := gl0 }
noncomputable def F_spec_ruRules : List D → Option Out := denF c_spec_ruRules Tryd.f60
@[reducible] noncomputable def S_spec_ruRules : FS := { pm := [.dat 2, .dat 2], rm := [.own 1 1 false, .dat 0], f := F_spec_ruRules }
theorem M_spec_ruRules : Meets gl0 Tryd.prog 60 S_spec_ruRules := meets_of (P := Tryd.prog) (c := c_spec_ruRules) (fn := Tryd.f60) (pm := S_spec_ruRules.pm) (rm := S_spec_ruRules.rm) (by kernel_rfl) (lookCons M_spec_ruRule (lookCons M_spec_ruRest lookNil)) follows_mixed Tryd.func60 (by kernel_rfl) (by kernel_rfl) rfl
/-- loop.example/g01054/spec.RulesOf -/
@[reducible] noncomputable def c_spec_RulesOf : Cx := { K := [.dat 2, .dat 2, .no, .no, .own 1 1 false, .dat 0, .dat 2, .dat 0, .dat 0, .dat 0, .dat 2, .dat 0, .dat 0, .dat 0, .dat 0, .dat 2, .dat 0, .dat 0, .dat 0, .dat 2, .dat 2, .tup [.own 1 1 false, .dat 0], .own 1 1 false, .dat 0], T := [(3, ty3), (36, ty36), (39, ty39)], S := [(50, S_spec_ruGood), (59, S_spec_l1All), (60, S_spec_ruRules)], H := [], res := [.tmp 4, .tmp 5], ios := [], G := gl0 }
noncomputable def F_spec_RulesOf : List D → Option Out := denF c_spec_RulesOf Tryd.f17
@[reducible] noncomputable def S_spec_RulesOf : FS := { pm := [.dat 2, .dat 2], rm := [.own 1 1 false, .dat 0], f := F_spec_RulesOf }
theorem M_spec_RulesOf : Meets gl0 Tryd.prog 17 S_spec_RulesOf := meets_of (P := Tryd.prog) (c := c_spec_RulesOf) (fn := Tryd.f17) (pm := S_spec_RulesOf.pm) (rm := S_spec_RulesOf.rm) (by kernel_rfl) (lookCons M_spec_ruGood (lookCons M_spec_l1All (lookCons M_spec_ruRules lookNil))) follows_mixed Tryd.func17 (by kernel_rfl) (by kernel_rfl) rfl
/-- loop.example/g01054/laws.sameInts -/
@[reducible] noncomputable def c_laws_sameInts : Cx := { K := [.dat 2, .dat 2, .no, .no, .dat 0, .dat 0, .dat 2, .dat 0, .dat 2, .dat 0, .dat 0, .dat 2, .dat 0, .dat 0, .dat 0, .dat 0, .dat 2, .dat 0, .dat 2, .dat 0, .dat 2, .dat 0, .dat 2, .dat 0, .dat 0, .dat 0], T := [(3, ty3), (36, ty36)], S := [], H := [(0, ([0, 1, 12, 13], []))], res := [.tmp 4], ios := [], G := gl0 }
noncomputable def F_laws_sameInts : List D → Option Out := denF c_laws_sameInts Tryd.f61
@[reducible] noncomputable def S_laws_sameInts : FS := { pm := [.dat 2, .dat 2], rm := [.dat 0], f := F_laws_sameInts }
theorem M_laws_sameInts : Meets gl0 Tryd.prog 61 S_laws_sameInts := meets_of (P := Tryd.prog) (c := c_laws_sameInts) (fn := Tryd.f61) (pm := S_laws_sameInts.pm) (rm := S_laws_sameInts.rm) (by kernel_rfl) lookNil follows_mixed Tryd.func61 (by kernel_rfl) (by kernel_rfl) rfl
/-- loop.example/g01054/laws.sameLists -/
@[reducible] noncomputable def c_laws_sameLists : Cx := { K := [.dat 2, .dat 2, .no, .no, .dat 0, .dat 0, .dat 2, .dat 0, .dat 2, .dat 0, .dat 0, .dat 2, .dat 0, .dat 0, .dat 0, .dat 0, .dat 2, .dat 0, .dat 2, .dat 2, .dat 2, .dat 0, .dat 2, .dat 2, .dat 0, .dat 0, .dat 0], T := [(3, ty3), (36, ty36), (39, ty39)], S := [(61, S_laws_sameInts)], H := [(0, ([0, 1, 12, 13], []))], res := [.tmp 4], ios := [], G := gl0 }
noncomputable def F_laws_sameLists : List D → Option Out := denF c_laws_sameLists Tryd.f18
@[reducible] noncomputable def S_laws_sameLists : FS := { pm := [.dat 2, .dat 2], rm := [.dat 0], f := F_laws_sameLists }
theorem M_laws_sameLists : Meets gl0 Tryd.prog 18 S_laws_sameLists := meets_of (P := Tryd.prog) (c := c_laws_sameLists) (fn := Tryd.f18) (pm := S_laws_sameLists.pm) (rm := S_laws_sameLists.rm) (by kernel_rfl) (lookCons M_laws_sameInts lookNil) follows_mixed Tryd.func18 (by kernel_rfl) (by kernel_rfl) rfl
/-- loop.example/g01054/spec.DrawFrameOf -/
@[reducible] noncomputable def c_spec_DrawFrameOf : Cx := { K := [.dat 2, .no, .own 2 0 false, .dat 0, .dat 0, .dat 0, .ref 10, .own 2 0 false, .dat 2, .dat 2, .box 3 2 false, .ref 10, .own 2 0 false, .ref 10, .dat 0, .ref 10, .dat 0, .dat 0, .dat 0, .ref 10, .dat 0, .dat 0, .ref 10, .dat 0, .dat 0, .own 2 0 false, .own 2 0 false, .ref 10, .ref 10, .dat 0, .dat 1, .dat 0, .ref 10, .ref 10, .dat 0, .dat 1, .dat 0, .ref 10, .ref 10, .dat 1, .dat 0, .dat 1, .dat 0], T := [(3, ty3), (22, ty22), (24, ty24), (36, ty36), (44, ty44), (70, ty70), (72, ty72)], S := [(44, S_spec_l1Cur_stock), (45, S_spec_l1Cur_among), (46, S_spec_l1Cur_pick), (54, S_spec_l1Cur_one), (55, S_spec_l1Cur_ruleLength)], H := [], res := [.tmp 2, .tmp 3, .tmp 4, .tmp 5], ios := [], G := gl0 }
noncomputable def F_spec_DrawFrameOf : List D → Option Out := denF c_spec_DrawFrameOf Tryd.f19
@[reducible] noncomputable def S_spec_DrawFrameOf : FS := { pm := [.dat 2], rm := [.own 2 0 false, .dat 0, .dat 0, .dat 0], f := F_spec_DrawFrameOf }
theorem M_spec_DrawFrameOf : Meets gl0 Tryd.prog 19 S_spec_DrawFrameOf := meets_of (P := Tryd.prog) (c := c_spec_DrawFrameOf) (fn := Tryd.f19) (pm := S_spec_DrawFrameOf.pm) (rm := S_spec_DrawFrameOf.rm) (by kernel_rfl) (lookCons M_spec_l1Cur_stock (lookCons M_spec_l1Cur_among (lookCons M_spec_l1Cur_pick (lookCons M_spec_l1Cur_one (lookCons M_spec_l1Cur_ruleLength lookNil))))) follows_mixed Tryd.func19 (by kernel_rfl) (by kernel_rfl) rfl
/-- loop.example/g01054/impl.FrameOf -/
@[reducible] noncomputable def c_impl_FrameOf : Cx := { K := [.dat 2, .dat 0, .dat 0, .dat 0, .no, .no, .no, .no, .own 1 1 false, .dat 0, .dat 0, .dat 0, .dat 0, .dat 0, .dat 0, .dat 0, .dat 0, .dat 0, .dat 0, .dat 0, .dat 0, .dat 0, .dat 0, .own 1 1 false, .dat 0, .dat 0, .dat 0, .dat 0, .dat 0, .dat 0, .dat 0, .dat 0, .dat 2, .dat 0, .dat 0, .dat 0, .dat 0, .dat 1, .tup [.own 1 1 false, .dat 0], .own 1 1 false, .dat 0], T := [(3, ty3), (36, ty36), (39, ty39)], S := [(16, S_impl_RulesOf), (47, S_impl_within)], H := [], res := [.tmp 8, .tmp 9], ios := [], G := gl0 }
noncomputable def F_impl_FrameOf : List D → Option Out := denF c_impl_FrameOf Tryd.f20
@[reducible] noncomputable def S_impl_FrameOf : FS := { pm := [.dat 2, .dat 0, .dat 0, .dat 0], rm := [.own 1 1 false, .dat 0], f := F_impl_FrameOf }
theorem M_impl_FrameOf : Meets gl0 Tryd.prog 20 S_impl_FrameOf := meets_of (P := Tryd.prog) (c := c_impl_FrameOf) (fn := Tryd.f20) (pm := S_impl_FrameOf.pm) (rm := S_impl_FrameOf.rm) (by kernel_rfl) (lookCons M_impl_RulesOf (lookCons M_impl_within lookNil)) follows_mixed Tryd.func20 (by kernel_rfl) (by kernel_rfl) rfl
/-- loop.example/g01054/spec.ruLength -/
@[reducible] noncomputable def c_spec_ruLength : Cx := { K := [.dat 0, .no, .dat 0, .dat 0, .dat 0], T := [], S := [(51, S_spec_l1In)], H := [], res := [.tmp 2], ios := [], G := gl0 }
noncomputable def F_spec_ruLength : List D → Option Out := denF c_spec_ruLength Tryd.f62
@[reducible] noncomputable def S_spec_ruLength : FS := { pm := [.dat 0], rm := [.dat 0], f := F_spec_ruLength }
theorem M_spec_ruLength : Meets gl0 Tryd.prog 62 S_spec_ruLength := meets_of (P := Tryd.prog) (c := c_spec_ruLength) (fn := Tryd.f62) (pm := S_spec_ruLength.pm) (rm := S_spec_ruLength.rm) (by kernel_rfl) (lookCons M_spec_l1In lookNil) follows_mixed Tryd.func62 (by kernel_rfl) (by kernel_rfl) rfl
/-- loop.example/g01054/spec.FrameOf -/
@[reducible] noncomputable def c_spec_FrameOf : Cx := { K := [.dat 2, .dat 0, .dat 0, .dat 0, .no, .no, .no, .no, .own 1 1 false, .dat 0, .dat 0, .dat 0, .dat 2, .dat 0, .dat 0, .dat 0, .dat 0, .dat 0, .dat 0, .dat 0, .dat 0, .dat 0, .dat 0, .dat 0, .dat 0, .dat 0, .dat 0, .dat 0, .dat 0, .dat 0, .dat 0, .dat 0, .dat 0, .dat 0, .dat 0, .dat 0, .dat 0, .dat 0, .dat 0, .dat 0, .dat 0, .dat 0, .dat 0, .dat 0, .dat 2, .dat 0, .dat 0, .dat 0, .dat 0, .dat 1, .tup [.own 1 1 false, .dat 0], .own 1 1 false, .dat 0], T := [(3, ty3), (36, ty36), (39, ty39)], S := [(50, S_spec_ruGood), (51, S_spec_l1In), (60, S_spec_ruRules), (62, S_spec_ruLength)], H := [], res := [.tmp 8, .tmp 9], ios := [], G := gl0 }
noncomputable def F_spec_FrameOf : List D → Option Out := denF c_spec_FrameOf Tryd.f21
@[reducible] noncomputable def S_spec_FrameOf : FS := { pm := [.dat 2, .dat 0, .dat 0, .dat 0], rm := [.own 1 1 false, .dat 0], f := F_spec_FrameOf }
theorem M_spec_FrameOf : Meets gl0 Tryd.prog 21 S_spec_FrameOf := meets_of (P := Tryd.prog) (c := c_spec_FrameOf) (fn := Tryd.f21) (pm := S_spec_FrameOf.pm) (rm := S_spec_FrameOf.rm) (by kernel_rfl) (lookCons M_spec_ruGood (lookCons M_spec_l1In (lookCons M_spec_ruRules (lookCons M_spec_ruLength lookNil)))) follows_mixed Tryd.func21 (by kernel_rfl) (by kernel_rfl) rfl
/-- loop.example/g01054/spec.l1Num -/
@[reducible] noncomputable def c_spec_l1Num (k : List D → Option Out) : Cx := { K := [.dat 0, .no, .dat 0, .dat 0, .dat 0, .dat 0, .dat 0, .dat 0, .dat 1, .dat 0, .dat 0, .dat 0, .dat 0, .dat 0, .dat 0, .dat 0, .dat 0, .dat 1, .dat 0, .dat 0], T := [(3, ty3), (5, ty5), (9, ty9), (22, ty22)], S := [(88, { pm := [.dat 0], rm := [.dat 0], f := k })], H := [], res := [.tmp 2], ios := [], G := gl0 }
noncomputable def R_spec_l1Num : Nat → List D → Option Out
  | 0, _ => none
  | n + 1, ds => denF (c_spec_l1Num (R_spec_l1Num n)) Tryd.f88 ds
noncomputable def F_spec_l1Num : List D → Option Out := recF R_spec_l1Num
@[reducible] noncomputable def S_spec_l1Num : FS := { pm := [.dat 0], rm := [.dat 0], f := F_spec_l1Num }
theorem MR_spec_l1Num : ∀ n : Nat, Meets gl0 Tryd.prog 88 { pm := [.dat 0], rm := [.dat 0], f := R_spec_l1Num n }
  | 0 => meets_none (fun _ => rfl)
  | n + 1 => by
    have ih := MR_spec_l1Num n
    exact meets_of (P := Tryd.prog) (c := c_spec_l1Num (R_spec_l1Num n)) (fn := Tryd.f88) (pm := S_spec_l1Num.pm) (rm := S_spec_l1Num.rm) (by kernel_rfl) (lookCons ih lookNil) follows_mixed Tryd.func88 (by kernel_rfl) (by kernel_rfl) rfl
theorem M_spec_l1Num : Meets gl0 Tryd.prog 88 S_spec_l1Num := meets_rec MR_spec_l1Num
/-- loop.example/g01054/spec.ruText -/
@[reducible] noncomputable def c_spec_ruText : Cx := { K := [.dat 2, .no, .dat 0, .dat 0, .no, .box 2 0 false, .dat 2, .dat 0, .dat 0, .dat 0, .dat 2, .dat 0, .dat 0, .ref 5, .dat 0, .dat 0, .dat 0, .ref 5, .dat 0, .dat 0, .dat 0, .dat 0, .dat 0, .dat 0, .dat 0], T := [(3, ty3), (9, ty9), (24, ty24), (44, ty44)], S := [(88, S_spec_l1Num)], H := [(0, ([3, 6, 7, 8], [3]))], res := [.tmp 2], ios := [], G := gl0 }
noncomputable def F_spec_ruText : List D → Option Out := denF c_spec_ruText Tryd.f64
@[reducible] noncomputable def S_spec_ruText : FS := { pm := [.dat 2], rm := [.dat 0], f := F_spec_ruText }
theorem M_spec_ruText : Meets gl0 Tryd.prog 64 S_spec_ruText := meets_of (P := Tryd.prog) (c := c_spec_ruText) (fn := Tryd.f64) (pm := S_spec_ruText.pm) (rm := S_spec_ruText.rm) (by kernel_rfl) (lookCons M_spec_l1Num lookNil) follows_mixed Tryd.func64 (by kernel_rfl) (by kernel_rfl) rfl
/-- loop.example/g01054/spec.StockText -/
@[reducible] noncomputable def c_spec_StockText : Cx := { K := [.dat 2, .no, .dat 0, .dat 0, .dat 2, .dat 0, .dat 0, .dat 2, .dat 0], T := [], S := [(50, S_spec_ruGood), (64, S_spec_ruText)], H := [], res := [.tmp 2, .tmp 3], ios := [], G := gl0 }
noncomputable def F_spec_StockText : List D → Option Out := denF c_spec_StockText Tryd.f23
@[reducible] noncomputable def S_spec_StockText : FS := { pm := [.dat 2], rm := [.dat 0, .dat 0], f := F_spec_StockText }
theorem M_spec_StockText : Meets gl0 Tryd.prog 23 S_spec_StockText := meets_of (P := Tryd.prog) (c := c_spec_StockText) (fn := Tryd.f23) (pm := S_spec_StockText.pm) (rm := S_spec_StockText.rm) (by kernel_rfl) (lookCons M_spec_ruGood (lookCons M_spec_ruText lookNil)) follows_mixed Tryd.func23 (by kernel_rfl) (by kernel_rfl) rfl
/-- (*loop.example/g01054/spec.l1Cur).spoilt -/
@[reducible] noncomputable def c_spec_l1Cur_spoilt : Cx := { K := [.box 3 2 true, .dat 0, .dat 0, .no, .no, .no, .dat 0, .dat 0, .dat 0, .dat 0, .ref 0, .dat 0, .dat 0, .dat 0, .dat 0, .dat 0, .dat 0, .dat 0, .dat 0, .dat 0, .dat 0, .dat 0, .ref 0, .dat 0, .dat 0, .dat 0, .dat 0, .ref 0, .dat 0, .dat 0, .dat 0, .dat 0, .dat 1, .dat 0, .ref 0, .dat 0, .dat 0, .dat 0, .dat 0, .dat 0, .dat 0, .dat 0, .dat 0, .dat 0, .dat 0, .dat 0, .dat 0, .dat 0, .dat 0, .dat 0, .dat 0, .dat 0, .dat 0, .dat 0, .dat 0, .dat 0, .dat 0, .dat 0, .dat 0, .dat 0, .dat 0, .dat 0, .dat 0, .dat 0, .dat 0, .dat 0, .dat 0, .dat 0], T := [(3, ty3), (5, ty5), (9, ty9), (22, ty22)], S := [(46, S_spec_l1Cur_pick)], H := [(0, ([0, 1, 2, 7], [0, 1]))], res := [.tmp 6], ios := [0], G := gl0 }
noncomputable def F_spec_l1Cur_spoilt : List D → Option Out := denF c_spec_l1Cur_spoilt Tryd.f65
@[reducible] noncomputable def S_spec_l1Cur_spoilt : FS := { pm := [.box 3 2 true, .dat 0, .dat 0], rm := [.dat 0], f := F_spec_l1Cur_spoilt }
theorem M_spec_l1Cur_spoilt : Meets gl0 Tryd.prog 65 S_spec_l1Cur_spoilt := meets_of (P := Tryd.prog) (c := c_spec_l1Cur_spoilt) (fn := Tryd.f65) (pm := S_spec_l1Cur_spoilt.pm) (rm := S_spec_l1Cur_spoilt.rm) (by kernel_rfl) (lookCons M_spec_l1Cur_pick lookNil) follows_mixed Tryd.func65 (by kernel_rfl) (by kernel_rfl) rfl
/-- (*loop.example/g01054/spec.l1Cur).of -/
@[reducible] noncomputable def c_spec_l1Cur_of : Cx := { K := [.box 3 2 true, .dat 2, .no, .no, .dat 0, .dat 2, .ref 0, .dat 2, .dat 0, .dat 0, .dat 2, .dat 0], T := [(9, ty9), (52, ty52)], S := [(46, S_spec_l1Cur_pick)], H := [], res := [.tmp 4], ios := [0], G := gl0 }
noncomputable def F_spec_l1Cur_of : List D → Option Out := denF c_spec_l1Cur_of Tryd.f66
@[reducible] noncomputable def S_spec_l1Cur_of : FS := { pm := [.box 3 2 true, .dat 2], rm := [.dat 0], f := F_spec_l1Cur_of }
theorem M_spec_l1Cur_of : Meets gl0 Tryd.prog 66 S_spec_l1Cur_of := meets_of (P := Tryd.prog) (c := c_spec_l1Cur_of) (fn := Tryd.f66) (pm := S_spec_l1Cur_of.pm) (rm := S_spec_l1Cur_of.rm) (by kernel_rfl) (lookCons M_spec_l1Cur_pick lookNil) follows_mixed Tryd.func66 (by kernel_rfl) (by kernel_rfl) rfl
/-- loop.example/g01054/spec.DrawParseStock -/
@[reducible] noncomputable def c_spec_DrawParseStock : Cx := { K := [.dat 2, .no, .dat 0, .ref 8, .dat 0, .dat 1, .dat 2, .dat 2, .box 3 2 false, .ref 8, .dat 1, .dat 1, .dat 0, .dat 1, .dat 0, .ref 8, .dat 0, .dat 0, .dat 0, .ref 8, .dat 0, .dat 0, .dat 0, .dat 0, .ref 8, .dat 1, .dat 0, .dat 0], T := [(3, ty3), (9, ty9), (22, ty22), (52, ty52), (70, ty70), (72, ty72)], S := [(44, S_spec_l1Cur_stock), (46, S_spec_l1Cur_pick), (50, S_spec_ruGood), (64, S_spec_ruText), (65, S_spec_l1Cur_spoilt), (66, S_spec_l1Cur_of)], H := [], res := [.tmp 2], ios := [], G := gl0 }
noncomputable def F_spec_DrawParseStock : List D → Option Out := denF c_spec_DrawParseStock Tryd.f24
@[reducible] noncomputable def S_spec_DrawParseStock : FS := { pm := [.dat 2], rm := [.dat 0], f := F_spec_DrawParseStock }
theorem M_spec_DrawParseStock : Meets gl0 Tryd.prog 24 S_spec_DrawParseStock := meets_of (P := Tryd.prog) (c := c_spec_DrawParseStock) (fn := Tryd.f24) (pm := S_spec_DrawParseStock.pm) (rm := S_spec_DrawParseStock.rm) (by kernel_rfl) (lookCons M_spec_l1Cur_stock (lookCons M_spec_l1Cur_pick (lookCons M_spec_ruGood (lookCons M_spec_ruText (lookCons M_spec_l1Cur_spoilt (lookCons M_spec_l1Cur_of lookNil)))))) follows_mixed Tryd.func24 (by kernel_rfl) (by kernel_rfl) rfl
/-- loop.example/g01054/spec.l1Split -/
@[reducible] noncomputable def c_spec_l1Split : Cx := { K := [.dat 0, .dat 0, .no, .no, .own 1 0 false, .own 1 0 false, .dat 0, .dat 0, .dat 0, .dat 0, .dat 0, .dat 0, .dat 0, .dat 0, .dat 0, .dat 0, .dat 0, .dat 0, .dat 0, .own 1 0 false, .dat 0, .dat 0, .dat 0, .dat 0, .dat 1, .own 1 0 false, .dat 0, .dat 0, .own 1 0 false, .dat 0, .dat 0, .dat 0, .dat 1, .own 1 0 false], T := [(3, ty3), (5, ty5), (9, ty9), (52, ty52)], S := [], H := [(0, ([0, 1, 5, 6, 7], [0, 5, 6]))], res := [.tmp 4], ios := [], G := gl0 }
noncomputable def F_spec_l1Split : List D → Option Out := denF c_spec_l1Split Tryd.f68
@[reducible] noncomputable def S_spec_l1Split : FS := { pm := [.dat 0, .dat 0], rm := [.own 1 0 false], f := F_spec_l1Split }
theorem M_spec_l1Split : Meets gl0 Tryd.prog 68 S_spec_l1Split := meets_of (P := Tryd.prog) (c := c_spec_l1Split) (fn := Tryd.f68) (pm := S_spec_l1Split.pm) (rm := S_spec_l1Split.rm) (by kernel_rfl) lookNil follows_mixed Tryd.func68 (by kernel_rfl) (by kernel_rfl) rfl
/-- loop.example/g01054/spec.l1Read -/
@[reducible] noncomputable def c_spec_l1Read : Cx := { K := [.dat 0, .no, .dat 0, .dat 0, .dat 0, .dat 0, .dat 0, .dat 0, .dat 0, .dat 0, .dat 0, .dat 0, .dat 0, .dat 0, .dat 0, .dat 0, .dat 0, .dat 0, .dat 0, .dat 0, .dat 0, .dat 0, .dat 0, .dat 0, .dat 0, .dat 0, .dat 0, .dat 0, .dat 0, .dat 0, .dat 0, .dat 0, .dat 0, .dat 0, .dat 0, .dat 0, .dat 0, .dat 0, .dat 0, .dat 0, .dat 0, .dat 0, .dat 0, .dat 0], T := [(3, ty3), (5, ty5), (9, ty9)], S := [(51, S_spec_l1In)], H := [(0, ([0, 3, 4], [3]))], res := [.tmp 2], ios := [], G := gl0 }
noncomputable def F_spec_l1Read : List D → Option Out := denF c_spec_l1Read Tryd.f69
@[reducible] noncomputable def S_spec_l1Read : FS := { pm := [.dat 0], rm := [.dat 0], f := F_spec_l1Read }
theorem M_spec_l1Read : Meets gl0 Tryd.prog 69 S_spec_l1Read := meets_of (P := Tryd.prog) (c := c_spec_l1Read) (fn := Tryd.f69) (pm := S_spec_l1Read.pm) (rm := S_spec_l1Read.rm) (by kernel_rfl) (lookCons M_spec_l1In lookNil) follows_mixed Tryd.func69 (by kernel_rfl) (by kernel_rfl) rfl
/-- loop.example/g01054/spec.ParseStock -/
@[reducible] noncomputable def c_spec_ParseStock : Cx := { K := [.dat 0, .no, .dat 2, .dat 0, .dat 1, .own 2 0 false, .no, .dat 0, .dat 1, .dat 0, .dat 1, .dat 1, .dat 0, .dat 0, .dat 0, .dat 1, .dat 1, .dat 0, .dat 0, .dat 1, .dat 0, .dat 0, .dat 0, .dat 1, .dat 1, .dat 0, .dat 0, .dat 1, .dat 0, .dat 0, .dat 0, .dat 1, .dat 0, .dat 0, .dat 1, .dat 1, .dat 0, .dat 0, .own 2 0 false, .dat 1, .dat 1, .dat 0, .dat 0, .dat 1, .dat 1, .dat 0, .dat 0, .dat 0, .dat 1, .own 2 0 false, .dat 0, .via 5, .tup [.dat 2, .dat 0], .dat 2, .dat 0], T := [(3, ty3), (9, ty9), (24, ty24), (44, ty44), (52, ty52)], S := [(52, S_spec_ruIf), (68, S_spec_l1Split), (69, S_spec_l1Read)], H := [(0, ([5, 27, 28, 29], [5]))], res := [.tmp 2, .tmp 3], ios := [], G := gl0 }
@[reducible] def Z_spec_ParseStock : List (Nat × List Nat) := [(13, [5])]
noncomputable def F_spec_ParseStock : List D → Option Out := denFQ c_spec_ParseStock Z_spec_ParseStock Tryd.f26
@[reducible] noncomputable def S_spec_ParseStock : FS := { pm := [.dat 0], rm := [.dat 2, .dat 0], f := F_spec_ParseStock }
theorem M_spec_ParseStock : Meets gl0 Tryd.prog 26 S_spec_ParseStock := meets_ofQ (Z := Z_spec_ParseStock) (P := Tryd.prog) (c := c_spec_ParseStock) (fn := Tryd.f26) (pm := S_spec_ParseStock.pm) (rm := S_spec_ParseStock.rm) (by kernel_rfl) (lookCons M_spec_ruIf (lookCons M_spec_l1Split (lookCons M_spec_l1Read lookNil))) follows_mixed Tryd.func26 (by kernel_rfl) (by kernel_rfl) rfl
/-- loop.example/g01054/impl.numbersIn -/
@[reducible] noncomputable def c_impl_numbersIn : Cx := { K := [.dat 0, .no, .own 1 0 false, .own 1 0 false, .no, .dat 0, .dat 0, .dat 0, .own 1 0 false, .dat 0, .dat 1, .dat 0, .dat 0, .dat 0, .dat 1, .dat 0, .tup [.dat 0, .dat 0], .dat 0, .tup [.dat 0, .dat 0], .dat 0, .dat 0, .dat 0, .dat 0, .own 1 0 false, .own 1 0 false, .dat 0, .dat 1, .own 1 0 false, .dat 0, .own 1 0 false], T := [(3, ty3), (9, ty9), (36, ty36), (52, ty52), (102, ty102)], S := [(89, S_strings_FieldsFunc), (91, S_strconv_Atoi)], H := [(0, ([3, 10, 11, 12], [3]))], res := [.tmp 2], ios := [], G := gl2 }
noncomputable def F_impl_numbersIn : List D → Option Out := denF c_impl_numbersIn Tryd.f67
@[reducible] noncomputable def S_impl_numbersIn : FS := { pm := [.dat 0], rm := [.own 1 0 false], f := F_impl_numbersIn }
theorem M_impl_numbersIn : Meets gl2 Tryd.prog 67 S_impl_numbersIn := meets_of (P := Tryd.prog) (c := c_impl_numbersIn) (fn := Tryd.f67) (pm := S_impl_numbersIn.pm) (rm := S_impl_numbersIn.rm) (by kernel_rfl) (lookCons (meets_mono gl02 M_strings_FieldsFunc) (lookCons M_strconv_Atoi lookNil)) follows_mixed Tryd.func67 (by kernel_rfl) (by kernel_rfl) rfl
/-- loop.example/g01054/laws.big -/
@[reducible] noncomputable def c_laws_big : Cx := { K := [.dat 2, .dat 2, .no, .no, .dat 0, .dat 2, .dat 0, .dat 0, .dat 0, .dat 2, .dat 0, .dat 2, .dat 0, .dat 0, .dat 0, .dat 0], T := [(3, ty3), (5, ty5), (22, ty22)], S := [], H := [], res := [.tmp 4], ios := [], G := gl0 }
noncomputable def F_laws_big : List D → Option Out := denF c_laws_big Tryd.f5
@[reducible] noncomputable def S_laws_big : FS := { pm := [.dat 2, .dat 2], rm := [.dat 0], f := F_laws_big }
theorem M_laws_big : Meets gl0 Tryd.prog 5 S_laws_big := meets_of (P := Tryd.prog) (c := c_laws_big) (fn := Tryd.f5) (pm := S_laws_big.pm) (rm := S_laws_big.rm) (by kernel_rfl) lookNil follows_mixed Tryd.func5 (by kernel_rfl) (by kernel_rfl) rfl
end Go.Proofs.YtoocdnbkiejihaaDoor
/-
  What the functions compute: their evaluated texts, printed.
-/
namespace Go.Proofs.YtoocdnbkiejihaaDoor
open Go Go.V
theorem t_spec_l1Cur_next (x0 : D) : F_spec_l1Cur_next [x0] =
  ((liveD x0 (D.ref 0 0)).bind fun z => (liveD z z).bind fun z => (refAdd 1 z).bind fun z => (((atD x0 z).bind (takeD false 1)).bind chkV).bind fun z => (liveD x0 (D.ref 0 0)).bind fun z_1 => (liveD z_1 z_1).bind fun z_2 =>
 (refAdd 0 z_2).bind fun z_3 => ((atD x0 z_3).bind (takeD false 1)).bind fun z_4 => (lenD false z_4).bind fun z_5 => (bin BinOp.lss false [] z z_5).bind fun z => ifD z ((liveD x0 (D.ref 0 0)).bind fun z =>
 (liveD z z).bind fun z => (refAdd 0 z).bind fun z => ((atD x0 z).bind (takeD false 1)).bind fun z => (liveD x0 (D.ref 0 0)).bind fun z_6 => (liveD z_6 z_6).bind fun z_7 => (refAdd 1 z_7).bind fun z_8 =>
 (((atD x0 z_8).bind (takeD false 1)).bind chkV).bind fun z_9 => (Option.map D.ptr (elemD 1 z z_9)).bind fun z => ((ldD false 1 z).bind chkV).bind fun z => (convD (some IntKind.i64) false z).bind fun z =>
 (liveD x0 (D.ref 0 0)).bind fun z_10 => (liveD z_10 z_10).bind fun z_11 => (refAdd 1 z_11).bind fun z_12 => (((atD x0 z_12).bind (takeD false 1)).bind chkV).bind fun z_13 =>
 (bin BinOp.add false [] z_13 (D.v (Value.int IntKind.i64 1))).bind fun z_14 => (liveD z_10 z_10).bind fun z_15 => (refAdd 1 z_15).bind fun z_16 => (stD 1 x0 z_16 z_14).bind fun b => (liveD b (D.ref 0 0)).bind fun z_17 =>
 (liveD b (D.ref 0 0)).bind fun z_18 => (liveD z_18 z_18).bind fun z_19 => (refAdd 2 z_19).bind fun z_20 => (((atD b z_20).bind (takeD false 1)).bind chkV).bind fun z_21 => (bin BinOp.mul false [] z_21 (D.v
 (Value.int IntKind.u64 6364136223846793005))).bind fun z_22 => (convD (some IntKind.u64) false z).bind fun z_23 => (bin BinOp.add false [] z_22 z_23).bind fun z_24 => (bin BinOp.add false [] z_24 (D.v
 (Value.int IntKind.u64 1442695040888963407))).bind fun z_25 => (liveD z_17 z_17).bind fun z_26 => (refAdd 2 z_26).bind fun z_27 => (stD 1 b z_27 z_25).bind fun b => (liveD b (D.ref 0 0)).bind fun z_28 =>
 (liveD z_28 z_28).bind fun z_29 => (refAdd 1 z_29).bind fun z_30 => (((atD b z_30).bind (takeD false 1)).bind chkV).bind fun z_31 => (liveD b (D.ref 0 0)).bind fun z_32 => (liveD z_32 z_32).bind fun z_33 =>
 (refAdd 0 z_33).bind fun z_34 => ((atD b z_34).bind (takeD false 1)).bind fun z_35 => (lenD false z_35).bind fun z_36 => (bin BinOp.leq false [] z_31 z_36).bind fun z_37 => ifD z_37 ((liveD b b).bind fun _u => some
 (Out.ret [z] [b])) ((liveD b (D.ref 0 0)).bind fun z => (liveD z z).bind fun z => (refAdd 2 z).bind fun z => (((atD b z).bind (takeD false 1)).bind chkV).bind fun z => (bin BinOp.shr false [] z (D.v (Value.int IntKind.u64
 40))).bind fun z => (bin BinOp.and false [] z (D.v (Value.int IntKind.u64 255))).bind fun z => (convD (some IntKind.i64) false z).bind fun z => (liveD b b).bind fun _u => some (Out.ret [z] [b])))
 ((liveD x0 (D.ref 0 0)).bind fun z => (liveD z z).bind fun z_6 => (refAdd 1 z_6).bind fun z_7 => (((atD x0 z_7).bind (takeD false 1)).bind chkV).bind fun z_8 =>
 (bin BinOp.add false [] z_8 (D.v (Value.int IntKind.i64 1))).bind fun z_9 => (liveD z z).bind fun z => (refAdd 1 z).bind fun z => (stD 1 x0 z z_9).bind fun b => (liveD b (D.ref 0 0)).bind fun z =>
 (liveD b (D.ref 0 0)).bind fun z_10 => (liveD z_10 z_10).bind fun z_11 => (refAdd 2 z_11).bind fun z_12 => (((atD b z_12).bind (takeD false 1)).bind chkV).bind fun z_13 => (bin BinOp.mul false [] z_13
 (D.v (Value.int IntKind.u64 6364136223846793005))).bind fun z_14 => (convD (some IntKind.u64) false (D.v (Value.int IntKind.i64 0))).bind fun z_15 => (bin BinOp.add false [] z_14 z_15).bind fun z_16 =>
 (bin BinOp.add false [] z_16 (D.v (Value.int IntKind.u64 1442695040888963407))).bind fun z_17 => (liveD z z).bind fun z => (refAdd 2 z).bind fun z => (stD 1 b z z_17).bind fun b => (liveD b (D.ref 0 0)).bind fun z =>
 (liveD z z).bind fun z => (refAdd 1 z).bind fun z => (((atD b z).bind (takeD false 1)).bind chkV).bind fun z => (liveD b (D.ref 0 0)).bind fun z_18 => (liveD z_18 z_18).bind fun z_19 => (refAdd 0 z_19).bind fun z_20 =>
 ((atD b z_20).bind (takeD false 1)).bind fun z_21 => (lenD false z_21).bind fun z_22 => (bin BinOp.leq false [] z z_22).bind fun z => ifD z ((liveD b b).bind fun _u => some (Out.ret [D.v (Value.int IntKind.i64 0)] [b]))
 ((liveD b (D.ref 0 0)).bind fun z => (liveD z z).bind fun z => (refAdd 2 z).bind fun z => (((atD b z).bind (takeD false 1)).bind chkV).bind fun z => (bin BinOp.shr false [] z (D.v (Value.int IntKind.u64 40))).bind
 fun z => (bin BinOp.and false [] z (D.v (Value.int IntKind.u64 255))).bind fun z => (convD (some IntKind.i64) false z).bind fun z => (liveD b b).bind fun _u => some (Out.ret [z] [b])))) := by kernel_rfl
theorem t_spec_l1Cur_pick (x0 x1 : D) : F_spec_l1Cur_pick [x0, x1] =
  ((bin BinOp.leq false [] x1 (D.v (Value.int IntKind.i64 1))).bind fun z => ifD z ((liveD x0 x0).bind fun _u => some (Out.ret [D.v (Value.int IntKind.i64 0)] [x0])) ((liveD x0 (D.ref 0 0)).bind fun z =>
 (ref0 z x0).bind fun i => (liveD i i).bind fun i => callK (F_spec_l1Cur_next [i]) fun rs us => (bin BinOp.gtr false [] x1 (D.v (Value.int IntKind.i64 200))).bind fun z => ifD z
 ((bin BinOp.mul false [] (sl rs 0) (D.v (Value.int IntKind.i64 256))).bind fun z => (liveD (sl us 0) (D.ref 0 0)).bind fun z_1 => (ref0 z_1 (sl us 0)).bind fun i => (liveD i i).bind fun i =>
 callK (F_spec_l1Cur_next [i]) fun rs us => (bin BinOp.add false [] z (sl rs 0)).bind fun z => (bin BinOp.rem false [] z x1).bind fun z => (liveD (sl us 0) (sl us 0)).bind fun _u => some (Out.ret [z] [sl us 0]))
 ((bin BinOp.rem false [] (sl rs 0) x1).bind fun z => (liveD (sl us 0) (sl us 0)).bind fun _u => some (Out.ret [z] [sl us 0])))) := by kernel_rfl
theorem t_spec_l1Cur_among (x0 x1 : D) : F_spec_l1Cur_among [x0, x1] =
  ((liveD x0 (D.ref 0 0)).bind fun z => (lenD false x1).bind fun z_1 => (ref0 z x0).bind fun i => (liveD i i).bind fun i => callK (F_spec_l1Cur_pick [i, z_1]) fun rs us =>
 (Option.map D.ptr (elemD 1 x1 (sl rs 0))).bind fun z => ((ldD false 1 z).bind chkV).bind fun z => (liveD (sl us 0) (sl us 0)).bind fun _u => some (Out.ret [z] [sl us 0])) := by kernel_rfl
theorem t_spec_ruPut (x0 x1 x2 : D) : F_spec_ruPut [x0, x1, x2] =
  ((loopC (fun s => (lenD false (sl s 0)).bind fun z => (bin BinOp.lss false [] (sl s 3) z).bind fun z => (gate (D.tup []) z true (some (sl s 0))).bind fun z_1 => (gate (D.tup []) z true (some (sl s 3))).bind fun z_2 =>
 (gate (D.tup []) z true (Option.map D.ptr (elemD 2 z_1 z_2))).bind fun z_3 => (gate (D.tup []) z true (offD 0 z_3)).bind fun z_4 => (gate (D.tup []) z true ((ldD false 1 z_4).bind chkV)).bind fun z_5 =>
 (gate (D.tup []) z true (some (sl s 1))).bind fun z_6 => (gate (D.tup []) z true (bin BinOp.lss false [] z_5 z_6)).bind fun z_7 => (pickD z z_7 (D.v (Value.bool false))).bind fun z => ifD z
 ((bin BinOp.add false [] (sl s 3) (D.v (Value.int IntKind.i64 1))).bind fun z => some (Out.nrm [sl s 0, sl s 1, sl s 2, z])) (some (Out.ext 0 [sl s 0, sl s 1, sl s 2, sl s 3])))
 [x0, x1, x2, D.v (Value.int IntKind.i64 0)]).bind fun o => outK o (fun i s => ifN (i.beq 0) ((mkArr 2 []).bind fun a => (chkA (sl s 0)).bind fun b => (appD 2 16 a b).bind fun y => (lenD false (sl s 0)).bind fun z =>
 (bin BinOp.lss false [] (sl s 3) z).bind fun z => (gate (D.tup []) z true (some (sl s 0))).bind fun z_1 => (gate (D.tup []) z true (some (sl s 3))).bind fun z_2 =>
 (gate (D.tup []) z true (Option.map D.ptr (elemD 2 z_1 z_2))).bind fun z_3 => (gate (D.tup []) z true (offD 0 z_3)).bind fun z_4 => (gate (D.tup []) z true ((ldD false 1 z_4).bind chkV)).bind fun z_5 =>
 (gate (D.tup []) z true (some (sl s 1))).bind fun z_6 => (gate (D.tup []) z true (bin BinOp.eql false [] z_5 z_6)).bind fun z_7 => (pickD z z_7 (D.v (Value.bool false))).bind fun z => ifD z
 ((liveD y (D.ref 0 0)).bind fun z => ((liveD z y).bind fun b => refI 2 b (sl s 3)).bind fun z_8 => (refAdd 1 z_8).bind fun z_9 => ((atD y z_9).bind (takeD false 1)).bind fun z_10 =>
 (bin BinOp.add false [] z_10 (sl s 2)).bind fun z_11 => ((liveD z y).bind fun b => refI 2 b (sl s 3)).bind fun z => (refAdd 1 z).bind fun z => (stD 1 y z z_11).bind fun b => some (Out.ret [b] []))
 ((mkArr 2 []).bind fun a => (sliceD false 2 (sl s 0) (D.v (Value.int IntKind.i64 0)) (sl s 3)).bind fun z => (chkA z).bind fun b => (appD 2 16 a b).bind fun y => (bldD [(0, 1), (1, 1)]
 [D.v (Value.int IntKind.i64 0), D.v (Value.int IntKind.i64 0)] [sl s 1, sl s 2]).bind fun z => (mkArr 2 [z]).bind fun a => (chkA a).bind fun b => (appD 2 16 y b).bind fun y =>
 (sliceHi false 2 (sl s 0) (sl s 3)).bind fun z => (chkA z).bind fun b => (appD 2 16 y b).bind fun y => some (Out.ret [y] []))) none) fun a b => some (Out.ret a b)) := by kernel_rfl
theorem t_spec_l1Cur_stock (x0 : D) : F_spec_l1Cur_stock [x0] =
  ((liveD x0 (D.ref 0 0)).bind fun z => (ref0 z x0).bind fun i => (liveD i i).bind fun i => callK (F_spec_l1Cur_pick [i, D.v (Value.int IntKind.i64 5)]) fun rs us => (loopC (fun s =>
 (bin BinOp.gtr false [] (sl s 2) (D.v (Value.int IntKind.i64 0))).bind fun z => ifD z ((liveD (sl s 1) (D.ref 0 0)).bind fun z => (liveD (sl s 0) (D.ref 0 0)).bind fun z_1 => (mkArr 1
 [D.v (Value.int IntKind.i64 3), D.v (Value.int IntKind.i64 5), D.v (Value.int IntKind.i64 6), D.v (Value.int IntKind.i64 10), D.v (Value.int IntKind.i64 12), D.v (Value.int IntKind.i64 18),
 D.v (Value.int IntKind.i64 30), D.v (Value.int IntKind.i64 40), D.v (Value.int IntKind.i64 200)]).bind fun a => (ref0 z_1 (sl s 0)).bind fun i => (liveD i i).bind fun i => callK (F_spec_l1Cur_among [i, a]) fun rs us =>
 (liveD (sl us 0) (D.ref 0 0)).bind fun z_2 => (ref0 z_2 (sl us 0)).bind fun i => (liveD i i).bind fun i => callK (F_spec_l1Cur_pick [i, D.v (Value.int IntKind.i64 6)]) fun rs_1 us => (liveD z (sl s 1)).bind fun i =>
 callK (F_spec_ruPut [i, sl rs 0, sl rs_1 0]) fun rs _u => (bin BinOp.sub false [] (sl s 2) (D.v (Value.int IntKind.i64 1))).bind fun z => some (Out.nrm [sl us 0, sl rs 0, z])) (some (Out.ext 0 [sl s 0, sl s 1])))
 [sl us 0, D.arr 2 [], sl rs 0]).bind fun o => outK o (fun i s => ifN (i.beq 0) ((liveD (sl s 0) (D.ref 0 0)).bind fun z => (ref0 z (sl s 0)).bind fun i => (liveD i i).bind fun i =>
 callK (F_spec_l1Cur_pick [i, D.v (Value.int IntKind.i64 24)]) fun rs us => (bin BinOp.eql false [] (sl rs 0) (D.v (Value.int IntKind.i64 0))).bind fun z => ifD z ((liveD (sl us 0) (D.ref 0 0)).bind fun z =>
 (ref0 z (sl us 0)).bind fun i => (liveD i i).bind fun i => callK (F_spec_l1Cur_pick [i, D.v (Value.int IntKind.i64 2)]) fun rs us => (bin BinOp.add false [] (D.v (Value.int IntKind.i64 8)) (sl rs 0)).bind fun z => (loopC
 (fun s => (liveD (sl s 1) (D.ref 0 0)).bind fun z => ((liveD z (sl s 1)).bind (lenD false)).bind fun z => (bin BinOp.lss false [] z (sl s 2)).bind fun z => ifD z ((liveD (sl s 1) (D.ref 0 0)).bind fun z =>
 (liveD (sl s 1) (D.ref 0 0)).bind fun z_1 => ((liveD z_1 (sl s 1)).bind (lenD false)).bind fun z_2 => (bin BinOp.mul false [] (D.v (Value.int IntKind.i64 3)) z_2).bind fun z_3 =>
 (bin BinOp.add false [] (D.v (Value.int IntKind.i64 2)) z_3).bind fun z_4 => (liveD (sl s 0) (D.ref 0 0)).bind fun z_5 => (ref0 z_5 (sl s 0)).bind fun i => (liveD i i).bind fun i => callK (F_spec_l1Cur_pick
 [i, D.v (Value.int IntKind.i64 4)]) fun rs us => (bldD [(0, 1), (1, 1)] [D.v (Value.int IntKind.i64 0), D.v (Value.int IntKind.i64 0)] [z_4, sl rs 0]).bind fun z_6 => (mkArr 2 [z_6]).bind fun a =>
 (liveD z (sl s 1)).bind fun a_1 => (chkA a).bind fun b => (appD 2 16 a_1 b).bind fun y => some (Out.nrm [sl us 0, y, sl s 2])) (some (Out.ext 3 [sl s 0, sl s 1]))) [sl us 0, D.arr 2 [], z]).bind fun o => outK o
 (fun i s => ifN (i.beq 3) ((liveD (sl s 0) (sl s 0)).bind fun _u => some (Out.ret [sl s 1] [sl s 0])) (ifN (i.beq 2) ((liveD (sl s 0) (sl s 0)).bind fun _u => some (Out.ret [sl s 1] [sl s 0])) none))
 fun a b => some (Out.ret a b)) ((bin BinOp.eql false [] (sl rs 0) (D.v (Value.int IntKind.i64 1))).bind fun z => ifD z ((liveD (sl us 0) (D.ref 0 0)).bind fun z => (mkArr 1
 [D.v (Value.int IntKind.i64 200), D.v (Value.int IntKind.i64 201), D.v (Value.int IntKind.i64 1), D.v (Value.int IntKind.i64 0)]).bind fun a => (ref0 z (sl us 0)).bind fun i => (liveD i i).bind fun i =>
 callK (F_spec_l1Cur_among [i, a]) fun rs us => (liveD (sl us 0) (D.ref 0 0)).bind fun z => (mkArr 1 [D.v (Value.int IntKind.i64 20), D.v (Value.int IntKind.i64 21), D.v (Value.int IntKind.i64 (-1)),
 D.v (Value.int IntKind.i64 1)]).bind fun a => (ref0 z (sl us 0)).bind fun i => (liveD i i).bind fun i => callK (F_spec_l1Cur_among [i, a]) fun rs_1 us => (bldD [(0, 1), (1, 1)] [D.v (Value.int IntKind.i64 0),
 D.v (Value.int IntKind.i64 0)] [sl rs 0, sl rs_1 0]).bind fun z => (mkArr 2 [z]).bind fun a => (chkA a).bind fun b => (appD 2 16 (sl s 1) b).bind fun y => (liveD (sl us 0) (sl us 0)).bind fun _u =>
 some (Out.ret [y] [sl us 0])) ((bin BinOp.eql false [] (sl rs 0) (D.v (Value.int IntKind.i64 2))).bind fun z => ifD z ((liveD (sl s 1) (D.ref 0 0)).bind fun z => ((liveD z (sl s 1)).bind (lenD false)).bind fun z =>
 (bin BinOp.gtr false [] z (D.v (Value.int IntKind.i64 0))).bind fun z => ifD z ((liveD (sl s 1) (D.ref 0 0)).bind fun z => (liveD (sl us 0) (D.ref 0 0)).bind fun z_1 => (mkArr 1
 [D.v (Value.int IntKind.i64 20), D.v (Value.int IntKind.i64 21), D.v (Value.int IntKind.i64 (-1)), D.v (Value.int IntKind.i64 0)]).bind fun a => (ref0 z_1 (sl us 0)).bind fun i => (liveD i i).bind fun i =>
 callK (F_spec_l1Cur_among [i, a]) fun rs us => ((liveD z (sl s 1)).bind fun b => refI 2 b (D.v (Value.int IntKind.i64 0))).bind fun z => (refAdd 1 z).bind fun z => (stD 1 (sl s 1) z (sl rs 0)).bind fun b =>
 (liveD (sl us 0) (sl us 0)).bind fun _u => some (Out.ret [b] [sl us 0])) ((liveD (sl us 0) (sl us 0)).bind fun _u => some (Out.ret [sl s 1] [sl us 0])))
 ((liveD (sl us 0) (sl us 0)).bind fun _u => some (Out.ret [sl s 1] [sl us 0]))))) none) fun a b => some (Out.ret a b)) := by kernel_rfl
theorem t_spec_DrawCutSlip (x0 : D) : F_spec_DrawCutSlip [x0] =
  ((bldD [(0, 1)] [D.arr 1 [], D.v (Value.int IntKind.i64 0), D.v (Value.int IntKind.u64 0)] [x0]).bind fun z => (boxD 3 z).bind fun y => (liveD y (D.ref 0 0)).bind fun z => (liveD z z).bind fun z_1 =>
 (ref0 z_1 y).bind fun i => (liveD i i).bind fun i => callK (F_spec_l1Cur_stock [i]) fun rs us => (liveD z z).bind fun z_2 => (liveD z z).bind fun z_3 => (lenD false (sl rs 0)).bind fun z_4 =>
 (bin BinOp.add false [] z_4 (D.v (Value.int IntKind.i64 1))).bind fun z_5 => (ref0 z_3 (sl us 0)).bind fun i => (liveD i i).bind fun i => callK (F_spec_l1Cur_pick [i, z_5]) fun rs_1 us =>
 (lenD false (sl rs 0)).bind fun z_6 => (bin BinOp.sub false [] z_6 (D.v (Value.int IntKind.i64 1))).bind fun z_7 => (liveD z z).bind fun z_8 => (lenD false (sl rs 0)).bind fun z_9 =>
 (mkArr 1 [z_9, D.v (Value.int IntKind.i64 (-1))]).bind fun a => (ref0 z_8 (sl us 0)).bind fun i => (liveD i i).bind fun i => callK (F_spec_l1Cur_among [i, a]) fun rs_2 us =>
 (mkArr 1 [D.v (Value.int IntKind.i64 0), sl rs_1 0, z_7, sl rs_2 0]).bind fun a => (ref0 z_2 (sl us 0)).bind fun i => (liveD i i).bind fun i => callK (F_spec_l1Cur_among [i, a]) fun rs_3 us => (liveD z z).bind fun z_10 =>
 (liveD z z).bind fun z => (mkArr 1 [D.v (Value.int IntKind.i64 199), D.v (Value.int IntKind.i64 200), D.v (Value.int IntKind.i64 0), D.v (Value.int IntKind.i64 (-9223372036854775808))]).bind fun a =>
 (ref0 z (sl us 0)).bind fun i => (liveD i i).bind fun i => callK (F_spec_l1Cur_among [i, a]) fun rs_4 us => (mkArr 1 [D.v (Value.int IntKind.i64 1), D.v (Value.int IntKind.i64 3), D.v (Value.int IntKind.i64 5),
 D.v (Value.int IntKind.i64 6), D.v (Value.int IntKind.i64 9), sl rs_4 0]).bind fun a => (ref0 z_10 (sl us 0)).bind fun i => (liveD i i).bind fun i => callK (F_spec_l1Cur_among [i, a]) fun rs_5 _u => some
 (Out.ret [sl rs 0, sl rs_3 0, sl rs_5 0] [])) := by kernel_rfl
theorem t_impl_within (x0 x1 x2 : D) : F_impl_within [x0, x1, x2] =
  ((bin BinOp.geq false [] x0 x1).bind fun z => (gate (D.tup []) z true (some x0)).bind fun z_1 => (gate (D.tup []) z true (some x2)).bind fun z_2 => (gate (D.tup []) z true (bin BinOp.leq false [] z_1 z_2)).bind fun z_3 =>
 (pickD z z_3 (D.v (Value.bool false))).bind fun z => some (Out.ret [z] [])) := by kernel_rfl
theorem t_impl_IsStock (x0 : D) : F_impl_IsStock [x0] =
  ((lenD false x0).bind fun z => (loopC (fun s => (bin BinOp.lss false [] (sl s 3) (sl s 2)).bind fun z => ifD z ((Option.map D.ptr (elemD 2 (sl s 1) (sl s 3))).bind fun z => ((ldD true 2 z).bind chkV).bind fun z =>
 (stD 2 (D.agg [D.v (Value.int IntKind.i64 0), D.v (Value.int IntKind.i64 0)]) (D.ref 0 0) z).bind fun b => (liveD b (D.ref 0 0)).bind fun z => ((atD b z).bind (takeD false 1)).bind fun z =>
 callK (F_impl_within [z, D.v (Value.int IntKind.i64 1), D.v (Value.int IntKind.i64 200)]) fun rs _u => (un UnOp.not (sl rs 0)).bind fun z => (gate D.bad z false (liveD b (D.ref 0 1))).bind fun z_1 =>
 (gate (D.tup []) z false ((atD b z_1).bind (takeD false 1))).bind fun z_2 => gateC z false (callK (F_impl_within [z_2, D.v (Value.int IntKind.i64 0), D.v (Value.int IntKind.i64 20)]) fun rs _u => some (Out.nrm [sl rs 0]))
 [D.tup []] fun outs => (gate (D.tup []) z false (un UnOp.not (sl outs 0))).bind fun z_3 => (pickD z (D.v (Value.bool true)) z_3).bind fun z => (gate (D.tup []) z false (some (sl s 3))).bind fun z_4 =>
 (gate (D.tup []) z false (bin BinOp.gtr false [] z_4 (D.v (Value.int IntKind.i64 0)))).bind fun z_5 => (gate (D.tup []) z false (some z_5)).bind fun z_6 => (gate (D.tup []) z_6 true (some (sl s 0))).bind fun z_7 =>
 (gate (D.tup []) z_6 true (some (sl s 3))).bind fun z_8 => (gate (D.tup []) z_6 true (bin BinOp.sub false [] z_8 (D.v (Value.int IntKind.i64 1)))).bind fun z_9 =>
 (gate (D.tup []) z_6 true (Option.map D.ptr (elemD 2 z_7 z_9))).bind fun z_10 => (gate (D.tup []) z_6 true (offD 0 z_10)).bind fun z_11 => (gate (D.tup []) z_6 true ((ldD false 1 z_11).bind chkV)).bind fun z_12 =>
 (gate D.bad z_6 true (liveD b (D.ref 0 0))).bind fun z_13 => (gate (D.tup []) z_6 true ((atD b z_13).bind (takeD false 1))).bind fun z_14 => (gate (D.tup []) z_6 true (bin BinOp.geq false [] z_12 z_14)).bind fun z_15 =>
 (gate (D.tup []) z false (pickD z_6 z_15 (D.v (Value.bool false)))).bind fun z_16 => (pickD z (D.v (Value.bool true)) z_16).bind fun z => ifD z (some (Out.ret [D.v (Value.bool false)] []))
 ((bin BinOp.add false [] (sl s 3) (D.v (Value.int IntKind.i64 1))).bind fun z => some (Out.nrm [sl s 0, sl s 1, sl s 2, z]))) (some (Out.ext 0 [sl s 0]))) [x0, x0, z, D.v (Value.int IntKind.i64 0)]).bind fun o => outK o
 (fun i s => ifN (i.beq 0) ((lenD false (sl s 0)).bind fun z => (bin BinOp.leq false [] z (D.v (Value.int IntKind.i64 8))).bind fun z => some (Out.ret [z] [])) none) fun a b => some (Out.ret a b)) := by kernel_rfl
theorem t_impl_withPieces (x0 x1 x2 : D) : F_impl_withPieces [x0, x1, x2] =
  ((loopC (fun s => (lenD false (sl s 0)).bind fun z => (bin BinOp.lss false [] (sl s 3) z).bind fun z => (gate (D.tup []) z true (some (sl s 0))).bind fun z_1 => (gate (D.tup []) z true (some (sl s 3))).bind fun z_2 =>
 (gate (D.tup []) z true (Option.map D.ptr (elemD 2 z_1 z_2))).bind fun z_3 => (gate (D.tup []) z true (offD 0 z_3)).bind fun z_4 => (gate (D.tup []) z true ((ldD false 1 z_4).bind chkV)).bind fun z_5 =>
 (gate (D.tup []) z true (some (sl s 1))).bind fun z_6 => (gate (D.tup []) z true (bin BinOp.lss false [] z_5 z_6)).bind fun z_7 => (pickD z z_7 (D.v (Value.bool false))).bind fun z => ifD z
 ((bin BinOp.add false [] (sl s 3) (D.v (Value.int IntKind.i64 1))).bind fun z => some (Out.nrm [sl s 0, sl s 1, sl s 2, z])) (some (Out.ext 0 [sl s 0, sl s 1, sl s 2, sl s 3])))
 [x0, x1, x2, D.v (Value.int IntKind.i64 0)]).bind fun o => outK o (fun i s => ifN (i.beq 0) ((lenD false (sl s 0)).bind fun z => (bin BinOp.lss false [] (sl s 3) z).bind fun z =>
 (gate (D.tup []) z true (some (sl s 0))).bind fun z_1 => (gate (D.tup []) z true (some (sl s 3))).bind fun z_2 => (gate (D.tup []) z true (Option.map D.ptr (elemD 2 z_1 z_2))).bind fun z_3 =>
 (gate (D.tup []) z true (offD 0 z_3)).bind fun z_4 => (gate (D.tup []) z true ((ldD false 1 z_4).bind chkV)).bind fun z_5 => (gate (D.tup []) z true (some (sl s 1))).bind fun z_6 =>
 (gate (D.tup []) z true (bin BinOp.eql false [] z_5 z_6)).bind fun z_7 => (pickD z z_7 (D.v (Value.bool false))).bind fun z => ifD z ((mkArr 2 []).bind fun a => (chkA (sl s 0)).bind fun b => (appD 2 16 a b).bind fun y =>
 (liveD y (D.ref 0 0)).bind fun z => ((liveD z y).bind fun b => refI 2 b (sl s 3)).bind fun z_8 => (refAdd 1 z_8).bind fun z_9 => ((atD y z_9).bind (takeD false 1)).bind fun z_10 =>
 (bin BinOp.add false [] z_10 (sl s 2)).bind fun z_11 => ((liveD z y).bind fun b => refI 2 b (sl s 3)).bind fun z => (refAdd 1 z).bind fun z => (stD 1 y z z_11).bind fun b => some (Out.ret [b] []))
 ((mkArr 2 []).bind fun a => (sliceD false 2 (sl s 0) (D.v (Value.int IntKind.i64 0)) (sl s 3)).bind fun z => (chkA z).bind fun b => (appD 2 16 a b).bind fun y => (bldD [(0, 1), (1, 1)]
 [D.v (Value.int IntKind.i64 0), D.v (Value.int IntKind.i64 0)] [sl s 1, sl s 2]).bind fun z => (mkArr 2 [z]).bind fun a => (chkA a).bind fun b => (appD 2 16 y b).bind fun y =>
 (sliceHi false 2 (sl s 0) (sl s 3)).bind fun z => (chkA z).bind fun b => (appD 2 16 y b).bind fun y => some (Out.ret [y] []))) none) fun a b => some (Out.ret a b)) := by kernel_rfl
theorem t_impl_checkedStock (x0 : D) : F_impl_checkedStock [x0] =
  (callK (F_impl_IsStock [x0]) fun rs _u => (un UnOp.not (sl rs 0)).bind fun z => ifD z ((mkArr 2 []).bind fun a => some (Out.ret [a, D.v (Value.bool false)] [])) (some (Out.ret [x0, D.v (Value.bool true)] []))) := by kernel_rfl
theorem t_impl_CutSlip (x0 x1 x2 : D) : F_impl_CutSlip [x0, x1, x2] =
  (callK (F_impl_IsStock [x0]) fun rs _u => (un UnOp.not (sl rs 0)).bind fun z => (gate (D.tup []) z false (some x1)).bind fun z_1 => (gate (D.tup []) z false (some x0)).bind fun z_2 =>
 (gate (D.tup []) z false (lenD false z_2)).bind fun z_3 => (gate (D.tup []) z false (bin BinOp.sub false [] z_3 (D.v (Value.int IntKind.i64 1)))).bind fun z_4 => gateC z false
 (callK (F_impl_within [z_1, D.v (Value.int IntKind.i64 0), z_4]) fun rs _u => some (Out.nrm [sl rs 0])) [D.tup []] fun outs => (gate (D.tup []) z false (un UnOp.not (sl outs 0))).bind fun z_5 =>
 (pickD z (D.v (Value.bool true)) z_5).bind fun z => (gate (D.tup []) z false (some x0)).bind fun z_6 => (gate (D.tup []) z false (some x1)).bind fun z_7 =>
 (gate (D.tup []) z false (Option.map D.ptr (elemD 2 z_6 z_7))).bind fun z_8 => (gate (D.tup []) z false (offD 1 z_8)).bind fun z_9 => (gate (D.tup []) z false ((ldD false 1 z_9).bind chkV)).bind fun z_10 =>
 (gate (D.tup []) z false (bin BinOp.eql false [] z_10 (D.v (Value.int IntKind.i64 0)))).bind fun z_11 => (pickD z (D.v (Value.bool true)) z_11).bind fun z => (gate (D.tup []) z false (some x2)).bind fun z_12 =>
 (gate (D.tup []) z false (some x0)).bind fun z_13 => (gate (D.tup []) z false (some x1)).bind fun z_14 => (gate (D.tup []) z false (Option.map D.ptr (elemD 2 z_13 z_14))).bind fun z_15 =>
 (gate (D.tup []) z false (offD 0 z_15)).bind fun z_16 => (gate (D.tup []) z false ((ldD false 1 z_16).bind chkV)).bind fun z_17 => (gate (D.tup []) z false
 (bin BinOp.sub false [] z_17 (D.v (Value.int IntKind.i64 1)))).bind fun z_18 => gateC z false (callK (F_impl_within [z_12, D.v (Value.int IntKind.i64 1), z_18]) fun rs _u => some (Out.nrm [sl rs 0]))
 [D.tup []] fun outs => (gate (D.tup []) z false (un UnOp.not (sl outs 0))).bind fun z_19 => (pickD z (D.v (Value.bool true)) z_19).bind fun z => ifD z ((mkArr 2 []).bind fun a =>
 some (Out.ret [a, D.v (Value.bool false)] [])) ((mkArr 2 []).bind fun a => (chkA x0).bind fun b => (appD 2 16 a b).bind fun y => (liveD y (D.ref 0 0)).bind fun z => (liveD z (D.ref 0 0)).bind fun z_20 =>
 ((liveD z_20 y).bind fun b => refI 2 b x1).bind fun z_21 => (refAdd 1 z_21).bind fun z_22 => ((atD y z_22).bind (takeD false 1)).bind fun z_23 => (bin BinOp.sub false [] z_23 (D.v (Value.int IntKind.i64 1))).bind
 fun z_24 => ((liveD z_20 y).bind fun b => refI 2 b x1).bind fun z_25 => (refAdd 1 z_25).bind fun z_26 => (stD 1 y z_26 z_24).bind fun b => (liveD z (D.ref 0 0)).bind fun z => (liveD z b).bind fun i => callK
 (F_impl_withPieces [i, x2, D.v (Value.int IntKind.i64 1)]) fun rs _u => (Option.map D.ptr (elemD 2 x0 x1)).bind fun z => (offD 0 z).bind fun z => ((ldD false 1 z).bind chkV).bind fun z => (bin BinOp.sub false [] z
 x2).bind fun z => callK (F_impl_withPieces [sl rs 0, z, D.v (Value.int IntKind.i64 1)]) fun rs _u => callK (F_impl_checkedStock [sl rs 0]) fun rs _u => (tupAt (D.tup rs) 0).bind fun z => (tupAt (D.tup rs) 1).bind
 fun z_27 => some (Out.ret [z, z_27] []))) := by kernel_rfl
theorem t_spec_l1In (x0 x1 x2 : D) : F_spec_l1In [x0, x1, x2] =
  ((bin BinOp.geq false [] x0 x1).bind fun z => (gate (D.tup []) z true (some x0)).bind fun z_1 => (gate (D.tup []) z true (some x2)).bind fun z_2 => (gate (D.tup []) z true (bin BinOp.leq false [] z_1 z_2)).bind fun z_3 =>
 (pickD z z_3 (D.v (Value.bool false))).bind fun z => some (Out.ret [z] [])) := by kernel_rfl
theorem t_spec_ruSlip (x0 : D) : F_spec_ruSlip [x0] =
  ((boxD 2 x0).bind fun y => (liveD y (D.ref 0 0)).bind fun z => ((atD y z).bind (takeD false 1)).bind fun z => callK (F_spec_l1In [z, D.v (Value.int IntKind.i64 1), D.v (Value.int IntKind.i64 200)]) fun rs _u =>
 (gate D.bad (sl rs 0) true (liveD y (D.ref 0 1))).bind fun z => (gate (D.tup []) (sl rs 0) true ((atD y z).bind (takeD false 1))).bind fun z => gateC (sl rs 0) true
 (callK (F_spec_l1In [z, D.v (Value.int IntKind.i64 0), D.v (Value.int IntKind.i64 20)]) fun rs _u => some (Out.nrm [sl rs 0])) [D.tup []] fun outs =>
 (pickD (sl rs 0) (sl outs 0) (D.v (Value.bool false))).bind fun z => some (Out.ret [z] [])) := by kernel_rfl
theorem t_spec_ruGood (x0 : D) : F_spec_ruGood [x0] =
  ((lenD false x0).bind fun z => (loopC (fun s => (bin BinOp.lss false [] (sl s 3) (sl s 2)).bind fun z => ifD z ((Option.map D.ptr (elemD 2 (sl s 1) (sl s 3))).bind fun z => ((ldD true 2 z).bind chkV).bind fun z =>
 (stD 2 (D.agg [D.v (Value.int IntKind.i64 0), D.v (Value.int IntKind.i64 0)]) (D.ref 0 0) z).bind fun b => (fldD true 2 0 b).bind fun z => callK (F_spec_ruSlip [z]) fun rs _u => (un UnOp.not (sl rs 0)).bind fun z =>
 (gate (D.tup []) z false (some (sl s 3))).bind fun z_1 => (gate (D.tup []) z false (bin BinOp.gtr false [] z_1 (D.v (Value.int IntKind.i64 0)))).bind fun z_2 => (gate (D.tup []) z false (some z_2)).bind fun z_3 =>
 (gate (D.tup []) z_3 true (some (sl s 0))).bind fun z_4 => (gate (D.tup []) z_3 true (some (sl s 3))).bind fun z_5 => (gate (D.tup []) z_3 true (bin BinOp.sub false [] z_5 (D.v (Value.int IntKind.i64 1)))).bind fun z_6 =>
 (gate (D.tup []) z_3 true (Option.map D.ptr (elemD 2 z_4 z_6))).bind fun z_7 => (gate (D.tup []) z_3 true (offD 0 z_7)).bind fun z_8 => (gate (D.tup []) z_3 true ((ldD false 1 z_8).bind chkV)).bind fun z_9 =>
 (gate D.bad z_3 true (liveD b (D.ref 0 0))).bind fun z_10 => (gate (D.tup []) z_3 true ((atD b z_10).bind (takeD false 1))).bind fun z_11 => (gate (D.tup []) z_3 true (bin BinOp.geq false [] z_9 z_11)).bind fun z_12 =>
 (gate (D.tup []) z false (pickD z_3 z_12 (D.v (Value.bool false)))).bind fun z_13 => (pickD z (D.v (Value.bool true)) z_13).bind fun z => ifD z (some (Out.ret [D.v (Value.bool false)] []))
 ((bin BinOp.add false [] (sl s 3) (D.v (Value.int IntKind.i64 1))).bind fun z => some (Out.nrm [sl s 0, sl s 1, sl s 2, z]))) (some (Out.ext 0 [sl s 0]))) [x0, x0, z, D.v (Value.int IntKind.i64 0)]).bind fun o => outK o
 (fun i s => ifN (i.beq 0) ((lenD false (sl s 0)).bind fun z => (bin BinOp.leq false [] z (D.v (Value.int IntKind.i64 8))).bind fun z => some (Out.ret [z] [])) none) fun a b => some (Out.ret a b)) := by kernel_rfl
theorem t_spec_ruIf (x0 : D) : F_spec_ruIf [x0] =
  (callK (F_spec_ruGood [x0]) fun rs _u => (un UnOp.not (sl rs 0)).bind fun z => ifD z (some (Out.ret [D.arr 2 [], D.v (Value.bool false)] [])) (some (Out.ret [x0, D.v (Value.bool true)] []))) := by kernel_rfl
theorem t_spec_CutSlip (x0 x1 x2 : D) : F_spec_CutSlip [x0, x1, x2] =
  (callK (F_spec_ruGood [x0]) fun rs _u => (un UnOp.not (sl rs 0)).bind fun z => (gate (D.tup []) z false (some x1)).bind fun z_1 => (gate (D.tup []) z false (some x0)).bind fun z_2 =>
 (gate (D.tup []) z false (lenD false z_2)).bind fun z_3 => (gate (D.tup []) z false (bin BinOp.sub false [] z_3 (D.v (Value.int IntKind.i64 1)))).bind fun z_4 => gateC z false
 (callK (F_spec_l1In [z_1, D.v (Value.int IntKind.i64 0), z_4]) fun rs _u => some (Out.nrm [sl rs 0])) [D.tup []] fun outs => (gate (D.tup []) z false (un UnOp.not (sl outs 0))).bind fun z_5 =>
 (pickD z (D.v (Value.bool true)) z_5).bind fun z => (gate (D.tup []) z false (some x0)).bind fun z_6 => (gate (D.tup []) z false (some x1)).bind fun z_7 =>
 (gate (D.tup []) z false (Option.map D.ptr (elemD 2 z_6 z_7))).bind fun z_8 => (gate (D.tup []) z false (offD 1 z_8)).bind fun z_9 => (gate (D.tup []) z false ((ldD false 1 z_9).bind chkV)).bind fun z_10 =>
 (gate (D.tup []) z false (bin BinOp.eql false [] z_10 (D.v (Value.int IntKind.i64 0)))).bind fun z_11 => (pickD z (D.v (Value.bool true)) z_11).bind fun z => (gate (D.tup []) z false (some x2)).bind fun z_12 =>
 (gate (D.tup []) z false (some x0)).bind fun z_13 => (gate (D.tup []) z false (some x1)).bind fun z_14 => (gate (D.tup []) z false (Option.map D.ptr (elemD 2 z_13 z_14))).bind fun z_15 =>
 (gate (D.tup []) z false (offD 0 z_15)).bind fun z_16 => (gate (D.tup []) z false ((ldD false 1 z_16).bind chkV)).bind fun z_17 => (gate (D.tup []) z false
 (bin BinOp.sub false [] z_17 (D.v (Value.int IntKind.i64 1)))).bind fun z_18 => gateC z false (callK (F_spec_l1In [z_12, D.v (Value.int IntKind.i64 1), z_18]) fun rs _u => some (Out.nrm [sl rs 0])) [D.tup []] fun outs =>
 (gate (D.tup []) z false (un UnOp.not (sl outs 0))).bind fun z_19 => (pickD z (D.v (Value.bool true)) z_19).bind fun z => ifD z (some (Out.ret [D.arr 2 [], D.v (Value.bool false)] [])) ((mkArr 2 []).bind fun a =>
 (chkA x0).bind fun b => (appD 2 16 a b).bind fun y => (liveD y (D.ref 0 0)).bind fun z => (liveD z (D.ref 0 0)).bind fun z_20 => ((liveD z_20 y).bind fun b => refI 2 b x1).bind fun z_21 => (refAdd 1 z_21).bind fun z_22 =>
 ((atD y z_22).bind (takeD false 1)).bind fun z_23 => (bin BinOp.sub false [] z_23 (D.v (Value.int IntKind.i64 1))).bind fun z_24 => ((liveD z_20 y).bind fun b => refI 2 b x1).bind fun z_25 =>
 (refAdd 1 z_25).bind fun z_26 => (stD 1 y z_26 z_24).bind fun b => (liveD z (D.ref 0 0)).bind fun z => (liveD z b).bind fun i => callK (F_spec_ruPut [i, x2, D.v (Value.int IntKind.i64 1)]) fun rs _u => (Option.map D.ptr
 (elemD 2 x0 x1)).bind fun z => (offD 0 z).bind fun z => ((ldD false 1 z).bind chkV).bind fun z => (bin BinOp.sub false [] z x2).bind fun z => callK (F_spec_ruPut [sl rs 0, z, D.v (Value.int IntKind.i64 1)]) fun rs _u =>
 callK (F_spec_ruIf [sl rs 0]) fun rs _u => (tupAt (D.tup rs) 0).bind fun z => (tupAt (D.tup rs) 1).bind fun z_27 => some (Out.ret [z, z_27] []))) := by kernel_rfl
theorem t_laws_pSameSlips (x0 x1 : D) : F_laws_pSameSlips [x0, x1] =
  ((lenD false x0).bind fun z => (lenD false x1).bind fun z_1 => (bin BinOp.neq false [] z z_1).bind fun z => ifD z (some (Out.ret [D.v (Value.bool false)] [])) ((lenD false x0).bind fun z => (loopC (fun s =>
 (bin BinOp.lss false [] (sl s 3) (sl s 2)).bind fun z => ifD z ((Option.map D.ptr (elemD 2 (sl s 0) (sl s 3))).bind fun z => ((ldD true 2 z).bind chkV).bind fun z =>
 (Option.map D.ptr (elemD 2 (sl s 1) (sl s 3))).bind fun z_2 => ((ldD true 2 z_2).bind chkV).bind fun z_3 => (bin BinOp.neq false [1, 1] z z_3).bind fun z => ifD z (some (Out.ret [D.v (Value.bool false)] []))
 ((bin BinOp.add false [] (sl s 3) (D.v (Value.int IntKind.i64 1))).bind fun z => some (Out.nrm [sl s 0, sl s 1, sl s 2, z]))) (some (Out.ext 0 []))) [x0, x1, z, D.v (Value.int IntKind.i64 0)]).bind fun o =>
 outK o (fun i _u => ifN (i.beq 0) (some (Out.ret [D.v (Value.bool true)] [])) none) fun a b => some (Out.ret a b))) := by kernel_rfl
theorem t_impl_StockLength (x0 : D) : F_impl_StockLength [x0] =
  (callK (F_impl_IsStock [x0]) fun rs _u => (un UnOp.not (sl rs 0)).bind fun z => ifD z (some (Out.ret [D.v (Value.int IntKind.i64 0), D.v (Value.bool false)] [])) ((lenD false x0).bind fun z => (loopC (fun s =>
 (bin BinOp.lss false [] (sl s 3) (sl s 2)).bind fun z => ifD z ((Option.map D.ptr (elemD 2 (sl s 1) (sl s 3))).bind fun z => ((ldD true 2 z).bind chkV).bind fun z =>
 (stD 2 (D.agg [D.v (Value.int IntKind.i64 0), D.v (Value.int IntKind.i64 0)]) (D.ref 0 0) z).bind fun b => (liveD b (D.ref 0 0)).bind fun z => ((atD b z).bind (takeD false 1)).bind fun z =>
 (liveD b (D.ref 0 1)).bind fun z_1 => ((atD b z_1).bind (takeD false 1)).bind fun z_2 => (bin BinOp.mul false [] z z_2).bind fun z => (bin BinOp.add false [] (sl s 0) z).bind fun z =>
 (bin BinOp.add false [] (sl s 3) (D.v (Value.int IntKind.i64 1))).bind fun z_3 => some (Out.nrm [z, sl s 1, sl s 2, z_3])) (some (Out.ext 0 [sl s 0])))
 [D.v (Value.int IntKind.i64 0), x0, z, D.v (Value.int IntKind.i64 0)]).bind fun o => outK o (fun i s => ifN (i.beq 0) (some (Out.ret [sl s 0, D.v (Value.bool true)] [])) none) fun a b => some (Out.ret a b))) := by kernel_rfl
theorem t_spec_DrawJoinStocks (x0 : D) : F_spec_DrawJoinStocks [x0] =
  ((bldD [(0, 1)] [D.arr 1 [], D.v (Value.int IntKind.i64 0), D.v (Value.int IntKind.u64 0)] [x0]).bind fun z => (boxD 3 z).bind fun y => (liveD y (D.ref 0 0)).bind fun z => (liveD z z).bind fun z_1 =>
 (ref0 z_1 y).bind fun i => (liveD i i).bind fun i => callK (F_spec_l1Cur_stock [i]) fun rs us => (liveD z z).bind fun z => (ref0 z (sl us 0)).bind fun i => (liveD i i).bind fun i =>
 callK (F_spec_l1Cur_stock [i]) fun rs_1 _u => some (Out.ret [sl rs 0, sl rs_1 0] [])) := by kernel_rfl
theorem t_impl_JoinStocks (x0 x1 : D) : F_impl_JoinStocks [x0, x1] =
  (callK (F_impl_IsStock [x0]) fun rs _u => (un UnOp.not (sl rs 0)).bind fun z => (gate (D.tup []) z false (some x1)).bind fun z_1 =>
 gateC z false (callK (F_impl_IsStock [z_1]) fun rs _u => some (Out.nrm [sl rs 0])) [D.tup []] fun outs => (gate (D.tup []) z false (un UnOp.not (sl outs 0))).bind fun z_2 =>
 (pickD z (D.v (Value.bool true)) z_2).bind fun z => ifD z ((mkArr 2 []).bind fun a => some (Out.ret [a, D.v (Value.bool false)] [])) ((mkArr 2 []).bind fun a => (appD 2 16 a x0).bind fun y => (lenD false x1).bind fun z =>
 (loopC (fun s => (bin BinOp.lss false [] (sl s 3) (sl s 2)).bind fun z => ifD z ((Option.map D.ptr (elemD 2 (sl s 1) (sl s 3))).bind fun z => ((ldD true 2 z).bind chkV).bind fun z =>
 (stD 2 (D.agg [D.v (Value.int IntKind.i64 0), D.v (Value.int IntKind.i64 0)]) (D.ref 0 0) z).bind fun b => (liveD b (D.ref 0 0)).bind fun z => ((atD b z).bind (takeD false 1)).bind fun z =>
 (liveD b (D.ref 0 1)).bind fun z_3 => ((atD b z_3).bind (takeD false 1)).bind fun z_4 => callK (F_impl_withPieces [sl s 0, z, z_4]) fun rs _u => (bin BinOp.add false [] (sl s 3) (D.v (Value.int IntKind.i64 1))).bind
 fun z => some (Out.nrm [sl rs 0, sl s 1, sl s 2, z])) (some (Out.ext 0 [sl s 0]))) [y, x1, z, D.v (Value.int IntKind.i64 0)]).bind fun o => outK o (fun i s => ifN (i.beq 0)
 (callK (F_impl_checkedStock [sl s 0]) fun rs _u => (tupAt (D.tup rs) 0).bind fun z => (tupAt (D.tup rs) 1).bind fun z_3 => some (Out.ret [z, z_3] [])) none) fun a b => some (Out.ret a b))) := by kernel_rfl
theorem t_spec_JoinStocks (x0 x1 : D) : F_spec_JoinStocks [x0, x1] =
  (callK (F_spec_ruGood [x0]) fun rs _u => (un UnOp.not (sl rs 0)).bind fun z => (gate (D.tup []) z false (some x1)).bind fun z_1 =>
 gateC z false (callK (F_spec_ruGood [z_1]) fun rs _u => some (Out.nrm [sl rs 0])) [D.tup []] fun outs => (gate (D.tup []) z false (un UnOp.not (sl outs 0))).bind fun z_2 =>
 (pickD z (D.v (Value.bool true)) z_2).bind fun z => ifD z (some (Out.ret [D.arr 2 [], D.v (Value.bool false)] [])) ((mkArr 2 []).bind fun a => (appD 2 16 a x0).bind fun y => (lenD false x1).bind fun z => (loopC (fun s =>
 (bin BinOp.lss false [] (sl s 3) (sl s 2)).bind fun z => ifD z ((Option.map D.ptr (elemD 2 (sl s 1) (sl s 3))).bind fun z => ((ldD true 2 z).bind chkV).bind fun z =>
 (stD 2 (D.agg [D.v (Value.int IntKind.i64 0), D.v (Value.int IntKind.i64 0)]) (D.ref 0 0) z).bind fun b => (liveD b (D.ref 0 0)).bind fun z => ((atD b z).bind (takeD false 1)).bind fun z =>
 (liveD b (D.ref 0 1)).bind fun z_3 => ((atD b z_3).bind (takeD false 1)).bind fun z_4 => callK (F_spec_ruPut [sl s 0, z, z_4]) fun rs _u => (bin BinOp.add false [] (sl s 3) (D.v (Value.int IntKind.i64 1))).bind
 fun z => some (Out.nrm [sl rs 0, sl s 1, sl s 2, z])) (some (Out.ext 0 [sl s 0]))) [y, x1, z, D.v (Value.int IntKind.i64 0)]).bind fun o => outK o (fun i s => ifN (i.beq 0) (callK (F_spec_ruIf [sl s 0]) fun rs _u =>
 (tupAt (D.tup rs) 0).bind fun z => (tupAt (D.tup rs) 1).bind fun z_3 => some (Out.ret [z, z_3] [])) none) fun a b => some (Out.ret a b))) := by kernel_rfl
theorem t_spec_l1Cur_one (x0 x1 : D) : F_spec_l1Cur_one [x0, x1] =
  ((liveD x0 (D.ref 0 0)).bind fun z => (ref0 z x0).bind fun i => (liveD i i).bind fun i => callK (F_spec_l1Cur_pick [i, x1]) fun rs us => (bin BinOp.eql false [] (sl rs 0) (D.v (Value.int IntKind.i64 0))).bind fun z =>
 (liveD (sl us 0) (sl us 0)).bind fun _u => some (Out.ret [z] [sl us 0])) := by kernel_rfl
theorem t_spec_l1Cur_ruleLength (x0 : D) : F_spec_l1Cur_ruleLength [x0] =
  ((liveD x0 (D.ref 0 0)).bind fun z => (liveD x0 (D.ref 0 0)).bind fun z_1 => (ref0 z_1 x0).bind fun i => (liveD i i).bind fun i => callK (F_spec_l1Cur_pick [i, D.v (Value.int IntKind.i64 90)]) fun rs us =>
 (bin BinOp.add false [] (D.v (Value.int IntKind.i64 1)) (sl rs 0)).bind fun z_2 => (liveD (sl us 0) (D.ref 0 0)).bind fun z_3 => (ref0 z_3 (sl us 0)).bind fun i => (liveD i i).bind fun i =>
 callK (F_spec_l1Cur_pick [i, D.v (Value.int IntKind.i64 90)]) fun rs us => (bin BinOp.add false [] (D.v (Value.int IntKind.i64 1)) (sl rs 0)).bind fun z_4 => (liveD (sl us 0) (D.ref 0 0)).bind fun z_5 => (mkArr 1
 [D.v (Value.int IntKind.i64 1), D.v (Value.int IntKind.i64 400), D.v (Value.int IntKind.i64 0), D.v (Value.int IntKind.i64 401), D.v (Value.int IntKind.i64 (-9223372036854775808))]).bind fun a =>
 (ref0 z_5 (sl us 0)).bind fun i => (liveD i i).bind fun i => callK (F_spec_l1Cur_among [i, a]) fun rs us => (mkArr 1 [D.v (Value.int IntKind.i64 12), D.v (Value.int IntKind.i64 30),
 D.v (Value.int IntKind.i64 54), z_2, z_4, sl rs 0]).bind fun a => (ref0 z (sl us 0)).bind fun i => (liveD i i).bind fun i => callK (F_spec_l1Cur_among [i, a]) fun rs us =>
 (liveD (sl us 0) (sl us 0)).bind fun _u => some (Out.ret [sl rs 0] [sl us 0])) := by kernel_rfl
theorem t_spec_DrawRulesOf (x0 : D) : F_spec_DrawRulesOf [x0] =
  ((bldD [(0, 1)] [D.arr 1 [], D.v (Value.int IntKind.i64 0), D.v (Value.int IntKind.u64 0)] [x0]).bind fun z => (boxD 3 z).bind fun y => (liveD y (D.ref 0 0)).bind fun z => (liveD z z).bind fun z_1 =>
 (ref0 z_1 y).bind fun i => (liveD i i).bind fun i => callK (F_spec_l1Cur_stock [i]) fun rs us => (liveD z z).bind fun z_2 => (ref0 z_2 (sl us 0)).bind fun i => (liveD i i).bind fun i =>
 callK (F_spec_l1Cur_pick [i, D.v (Value.int IntKind.i64 4)]) fun rs_1 us => (liveD z z).bind fun z_3 => (ref0 z_3 (sl us 0)).bind fun i => (liveD i i).bind fun i =>
 callK (F_spec_l1Cur_one [i, D.v (Value.int IntKind.i64 12)]) fun rs_2 us => ifD (sl rs_2 0) ((liveD z z).bind fun z_4 => (ref0 z_4 (sl us 0)).bind fun i => (liveD i i).bind fun i =>
 callK (F_spec_l1Cur_pick [i, D.v (Value.int IntKind.i64 2)]) fun rs_3 us => (bin BinOp.add false [] (D.v (Value.int IntKind.i64 6)) (sl rs_3 0)).bind fun z_5 => (loopC (fun s => (liveD (sl s 2) (D.ref 0 0)).bind fun z =>
 ((liveD z (sl s 2)).bind (lenD false)).bind fun z => (bin BinOp.lss false [] z (sl s 3)).bind fun z => ifD z ((liveD (sl s 0) (sl s 0)).bind fun z => (liveD (sl s 0) (sl s 0)).bind fun z_6 =>
 (ref0 z_6 (sl s 4)).bind fun i => (liveD i i).bind fun i => callK (F_spec_l1Cur_ruleLength [i]) fun rs us => (mkArr 1 [D.v (Value.int IntKind.i64 12), D.v (Value.int IntKind.i64 10), D.v (Value.int IntKind.i64 6),
 D.v (Value.int IntKind.i64 3), D.v (Value.int IntKind.i64 18), sl rs 0]).bind fun a => (ref0 z (sl us 0)).bind fun i => (liveD i i).bind fun i => callK (F_spec_l1Cur_among [i, a]) fun rs us =>
 (mkArr 1 [sl rs 0]).bind fun a => (chkA a).bind fun b => (appD 1 8 (sl s 2) b).bind fun y => some (Out.nrm [sl s 0, sl s 1, y, sl s 3, sl us 0])) (some (Out.ext 0 [sl s 1, sl s 2])))
 [z, sl rs 0, D.arr 1 [], z_5, sl us 0]).bind fun o => outK o (fun i s => ifN (i.beq 0) (some (Out.ret [sl s 0, sl s 1] [])) none) fun a b => some (Out.ret a b)) ((loopC (fun s => (liveD (sl s 2) (D.ref 0 0)).bind fun z =>
 ((liveD z (sl s 2)).bind (lenD false)).bind fun z => (bin BinOp.lss false [] z (sl s 3)).bind fun z => ifD z ((liveD (sl s 0) (sl s 0)).bind fun z => (liveD (sl s 0) (sl s 0)).bind fun z_4 =>
 (ref0 z_4 (sl s 4)).bind fun i => (liveD i i).bind fun i => callK (F_spec_l1Cur_ruleLength [i]) fun rs us => (mkArr 1 [D.v (Value.int IntKind.i64 12), D.v (Value.int IntKind.i64 10), D.v (Value.int IntKind.i64 6),
 D.v (Value.int IntKind.i64 3), D.v (Value.int IntKind.i64 18), sl rs 0]).bind fun a => (ref0 z (sl us 0)).bind fun i => (liveD i i).bind fun i => callK (F_spec_l1Cur_among [i, a]) fun rs us =>
 (mkArr 1 [sl rs 0]).bind fun a => (chkA a).bind fun b => (appD 1 8 (sl s 2) b).bind fun y => some (Out.nrm [sl s 0, sl s 1, y, sl s 3, sl us 0])) (some (Out.ext 0 [sl s 1, sl s 2])))
 [z, sl rs 0, D.arr 1 [], sl rs_1 0, sl us 0]).bind fun o => outK o (fun i s => ifN (i.beq 0) (some (Out.ret [sl s 0, sl s 1] [])) none) fun a b => some (Out.ret a b))) := by kernel_rfl
theorem t_impl_isRuleLength (x0 : D) : F_impl_isRuleLength [x0] =
  (callK (F_impl_within [x0, D.v (Value.int IntKind.i64 1), D.v (Value.int IntKind.i64 400)]) fun rs _u => some (Out.ret [sl rs 0] [])) := by kernel_rfl
theorem t_impl_lengthsOf (x0 : D) : F_impl_lengthsOf [x0] =
  ((mkArr 1 []).bind fun a => (mkArr 1 []).bind fun a_1 => (lenD false x0).bind fun z => (loopC (fun s => (bin BinOp.lss false [] (sl s 4) (sl s 3)).bind fun z => ifD z
 ((Option.map D.ptr (elemD 2 (sl s 2) (sl s 4))).bind fun z => ((ldD true 2 z).bind chkV).bind fun z => (stD 2 (D.agg [D.v (Value.int IntKind.i64 0), D.v (Value.int IntKind.i64 0)]) (D.ref 0 0) z).bind fun b =>
 (liveD b (D.ref 0 0)).bind fun z => ((atD b z).bind (takeD false 1)).bind fun z => (mkArr 1 [z]).bind fun a => (chkA a).bind fun b_1 => (appD 1 8 (sl s 0) b_1).bind fun y => (liveD b (D.ref 0 1)).bind fun z =>
 ((atD b z).bind (takeD false 1)).bind fun z => (mkArr 1 [z]).bind fun a => (chkA a).bind fun b => (appD 1 8 (sl s 1) b).bind fun y_1 => (bin BinOp.add false [] (sl s 4) (D.v (Value.int IntKind.i64 1))).bind
 fun z => some (Out.nrm [y, y_1, sl s 2, sl s 3, z])) (some (Out.ext 0 [sl s 0, sl s 1]))) [a, a_1, x0, z, D.v (Value.int IntKind.i64 0)]).bind fun o =>
 outK o (fun i s => ifN (i.beq 0) (some (Out.ret [sl s 0, sl s 1] [])) none) fun a b => some (Out.ret a b)) := by kernel_rfl
theorem t_impl_fewest (x0 x1 x2 : D) : F_impl_fewest [x0, x1, x2] =
  ((bin BinOp.add false [] x2 (D.v (Value.int IntKind.i64 1))).bind fun z => (makD 1 8 (D.v (Value.int IntKind.i64 0)) z z).bind fun y => (liveD y (D.ref 0 0)).bind fun z => (loopC (fun s =>
 (bin BinOp.leq false [] (sl s 4) (sl s 2)).bind fun z => ifD z ((liveD (sl s 3) (D.ref 0 0)).bind fun z => ((liveD z (sl s 5)).bind fun b => refI 1 b (sl s 4)).bind fun z =>
 (stD 1 (sl s 5) z (D.v (Value.int IntKind.i64 (-1)))).bind fun b => (bin BinOp.add false [] (sl s 4) (D.v (Value.int IntKind.i64 1))).bind fun z => some (Out.nrm [sl s 0, sl s 1, sl s 2, sl s 3, z, b]))
 (some (Out.ext 0 [sl s 0, sl s 1, sl s 2, sl s 3, sl s 5]))) [x0, x1, x2, z, D.v (Value.int IntKind.i64 1), y]).bind fun o => outK o (fun i s => ifN (i.beq 0) ((mkArr 1 [viaD (sl s 3) (sl s 4)]).bind fun a =>
 (lenD false (sl s 0)).bind fun z => (loopC (fun s => (bin BinOp.lss false [] (sl s 5) (sl s 4)).bind fun z => ifD z ((Option.map D.ptr (elemD 1 (sl s 3) (sl s 5))).bind fun z => ((ldD false 1 z).bind chkV).bind fun z =>
 (bin BinOp.add false [] (sl s 1) (D.v (Value.int IntKind.i64 1))).bind fun z_1 => (makD 1 8 (D.v (Value.int IntKind.i64 0)) z_1 z_1).bind fun y => (liveD y (D.ref 0 0)).bind fun z_2 =>
 (liveD z_2 (D.ref 0 0)).bind fun z_3 => ((liveD z_3 y).bind (lenD false)).bind fun z_4 => (loopC (fun s => (bin BinOp.lss false [] (sl s 11) (sl s 10)).bind fun z => ifD z ((liveD (sl s 5) (D.ref 0 0)).bind fun z =>
 ((liveD z (sl s 9)).bind fun b => refI 1 b (sl s 11)).bind fun z => (stD 1 (sl s 9) z (D.v (Value.int IntKind.i64 (-1)))).bind fun b => (loopC (fun s => (Option.map D.ptr (elemD 1 (sl s 0) (sl s 3))).bind fun z =>
 ((ldD false 1 z).bind chkV).bind fun z => (bin BinOp.leq false [] (sl s 7) z).bind fun z => (gate (D.tup []) z true (some (sl s 7))).bind fun z_5 => (gate (D.tup []) z true (some (sl s 4))).bind fun z_6 =>
 (gate (D.tup []) z true (bin BinOp.mul false [] z_5 z_6)).bind fun z_7 => (gate (D.tup []) z true (some (sl s 6))).bind fun z_8 => (gate (D.tup []) z true (bin BinOp.leq false [] z_7 z_8)).bind fun z_9 => (pickD z z_9
 (D.v (Value.bool false))).bind fun z => ifD z ((liveD (sl s 2) (D.ref 0 0)).bind fun z => ((liveD z (sl s 2)).bind fun b => refI 1 b (sl s 3)).bind fun z => ((atD (sl s 2) z).bind (takeD false 1)).bind fun z =>
 (bin BinOp.mul false [] (sl s 7) (sl s 4)).bind fun z_10 => (bin BinOp.sub false [] (sl s 6) z_10).bind fun z_11 => (Option.map D.ptr (elemD 1 z z_11)).bind fun z => ((ldD false 1 z).bind chkV).bind fun z =>
 (bin BinOp.geq false [] z (D.v (Value.int IntKind.i64 0))).bind fun z_12 => (gate D.bad z_12 true (liveD (sl s 5) (D.ref 0 0))).bind fun z_13 => (gate (D.tup []) z_12 true (some (sl s 6))).bind fun z_14 => (gate D.bad
 z_12 true ((liveD z_13 (sl s 11)).bind fun b => refI 1 b z_14)).bind fun z_15 => (gate (D.tup []) z_12 true ((atD (sl s 11) z_15).bind (takeD false 1))).bind fun z_16 => (gate (D.tup []) z_12 true (bin BinOp.lss false []
 z_16 (D.v (Value.int IntKind.i64 0)))).bind fun z_17 => (gate (D.tup []) z_12 true (some z_17)).bind fun z_18 => (gate (D.tup []) z_18 false (some z)).bind fun z_19 => (gate (D.tup []) z_18 false (some (sl s 7))).bind fun
 z_20 => (gate (D.tup []) z_18 false (bin BinOp.add false [] z_19 z_20)).bind fun z_21 => (gate D.bad z_18 false (liveD (sl s 5) (D.ref 0 0))).bind fun z_22 => (gate (D.tup []) z_18 false (some (sl s 6))).bind fun z_23 =>
 (gate D.bad z_18 false ((liveD z_22 (sl s 11)).bind fun b => refI 1 b z_23)).bind fun z_24 => (gate (D.tup []) z_18 false ((atD (sl s 11) z_24).bind (takeD false 1))).bind fun z_25 => (gate (D.tup []) z_18 false (bin
 BinOp.lss false [] z_21 z_25)).bind fun z_26 => (gate (D.tup []) z_12 true (pickD z_18 (D.v (Value.bool true)) z_26)).bind fun z_27 => (pickD z_12 z_27 (D.v (Value.bool false))).bind fun z_28 => ifD z_28 ((liveD (sl s 5)
 (D.ref 0 0)).bind fun z_29 => (bin BinOp.add false [] z (sl s 7)).bind fun z => ((liveD z_29 (sl s 11)).bind fun b => refI 1 b (sl s 6)).bind fun z_30 => (stD 1 (sl s 11) z_30 z).bind fun b => (bin BinOp.add false [] (sl
 s 7) (D.v (Value.int IntKind.i64 1))).bind fun z => some (Out.nrm [sl s 0, sl s 1, sl s 2, sl s 3, sl s 4, sl s 5, sl s 6, z, sl s 8, sl s 9, sl s 10, b, sl s 12, sl s 13])) ((bin BinOp.add false [] (sl s 7) (D.v
 (Value.int IntKind.i64 1))).bind fun z => some (Out.nrm [sl s 0, sl s 1, sl s 2, sl s 3, sl s 4, sl s 5, sl s 6, z, sl s 8, sl s 9, sl s 10, sl s 11, sl s 12, sl s 13]))) (some (Out.ext 6 [sl s 0, sl s 1, sl s 2,
 sl s 3, sl s 4, sl s 5, sl s 8, sl s 9, sl s 10, sl s 11, sl s 12, sl s 13]))) [sl s 0, sl s 1, sl s 2, sl s 3, sl s 4, sl s 5, sl s 11, D.v (Value.int IntKind.i64 0), sl s 6, sl s 7, sl s 8, b, sl s 10, sl s 11]).bind
 fun o => outK o (fun i s => ifN (i.beq 6) ((bin BinOp.add false [] (sl s 11) (D.v (Value.int IntKind.i64 1))).bind fun z => some (Out.nrm [sl s 0, sl s 1, sl s 2, sl s 3, sl s 4, sl s 5, sl s 6, sl s 7, sl s 8, sl s 9,
 sl s 10, z])) (ifN (i.beq 5) ((bin BinOp.add false [] (sl s 11) (D.v (Value.int IntKind.i64 1))).bind fun z => some (Out.nrm [sl s 0, sl s 1, sl s 2, sl s 3, sl s 4, sl s 5, sl s 6, sl s 7, sl s 8, sl s 9, sl s 10, z]))
 (some (Out.ext i [sl s 0, sl s 1, sl s 2, sl s 5, sl s 6, sl s 7, sl s 8, sl s 9])))) fun a b => some (Out.ret a b)) (some (Out.ext 4 [sl s 0, sl s 1, sl s 2, sl s 5, sl s 6, sl s 7, sl s 8, sl s 9])))
 [sl s 0, sl s 1, sl s 2, sl s 5, z, z_2, sl s 3, sl s 4, sl s 5, y, z_4, D.v (Value.int IntKind.i64 0)]).bind fun o => outK o (fun i s => ifN (i.beq 4) ((mkArr 1 [viaD (sl s 3) (sl s 7)]).bind fun a =>
 (appD 1 24 (sl s 2) a).bind fun y => (bin BinOp.add false [] (sl s 6) (D.v (Value.int IntKind.i64 1))).bind fun z => some (Out.nrm [sl s 0, sl s 1, y, sl s 4, sl s 5, z])) (ifN (i.beq 3) ((bin BinOp.add false [] (sl s 6)
 (D.v (Value.int IntKind.i64 1))).bind fun z => some (Out.nrm [sl s 0, sl s 1, sl s 2, sl s 4, sl s 5, z])) (some (Out.ext i [sl s 2])))) fun a b => some (Out.ret a b)) (some (Out.ext 2 [sl s 2])))
 [sl s 1, sl s 2, a, sl s 0, z, D.v (Value.int IntKind.i64 0)]).bind fun o => outK o (fun i s => ifN (i.beq 2) (some (Out.ret [sl s 0] [])) none) fun a b => some (Out.ret a b)) none) fun a b => some (Out.ret a b)) := by kernel_rfl
theorem t_impl_bestOf (x0 x1 x2 : D) : F_impl_bestOf [x0, x1, x2] =
  (callK (F_impl_fewest [x0, x1, x2]) fun rs _u => (lenD false x0).bind fun z => (Option.map D.ptr (elemD 1 (sl rs 0) z)).bind fun z => (ldD false 1 z).bind fun z => (Option.map D.ptr (elemD 1 z x2)).bind fun z =>
 ((ldD false 1 z).bind chkV).bind fun z => (bin BinOp.lss false [] z (D.v (Value.int IntKind.i64 0))).bind fun z => ifD z (some (Out.ret [D.v (Value.slice none 0 0)] [])) ((lenD false x0).bind fun z =>
 (makD 1 8 (D.v (Value.int IntKind.i64 0)) z z).bind fun y => (liveD y (D.ref 0 0)).bind fun z => (lenD false x0).bind fun z_1 => (bin BinOp.sub false [] z_1 (D.v (Value.int IntKind.i64 1))).bind fun z_2 => (loopC
 (fun s => (bin BinOp.geq false [] (sl s 5) (D.v (Value.int IntKind.i64 0))).bind fun z => ifD z ((Option.map D.ptr (elemD 1 (sl s 1) (sl s 5))).bind fun z => ((ldD false 1 z).bind chkV).bind fun z =>
 (Option.map D.ptr (elemD 1 (sl s 0) (sl s 5))).bind fun z_3 => ((ldD false 1 z_3).bind chkV).bind fun z_4 => (bin BinOp.quo false [] (sl s 2) z_4).bind fun z_5 => ((minD z z_5).bind fun z => some z).bind fun z => (loopC
 (fun s => (bin BinOp.geq false [] (sl s 6) (D.v (Value.int IntKind.i64 0))).bind fun z => ifD z ((Option.map D.ptr (elemD 1 (sl s 3) (sl s 5))).bind fun z => (ldD false 1 z).bind fun z =>
 (Option.map D.ptr (elemD 1 (sl s 0) (sl s 5))).bind fun z_6 => ((ldD false 1 z_6).bind chkV).bind fun z_7 => (bin BinOp.mul false [] (sl s 6) z_7).bind fun z_8 => (bin BinOp.sub false [] (sl s 2) z_8).bind fun z_9 =>
 (Option.map D.ptr (elemD 1 z z_9)).bind fun z => ((ldD false 1 z).bind chkV).bind fun z => (bin BinOp.geq false [] z (D.v (Value.int IntKind.i64 0))).bind fun z_10 => (gate (D.tup []) z_10 true (some z)).bind fun z =>
 (gate (D.tup []) z_10 true (some (sl s 6))).bind fun z_11 => (gate (D.tup []) z_10 true (bin BinOp.add false [] z z_11)).bind fun z => (gate (D.tup []) z_10 true (some (sl s 3))).bind fun z_12 =>
 (gate (D.tup []) z_10 true (some (sl s 5))).bind fun z_13 => (gate (D.tup []) z_10 true (bin BinOp.add false [] z_13 (D.v (Value.int IntKind.i64 1)))).bind fun z_14 => (gate (D.tup []) z_10 true (Option.map D.ptr
 (elemD 1 z_12 z_14))).bind fun z_15 => (gate (D.tup []) z_10 true (ldD false 1 z_15)).bind fun z_16 => (gate (D.tup []) z_10 true (some (sl s 2))).bind fun z_17 => (gate (D.tup []) z_10 true (Option.map D.ptr (elemD 1
 z_16 z_17))).bind fun z_18 => (gate (D.tup []) z_10 true ((ldD false 1 z_18).bind chkV)).bind fun z_19 => (gate (D.tup []) z_10 true (bin BinOp.eql false [] z z_19)).bind fun z => (pickD z_10 z (D.v (Value.bool
 false))).bind fun z => ifD z ((liveD (sl s 4) (D.ref 0 0)).bind fun z => ((liveD z (sl s 7)).bind fun b => refI 1 b (sl s 5)).bind fun z => (stD 1 (sl s 7) z (sl s 6)).bind fun b => (Option.map D.ptr (elemD 1 (sl s 0) (sl
 s 5))).bind fun z => ((ldD false 1 z).bind chkV).bind fun z => (bin BinOp.mul false [] (sl s 6) z).bind fun z => (bin BinOp.sub false [] (sl s 2) z).bind fun z => some (Out.ext 2 [sl s 0, sl s 1, z, sl s 3, sl s 4, sl s
 5, b])) ((bin BinOp.sub false [] (sl s 6) (D.v (Value.int IntKind.i64 1))).bind fun z => some (Out.nrm [sl s 0, sl s 1, sl s 2, sl s 3, sl s 4, sl s 5, z, sl s 7]))) (some (Out.ext 2
 [sl s 0, sl s 1, sl s 2, sl s 3, sl s 4, sl s 5, sl s 7]))) [sl s 0, sl s 1, sl s 2, sl s 3, sl s 4, sl s 5, z, sl s 6]).bind fun o => outK o (fun i s => ifN (i.beq 2) ((bin BinOp.sub false [] (sl s 5)
 (D.v (Value.int IntKind.i64 1))).bind fun z => some (Out.nrm [sl s 0, sl s 1, sl s 2, sl s 3, sl s 4, z, sl s 6])) (ifN (i.beq 1) ((bin BinOp.sub false [] (sl s 5) (D.v (Value.int IntKind.i64 1))).bind fun z => some
 (Out.nrm [sl s 0, sl s 1, sl s 2, sl s 3, sl s 4, z, sl s 6])) (some (Out.ext i [sl s 4, sl s 6])))) fun a b => some (Out.ret a b)) (some (Out.ext 0 [sl s 4, sl s 6]))) [x0, x1, x2, sl rs 0, z, z_2, y]).bind fun o =>
 outK o (fun i s => ifN (i.beq 0) (some (Out.ret [viaD (sl s 0) (sl s 1)] [])) none) fun a b => some (Out.ret a b))) := by kernel_rfl
theorem t_impl_ruleOf (x0 x1 : D) : F_impl_ruleOf [x0, x1] =
  (callK (F_impl_lengthsOf [x0]) fun rs _u => (tupAt (D.tup rs) 0).bind fun y => (tupAt (tupCut (D.tup rs) 0) 1).bind fun y_1 => callK (F_impl_bestOf [y, y_1, x1]) fun rs _u => some (Out.ret [sl rs 0] [])) := by kernel_rfl
theorem t_impl_rest (x0 x1 : D) : F_impl_rest [x0, x1] =
  ((mkArr 2 []).bind fun a => (chkA x0).bind fun b => (appD 2 16 a b).bind fun y => (lenD false x1).bind fun z => (loopC (fun s => (bin BinOp.lss false [] (sl s 3) (sl s 2)).bind fun z => ifD z
 ((Option.map D.ptr (elemD 1 (sl s 1) (sl s 3))).bind fun z => ((ldD false 1 z).bind chkV).bind fun z => (liveD (sl s 0) (D.ref 0 0)).bind fun z_1 => ((liveD z_1 (sl s 0)).bind fun b => refI 2 b (sl s 3)).bind fun z_2 =>
 (refAdd 1 z_2).bind fun z_3 => ((atD (sl s 0) z_3).bind (takeD false 1)).bind fun z_4 => (bin BinOp.sub false [] z_4 z).bind fun z => ((liveD z_1 (sl s 0)).bind fun b => refI 2 b (sl s 3)).bind fun z_5 =>
 (refAdd 1 z_5).bind fun z_6 => (stD 1 (sl s 0) z_6 z).bind fun b => (bin BinOp.add false [] (sl s 3) (D.v (Value.int IntKind.i64 1))).bind fun z => some (Out.nrm [b, sl s 1, sl s 2, z])) (some (Out.ext 0 [sl s 0])))
 [y, x1, z, D.v (Value.int IntKind.i64 0)]).bind fun o => outK o (fun i s => ifN (i.beq 0) (some (Out.ret [sl s 0] [])) none) fun a b => some (Out.ret a b)) := by kernel_rfl
theorem t_impl_RulesOf (x0 x1 : D) : F_impl_RulesOf [x0, x1] =
  (callK (F_impl_IsStock [x0]) fun rs _u => (un UnOp.not (sl rs 0)).bind fun z => (gate (D.tup []) z false (some x1)).bind fun z_1 => (gate (D.tup []) z false (lenD false z_1)).bind fun z_2 =>
 (gate (D.tup []) z false (bin BinOp.gtr false [] z_2 (D.v (Value.int IntKind.i64 6)))).bind fun z_3 => (pickD z (D.v (Value.bool true)) z_3).bind fun z =>
 ifD z ((mkArr 1 []).bind fun a => some (Out.ret [a, D.v (Value.bool false)] [])) ((lenD false x1).bind fun z => (loopC (fun s => (bin BinOp.lss false [] (sl s 4) (sl s 3)).bind fun z => ifD z
 ((Option.map D.ptr (elemD 1 (sl s 2) (sl s 4))).bind fun z => ((ldD false 1 z).bind chkV).bind fun z => callK (F_impl_isRuleLength [z]) fun rs _u => (un UnOp.not (sl rs 0)).bind fun z =>
 ifD z ((mkArr 1 []).bind fun a => some (Out.ret [a, D.v (Value.bool false)] [])) ((bin BinOp.add false [] (sl s 4) (D.v (Value.int IntKind.i64 1))).bind fun z => some (Out.nrm [sl s 0, sl s 1, sl s 2, sl s 3, z])))
 (some (Out.ext 0 [sl s 0, sl s 1]))) [x0, x1, x1, z, D.v (Value.int IntKind.i64 0)]).bind fun o => outK o (fun i s => ifN (i.beq 0) ((mkArr 1 []).bind fun a => (lenD false (sl s 1)).bind fun z => (loopC (fun s =>
 (bin BinOp.lss false [] (sl s 4) (sl s 3)).bind fun z => ifD z ((Option.map D.ptr (elemD 1 (sl s 2) (sl s 4))).bind fun z => ((ldD false 1 z).bind chkV).bind fun z => callK (F_impl_ruleOf [sl s 0, z]) fun rs _u =>
 (binN BinOp.eql (sl rs 0)).bind fun z => ifD z ((mkArr 1 []).bind fun a => some (Out.ret [a, D.v (Value.bool false)] [])) (callK (F_impl_rest [sl s 0, sl rs 0]) fun rs_1 _u => (mkArr 1 [sl rs 0]).bind fun a =>
 (appD 1 24 (sl s 1) a).bind fun y => (bin BinOp.add false [] (sl s 4) (D.v (Value.int IntKind.i64 1))).bind fun z => some (Out.nrm [sl rs_1 0, y, sl s 2, sl s 3, z]))) (some (Out.ext 2 [sl s 1])))
 [sl s 0, a, sl s 1, z, D.v (Value.int IntKind.i64 0)]).bind fun o => outK o (fun i s => ifN (i.beq 2) (some (Out.ret [sl s 0, D.v (Value.bool true)] [])) none) fun a b => some (Out.ret a b)) none)
 fun a b => some (Out.ret a b))) := by kernel_rfl
theorem t_spec_l1All (x0 x1 x2 : D) : F_spec_l1All [x0, x1, x2] =
  ((lenD false x0).bind fun z => (loopC (fun s => (bin BinOp.lss false [] (sl s 4) (sl s 3)).bind fun z => ifD z ((Option.map D.ptr (elemD 1 (sl s 2) (sl s 4))).bind fun z => ((ldD false 1 z).bind chkV).bind fun z =>
 callK (F_spec_l1In [z, sl s 0, sl s 1]) fun rs _u => (un UnOp.not (sl rs 0)).bind fun z => ifD z (some (Out.ret [D.v (Value.bool false)] []))
 ((bin BinOp.add false [] (sl s 4) (D.v (Value.int IntKind.i64 1))).bind fun z => some (Out.nrm [sl s 0, sl s 1, sl s 2, sl s 3, z]))) (some (Out.ext 0 []))) [x1, x2, x0, z, D.v (Value.int IntKind.i64 0)]).bind fun o =>
 outK o (fun i _u => ifN (i.beq 0) (some (Out.ret [D.v (Value.bool true)] [])) none) fun a b => some (Out.ret a b)) := by kernel_rfl
theorem t_spec_l1Least (x0 x1 : D) : F_spec_l1Least [x0, x1] =
  ((bin BinOp.lss false [] x0 x1).bind fun z => ifD z (some (Out.ret [x0] [])) (some (Out.ret [x1] []))) := by kernel_rfl
theorem t_spec_ruTables (x0 x1 : D) : F_spec_ruTables [x0, x1] =
  ((loopC (fun s => (bin BinOp.leq false [] (sl s 3) (sl s 1)).bind fun z => ifD z ((mkArr 1 [D.v (Value.int IntKind.i64 1048576)]).bind fun a => (chkA a).bind fun b => (appD 1 8 (sl s 2) b).bind fun y =>
 (bin BinOp.add false [] (sl s 3) (D.v (Value.int IntKind.i64 1))).bind fun z => some (Out.nrm [sl s 0, sl s 1, y, z])) (some (Out.ext 0 [sl s 0, sl s 1, sl s 2]))) [x0, x1, D.arr 1 [], D.v (Value.int IntKind.i64 0)]).bind
 fun o => outK o (fun i s => ifN (i.beq 0) ((liveD (sl s 2) (D.ref 0 0)).bind fun z => ((liveD z (sl s 2)).bind fun b => refI 1 b (D.v (Value.int IntKind.i64 0))).bind fun z =>
 (stD 1 (sl s 2) z (D.v (Value.int IntKind.i64 0))).bind fun b => (mkArr 1 [b]).bind fun a => (lenD false (sl s 0)).bind fun z => (loopC (fun s => (bin BinOp.lss false [] (sl s 4) (sl s 3)).bind fun z => ifD z
 ((Option.map D.ptr (elemD 2 (sl s 2) (sl s 4))).bind fun z => ((ldD true 2 z).bind chkV).bind fun z => (stD 2 (D.agg [D.v (Value.int IntKind.i64 0), D.v (Value.int IntKind.i64 0)]) (D.ref 0 0) z).bind fun b => (loopC
 (fun s => (bin BinOp.leq false [] (sl s 5) (sl s 0)).bind fun z => ifD z ((loopC (fun s => (liveD (sl s 3) (D.ref 0 1)).bind fun z => ((atD (sl s 3) z).bind (takeD false 1)).bind fun z =>
 (bin BinOp.leq false [] (sl s 7) z).bind fun z => (gate (D.tup []) z true (some (sl s 7))).bind fun z_1 => (gate D.bad z true (liveD (sl s 3) (D.ref 0 0))).bind fun z_2 => (gate (D.tup []) z true ((atD (sl s 3) z_2).bind
 (takeD false 1))).bind fun z_3 => (gate (D.tup []) z true (bin BinOp.mul false [] z_1 z_3)).bind fun z_4 => (gate (D.tup []) z true (some (sl s 5))).bind fun z_5 => (gate (D.tup []) z true
 (bin BinOp.leq false [] z_4 z_5)).bind fun z_6 => (pickD z z_6 (D.v (Value.bool false))).bind fun z => ifD z ((liveD (sl s 1) (D.ref 0 0)).bind fun z => ((liveD z (sl s 1)).bind fun b => refI 1 b (sl s 2)).bind fun z =>
 ((atD (sl s 1) z).bind (takeD false 1)).bind fun z => (liveD (sl s 3) (D.ref 0 0)).bind fun z_7 => ((atD (sl s 3) z_7).bind (takeD false 1)).bind fun z_8 => (bin BinOp.mul false [] (sl s 7) z_8).bind fun z_9 =>
 (bin BinOp.sub false [] (sl s 5) z_9).bind fun z_10 => (Option.map D.ptr (elemD 1 z z_10)).bind fun z => ((ldD false 1 z).bind chkV).bind fun z => (bin BinOp.add false [] z (sl s 7)).bind fun z => callK (F_spec_l1Least
 [sl s 6, z]) fun rs _u => (bin BinOp.add false [] (sl s 7) (D.v (Value.int IntKind.i64 1))).bind fun z => some (Out.nrm [sl s 0, sl s 1, sl s 2, sl s 3, sl s 4, sl s 5, sl rs 0, z, sl s 8, sl s 9, sl s 10])) (some
 (Out.ext 6 [sl s 0, sl s 1, sl s 2, sl s 3, sl s 4, sl s 5, sl s 6, sl s 8, sl s 9, sl s 10]))) [sl s 0, sl s 1, sl s 2, sl s 3, sl s 4, sl s 5, D.v (Value.int IntKind.i64 1048576),
 D.v (Value.int IntKind.i64 0), sl s 6, sl s 7, sl s 8]).bind fun o => outK o (fun i s => ifN (i.beq 6) ((mkArr 1 [sl s 6]).bind fun a => (chkA a).bind fun b => (appD 1 8 (sl s 4) b).bind fun y =>
 (bin BinOp.add false [] (sl s 5) (D.v (Value.int IntKind.i64 1))).bind fun z => some (Out.nrm [sl s 0, sl s 1, sl s 2, sl s 3, y, z, sl s 7, sl s 8, sl s 9])) (ifN (i.beq 5) ((bin BinOp.add false [] (sl s 5)
 (D.v (Value.int IntKind.i64 1))).bind fun z => some (Out.nrm [sl s 0, sl s 1, sl s 2, sl s 3, sl s 4, z, sl s 7, sl s 8, sl s 9])) (some (Out.ext i [sl s 0, sl s 1, sl s 4, sl s 7, sl s 8, sl s 9]))))
 fun a b => some (Out.ret a b)) (some (Out.ext 4 [sl s 0, sl s 1, sl s 4, sl s 6, sl s 7, sl s 8]))) [sl s 0, sl s 1, sl s 4, b, D.arr 1 [], D.v (Value.int IntKind.i64 0), sl s 2, sl s 3, sl s 4]).bind fun o => outK o
 (fun i s => ifN (i.beq 4) ((mkArr 1 [sl s 2]).bind fun a => (appD 1 24 (sl s 1) a).bind fun y => (bin BinOp.add false [] (sl s 5) (D.v (Value.int IntKind.i64 1))).bind
 fun z => some (Out.nrm [sl s 0, y, sl s 3, sl s 4, z])) (ifN (i.beq 3) ((bin BinOp.add false [] (sl s 5) (D.v (Value.int IntKind.i64 1))).bind fun z => some (Out.nrm [sl s 0, sl s 1, sl s 3, sl s 4, z]))
 (some (Out.ext i [sl s 1])))) fun a b => some (Out.ret a b)) (some (Out.ext 2 [sl s 1]))) [sl s 1, a, sl s 0, z, D.v (Value.int IntKind.i64 0)]).bind fun o =>
 outK o (fun i s => ifN (i.beq 2) (some (Out.ret [sl s 0] [])) none) fun a b => some (Out.ret a b)) none) fun a b => some (Out.ret a b)) := by kernel_rfl
theorem t_spec_ruRule (x0 x1 : D) : F_spec_ruRule [x0, x1] =
  (callK (F_spec_ruTables [x0, x1]) fun rs _u => (lenD false x0).bind fun z => (Option.map D.ptr (elemD 1 (sl rs 0) z)).bind fun z => (ldD false 1 z).bind fun z => (Option.map D.ptr (elemD 1 z x1)).bind fun z =>
 ((ldD false 1 z).bind chkV).bind fun z => (bin BinOp.geq false [] z (D.v (Value.int IntKind.i64 1048576))).bind fun z => ifD z (some (Out.ret [D.arr 1 [], D.v (Value.bool false)] [])) ((lenD false x0).bind fun z =>
 (makD 1 8 (D.v (Value.int IntKind.i64 0)) z z).bind fun y => (lenD false x0).bind fun z => (bin BinOp.sub false [] z (D.v (Value.int IntKind.i64 1))).bind fun z => (loopC (fun s =>
 (bin BinOp.geq false [] (sl s 4) (D.v (Value.int IntKind.i64 0))).bind fun z => ifD z ((Option.map D.ptr (elemD 2 (sl s 0) (sl s 4))).bind fun z => (offD 1 z).bind fun z => ((ldD false 1 z).bind chkV).bind fun z =>
 (Option.map D.ptr (elemD 2 (sl s 0) (sl s 4))).bind fun z_1 => (offD 0 z_1).bind fun z_2 => ((ldD false 1 z_2).bind chkV).bind fun z_3 => (bin BinOp.quo false [] (sl s 1) z_3).bind fun z_4 =>
 callK (F_spec_l1Least [z, z_4]) fun rs _u => (loopC (fun s => (Option.map D.ptr (elemD 1 (sl s 2) (sl s 4))).bind fun z => (ldD false 1 z).bind fun z => (Option.map D.ptr (elemD 2 (sl s 0) (sl s 4))).bind fun z_5 =>
 (offD 0 z_5).bind fun z_6 => ((ldD false 1 z_6).bind chkV).bind fun z_7 => (bin BinOp.mul false [] (sl s 5) z_7).bind fun z_8 => (bin BinOp.sub false [] (sl s 1) z_8).bind fun z_9 =>
 (Option.map D.ptr (elemD 1 z z_9)).bind fun z => ((ldD false 1 z).bind chkV).bind fun z => (bin BinOp.add false [] z (sl s 5)).bind fun z => (bin BinOp.add false [] (sl s 4) (D.v (Value.int IntKind.i64 1))).bind
 fun z_10 => (Option.map D.ptr (elemD 1 (sl s 2) z_10)).bind fun z_11 => (ldD false 1 z_11).bind fun z_12 => (Option.map D.ptr (elemD 1 z_12 (sl s 1))).bind fun z_13 => ((ldD false 1 z_13).bind chkV).bind fun z_14 =>
 (bin BinOp.neq false [] z z_14).bind fun z => ifD z ((bin BinOp.sub false [] (sl s 5) (D.v (Value.int IntKind.i64 1))).bind fun z => some (Out.nrm [sl s 0, sl s 1, sl s 2, sl s 3, sl s 4, z])) (some (Out.ext 2
 [sl s 0, sl s 1, sl s 2, sl s 3, sl s 4, sl s 5]))) [sl s 0, sl s 1, sl s 2, sl s 3, sl s 4, sl rs 0]).bind fun o => outK o (fun i s => ifN (i.beq 2) ((liveD (sl s 3) (D.ref 0 0)).bind fun z =>
 ((liveD z (sl s 3)).bind fun b => refI 1 b (sl s 4)).bind fun z => (stD 1 (sl s 3) z (sl s 5)).bind fun b => (Option.map D.ptr (elemD 2 (sl s 0) (sl s 4))).bind fun z => (offD 0 z).bind fun z =>
 ((ldD false 1 z).bind chkV).bind fun z => (bin BinOp.mul false [] (sl s 5) z).bind fun z => (bin BinOp.sub false [] (sl s 1) z).bind fun z => (bin BinOp.sub false [] (sl s 4) (D.v (Value.int IntKind.i64 1))).bind
 fun z_5 => some (Out.nrm [sl s 0, z, sl s 2, b, z_5])) (ifN (i.beq 1) ((bin BinOp.sub false [] (sl s 4) (D.v (Value.int IntKind.i64 1))).bind fun z => some (Out.nrm [sl s 0, sl s 1, sl s 2, sl s 3, z]))
 (some (Out.ext i [sl s 3])))) fun a b => some (Out.ret a b)) (some (Out.ext 0 [sl s 3]))) [x0, x1, sl rs 0, y, z]).bind fun o => outK o (fun i s => ifN (i.beq 0) (some (Out.ret [sl s 0, D.v (Value.bool true)] [])) none)
 fun a b => some (Out.ret a b))) := by kernel_rfl
theorem t_spec_ruRest (x0 x1 : D) : F_spec_ruRest [x0, x1] =
  ((mkArr 2 []).bind fun a => (chkA x0).bind fun b => (appD 2 16 a b).bind fun y => (lenD false x1).bind fun z => (loopC (fun s => (bin BinOp.lss false [] (sl s 3) (sl s 2)).bind fun z => ifD z
 ((Option.map D.ptr (elemD 1 (sl s 1) (sl s 3))).bind fun z => ((ldD false 1 z).bind chkV).bind fun z => (liveD (sl s 0) (D.ref 0 0)).bind fun z_1 => ((liveD z_1 (sl s 0)).bind fun b => refI 2 b (sl s 3)).bind fun z_2 =>
 (refAdd 1 z_2).bind fun z_3 => ((atD (sl s 0) z_3).bind (takeD false 1)).bind fun z_4 => (bin BinOp.sub false [] z_4 z).bind fun z => ((liveD z_1 (sl s 0)).bind fun b => refI 2 b (sl s 3)).bind fun z_5 =>
 (refAdd 1 z_5).bind fun z_6 => (stD 1 (sl s 0) z_6 z).bind fun b => (bin BinOp.add false [] (sl s 3) (D.v (Value.int IntKind.i64 1))).bind fun z => some (Out.nrm [b, sl s 1, sl s 2, z])) (some (Out.ext 0 [sl s 0])))
 [y, x1, z, D.v (Value.int IntKind.i64 0)]).bind fun o => outK o (fun i s => ifN (i.beq 0) (some (Out.ret [sl s 0] [])) none) fun a b => some (Out.ret a b)) := by kernel_rfl
theorem t_spec_ruRules (x0 x1 : D) : F_spec_ruRules [x0, x1] =
  ((lenD false x1).bind fun z => (loopC (fun s => (bin BinOp.lss false [] (sl s 4) (sl s 3)).bind fun z => ifD z ((Option.map D.ptr (elemD 1 (sl s 2) (sl s 4))).bind fun z => ((ldD false 1 z).bind chkV).bind fun z =>
 callK (F_spec_ruRule [sl s 0, z]) fun rs _u => (tupAt (D.tup rs) 0).bind fun y => (tupAt (tupCut (D.tup rs) 0) 1).bind fun z => (un UnOp.not z).bind fun z => ifD z (some (Out.ret [D.arr 1 [], D.v (Value.bool false)] []))
 ((mkArr 1 [y]).bind fun a => (appD 1 24 (sl s 1) a).bind fun y_1 => callK (F_spec_ruRest [sl s 0, y]) fun rs _u => (bin BinOp.add false [] (sl s 4) (D.v (Value.int IntKind.i64 1))).bind fun z =>
 some (Out.nrm [sl rs 0, y_1, sl s 2, sl s 3, z]))) (some (Out.ext 0 [sl s 1]))) [x0, D.arr 1 [], x1, z, D.v (Value.int IntKind.i64 0)]).bind fun o =>
 outK o (fun i s => ifN (i.beq 0) (some (Out.ret [sl s 0, D.v (Value.bool true)] [])) none) fun a b => some (Out.ret a b)) := by kernel_rfl
theorem t_spec_RulesOf (x0 x1 : D) : F_spec_RulesOf [x0, x1] =
  (callK (F_spec_ruGood [x0]) fun rs _u => (un UnOp.not (sl rs 0)).bind fun z => (gate (D.tup []) z false (some x1)).bind fun z_1 => (gate (D.tup []) z false (lenD false z_1)).bind fun z_2 =>
 (gate (D.tup []) z false (bin BinOp.gtr false [] z_2 (D.v (Value.int IntKind.i64 6)))).bind fun z_3 => (pickD z (D.v (Value.bool true)) z_3).bind fun z => (gate (D.tup []) z false (some x1)).bind fun z_4 => gateC z false
 (callK (F_spec_l1All [z_4, D.v (Value.int IntKind.i64 1), D.v (Value.int IntKind.i64 400)]) fun rs _u => some (Out.nrm [sl rs 0])) [D.tup []] fun outs => (gate (D.tup []) z false (un UnOp.not (sl outs 0))).bind fun z_5 =>
 (pickD z (D.v (Value.bool true)) z_5).bind fun z => ifD z (some (Out.ret [D.arr 1 [], D.v (Value.bool false)] [])) (callK (F_spec_ruRules [x0, x1]) fun rs _u => (tupAt (D.tup rs) 0).bind fun y =>
 (tupAt (tupCut (D.tup rs) 0) 1).bind fun z => some (Out.ret [y, z] []))) := by kernel_rfl
theorem t_laws_sameInts (x0 x1 : D) : F_laws_sameInts [x0, x1] =
  ((lenD false x0).bind fun z => (lenD false x1).bind fun z_1 => (bin BinOp.neq false [] z z_1).bind fun z => ifD z (some (Out.ret [D.v (Value.bool false)] [])) ((lenD false x0).bind fun z => (loopC (fun s =>
 (bin BinOp.lss false [] (sl s 3) (sl s 2)).bind fun z => ifD z ((Option.map D.ptr (elemD 1 (sl s 0) (sl s 3))).bind fun z => ((ldD false 1 z).bind chkV).bind fun z =>
 (Option.map D.ptr (elemD 1 (sl s 1) (sl s 3))).bind fun z_2 => ((ldD false 1 z_2).bind chkV).bind fun z_3 => (bin BinOp.neq false [] z z_3).bind fun z => ifD z (some (Out.ret [D.v (Value.bool false)] []))
 ((bin BinOp.add false [] (sl s 3) (D.v (Value.int IntKind.i64 1))).bind fun z => some (Out.nrm [sl s 0, sl s 1, sl s 2, z]))) (some (Out.ext 0 []))) [x0, x1, z, D.v (Value.int IntKind.i64 0)]).bind fun o =>
 outK o (fun i _u => ifN (i.beq 0) (some (Out.ret [D.v (Value.bool true)] [])) none) fun a b => some (Out.ret a b))) := by kernel_rfl
theorem t_laws_sameLists (x0 x1 : D) : F_laws_sameLists [x0, x1] =
  ((lenD false x0).bind fun z => (lenD false x1).bind fun z_1 => (bin BinOp.neq false [] z z_1).bind fun z => ifD z (some (Out.ret [D.v (Value.bool false)] [])) ((lenD false x0).bind fun z => (loopC (fun s =>
 (bin BinOp.lss false [] (sl s 3) (sl s 2)).bind fun z => ifD z ((Option.map D.ptr (elemD 1 (sl s 0) (sl s 3))).bind fun z => (ldD false 1 z).bind fun z => (Option.map D.ptr (elemD 1 (sl s 1) (sl s 3))).bind fun z_2 =>
 (ldD false 1 z_2).bind fun z_3 => callK (F_laws_sameInts [z, z_3]) fun rs _u => (un UnOp.not (sl rs 0)).bind fun z => ifD z (some (Out.ret [D.v (Value.bool false)] []))
 ((bin BinOp.add false [] (sl s 3) (D.v (Value.int IntKind.i64 1))).bind fun z => some (Out.nrm [sl s 0, sl s 1, sl s 2, z]))) (some (Out.ext 0 []))) [x0, x1, z, D.v (Value.int IntKind.i64 0)]).bind fun o =>
 outK o (fun i _u => ifN (i.beq 0) (some (Out.ret [D.v (Value.bool true)] [])) none) fun a b => some (Out.ret a b))) := by kernel_rfl
theorem t_spec_DrawFrameOf (x0 : D) : F_spec_DrawFrameOf [x0] =
  ((bldD [(0, 1)] [D.arr 1 [], D.v (Value.int IntKind.i64 0), D.v (Value.int IntKind.u64 0)] [x0]).bind fun z => (boxD 3 z).bind fun y => (liveD y (D.ref 0 0)).bind fun z => (liveD z z).bind fun z_1 =>
 (ref0 z_1 y).bind fun i => (liveD i i).bind fun i => callK (F_spec_l1Cur_stock [i]) fun rs us => (liveD z z).bind fun z_2 => (ref0 z_2 (sl us 0)).bind fun i => (liveD i i).bind fun i =>
 callK (F_spec_l1Cur_one [i, D.v (Value.int IntKind.i64 2)]) fun rs_1 us => ifD (sl rs_1 0) ((liveD z z).bind fun z_3 => (ref0 z_3 (sl us 0)).bind fun i => (liveD i i).bind fun i =>
 callK (F_spec_l1Cur_pick [i, D.v (Value.int IntKind.i64 11)]) fun rs us => (bin BinOp.add false [] (D.v (Value.int IntKind.i64 10)) (sl rs 0)).bind fun z_4 => (bldD [(0, 1), (1, 1)]
 [D.v (Value.int IntKind.i64 0), D.v (Value.int IntKind.i64 0)] [D.v (Value.int IntKind.i64 3), z_4]).bind fun z_5 => (liveD z z).bind fun z_6 => (ref0 z_6 (sl us 0)).bind fun i => (liveD i i).bind fun i =>
 callK (F_spec_l1Cur_pick [i, D.v (Value.int IntKind.i64 9)]) fun rs us => (bldD [(0, 1), (1, 1)] [D.v (Value.int IntKind.i64 0), D.v (Value.int IntKind.i64 0)] [D.v (Value.int IntKind.i64 10), sl rs 0]).bind fun z_7 =>
 (liveD z z).bind fun z_8 => (ref0 z_8 (sl us 0)).bind fun i => (liveD i i).bind fun i => callK (F_spec_l1Cur_pick [i, D.v (Value.int IntKind.i64 9)]) fun rs us => (bldD [(0, 1), (1, 1)] [D.v (Value.int IntKind.i64 0),
 D.v (Value.int IntKind.i64 0)] [D.v (Value.int IntKind.i64 12), sl rs 0]).bind fun z_9 => (mkArr 2 [z_5, z_7, z_9]).bind fun a => (liveD z z).bind fun z_10 => (liveD z z).bind fun z_11 =>
 (ref0 z_11 (sl us 0)).bind fun i => (liveD i i).bind fun i => callK (F_spec_l1Cur_ruleLength [i]) fun rs us => (mkArr 1 [D.v (Value.int IntKind.i64 30), D.v (Value.int IntKind.i64 36), D.v (Value.int IntKind.i64 24),
 sl rs 0]).bind fun a_1 => (ref0 z_10 (sl us 0)).bind fun i => (liveD i i).bind fun i => callK (F_spec_l1Cur_among [i, a_1]) fun rs us => (liveD z z).bind fun z_12 => (liveD z z).bind fun z_13 =>
 (ref0 z_13 (sl us 0)).bind fun i => (liveD i i).bind fun i => callK (F_spec_l1Cur_ruleLength [i]) fun rs_2 us => (mkArr 1 [D.v (Value.int IntKind.i64 30), D.v (Value.int IntKind.i64 36), D.v (Value.int IntKind.i64 22),
 sl rs_2 0]).bind fun a_2 => (ref0 z_12 (sl us 0)).bind fun i => (liveD i i).bind fun i => callK (F_spec_l1Cur_among [i, a_2]) fun rs_3 us => (liveD z z).bind fun z_14 => (liveD z z).bind fun z => (mkArr 1 [D.v (Value.int
 IntKind.i64 50), D.v (Value.int IntKind.i64 (-1)), D.v (Value.int IntKind.i64 51)]).bind fun a_3 => (ref0 z (sl us 0)).bind fun i => (liveD i i).bind fun i => callK (F_spec_l1Cur_among [i, a_3]) fun rs_4 us => (mkArr 1
 [D.v (Value.int IntKind.i64 0), D.v (Value.int IntKind.i64 3), D.v (Value.int IntKind.i64 5), D.v (Value.int IntKind.i64 12), sl rs_4 0]).bind fun a_4 => (ref0 z_14 (sl us 0)).bind fun i => (liveD i i).bind fun i => callK
 (F_spec_l1Cur_among [i, a_4]) fun rs_5 _u => some (Out.ret [a, sl rs 0, sl rs_3 0, sl rs_5 0] [])) ((liveD z z).bind fun z_3 => (liveD z z).bind fun z_4 => (ref0 z_4 (sl us 0)).bind fun i => (liveD i i).bind fun i =>
 callK (F_spec_l1Cur_ruleLength [i]) fun rs_2 us => (mkArr 1 [D.v (Value.int IntKind.i64 30), D.v (Value.int IntKind.i64 36), D.v (Value.int IntKind.i64 24), sl rs_2 0]).bind fun a => (ref0 z_3 (sl us 0)).bind fun i =>
 (liveD i i).bind fun i => callK (F_spec_l1Cur_among [i, a]) fun rs_3 us => (liveD z z).bind fun z_5 => (liveD z z).bind fun z_6 => (ref0 z_6 (sl us 0)).bind fun i => (liveD i i).bind fun i =>
 callK (F_spec_l1Cur_ruleLength [i]) fun rs_4 us => (mkArr 1 [D.v (Value.int IntKind.i64 30), D.v (Value.int IntKind.i64 36), D.v (Value.int IntKind.i64 22), sl rs_4 0]).bind fun a => (ref0 z_5 (sl us 0)).bind fun i =>
 (liveD i i).bind fun i => callK (F_spec_l1Cur_among [i, a]) fun rs_5 us => (liveD z z).bind fun z_7 => (liveD z z).bind fun z => (mkArr 1 [D.v (Value.int IntKind.i64 50), D.v (Value.int IntKind.i64 (-1)),
 D.v (Value.int IntKind.i64 51)]).bind fun a => (ref0 z (sl us 0)).bind fun i => (liveD i i).bind fun i => callK (F_spec_l1Cur_among [i, a]) fun rs_6 us => (mkArr 1 [D.v (Value.int IntKind.i64 0),
 D.v (Value.int IntKind.i64 3), D.v (Value.int IntKind.i64 5), D.v (Value.int IntKind.i64 12), sl rs_6 0]).bind fun a => (ref0 z_7 (sl us 0)).bind fun i => (liveD i i).bind fun i => callK (F_spec_l1Cur_among [i, a])
 fun rs_7 _u => some (Out.ret [sl rs 0, sl rs_3 0, sl rs_5 0, sl rs_7 0] []))) := by kernel_rfl
theorem t_impl_FrameOf (x0 x1 x2 x3 : D) : F_impl_FrameOf [x0, x1, x2, x3] =
  ((bin BinOp.gtr false [] x1 (D.v (Value.int IntKind.i64 400))).bind fun z => (gate (D.tup []) z false (some x2)).bind fun z_1 =>
 (gate (D.tup []) z false (bin BinOp.gtr false [] z_1 (D.v (Value.int IntKind.i64 400)))).bind fun z_2 => (pickD z (D.v (Value.bool true)) z_2).bind fun z => (gate (D.tup []) z false (some x3)).bind fun z_3 =>
 gateC z false (callK (F_impl_within [z_3, D.v (Value.int IntKind.i64 0), D.v (Value.int IntKind.i64 50)]) fun rs _u => some (Out.nrm [sl rs 0])) [D.tup []] fun outs =>
 (gate (D.tup []) z false (un UnOp.not (sl outs 0))).bind fun z_4 => (pickD z (D.v (Value.bool true)) z_4).bind fun z => ifD z ((mkArr 1 []).bind fun a => some (Out.ret [a, D.v (Value.bool false)] []))
 ((bin BinOp.mul false [] (D.v (Value.int IntKind.i64 2)) x3).bind fun z => (bin BinOp.sub false [] x1 z).bind fun z => (bin BinOp.mul false [] (D.v (Value.int IntKind.i64 2)) x3).bind fun z_5 =>
 (bin BinOp.sub false [] x2 z_5).bind fun z_6 => (mkArr 1 [z, z, z_6, z_6]).bind fun a => callK (F_impl_RulesOf [x0, a]) fun rs _u => (tupAt (D.tup rs) 0).bind fun y =>
 (tupAt (tupCut (D.tup rs) 0) 1).bind fun z => some (Out.ret [y, z] []))) := by kernel_rfl
theorem t_spec_ruLength (x0 : D) : F_spec_ruLength [x0] =
  (callK (F_spec_l1In [x0, D.v (Value.int IntKind.i64 1), D.v (Value.int IntKind.i64 400)]) fun rs _u => some (Out.ret [sl rs 0] [])) := by kernel_rfl
theorem t_spec_FrameOf (x0 x1 x2 x3 : D) : F_spec_FrameOf [x0, x1, x2, x3] =
  (callK (F_spec_ruGood [x0]) fun rs _u => (un UnOp.not (sl rs 0)).bind fun z => (gate (D.tup []) z false (some x1)).bind fun z_1 =>
 gateC z false (callK (F_spec_ruLength [z_1]) fun rs _u => some (Out.nrm [sl rs 0])) [D.tup []] fun outs => (gate (D.tup []) z false (un UnOp.not (sl outs 0))).bind fun z_2 =>
 (pickD z (D.v (Value.bool true)) z_2).bind fun z => (gate (D.tup []) z false (some x2)).bind fun z_3 => gateC z false (callK (F_spec_ruLength [z_3]) fun rs _u => some (Out.nrm [sl rs 0])) [D.tup []] fun outs =>
 (gate (D.tup []) z false (un UnOp.not (sl outs 0))).bind fun z_4 => (pickD z (D.v (Value.bool true)) z_4).bind fun z => (gate (D.tup []) z false (some x3)).bind fun z_5 => gateC z false
 (callK (F_spec_l1In [z_5, D.v (Value.int IntKind.i64 0), D.v (Value.int IntKind.i64 50)]) fun rs _u => some (Out.nrm [sl rs 0])) [D.tup []] fun outs => (gate (D.tup []) z false (un UnOp.not (sl outs 0))).bind fun z_6 =>
 (pickD z (D.v (Value.bool true)) z_6).bind fun z => ifD z (some (Out.ret [D.arr 1 [], D.v (Value.bool false)] [])) ((bin BinOp.mul false [] (D.v (Value.int IntKind.i64 2)) x3).bind fun z =>
 (bin BinOp.sub false [] x1 z).bind fun z => (bin BinOp.mul false [] (D.v (Value.int IntKind.i64 2)) x3).bind fun z_7 => (bin BinOp.sub false [] x2 z_7).bind fun z_8 =>
 (bin BinOp.lss false [] z (D.v (Value.int IntKind.i64 1))).bind fun z_9 => (gate (D.tup []) z_9 false (some z_8)).bind fun z_10 => (gate (D.tup []) z_9 false
 (bin BinOp.lss false [] z_10 (D.v (Value.int IntKind.i64 1)))).bind fun z_11 => (pickD z_9 (D.v (Value.bool true)) z_11).bind fun z_12 => ifD z_12 (some (Out.ret [D.arr 1 [], D.v (Value.bool false)] []))
 ((mkArr 1 [z, z, z_8, z_8]).bind fun a => callK (F_spec_ruRules [x0, a]) fun rs _u => (tupAt (D.tup rs) 0).bind fun y => (tupAt (tupCut (D.tup rs) 0) 1).bind fun z => some (Out.ret [y, z] [])))) := by kernel_rfl
theorem t_spec_l1Num (n : Nat) (x0 : D) : R_spec_l1Num (n + 1) [x0] =
  ((bin BinOp.lss false [] x0 (D.v (Value.int IntKind.i64 10))).bind fun z => ifD z ((bin BinOp.add false [] (D.v (Value.int IntKind.i64 48)) x0).bind fun z => (convD (some IntKind.u8) false z).bind fun z =>
 (mkArr 1 [z]).bind fun a => (strD a).bind fun z => some (Out.ret [z] [])) ((bin BinOp.quo false [] x0 (D.v (Value.int IntKind.i64 10))).bind fun z => callK (R_spec_l1Num n [z]) fun rs _u =>
 (bin BinOp.rem false [] x0 (D.v (Value.int IntKind.i64 10))).bind fun z => (bin BinOp.add false [] (D.v (Value.int IntKind.i64 48)) z).bind fun z => (convD (some IntKind.u8) false z).bind fun z =>
 (mkArr 1 [z]).bind fun a => (strD a).bind fun z => (bin BinOp.add false [] (sl rs 0) z).bind fun z => some (Out.ret [z] []))) := by kernel_rfl
theorem t_spec_ruText (x0 : D) : F_spec_ruText [x0] =
  ((lenD false x0).bind fun z => (loopC (fun s => (bin BinOp.lss false [] (sl s 3) (sl s 2)).bind fun z => ifD z ((Option.map D.ptr (elemD 2 (sl s 1) (sl s 3))).bind fun z => ((ldD true 2 z).bind chkV).bind fun z =>
 (stD 2 (D.agg [D.v (Value.int IntKind.i64 0), D.v (Value.int IntKind.i64 0)]) (D.ref 0 0) z).bind fun b => (liveD b (D.ref 0 1)).bind fun z => ((atD b z).bind (takeD false 1)).bind fun z =>
 callK (F_spec_l1Num [z]) fun rs _u => (bin BinOp.add false [] (sl rs 0) (D.v (Value.string { data := { toList := [120] } }))).bind fun z => (liveD b (D.ref 0 0)).bind fun z_1 =>
 ((atD b z_1).bind (takeD false 1)).bind fun z_2 => callK (F_spec_l1Num [z_2]) fun rs _u => (bin BinOp.add false [] z (sl rs 0)).bind fun z => (bin BinOp.add false [] z
 (D.v (Value.string { data := { toList := [32] } }))).bind fun z => (bin BinOp.add false [] (sl s 0) z).bind fun z => (bin BinOp.add false [] (sl s 3) (D.v (Value.int IntKind.i64 1))).bind
 fun z_3 => some (Out.nrm [z, sl s 1, sl s 2, z_3])) (some (Out.ext 0 [sl s 0]))) [D.v (Value.string { data := { toList := [] } }), x0, z, D.v (Value.int IntKind.i64 0)]).bind
 fun o => outK o (fun i s => ifN (i.beq 0) (some (Out.ret [sl s 0] [])) none) fun a b => some (Out.ret a b)) := by kernel_rfl
theorem t_spec_StockText (x0 : D) : F_spec_StockText [x0] =
  (callK (F_spec_ruGood [x0]) fun rs _u => (un UnOp.not (sl rs 0)).bind fun z => ifD z (some (Out.ret [D.v (Value.string { data := { toList := [] } }), D.v (Value.bool false)] []))
 (callK (F_spec_ruText [x0]) fun rs _u => some (Out.ret [sl rs 0, D.v (Value.bool true)] []))) := by kernel_rfl
theorem t_spec_l1Cur_spoilt (x0 x1 x2 : D) : F_spec_l1Cur_spoilt [x0, x1, x2] =
  ((liveD x0 (D.ref 0 0)).bind fun z => (ref0 z x0).bind fun i => (liveD i i).bind fun i => callK (F_spec_l1Cur_pick [i, D.v (Value.int IntKind.i64 2)]) fun rs us =>
 (bin BinOp.add false [] (D.v (Value.int IntKind.i64 1)) (sl rs 0)).bind fun z => (loopC (fun s => (bin BinOp.gtr false [] (sl s 3) (D.v (Value.int IntKind.i64 0))).bind fun z =>
 (gate (D.tup []) z true (some (sl s 1))).bind fun z_1 => (gate (D.tup []) z true (lenD true z_1)).bind fun z_2 => (gate (D.tup []) z true (bin BinOp.gtr false [] z_2 (D.v (Value.int IntKind.i64 0)))).bind fun z_3 =>
 (pickD z z_3 (D.v (Value.bool false))).bind fun z => ifD z ((liveD (sl s 0) (D.ref 0 0)).bind fun z => (lenD true (sl s 1)).bind fun z_4 => (ref0 z (sl s 0)).bind fun i => (liveD i i).bind fun i =>
 callK (F_spec_l1Cur_pick [i, z_4]) fun rs us => (liveD (sl us 0) (D.ref 0 0)).bind fun z => (lenD true (sl s 2)).bind fun z_5 => (ref0 z (sl us 0)).bind fun i => (liveD i i).bind fun i =>
 callK (F_spec_l1Cur_pick [i, z_5]) fun rs_1 us => (charD (sl s 2) (sl rs_1 0)).bind fun z => (mkArr 1 [z]).bind fun a => (strD a).bind fun z => (liveD (sl us 0) (D.ref 0 0)).bind fun z_6 =>
 (ref0 z_6 (sl us 0)).bind fun i => (liveD i i).bind fun i => callK (F_spec_l1Cur_pick [i, D.v (Value.int IntKind.i64 3)]) fun rs_2 us => (bin BinOp.eql false [] (sl rs_2 0) (D.v (Value.int IntKind.i64 0))).bind fun z_7 =>
 ifD z_7 ((sliceD true 0 (sl s 1) (D.v (Value.int IntKind.i64 0)) (sl rs 0)).bind fun z_8 => (bin BinOp.add false [] z_8 z).bind fun z => (sliceHi true 0 (sl s 1) (sl rs 0)).bind fun z_9 =>
 (bin BinOp.add false [] z z_9).bind fun z => (bin BinOp.sub false [] (sl s 3) (D.v (Value.int IntKind.i64 1))).bind fun z_10 => some (Out.nrm [sl us 0, z, sl s 2, z_10])) ((bin BinOp.eql false [] (sl rs_2 0)
 (D.v (Value.int IntKind.i64 1))).bind fun z_8 => ifD z_8 ((sliceD true 0 (sl s 1) (D.v (Value.int IntKind.i64 0)) (sl rs 0)).bind fun z_9 => (bin BinOp.add false [] z_9 z).bind fun z => (bin BinOp.add false [] (sl rs 0)
 (D.v (Value.int IntKind.i64 1))).bind fun z_10 => (sliceHi true 0 (sl s 1) z_10).bind fun z_11 => (bin BinOp.add false [] z z_11).bind fun z => (bin BinOp.sub false [] (sl s 3) (D.v (Value.int IntKind.i64 1))).bind
 fun z_12 => some (Out.nrm [sl us 0, z, sl s 2, z_12])) ((sliceD true 0 (sl s 1) (D.v (Value.int IntKind.i64 0)) (sl rs 0)).bind fun z => (bin BinOp.add false [] (sl rs 0) (D.v (Value.int IntKind.i64 1))).bind fun z_9 =>
 (sliceHi true 0 (sl s 1) z_9).bind fun z_10 => (bin BinOp.add false [] z z_10).bind fun z => (bin BinOp.sub false [] (sl s 3) (D.v (Value.int IntKind.i64 1))).bind fun z_11 => some (Out.nrm [sl us 0, z, sl s 2, z_11]))))
 (some (Out.ext 0 [sl s 0, sl s 1]))) [sl us 0, x1, x2, z]).bind fun o => outK o (fun i s => ifN (i.beq 0) ((liveD (sl s 0) (sl s 0)).bind fun _u => some (Out.ret [sl s 1] [sl s 0])) none) fun a b => some (Out.ret a b)) := by kernel_rfl
theorem t_spec_l1Cur_of (x0 x1 : D) : F_spec_l1Cur_of [x0, x1] =
  ((liveD x0 (D.ref 0 0)).bind fun z => (lenD false x1).bind fun z_1 => (ref0 z x0).bind fun i => (liveD i i).bind fun i => callK (F_spec_l1Cur_pick [i, z_1]) fun rs us =>
 (Option.map D.ptr (elemD 1 x1 (sl rs 0))).bind fun z => ((ldD false 1 z).bind chkV).bind fun z => (liveD (sl us 0) (sl us 0)).bind fun _u => some (Out.ret [z] [sl us 0])) := by kernel_rfl
theorem t_spec_DrawParseStock (x0 : D) : F_spec_DrawParseStock [x0] =
  ((bldD [(0, 1)] [D.arr 1 [], D.v (Value.int IntKind.i64 0), D.v (Value.int IntKind.u64 0)] [x0]).bind fun z => (boxD 3 z).bind fun y => (liveD y (D.ref 0 0)).bind fun z => (liveD z z).bind fun z_1 =>
 (ref0 z_1 y).bind fun i => (liveD i i).bind fun i => callK (F_spec_l1Cur_stock [i]) fun rs us => callK (F_spec_ruGood [sl rs 0]) fun rs_1 _u => ifD (sl rs_1 0) (callK (F_spec_ruText [sl rs 0]) fun rs _u =>
 (liveD z z).bind fun z_2 => (ref0 z_2 (sl us 0)).bind fun i => (liveD i i).bind fun i => callK (F_spec_l1Cur_pick [i, D.v (Value.int IntKind.i64 5)]) fun rs_2 us =>
 (bin BinOp.eql false [] (sl rs_2 0) (D.v (Value.int IntKind.i64 0))).bind fun z_3 => ifD z_3 ((liveD z z).bind fun z => (ref0 z (sl us 0)).bind fun i => (liveD i i).bind fun i => callK (F_spec_l1Cur_spoilt [i, sl rs 0,
 D.v (Value.string { data := { toList := [120, 32, 45, 48, 49, 50] } })]) fun rs _u => some (Out.ret [sl rs 0] [])) ((bin BinOp.eql false [] (sl rs_2 0) (D.v (Value.int IntKind.i64 1))).bind fun z_4 => ifD z_4
 ((liveD z z).bind fun z => (mkArr 1 [D.v (Value.string { data := { toList := [] } }), D.v (Value.string { data := { toList := [32] } }), D.v (Value.string { data := { toList := [49, 120, 49] } }),
 D.v (Value.string { data := { toList := [49, 120, 49, 32] } }), D.v (Value.string { data := { toList := [50, 49, 120, 53, 32] } }), D.v (Value.string { data := { toList := [48, 120, 53, 32] } }),
 D.v (Value.string { data := { toList := [49, 120, 50, 48, 49, 32] } }), D.v (Value.string { data := { toList := [49, 120, 53, 32, 49, 120, 53, 32] } }), D.v (Value.string { data := { toList := [48, 49, 120, 53, 32] } }),
 D.v (Value.string { data := { toList := [49, 120, 120, 53, 32] } })]).bind fun a => (ref0 z (sl us 0)).bind fun i => (liveD i i).bind fun i => callK (F_spec_l1Cur_of [i, a]) fun rs _u => some (Out.ret [sl rs 0] []))
 (some (Out.ret [sl rs 0] [])))) ((liveD z z).bind fun z_2 => (ref0 z_2 (sl us 0)).bind fun i => (liveD i i).bind fun i => callK (F_spec_l1Cur_pick [i, D.v (Value.int IntKind.i64 5)]) fun rs us =>
 (bin BinOp.eql false [] (sl rs 0) (D.v (Value.int IntKind.i64 0))).bind fun z_3 => ifD z_3 ((liveD z z).bind fun z => (ref0 z (sl us 0)).bind fun i => (liveD i i).bind fun i => callK (F_spec_l1Cur_spoilt [i, D.v
 (Value.string { data := { toList := [51, 120, 49, 50, 32, 50, 120, 51, 48, 32, 49, 120, 52, 48, 32] } }), D.v (Value.string { data := { toList := [120, 32, 45, 48, 49, 50] } })]) fun rs _u => some (Out.ret [sl rs 0] []))
 ((bin BinOp.eql false [] (sl rs 0) (D.v (Value.int IntKind.i64 1))).bind fun z_4 => ifD z_4 ((liveD z z).bind fun z => (mkArr 1 [D.v (Value.string { data := { toList := [] } }),
 D.v (Value.string { data := { toList := [32] } }), D.v (Value.string { data := { toList := [49, 120, 49] } }), D.v (Value.string { data := { toList := [49, 120, 49, 32] } }),
 D.v (Value.string { data := { toList := [50, 49, 120, 53, 32] } }), D.v (Value.string { data := { toList := [48, 120, 53, 32] } }), D.v (Value.string { data := { toList := [49, 120, 50, 48, 49, 32] } }), D.v (Value.string
 { data := { toList := [49, 120, 53, 32, 49, 120, 53, 32] } }), D.v (Value.string { data := { toList := [48, 49, 120, 53, 32] } }), D.v (Value.string { data := { toList := [49, 120, 120, 53, 32] } })]).bind fun a =>
 (ref0 z (sl us 0)).bind fun i => (liveD i i).bind fun i => callK (F_spec_l1Cur_of [i, a]) fun rs _u => some (Out.ret [sl rs 0] [])) (some (Out.ret [D.v (Value.string { data := { toList :=
 [51, 120, 49, 50, 32, 50, 120, 51, 48, 32, 49, 120, 52, 48, 32] } })] []))))) := by kernel_rfl
theorem t_spec_l1Split (x0 x1 : D) : F_spec_l1Split [x0, x1] =
  ((loopC (fun s => (lenD true (sl s 0)).bind fun z => (bin BinOp.lss false [] (sl s 4) z).bind fun z => ifD z ((charD (sl s 0) (sl s 4)).bind fun z => (bin BinOp.eql false [] z (sl s 1)).bind fun z => ifD z
 ((sliceD true 0 (sl s 0) (sl s 3) (sl s 4)).bind fun z => (mkArr 1 [z]).bind fun a => (chkA a).bind fun b => (appD 1 16 (sl s 2) b).bind fun y =>
 (bin BinOp.add false [] (sl s 4) (D.v (Value.int IntKind.i64 1))).bind fun z => (bin BinOp.add false [] (sl s 4) (D.v (Value.int IntKind.i64 1))).bind fun z_1 => some (Out.nrm [sl s 0, sl s 1, y, z, z_1]))
 ((bin BinOp.add false [] (sl s 4) (D.v (Value.int IntKind.i64 1))).bind fun z => some (Out.nrm [sl s 0, sl s 1, sl s 2, sl s 3, z]))) (some (Out.ext 0 [sl s 0, sl s 2, sl s 3])))
 [x0, x1, D.arr 1 [], D.v (Value.int IntKind.i64 0), D.v (Value.int IntKind.i64 0)]).bind fun o => outK o (fun i s => ifN (i.beq 0) ((sliceHi true 0 (sl s 0) (sl s 2)).bind fun z => (mkArr 1 [z]).bind fun a =>
 (chkA a).bind fun b => (appD 1 16 (sl s 1) b).bind fun y => some (Out.ret [y] [])) none) fun a b => some (Out.ret a b)) := by kernel_rfl
theorem t_spec_l1Read (x0 : D) : F_spec_l1Read [x0] =
  ((lenD true x0).bind fun z => callK (F_spec_l1In [z, D.v (Value.int IntKind.i64 1), D.v (Value.int IntKind.i64 6)]) fun rs _u => (un UnOp.not (sl rs 0)).bind fun z => (gate (D.tup []) z false (some x0)).bind fun z_1 =>
 (gate (D.tup []) z false (charD z_1 (D.v (Value.int IntKind.i64 0)))).bind fun z_2 => (gate (D.tup []) z false (bin BinOp.eql false [] z_2 (D.v (Value.int IntKind.u8 48)))).bind fun z_3 =>
 (gate (D.tup []) z false (some z_3)).bind fun z_4 => (gate (D.tup []) z_4 true (some x0)).bind fun z_5 => (gate (D.tup []) z_4 true (lenD true z_5)).bind fun z_6 =>
 (gate (D.tup []) z_4 true (bin BinOp.gtr false [] z_6 (D.v (Value.int IntKind.i64 1)))).bind fun z_7 => (gate (D.tup []) z false (pickD z_4 z_7 (D.v (Value.bool false)))).bind fun z_8 =>
 (pickD z (D.v (Value.bool true)) z_8).bind fun z => ifD z (some (Out.ret [D.v (Value.int IntKind.i64 (-1))] [])) ((loopC (fun s => (lenD true (sl s 0)).bind fun z => (bin BinOp.lss false [] (sl s 2) z).bind fun z => ifD z
 ((charD (sl s 0) (sl s 2)).bind fun z => (bin BinOp.lss false [] z (D.v (Value.int IntKind.u8 48))).bind fun z => (gate (D.tup []) z false (some (sl s 0))).bind fun z_9 =>
 (gate (D.tup []) z false (some (sl s 2))).bind fun z_10 => (gate (D.tup []) z false (charD z_9 z_10)).bind fun z_11 => (gate (D.tup []) z false (bin BinOp.gtr false [] z_11 (D.v (Value.int IntKind.u8 57)))).bind
 fun z_12 => (pickD z (D.v (Value.bool true)) z_12).bind fun z => ifD z (some (Out.ret [D.v (Value.int IntKind.i64 (-1))] [])) ((bin BinOp.mul false [] (D.v (Value.int IntKind.i64 10)) (sl s 1)).bind fun z =>
 (charD (sl s 0) (sl s 2)).bind fun z_13 => (bin BinOp.sub false [] z_13 (D.v (Value.int IntKind.u8 48))).bind fun z_14 => (convD (some IntKind.i64) false z_14).bind fun z_15 =>
 (bin BinOp.add false [] z z_15).bind fun z => (bin BinOp.add false [] (sl s 2) (D.v (Value.int IntKind.i64 1))).bind fun z_16 => some (Out.nrm [sl s 0, z, z_16]))) (some (Out.ext 0 [sl s 1])))
 [x0, D.v (Value.int IntKind.i64 0), D.v (Value.int IntKind.i64 0)]).bind fun o => outK o (fun i s => ifN (i.beq 0) (some (Out.ret [sl s 0] [])) none) fun a b => some (Out.ret a b))) := by kernel_rfl
theorem t_spec_ParseStock (x0 : D) : F_spec_ParseStock [x0] =
  (callK (F_spec_l1Split [x0, D.v (Value.int IntKind.u8 32)]) fun rs _u => (lenD false (sl rs 0)).bind fun z => (bin BinOp.gtr false [] z (D.v (Value.int IntKind.i64 9))).bind fun z =>
 (gate (D.tup []) z false (some (sl rs 0))).bind fun z_1 => (gate (D.tup []) z false (some (sl rs 0))).bind fun z_2 => (gate (D.tup []) z false (lenD false z_2)).bind fun z_3 =>
 (gate (D.tup []) z false (bin BinOp.sub false [] z_3 (D.v (Value.int IntKind.i64 1)))).bind fun z_4 => (gate (D.tup []) z false (Option.map D.ptr (elemD 1 z_1 z_4))).bind fun z_5 =>
 (gate (D.tup []) z false ((ldD false 1 z_5).bind chkV)).bind fun z_6 => (gate (D.tup []) z false (bin BinOp.neq false [] z_6 (D.v (Value.string { data := { toList := [] } })))).bind fun z_7 =>
 (pickD z (D.v (Value.bool true)) z_7).bind fun z => ifD z (some (Out.ret [D.arr 2 [], D.v (Value.bool false)] [])) ((lenD false (sl rs 0)).bind fun z =>
 (bin BinOp.sub false [] z (D.v (Value.int IntKind.i64 1))).bind fun z => (sliceD false 1 (sl rs 0) (D.v (Value.int IntKind.i64 0)) z).bind fun z => (lenD false z).bind fun z_8 => (loopC (fun s =>
 (bin BinOp.lss false [] (sl s 3) (sl s 2)).bind fun z => ifD z ((Option.map D.ptr (elemD 1 (sl s 1) (sl s 3))).bind fun z => ((ldD false 1 z).bind chkV).bind fun z =>
 callK (F_spec_l1Split [z, D.v (Value.int IntKind.u8 120)]) fun rs _u => (lenD false (sl rs 0)).bind fun z => (bin BinOp.neq false [] z (D.v (Value.int IntKind.i64 2))).bind fun z =>
 ifD z (some (Out.ret [D.arr 2 [], D.v (Value.bool false)] [])) ((Option.map D.ptr (elemD 1 (sl rs 0) (D.v (Value.int IntKind.i64 1)))).bind fun z => ((ldD false 1 z).bind chkV).bind fun z =>
 callK (F_spec_l1Read [z]) fun rs_1 _u => (Option.map D.ptr (elemD 1 (sl rs 0) (D.v (Value.int IntKind.i64 0)))).bind fun z => ((ldD false 1 z).bind chkV).bind fun z => callK (F_spec_l1Read [z]) fun rs _u =>
 (bldD [(0, 1), (1, 1)] [D.v (Value.int IntKind.i64 0), D.v (Value.int IntKind.i64 0)] [sl rs_1 0, sl rs 0]).bind fun z => (mkArr 2 [z]).bind fun a => (chkA a).bind fun b => (appD 2 16 (sl s 0) b).bind fun y =>
 (bin BinOp.add false [] (sl s 3) (D.v (Value.int IntKind.i64 1))).bind fun z => some (Out.nrm [y, sl s 1, sl s 2, z]))) (some (Out.ext 0 [sl s 0]))) [D.arr 2 [], z, z_8, D.v (Value.int IntKind.i64 0)]).bind fun o =>
 outK o (fun i s => ifN (i.beq 0) (callK (F_spec_ruIf [sl s 0]) fun rs _u => (tupAt (D.tup rs) 0).bind fun z => (tupAt (D.tup rs) 1).bind fun z_9 => some (Out.ret [z, z_9] [])) none) fun a b => some (Out.ret a b))) := by kernel_rfl
theorem t_impl_numbersIn (x0 : D) : F_impl_numbersIn [x0] =
  ((mkArr 1 []).bind fun a => callK (fFieldsFunc 90 isSep [x0, D.clo 90 []]) fun rs _u => (lenD false (sl rs 0)).bind fun z => (loopC (fun s => (bin BinOp.lss false [] (sl s 3) (sl s 2)).bind fun z => ifD z
 ((Option.map D.ptr (elemD 1 (sl s 1) (sl s 3))).bind fun z => ((ldD false 1 z).bind chkV).bind fun z => callK (fAtoi [z]) fun rs _u => (tupAt (D.tup rs) 0).bind fun z => (tupAt (D.tup rs) 1).bind fun z_1 =>
 (binI true BinOp.neq z_1 (D.v Value.nilIface)).bind fun z_2 => ifD z_2 ((mkArr 1 []).bind fun a => some (Out.ret [a] [])) ((mkArr 1 [z]).bind fun a => (chkA a).bind fun b => (appD 1 8 (sl s 0) b).bind fun y =>
 (bin BinOp.add false [] (sl s 3) (D.v (Value.int IntKind.i64 1))).bind fun z => some (Out.nrm [y, sl s 1, sl s 2, z]))) (some (Out.ext 0 [sl s 0]))) [a, sl rs 0, z, D.v (Value.int IntKind.i64 0)]).bind
 fun o => outK o (fun i s => ifN (i.beq 0) (some (Out.ret [sl s 0] [])) none) fun a b => some (Out.ret a b)) := by kernel_rfl
theorem t_laws_big (x0 x1 : D) : F_laws_big [x0, x1] =
  ((lenD false x0).bind fun z => (bin BinOp.gtr false [] z (D.v (Value.int IntKind.i64 1048576))).bind fun z => (gate (D.tup []) z false (some x1)).bind fun z_1 => (gate (D.tup []) z false (lenD false z_1)).bind fun z_2 =>
 (gate (D.tup []) z false (some x0)).bind fun z_3 => (gate (D.tup []) z false (lenD false z_3)).bind fun z_4 => (gate (D.tup []) z false (bin BinOp.sub false [] (D.v (Value.int IntKind.i64 1048576)) z_4)).bind fun z_5 =>
 (gate (D.tup []) z false (bin BinOp.gtr false [] z_2 z_5)).bind fun z_6 => (pickD z (D.v (Value.bool true)) z_6).bind fun z => some (Out.ret [z] [])) := by kernel_rfl
end Go.Proofs.YtoocdnbkiejihaaDoor
