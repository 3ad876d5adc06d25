/-
  Contexts and contracts of functions, printed by gen.py.
-/
import Derived.Test.YtoocdnbkiejihaaDoorRows
import Derived.Test.YtoocdnbkiejihaaDoorTie
import Derived.Test.YtoocdnbkiejihaaDoorCards
import Derived.Test.YtoocdnbkiejihaaDoorM8
namespace Go.Proofs.YtoocdnbkiejihaaDoor
open Go.V
set_option maxRecDepth 100000
@[reducible] def ty4 : TI := { n := 1, zero := [.v (.bool false)], bl := true }
/-- loop.example/g01054/impl.StockText -/
@[reducible] noncomputable def c_impl_StockText : Cx := { K := [.dat 2, .no, .dat 0, .dat 0, .dat 2, .dat 0, .dat 0, .dat 2, .dat 0], T := [], S := [(11, S_impl_IsStock), (63, S_impl_stockText)], H := [], res := [.tmp 2, .tmp 3], ios := [], G := gl1 }
noncomputable def F_impl_StockText : List D → Option Out := denF c_impl_StockText Tryd.f22
@[reducible] noncomputable def S_impl_StockText : FS := { pm := [.dat 2], rm := [.dat 0, .dat 0], f := F_impl_StockText }
theorem M_impl_StockText : Meets gl1 Tryd.prog 22 S_impl_StockText := meets_of (P := Tryd.prog) (c := c_impl_StockText) (fn := Tryd.f22) (pm := S_impl_StockText.pm) (rm := S_impl_StockText.rm) (by kernel_rfl) (lookCons (meets_mono gl01 M_impl_IsStock) (lookCons M_impl_stockText lookNil)) follows_mixed Tryd.func22 (by kernel_rfl) (by kernel_rfl) rfl
/-- loop.example/g01054/impl.ParseStock -/
@[reducible] noncomputable def c_impl_ParseStock : Cx := { K := [.dat 0, .no, .own 2 0 false, .dat 0, .own 2 0 false, .dat 1, .own 2 0 false, .dat 0, .dat 1, .dat 1, .dat 0, .dat 0, .dat 1, .dat 1, .own 2 0 false, .dat 1, .dat 1, .dat 0, .dat 1, .dat 1, .dat 0, .dat 0, .dat 1, .own 2 0 false, .via 4, .dat 0, .dat 0, .dat 0, .via 4, .dat 0, .dat 0, .dat 0, .dat 0, .own 2 0 false, .own 2 0 false], T := [(3, ty3), (9, ty9), (24, ty24), (36, ty36), (44, ty44)], S := [(11, S_impl_IsStock), (63, S_impl_stockText), (67, S_impl_numbersIn)], H := [(0, ([0, 4, 5], [0, 4]))], res := [.tmp 2, .tmp 3], ios := [], G := gl2 }
noncomputable def F_impl_ParseStock : List D → Option Out := denF c_impl_ParseStock Tryd.f25
@[reducible] noncomputable def S_impl_ParseStock : FS := { pm := [.dat 0], rm := [.own 2 0 false, .dat 0], f := F_impl_ParseStock }
theorem M_impl_ParseStock : Meets gl2 Tryd.prog 25 S_impl_ParseStock := meets_of (P := Tryd.prog) (c := c_impl_ParseStock) (fn := Tryd.f25) (pm := S_impl_ParseStock.pm) (rm := S_impl_ParseStock.rm) (by kernel_rfl) (lookCons (meets_mono gl02 M_impl_IsStock) (lookCons (meets_mono gl12 M_impl_stockText) (lookCons M_impl_numbersIn lookNil))) follows_mixed Tryd.func25 (by kernel_rfl) (by kernel_rfl) rfl
/-- loop.example/g01054/laws.FnStocks -/
@[reducible] noncomputable def c_laws_FnStocks : Cx := { K := [.dat 2, .dat 2, .no, .no, .dat 0, .dat 1, .dat 0, .dat 0, .dat 2, .dat 0, .dat 2, .dat 0, .dat 0, .dat 0, .dat 0, .dat 0, .dat 1, .dat 1, .dat 2, .dat 0, .dat 2, .dat 0, .dat 0, .dat 0, .dat 0, .dat 0, .dat 0, .dat 0, .dat 1, .dat 1, .dat 1, .dat 0, .dat 1, .dat 0, .dat 0, .dat 1, .dat 0, .dat 0, .dat 0, .dat 1, .dat 0, .dat 0, .dat 0, .dat 1, .dat 0, .dat 1, .dat 0, .dat 0, .dat 0, .dat 0, .dat 0, .dat 0, .dat 1, .dat 0, .dat 2, .dat 0, .dat 1, .dat 0, .dat 2, .dat 2, .dat 0, .tup [.dat 1, .dat 0, .dat 0], .dat 2, .tup [.dat 1, .dat 0, .dat 0], .dat 1, .dat 0, .dat 0, .tup [.dat 2, .dat 0], .dat 1, .dat 0, .dat 0, .tup [.dat 2, .dat 0], .dat 2, .dat 0, .tup [.dat 2, .dat 0], .dat 1, .dat 0, .dat 0, .tup [.dat 2, .dat 0], .dat 2, .dat 0, .dat 0, .dat 0, .dat 0, .dat 0, .dat 2, .dat 2, .dat 0, .dat 0, .dat 0, .dat 0, .tup [.dat 0, .dat 0], .dat 1, .tup [.dat 0, .dat 0], .dat 0, .dat 0, .tup [.dat 0, .dat 0], .dat 2, .tup [.dat 0, .dat 0], .dat 0, .dat 0, .dat 0, .dat 0, .dat 0, .dat 0, .dat 0, .dat 0, .dat 0, .dat 0, .dat 0, .dat 0, .dat 0, .dat 0, .dat 2, .dat 0, .dat 0, .dat 0, .tup [.own 2 0 false, .own 2 0 false], .dat 2, .tup [.own 2 0 false, .own 2 0 false], .dat 1, .dat 1, .tup [.dat 2, .dat 0], .dat 1, .dat 1, .tup [.dat 2, .dat 0], .dat 2, .dat 0, .tup [.dat 2, .dat 0], .dat 1, .dat 1, .tup [.dat 2, .dat 0], .dat 2, .dat 0, .dat 0, .dat 0, .dat 0, .dat 0, .dat 2, .dat 2, .dat 0, .dat 0, .dat 0, .dat 0, .tup [.dat 0, .dat 0], .dat 1, .tup [.dat 0, .dat 0], .dat 0, .dat 0, .tup [.dat 0, .dat 0], .dat 1, .tup [.dat 0, .dat 0], .dat 0, .dat 0, .tup [.dat 0, .dat 0], .dat 2, .tup [.dat 0, .dat 0], .dat 0, .dat 0, .dat 0, .dat 0, .dat 0, .dat 0, .dat 0, .dat 0, .dat 0, .dat 0, .dat 0, .dat 0, .dat 0, .dat 0, .dat 0, .dat 0, .dat 0, .dat 0, .dat 0, .tup [.own 2 0 false, .own 1 0 false], .dat 2, .tup [.own 2 0 false, .own 1 0 false], .dat 1, .dat 1, .tup [.own 1 1 false, .dat 0], .dat 1, .dat 1, .tup [.own 1 1 false, .dat 0], .dat 1, .dat 0, .tup [.own 1 1 false, .dat 0], .dat 1, .dat 1, .tup [.own 1 1 false, .dat 0], .dat 1, .dat 0, .dat 0, .dat 0, .dat 0, .dat 0, .dat 1, .dat 1, .dat 0, .dat 0, .dat 0, .dat 0, .dat 1, .dat 0, .dat 0, .dat 0, .dat 0, .dat 1, .dat 1, .dat 1, .dat 0, .dat 0, .dat 0, .dat 0, .dat 1, .dat 0, .dat 0, .dat 0, .dat 1, .dat 0, .dat 1, .dat 1, .dat 0, .dat 0, .dat 0, .dat 0, .dat 0, .dat 1, .dat 0, .dat 1, .dat 0, .dat 0, .dat 0, .tup [.own 2 0 false, .dat 0, .dat 0, .dat 0], .dat 2, .tup [.own 2 0 false, .dat 0, .dat 0, .dat 0], .dat 1, .dat 0, .dat 0, .dat 0, .tup [.own 1 1 false, .dat 0], .dat 1, .dat 0, .dat 0, .dat 0, .tup [.own 1 1 false, .dat 0], .dat 1, .dat 0, .tup [.own 1 1 false, .dat 0], .dat 1, .dat 0, .dat 0, .dat 0, .tup [.own 1 1 false, .dat 0], .dat 1, .dat 0, .tup [.dat 0, .dat 0], .dat 1, .tup [.dat 0, .dat 0], .dat 0, .dat 0, .tup [.dat 0, .dat 0], .dat 1, .tup [.dat 0, .dat 0], .dat 0, .dat 0, .dat 2, .dat 0, .tup [.own 2 0 false, .dat 0], .dat 0, .tup [.own 2 0 false, .dat 0], .dat 1, .dat 0, .tup [.dat 2, .dat 0], .dat 0, .tup [.dat 2, .dat 0], .dat 2, .dat 0, .dat 0, .dat 0, .dat 0, .dat 0, .dat 1, .dat 1, .dat 0, .dat 0, .dat 0, .dat 0, .dat 0, .dat 0, .dat 1, .dat 0, .dat 0, .dat 0, .dat 0, .dat 0, .dat 0, .dat 0, .dat 0, .dat 0, .dat 0, .dat 0, .dat 0, .dat 0, .dat 0, .dat 0, .dat 0, .dat 0, .dat 0, .dat 0, .dat 0, .dat 1, .dat 2, .dat 0, .dat 0, .dat 0, .dat 0, .dat 0, .dat 1, .dat 0, .dat 0, .dat 0, .dat 0, .tup [.own 2 0 false, .dat 0], .dat 0, .tup [.own 2 0 false, .dat 0], .dat 1, .dat 0, .dat 0, .dat 0, .dat 1, .dat 1, .dat 0, .dat 0], T := [(3, ty3), (4, ty4), (9, ty9), (24, ty24), (36, ty36), (39, ty39), (44, ty44)], S := [(5, S_laws_big), (6, S_spec_DrawCutSlip), (7, S_impl_CutSlip), (8, S_spec_CutSlip), (9, S_laws_pSameSlips), (10, S_impl_StockLength), (11, S_impl_IsStock), (12, S_spec_DrawJoinStocks), (13, S_impl_JoinStocks), (14, S_spec_JoinStocks), (15, S_spec_DrawRulesOf), (16, S_impl_RulesOf), (17, S_spec_RulesOf), (18, S_laws_sameLists), (19, S_spec_DrawFrameOf), (20, S_impl_FrameOf), (21, S_spec_FrameOf), (22, S_impl_StockText), (23, S_spec_StockText), (24, S_spec_DrawParseStock), (25, S_impl_ParseStock), (26, S_spec_ParseStock)], H := [(0, ([1, 5, 28, 29, 203, 204, 205], [1, 5])), (2, ([1, 5, 28, 29, 34, 36, 203, 204, 205, 210, 211, 212], [1, 5, 28, 29, 34, 36, 203, 204, 205]))], res := [.tmp 4], ios := [], G := gl2 }
@[reducible] def J_laws_FnStocks : List (Nat × List Nat) := [(127, [1, 5]), (4095, [1, 5]), (131071, [1, 5])]
noncomputable def F_laws_FnStocks : List D → Option Out := denFJ c_laws_FnStocks J_laws_FnStocks Tryd.f3
@[reducible] noncomputable def S_laws_FnStocks : FS := { pm := [.dat 2, .dat 2], rm := [.dat 0], f := F_laws_FnStocks }
theorem M_laws_FnStocks : Meets gl2 Tryd.prog 3 S_laws_FnStocks := meets_ofJ (J := J_laws_FnStocks) (P := Tryd.prog) (c := c_laws_FnStocks) (fn := Tryd.f3) (pm := S_laws_FnStocks.pm) (rm := S_laws_FnStocks.rm) (by kernel_rfl) (lookCons (meets_mono gl02 M_laws_big) (lookCons (meets_mono gl02 M_spec_DrawCutSlip) (lookCons (meets_mono gl02 M_impl_CutSlip) (lookCons (meets_mono gl02 M_spec_CutSlip) (lookCons (meets_mono gl02 M_laws_pSameSlips) (lookCons (meets_mono gl02 M_impl_StockLength) (lookCons (meets_mono gl02 M_impl_IsStock) (lookCons (meets_mono gl02 M_spec_DrawJoinStocks) (lookCons (meets_mono gl02 M_impl_JoinStocks) (lookCons (meets_mono gl02 M_spec_JoinStocks) (lookCons (meets_mono gl02 M_spec_DrawRulesOf) (lookCons (meets_mono gl02 M_impl_RulesOf) (lookCons (meets_mono gl02 M_spec_RulesOf) (lookCons (meets_mono gl02 M_laws_sameLists) (lookCons (meets_mono gl02 M_spec_DrawFrameOf) (lookCons (meets_mono gl02 M_impl_FrameOf) (lookCons (meets_mono gl02 M_spec_FrameOf) (lookCons (meets_mono gl12 M_impl_StockText) (lookCons (meets_mono gl02 M_spec_StockText) (lookCons (meets_mono gl02 M_spec_DrawParseStock) (lookCons M_impl_ParseStock (lookCons (meets_mono gl02 M_spec_ParseStock) lookNil)))))))))))))))))))))) follows_mixed (by kernel_rfl) Tryd.func3 (by kernel_rfl) (by kernel_rfl) rfl
end Go.Proofs.YtoocdnbkiejihaaDoor
/-
  What the functions compute: their evaluated texts, printed.
-/
namespace Go.Proofs.YtoocdnbkiejihaaDoor
open Go Go.V
theorem t_impl_StockText (x0 : D) : F_impl_StockText [x0] =
  (callK (F_impl_IsStock [x0]) fun rs _u => (un UnOp.not (sl rs 0)).bind fun z => ifD z (some (Out.ret [D.v (Value.string { data := { toList := [] } }), D.v (Value.bool false)] []))
 (callK (fStock [x0]) fun rs _u => some (Out.ret [sl rs 0, D.v (Value.bool true)] []))) := by kernel_rfl
theorem t_impl_ParseStock (x0 : D) : F_impl_ParseStock [x0] =
  ((mkArr 2 []).bind fun a => callK (F_impl_numbersIn [x0]) fun rs _u => (loopC (fun s => (lenD false (sl s 2)).bind fun z => (bin BinOp.geq false [] z (D.v (Value.int IntKind.i64 2))).bind fun z => ifD z
 ((Option.map D.ptr (elemD 1 (sl s 2) (D.v (Value.int IntKind.i64 1)))).bind fun z => ((ldD false 1 z).bind chkV).bind fun z => (Option.map D.ptr (elemD 1 (sl s 2) (D.v (Value.int IntKind.i64 0)))).bind fun z_1 =>
 ((ldD false 1 z_1).bind chkV).bind fun z_2 => (bldD [(0, 1), (1, 1)] [D.v (Value.int IntKind.i64 0), D.v (Value.int IntKind.i64 0)] [z, z_2]).bind fun z => (mkArr 2 [z]).bind fun a => (chkA a).bind fun b =>
 (appD 2 16 (sl s 1) b).bind fun y => (sliceHi false 1 (sl s 2) (D.v (Value.int IntKind.i64 2))).bind fun z => some (Out.nrm [sl s 0, y, z])) (some (Out.ext 0 [sl s 0, sl s 1]))) [x0, a, sl rs 0]).bind fun o => outK o
 (fun i s => ifN (i.beq 0) ((liveD (sl s 1) (D.ref 0 0)).bind fun z => (liveD z (sl s 1)).bind fun i => callK (F_impl_IsStock [i]) fun rs _u => (un UnOp.not (sl rs 0)).bind fun z =>
 (gate D.bad z false (liveD (sl s 1) (D.ref 0 0))).bind fun z_1 => gateC z false ((liveD z_1 (sl s 1)).bind fun i => callK (fStock [i]) fun rs _u => some (Out.nrm [sl rs 0])) [D.tup []] fun outs =>
 (gate (D.tup []) z false (some (sl s 0))).bind fun z_2 => (gate (D.tup []) z false (bin BinOp.neq false [] (sl outs 0) z_2)).bind fun z_3 => (pickD z (D.v (Value.bool true)) z_3).bind fun z =>
 ifD z ((mkArr 2 []).bind fun a => some (Out.ret [a, D.v (Value.bool false)] [])) (some (Out.ret [sl s 1, D.v (Value.bool true)] []))) none) fun a b => some (Out.ret a b)) := by kernel_rfl
theorem t_laws_FnStocks (x0 x1 : D) : F_laws_FnStocks [x0, x1] =
  (callK (F_laws_big [x0, x1]) fun rs _u => ifD (sl rs 0) (some (Out.ret [D.v (Value.bool true)] [])) (callK (F_spec_DrawCutSlip [x0]) fun rs _u => (tupAt (D.tup rs) 0).bind fun z => (tupAt (D.tup rs) 1).bind fun z_1 =>
 (tupAt (D.tup rs) 2).bind fun z_2 => callK (F_impl_CutSlip [z, z_1, z_2]) fun rs _u => (tupAt (D.tup rs) 0).bind fun z_3 => (tupAt (D.tup rs) 1).bind fun z_4 => callK (F_spec_CutSlip [z, z_1, z_2]) fun rs _u =>
 (tupAt (D.tup rs) 0).bind fun z_5 => (tupAt (D.tup rs) 1).bind fun z_6 => (bin BinOp.neq true [] z_4 z_6).bind fun z_7 => (gate (D.tup []) z_7 false (some z_3)).bind fun z_8 =>
 (gate (D.tup []) z_7 false (some z_5)).bind fun z_9 => gateC z_7 false (callK (F_laws_pSameSlips [z_8, z_9]) fun rs _u => some (Out.nrm [sl rs 0])) [D.tup []] fun outs =>
 (gate (D.tup []) z_7 false (un UnOp.not (sl outs 0))).bind fun z_10 => (pickD z_7 (D.v (Value.bool true)) z_10).bind fun z_11 => ifD z_11 (some (Out.ret [D.v (Value.bool false)] [])) (joinC (fun j => ifD z_4
 (callK (F_impl_StockLength [z]) fun rs _u => (tupAt (D.tup rs) 0).bind fun z_12 => (tupAt (D.tup rs) 1).bind fun z_13 => callK (F_impl_StockLength [z_3]) fun rs _u => (tupAt (D.tup rs) 0).bind fun z_14 =>
 (tupAt (D.tup rs) 1).bind fun z_15 => (un UnOp.not z_13).bind fun z_16 => (gate (D.tup []) z_16 false (some z_15)).bind fun z_17 => (gate (D.tup []) z_16 false (un UnOp.not z_17)).bind fun z_18 =>
 (pickD z_16 (D.v (Value.bool true)) z_18).bind fun z_19 => (gate (D.tup []) z_19 false (some z_12)).bind fun z_20 => (gate (D.tup []) z_19 false (some z_14)).bind fun z_21 => (gate (D.tup []) z_19 false
 (bin BinOp.neq false [] z_20 z_21)).bind fun z_22 => (pickD z_19 (D.v (Value.bool true)) z_22).bind fun z_23 => (gate (D.tup []) z_23 false (some z_3)).bind fun z_24 => gateC z_23 false (callK (F_impl_IsStock [z_24])
 fun rs _u => some (Out.nrm [sl rs 0])) [D.tup []] fun outs => (gate (D.tup []) z_23 false (un UnOp.not (sl outs 0))).bind fun z_25 => (pickD z_23 (D.v (Value.bool true)) z_25).bind fun z_26 => ifD z_26 (some
 (Out.ret [D.v (Value.bool false)] [])) (j [x1, z])) (j [x1, z])) fun s => callK (F_spec_DrawJoinStocks [sl s 0]) fun rs _u => (tupAt (D.tup rs) 0).bind fun y => (tupAt (tupCut (D.tup rs) 0) 1).bind fun y_1 =>
 callK (F_impl_JoinStocks [y, y_1]) fun rs _u => (tupAt (D.tup rs) 0).bind fun z => (tupAt (D.tup rs) 1).bind fun z_12 => callK (F_spec_JoinStocks [y, y_1]) fun rs _u => (tupAt (D.tup rs) 0).bind fun z_13 =>
 (tupAt (D.tup rs) 1).bind fun z_14 => (bin BinOp.neq true [] z_12 z_14).bind fun z_15 => (gate (D.tup []) z_15 false (some z)).bind fun z_16 => (gate (D.tup []) z_15 false (some z_13)).bind fun z_17 => gateC z_15 false
 (callK (F_laws_pSameSlips [z_16, z_17]) fun rs _u => some (Out.nrm [sl rs 0])) [D.tup []] fun outs => (gate (D.tup []) z_15 false (un UnOp.not (sl outs 0))).bind fun z_18 => (pickD z_15 (D.v (Value.bool true)) z_18).bind
 fun z_19 => ifD z_19 (some (Out.ret [D.v (Value.bool false)] [])) (joinC (fun j => ifD z_12 (callK (F_impl_StockLength [y]) fun rs _u => (tupAt (D.tup rs) 0).bind fun z_20 => (tupAt (D.tup rs) 1).bind fun z_21 =>
 callK (F_impl_StockLength [y_1]) fun rs _u => (tupAt (D.tup rs) 0).bind fun z_22 => (tupAt (D.tup rs) 1).bind fun z_23 => callK (F_impl_StockLength [z]) fun rs _u => (tupAt (D.tup rs) 0).bind fun z => (tupAt (D.tup rs)
 1).bind fun z_24 => (un UnOp.not z_21).bind fun z_25 => (gate (D.tup []) z_25 false (some z_23)).bind fun z_26 => (gate (D.tup []) z_25 false (un UnOp.not z_26)).bind fun z_27 => (pickD z_25 (D.v (Value.bool true))
 z_27).bind fun z_28 => (gate (D.tup []) z_28 false (some z_24)).bind fun z_29 => (gate (D.tup []) z_28 false (un UnOp.not z_29)).bind fun z_30 => (pickD z_28 (D.v (Value.bool true)) z_30).bind fun z_31 => (gate (D.tup [])
 z_31 false (some z_20)).bind fun z_32 => (gate (D.tup []) z_31 false (some z_22)).bind fun z_33 => (gate (D.tup []) z_31 false (bin BinOp.add false [] z_32 z_33)).bind fun z_34 => (gate (D.tup []) z_31 false (some
 z)).bind fun z => (gate (D.tup []) z_31 false (bin BinOp.neq false [] z_34 z)).bind fun z => (pickD z_31 (D.v (Value.bool true)) z).bind fun z => ifD z (some (Out.ret [D.v (Value.bool false)] [])) (j [sl s 0, sl s 1]))
 (j [sl s 0, sl s 1])) fun s => callK (F_spec_DrawRulesOf [sl s 0]) fun rs _u => (tupAt (D.tup rs) 0).bind fun y => (tupAt (tupCut (D.tup rs) 0) 1).bind fun y_2 => callK (F_impl_RulesOf [y, y_2]) fun rs _u =>
 (tupAt (D.tup rs) 0).bind fun y_3 => (tupAt (tupCut (D.tup rs) 0) 1).bind fun z => callK (F_spec_RulesOf [y, y_2]) fun rs _u => (tupAt (D.tup rs) 0).bind fun y_4 => (tupAt (tupCut (D.tup rs) 0) 1).bind fun z_20 =>
 (bin BinOp.neq true [] z z_20).bind fun z_21 => (gate (D.tup []) z_21 false (some y_3)).bind fun z_22 => (gate (D.tup []) z_21 false (some y_4)).bind fun z_23 => gateC z_21 false (callK (F_laws_sameLists [z_22, z_23])
 fun rs _u => some (Out.nrm [sl rs 0])) [D.tup []] fun outs => (gate (D.tup []) z_21 false (un UnOp.not (sl outs 0))).bind fun z_24 => (pickD z_21 (D.v (Value.bool true)) z_24).bind fun z_25 => ifD z_25 (some (Out.ret [D.v
 (Value.bool false)] [])) (joinC (fun j => ifD z ((lenD false y_4).bind fun z => (loopC (fun s => (bin BinOp.lss false [] (sl s 6) (sl s 5)).bind fun z => ifD z ((Option.map D.ptr (elemD 1 (sl s 4) (sl s 6))).bind fun z =>
 (ldD false 1 z).bind fun z => (lenD false z).bind fun z_26 => (loopC (fun s => (bin BinOp.lss false [] (sl s 11) (sl s 10)).bind fun z => ifD z ((Option.map D.ptr (elemD 1 (sl s 9) (sl s 11))).bind fun z => ((ldD false 1
 z).bind chkV).bind fun z => (Option.map D.ptr (elemD 2 (sl s 2) (sl s 11))).bind fun z_27 => (offD 0 z_27).bind fun z_28 => ((ldD false 1 z_28).bind chkV).bind fun z_29 => (bin BinOp.mul false [] z z_29).bind fun z =>
 (bin BinOp.add false [] (sl s 5) z).bind fun z => (bin BinOp.add false [] (sl s 11) (D.v (Value.int IntKind.i64 1))).bind fun z_30 => some (Out.nrm [sl s 0, sl s 1, sl s 2, sl s 3, sl s 4, z, sl s 6, sl s 7, sl s 8, sl s
 9, sl s 10, z_30])) (some (Out.ext 2 [sl s 0, sl s 1, sl s 2, sl s 3, sl s 4, sl s 5, sl s 6, sl s 7, sl s 8]))) [sl s 0, sl s 1, sl s 2, sl s 3, sl s 6, D.v (Value.int IntKind.i64 0), sl s 4, sl s 5, sl s 6, z, z_26, D.v
 (Value.int IntKind.i64 0)]).bind fun o => outK o (fun i s => ifN (i.beq 2) ((Option.map D.ptr (elemD 1 (sl s 3) (sl s 4))).bind fun z => ((ldD false 1 z).bind chkV).bind fun z => (bin BinOp.neq false [] (sl s 5) z).bind
 fun z => ifD z (some (Out.ret [D.v (Value.bool false)] [])) ((bin BinOp.add false [] (sl s 8) (D.v (Value.int IntKind.i64 1))).bind fun z => some (Out.nrm [sl s 0, sl s 1, sl s 2, sl s 3, sl s 6, sl s 7, z]))) (ifN (i.beq
 1) ((bin BinOp.add false [] (sl s 8) (D.v (Value.int IntKind.i64 1))).bind fun z => some (Out.nrm [sl s 0, sl s 1, sl s 2, sl s 3, sl s 6, sl s 7, z])) (some (Out.ext i [sl s 0, sl s 1])))) fun a b => some (Out.ret a b))
 (some (Out.ext 0 [sl s 0, sl s 1]))) [sl s 0, sl s 1, y, y_2, y_4, z, D.v (Value.int IntKind.i64 0)]).bind fun o => outK o (fun i s => ifN (i.beq 0) (j [sl s 0, sl s 1]) none) fun a b => some (Out.ret a b)) (j [sl s 0, sl
 s 1])) fun s => callK (F_spec_DrawFrameOf [sl s 0]) fun rs _u => (tupAt (D.tup rs) 0).bind fun y => (tupAt (tupCut (D.tup rs) 0) 1).bind fun z => (tupAt (tupCut (D.tup rs) 0) 2).bind fun z_26 => (tupAt (tupCut (D.tup rs)
 0) 3).bind fun z_27 => callK (F_impl_FrameOf [y, z, z_26, z_27]) fun rs _u => (tupAt (D.tup rs) 0).bind fun y_5 => (tupAt (tupCut (D.tup rs) 0) 1).bind fun z_28 => callK (F_spec_FrameOf [y, z, z_26, z_27]) fun rs _u =>
 (tupAt (D.tup rs) 0).bind fun y => (tupAt (tupCut (D.tup rs) 0) 1).bind fun z => callK (F_impl_StockText [sl s 1]) fun rs _u => (tupAt (D.tup rs) 0).bind fun z_29 => (tupAt (D.tup rs) 1).bind fun z_30 => callK
 (F_spec_StockText [sl s 1]) fun rs _u => (tupAt (D.tup rs) 0).bind fun z_31 => (tupAt (D.tup rs) 1).bind fun z_32 => callK (F_spec_DrawParseStock [sl s 0]) fun rs _u => callK (F_impl_ParseStock [sl rs 0]) fun rs_1 _u =>
 (tupAt (D.tup rs_1) 0).bind fun y_6 => (tupAt (tupCut (D.tup rs_1) 0) 1).bind fun z_33 => callK (F_spec_ParseStock [sl rs 0]) fun rs _u => (tupAt (D.tup rs) 0).bind fun z_34 => (tupAt (D.tup rs) 1).bind fun z_35 => (bin
 BinOp.neq true [] z_28 z).bind fun z => (gate (D.tup []) z false (some y_5)).bind fun z_36 => (gate (D.tup []) z false (some y)).bind fun z_37 => gateC z false (callK (F_laws_sameLists [z_36, z_37]) fun rs _u => some
 (Out.nrm [sl rs 0])) [D.tup []] fun outs => (gate (D.tup []) z false (un UnOp.not (sl outs 0))).bind fun z_38 => (pickD z (D.v (Value.bool true)) z_38).bind fun z => (gate (D.tup []) z false (some z_28)).bind fun z_39 =>
 (gate (D.tup []) z false (some z_39)).bind fun z_40 => (gate (D.tup []) z_40 true (some y)).bind fun z_41 => (gate (D.tup []) z_40 true (lenD false z_41)).bind fun z_42 => (gate (D.tup []) z_40 true (bin BinOp.neq false
 [] z_42 (D.v (Value.int IntKind.i64 4)))).bind fun z_43 => (gate (D.tup []) z false (pickD z_40 z_43 (D.v (Value.bool false)))).bind fun z_44 => (pickD z (D.v (Value.bool true)) z_44).bind fun z => (gate (D.tup []) z
 false (some z_30)).bind fun z_45 => (gate (D.tup []) z false (some z_32)).bind fun z_46 => (gate (D.tup []) z false (bin BinOp.neq true [] z_45 z_46)).bind fun z_47 => (pickD z (D.v (Value.bool true)) z_47).bind fun z =>
 (gate (D.tup []) z false (some z_29)).bind fun z_48 => (gate (D.tup []) z false (some z_31)).bind fun z_49 => (gate (D.tup []) z false (bin BinOp.neq false [] z_48 z_49)).bind fun z_50 => (pickD z (D.v (Value.bool true))
 z_50).bind fun z => (gate (D.tup []) z false (some z_33)).bind fun z_51 => (gate (D.tup []) z false (some z_35)).bind fun z_52 => (gate (D.tup []) z false (bin BinOp.neq true [] z_51 z_52)).bind fun z_53 => (pickD z (D.v
 (Value.bool true)) z_53).bind fun z => (gate (D.tup []) z false (some y_6)).bind fun z_54 => (gate (D.tup []) z false (some z_34)).bind fun z_55 => gateC z false (callK (F_laws_pSameSlips [z_54, z_55]) fun rs _u => some
 (Out.nrm [sl rs 0])) [D.tup []] fun outs => (gate (D.tup []) z false (un UnOp.not (sl outs 0))).bind fun z_56 => (pickD z (D.v (Value.bool true)) z_56).bind fun z => (gate (D.tup []) z false (some z_30)).bind fun z_57 =>
 (gate (D.tup []) z false (some (sl s 1))).bind fun z_58 => gateC z false (callK (F_impl_IsStock [z_58]) fun rs _u => some (Out.nrm [sl rs 0])) [D.tup []] fun outs => (gate (D.tup []) z false (bin BinOp.neq true [] z_57
 (sl outs 0))).bind fun z_59 => (pickD z (D.v (Value.bool true)) z_59).bind fun z => ifD z (some (Out.ret [D.v (Value.bool false)] [])) (ifD z_30 (callK (F_impl_ParseStock [z_29]) fun rs _u => (tupAt (D.tup rs) 0).bind fun
 y => (tupAt (tupCut (D.tup rs) 0) 1).bind fun z => (gate (D.tup []) z true (some y)).bind fun z_60 => (gate (D.tup []) z true (some (sl s 1))).bind fun z_61 => gateC z true (callK (F_laws_pSameSlips [z_60, z_61]) fun rs
 _u => some (Out.nrm [sl rs 0])) [D.tup []] fun outs => (pickD z (sl outs 0) (D.v (Value.bool false))).bind fun z => some (Out.ret [z] [])) (some (Out.ret [D.v (Value.bool true)] [])))))))) := by kernel_rfl
end Go.Proofs.YtoocdnbkiejihaaDoor
/-
  Stocks: the program reads a text; its text.
-/
namespace Go.Proofs.YtoocdnbkiejihaaDoor
open Go Go.V
set_option linter.unusedSimpArgs false

theorem numsG_len : ∀ (l : List ByteArray) (acc : List Int), (numsG l acc).length ≤ acc.length + l.length
  | [], acc => Nat.le_refl _
  | w :: l, acc => by
    simp only [numsG]
    split
    · have := numsG_len l (acc ++ [‹Int›])
      simp only [List.length_append, List.length_cons, List.length_nil] at this ⊢
      omega
    · simp
theorem numsT_len (s : ByteArray) : (numsT s).length ≤ s.size + 1 := by
  have h1 := numsG_len (Lib.goFieldsP isSep s) []
  have h2 := fields_length isSep s
  unfold numsT
  simp only [List.length_nil] at h1
  omega
theorem prS_len : ∀ l : List Int, (prS l).length ≤ l.length
  | [] => Nat.le_refl _
  | [_] => Nat.zero_le _
  | a :: b :: r => by
    have := prS_len r
    simp only [prS, List.length_cons]
    omega
theorem e_impl_StockText (l : List Slp) (h : l.length ≤ 1048576) : F_impl_StockText [sls l] = some (.ret [T (if goodS l = true then stT l else ⟨⟨[]⟩⟩), B (goodS l)] []) := by
  rw [t_impl_StockText]
  cases hg : goodS l
  · simp -implicitDefEqProofs only [sl_zero, sl_succ, liveD_agg, liveD_ref, liveD_arr, ref0_eq, Option.bind_some, Option.map_some, callK_ret, gate_t, gate_f, gate_s, gateC_t, gateC_f, gateC_s, nrmK_some, pickD_B, ifD_B, ifN_B, if_true, if_false, Bool.false_eq_true, un_not, Bool.not_true, Bool.not_false, decide_true, decide_false, and_self, outK_ext, Nat.beq_refl, bin_lss, bin_gtr, bin_leq, bin_geq, bin_eql, bin_neq, bin_add, bin_sub, bin_mul, lenD_arr, lenD_str, List.length_map, ldD_ptr, takeD_f, chkV_v, offD_ptr, List.drop_zero, List.drop_succ_cons, atD_agg, mkArr_nil, Int.reduceLT, Int.reduceLE, Int.reduceEq, e_impl_IsStock l h, hg]
  · simp -implicitDefEqProofs only [sl_zero, sl_succ, liveD_agg, liveD_ref, liveD_arr, ref0_eq, Option.bind_some, Option.map_some, callK_ret, gate_t, gate_f, gate_s, gateC_t, gateC_f, gateC_s, nrmK_some, pickD_B, ifD_B, ifN_B, if_true, if_false, Bool.false_eq_true, un_not, Bool.not_true, Bool.not_false, decide_true, decide_false, and_self, outK_ext, Nat.beq_refl, bin_lss, bin_gtr, bin_leq, bin_geq, bin_eql, bin_neq, bin_add, bin_sub, bin_mul, lenD_arr, lenD_str, List.length_map, ldD_ptr, takeD_f, chkV_v, offD_ptr, List.drop_zero, List.drop_succ_cons, atD_agg, mkArr_nil, Int.reduceLT, Int.reduceLE, Int.reduceEq, e_impl_IsStock l h, hg, e_fStock hg]
theorem e_impl_ParseStock (s : ByteArray) (h : s.size ≤ 100000) : F_impl_ParseStock [T s] = some (.ret [sls (stO (pSt s)), B (pSt s).isSome] []) := by
  rw [t_impl_ParseStock]
  have hn := e_impl_numbersIn s (by omega)
  have hl := numsT_len s
  have hdef : pSt s = if goodS (prS (numsT s)) = true ∧ stT (prS (numsT s)) = s then some (prS (numsT s)) else none := rfl
  have hpl := prS_len (numsT s)
  generalize numsT s = ns at hn hl hdef hpl
  simp -implicitDefEqProofs only [sl_zero, sl_succ, liveD_agg, liveD_ref, liveD_arr, ref0_eq, Option.bind_some, Option.map_some, callK_ret, gate_t, gate_f, gate_s, gateC_t, gateC_f, gateC_s, nrmK_some, pickD_B, ifD_B, ifN_B, if_true, if_false, Bool.false_eq_true, un_not, Bool.not_true, Bool.not_false, decide_true, decide_false, and_self, outK_ext, Nat.beq_refl, bin_lss, bin_gtr, bin_leq, bin_geq, bin_eql, bin_neq, bin_add, bin_sub, bin_mul, lenD_arr, lenD_str, List.length_map, ldD_ptr, takeD_f, chkV_v, offD_ptr, List.drop_zero, List.drop_succ_cons, atD_agg, mkArr_nil, Int.reduceLT, Int.reduceLE, Int.reduceEq, hn]
  refine loop_wf_bind (fun r => r = _) (fun (a : List Slp × List Int) => [T s, sls a.1, ints a.2]) (fun a => a.2.length + a.1.length ≤ 100001 ∧ a.1 ++ prS a.2 = prS ns) (fun a => a.2.length)
    (fun o => o = .ext 0 [T s, sls (prS ns)]) ?_ ([], ns) ⟨by simp; omega, rfl⟩ rfl ?_
  · rintro ⟨acc, m⟩ ⟨g1, g2⟩
    dsimp only at g1 g2
    match m, g1, g2 with
    | a :: b :: r, g1, g2 =>
      have h2 : (2 : Int) ≤ ((a :: b :: r).length : Int) := by simp only [List.length_cons]; omega
      have e0 : elemD 1 (ints (a :: b :: r)) (I 0) = some [I a] := rfl
      have e1 : elemD 1 (ints (a :: b :: r)) (I 1) = some [I b] := rfl
      have es : sliceHi false 1 (ints (a :: b :: r)) (I 2) = some (ints r) := by
        have := sliceHi_nat (z := 1) (k := .i64) (l := (a :: b :: r).map I) (i := 2) (by simp)
        exact this
      have ha := sls_app (l := acc) (m := [(b, a)]) (by simp at g1 ⊢; omega)
      refine .inl ⟨(acc ++ [(b, a)], r), ?_, ⟨by simp at g1 ⊢; omega, by rw [← g2]; simp [prS]⟩, by simp; omega⟩
      simp -implicitDefEqProofs only [sl_zero, sl_succ, liveD_agg, liveD_ref, liveD_arr, ref0_eq, Option.bind_some, Option.map_some, callK_ret, gate_t, gate_f, gate_s, gateC_t, gateC_f, gateC_s, nrmK_some, pickD_B, ifD_B, ifN_B, if_true, if_false, Bool.false_eq_true, un_not, Bool.not_true, Bool.not_false, decide_true, decide_false, and_self, outK_ext, Nat.beq_refl, bin_lss, bin_gtr, bin_leq, bin_geq, bin_eql, bin_neq, bin_add, bin_sub, bin_mul, lenD_arr, lenD_str, List.length_map, ldD_ptr, takeD_f, chkV_v, offD_ptr, List.drop_zero, List.drop_succ_cons, atD_agg, mkArr_nil, Int.reduceLT, Int.reduceLE, Int.reduceEq, h2, e0, e1, bldS, sls_one, sls_chk, ha, es]
    | [], g1, g2 =>
      refine .inr ⟨.ext 0 [T s, sls acc], ?_, rfl, ?_⟩
      · simp -implicitDefEqProofs only [sl_zero, sl_succ, liveD_agg, liveD_ref, liveD_arr, ref0_eq, Option.bind_some, Option.map_some, callK_ret, gate_t, gate_f, gate_s, gateC_t, gateC_f, gateC_s, nrmK_some, pickD_B, ifD_B, ifN_B, if_true, if_false, Bool.false_eq_true, un_not, Bool.not_true, Bool.not_false, decide_true, decide_false, and_self, outK_ext, Nat.beq_refl, bin_lss, bin_gtr, bin_leq, bin_geq, bin_eql, bin_neq, bin_add, bin_sub, bin_mul, lenD_arr, lenD_str, List.length_map, ldD_ptr, takeD_f, chkV_v, offD_ptr, List.drop_zero, List.drop_succ_cons, atD_agg, mkArr_nil, Int.reduceLT, Int.reduceLE, Int.reduceEq, List.length_nil, show ¬ (2 : Int) ≤ ((0 : Nat) : Int) by decide]
      · have : acc = prS ns := by rw [← g2]; simp [prS]
        rw [this]
    | [a], g1, g2 =>
      refine .inr ⟨.ext 0 [T s, sls acc], ?_, rfl, ?_⟩
      · simp -implicitDefEqProofs only [sl_zero, sl_succ, liveD_agg, liveD_ref, liveD_arr, ref0_eq, Option.bind_some, Option.map_some, callK_ret, gate_t, gate_f, gate_s, gateC_t, gateC_f, gateC_s, nrmK_some, pickD_B, ifD_B, ifN_B, if_true, if_false, Bool.false_eq_true, un_not, Bool.not_true, Bool.not_false, decide_true, decide_false, and_self, outK_ext, Nat.beq_refl, bin_lss, bin_gtr, bin_leq, bin_geq, bin_eql, bin_neq, bin_add, bin_sub, bin_mul, lenD_arr, lenD_str, List.length_map, ldD_ptr, takeD_f, chkV_v, offD_ptr, List.drop_zero, List.drop_succ_cons, atD_agg, mkArr_nil, Int.reduceLT, Int.reduceLE, Int.reduceEq, List.length_cons, List.length_nil, show ¬ (2 : Int) ≤ ((0 + 1 : Nat) : Int) by decide]
      · have : acc = prS ns := by rw [← g2]; simp [prS]
        rw [this]
  · rintro o rfl
    generalize prS ns = L at hdef hpl
    rw [hdef]
    have hi := e_impl_IsStock L (by omega)
    cases hg : goodS L
    · rw [if_neg (fun g => by cases g.1)]
      simp -implicitDefEqProofs only [sl_zero, sl_succ, liveD_agg, liveD_ref, liveD_arr, ref0_eq, Option.bind_some, Option.map_some, callK_ret, gate_t, gate_f, gate_s, gateC_t, gateC_f, gateC_s, nrmK_some, pickD_B, ifD_B, ifN_B, if_true, if_false, Bool.false_eq_true, un_not, Bool.not_true, Bool.not_false, decide_true, decide_false, and_self, outK_ext, Nat.beq_refl, bin_lss, bin_gtr, bin_leq, bin_geq, bin_eql, bin_neq, bin_add, bin_sub, bin_mul, lenD_arr, lenD_str, List.length_map, ldD_ptr, takeD_f, chkV_v, offD_ptr, List.drop_zero, List.drop_succ_cons, atD_agg, mkArr_nil, Int.reduceLT, Int.reduceLE, Int.reduceEq, hi, hg]
      rfl
    · by_cases he : stT L = s
      · rw [if_pos ⟨rfl, he⟩]
        simp -implicitDefEqProofs only [sl_zero, sl_succ, liveD_agg, liveD_ref, liveD_arr, ref0_eq, Option.bind_some, Option.map_some, callK_ret, gate_t, gate_f, gate_s, gateC_t, gateC_f, gateC_s, nrmK_some, pickD_B, ifD_B, ifN_B, if_true, if_false, Bool.false_eq_true, un_not, Bool.not_true, Bool.not_false, decide_true, decide_false, and_self, outK_ext, Nat.beq_refl, bin_lss, bin_gtr, bin_leq, bin_geq, bin_eql, bin_neq, bin_add, bin_sub, bin_mul, lenD_arr, lenD_str, List.length_map, ldD_ptr, takeD_f, chkV_v, offD_ptr, List.drop_zero, List.drop_succ_cons, atD_agg, mkArr_nil, Int.reduceLT, Int.reduceLE, Int.reduceEq, hi, hg, e_fStock hg, bin_neqS, he]
        rfl
      · rw [if_neg (fun g => he g.2)]
        simp -implicitDefEqProofs only [sl_zero, sl_succ, liveD_agg, liveD_ref, liveD_arr, ref0_eq, Option.bind_some, Option.map_some, callK_ret, gate_t, gate_f, gate_s, gateC_t, gateC_f, gateC_s, nrmK_some, pickD_B, ifD_B, ifN_B, if_true, if_false, Bool.false_eq_true, un_not, Bool.not_true, Bool.not_false, decide_true, decide_false, and_self, outK_ext, Nat.beq_refl, bin_lss, bin_gtr, bin_leq, bin_geq, bin_eql, bin_neq, bin_add, bin_sub, bin_mul, lenD_arr, lenD_str, List.length_map, ldD_ptr, takeD_f, chkV_v, offD_ptr, List.drop_zero, List.drop_succ_cons, atD_agg, mkArr_nil, Int.reduceLT, Int.reduceLE, Int.reduceEq, hi, hg, e_fStock hg, bin_neqS, he]
        rfl
end Go.Proofs.YtoocdnbkiejihaaDoor
/-
  The law of stocks.
-/
namespace Go.Proofs.YtoocdnbkiejihaaDoor
open Go Go.V
set_option linter.unusedSimpArgs false

theorem tpSv2 (l : List Slp) (u v : Value) (ds : List D) : tupAt (.tup (sls l :: .v u :: .v v :: ds)) 2 = some (.v v) := rfl
theorem tpvv (v : Value) (ds : List D) : tupAt (.tup (.v v :: ds)) 0 = some (.v v) := rfl
theorem tpvv1 (u v : Value) (ds : List D) : tupAt (.tup (.v u :: .v v :: ds)) 1 = some (.v v) := rfl
theorem tpCS (a b : List Slp) (ds : List D) : tupAt (tupCut (.tup (sls a :: sls b :: ds)) 0) 1 = some (sls b) := rfl
theorem tpCI (a : List Slp) (b : List Int) (ds : List D) : tupAt (tupCut (.tup (sls a :: intsL b :: ds)) 0) 1 = some (intsL b) := rfl
theorem tpCv (a : D) (v : Value) (ds : List D) : tupAt (tupCut (.tup (a :: .v v :: ds)) 0) 1 = some (.v v) := rfl
theorem tpCv2 (a : D) (u v : Value) (ds : List D) : tupAt (tupCut (.tup (a :: .v u :: .v v :: ds)) 0) 2 = some (.v v) := rfl
theorem tpCv3 (a : D) (u v x : Value) (ds : List D) : tupAt (tupCut (.tup (a :: .v u :: .v v :: .v x :: ds)) 0) 3 = some (.v x) := rfl

set_option maxRecDepth 100000 in
set_option maxHeartbeats 4000000 in
theorem law_Stocks (code more : List Int) (hb1 : ∀ n ∈ code, 0 ≤ n ∧ n ≤ 255) (hb2 : ∀ n ∈ more, 0 ≤ n ∧ n ≤ 255) : F_laws_FnStocks [bytesD code, bytesD more] = some (.ret [B true] []) := by
  rw [t_laws_FnStocks]
  obtain ⟨p, hp, hp'⟩ := e_laws_big code more
  cases p
  case true => rw [hp]; rfl
  obtain ⟨hl1, hl2⟩ := hp' rfl
  obtain ⟨l, i, len, e1, z1⟩ := d_DrawCutSlip code ⟨hb1, hl1⟩
  have i1 := e_impl_CutSlip l i len (by omega)
  have s1 := e_spec_CutSlip l i len (by omega)
  have cz : (cuR l i len).length ≤ 1048576 := by
    cases h : cuB l i len
    · have : cuR l i len = [] := by simp only [cuR, h, Bool.false_eq_true, if_false]
      rw [this]
      exact Nat.zero_le _
    · obtain ⟨-, q2, q3, -⟩ := cu_facts h
      rw [q3]
      have := goodS_len q2
      omega
  have q1 := e_laws_pSameSlips (cuR l i len) cz
  simp -implicitDefEqProofs only [sl_zero, sl_succ, liveD_agg, liveD_ref, liveD_arr, ref0_eq, Option.bind_some, Option.map_some, callK_ret, gate_t, gate_f, gate_s, gateC_t, gateC_f, gateC_s, nrmK_some, pickD_B, ifD_B, ifN_B, if_true, if_false, Bool.false_eq_true, un_not, Bool.not_true, Bool.not_false, decide_true, decide_false, and_self, outK_ext, Nat.beq_refl, bin_lss, bin_gtr, bin_leq, bin_geq, bin_eql, bin_neq, bin_add, bin_sub, bin_mul, lenD_arr, lenD_str, List.length_map, ldD_ptr, takeD_f, chkV_v, offD_ptr, List.drop_zero, List.drop_succ_cons, atD_agg, mkArr_nil, Int.reduceLT, Int.reduceLE, Int.reduceEq, hp, e1, tpSl, tpSv, tpSv2, i1, s1, bin_neqB, beq_self_eq_true, q1]
  refine joinC_of (fun s => s = [bytesD more, sls l]) ?_ ?_
  case refine_2 =>
    intro j hj
    have hj' := hj _ rfl
    cases hb : cuB l i len
    · simp -implicitDefEqProofs only [sl_zero, sl_succ, liveD_agg, liveD_ref, liveD_arr, ref0_eq, Option.bind_some, Option.map_some, callK_ret, gate_t, gate_f, gate_s, gateC_t, gateC_f, gateC_s, nrmK_some, pickD_B, ifD_B, ifN_B, if_true, if_false, Bool.false_eq_true, un_not, Bool.not_true, Bool.not_false, decide_true, decide_false, and_self, outK_ext, Nat.beq_refl, bin_lss, bin_gtr, bin_leq, bin_geq, bin_eql, bin_neq, bin_add, bin_sub, bin_mul, lenD_arr, lenD_str, List.length_map, ldD_ptr, takeD_f, chkV_v, offD_ptr, List.drop_zero, List.drop_succ_cons, atD_agg, mkArr_nil, Int.reduceLT, Int.reduceLE, Int.reduceEq]
      exact hj'
    · obtain ⟨a1, a2, a3, a4⟩ := cu_facts hb
      have g1 := e_impl_StockLength l (by omega)
      have g2 := e_impl_StockLength (cuR l i len) cz
      have g3 := e_impl_IsStock (cuR l i len) cz
      rw [a1, if_pos rfl] at g1
      rw [a3, a2, if_pos rfl, a4] at g2
      rw [a3, a2] at g3
      rw [a3]
      simp -implicitDefEqProofs only [sl_zero, sl_succ, liveD_agg, liveD_ref, liveD_arr, ref0_eq, Option.bind_some, Option.map_some, callK_ret, gate_t, gate_f, gate_s, gateC_t, gateC_f, gateC_s, nrmK_some, pickD_B, ifD_B, ifN_B, if_true, if_false, Bool.false_eq_true, un_not, Bool.not_true, Bool.not_false, decide_true, decide_false, and_self, outK_ext, Nat.beq_refl, bin_lss, bin_gtr, bin_leq, bin_geq, bin_eql, bin_neq, bin_add, bin_sub, bin_mul, lenD_arr, lenD_str, List.length_map, ldD_ptr, takeD_f, chkV_v, offD_ptr, List.drop_zero, List.drop_succ_cons, atD_agg, mkArr_nil, Int.reduceLT, Int.reduceLE, Int.reduceEq, g1, g2, g3, tpvv, tpvv1]
      exact hj'
  rintro _ rfl
  obtain ⟨a, b, e2, z2, z3⟩ := d_DrawJoinStocks more ⟨hb2, hl2⟩
  have i2 := e_impl_JoinStocks a b (by omega) (by omega)
  have s2 := e_spec_JoinStocks a b (by omega) (by omega)
  have jz : (jnR a b).length ≤ 1048576 := by
    cases h : jnB a b
    · have : jnR a b = [] := by simp only [jnR, h, Bool.false_eq_true, if_false]
      rw [this]
      exact Nat.zero_le _
    · obtain ⟨-, -, q2, q3, -⟩ := jn_facts h
      rw [q3]
      have := goodS_len q2
      omega
  have q2 := e_laws_pSameSlips (jnR a b) jz
  simp -implicitDefEqProofs only [sl_zero, sl_succ, liveD_agg, liveD_ref, liveD_arr, ref0_eq, Option.bind_some, Option.map_some, callK_ret, gate_t, gate_f, gate_s, gateC_t, gateC_f, gateC_s, nrmK_some, pickD_B, ifD_B, ifN_B, if_true, if_false, Bool.false_eq_true, un_not, Bool.not_true, Bool.not_false, decide_true, decide_false, and_self, outK_ext, Nat.beq_refl, bin_lss, bin_gtr, bin_leq, bin_geq, bin_eql, bin_neq, bin_add, bin_sub, bin_mul, lenD_arr, lenD_str, List.length_map, ldD_ptr, takeD_f, chkV_v, offD_ptr, List.drop_zero, List.drop_succ_cons, atD_agg, mkArr_nil, Int.reduceLT, Int.reduceLE, Int.reduceEq, e2, tpSl, tpSv, tpCS, i2, s2, bin_neqB, beq_self_eq_true, q2]
  refine joinC_of (fun s => s = [bytesD more, sls l]) ?_ ?_
  case refine_2 =>
    intro j hj
    have hj' := hj _ rfl
    cases hb : jnB a b
    · simp -implicitDefEqProofs only [sl_zero, sl_succ, liveD_agg, liveD_ref, liveD_arr, ref0_eq, Option.bind_some, Option.map_some, callK_ret, gate_t, gate_f, gate_s, gateC_t, gateC_f, gateC_s, nrmK_some, pickD_B, ifD_B, ifN_B, if_true, if_false, Bool.false_eq_true, un_not, Bool.not_true, Bool.not_false, decide_true, decide_false, and_self, outK_ext, Nat.beq_refl, bin_lss, bin_gtr, bin_leq, bin_geq, bin_eql, bin_neq, bin_add, bin_sub, bin_mul, lenD_arr, lenD_str, List.length_map, ldD_ptr, takeD_f, chkV_v, offD_ptr, List.drop_zero, List.drop_succ_cons, atD_agg, mkArr_nil, Int.reduceLT, Int.reduceLE, Int.reduceEq]
      exact hj'
    · obtain ⟨a1, a2, a3, a4, a5⟩ := jn_facts hb
      have g1 := e_impl_StockLength a (by omega)
      have g2 := e_impl_StockLength b (by omega)
      have g3 := e_impl_StockLength (jnR a b) jz
      rw [a1, if_pos rfl] at g1
      rw [a2, if_pos rfl] at g2
      rw [a4, a3, if_pos rfl, a5] at g3
      have b1 := lenS_b (goodS_ok a1)
      have b2 := lenS_b (goodS_ok a2)
      have b3 := goodS_len a1
      have b4 := goodS_len a2
      have hw : IntKind.i64.wrap (lenS a + lenS b) = lenS a + lenS b := wrap_id (by omega) (by omega)
      rw [a4]
      simp -implicitDefEqProofs only [sl_zero, sl_succ, liveD_agg, liveD_ref, liveD_arr, ref0_eq, Option.bind_some, Option.map_some, callK_ret, gate_t, gate_f, gate_s, gateC_t, gateC_f, gateC_s, nrmK_some, pickD_B, ifD_B, ifN_B, if_true, if_false, Bool.false_eq_true, un_not, Bool.not_true, Bool.not_false, decide_true, decide_false, and_self, outK_ext, Nat.beq_refl, bin_lss, bin_gtr, bin_leq, bin_geq, bin_eql, bin_neq, bin_add, bin_sub, bin_mul, lenD_arr, lenD_str, List.length_map, ldD_ptr, takeD_f, chkV_v, offD_ptr, List.drop_zero, List.drop_succ_cons, atD_agg, mkArr_nil, Int.reduceLT, Int.reduceLE, Int.reduceEq, g1, g2, g3, tpvv, tpvv1, hw]
      exact hj'
  rintro _ rfl
  obtain ⟨u, xs, e3, z4, z5⟩ := d_DrawRulesOf more ⟨hb2, hl2⟩
  have i3 := e_impl_RulesOf u xs (by omega) z5
  have s3 := e_spec_RulesOf u xs (by omega) z5
  obtain ⟨w1, w2⟩ := rl_small u xs
  have q3 := e_laws_sameLists (rlR u xs) w1 w2
  simp -implicitDefEqProofs only [sl_zero, sl_succ, liveD_agg, liveD_ref, liveD_arr, ref0_eq, Option.bind_some, Option.map_some, callK_ret, gate_t, gate_f, gate_s, gateC_t, gateC_f, gateC_s, nrmK_some, pickD_B, ifD_B, ifN_B, if_true, if_false, Bool.false_eq_true, un_not, Bool.not_true, Bool.not_false, decide_true, decide_false, and_self, outK_ext, Nat.beq_refl, bin_lss, bin_gtr, bin_leq, bin_geq, bin_eql, bin_neq, bin_add, bin_sub, bin_mul, lenD_arr, lenD_str, List.length_map, ldD_ptr, takeD_f, chkV_v, offD_ptr, List.drop_zero, List.drop_succ_cons, atD_agg, mkArr_nil, Int.reduceLT, Int.reduceLE, Int.reduceEq, e3, tpSl, tpCI, tpT, tpCv, i3, s3, bin_neqB, beq_self_eq_true, q3]
  refine joinC_of (fun s => s = [bytesD more, sls l]) ?_ ?_
  case refine_2 =>
    intro j hj
    have hj' := hj _ rfl
    cases hb : rlB u xs
    · simp -implicitDefEqProofs only [sl_zero, sl_succ, liveD_agg, liveD_ref, liveD_arr, ref0_eq, Option.bind_some, Option.map_some, callK_ret, gate_t, gate_f, gate_s, gateC_t, gateC_f, gateC_s, nrmK_some, pickD_B, ifD_B, ifN_B, if_true, if_false, Bool.false_eq_true, un_not, Bool.not_true, Bool.not_false, decide_true, decide_false, and_self, outK_ext, Nat.beq_refl, bin_lss, bin_gtr, bin_leq, bin_geq, bin_eql, bin_neq, bin_add, bin_sub, bin_mul, lenD_arr, lenD_str, List.length_map, ldD_ptr, takeD_f, chkV_v, offD_ptr, List.drop_zero, List.drop_succ_cons, atD_agg, mkArr_nil, Int.reduceLT, Int.reduceLE, Int.reduceEq]
      exact hj'
    · obtain ⟨a1, a2, a3, a4⟩ := rl_facts hb
      have hok := goodS_ok a1
      have h8 := goodS_len a1
      generalize rlR u xs = R at a3 a4
      simp -implicitDefEqProofs only [sl_zero, sl_succ, liveD_agg, liveD_ref, liveD_arr, ref0_eq, Option.bind_some, Option.map_some, callK_ret, gate_t, gate_f, gate_s, gateC_t, gateC_f, gateC_s, nrmK_some, pickD_B, ifD_B, ifN_B, if_true, if_false, Bool.false_eq_true, un_not, Bool.not_true, Bool.not_false, decide_true, decide_false, and_self, outK_ext, Nat.beq_refl, bin_lss, bin_gtr, bin_leq, bin_geq, bin_eql, bin_neq, bin_add, bin_sub, bin_mul, lenD_arr, lenD_str, List.length_map, ldD_ptr, takeD_f, chkV_v, offD_ptr, List.drop_zero, List.drop_succ_cons, atD_agg, mkArr_nil, Int.reduceLT, Int.reduceLE, Int.reduceEq]
      refine loop_bind (.ext 0 [bytesD more, sls l]) (loop_for R.length (fun k => [bytesD more, sls l, sls u, intsL xs, tabD R, I R.length, I k]) _ (fun k hk => ?_) ?_ rfl rfl) ?_
      · have hk' : (k : Int) < (R.length : Int) := by omega
        obtain ⟨d1, d2, d3⟩ := a4 k hk (by omega)
        have hkx := el_ints (l := xs) (i := k) (by omega)
        simp -implicitDefEqProofs only [sl_zero, sl_succ, liveD_agg, liveD_ref, liveD_arr, ref0_eq, Option.bind_some, Option.map_some, callK_ret, gate_t, gate_f, gate_s, gateC_t, gateC_f, gateC_s, nrmK_some, pickD_B, ifD_B, ifN_B, if_true, if_false, Bool.false_eq_true, un_not, Bool.not_true, Bool.not_false, decide_true, decide_false, and_self, outK_ext, Nat.beq_refl, bin_lss, bin_gtr, bin_leq, bin_geq, bin_eql, bin_neq, bin_add, bin_sub, bin_mul, lenD_arr, lenD_str, List.length_map, ldD_ptr, takeD_f, chkV_v, offD_ptr, List.drop_zero, List.drop_succ_cons, atD_agg, mkArr_nil, Int.reduceLT, Int.reduceLE, Int.reduceEq, hk', el_tab hk]
        refine loop_bind (.ext 2 [bytesD more, sls l, sls u, intsL xs, I k, I (dotS u R[k]), tabD R, I R.length, I k])
          (loop_for R[k].length (fun n => [bytesD more, sls l, sls u, intsL xs, I k, I (dotS u (R[k].take n)), tabD R, I R.length, I k, intsL R[k], I R[k].length, I n]) _ (fun n hn => ?_) ?_ rfl ?_) ?_
        · have hn' : (n : Int) < (R[k].length : Int) := by omega
          have hnu : n < u.length := by omega
          have c1 := d3 R[k][n] (List.getElem_mem hn)
          have c2 := hok u[n] (List.getElem_mem hnu)
          have m1 : 0 ≤ R[k][n] * u[n].1 := Int.mul_nonneg c1.1 (by omega)
          have m2 : R[k][n] * u[n].1 ≤ 20 * 200 := Int.mul_le_mul c1.2 c2.1.2 (by omega) (by omega)
          have m3 := dotS_b u (R[k].take n) (fun x hx => (hok x hx).1) fun c hc => d3 c (List.mem_of_mem_take hc)
          have v1 : IntKind.i64.wrap (R[k][n] * u[n].1) = R[k][n] * u[n].1 := wrap_id (by omega) (by omega)
          have v2 : IntKind.i64.wrap (dotS u (R[k].take n) + R[k][n] * u[n].1) = dotS u (R[k].take (n + 1)) := by
            rw [dotS_take u R[k] n hn hnu]
            exact wrap_id (by omega) (by omega)
          simp -implicitDefEqProofs only [sl_zero, sl_succ, liveD_agg, liveD_ref, liveD_arr, ref0_eq, Option.bind_some, Option.map_some, callK_ret, gate_t, gate_f, gate_s, gateC_t, gateC_f, gateC_s, nrmK_some, pickD_B, ifD_B, ifN_B, if_true, if_false, Bool.false_eq_true, un_not, Bool.not_true, Bool.not_false, decide_true, decide_false, and_self, outK_ext, Nat.beq_refl, bin_lss, bin_gtr, bin_leq, bin_geq, bin_eql, bin_neq, bin_add, bin_sub, bin_mul, lenD_arr, lenD_str, List.length_map, ldD_ptr, takeD_f, chkV_v, offD_ptr, List.drop_zero, List.drop_succ_cons, atD_agg, mkArr_nil, Int.reduceLT, Int.reduceLE, Int.reduceEq, hn', el_ints hn, elS hnu, v1, v2, wI (show n ≤ 1000000 by omega)]
        · simp -implicitDefEqProofs only [sl_zero, sl_succ, liveD_agg, liveD_ref, liveD_arr, ref0_eq, Option.bind_some, Option.map_some, callK_ret, gate_t, gate_f, gate_s, gateC_t, gateC_f, gateC_s, nrmK_some, pickD_B, ifD_B, ifN_B, if_true, if_false, Bool.false_eq_true, un_not, Bool.not_true, Bool.not_false, decide_true, decide_false, and_self, outK_ext, Nat.beq_refl, bin_lss, bin_gtr, bin_leq, bin_geq, bin_eql, bin_neq, bin_add, bin_sub, bin_mul, lenD_arr, lenD_str, List.length_map, ldD_ptr, takeD_f, chkV_v, offD_ptr, List.drop_zero, List.drop_succ_cons, atD_agg, mkArr_nil, Int.reduceLT, Int.reduceLE, Int.reduceEq, Int.lt_irrefl, List.take_length]
        · have : dotS u (R[k].take 0) = 0 := by cases u <;> rfl
          rw [this]
          rfl
        · simp -implicitDefEqProofs only [sl_zero, sl_succ, liveD_agg, liveD_ref, liveD_arr, ref0_eq, Option.bind_some, Option.map_some, callK_ret, gate_t, gate_f, gate_s, gateC_t, gateC_f, gateC_s, nrmK_some, pickD_B, ifD_B, ifN_B, if_true, if_false, Bool.false_eq_true, un_not, Bool.not_true, Bool.not_false, decide_true, decide_false, and_self, outK_ext, Nat.beq_refl, bin_lss, bin_gtr, bin_leq, bin_geq, bin_eql, bin_neq, bin_add, bin_sub, bin_mul, lenD_arr, lenD_str, List.length_map, ldD_ptr, takeD_f, chkV_v, offD_ptr, List.drop_zero, List.drop_succ_cons, atD_agg, mkArr_nil, Int.reduceLT, Int.reduceLE, Int.reduceEq, hkx, d1, wI (show k ≤ 1000000 by omega)]
      · simp -implicitDefEqProofs only [sl_zero, sl_succ, liveD_agg, liveD_ref, liveD_arr, ref0_eq, Option.bind_some, Option.map_some, callK_ret, gate_t, gate_f, gate_s, gateC_t, gateC_f, gateC_s, nrmK_some, pickD_B, ifD_B, ifN_B, if_true, if_false, Bool.false_eq_true, un_not, Bool.not_true, Bool.not_false, decide_true, decide_false, and_self, outK_ext, Nat.beq_refl, bin_lss, bin_gtr, bin_leq, bin_geq, bin_eql, bin_neq, bin_add, bin_sub, bin_mul, lenD_arr, lenD_str, List.length_map, ldD_ptr, takeD_f, chkV_v, offD_ptr, List.drop_zero, List.drop_succ_cons, atD_agg, mkArr_nil, Int.reduceLT, Int.reduceLE, Int.reduceEq, Int.lt_irrefl]
      · simp -implicitDefEqProofs only [sl_zero, sl_succ, liveD_agg, liveD_ref, liveD_arr, ref0_eq, Option.bind_some, Option.map_some, callK_ret, gate_t, gate_f, gate_s, gateC_t, gateC_f, gateC_s, nrmK_some, pickD_B, ifD_B, ifN_B, if_true, if_false, Bool.false_eq_true, un_not, Bool.not_true, Bool.not_false, decide_true, decide_false, and_self, outK_ext, Nat.beq_refl, bin_lss, bin_gtr, bin_leq, bin_geq, bin_eql, bin_neq, bin_add, bin_sub, bin_mul, lenD_arr, lenD_str, List.length_map, ldD_ptr, takeD_f, chkV_v, offD_ptr, List.drop_zero, List.drop_succ_cons, atD_agg, mkArr_nil, Int.reduceLT, Int.reduceLE, Int.reduceEq]
        exact hj'
  rintro _ rfl
  obtain ⟨v, wd, hi, co, e4, z6, z7, z8⟩ := d_DrawFrameOf more ⟨hb2, hl2⟩
  have i4 := e_impl_FrameOf v wd hi co (by omega)
  have s4 := e_spec_FrameOf v wd hi co (by omega) z7 z8
  obtain ⟨w3, w4⟩ := fr_small v wd hi co
  have q4 := e_laws_sameLists (frR v wd hi co) w3 w4
  have i5 := e_impl_StockText l (by omega)
  have s5 := e_spec_StockText l (by omega)
  obtain ⟨t, e5, z9⟩ := d_DrawParseStock more ⟨hb2, hl2⟩
  have i6 := e_impl_ParseStock t (by omega)
  have s6 := e_spec_ParseStock t (by omega)
  have oz : ∀ t, (stO (pSt t)).length ≤ 1048576 := fun t => by
    cases h : pSt t with
    | none => exact Nat.zero_le _
    | some r =>
      have := goodS_len (pSt_some h).1
      show r.length ≤ 1048576
      omega
  have q5 := e_laws_pSameSlips (stO (pSt t)) (oz t)
  have i7 := e_impl_IsStock l (by omega)
  have h4 : frB v wd hi co = true → ((frR v wd hi co).length : Int) = 4 := fun h => by rw [fr_four h]; rfl
  have fin : (if goodS l = true then callK (F_impl_ParseStock [T (if goodS l = true then stT l else ⟨⟨[]⟩⟩)]) (fun rs _u => (tupAt (D.tup rs) 0).bind fun y => (tupAt (tupCut (D.tup rs) 0) 1).bind fun z => (gate (D.tup []) z true (some y)).bind fun z_60 => (gate (D.tup []) z true (some (sls l))).bind fun z_61 =>
      gateC z true (callK (F_laws_pSameSlips [z_60, z_61]) fun rs _u => some (Out.nrm [sl rs 0])) [D.tup []] fun outs => (pickD z (sl outs 0) (D.v (Value.bool false))).bind fun z => some (Out.ret [z] [])) else some (Out.ret [D.v (Value.bool true)] [])) = some (.ret [B true] []) := by
    cases hg : goodS l
    · simp -implicitDefEqProofs only [sl_zero, sl_succ, liveD_agg, liveD_ref, liveD_arr, ref0_eq, Option.bind_some, Option.map_some, callK_ret, gate_t, gate_f, gate_s, gateC_t, gateC_f, gateC_s, nrmK_some, pickD_B, ifD_B, ifN_B, if_true, if_false, Bool.false_eq_true, un_not, Bool.not_true, Bool.not_false, decide_true, decide_false, and_self, outK_ext, Nat.beq_refl, bin_lss, bin_gtr, bin_leq, bin_geq, bin_eql, bin_neq, bin_add, bin_sub, bin_mul, lenD_arr, lenD_str, List.length_map, ldD_ptr, takeD_f, chkV_v, offD_ptr, List.drop_zero, List.drop_succ_cons, atD_agg, mkArr_nil, Int.reduceLT, Int.reduceLE, Int.reduceEq]
    · have hz := stT_size l (goodS_ok hg)
      have h8 := goodS_len hg
      have u1 := e_impl_ParseStock (stT l) (by omega)
      rw [pSt_T hg] at u1
      have u2 : stO (some l) = l := rfl
      rw [u2] at u1
      have u3 := e_laws_pSameSlips l (by omega)
      simp -implicitDefEqProofs only [sl_zero, sl_succ, liveD_agg, liveD_ref, liveD_arr, ref0_eq, Option.bind_some, Option.map_some, callK_ret, gate_t, gate_f, gate_s, gateC_t, gateC_f, gateC_s, nrmK_some, pickD_B, ifD_B, ifN_B, if_true, if_false, Bool.false_eq_true, un_not, Bool.not_true, Bool.not_false, decide_true, decide_false, and_self, outK_ext, Nat.beq_refl, bin_lss, bin_gtr, bin_leq, bin_geq, bin_eql, bin_neq, bin_add, bin_sub, bin_mul, lenD_arr, lenD_str, List.length_map, ldD_ptr, takeD_f, chkV_v, offD_ptr, List.drop_zero, List.drop_succ_cons, atD_agg, mkArr_nil, Int.reduceLT, Int.reduceLE, Int.reduceEq, u1, tpSl, tpCv, Option.isSome_some, u3]
  cases hf : frB v wd hi co
  · rw [hf] at i4 s4
    simp -implicitDefEqProofs only [sl_zero, sl_succ, liveD_agg, liveD_ref, liveD_arr, ref0_eq, Option.bind_some, Option.map_some, callK_ret, gate_t, gate_f, gate_s, gateC_t, gateC_f, gateC_s, nrmK_some, pickD_B, ifD_B, ifN_B, if_true, if_false, Bool.false_eq_true, un_not, Bool.not_true, Bool.not_false, decide_true, decide_false, and_self, outK_ext, Nat.beq_refl, bin_lss, bin_gtr, bin_leq, bin_geq, bin_eql, bin_neq, bin_add, bin_sub, bin_mul, lenD_arr, lenD_str, List.length_map, ldD_ptr, takeD_f, chkV_v, offD_ptr, List.drop_zero, List.drop_succ_cons, atD_agg, mkArr_nil, Int.reduceLT, Int.reduceLE, Int.reduceEq, e4, tpSl, tpCv, tpCv2, tpCv3, i4, s4, tpT, i5, s5, tpvv, tpvv1, e5, i6, s6, tpSv, bin_neqB, beq_self_eq_true, q4, bin_neqS, q5, i7]
    exact fin
  · rw [hf] at i4 s4
    have h4' := h4 hf
    simp -implicitDefEqProofs only [sl_zero, sl_succ, liveD_agg, liveD_ref, liveD_arr, ref0_eq, Option.bind_some, Option.map_some, callK_ret, gate_t, gate_f, gate_s, gateC_t, gateC_f, gateC_s, nrmK_some, pickD_B, ifD_B, ifN_B, if_true, if_false, Bool.false_eq_true, un_not, Bool.not_true, Bool.not_false, decide_true, decide_false, and_self, outK_ext, Nat.beq_refl, bin_lss, bin_gtr, bin_leq, bin_geq, bin_eql, bin_neq, bin_add, bin_sub, bin_mul, lenD_arr, lenD_str, List.length_map, ldD_ptr, takeD_f, chkV_v, offD_ptr, List.drop_zero, List.drop_succ_cons, atD_agg, mkArr_nil, Int.reduceLT, Int.reduceLE, Int.reduceEq, e4, tpSl, tpCv, tpCv2, tpCv3, i4, s4, tpT, i5, s5, tpvv, tpvv1, e5, i6, s6, tpSv, bin_neqB, beq_self_eq_true, q4, h4', bin_neqS, q5, i7]
    exact fin
end Go.Proofs.YtoocdnbkiejihaaDoor
