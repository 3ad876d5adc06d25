/-
  What the functions compute: their evaluated texts, printed.
-/
import Derived.Test.YtankikbbdfgkbaaRows
import Derived.Test.YtankikbbdfgkbaaM5
import Derived.Maps.AppendAt
import Derived.Lib.Builder
import Derived.OwnWalk
import Derived.Below
import Derived.Shelf.Abstract
import Derived.WalkKit
import Derived.Handy
namespace Go.Proofs.Ytankikbbdfgkbaa
open Go Go.V
theorem t_laws_szBox (x0 x1 : D) : F_laws_szBox [x0, x1] =
  ((boxD 4 x0).bind fun y => (liveD y (D.ref 0 0)).bind fun z => ((atD y z).bind (takeD false 1)).bind fun z => (lenD true z).bind fun z => (bin BinOp.sub false [] x1 z).bind fun z =>
 (bin BinOp.lss false [] z (D.v (Value.int IntKind.i64 0))).bind fun z_1 => ifD z_1 (some (Out.ret [D.v (Value.int IntKind.i64 (-1))] [])) (some (Out.ret [z] []))) := by kernel_rfl
theorem t_laws_szBoxS (x0 x1 : D) : F_laws_szBoxS [x0, x1] =
  ((lenD false x0).bind fun z => (bin BinOp.sub false [] x1 z).bind fun z => (bin BinOp.lss false [] z (D.v (Value.int IntKind.i64 0))).bind fun z_1 => ifD z_1 (some (Out.ret [D.v (Value.int IntKind.i64 (-1))] [])) ((loopC
 (fun s => (lenD false (sl s 0)).bind fun z => (bin BinOp.lss false [] (sl s 2) z).bind fun z => ifD z ((Option.map D.ptr (elemD 4 (sl s 0) (sl s 2))).bind fun z => ((ldD true 4 z).bind chkV).bind fun z =>
 callK (F_laws_szBox [z, sl s 1]) fun rs _u => (bin BinOp.lss false [] (sl rs 0) (D.v (Value.int IntKind.i64 0))).bind fun z => ifD z (some (Out.ret [D.v (Value.int IntKind.i64 (-1))] []))
 ((bin BinOp.add false [] (sl s 2) (D.v (Value.int IntKind.i64 1))).bind fun z => some (Out.nrm [sl s 0, sl rs 0, z]))) (some (Out.ext 0 [sl s 1]))) [x0, z, D.v (Value.int IntKind.i64 0)]).bind
 fun o => outK o (fun i s => ifN (i.beq 0) (some (Out.ret [sl s 0] [])) none) fun a b => some (Out.ret a b))) := by kernel_rfl
theorem t_laws_szStringS (x0 x1 : D) : F_laws_szStringS [x0, x1] =
  ((lenD false x0).bind fun z => (bin BinOp.sub false [] x1 z).bind fun z => (bin BinOp.lss false [] z (D.v (Value.int IntKind.i64 0))).bind fun z_1 => ifD z_1 (some (Out.ret [D.v (Value.int IntKind.i64 (-1))] [])) ((loopC
 (fun s => (lenD false (sl s 0)).bind fun z => (bin BinOp.lss false [] (sl s 2) z).bind fun z => ifD z ((Option.map D.ptr (elemD 1 (sl s 0) (sl s 2))).bind fun z => ((ldD false 1 z).bind chkV).bind fun z =>
 (lenD true z).bind fun z => (bin BinOp.sub false [] (sl s 1) z).bind fun z => (bin BinOp.lss false [] z (D.v (Value.int IntKind.i64 0))).bind fun z_2 => ifD z_2 (some (Out.ret [D.v (Value.int IntKind.i64 (-1))] []))
 ((bin BinOp.add false [] (sl s 2) (D.v (Value.int IntKind.i64 1))).bind fun z_3 => some (Out.nrm [sl s 0, z, z_3]))) (some (Out.ext 0 [sl s 1]))) [x0, z, D.v (Value.int IntKind.i64 0)]).bind
 fun o => outK o (fun i s => ifN (i.beq 0) (some (Out.ret [sl s 0] [])) none) fun a b => some (Out.ret a b))) := by kernel_rfl
theorem t_laws_szForme (x0 x1 : D) : F_laws_szForme [x0, x1] =
  ((boxD 4 x0).bind fun y => (liveD y (D.ref 0 1)).bind fun z => ((atD y z).bind (takeD false 1)).bind fun z => callK (F_laws_szStringS [z, x1]) fun rs _u =>
 (bin BinOp.lss false [] (sl rs 0) (D.v (Value.int IntKind.i64 0))).bind fun z => ifD z (some (Out.ret [D.v (Value.int IntKind.i64 (-1))] [])) (some (Out.ret [sl rs 0] []))) := by kernel_rfl
theorem t_laws_szFormeS (x0 x1 : D) : F_laws_szFormeS [x0, x1] =
  ((lenD false x0).bind fun z => (bin BinOp.sub false [] x1 z).bind fun z => (bin BinOp.lss false [] z (D.v (Value.int IntKind.i64 0))).bind fun z_1 => ifD z_1 (some (Out.ret [D.v (Value.int IntKind.i64 (-1))] [])) ((loopC
 (fun s => (lenD false (sl s 0)).bind fun z => (bin BinOp.lss false [] (sl s 2) z).bind fun z => ifD z ((Option.map D.ptr (elemD 4 (sl s 0) (sl s 2))).bind fun z => (ldD true 4 z).bind fun z =>
 callK (F_laws_szForme [z, sl s 1]) fun rs _u => (bin BinOp.lss false [] (sl rs 0) (D.v (Value.int IntKind.i64 0))).bind fun z => ifD z (some (Out.ret [D.v (Value.int IntKind.i64 (-1))] []))
 ((bin BinOp.add false [] (sl s 2) (D.v (Value.int IntKind.i64 1))).bind fun z => some (Out.nrm [sl s 0, sl rs 0, z]))) (some (Out.ext 0 [sl s 1]))) [x0, z, D.v (Value.int IntKind.i64 0)]).bind
 fun o => outK o (fun i s => ifN (i.beq 0) (some (Out.ret [sl s 0] [])) none) fun a b => some (Out.ret a b))) := by kernel_rfl
theorem t_laws_szShop (x0 x1 : D) : F_laws_szShop [x0, x1] =
  ((boxD 4 x0).bind fun y => (liveD y (D.ref 0 0)).bind fun z => ((atD y z).bind (takeD false 1)).bind fun z => callK (F_laws_szBoxS [z, x1]) fun rs _u =>
 (bin BinOp.lss false [] (sl rs 0) (D.v (Value.int IntKind.i64 0))).bind fun z => ifD z (some (Out.ret [D.v (Value.int IntKind.i64 (-1))] [])) ((liveD y (D.ref 0 1)).bind fun z =>
 ((atD y z).bind (takeD false 1)).bind fun z => callK (F_laws_szFormeS [z, sl rs 0]) fun rs _u => (bin BinOp.lss false [] (sl rs 0) (D.v (Value.int IntKind.i64 0))).bind fun z =>
 ifD z (some (Out.ret [D.v (Value.int IntKind.i64 (-1))] [])) (some (Out.ret [sl rs 0] [])))) := by kernel_rfl
theorem t_laws_toBox (x0 : D) : F_laws_toBox [x0] =
  ((boxD 4 x0).bind fun y => (liveD y (D.ref 0 0)).bind fun z => ((atD y z).bind (takeD false 1)).bind fun z => (liveD (D.agg [D.v (Value.string { data := { toList := [] } }), D.v (Value.int IntKind.i64 0),
 D.v (Value.int IntKind.i64 0), D.v (Value.int IntKind.i64 0)]) (D.ref 0 0)).bind fun z_1 => (stD 1 (D.agg [D.v (Value.string { data := { toList := [] } }), D.v (Value.int IntKind.i64 0),
 D.v (Value.int IntKind.i64 0), D.v (Value.int IntKind.i64 0)]) z_1 z).bind fun b => (liveD y (D.ref 0 1)).bind fun z => ((atD y z).bind (takeD false 1)).bind fun z => (liveD b (D.ref 0 1)).bind fun z_2 =>
 (stD 1 b z_2 z).bind fun b => (liveD y (D.ref 0 2)).bind fun z => ((atD y z).bind (takeD false 1)).bind fun z => (liveD b (D.ref 0 2)).bind fun z_3 => (stD 1 b z_3 z).bind fun b => (liveD y (D.ref 0 3)).bind fun z =>
 ((atD y z).bind (takeD false 1)).bind fun z => (liveD b (D.ref 0 3)).bind fun z_4 => (stD 1 b z_4 z).bind fun b => (fldD true 4 0 b).bind fun z => (stD 4 (D.agg [D.v (Value.string { data := { toList := [] } }),
 D.v (Value.int IntKind.i64 0), D.v (Value.int IntKind.i64 0), D.v (Value.int IntKind.i64 0)]) (D.ref 0 0) z).bind fun b => (fldD true 4 0 b).bind fun y => some (Out.ret [y] [])) := by kernel_rfl
theorem t_laws_toBoxS (x0 : D) : F_laws_toBoxS [x0] =
  ((lenD false x0).bind fun z => (makD 4 40 (D.agg [D.v (Value.string { data := { toList := [] } }), D.v (Value.int IntKind.i64 0), D.v (Value.int IntKind.i64 0), D.v (Value.int IntKind.i64 0)]) z z).bind fun y => (loopC
 (fun s => (lenD false (sl s 0)).bind fun z => (bin BinOp.lss false [] (sl s 2) z).bind fun z => ifD z ((liveD (sl s 1) (D.ref 0 0)).bind fun z => (Option.map D.ptr (elemD 4 (sl s 0) (sl s 2))).bind fun z_1 =>
 ((ldD true 4 z_1).bind chkV).bind fun z_2 => callK (F_laws_toBox [z_2]) fun rs _u => ((liveD z (sl s 1)).bind fun b => refI 4 b (sl s 2)).bind fun z => (stD 4 (sl s 1) z (sl rs 0)).bind fun b =>
 (bin BinOp.add false [] (sl s 2) (D.v (Value.int IntKind.i64 1))).bind fun z => some (Out.nrm [sl s 0, b, z])) (some (Out.ext 0 [sl s 1]))) [x0, y, D.v (Value.int IntKind.i64 0)]).bind
 fun o => outK o (fun i s => ifN (i.beq 0) (some (Out.ret [sl s 0] [])) none) fun a b => some (Out.ret a b)) := by kernel_rfl
theorem t_laws_toStringS (x0 : D) : F_laws_toStringS [x0] =
  ((lenD false x0).bind fun z => (makD 1 16 (D.v (Value.string { data := { toList := [] } })) z z).bind fun y => (loopC (fun s => (lenD false (sl s 0)).bind fun z => (bin BinOp.lss false [] (sl s 2) z).bind fun z => ifD z
 ((liveD (sl s 1) (D.ref 0 0)).bind fun z => (Option.map D.ptr (elemD 1 (sl s 0) (sl s 2))).bind fun z_1 => ((ldD false 1 z_1).bind chkV).bind fun z_2 => ((liveD z (sl s 1)).bind fun b => refI 1 b (sl s 2)).bind fun z =>
 (stD 1 (sl s 1) z z_2).bind fun b => (bin BinOp.add false [] (sl s 2) (D.v (Value.int IntKind.i64 1))).bind fun z => some (Out.nrm [sl s 0, b, z])) (some (Out.ext 0 [sl s 1]))) [x0, y, D.v (Value.int IntKind.i64 0)]).bind
 fun o => outK o (fun i s => ifN (i.beq 0) (some (Out.ret [sl s 0] [])) none) fun a b => some (Out.ret a b)) := by kernel_rfl
theorem t_laws_toForme (x0 : D) : F_laws_toForme [x0] =
  ((boxD 4 x0).bind fun y => (liveD y (D.ref 0 0)).bind fun z => (((atD y z).bind (takeD false 1)).bind chkV).bind fun z => (liveD
 (D.agg [D.v (Value.int IntKind.i64 0), D.arr 1 [], D.v (Value.bool false), D.v (Value.int IntKind.i64 0)]) (D.ref 0 0)).bind fun z_1 => (stD 1 (D.agg
 [D.v (Value.int IntKind.i64 0), D.arr 1 [], D.v (Value.bool false), D.v (Value.int IntKind.i64 0)]) z_1 z).bind fun b => (liveD y (D.ref 0 1)).bind fun z => ((atD y z).bind (takeD false 1)).bind fun z =>
 callK (F_laws_toStringS [z]) fun rs _u => (liveD b (D.ref 0 1)).bind fun z => (stD 1 b z (sl rs 0)).bind fun b => (liveD y (D.ref 0 2)).bind fun z => (((atD y z).bind (takeD false 1)).bind chkV).bind fun z =>
 (liveD b (D.ref 0 2)).bind fun z_2 => (stD 1 b z_2 z).bind fun b => (liveD y (D.ref 0 3)).bind fun z => (((atD y z).bind (takeD false 1)).bind chkV).bind fun z => (liveD b (D.ref 0 3)).bind fun z_3 =>
 (stD 1 b z_3 z).bind fun b => (fldD true 4 0 b).bind fun z => (stD 4 (D.agg [D.v (Value.int IntKind.i64 0), D.arr 1 [], D.v (Value.bool false), D.v (Value.int IntKind.i64 0)]) (D.ref 0 0) z).bind
 fun b => (fldD true 4 0 b).bind fun y => some (Out.ret [y] [])) := by kernel_rfl
theorem t_laws_toFormeS (x0 : D) : F_laws_toFormeS [x0] =
  ((lenD false x0).bind fun z => (makD 4 48 (D.agg [D.v (Value.int IntKind.i64 0), D.arr 1 [], D.v (Value.bool false), D.v (Value.int IntKind.i64 0)]) z z).bind fun y => (loopC (fun s => (lenD false (sl s 0)).bind fun z =>
 (bin BinOp.lss false [] (sl s 2) z).bind fun z => ifD z ((liveD (sl s 1) (D.ref 0 0)).bind fun z => (Option.map D.ptr (elemD 4 (sl s 0) (sl s 2))).bind fun z_1 => (ldD true 4 z_1).bind fun z_2 =>
 callK (F_laws_toForme [z_2]) fun rs _u => ((liveD z (sl s 1)).bind fun b => refI 4 b (sl s 2)).bind fun z => (stD 4 (sl s 1) z (sl rs 0)).bind fun b =>
 (bin BinOp.add false [] (sl s 2) (D.v (Value.int IntKind.i64 1))).bind fun z => some (Out.nrm [sl s 0, b, z])) (some (Out.ext 0 [sl s 1]))) [x0, y, D.v (Value.int IntKind.i64 0)]).bind
 fun o => outK o (fun i s => ifN (i.beq 0) (some (Out.ret [sl s 0] [])) none) fun a b => some (Out.ret a b)) := by kernel_rfl
theorem t_laws_toShop (x0 : D) : F_laws_toShop [x0] =
  ((boxD 4 x0).bind fun y => (liveD y (D.ref 0 0)).bind fun z => ((atD y z).bind (takeD false 1)).bind fun z => callK (F_laws_toBoxS [z]) fun rs _u =>
 (liveD (D.agg [D.arr 4 [], D.arr 4 [], D.v (Value.int IntKind.i64 0), D.v (Value.int IntKind.i64 0)]) (D.ref 0 0)).bind fun z =>
 (stD 1 (D.agg [D.arr 4 [], D.arr 4 [], D.v (Value.int IntKind.i64 0), D.v (Value.int IntKind.i64 0)]) z (sl rs 0)).bind fun b => (liveD y (D.ref 0 1)).bind fun z => ((atD y z).bind (takeD false 1)).bind fun z =>
 callK (F_laws_toFormeS [z]) fun rs _u => (liveD b (D.ref 0 1)).bind fun z => (stD 1 b z (sl rs 0)).bind fun b => (liveD y (D.ref 0 2)).bind fun z => (((atD y z).bind (takeD false 1)).bind chkV).bind fun z =>
 (liveD b (D.ref 0 2)).bind fun z_1 => (stD 1 b z_1 z).bind fun b => (liveD y (D.ref 0 3)).bind fun z => (((atD y z).bind (takeD false 1)).bind chkV).bind fun z => (liveD b (D.ref 0 3)).bind fun z_2 =>
 (stD 1 b z_2 z).bind fun b => (fldD true 4 0 b).bind fun z => (stD 4 (D.agg [D.arr 4 [], D.arr 4 [], D.v (Value.int IntKind.i64 0), D.v (Value.int IntKind.i64 0)]) (D.ref 0 0) z).bind
 fun b => (fldD true 4 0 b).bind fun y => some (Out.ret [y] [])) := by kernel_rfl
theorem t_laws_eqBox (x0 x1 : D) : F_laws_eqBox [x0, x1] =
  ((boxD 4 x0).bind fun y => (boxD 4 x1).bind fun y_1 => (liveD y (D.ref 0 0)).bind fun z => ((atD y z).bind (takeD false 1)).bind fun z => (liveD y_1 (D.ref 0 0)).bind fun z_1 =>
 ((atD y_1 z_1).bind (takeD false 1)).bind fun z_2 => (bin BinOp.neq false [] z z_2).bind fun z => ifD z (some (Out.ret [D.v (Value.bool false)] [])) ((liveD y (D.ref 0 1)).bind fun z =>
 ((atD y z).bind (takeD false 1)).bind fun z => (liveD y_1 (D.ref 0 1)).bind fun z_3 => ((atD y_1 z_3).bind (takeD false 1)).bind fun z_4 => (bin BinOp.neq false [] z z_4).bind fun z =>
 ifD z (some (Out.ret [D.v (Value.bool false)] [])) ((liveD y (D.ref 0 2)).bind fun z => ((atD y z).bind (takeD false 1)).bind fun z => (liveD y_1 (D.ref 0 2)).bind fun z_5 =>
 ((atD y_1 z_5).bind (takeD false 1)).bind fun z_6 => (bin BinOp.neq false [] z z_6).bind fun z => ifD z (some (Out.ret [D.v (Value.bool false)] [])) ((liveD y (D.ref 0 3)).bind fun z =>
 ((atD y z).bind (takeD false 1)).bind fun z => (liveD y_1 (D.ref 0 3)).bind fun z_7 => ((atD y_1 z_7).bind (takeD false 1)).bind fun z_8 => (bin BinOp.neq false [] z z_8).bind fun z =>
 ifD z (some (Out.ret [D.v (Value.bool false)] [])) (some (Out.ret [D.v (Value.bool true)] [])))))) := by kernel_rfl
theorem t_laws_eqBoxS (x0 x1 : D) : F_laws_eqBoxS [x0, x1] =
  ((lenD false x0).bind fun z => (lenD false x1).bind fun z_1 => (bin BinOp.neq false [] z z_1).bind fun z => ifD z (some (Out.ret [D.v (Value.bool false)] [])) ((loopC (fun s => (lenD false (sl s 0)).bind fun z =>
 (bin BinOp.lss false [] (sl s 2) z).bind fun z => ifD z ((Option.map D.ptr (elemD 4 (sl s 0) (sl s 2))).bind fun z => ((ldD true 4 z).bind chkV).bind fun z => (Option.map D.ptr (elemD 4 (sl s 1) (sl s 2))).bind fun z_2 =>
 ((ldD true 4 z_2).bind chkV).bind fun z_3 => callK (F_laws_eqBox [z, z_3]) fun rs _u => (un UnOp.not (sl rs 0)).bind fun z => ifD z (some (Out.ret [D.v (Value.bool false)] []))
 ((bin BinOp.add false [] (sl s 2) (D.v (Value.int IntKind.i64 1))).bind fun z => some (Out.nrm [sl s 0, sl s 1, z]))) (some (Out.ext 0 []))) [x0, x1, D.v (Value.int IntKind.i64 0)]).bind fun o =>
 outK o (fun i _u => ifN (i.beq 0) (some (Out.ret [D.v (Value.bool true)] [])) none) fun a b => some (Out.ret a b))) := by kernel_rfl
theorem t_laws_eqStringS (x0 x1 : D) : F_laws_eqStringS [x0, x1] =
  ((lenD false x0).bind fun z => (lenD false x1).bind fun z_1 => (bin BinOp.neq false [] z z_1).bind fun z => ifD z (some (Out.ret [D.v (Value.bool false)] [])) ((loopC (fun s => (lenD false (sl s 0)).bind fun z =>
 (bin BinOp.lss false [] (sl s 2) z).bind fun z => ifD z ((Option.map D.ptr (elemD 1 (sl s 0) (sl s 2))).bind fun z => ((ldD false 1 z).bind chkV).bind fun z =>
 (Option.map D.ptr (elemD 1 (sl s 1) (sl s 2))).bind fun z_2 => ((ldD false 1 z_2).bind chkV).bind fun z_3 => (bin BinOp.neq false [] z z_3).bind fun z => ifD z (some (Out.ret [D.v (Value.bool false)] []))
 ((bin BinOp.add false [] (sl s 2) (D.v (Value.int IntKind.i64 1))).bind fun z => some (Out.nrm [sl s 0, sl s 1, z]))) (some (Out.ext 0 []))) [x0, x1, D.v (Value.int IntKind.i64 0)]).bind fun o =>
 outK o (fun i _u => ifN (i.beq 0) (some (Out.ret [D.v (Value.bool true)] [])) none) fun a b => some (Out.ret a b))) := by kernel_rfl
theorem t_laws_eqForme (x0 x1 : D) : F_laws_eqForme [x0, x1] =
  ((boxD 4 x0).bind fun y => (boxD 4 x1).bind fun y_1 => (liveD y (D.ref 0 0)).bind fun z => (((atD y z).bind (takeD false 1)).bind chkV).bind fun z => (liveD y_1 (D.ref 0 0)).bind fun z_1 =>
 (((atD y_1 z_1).bind (takeD false 1)).bind chkV).bind fun z_2 => (bin BinOp.neq false [] z z_2).bind fun z => ifD z (some (Out.ret [D.v (Value.bool false)] [])) ((liveD y (D.ref 0 1)).bind fun z =>
 ((atD y z).bind (takeD false 1)).bind fun z => (liveD y_1 (D.ref 0 1)).bind fun z_3 => ((atD y_1 z_3).bind (takeD false 1)).bind fun z_4 => callK (F_laws_eqStringS [z, z_4]) fun rs _u =>
 (un UnOp.not (sl rs 0)).bind fun z => ifD z (some (Out.ret [D.v (Value.bool false)] [])) ((liveD y (D.ref 0 2)).bind fun z => (((atD y z).bind (takeD false 1)).bind chkV).bind fun z =>
 (liveD y_1 (D.ref 0 2)).bind fun z_5 => (((atD y_1 z_5).bind (takeD false 1)).bind chkV).bind fun z_6 => (bin BinOp.neq true [] z z_6).bind fun z => ifD z (some (Out.ret [D.v (Value.bool false)] []))
 ((liveD y (D.ref 0 3)).bind fun z => (((atD y z).bind (takeD false 1)).bind chkV).bind fun z => (liveD y_1 (D.ref 0 3)).bind fun z_7 => (((atD y_1 z_7).bind (takeD false 1)).bind chkV).bind fun z_8 =>
 (bin BinOp.neq false [] z z_8).bind fun z => ifD z (some (Out.ret [D.v (Value.bool false)] [])) (some (Out.ret [D.v (Value.bool true)] [])))))) := by kernel_rfl
theorem t_laws_eqFormeS (x0 x1 : D) : F_laws_eqFormeS [x0, x1] =
  ((lenD false x0).bind fun z => (lenD false x1).bind fun z_1 => (bin BinOp.neq false [] z z_1).bind fun z => ifD z (some (Out.ret [D.v (Value.bool false)] [])) ((loopC (fun s => (lenD false (sl s 0)).bind fun z =>
 (bin BinOp.lss false [] (sl s 2) z).bind fun z => ifD z ((Option.map D.ptr (elemD 4 (sl s 0) (sl s 2))).bind fun z => (ldD true 4 z).bind fun z => (Option.map D.ptr (elemD 4 (sl s 1) (sl s 2))).bind fun z_2 =>
 (ldD true 4 z_2).bind fun z_3 => callK (F_laws_eqForme [z, z_3]) fun rs _u => (un UnOp.not (sl rs 0)).bind fun z => ifD z (some (Out.ret [D.v (Value.bool false)] []))
 ((bin BinOp.add false [] (sl s 2) (D.v (Value.int IntKind.i64 1))).bind fun z => some (Out.nrm [sl s 0, sl s 1, z]))) (some (Out.ext 0 []))) [x0, x1, D.v (Value.int IntKind.i64 0)]).bind fun o =>
 outK o (fun i _u => ifN (i.beq 0) (some (Out.ret [D.v (Value.bool true)] [])) none) fun a b => some (Out.ret a b))) := by kernel_rfl
theorem t_laws_eqShop (x0 x1 : D) : F_laws_eqShop [x0, x1] =
  ((boxD 4 x0).bind fun y => (boxD 4 x1).bind fun y_1 => (liveD y (D.ref 0 0)).bind fun z => ((atD y z).bind (takeD false 1)).bind fun z => (liveD y_1 (D.ref 0 0)).bind fun z_1 =>
 ((atD y_1 z_1).bind (takeD false 1)).bind fun z_2 => callK (F_laws_eqBoxS [z, z_2]) fun rs _u => (un UnOp.not (sl rs 0)).bind fun z => ifD z (some (Out.ret [D.v (Value.bool false)] []))
 ((liveD y (D.ref 0 1)).bind fun z => ((atD y z).bind (takeD false 1)).bind fun z => (liveD y_1 (D.ref 0 1)).bind fun z_3 => ((atD y_1 z_3).bind (takeD false 1)).bind fun z_4 =>
 callK (F_laws_eqFormeS [z, z_4]) fun rs _u => (un UnOp.not (sl rs 0)).bind fun z => ifD z (some (Out.ret [D.v (Value.bool false)] [])) ((liveD y (D.ref 0 2)).bind fun z =>
 (((atD y z).bind (takeD false 1)).bind chkV).bind fun z => (liveD y_1 (D.ref 0 2)).bind fun z_5 => (((atD y_1 z_5).bind (takeD false 1)).bind chkV).bind fun z_6 => (bin BinOp.neq false [] z z_6).bind fun z =>
 ifD z (some (Out.ret [D.v (Value.bool false)] [])) ((liveD y (D.ref 0 3)).bind fun z => (((atD y z).bind (takeD false 1)).bind chkV).bind fun z => (liveD y_1 (D.ref 0 3)).bind fun z_7 =>
 (((atD y_1 z_7).bind (takeD false 1)).bind chkV).bind fun z_8 => (bin BinOp.neq false [] z z_8).bind fun z => ifD z (some (Out.ret [D.v (Value.bool false)] [])) (some (Out.ret [D.v (Value.bool true)] [])))))) := by kernel_rfl
theorem t_laws_eqIntS (x0 x1 : D) : F_laws_eqIntS [x0, x1] =
  ((lenD false x0).bind fun z => (lenD false x1).bind fun z_1 => (bin BinOp.neq false [] z z_1).bind fun z => ifD z (some (Out.ret [D.v (Value.bool false)] [])) ((loopC (fun s => (lenD false (sl s 0)).bind fun z =>
 (bin BinOp.lss false [] (sl s 2) z).bind fun z => ifD z ((Option.map D.ptr (elemD 1 (sl s 0) (sl s 2))).bind fun z => ((ldD false 1 z).bind chkV).bind fun z =>
 (Option.map D.ptr (elemD 1 (sl s 1) (sl s 2))).bind fun z_2 => ((ldD false 1 z_2).bind chkV).bind fun z_3 => (bin BinOp.neq false [] z z_3).bind fun z => ifD z (some (Out.ret [D.v (Value.bool false)] []))
 ((bin BinOp.add false [] (sl s 2) (D.v (Value.int IntKind.i64 1))).bind fun z => some (Out.nrm [sl s 0, sl s 1, z]))) (some (Out.ext 0 []))) [x0, x1, D.v (Value.int IntKind.i64 0)]).bind fun o =>
 outK o (fun i _u => ifN (i.beq 0) (some (Out.ret [D.v (Value.bool true)] [])) none) fun a b => some (Out.ret a b))) := by kernel_rfl
theorem t_laws_markIntS (x0 x1 : D) : F_laws_markIntS [x0, x1] =
  ((loopC (fun s => (liveD (sl s 0) (D.ref 0 0)).bind fun z => ((liveD z (sl s 0)).bind (lenD false)).bind fun z => (bin BinOp.lss false [] (sl s 2) z).bind fun z => ifD z ((liveD (sl s 0) (D.ref 0 0)).bind fun z =>
 ((liveD z (sl s 0)).bind fun b => refI 1 b (sl s 2)).bind fun z => (stD 1 (sl s 0) z (sl s 1)).bind fun b => (bin BinOp.add false [] (sl s 1) (D.v (Value.int IntKind.i64 1))).bind fun z =>
 (bin BinOp.add false [] (sl s 2) (D.v (Value.int IntKind.i64 1))).bind fun z_1 => some (Out.nrm [b, z, z_1])) (some (Out.ext 0 [sl s 0, sl s 1]))) [x0, x1, D.v (Value.int IntKind.i64 0)]).bind fun o =>
 outK o (fun i s => ifN (i.beq 0) ((liveD (sl s 0) (sl s 0)).bind fun _u => some (Out.ret [sl s 1] [sl s 0])) none) fun a b => some (Out.ret a b)) := by kernel_rfl
theorem t_laws_heldIntS (x0 x1 : D) : F_laws_heldIntS [x0, x1] =
  ((loopC (fun s => (lenD false (sl s 0)).bind fun z => (bin BinOp.lss false [] (sl s 2) z).bind fun z => ifD z ((Option.map D.ptr (elemD 1 (sl s 0) (sl s 2))).bind fun z => ((ldD false 1 z).bind chkV).bind fun z =>
 (bin BinOp.neq false [] z (sl s 1)).bind fun z => ifD z (some (Out.ret [D.v (Value.int IntKind.i64 (-1))] [])) ((bin BinOp.add false [] (sl s 1) (D.v (Value.int IntKind.i64 1))).bind fun z =>
 (bin BinOp.add false [] (sl s 2) (D.v (Value.int IntKind.i64 1))).bind fun z_1 => some (Out.nrm [sl s 0, z, z_1]))) (some (Out.ext 0 [sl s 1]))) [x0, x1, D.v (Value.int IntKind.i64 0)]).bind
 fun o => outK o (fun i s => ifN (i.beq 0) (some (Out.ret [sl s 0] [])) none) fun a b => some (Out.ret a b)) := by kernel_rfl
theorem t_laws_markText (x0 : D) : F_laws_markText [x0] =
  ((bin BinOp.leq false [] x0 (D.v (Value.int IntKind.i64 0))).bind fun z => ifD z (some (Out.ret [D.v (Value.string { data := { toList := [109, 48] } })] [])) ((loopC (fun s =>
 (bin BinOp.gtr false [] (sl s 0) (D.v (Value.int IntKind.i64 0))).bind fun z => ifD z ((bin BinOp.rem false [] (sl s 0) (D.v (Value.int IntKind.i64 10))).bind fun z =>
 (bin BinOp.add false [] (D.v (Value.int IntKind.i64 48)) z).bind fun z => (convD (some IntKind.u8) false z).bind fun z => (mkArr 1 [z]).bind fun a => (strD a).bind fun z =>
 (bin BinOp.add false [] z (sl s 1)).bind fun z => (bin BinOp.quo false [] (sl s 0) (D.v (Value.int IntKind.i64 10))).bind fun z_1 => some (Out.nrm [z_1, z])) (some (Out.ext 0 [sl s 1])))
 [x0, D.v (Value.string { data := { toList := [] } })]).bind fun o => outK o (fun i s => ifN (i.beq 0) ((bin BinOp.add false [] (D.v (Value.string { data := { toList := [109] } })) (sl s 0)).bind fun z =>
 some (Out.ret [z] [])) none) fun a b => some (Out.ret a b))) := by kernel_rfl
theorem t_laws_markBoxS (x0 x1 : D) : F_laws_markBoxS [x0, x1] =
  ((loopC (fun s => (liveD (sl s 0) (D.ref 0 0)).bind fun z => ((liveD z (sl s 0)).bind (lenD false)).bind fun z => (bin BinOp.lss false [] (sl s 2) z).bind fun z => ifD z ((liveD (sl s 0) (D.ref 0 0)).bind fun z =>
 callK (F_laws_markText [sl s 1]) fun rs _u => ((liveD z (sl s 0)).bind fun b => refI 4 b (sl s 2)).bind fun z => (refAdd 0 z).bind fun z => (stD 1 (sl s 0) z (sl rs 0)).bind fun b =>
 (bin BinOp.add false [] (sl s 1) (D.v (Value.int IntKind.i64 1))).bind fun z => (liveD b (D.ref 0 0)).bind fun z_1 => ((liveD z_1 b).bind fun b => refI 4 b (sl s 2)).bind fun z_2 => (refAdd 1 z_2).bind fun z_3 =>
 (stD 1 b z_3 z).bind fun b => (bin BinOp.add false [] z (D.v (Value.int IntKind.i64 1))).bind fun z => (liveD b (D.ref 0 0)).bind fun z_4 => ((liveD z_4 b).bind fun b => refI 4 b (sl s 2)).bind fun z_5 =>
 (refAdd 2 z_5).bind fun z_6 => (stD 1 b z_6 z).bind fun b => (bin BinOp.add false [] z (D.v (Value.int IntKind.i64 1))).bind fun z => (liveD b (D.ref 0 0)).bind fun z_7 =>
 ((liveD z_7 b).bind fun b => refI 4 b (sl s 2)).bind fun z_8 => (refAdd 3 z_8).bind fun z_9 => (stD 1 b z_9 z).bind fun b => (bin BinOp.add false [] z (D.v (Value.int IntKind.i64 1))).bind fun z =>
 (bin BinOp.add false [] (sl s 2) (D.v (Value.int IntKind.i64 1))).bind fun z_10 => some (Out.nrm [b, z, z_10])) (some (Out.ext 0 [sl s 0, sl s 1]))) [x0, x1, D.v (Value.int IntKind.i64 0)]).bind fun o =>
 outK o (fun i s => ifN (i.beq 0) ((liveD (sl s 0) (sl s 0)).bind fun _u => some (Out.ret [sl s 1] [sl s 0])) none) fun a b => some (Out.ret a b)) := by kernel_rfl
theorem t_laws_markStringS (x0 x1 : D) : F_laws_markStringS [x0, x1] =
  ((loopC (fun s => (liveD (sl s 0) (D.ref 0 0)).bind fun z => ((liveD z (sl s 0)).bind (lenD false)).bind fun z => (bin BinOp.lss false [] (sl s 2) z).bind fun z => ifD z ((liveD (sl s 0) (D.ref 0 0)).bind fun z =>
 callK (F_laws_markText [sl s 1]) fun rs _u => ((liveD z (sl s 0)).bind fun b => refI 1 b (sl s 2)).bind fun z => (stD 1 (sl s 0) z (sl rs 0)).bind fun b =>
 (bin BinOp.add false [] (sl s 1) (D.v (Value.int IntKind.i64 1))).bind fun z => (bin BinOp.add false [] (sl s 2) (D.v (Value.int IntKind.i64 1))).bind fun z_1 => some (Out.nrm [b, z, z_1]))
 (some (Out.ext 0 [sl s 0, sl s 1]))) [x0, x1, D.v (Value.int IntKind.i64 0)]).bind fun o => outK o (fun i s => ifN (i.beq 0) ((liveD (sl s 0) (sl s 0)).bind fun _u => some (Out.ret [sl s 1] [sl s 0])) none)
 fun a b => some (Out.ret a b)) := by kernel_rfl
theorem t_laws_heldStringS (x0 x1 : D) : F_laws_heldStringS [x0, x1] =
  ((loopC (fun s => (lenD false (sl s 0)).bind fun z => (bin BinOp.lss false [] (sl s 2) z).bind fun z => ifD z ((Option.map D.ptr (elemD 1 (sl s 0) (sl s 2))).bind fun z => ((ldD false 1 z).bind chkV).bind fun z =>
 callK (F_laws_markText [sl s 1]) fun rs _u => (bin BinOp.neq false [] z (sl rs 0)).bind fun z => ifD z (some (Out.ret [D.v (Value.int IntKind.i64 (-1))] []))
 ((bin BinOp.add false [] (sl s 1) (D.v (Value.int IntKind.i64 1))).bind fun z => (bin BinOp.add false [] (sl s 2) (D.v (Value.int IntKind.i64 1))).bind fun z_1 => some (Out.nrm [sl s 0, z, z_1])))
 (some (Out.ext 0 [sl s 1]))) [x0, x1, D.v (Value.int IntKind.i64 0)]).bind fun o => outK o (fun i s => ifN (i.beq 0) (some (Out.ret [sl s 0] [])) none) fun a b => some (Out.ret a b)) := by kernel_rfl
theorem t_laws_heldBoxS (x0 x1 : D) : F_laws_heldBoxS [x0, x1] =
  ((loopC (fun s => (lenD false (sl s 0)).bind fun z => (bin BinOp.lss false [] (sl s 2) z).bind fun z => ifD z ((Option.map D.ptr (elemD 4 (sl s 0) (sl s 2))).bind fun z => (offD 0 z).bind fun z =>
 ((ldD false 1 z).bind chkV).bind fun z => callK (F_laws_markText [sl s 1]) fun rs _u => (bin BinOp.neq false [] z (sl rs 0)).bind fun z => ifD z (some (Out.ret [D.v (Value.int IntKind.i64 (-1))] []))
 ((bin BinOp.add false [] (sl s 1) (D.v (Value.int IntKind.i64 1))).bind fun z => (Option.map D.ptr (elemD 4 (sl s 0) (sl s 2))).bind fun z_1 => (offD 1 z_1).bind fun z_2 => ((ldD false 1 z_2).bind chkV).bind fun z_3 =>
 (bin BinOp.neq false [] z_3 z).bind fun z_4 => ifD z_4 (some (Out.ret [D.v (Value.int IntKind.i64 (-1))] [])) ((bin BinOp.add false [] z (D.v (Value.int IntKind.i64 1))).bind fun z =>
 (Option.map D.ptr (elemD 4 (sl s 0) (sl s 2))).bind fun z_5 => (offD 2 z_5).bind fun z_6 => ((ldD false 1 z_6).bind chkV).bind fun z_7 => (bin BinOp.neq false [] z_7 z).bind fun z_8 =>
 ifD z_8 (some (Out.ret [D.v (Value.int IntKind.i64 (-1))] [])) ((bin BinOp.add false [] z (D.v (Value.int IntKind.i64 1))).bind fun z => (Option.map D.ptr (elemD 4 (sl s 0) (sl s 2))).bind fun z_9 =>
 (offD 3 z_9).bind fun z_10 => ((ldD false 1 z_10).bind chkV).bind fun z_11 => (bin BinOp.neq false [] z_11 z).bind fun z_12 => ifD z_12 (some (Out.ret [D.v (Value.int IntKind.i64 (-1))] [])) ((bin BinOp.add false [] z
 (D.v (Value.int IntKind.i64 1))).bind fun z => (bin BinOp.add false [] (sl s 2) (D.v (Value.int IntKind.i64 1))).bind fun z_13 => some (Out.nrm [sl s 0, z, z_13])))))) (some (Out.ext 0 [sl s 1])))
 [x0, x1, D.v (Value.int IntKind.i64 0)]).bind fun o => outK o (fun i s => ifN (i.beq 0) (some (Out.ret [sl s 0] [])) none) fun a b => some (Out.ret a b)) := by kernel_rfl
theorem t_spec_l1In (x0 x1 x2 : D) : F_spec_l1In [x0, x1, x2] =
  ((bin BinOp.geq false [] x0 x1).bind fun z => (gate (D.tup []) z true (some x0)).bind fun z_1 => (gate (D.tup []) z true (some x2)).bind fun z_2 => (gate (D.tup []) z true (bin BinOp.leq false [] z_1 z_2)).bind fun z_3 =>
 (pickD z z_3 (D.v (Value.bool false))).bind fun z => some (Out.ret [z] [])) := by kernel_rfl
theorem t_spec_caFind (x0 x1 : D) : F_spec_caFind [x0, x1] =
  ((lenD false x0).bind fun z => (loopC (fun s => (bin BinOp.lss false [] (sl s 3) (sl s 2)).bind fun z => ifD z ((Option.map D.ptr (elemD 4 (sl s 1) (sl s 3))).bind fun z => ((ldD true 4 z).bind chkV).bind fun z => (stD 4
 (D.agg [D.v (Value.string { data := { toList := [] } }), D.v (Value.int IntKind.i64 0), D.v (Value.int IntKind.i64 0), D.v (Value.int IntKind.i64 0)]) (D.ref 0 0) z).bind fun b => (liveD b (D.ref 0 0)).bind fun z =>
 ((atD b z).bind (takeD false 1)).bind fun z => (bin BinOp.eql false [] z (sl s 0)).bind fun z => ifD z (some (Out.ret [sl s 3] [])) ((bin BinOp.add false [] (sl s 3) (D.v (Value.int IntKind.i64 1))).bind fun z =>
 some (Out.nrm [sl s 0, sl s 1, sl s 2, z]))) (some (Out.ext 0 []))) [x1, x0, z, D.v (Value.int IntKind.i64 0)]).bind fun o =>
 outK o (fun i _u => ifN (i.beq 0) (some (Out.ret [D.v (Value.int IntKind.i64 (-1))] [])) none) fun a b => some (Out.ret a b)) := by kernel_rfl
theorem t_spec_shForme (x0 x1 : D) : F_spec_shForme [x0, x1] =
  ((boxD 4 x1).bind fun y => (liveD y (D.ref 0 0)).bind fun z => (((atD y z).bind (takeD false 1)).bind chkV).bind fun z => callK (F_spec_l1In [z, D.v (Value.int IntKind.i64 1), D.v (Value.int IntKind.i64 99)]) fun rs _u =>
 (un UnOp.not (sl rs 0)).bind fun z => (gate D.bad z false (liveD y (D.ref 0 1))).bind fun z_1 => (gate (D.tup []) z false ((atD y z_1).bind (takeD false 1))).bind fun z_2 =>
 (gate (D.tup []) z false (lenD false z_2)).bind fun z_3 => (gate (D.tup []) z false (bin BinOp.gtr false [] z_3 (D.v (Value.int IntKind.i64 40)))).bind fun z_4 => (pickD z (D.v (Value.bool true)) z_4).bind fun z =>
 (gate D.bad z false (liveD y (D.ref 0 3))).bind fun z_5 => (gate (D.tup []) z false (((atD y z_5).bind (takeD false 1)).bind chkV)).bind fun z_6 => gateC z false (callK
 (F_spec_l1In [z_6, D.v (Value.int IntKind.i64 0), D.v (Value.int IntKind.i64 100000)]) fun rs _u => some (Out.nrm [sl rs 0])) [D.tup []] fun outs => (gate (D.tup []) z false (un UnOp.not (sl outs 0))).bind fun z_7 =>
 (pickD z (D.v (Value.bool true)) z_7).bind fun z => (gate D.bad z false (liveD y (D.ref 0 2))).bind fun z_8 => (gate (D.tup []) z false (((atD y z_8).bind (takeD false 1)).bind chkV)).bind fun z_9 =>
 (gate (D.tup []) z false (some z_9)).bind fun z_10 => (gate D.bad z_10 true (liveD y (D.ref 0 1))).bind fun z_11 => (gate (D.tup []) z_10 true ((atD y z_11).bind (takeD false 1))).bind fun z_12 =>
 (gate (D.tup []) z_10 true (lenD false z_12)).bind fun z_13 => (gate (D.tup []) z_10 true (bin BinOp.eql false [] z_13 (D.v (Value.int IntKind.i64 0)))).bind fun z_14 =>
 (gate (D.tup []) z false (pickD z_10 z_14 (D.v (Value.bool false)))).bind fun z_15 => (pickD z (D.v (Value.bool true)) z_15).bind fun z => ifD z (some (Out.ret [D.v (Value.bool false)] []))
 ((liveD y (D.ref 0 1)).bind fun z => ((atD y z).bind (takeD false 1)).bind fun z => (lenD false z).bind fun z_16 => (loopC (fun s => (bin BinOp.lss false [] (sl s 3) (sl s 2)).bind fun z => ifD z ((Option.map D.ptr
 (elemD 1 (sl s 1) (sl s 3))).bind fun z => ((ldD false 1 z).bind chkV).bind fun z => callK (F_spec_caFind [sl s 0, z]) fun rs _u => (bin BinOp.lss false [] (sl rs 0) (D.v (Value.int IntKind.i64 0))).bind fun z => ifD z
 (some (Out.ret [D.v (Value.bool false)] [])) ((bin BinOp.add false [] (sl s 3) (D.v (Value.int IntKind.i64 1))).bind fun z => some (Out.nrm [sl s 0, sl s 1, sl s 2, z]))) (some (Out.ext 0 [])))
 [x0, z, z_16, D.v (Value.int IntKind.i64 0)]).bind fun o => outK o (fun i _u => ifN (i.beq 0) (some (Out.ret [D.v (Value.bool true)] [])) none) fun a b => some (Out.ret a b))) := by kernel_rfl
theorem t_spec_tyLetters (x0 x1 : D) : F_spec_tyLetters [x0, x1] =
  ((loopC (fun s => (lenD true (sl s 0)).bind fun z => (bin BinOp.lss false [] (sl s 2) z).bind fun z => ifD z ((charD (sl s 0) (sl s 2)).bind fun z => (bin BinOp.lss false [] z (D.v (Value.int IntKind.u8 97))).bind fun z =>
 (gate (D.tup []) z false (some (sl s 0))).bind fun z_1 => (gate (D.tup []) z false (some (sl s 2))).bind fun z_2 => (gate (D.tup []) z false (charD z_1 z_2)).bind fun z_3 =>
 (gate (D.tup []) z false (bin BinOp.gtr false [] z_3 (D.v (Value.int IntKind.u8 122)))).bind fun z_4 => (pickD z (D.v (Value.bool true)) z_4).bind fun z => ifD z (some (Out.ret [D.v (Value.bool false)] []))
 ((bin BinOp.add false [] (sl s 2) (D.v (Value.int IntKind.i64 1))).bind fun z => some (Out.nrm [sl s 0, sl s 1, z]))) (some (Out.ext 0 [sl s 0, sl s 1]))) [x0, x1, D.v (Value.int IntKind.i64 0)]).bind fun o => outK o
 (fun i s => ifN (i.beq 0) ((lenD true (sl s 0)).bind fun z => callK (F_spec_l1In [z, D.v (Value.int IntKind.i64 1), sl s 1]) fun rs _u => some (Out.ret [sl rs 0] [])) none) fun a b => some (Out.ret a b)) := by kernel_rfl
theorem t_spec_caBox (x0 : D) : F_spec_caBox [x0] =
  ((boxD 4 x0).bind fun y => (liveD y (D.ref 0 0)).bind fun z => ((atD y z).bind (takeD false 1)).bind fun z => callK (F_spec_tyLetters [z, D.v (Value.int IntKind.i64 3)]) fun rs _u =>
 (gate D.bad (sl rs 0) true (liveD y (D.ref 0 1))).bind fun z => (gate (D.tup []) (sl rs 0) true ((atD y z).bind (takeD false 1))).bind fun z => gateC (sl rs 0) true
 (callK (F_spec_l1In [z, D.v (Value.int IntKind.i64 0), D.v (Value.int IntKind.i64 9)]) fun rs _u => some (Out.nrm [sl rs 0])) [D.tup []] fun outs => (pickD (sl rs 0) (sl outs 0) (D.v (Value.bool false))).bind fun z =>
 (gate D.bad z true (liveD y (D.ref 0 2))).bind fun z_1 => (gate (D.tup []) z true ((atD y z_1).bind (takeD false 1))).bind fun z_2 => gateC z true
 (callK (F_spec_l1In [z_2, D.v (Value.int IntKind.i64 0), D.v (Value.int IntKind.i64 9)]) fun rs _u => some (Out.nrm [sl rs 0])) [D.tup []] fun outs => (pickD z (sl outs 0) (D.v (Value.bool false))).bind fun z =>
 (gate D.bad z true (liveD y (D.ref 0 3))).bind fun z_3 => (gate (D.tup []) z true ((atD y z_3).bind (takeD false 1))).bind fun z_4 => gateC z true (callK
 (F_spec_l1In [z_4, D.v (Value.int IntKind.i64 0), D.v (Value.int IntKind.i64 9999)]) fun rs _u => some (Out.nrm [sl rs 0])) [D.tup []] fun outs =>
 (pickD z (sl outs 0) (D.v (Value.bool false))).bind fun z => some (Out.ret [z] [])) := by kernel_rfl
theorem t_spec_caGood (x0 : D) : F_spec_caGood [x0] =
  ((lenD false x0).bind fun z => (loopC (fun s => (bin BinOp.lss false [] (sl s 3) (sl s 2)).bind fun z => ifD z ((Option.map D.ptr (elemD 4 (sl s 1) (sl s 3))).bind fun z => ((ldD true 4 z).bind chkV).bind fun z => (stD 4
 (D.agg [D.v (Value.string { data := { toList := [] } }), D.v (Value.int IntKind.i64 0), D.v (Value.int IntKind.i64 0), D.v (Value.int IntKind.i64 0)]) (D.ref 0 0) z).bind fun b => (fldD true 4 0 b).bind fun z =>
 callK (F_spec_caBox [z]) fun rs _u => (un UnOp.not (sl rs 0)).bind fun z => (gate (D.tup []) z false (some (sl s 3))).bind fun z_1 => (gate (D.tup []) z false
 (bin BinOp.gtr false [] z_1 (D.v (Value.int IntKind.i64 0)))).bind fun z_2 => (gate (D.tup []) z false (some z_2)).bind fun z_3 => (gate (D.tup []) z_3 true (some (sl s 0))).bind fun z_4 =>
 (gate (D.tup []) z_3 true (some (sl s 3))).bind fun z_5 => (gate (D.tup []) z_3 true (bin BinOp.sub false [] z_5 (D.v (Value.int IntKind.i64 1)))).bind fun z_6 =>
 (gate (D.tup []) z_3 true (Option.map D.ptr (elemD 4 z_4 z_6))).bind fun z_7 => (gate (D.tup []) z_3 true (offD 0 z_7)).bind fun z_8 => (gate (D.tup []) z_3 true ((ldD false 1 z_8).bind chkV)).bind fun z_9 =>
 (gate D.bad z_3 true (liveD b (D.ref 0 0))).bind fun z_10 => (gate (D.tup []) z_3 true ((atD b z_10).bind (takeD false 1))).bind fun z_11 => (gate (D.tup []) z_3 true (bin BinOp.geq false [] z_9 z_11)).bind fun z_12 =>
 (gate (D.tup []) z false (pickD z_3 z_12 (D.v (Value.bool false)))).bind fun z_13 => (pickD z (D.v (Value.bool true)) z_13).bind fun z => ifD z (some (Out.ret [D.v (Value.bool false)] []))
 ((sliceD false 4 (sl s 0) (D.v (Value.int IntKind.i64 0)) (sl s 3)).bind fun z => (lenD false z).bind fun z_14 => (loopC (fun s => (bin BinOp.lss false [] (sl s 7) (sl s 6)).bind fun z => ifD z ((Option.map D.ptr
 (elemD 4 (sl s 5) (sl s 7))).bind fun z => ((ldD true 4 z).bind chkV).bind fun z => (stD 4 (D.agg [D.v (Value.string { data := { toList := [] } }), D.v (Value.int IntKind.i64 0), D.v (Value.int IntKind.i64 0),
 D.v (Value.int IntKind.i64 0)]) (D.ref 0 0) z).bind fun b => (liveD b (D.ref 0 1)).bind fun z => ((atD b z).bind (takeD false 1)).bind fun z => (liveD (sl s 1) (D.ref 0 1)).bind fun z_15 => ((atD (sl s 1) z_15).bind
 (takeD false 1)).bind fun z_16 => (bin BinOp.eql false [] z z_16).bind fun z => (gate D.bad z true (liveD b (D.ref 0 2))).bind fun z_17 => (gate (D.tup []) z true ((atD b z_17).bind (takeD false 1))).bind fun z_18 =>
 (gate D.bad z true (liveD (sl s 1) (D.ref 0 2))).bind fun z_19 => (gate (D.tup []) z true ((atD (sl s 1) z_19).bind (takeD false 1))).bind fun z_20 => (gate (D.tup []) z true (bin BinOp.eql false [] z_18 z_20)).bind
 fun z_21 => (pickD z z_21 (D.v (Value.bool false))).bind fun z => ifD z (some (Out.ret [D.v (Value.bool false)] [])) ((bin BinOp.add false [] (sl s 7) (D.v (Value.int IntKind.i64 1))).bind fun z => some (Out.nrm [sl s 0,
 sl s 1, sl s 2, sl s 3, sl s 4, sl s 5, sl s 6, z]))) (some (Out.ext 2 [sl s 0, sl s 2, sl s 3, sl s 4]))) [sl s 0, b, sl s 1, sl s 2, sl s 3, z, z_14, D.v (Value.int IntKind.i64 0)]).bind fun o => outK o (fun i s =>
 ifN (i.beq 2) ((bin BinOp.add false [] (sl s 3) (D.v (Value.int IntKind.i64 1))).bind fun z => some (Out.nrm [sl s 0, sl s 1, sl s 2, z])) (ifN (i.beq 1) ((bin BinOp.add false [] (sl s 3)
 (D.v (Value.int IntKind.i64 1))).bind fun z => some (Out.nrm [sl s 0, sl s 1, sl s 2, z])) (some (Out.ext i [sl s 0])))) fun a b => some (Out.ret a b))) (some (Out.ext 0 [sl s 0])))
 [x0, x0, z, D.v (Value.int IntKind.i64 0)]).bind fun o => outK o (fun i s => ifN (i.beq 0) ((lenD false (sl s 0)).bind fun z =>
 callK (F_spec_l1In [z, D.v (Value.int IntKind.i64 1), D.v (Value.int IntKind.i64 32)]) fun rs _u => some (Out.ret [sl rs 0] [])) none) fun a b => some (Out.ret a b)) := by kernel_rfl
theorem t_spec_shGood (x0 : D) : F_spec_shGood [x0] =
  ((boxD 4 x0).bind fun y => (liveD y (D.ref 0 1)).bind fun z => ((atD y z).bind (takeD false 1)).bind fun z => (lenD false z).bind fun z_1 => (loopC (fun s => (bin BinOp.lss false [] (sl s 4) (sl s 3)).bind fun z => ifD z
 ((Option.map D.ptr (elemD 4 (sl s 2) (sl s 4))).bind fun z => (ldD true 4 z).bind fun z => (stD 4 (D.agg [D.v (Value.int IntKind.i64 0), D.arr 1 [], D.v (Value.bool false), D.v (Value.int IntKind.i64 0)])
 (D.ref 0 0) z).bind fun b => (liveD (sl s 0) (D.ref 0 0)).bind fun z => ((atD (sl s 0) z).bind (takeD false 1)).bind fun z => (fldD true 4 0 b).bind fun z_2 => callK (F_spec_shForme [z, z_2]) fun rs _u =>
 (un UnOp.not (sl rs 0)).bind fun z => (gate (D.tup []) z false (some (sl s 4))).bind fun z_3 => (gate (D.tup []) z false (bin BinOp.gtr false [] z_3 (D.v (Value.int IntKind.i64 0)))).bind fun z_4 =>
 (gate (D.tup []) z false (some z_4)).bind fun z_5 => (gate D.bad z_5 true (liveD (sl s 0) (D.ref 0 1))).bind fun z_6 => (gate (D.tup []) z_5 true ((atD (sl s 0) z_6).bind (takeD false 1))).bind fun z_7 =>
 (gate (D.tup []) z_5 true (some (sl s 4))).bind fun z_8 => (gate (D.tup []) z_5 true (bin BinOp.sub false [] z_8 (D.v (Value.int IntKind.i64 1)))).bind fun z_9 =>
 (gate (D.tup []) z_5 true (Option.map D.ptr (elemD 4 z_7 z_9))).bind fun z_10 => (gate (D.tup []) z_5 true (offD 0 z_10)).bind fun z_11 => (gate (D.tup []) z_5 true ((ldD false 1 z_11).bind chkV)).bind fun z_12 =>
 (gate D.bad z_5 true (liveD b (D.ref 0 0))).bind fun z_13 => (gate (D.tup []) z_5 true (((atD b z_13).bind (takeD false 1)).bind chkV)).bind fun z_14 => (gate (D.tup []) z_5 true (bin BinOp.geq false [] z_12 z_14)).bind
 fun z_15 => (gate (D.tup []) z false (pickD z_5 z_15 (D.v (Value.bool false)))).bind fun z_16 => (pickD z (D.v (Value.bool true)) z_16).bind fun z => ifD z (some (Out.ret [D.v (Value.bool false)] []))
 ((liveD b (D.ref 0 3)).bind fun z => (((atD b z).bind (takeD false 1)).bind chkV).bind fun z => (bin BinOp.add false [] (sl s 1) z).bind fun z => (bin BinOp.add false [] (sl s 4) (D.v (Value.int IntKind.i64 1))).bind
 fun z_17 => some (Out.nrm [sl s 0, z, sl s 2, sl s 3, z_17]))) (some (Out.ext 0 [sl s 0, sl s 1]))) [y, D.v (Value.int IntKind.i64 0), z, z_1, D.v (Value.int IntKind.i64 0)]).bind fun o => outK o (fun i s => ifN (i.beq 0)
 ((liveD (sl s 0) (D.ref 0 0)).bind fun z => ((atD (sl s 0) z).bind (takeD false 1)).bind fun z => callK (F_spec_caGood [z]) fun rs _u => (gate D.bad (sl rs 0) true (liveD (sl s 0) (D.ref 0 1))).bind fun z =>
 (gate (D.tup []) (sl rs 0) true ((atD (sl s 0) z).bind (takeD false 1))).bind fun z => (gate (D.tup []) (sl rs 0) true (lenD false z)).bind fun z => (gate (D.tup []) (sl rs 0) true
 (bin BinOp.leq false [] z (D.v (Value.int IntKind.i64 5)))).bind fun z => (pickD (sl rs 0) z (D.v (Value.bool false))).bind fun z => (gate D.bad z true (liveD (sl s 0) (D.ref 0 2))).bind fun z_2 =>
 (gate (D.tup []) z true (((atD (sl s 0) z_2).bind (takeD false 1)).bind chkV)).bind fun z_3 => gateC z true (callK (F_spec_l1In [z_3, D.v (Value.int IntKind.i64 0), D.v (Value.int IntKind.i64 9999)])
 fun rs _u => some (Out.nrm [sl rs 0])) [D.tup []] fun outs => (pickD z (sl outs 0) (D.v (Value.bool false))).bind fun z => (gate D.bad z true (liveD (sl s 0) (D.ref 0 3))).bind fun z_4 => (gate (D.tup []) z true
 (((atD (sl s 0) z_4).bind (takeD false 1)).bind chkV)).bind fun z_5 => (gate (D.tup []) z true (some (sl s 1))).bind fun z_6 => gateC z true (callK (F_spec_l1In [z_5, z_6, D.v (Value.int IntKind.i64 1000000)])
 fun rs _u => some (Out.nrm [sl rs 0])) [D.tup []] fun outs => (pickD z (sl outs 0) (D.v (Value.bool false))).bind fun z => some (Out.ret [z] [])) none) fun a b => some (Out.ret a b)) := by kernel_rfl
theorem t_spec_LockedFormes (x0 : D) : F_spec_LockedFormes [x0] =
  ((boxD 4 x0).bind fun y => (fldD true 4 0 y).bind fun z => callK (F_spec_shGood [z]) fun rs _u => (un UnOp.not (sl rs 0)).bind fun z => ifD z (some (Out.ret [D.arr 1 [], D.v (Value.bool false)] []))
 ((liveD y (D.ref 0 1)).bind fun z => ((atD y z).bind (takeD false 1)).bind fun z => (lenD false z).bind fun z_1 => (loopC (fun s => (bin BinOp.lss false [] (sl s 3) (sl s 2)).bind fun z => ifD z
 ((Option.map D.ptr (elemD 4 (sl s 1) (sl s 3))).bind fun z => (ldD true 4 z).bind fun z => (stD 4 (D.agg [D.v (Value.int IntKind.i64 0), D.arr 1 [], D.v (Value.bool false), D.v (Value.int IntKind.i64 0)])
 (D.ref 0 0) z).bind fun b => (liveD b (D.ref 0 2)).bind fun z => (((atD b z).bind (takeD false 1)).bind chkV).bind fun z => ifD z ((liveD b (D.ref 0 0)).bind fun z =>
 (((atD b z).bind (takeD false 1)).bind chkV).bind fun z => (mkArr 1 [z]).bind fun a => (chkA a).bind fun b => (appD 1 8 (sl s 0) b).bind fun y => (bin BinOp.add false [] (sl s 3) (D.v (Value.int IntKind.i64 1))).bind
 fun z => some (Out.nrm [y, sl s 1, sl s 2, z])) ((bin BinOp.add false [] (sl s 3) (D.v (Value.int IntKind.i64 1))).bind fun z => some (Out.nrm [sl s 0, sl s 1, sl s 2, z]))) (some (Out.ext 0 [sl s 0])))
 [D.arr 1 [], z, z_1, D.v (Value.int IntKind.i64 0)]).bind fun o => outK o (fun i s => ifN (i.beq 0) (some (Out.ret [sl s 0, D.v (Value.bool true)] [])) none) fun a b => some (Out.ret a b))) := by kernel_rfl
theorem t_impl_within (x0 x1 x2 : D) : F_impl_within [x0, x1, x2] =
  ((bin BinOp.geq false [] x0 x1).bind fun z => (gate (D.tup []) z true (some x0)).bind fun z_1 => (gate (D.tup []) z true (some x2)).bind fun z_2 => (gate (D.tup []) z true (bin BinOp.leq false [] z_1 z_2)).bind fun z_3 =>
 (pickD z z_3 (D.v (Value.bool false))).bind fun z => some (Out.ret [z] [])) := by kernel_rfl
theorem t_impl_isFormeId (x0 : D) : F_impl_isFormeId [x0] =
  (callK (F_impl_within [x0, D.v (Value.int IntKind.i64 1), D.v (Value.int IntKind.i64 99)]) fun rs _u => some (Out.ret [sl rs 0] [])) := by kernel_rfl
theorem t_impl_boxAt (x0 x1 : D) : F_impl_boxAt [x0, x1] =
  ((lenD false x0).bind fun z => (loopC (fun s => (bin BinOp.lss false [] (sl s 3) (sl s 2)).bind fun z => ifD z ((Option.map D.ptr (elemD 4 (sl s 1) (sl s 3))).bind fun z => ((ldD true 4 z).bind chkV).bind fun z => (stD 4
 (D.agg [D.v (Value.string { data := { toList := [] } }), D.v (Value.int IntKind.i64 0), D.v (Value.int IntKind.i64 0), D.v (Value.int IntKind.i64 0)]) (D.ref 0 0) z).bind fun b => (liveD b (D.ref 0 0)).bind fun z =>
 ((atD b z).bind (takeD false 1)).bind fun z => (bin BinOp.eql false [] z (sl s 0)).bind fun z => ifD z (some (Out.ret [sl s 3] [])) ((bin BinOp.add false [] (sl s 3) (D.v (Value.int IntKind.i64 1))).bind fun z =>
 some (Out.nrm [sl s 0, sl s 1, sl s 2, z]))) (some (Out.ext 0 []))) [x1, x0, z, D.v (Value.int IntKind.i64 0)]).bind fun o =>
 outK o (fun i _u => ifN (i.beq 0) (some (Out.ret [D.v (Value.int IntKind.i64 (-1))] [])) none) fun a b => some (Out.ret a b)) := by kernel_rfl
theorem t_impl_areLetters (x0 x1 x2 : D) : F_impl_areLetters [x0, x1, x2] =
  ((loopC (fun s => (lenD true (sl s 0)).bind fun z => (bin BinOp.lss false [] (sl s 3) z).bind fun z => ifD z ((charD (sl s 0) (sl s 3)).bind fun z => (bin BinOp.lss false [] z (D.v (Value.int IntKind.u8 97))).bind fun z =>
 (gate (D.tup []) z false (some (sl s 0))).bind fun z_1 => (gate (D.tup []) z false (some (sl s 3))).bind fun z_2 => (gate (D.tup []) z false (charD z_1 z_2)).bind fun z_3 =>
 (gate (D.tup []) z false (bin BinOp.gtr false [] z_3 (D.v (Value.int IntKind.u8 122)))).bind fun z_4 => (pickD z (D.v (Value.bool true)) z_4).bind fun z => ifD z (some (Out.ret [D.v (Value.bool false)] []))
 ((bin BinOp.add false [] (sl s 3) (D.v (Value.int IntKind.i64 1))).bind fun z => some (Out.nrm [sl s 0, sl s 1, sl s 2, z]))) (some (Out.ext 0 [sl s 0, sl s 1, sl s 2]))) [x0, x1, x2, D.v (Value.int IntKind.i64 0)]).bind
 fun o => outK o (fun i s => ifN (i.beq 0) ((lenD true (sl s 0)).bind fun z => callK (F_impl_within [z, sl s 1, sl s 2]) fun rs _u => some (Out.ret [sl rs 0] [])) none) fun a b => some (Out.ret a b)) := by kernel_rfl
theorem t_impl_isCode (x0 : D) : F_impl_isCode [x0] =
  (callK (F_impl_areLetters [x0, D.v (Value.int IntKind.i64 1), D.v (Value.int IntKind.i64 3)]) fun rs _u => some (Out.ret [sl rs 0] [])) := by kernel_rfl
theorem t_impl_isPlace (x0 : D) : F_impl_isPlace [x0] =
  (callK (F_impl_within [x0, D.v (Value.int IntKind.i64 0), D.v (Value.int IntKind.i64 9)]) fun rs _u => some (Out.ret [sl rs 0] [])) := by kernel_rfl
theorem t_impl_IsBox (x0 : D) : F_impl_IsBox [x0] =
  ((boxD 4 x0).bind fun y => (liveD y (D.ref 0 0)).bind fun z => ((atD y z).bind (takeD false 1)).bind fun z => callK (F_impl_isCode [z]) fun rs _u => (gate D.bad (sl rs 0) true (liveD y (D.ref 0 1))).bind fun z =>
 (gate (D.tup []) (sl rs 0) true ((atD y z).bind (takeD false 1))).bind fun z => gateC (sl rs 0) true (callK (F_impl_isPlace [z]) fun rs _u => some (Out.nrm [sl rs 0])) [D.tup []] fun outs =>
 (pickD (sl rs 0) (sl outs 0) (D.v (Value.bool false))).bind fun z => (gate D.bad z true (liveD y (D.ref 0 2))).bind fun z_1 => (gate (D.tup []) z true ((atD y z_1).bind (takeD false 1))).bind fun z_2 =>
 gateC z true (callK (F_impl_isPlace [z_2]) fun rs _u => some (Out.nrm [sl rs 0])) [D.tup []] fun outs => (pickD z (sl outs 0) (D.v (Value.bool false))).bind fun z =>
 (gate D.bad z true (liveD y (D.ref 0 3))).bind fun z_3 => (gate (D.tup []) z true ((atD y z_3).bind (takeD false 1))).bind fun z_4 => gateC z true (callK
 (F_impl_within [z_4, D.v (Value.int IntKind.i64 0), D.v (Value.int IntKind.i64 9999)]) fun rs _u => some (Out.nrm [sl rs 0])) [D.tup []] fun outs =>
 (pickD z (sl outs 0) (D.v (Value.bool false))).bind fun z => some (Out.ret [z] [])) := by kernel_rfl
theorem t_impl_isTaken (x0 x1 x2 : D) : F_impl_isTaken [x0, x1, x2] =
  ((lenD false x0).bind fun z => (loopC (fun s => (bin BinOp.lss false [] (sl s 4) (sl s 3)).bind fun z => ifD z ((Option.map D.ptr (elemD 4 (sl s 2) (sl s 4))).bind fun z => ((ldD true 4 z).bind chkV).bind fun z => (stD 4
 (D.agg [D.v (Value.string { data := { toList := [] } }), D.v (Value.int IntKind.i64 0), D.v (Value.int IntKind.i64 0), D.v (Value.int IntKind.i64 0)]) (D.ref 0 0) z).bind fun b => (liveD b (D.ref 0 1)).bind fun z =>
 ((atD b z).bind (takeD false 1)).bind fun z => (bin BinOp.eql false [] z (sl s 0)).bind fun z => (gate D.bad z true (liveD b (D.ref 0 2))).bind fun z_1 =>
 (gate (D.tup []) z true ((atD b z_1).bind (takeD false 1))).bind fun z_2 => (gate (D.tup []) z true (some (sl s 1))).bind fun z_3 => (gate (D.tup []) z true (bin BinOp.eql false [] z_2 z_3)).bind fun z_4 =>
 (pickD z z_4 (D.v (Value.bool false))).bind fun z => ifD z (some (Out.ret [D.v (Value.bool true)] [])) ((bin BinOp.add false [] (sl s 4) (D.v (Value.int IntKind.i64 1))).bind fun z =>
 some (Out.nrm [sl s 0, sl s 1, sl s 2, sl s 3, z]))) (some (Out.ext 0 []))) [x1, x2, x0, z, D.v (Value.int IntKind.i64 0)]).bind fun o =>
 outK o (fun i _u => ifN (i.beq 0) (some (Out.ret [D.v (Value.bool false)] [])) none) fun a b => some (Out.ret a b)) := by kernel_rfl
theorem t_impl_IsCase (x0 : D) : F_impl_IsCase [x0] =
  ((lenD false x0).bind fun z => (loopC (fun s => (bin BinOp.lss false [] (sl s 3) (sl s 2)).bind fun z => ifD z ((Option.map D.ptr (elemD 4 (sl s 1) (sl s 3))).bind fun z => ((ldD true 4 z).bind chkV).bind fun z => (stD 4
 (D.agg [D.v (Value.string { data := { toList := [] } }), D.v (Value.int IntKind.i64 0), D.v (Value.int IntKind.i64 0), D.v (Value.int IntKind.i64 0)]) (D.ref 0 0) z).bind fun b => (fldD true 4 0 b).bind fun z =>
 callK (F_impl_IsBox [z]) fun rs _u => (un UnOp.not (sl rs 0)).bind fun z => (gate (D.tup []) z false (some (sl s 3))).bind fun z_1 => (gate (D.tup []) z false
 (bin BinOp.gtr false [] z_1 (D.v (Value.int IntKind.i64 0)))).bind fun z_2 => (gate (D.tup []) z false (some z_2)).bind fun z_3 => (gate (D.tup []) z_3 true (some (sl s 0))).bind fun z_4 =>
 (gate (D.tup []) z_3 true (some (sl s 3))).bind fun z_5 => (gate (D.tup []) z_3 true (bin BinOp.sub false [] z_5 (D.v (Value.int IntKind.i64 1)))).bind fun z_6 =>
 (gate (D.tup []) z_3 true (Option.map D.ptr (elemD 4 z_4 z_6))).bind fun z_7 => (gate (D.tup []) z_3 true (offD 0 z_7)).bind fun z_8 => (gate (D.tup []) z_3 true ((ldD false 1 z_8).bind chkV)).bind fun z_9 =>
 (gate D.bad z_3 true (liveD b (D.ref 0 0))).bind fun z_10 => (gate (D.tup []) z_3 true ((atD b z_10).bind (takeD false 1))).bind fun z_11 => (gate (D.tup []) z_3 true (bin BinOp.geq false [] z_9 z_11)).bind fun z_12 =>
 (gate (D.tup []) z false (pickD z_3 z_12 (D.v (Value.bool false)))).bind fun z_13 => (pickD z (D.v (Value.bool true)) z_13).bind fun z => (gate (D.tup []) z false (some (sl s 0))).bind fun z_14 =>
 (gate (D.tup []) z false (some (sl s 3))).bind fun z_15 => (gate (D.tup []) z false (sliceD false 4 z_14 (D.v (Value.int IntKind.i64 0)) z_15)).bind fun z_16 => (gate D.bad z false (liveD b (D.ref 0 1))).bind fun z_17 =>
 (gate (D.tup []) z false ((atD b z_17).bind (takeD false 1))).bind fun z_18 => (gate D.bad z false (liveD b (D.ref 0 2))).bind fun z_19 => (gate (D.tup []) z false ((atD b z_19).bind (takeD false 1))).bind fun z_20 =>
 gateC z false (callK (F_impl_isTaken [z_16, z_18, z_20]) fun rs _u => some (Out.nrm [sl rs 0])) [D.tup []] fun outs => (pickD z (D.v (Value.bool true)) (sl outs 0)).bind fun z => ifD z
 (some (Out.ret [D.v (Value.bool false)] [])) ((bin BinOp.add false [] (sl s 3) (D.v (Value.int IntKind.i64 1))).bind fun z => some (Out.nrm [sl s 0, sl s 1, sl s 2, z]))) (some (Out.ext 0 [sl s 0])))
 [x0, x0, z, D.v (Value.int IntKind.i64 0)]).bind fun o => outK o (fun i s => ifN (i.beq 0) ((lenD false (sl s 0)).bind fun z =>
 callK (F_impl_within [z, D.v (Value.int IntKind.i64 1), D.v (Value.int IntKind.i64 32)]) fun rs _u => some (Out.ret [sl rs 0] [])) none) fun a b => some (Out.ret a b)) := by kernel_rfl
theorem t_impl_areCodes (x0 x1 : D) : F_impl_areCodes [x0, x1] =
  ((lenD false x1).bind fun z => (loopC (fun s => (bin BinOp.lss false [] (sl s 4) (sl s 3)).bind fun z => ifD z ((Option.map D.ptr (elemD 1 (sl s 2) (sl s 4))).bind fun z => ((ldD false 1 z).bind chkV).bind fun z =>
 callK (F_impl_boxAt [sl s 0, z]) fun rs _u => (bin BinOp.lss false [] (sl rs 0) (D.v (Value.int IntKind.i64 0))).bind fun z => ifD z (some (Out.ret [D.v (Value.bool false)] []))
 ((bin BinOp.add false [] (sl s 4) (D.v (Value.int IntKind.i64 1))).bind fun z => some (Out.nrm [sl s 0, sl s 1, sl s 2, sl s 3, z]))) (some (Out.ext 0 [sl s 0, sl s 1])))
 [x0, x1, x1, z, D.v (Value.int IntKind.i64 0)]).bind fun o => outK o (fun i s => ifN (i.beq 0) (callK (F_impl_IsCase [sl s 0]) fun rs _u => (gate (D.tup []) (sl rs 0) true (some (sl s 1))).bind fun z =>
 (gate (D.tup []) (sl rs 0) true (lenD false z)).bind fun z => (gate (D.tup []) (sl rs 0) true (bin BinOp.leq false [] z (D.v (Value.int IntKind.i64 60)))).bind
 fun z => (pickD (sl rs 0) z (D.v (Value.bool false))).bind fun z => some (Out.ret [z] [])) none) fun a b => some (Out.ret a b)) := by kernel_rfl
theorem t_impl_isForme (x0 x1 : D) : F_impl_isForme [x0, x1] =
  ((boxD 4 x1).bind fun y => (liveD y (D.ref 0 0)).bind fun z => (((atD y z).bind (takeD false 1)).bind chkV).bind fun z => callK (F_impl_isFormeId [z]) fun rs _u => (gate (D.tup []) (sl rs 0) true (some x0)).bind fun z =>
 (gate D.bad (sl rs 0) true (liveD y (D.ref 0 1))).bind fun z_1 => (gate (D.tup []) (sl rs 0) true ((atD y z_1).bind (takeD false 1))).bind fun z_2 =>
 gateC (sl rs 0) true (callK (F_impl_areCodes [z, z_2]) fun rs _u => some (Out.nrm [sl rs 0])) [D.tup []] fun outs => (pickD (sl rs 0) (sl outs 0) (D.v (Value.bool false))).bind fun z =>
 (gate D.bad z true (liveD y (D.ref 0 1))).bind fun z_3 => (gate (D.tup []) z true ((atD y z_3).bind (takeD false 1))).bind fun z_4 => (gate (D.tup []) z true (lenD false z_4)).bind fun z_5 =>
 (gate (D.tup []) z true (bin BinOp.leq false [] z_5 (D.v (Value.int IntKind.i64 40)))).bind fun z_6 => (pickD z z_6 (D.v (Value.bool false))).bind fun z => (gate D.bad z true (liveD y (D.ref 0 3))).bind fun z_7 =>
 (gate (D.tup []) z true (((atD y z_7).bind (takeD false 1)).bind chkV)).bind fun z_8 => gateC z true (callK (F_impl_within [z_8, D.v (Value.int IntKind.i64 0), D.v (Value.int IntKind.i64 100000)])
 fun rs _u => some (Out.nrm [sl rs 0])) [D.tup []] fun outs => (pickD z (sl outs 0) (D.v (Value.bool false))).bind fun z => (gate D.bad z true (liveD y (D.ref 0 2))).bind fun z_9 =>
 (gate (D.tup []) z true (((atD y z_9).bind (takeD false 1)).bind chkV)).bind fun z_10 => (gate (D.tup []) z true (un UnOp.not z_10)).bind fun z_11 => (gate (D.tup []) z true (some z_11)).bind fun z_12 =>
 (gate D.bad z_12 false (liveD y (D.ref 0 1))).bind fun z_13 => (gate (D.tup []) z_12 false ((atD y z_13).bind (takeD false 1))).bind fun z_14 => (gate (D.tup []) z_12 false (lenD false z_14)).bind fun z_15 =>
 (gate (D.tup []) z_12 false (bin BinOp.gtr false [] z_15 (D.v (Value.int IntKind.i64 0)))).bind fun z_16 => (gate (D.tup []) z true (pickD z_12 (D.v (Value.bool true)) z_16)).bind fun z_17 =>
 (pickD z z_17 (D.v (Value.bool false))).bind fun z => some (Out.ret [z] [])) := by kernel_rfl
theorem t_impl_IsShop (x0 : D) : F_impl_IsShop [x0] =
  ((boxD 4 x0).bind fun y => (liveD y (D.ref 0 1)).bind fun z => ((atD y z).bind (takeD false 1)).bind fun z => (lenD false z).bind fun z_1 => (loopC (fun s => (bin BinOp.lss false [] (sl s 4) (sl s 3)).bind fun z => ifD z
 ((Option.map D.ptr (elemD 4 (sl s 2) (sl s 4))).bind fun z => (ldD true 4 z).bind fun z => (stD 4 (D.agg [D.v (Value.int IntKind.i64 0), D.arr 1 [], D.v (Value.bool false), D.v (Value.int IntKind.i64 0)])
 (D.ref 0 0) z).bind fun b => (liveD (sl s 0) (D.ref 0 0)).bind fun z => ((atD (sl s 0) z).bind (takeD false 1)).bind fun z => (fldD true 4 0 b).bind fun z_2 => callK (F_impl_isForme [z, z_2]) fun rs _u =>
 (un UnOp.not (sl rs 0)).bind fun z => (gate (D.tup []) z false (some (sl s 4))).bind fun z_3 => (gate (D.tup []) z false (bin BinOp.gtr false [] z_3 (D.v (Value.int IntKind.i64 0)))).bind fun z_4 =>
 (gate (D.tup []) z false (some z_4)).bind fun z_5 => (gate D.bad z_5 true (liveD (sl s 0) (D.ref 0 1))).bind fun z_6 => (gate (D.tup []) z_5 true ((atD (sl s 0) z_6).bind (takeD false 1))).bind fun z_7 =>
 (gate (D.tup []) z_5 true (some (sl s 4))).bind fun z_8 => (gate (D.tup []) z_5 true (bin BinOp.sub false [] z_8 (D.v (Value.int IntKind.i64 1)))).bind fun z_9 =>
 (gate (D.tup []) z_5 true (Option.map D.ptr (elemD 4 z_7 z_9))).bind fun z_10 => (gate (D.tup []) z_5 true (offD 0 z_10)).bind fun z_11 => (gate (D.tup []) z_5 true ((ldD false 1 z_11).bind chkV)).bind fun z_12 =>
 (gate D.bad z_5 true (liveD b (D.ref 0 0))).bind fun z_13 => (gate (D.tup []) z_5 true (((atD b z_13).bind (takeD false 1)).bind chkV)).bind fun z_14 => (gate (D.tup []) z_5 true (bin BinOp.geq false [] z_12 z_14)).bind
 fun z_15 => (gate (D.tup []) z false (pickD z_5 z_15 (D.v (Value.bool false)))).bind fun z_16 => (pickD z (D.v (Value.bool true)) z_16).bind fun z => ifD z (some (Out.ret [D.v (Value.bool false)] []))
 ((liveD b (D.ref 0 3)).bind fun z => (((atD b z).bind (takeD false 1)).bind chkV).bind fun z => (bin BinOp.add false [] (sl s 1) z).bind fun z => (bin BinOp.add false [] (sl s 4) (D.v (Value.int IntKind.i64 1))).bind
 fun z_17 => some (Out.nrm [sl s 0, z, sl s 2, sl s 3, z_17]))) (some (Out.ext 0 [sl s 0, sl s 1]))) [y, D.v (Value.int IntKind.i64 0), z, z_1, D.v (Value.int IntKind.i64 0)]).bind fun o => outK o (fun i s => ifN (i.beq 0)
 ((liveD (sl s 0) (D.ref 0 0)).bind fun z => ((atD (sl s 0) z).bind (takeD false 1)).bind fun z => callK (F_impl_IsCase [z]) fun rs _u => (gate D.bad (sl rs 0) true (liveD (sl s 0) (D.ref 0 1))).bind fun z =>
 (gate (D.tup []) (sl rs 0) true ((atD (sl s 0) z).bind (takeD false 1))).bind fun z => (gate (D.tup []) (sl rs 0) true (lenD false z)).bind fun z => (gate (D.tup []) (sl rs 0) true
 (bin BinOp.leq false [] z (D.v (Value.int IntKind.i64 5)))).bind fun z => (pickD (sl rs 0) z (D.v (Value.bool false))).bind fun z => (gate D.bad z true (liveD (sl s 0) (D.ref 0 2))).bind fun z_2 =>
 (gate (D.tup []) z true (((atD (sl s 0) z_2).bind (takeD false 1)).bind chkV)).bind fun z_3 => gateC z true (callK (F_impl_within [z_3, D.v (Value.int IntKind.i64 0), D.v (Value.int IntKind.i64 9999)])
 fun rs _u => some (Out.nrm [sl rs 0])) [D.tup []] fun outs => (pickD z (sl outs 0) (D.v (Value.bool false))).bind fun z => (gate D.bad z true (liveD (sl s 0) (D.ref 0 3))).bind fun z_4 => (gate (D.tup []) z true
 (((atD (sl s 0) z_4).bind (takeD false 1)).bind chkV)).bind fun z_5 => gateC z true (callK (F_impl_within [z_5, D.v (Value.int IntKind.i64 0), D.v (Value.int IntKind.i64 1000000)]) fun rs _u => some (Out.nrm [sl rs 0]))
 [D.tup []] fun outs => (pickD z (sl outs 0) (D.v (Value.bool false))).bind fun z => (gate D.bad z true (liveD (sl s 0) (D.ref 0 3))).bind fun z_6 => (gate (D.tup []) z true
 (((atD (sl s 0) z_6).bind (takeD false 1)).bind chkV)).bind fun z_7 => (gate (D.tup []) z true (some (sl s 1))).bind fun z_8 => (gate (D.tup []) z true (bin BinOp.geq false [] z_7 z_8)).bind fun z_9 =>
 (pickD z z_9 (D.v (Value.bool false))).bind fun z => some (Out.ret [z] [])) none) fun a b => some (Out.ret a b)) := by kernel_rfl
theorem t_impl_LockedFormes (x0 : D) : F_impl_LockedFormes [x0] =
  ((boxD 4 x0).bind fun y => (fldD true 4 0 y).bind fun z => callK (F_impl_IsShop [z]) fun rs _u => (un UnOp.not (sl rs 0)).bind fun z => ifD z ((mkArr 1 []).bind fun a => some (Out.ret [a, D.v (Value.bool false)] []))
 ((mkArr 1 []).bind fun a => (liveD y (D.ref 0 1)).bind fun z => ((atD y z).bind (takeD false 1)).bind fun z => (lenD false z).bind fun z_1 => (loopC (fun s => (bin BinOp.lss false [] (sl s 3) (sl s 2)).bind fun z => ifD z
 ((Option.map D.ptr (elemD 4 (sl s 1) (sl s 3))).bind fun z => (ldD true 4 z).bind fun z => (stD 4 (D.agg [D.v (Value.int IntKind.i64 0), D.arr 1 [], D.v (Value.bool false), D.v (Value.int IntKind.i64 0)])
 (D.ref 0 0) z).bind fun b => (liveD b (D.ref 0 2)).bind fun z => (((atD b z).bind (takeD false 1)).bind chkV).bind fun z => ifD z ((liveD b (D.ref 0 0)).bind fun z =>
 (((atD b z).bind (takeD false 1)).bind chkV).bind fun z => (mkArr 1 [z]).bind fun a => (chkA a).bind fun b => (appD 1 8 (sl s 0) b).bind fun y => (bin BinOp.add false [] (sl s 3) (D.v (Value.int IntKind.i64 1))).bind
 fun z => some (Out.nrm [y, sl s 1, sl s 2, z])) ((bin BinOp.add false [] (sl s 3) (D.v (Value.int IntKind.i64 1))).bind fun z => some (Out.nrm [sl s 0, sl s 1, sl s 2, z]))) (some (Out.ext 0 [sl s 0])))
 [a, z, z_1, D.v (Value.int IntKind.i64 0)]).bind fun o => outK o (fun i s => ifN (i.beq 0) (some (Out.ret [sl s 0, D.v (Value.bool true)] [])) none) fun a b => some (Out.ret a b))) := by kernel_rfl
theorem t_spec_l1OwnS (x0 : D) : F_spec_l1OwnS [x0] =
  ((mkArr 1 []).bind fun a => (chkA x0).bind fun b => (appD 1 16 a b).bind fun y => some (Out.ret [y] [])) := by kernel_rfl
theorem t_spec_shOwn (x0 : D) : F_spec_shOwn [x0] =
  ((boxD 4 x0).bind fun y => (mkArr 4 []).bind fun a => (liveD y (D.ref 0 0)).bind fun z => ((atD y z).bind (takeD false 1)).bind fun z => (appD 4 40 a z).bind fun y_1 => (liveD y (D.ref 0 2)).bind fun z =>
 (((atD y z).bind (takeD false 1)).bind chkV).bind fun z => (liveD y (D.ref 0 3)).bind fun z_1 => (((atD y z_1).bind (takeD false 1)).bind chkV).bind fun z_2 => (bldD [(0, 1), (2, 1), (3, 1)]
 [D.arr 4 [], D.arr 4 [], D.v (Value.int IntKind.i64 0), D.v (Value.int IntKind.i64 0)] [y_1, z, z_2]).bind fun z => (stD 4 (D.agg [D.arr 4 [], D.arr 4 [], D.v (Value.int IntKind.i64 0), D.v (Value.int IntKind.i64 0)])
 (D.ref 0 0) z).bind fun b => (liveD y (D.ref 0 1)).bind fun z => ((atD y z).bind (takeD false 1)).bind fun z => (lenD false z).bind fun z_3 => (loopC (fun s => (bin BinOp.lss false [] (sl s 4) (sl s 3)).bind fun z =>
 ifD z ((Option.map D.ptr (elemD 4 (sl s 2) (sl s 4))).bind fun z => (ldD true 4 z).bind fun z => (stD 4 (D.agg [D.v (Value.int IntKind.i64 0), D.arr 1 [], D.v (Value.bool false), D.v (Value.int IntKind.i64 0)])
 (D.ref 0 0) z).bind fun b => (liveD b (D.ref 0 1)).bind fun z => ((atD b z).bind (takeD false 1)).bind fun z => callK (F_spec_l1OwnS [z]) fun rs _u => (liveD b (D.ref 0 1)).bind fun z =>
 (stD 1 b z (sl rs 0)).bind fun b => (liveD (sl s 1) (D.ref 0 1)).bind fun z => ((atD (sl s 1) z).bind (takeD false 1)).bind fun _u => (fldD true 4 0 b).bind fun z => (mkArr 4 [z]).bind fun _u => none)
 (some (Out.ext 0 [sl s 0, sl s 1]))) [D.agg [D.arr 4 [], D.arr 4 [], D.v (Value.int IntKind.i64 0), D.v (Value.int IntKind.i64 0)], b, z, z_3, D.v (Value.int IntKind.i64 0)]).bind fun o => outK o (fun i s => ifN (i.beq 0)
 ((fldD true 4 0 (sl s 1)).bind fun z => (stD 4 (sl s 0) (D.ref 0 0) z).bind fun b => (fldD true 4 0 b).bind fun y => some (Out.ret [y] [])) none) fun a b => some (Out.ret a b)) := by kernel_rfl
theorem t_spec_caMove (x0 x1 x2 : D) : F_spec_caMove [x0, x1, x2] =
  ((mkArr 4 []).bind fun a => (chkA x0).bind fun b => (appD 4 40 a b).bind fun y => (lenD false x1).bind fun z => (loopC (fun s => (bin BinOp.lss false [] (sl s 4) (sl s 3)).bind fun z => ifD z
 ((Option.map D.ptr (elemD 1 (sl s 2) (sl s 4))).bind fun z => ((ldD false 1 z).bind chkV).bind fun z => (liveD (sl s 1) (D.ref 0 0)).bind fun z_1 => (liveD (sl s 1) (D.ref 0 0)).bind fun z_2 =>
 (liveD z_2 (sl s 1)).bind fun i => callK (F_spec_caFind [i, z]) fun rs _u => ((liveD z_1 (sl s 1)).bind fun b => refI 4 b (sl rs 0)).bind fun z => (refAdd 3 z).bind fun z =>
 ((atD (sl s 1) z).bind (takeD false 1)).bind fun z => (bin BinOp.add false [] z (sl s 0)).bind fun z => ((liveD z_1 (sl s 1)).bind fun b => refI 4 b (sl rs 0)).bind fun z_3 => (refAdd 3 z_3).bind fun z_4 =>
 (stD 1 (sl s 1) z_4 z).bind fun b => (bin BinOp.add false [] (sl s 4) (D.v (Value.int IntKind.i64 1))).bind fun z => some (Out.nrm [sl s 0, b, sl s 2, sl s 3, z])) (some (Out.ext 0 [sl s 1])))
 [x2, y, x1, z, D.v (Value.int IntKind.i64 0)]).bind fun o => outK o (fun i s => ifN (i.beq 0) ((liveD (sl s 0) (D.ref 0 0)).bind fun z => (liveD z (sl s 0)).bind fun i => callK (F_spec_caGood [i]) fun rs _u =>
 (un UnOp.not (sl rs 0)).bind fun z => ifD z (some (Out.ret [D.arr 4 [], D.v (Value.bool false)] [])) (some (Out.ret [sl s 0, D.v (Value.bool true)] []))) none) fun a b => some (Out.ret a b)) := by kernel_rfl
theorem t_spec_ReturnedShop (x0 : D) : F_spec_ReturnedShop [x0] =
  ((boxD 4 x0).bind fun y => (fldD true 4 0 y).bind fun z => callK (F_spec_shGood [z]) fun rs _u => (un UnOp.not (sl rs 0)).bind fun z => ifD z
 ((bldD [] [D.arr 4 [], D.arr 4 [], D.v (Value.int IntKind.i64 0), D.v (Value.int IntKind.i64 0)] []).bind fun z => (stD 4 (D.agg [D.arr 4 [], D.arr 4 [], D.v (Value.int IntKind.i64 0), D.v (Value.int IntKind.i64 0)])
 (D.ref 0 0) z).bind fun b => (fldD true 4 0 b).bind fun y => some (Out.ret [y, D.v (Value.bool false)] [])) ((fldD true 4 0 y).bind fun z => callK (F_spec_shOwn [z]) fun rs _u =>
 (stD 4 (D.agg [D.arr 4 [], D.arr 4 [], D.v (Value.int IntKind.i64 0), D.v (Value.int IntKind.i64 0)]) (D.ref 0 0) (sl rs 0)).bind fun b => (liveD b (D.ref 0 1)).bind fun z => ((atD b z).bind (takeD false 1)).bind fun z =>
 (lenD false z).bind fun z_1 => (loopC (fun s => (bin BinOp.lss false [] (sl s 4) (sl s 3)).bind fun z => ifD z ((Option.map D.ptr (elemD 4 (sl s 2) (sl s 4))).bind fun z => (ldD true 4 z).bind fun z => (stD 4 (D.agg
 [D.v (Value.int IntKind.i64 0), D.arr 1 [], D.v (Value.bool false), D.v (Value.int IntKind.i64 0)]) (D.ref 0 0) z).bind fun b => (liveD (sl s 1) (D.ref 0 0)).bind fun z =>
 ((atD (sl s 1) z).bind (takeD false 1)).bind fun z => (liveD b (D.ref 0 1)).bind fun z_2 => ((atD b z_2).bind (takeD false 1)).bind fun z_3 => callK (F_spec_caMove [z, z_3, D.v (Value.int IntKind.i64 1)]) fun rs _u =>
 (tupAt (D.tup rs) 0).bind fun y => (tupAt (tupCut (D.tup rs) 0) 1).bind fun z => (un UnOp.not z).bind fun z => ifD z ((bldD [] [D.arr 4 [], D.arr 4 [], D.v (Value.int IntKind.i64 0), D.v (Value.int IntKind.i64 0)]
 []).bind fun z => (stD 4 (sl s 0) (D.ref 0 0) z).bind fun b => (fldD true 4 0 b).bind fun y => some (Out.ret [y, D.v (Value.bool false)] [])) ((liveD (sl s 1) (D.ref 0 0)).bind fun z => (stD 1 (sl s 1) z y).bind fun b =>
 (bin BinOp.add false [] (sl s 4) (D.v (Value.int IntKind.i64 1))).bind fun z => some (Out.nrm [sl s 0, b, sl s 2, sl s 3, z]))) (some (Out.ext 0 [sl s 0, sl s 1]))) [D.agg
 [D.arr 4 [], D.arr 4 [], D.v (Value.int IntKind.i64 0), D.v (Value.int IntKind.i64 0)], b, z, z_1, D.v (Value.int IntKind.i64 0)]).bind fun o => outK o (fun i s => ifN (i.beq 0) ((liveD (sl s 1) (D.ref 0 1)).bind fun z =>
 (stD 1 (sl s 1) z (D.arr 0 [])).bind fun b => (fldD true 4 0 b).bind fun z => (stD 4 (sl s 0) (D.ref 0 0) z).bind fun b => (fldD true 4 0 b).bind fun y => some (Out.ret [y, D.v (Value.bool true)] [])) none)
 fun a b => some (Out.ret a b))) := by kernel_rfl
end Go.Proofs.Ytankikbbdfgkbaa
/-
  Numbers within bounds.
-/
namespace Go.Proofs.Ytankikbbdfgkbaa
open Go Go.V

theorem e_spec_l1In (a b c : Int) : F_spec_l1In [I a, I b, I c] = some (.ret [B (decide (b ≤ a ∧ a ≤ c))] []) := by
  rw [t_spec_l1In]
  by_cases h : b ≤ a <;> simp [h]
theorem e_impl_within (a b c : Int) : F_impl_within [I a, I b, I c] = some (.ret [B (decide (b ≤ a ∧ a ≤ c))] []) := by
  rw [t_impl_within]
  by_cases h : b ≤ a <;> simp [h]
end Go.Proofs.Ytankikbbdfgkbaa
/-
  More laws of loops; letters; cases.
-/
namespace Go.Proofs.Ytankikbbdfgkbaa
open Go Go.V
set_option linter.unusedSimpArgs false

/-- The first place where something holds. -/
def findI {β : Type} (p : β → Bool) : Nat → List β → Option Nat
  | _, [] => none
  | i, x :: l => if p x = true then some i else findI p (i + 1) l
theorem loop_find {β : Type} {body : List D → Option Out} (l : List β) (st : Nat → List D) (p : β → Bool) (o1 : Nat → Out) (o2 : Out) (hs : ∀ (i : Nat) (hi : i < l.length), body (st i) = some (if p l[i] = true then o1 i else .nrm (st (i + 1)))) (he : body (st l.length) = some o2)
    (h1 : ∀ i, (o1 i).ends = true) (h2 : o2.ends = true) {s0 : List D} (h : s0 = st 0) : loopC body s0 = some ((findI p 0 l).elim o2 o1) := by
  have e : ∀ (m : List β) (i : Nat), goL (fun i x (_ : Unit) => if p x = true then .inr (o1 i) else .inl ()) (fun _ => o2) i m () = (findI p i m).elim o2 o1 := by
    intro m
    induction m with
    | nil => intro i; simp [goL, findI]
    | cons x m ih =>
      intro i
      simp only [goL, findI]
      by_cases hp : p x = true
      · simp [hp]
      · simp [hp, ih]
  rw [← e]
  refine loop_list l (fun i _ => st i) (fun _ _ => True) _ _ (fun i x a hx _ => ?_) (fun _ _ => ⟨he, h2⟩) () trivial h
  have hi : i < l.length := (List.getElem?_eq_some_iff.1 hx).1
  have hxe : l[i] = x := (List.getElem?_eq_some_iff.1 hx).2
  have := hs i hi
  rw [hxe] at this
  by_cases hp : p x = true
  · simpa [hp, h1] using this
  · simpa [hp] using this
/-- All is well, and something is gathered. -/
theorem loop_allf {α β : Type} {body : List D → Option Out} (l : List β) (st : Nat → α → List D) (Inv : Nat → α → Prop) (p : Nat → β → Bool) (f : α → β → α) (o1 : Out) (fin : α → Out) (a : α) (hs : ∀ (i : Nat) (a : α) (hi : i < l.length), Inv i a → body (st i a) = some (if p i l[i] = true then .nrm (st (i + 1) (f a l[i])) else o1) ∧ (p i l[i] = true → Inv (i + 1) (f a l[i])))
    (he : ∀ a, Inv l.length a → body (st l.length a) = some (fin a)) (h1 : o1.ends = true) (h2 : ∀ a, (fin a).ends = true) (h0 : Inv 0 a) {s0 : List D} (h : s0 = st 0 a) : loopC body s0 = some (if allI p 0 l = true then fin (l.foldl f a) else o1) := by
  have e : ∀ (m : List β) (i : Nat) (a : α), goL (fun i x (a : α) => if p i x = true then .inl (f a x) else .inr o1) fin i m a = if allI p i m = true then fin (m.foldl f a) else o1 := by
    intro m
    induction m with
    | nil => intro i a; simp [goL, allI]
    | cons x m ih =>
      intro i a
      simp only [goL, allI, List.foldl_cons]
      by_cases hp : p i x = true
      · simp [hp, ih]
      · simp [hp]
  rw [← e]
  refine loop_list l st Inv _ _ (fun i x a hx hI => ?_) (fun a hI => ⟨he a hI, h2 a⟩) a h0 h
  have hi : i < l.length := (List.getElem?_eq_some_iff.1 hx).1
  have hxe : l[i] = x := (List.getElem?_eq_some_iff.1 hx).2
  have := hs i a hi hI
  rw [hxe] at this
  by_cases hp : p i x = true
  · simpa [hp] using this
  · simpa [hp, h1] using this
/-- What is left of a size. -/
theorem sz_loop {β : Type} {body : List D → Option Out} {K : Out → Option Out} {R : Option Out → Prop} (l : List β) (st : Nat → Int → List D) (P : β → Prop)
    (hs : ∀ (i : Nat) (hi : i < l.length) (m : Int), 0 ≤ m → m ≤ 1048576 → body (st i m) = some (.ret [I (-1)] []) ∨ ∃ m', body (st i m) = some (.nrm (st (i + 1) m')) ∧ 0 ≤ m' ∧ m' ≤ m ∧ P l[i])
    (he : ∀ m, body (st l.length m) = some (.ext 0 [I m])) (m0 : Int) (h0 : 0 ≤ m0) (h1 : m0 ≤ 1048576) {s0 : List D} (h : s0 = st 0 m0)
    (hk1 : R (K (.ret [I (-1)] []))) (hk2 : ∀ m, 0 ≤ m → m ≤ m0 → (∀ x ∈ l, P x) → R (K (.ext 0 [I m]))) : R ((loopC body s0).bind K) := by
  have key : ∀ (n i : Nat) (m : Int), i + n = l.length → 0 ≤ m → m ≤ m0 → (∀ (j : Nat) (hj : j < l.length), j < i → P l[j]) → ∃ o, Runs body (st i m) o ∧ (o = .ret [I (-1)] [] ∨ ∃ m', o = .ext 0 [I m'] ∧ 0 ≤ m' ∧ m' ≤ m0 ∧ ∀ x ∈ l, P x) := by
    intro n
    induction n with
    | zero =>
      intro i m hi g0 g1 hP
      have : i = l.length := by omega
      subst this
      refine ⟨_, Runs.one (he m) rfl, .inr ⟨m, rfl, g0, g1, fun x hx => ?_⟩⟩
      obtain ⟨j, hj, rfl⟩ := List.mem_iff_getElem.1 hx
      exact hP j hj hj
    | succ n ih =>
      intro i m hi g0 g1 hP
      have hlt : i < l.length := by omega
      rcases hs i hlt m g0 (by omega) with e | ⟨m', e, k0, k1, kP⟩
      · exact ⟨_, Runs.one e rfl, .inl rfl⟩
      · obtain ⟨o, r1, r2⟩ := ih (i + 1) m' (by omega) k0 (by omega) (fun j hj hji => by
          rcases Nat.lt_or_ge j i with h | h
          · exact hP j hj h
          · have : j = i := by omega
            subst this
            exact kP)
        exact ⟨o, .nrm e r1, r2⟩
  obtain ⟨o, r1, r2⟩ := key l.length 0 m0 (by omega) h0 (Int.le_refl _) (fun _ _ h => absurd h (by omega))
  rw [h, r1.loop]
  rcases r2 with rfl | ⟨m, rfl, g0, g1, gP⟩
  · exact hk1
  · exact hk2 m g0 g1 gP

def chars (s : ByteArray) : List UInt8 := s.data.toList
theorem charD_nat {s : ByteArray} {k : IntKind} {i : Nat} : charD (T s) (.v (.int k (i : Int))) = ((chars s)[i]?).map fun b => U b.toNat := by simp [charD, chars]
theorem size_list (s : ByteArray) : s.size = (chars s).length := rfl
theorem bin_geqS {a b : ByteArray} {bl : Bool} {eq : List Nat} : bin .geq bl eq (T a) (T b) = some (B (!Op.bytesLess a.toList b.toList)) := by simp [bin, strBin]

/-! ### letters -/
def az (b : UInt8) : Bool := decide (97 ≤ (b.toNat : Int)) && decide ((b.toNat : Int) ≤ 122)
def letters (s : ByteArray) (lo hi : Int) : Bool := allI (fun _ b => az b) 0 (chars s) && decide (lo ≤ (s.size : Int) ∧ (s.size : Int) ≤ hi)
theorem e_spec_tyLetters (s : ByteArray) (n : Int) (h : s.size ≤ 9223372036854775807) : F_spec_tyLetters [T s, I n] = some (.ret [B (letters s 1 n)] []) := by
  rw [t_spec_tyLetters]
  rw [size_list] at h
  refine loop_bind _ (loop_all (chars s) (fun i => [T s, I n, I i]) (fun _ b => az b) (.ret [B false] []) (.ext 0 [T s, I n]) (fun i hi => ?_) ?_ rfl rfl rfl) ?_
  · have hw : IntKind.i64.wrap ((i : Int) + 1) = (i : Int) + 1 := wrap_id (by omega) (by omega)
    by_cases h1 : 97 ≤ (((chars s)[i]).toNat : Int)
    · by_cases h2 : (((chars s)[i]).toNat : Int) ≤ 122
      · simp -implicitDefEqProofs [size_list, charD_nat, hi, hw, az, h1, h2, Int.not_lt.2 h1, Int.not_lt.2 h2]
      · simp -implicitDefEqProofs [size_list, charD_nat, hi, hw, az, h1, h2, Int.not_lt.2 h1, Int.not_le.1 h2]
    · simp -implicitDefEqProofs [size_list, charD_nat, hi, hw, az, h1, Int.not_le.1 h1]
  · simp -implicitDefEqProofs [size_list]
  · by_cases hg : allI (fun _ b => az b) 0 (chars s) = true <;> simp -implicitDefEqProofs [hg, letters, e_spec_l1In]
theorem e_impl_areLetters (s : ByteArray) (m n : Int) (h : s.size ≤ 9223372036854775807) : F_impl_areLetters [T s, I m, I n] = some (.ret [B (letters s m n)] []) := by
  rw [t_impl_areLetters]
  rw [size_list] at h
  refine loop_bind _ (loop_all (chars s) (fun i => [T s, I m, I n, I i]) (fun _ b => az b) (.ret [B false] []) (.ext 0 [T s, I m, I n]) (fun i hi => ?_) ?_ rfl rfl rfl) ?_
  · have hw : IntKind.i64.wrap ((i : Int) + 1) = (i : Int) + 1 := wrap_id (by omega) (by omega)
    by_cases h1 : 97 ≤ (((chars s)[i]).toNat : Int)
    · by_cases h2 : (((chars s)[i]).toNat : Int) ≤ 122
      · simp -implicitDefEqProofs [size_list, charD_nat, hi, hw, az, h1, h2, Int.not_lt.2 h1, Int.not_lt.2 h2]
      · simp -implicitDefEqProofs [size_list, charD_nat, hi, hw, az, h1, h2, Int.not_lt.2 h1, Int.not_le.1 h2]
    · simp -implicitDefEqProofs [size_list, charD_nat, hi, hw, az, h1, Int.not_le.1 h1]
  · simp -implicitDefEqProofs [size_list]
  · by_cases hg : allI (fun _ b => az b) 0 (chars s) = true <;> simp -implicitDefEqProofs [hg, letters, e_impl_within]
theorem e_impl_isCode (s : ByteArray) (h : s.size ≤ 9223372036854775807) : F_impl_isCode [T s] = some (.ret [B (letters s 1 3)] []) := by
  rw [t_impl_isCode]
  simp [e_impl_areLetters s 1 3 h]
theorem e_impl_isPlace (n : Int) : F_impl_isPlace [I n] = some (.ret [B (decide (0 ≤ n ∧ n ≤ 9))] []) := by
  rw [t_impl_isPlace]
  simp [e_impl_within]

/-! ### cases -/
abbrev Bx := ByteArray × Int × Int × Int
abbrev bx (x : Bx) : D := .agg [T x.1, I x.2.1, I x.2.2.1, I x.2.2.2]
abbrev bxs (l : List Bx) : D := .arr 4 (l.map bx)
theorem isV_bx (x : Bx) : (bx x).isV = true := rfl
/-- Sizes are what a machine can hold. -/
def okBx (l : List Bx) : Prop := l.length ≤ 1048576 ∧ ∀ x ∈ l, x.1.size ≤ 1048576
def isBx (x : Bx) : Bool := letters x.1 1 3 && decide (0 ≤ x.2.1 ∧ x.2.1 ≤ 9) && decide (0 ≤ x.2.2.1 ∧ x.2.2.1 ≤ 9) && decide (0 ≤ x.2.2.2 ∧ x.2.2.2 ≤ 9999)
theorem e_spec_caBox (x : Bx) (h : x.1.size ≤ 1048576) : F_spec_caBox [bx x] = some (.ret [B (isBx x)] []) := by
  rw [t_spec_caBox]
  have e := e_spec_tyLetters x.1 3 (by omega)
  cases h0 : letters x.1 1 3 <;> rw [h0] at e
  · simp -implicitDefEqProofs [e, isBx, h0]
  · by_cases h1 : 0 ≤ x.2.1 ∧ x.2.1 ≤ 9 <;> by_cases h2 : 0 ≤ x.2.2.1 ∧ x.2.2.1 ≤ 9 <;> simp -implicitDefEqProofs [e, e_spec_l1In, isBx, h0, h1, h2]
theorem e_impl_IsBox (x : Bx) (h : x.1.size ≤ 1048576) : F_impl_IsBox [bx x] = some (.ret [B (isBx x)] []) := by
  rw [t_impl_IsBox]
  have e := e_impl_isCode x.1 (by omega)
  cases h0 : letters x.1 1 3 <;> rw [h0] at e
  · simp -implicitDefEqProofs [e, isBx, h0]
  · by_cases h1 : 0 ≤ x.2.1 ∧ x.2.1 ≤ 9 <;> by_cases h2 : 0 ≤ x.2.2.1 ∧ x.2.2.1 ≤ 9 <;> simp -implicitDefEqProofs [e, e_impl_isPlace, e_impl_within, isBx, h0, h1, h2]
def sameP (x y : Bx) : Bool := decide (y.2.1 = x.2.1) && decide (y.2.2.1 = x.2.2.1)
def pBx (l : List Bx) (i : Nat) (x : Bx) : Bool := isBx x && !(decide (0 < i) && !Op.bytesLess (l.getD (i - 1) (ByteArray.empty, 0, 0, 0)).1.toList x.1.toList) && allI (fun _ y => !sameP x y) 0 (l.take i)
def goodC (l : List Bx) : Bool := allI (pBx l) 0 l && decide (1 ≤ (l.length : Int) ∧ (l.length : Int) ≤ 32)
theorem take_bxs {l : List Bx} {i : Nat} (hi : i ≤ l.length) : sliceD false 4 (bxs l) (I 0) (I (i : Int)) = some (bxs (l.take i)) := by
  have := sliceD_nat (z := 4) (l := l.map bx) (k := .i64) (k' := .i64) (Nat.zero_le i) (by simpa using hi)
  rw [List.drop_zero, ← List.map_take] at this
  exact this
theorem e_spec_caGood (l : List Bx) (h : okBx l) : F_spec_caGood [bxs l] = some (.ret [B (goodC l)] []) := by
  rw [t_spec_caGood]
  have hl := h.1
  simp only [lenD_arr, List.length_map, Option.bind_some]
  refine loop_bind _ (loop_all l (fun i => [bxs l, bxs l, I l.length, I i]) (pBx l) (.ret [B false] []) (.ext 0 [bxs l]) (fun i hi => ?_) ?_ rfl rfl rfl) ?_
  · have hw : IntKind.i64.wrap ((i : Int) + 1) = (i : Int) + 1 := wrap_id (by omega) (by omega)
    have eb := e_spec_caBox l[i] (h.2 _ (List.getElem_mem hi))
    have ht := take_bxs (Nat.le_of_lt hi)
    cases h1 : isBx l[i]
    · rw [h1] at eb
      simp -implicitDefEqProofs [hi, eb, h1, pBx]
    · rw [h1] at eb
      by_cases h0 : 0 < i
      · have hw2 : IntKind.i64.wrap ((i : Int) - 1) = ((i - 1 : Nat) : Int) := by rw [wrap_id (by omega) (by omega)]; omega
        have hy : i - 1 < l.length := by omega
        cases h2 : Op.bytesLess l[i - 1].1.toList l[i].1.toList
        · simp -implicitDefEqProofs [hi, hy, eb, h1, pBx, hw2, h0, h2, bin_geqS]
        · have hp : pBx l i l[i] = allI (fun _ y => !sameP l[i] y) 0 (l.take i) := by simp [pBx, h1, h0, h2, hy]
          rw [hp]
          have htl : (l.take i).length ≤ 1048576 := by simp; omega
          simp -implicitDefEqProofs [hi, hy, eb, hw2, h0, h2, bin_geqS, ht, hw, ← List.map_take, -List.length_take, -List.map_take]
          generalize l.take i = t at ht htl
          refine loop_bind _ (loop_all t (fun j => [bxs l, bx l[i], bxs l, I l.length, I i, bxs t, I t.length, I j]) (fun _ y => !sameP l[i] y) (.ret [B false] []) (.ext 2 [bxs l, bxs l, I l.length, I i]) (fun j hj => ?_) ?_ rfl rfl rfl) ?_
          · have hwj : IntKind.i64.wrap ((j : Int) + 1) = (j : Int) + 1 := wrap_id (by omega) (by omega)
            by_cases c1 : t[j].2.1 = l[i].2.1 <;> by_cases c2 : t[j].2.2.1 = l[i].2.2.1 <;> simp -implicitDefEqProofs [hj, hwj, c1, c2, sameP]
          · simp -implicitDefEqProofs
          · cases ha : allI (fun _ y => !sameP l[i] y) 0 t <;> simp -implicitDefEqProofs [hw]
      · have hp : pBx l i l[i] = allI (fun _ y => !sameP l[i] y) 0 (l.take i) := by simp [pBx, h1, h0]
        rw [hp]
        have htl : (l.take i).length ≤ 1048576 := by simp; omega
        simp -implicitDefEqProofs [hi, eb, h0, bin_geqS, ht, hw, ← List.map_take, -List.length_take, -List.map_take]
        generalize l.take i = t at ht htl
        refine loop_bind _ (loop_all t (fun j => [bxs l, bx l[i], bxs l, I l.length, I i, bxs t, I t.length, I j]) (fun _ y => !sameP l[i] y) (.ret [B false] []) (.ext 2 [bxs l, bxs l, I l.length, I i]) (fun j hj => ?_) ?_ rfl rfl rfl) ?_
        · have hwj : IntKind.i64.wrap ((j : Int) + 1) = (j : Int) + 1 := wrap_id (by omega) (by omega)
          by_cases c1 : t[j].2.1 = l[i].2.1 <;> by_cases c2 : t[j].2.2.1 = l[i].2.2.1 <;> simp -implicitDefEqProofs [hj, hwj, c1, c2, sameP]
        · simp -implicitDefEqProofs
        · cases ha : allI (fun _ y => !sameP l[i] y) 0 t <;> simp -implicitDefEqProofs [hw]
  · simp
  · by_cases hg : allI (pBx l) 0 l = true <;> simp -implicitDefEqProofs [hg, goodC, e_spec_l1In]

end Go.Proofs.Ytankikbbdfgkbaa
/-
  Boxes of codes; formes; shops.
-/
namespace Go.Proofs.Ytankikbbdfgkbaa
open Go Go.V
set_option linter.unusedSimpArgs false

theorem e_impl_isTaken (t : List Bx) (x : Bx) (h : t.length ≤ 1048576) : F_impl_isTaken [bxs t, I x.2.1, I x.2.2.1] = some (.ret [B (!allI (fun _ y => !sameP x y) 0 t)] []) := by
  rw [t_impl_isTaken]
  simp only [lenD_arr, List.length_map, Option.bind_some]
  refine loop_bind _ (loop_all t (fun j => [I x.2.1, I x.2.2.1, bxs t, I t.length, I j]) (fun _ y => !sameP x y) (.ret [B true] []) (.ext 0 []) (fun j hj => ?_) ?_ rfl rfl rfl) ?_
  · have hwj : IntKind.i64.wrap ((j : Int) + 1) = (j : Int) + 1 := wrap_id (by omega) (by omega)
    by_cases c1 : t[j].2.1 = x.2.1 <;> by_cases c2 : t[j].2.2.1 = x.2.2.1 <;> simp -implicitDefEqProofs [hj, hwj, c1, c2, sameP]
  · simp -implicitDefEqProofs
  · cases ha : allI (fun _ y => !sameP x y) 0 t <;> simp -implicitDefEqProofs
theorem e_impl_IsCase (l : List Bx) (h : okBx l) : F_impl_IsCase [bxs l] = some (.ret [B (goodC l)] []) := by
  rw [t_impl_IsCase]
  have hl := h.1
  simp only [lenD_arr, List.length_map, Option.bind_some]
  refine loop_bind _ (loop_all l (fun i => [bxs l, bxs l, I l.length, I i]) (pBx l) (.ret [B false] []) (.ext 0 [bxs l]) (fun i hi => ?_) ?_ rfl rfl rfl) ?_
  · have hw : IntKind.i64.wrap ((i : Int) + 1) = (i : Int) + 1 := wrap_id (by omega) (by omega)
    have eb := e_impl_IsBox l[i] (h.2 _ (List.getElem_mem hi))
    have ht := take_bxs (Nat.le_of_lt hi)
    have et := e_impl_isTaken (l.take i) l[i] (by simp; omega)
    cases h1 : isBx l[i]
    · rw [h1] at eb
      simp -implicitDefEqProofs [hi, eb, h1, pBx]
    · rw [h1] at eb
      by_cases h0 : 0 < i
      · have hw2 : IntKind.i64.wrap ((i : Int) - 1) = ((i - 1 : Nat) : Int) := by rw [wrap_id (by omega) (by omega)]; omega
        have hy : i - 1 < l.length := by omega
        cases h2 : Op.bytesLess l[i - 1].1.toList l[i].1.toList
        · simp -implicitDefEqProofs [hi, hy, eb, h1, pBx, hw2, h0, h2, bin_geqS]
        · have hp : pBx l i l[i] = allI (fun _ y => !sameP l[i] y) 0 (l.take i) := by simp [pBx, h1, h0, h2, hy]
          rw [hp]
          cases ha : allI (fun _ y => !sameP l[i] y) 0 (l.take i) <;> rw [ha] at et <;> simp -implicitDefEqProofs [hi, hy, eb, hw2, h0, h2, bin_geqS, ht, hw, et, ← List.map_take, -List.map_take]
      · have hp : pBx l i l[i] = allI (fun _ y => !sameP l[i] y) 0 (l.take i) := by simp [pBx, h1, h0]
        rw [hp]
        cases ha : allI (fun _ y => !sameP l[i] y) 0 (l.take i) <;> rw [ha] at et <;> simp -implicitDefEqProofs [hi, eb, h0, bin_geqS, ht, hw, et, ← List.map_take, -List.map_take]
  · simp
  · by_cases hg : allI (pBx l) 0 l = true <;> simp -implicitDefEqProofs [hg, goodC, e_impl_within]

/-- The place of a code, or -1. -/
def fB (l : List Bx) (c : ByteArray) : Int := (findI (fun b : Bx => decide (b.1 = c)) 0 l).elim (-1) fun j => (j : Int)
theorem e_spec_caFind (l : List Bx) (c : ByteArray) (h : l.length ≤ 1048576) : F_spec_caFind [bxs l, T c] = some (.ret [I (fB l c)] []) := by
  rw [t_spec_caFind]
  simp only [lenD_arr, List.length_map, Option.bind_some]
  refine loop_bind _ (loop_find l (fun i => [T c, bxs l, I l.length, I i]) (fun b : Bx => decide (b.1 = c)) (fun j => .ret [I j] []) (.ext 0 []) (fun i hi => ?_) ?_ (fun _ => rfl) rfl rfl) ?_
  · have hw : IntKind.i64.wrap ((i : Int) + 1) = (i : Int) + 1 := wrap_id (by omega) (by omega)
    by_cases hc : l[i].1 = c <;> simp -implicitDefEqProofs [hi, hw, hc]
  · simp
  · unfold fB
    cases findI (fun b : Bx => decide (b.1 = c)) 0 l <;> simp -implicitDefEqProofs
theorem e_impl_boxAt (l : List Bx) (c : ByteArray) (h : l.length ≤ 1048576) : F_impl_boxAt [bxs l, T c] = some (.ret [I (fB l c)] []) := by
  rw [t_impl_boxAt]
  simp only [lenD_arr, List.length_map, Option.bind_some]
  refine loop_bind _ (loop_find l (fun i => [T c, bxs l, I l.length, I i]) (fun b : Bx => decide (b.1 = c)) (fun j => .ret [I j] []) (.ext 0 []) (fun i hi => ?_) ?_ (fun _ => rfl) rfl rfl) ?_
  · have hw : IntKind.i64.wrap ((i : Int) + 1) = (i : Int) + 1 := wrap_id (by omega) (by omega)
    by_cases hc : l[i].1 = c <;> simp -implicitDefEqProofs [hi, hw, hc]
  · simp
  · unfold fB
    cases findI (fun b : Bx => decide (b.1 = c)) 0 l <;> simp -implicitDefEqProofs

abbrev txs (l : List ByteArray) : D := .arr 1 (l.map T)
def hasAll (l : List Bx) (cs : List ByteArray) : Bool := allI (fun _ c => !decide (fB l c < 0)) 0 cs
theorem e_impl_areCodes (l : List Bx) (cs : List ByteArray) (h : okBx l) (hc : cs.length ≤ 1048576) : F_impl_areCodes [bxs l, txs cs] = some (.ret [B (hasAll l cs && goodC l && decide ((cs.length : Int) ≤ 60))] []) := by
  rw [t_impl_areCodes]
  simp only [lenD_arr, List.length_map, Option.bind_some]
  refine loop_bind _ (loop_all cs (fun i => [bxs l, txs cs, txs cs, I cs.length, I i]) (fun _ c => !decide (fB l c < 0)) (.ret [B false] []) (.ext 0 [bxs l, txs cs]) (fun i hi => ?_) ?_ rfl rfl rfl) ?_
  · have hw : IntKind.i64.wrap ((i : Int) + 1) = (i : Int) + 1 := wrap_id (by omega) (by omega)
    have eb := e_impl_boxAt l cs[i] h.1
    by_cases hb : fB l cs[i] < 0 <;> simp -implicitDefEqProofs [hi, hw, eb, hb]
  · simp
  · cases ha : allI (fun _ c => !decide (fB l c < 0)) 0 cs
    · simp -implicitDefEqProofs [hasAll, ha]
    · cases hg : goodC l <;> simp -implicitDefEqProofs [hasAll, ha, e_impl_IsCase l h, hg]

/-! ### formes -/
abbrev Fm := Int × List ByteArray × Bool × Int
abbrev fm (x : Fm) : D := .agg [I x.1, txs x.2.1, B x.2.2.1, I x.2.2.2]
abbrev fms (l : List Fm) : D := .arr 4 (l.map fm)
def okFm (l : List Fm) : Prop := l.length ≤ 1048576 ∧ ∀ x ∈ l, x.2.1.length ≤ 1048576
def isFm (l : List Bx) (x : Fm) : Bool := decide (1 ≤ x.1 ∧ x.1 ≤ 99) && !decide (40 < (x.2.1.length : Int)) && decide (0 ≤ x.2.2.2 ∧ x.2.2.2 ≤ 100000) && !(x.2.2.1 && decide ((x.2.1.length : Int) = 0)) && hasAll l x.2.1
theorem e_spec_shForme (l : List Bx) (x : Fm) (h : l.length ≤ 1048576) (hx : x.2.1.length ≤ 1048576) : F_spec_shForme [bxs l, fm x] = some (.ret [B (isFm l x)] []) := by
  rw [t_spec_shForme]
  by_cases h1 : 1 ≤ x.1 ∧ x.1 ≤ 99
  case neg => simp -implicitDefEqProofs [e_spec_l1In, isFm, h1]
  by_cases h2 : 40 < (x.2.1.length : Int)
  case pos => simp -implicitDefEqProofs [e_spec_l1In, isFm, h1, h2]
  by_cases h3 : 0 ≤ x.2.2.2 ∧ x.2.2.2 ≤ 100000
  case neg => simp -implicitDefEqProofs [e_spec_l1In, isFm, h1, h2, h3]
  have main : ∀ (body : List D → Option Out) (K : Out → Option Out) (r : Option Out), (∀ (i : Nat) (hi : i < x.2.1.length), body [bxs l, txs x.2.1, I x.2.1.length, I i] = some (if (!decide (fB l x.2.1[i] < 0)) = true then .nrm [bxs l, txs x.2.1, I x.2.1.length, I (i + 1 : Nat)] else .ret [B false] [])) →
      body [bxs l, txs x.2.1, I x.2.1.length, I x.2.1.length] = some (.ext 0 []) → K (if hasAll l x.2.1 = true then .ext 0 [] else .ret [B false] []) = r → (loopC body [bxs l, txs x.2.1, I x.2.1.length, I 0]).bind K = r := fun body K r g1 g2 g3 =>
    loop_bind _ (loop_all x.2.1 (fun i => [bxs l, txs x.2.1, I x.2.1.length, I i]) (fun _ c => !decide (fB l c < 0)) (.ret [B false] []) (.ext 0 []) g1 g2 rfl rfl rfl) g3
  cases h4 : x.2.2.1
  · simp -implicitDefEqProofs [e_spec_l1In, isFm, h1, h2, h3, h4]
    refine main _ _ _ (fun i hi => ?_) ?_ ?_
    · have hw : IntKind.i64.wrap ((i : Int) + 1) = (i : Int) + 1 := wrap_id (by omega) (by omega)
      have eb := e_spec_caFind l x.2.1[i] h
      by_cases hb : fB l x.2.1[i] < 0 <;> simp -implicitDefEqProofs [hi, hw, eb, hb]
    · simp
    · cases hasAll l x.2.1 <;> simp -implicitDefEqProofs
  · by_cases h5 : (x.2.1.length : Int) = 0
    · have h5' : x.2.1 = [] := List.eq_nil_of_length_eq_zero (by omega)
      simp -implicitDefEqProofs [e_spec_l1In, isFm, h1, h3, h4, h5']
    · have h5' : ¬ x.2.1 = [] := fun e => h5 (by simp [e])
      simp -implicitDefEqProofs [e_spec_l1In, isFm, h1, h2, h3, h4, h5, h5']
      refine main _ _ _ (fun i hi => ?_) ?_ ?_
      · have hw : IntKind.i64.wrap ((i : Int) + 1) = (i : Int) + 1 := wrap_id (by omega) (by omega)
        have eb := e_spec_caFind l x.2.1[i] h
        by_cases hb : fB l x.2.1[i] < 0 <;> simp -implicitDefEqProofs [hi, hw, eb, hb]
      · simp
      · cases hasAll l x.2.1 <;> simp -implicitDefEqProofs
theorem e_impl_isFormeId (a : Int) : F_impl_isFormeId [I a] = some (.ret [B (decide (1 ≤ a ∧ a ≤ 99))] []) := by
  rw [t_impl_isFormeId]
  simp [e_impl_within]
theorem e_impl_isForme (l : List Bx) (x : Fm) (h : okBx l) (hx : x.2.1.length ≤ 1048576) : F_impl_isForme [bxs l, fm x] = some (.ret [B (isFm l x && goodC l)] []) := by
  rw [t_impl_isForme]
  have ec := e_impl_areCodes l x.2.1 h hx
  by_cases h1 : 1 ≤ x.1 ∧ x.1 ≤ 99
  case neg => simp -implicitDefEqProofs [e_impl_isFormeId, isFm, h1]
  cases ha : hasAll l x.2.1
  · simp -implicitDefEqProofs [e_impl_isFormeId, isFm, h1, ec, ha]
  cases hg : goodC l
  · simp -implicitDefEqProofs [e_impl_isFormeId, isFm, h1, ec, ha, hg]
  by_cases h60 : (x.2.1.length : Int) ≤ 60
  case neg =>
    have h40 : 40 < (x.2.1.length : Int) := by omega
    simp -implicitDefEqProofs [e_impl_isFormeId, isFm, h1, ec, ha, hg, h60, h40]
  by_cases h2 : 40 < (x.2.1.length : Int)
  case pos => simp -implicitDefEqProofs [e_impl_isFormeId, isFm, h1, ec, ha, hg, h60, h2, Int.not_le.2 h2]
  have h2' : (x.2.1.length : Int) ≤ 40 := by omega
  by_cases h3 : 0 ≤ x.2.2.2 ∧ x.2.2.2 ≤ 100000
  case neg => simp -implicitDefEqProofs [e_impl_isFormeId, e_impl_within, isFm, h1, ec, ha, hg, h60, h2, h2', h3]
  cases h4 : x.2.2.1
  · simp -implicitDefEqProofs [e_impl_isFormeId, e_impl_within, isFm, h1, ec, ha, hg, h60, h2, h2', h3, h4]
  · by_cases h5 : (x.2.1.length : Int) = 0
    · have h5' : x.2.1 = [] := List.eq_nil_of_length_eq_zero (by omega)
      rw [h5'] at ec ha
      simp -implicitDefEqProofs [e_impl_isFormeId, e_impl_within, isFm, h1, ec, ha, hg, h3, h4, h5']
    · have h5' : ¬ x.2.1 = [] := fun e => h5 (by simp [e])
      have h6 : 0 < (x.2.1.length : Int) := by omega
      have h6' : 0 < x.2.1.length := by omega
      simp -implicitDefEqProofs [e_impl_isFormeId, e_impl_within, isFm, h1, ec, ha, hg, h60, h2, h2', h3, h4, h5, h5', h6, h6']

end Go.Proofs.Ytankikbbdfgkbaa
/-
  Shops: copies, sizes, whether one is valid, its types; two laws.
-/
namespace Go.Proofs.Ytankikbbdfgkbaa
open Go Go.V
set_option linter.unusedSimpArgs false

abbrev Sp := List Bx × List Fm × Int × Int
abbrev sp (s : Sp) : D := .agg [bxs s.1, fms s.2.1, I s.2.2.1, I s.2.2.2]
def okSp (s : Sp) : Prop := okBx s.1 ∧ okFm s.2.1
/-- What comes in: lengths are lengths of a machine. -/
def inSp (s : Sp) : Prop := (s.1.length ≤ 9223372036854775807 ∧ ∀ x ∈ s.1, x.1.size ≤ 9223372036854775807) ∧ s.2.1.length ≤ 9223372036854775807 ∧ ∀ x ∈ s.2.1, x.2.1.length ≤ 9223372036854775807 ∧ ∀ c ∈ x.2.1, c.size ≤ 9223372036854775807

/-! ### valid shops -/
def pS (s : Sp) (i : Nat) (x : Fm) : Bool := isFm s.1 x && !(decide (0 < i) && decide (x.1 ≤ (s.2.1.getD (i - 1) (0, [], false, 0)).1))
def printed (l : List Fm) : Int := l.foldl (fun a x => a + x.2.2.2) 0
def shopOk (s : Sp) : Bool := allI (pS s) 0 s.2.1 && goodC s.1 && decide ((s.2.1.length : Int) ≤ 5) && decide (0 ≤ s.2.2.1 ∧ s.2.2.1 ≤ 9999) && decide (printed s.2.1 ≤ s.2.2.2 ∧ s.2.2.2 ≤ 1000000)
theorem isFm_printed {l : List Bx} {x : Fm} (h : isFm l x = true) : 0 ≤ x.2.2.2 ∧ x.2.2.2 ≤ 100000 := by
  simp only [isFm, Bool.and_eq_true, decide_eq_true_eq] at h
  exact h.1.1.2
theorem e_spec_shGood (s : Sp) (h : okSp s) : F_spec_shGood [sp s] = some (.ret [B (shopOk s)] []) := by
  rw [t_spec_shGood]
  have hl := h.2.1
  have hb := h.1.1
  simp -implicitDefEqProofs
  refine loop_bind _ (loop_allf s.2.1 (fun i a => [sp s, I a, fms s.2.1, I s.2.1.length, I i]) (fun i a => 0 ≤ a ∧ a ≤ 100000 * (i : Int)) (pS s) (fun a x => a + x.2.2.2) (.ret [B false] []) (fun a => .ext 0 [sp s, I a]) 0 (fun i a hi hI => ?_) (fun a _ => ?_) rfl (fun _ => rfl) (by simp) rfl) ?_
  · have hw : IntKind.i64.wrap ((i : Int) + 1) = (i : Int) + 1 := wrap_id (by omega) (by omega)
    have ef := e_spec_shForme s.1 s.2.1[i] hb (h.2.2 _ (List.getElem_mem hi))
    cases h1 : isFm s.1 s.2.1[i]
    · rw [h1] at ef
      exact ⟨by simp -implicitDefEqProofs [hi, ef, h1, pS], fun hc => by simp [pS, h1] at hc⟩
    · rw [h1] at ef
      have hpr := isFm_printed h1
      have hwa : IntKind.i64.wrap (a + s.2.1[i].2.2.2) = a + s.2.1[i].2.2.2 := wrap_id (by omega) (by omega)
      refine ⟨?_, fun _ => by omega⟩
      by_cases h0 : 0 < i
      · have hw2 : IntKind.i64.wrap ((i : Int) - 1) = ((i - 1 : Nat) : Int) := by rw [wrap_id (by omega) (by omega)]; omega
        have hy : i - 1 < s.2.1.length := by omega
        by_cases h2 : s.2.1[i].1 ≤ s.2.1[i - 1].1 <;> simp -implicitDefEqProofs [hi, hy, ef, h1, pS, hw, hw2, hwa, h0, h2]
      · simp -implicitDefEqProofs [hi, ef, h1, pS, hw, hwa, h0]
  · simp -implicitDefEqProofs
  · unfold shopOk printed
    cases ha : allI (pS s) 0 s.2.1
    · simp -implicitDefEqProofs
    generalize List.foldl (fun a (x : Fm) => a + x.2.2.2) 0 s.2.1 = S
    cases hg : goodC s.1
    · simp -implicitDefEqProofs [e_spec_caGood s.1 h.1, hg]
    by_cases h5 : s.2.1.length ≤ 5
    case neg => simp -implicitDefEqProofs [e_spec_caGood s.1 h.1, hg, h5, show ¬ (s.2.1.length : Int) ≤ 5 by omega]
    have h5' : (s.2.1.length : Int) ≤ 5 := by omega
    by_cases h6 : 0 ≤ s.2.2.1 ∧ s.2.2.1 ≤ 9999 <;> simp -implicitDefEqProofs [e_spec_caGood s.1 h.1, e_spec_l1In, hg, h5, h5', h6]
theorem e_impl_IsShop (s : Sp) (h : okSp s) : F_impl_IsShop [sp s] = some (.ret [B (shopOk s)] []) := by
  rw [t_impl_IsShop]
  have hl := h.2.1
  have hb := h.1.1
  simp -implicitDefEqProofs
  cases hg : goodC s.1
  · refine loop_bind _ (loop_allf s.2.1 (fun i a => [sp s, I a, fms s.2.1, I s.2.1.length, I i]) (fun i a => True) (fun _ _ => false) (fun a x => a + x.2.2.2) (.ret [B false] []) (fun a => .ext 0 [sp s, I a]) 0 (fun i a hi hI => ⟨?_, fun _ => trivial⟩) (fun a _ => ?_) rfl (fun _ => rfl) trivial rfl) ?_
    · have ef := e_impl_isForme s.1 s.2.1[i] h.1 (h.2.2 _ (List.getElem_mem hi))
      rw [hg, Bool.and_false] at ef
      simp -implicitDefEqProofs [hi, ef]
    · simp -implicitDefEqProofs
    · cases allI (fun _ (_ : Fm) => false) 0 s.2.1 <;> simp -implicitDefEqProofs [shopOk, hg, e_impl_IsCase s.1 h.1]
  refine loop_bind _ (loop_allf s.2.1 (fun i a => [sp s, I a, fms s.2.1, I s.2.1.length, I i]) (fun i a => 0 ≤ a ∧ a ≤ 100000 * (i : Int)) (pS s) (fun a x => a + x.2.2.2) (.ret [B false] []) (fun a => .ext 0 [sp s, I a]) 0 (fun i a hi hI => ?_) (fun a _ => ?_) rfl (fun _ => rfl) (by simp) rfl) ?_
  · have hw : IntKind.i64.wrap ((i : Int) + 1) = (i : Int) + 1 := wrap_id (by omega) (by omega)
    have ef := e_impl_isForme s.1 s.2.1[i] h.1 (h.2.2 _ (List.getElem_mem hi))
    rw [hg, Bool.and_true] at ef
    cases h1 : isFm s.1 s.2.1[i]
    · rw [h1] at ef
      exact ⟨by simp -implicitDefEqProofs [hi, ef, h1, pS], fun hc => by simp [pS, h1] at hc⟩
    · rw [h1] at ef
      have hpr := isFm_printed h1
      have hwa : IntKind.i64.wrap (a + s.2.1[i].2.2.2) = a + s.2.1[i].2.2.2 := wrap_id (by omega) (by omega)
      refine ⟨?_, fun _ => by omega⟩
      by_cases h0 : 0 < i
      · have hw2 : IntKind.i64.wrap ((i : Int) - 1) = ((i - 1 : Nat) : Int) := by rw [wrap_id (by omega) (by omega)]; omega
        have hy : i - 1 < s.2.1.length := by omega
        by_cases h2 : s.2.1[i].1 ≤ s.2.1[i - 1].1 <;> simp -implicitDefEqProofs [hi, hy, ef, h1, pS, hw, hw2, hwa, h0, h2]
      · simp -implicitDefEqProofs [hi, ef, h1, pS, hw, hwa, h0]
  · simp -implicitDefEqProofs
  · unfold shopOk
    cases ha : allI (pS s) 0 s.2.1
    · simp -implicitDefEqProofs
    have hS : 0 ≤ printed s.2.1 := by
      have key : ∀ (l : List Fm) (i : Nat) (a : Int), 0 ≤ a → allI (pS s) i l = true → 0 ≤ l.foldl (fun a x => a + x.2.2.2) a := by
        intro l
        induction l with
        | nil => intro i a ha _; exact ha
        | cons x l ih =>
          intro i a h0 hp
          simp only [allI, Bool.and_eq_true] at hp
          have := isFm_printed (l := s.1) (x := x) (by
            have := hp.1
            simp only [pS, Bool.and_eq_true] at this
            exact this.1)
          exact ih (i + 1) _ (show (0 : Int) ≤ a + x.2.2.2 by omega) hp.2
      exact key s.2.1 0 0 (by omega) ha
    unfold printed at hS ⊢
    generalize List.foldl (fun a (x : Fm) => a + x.2.2.2) 0 s.2.1 = S at hS
    by_cases h5 : s.2.1.length ≤ 5
    case neg => simp -implicitDefEqProofs [e_impl_IsCase s.1 h.1, hg, h5, show ¬ (s.2.1.length : Int) ≤ 5 by omega]
    have h5' : (s.2.1.length : Int) ≤ 5 := by omega
    by_cases h6 : 0 ≤ s.2.2.1 ∧ s.2.2.1 ≤ 9999
    case neg => simp -implicitDefEqProofs [e_impl_IsCase s.1 h.1, e_impl_within, hg, h5, h5', h6]
    by_cases h7 : 0 ≤ s.2.2.2 ∧ s.2.2.2 ≤ 1000000
    case neg =>
      have h8 : ¬ (S ≤ s.2.2.2 ∧ s.2.2.2 ≤ 1000000) := by omega
      simp -implicitDefEqProofs [e_impl_IsCase s.1 h.1, e_impl_within, hg, h5, h5', h6, h7, h8]
    by_cases h8 : S ≤ s.2.2.2 <;> simp -implicitDefEqProofs [e_impl_IsCase s.1 h.1, e_impl_within, hg, h5, h5', h6, h7, h8]
/-! ### equal shops -/
theorem e_laws_eqBox (x : Bx) : F_laws_eqBox [bx x, bx x] = some (.ret [B true] []) := by
  rw [t_laws_eqBox]
  simp -implicitDefEqProofs
theorem e_laws_eqBoxS (l : List Bx) (h : l.length ≤ 1048577) : F_laws_eqBoxS [bxs l, bxs l] = some (.ret [B true] []) := by
  rw [t_laws_eqBoxS]
  simp only [lenD_arr, List.length_map, Option.bind_some, bin_neq, decide_true, Bool.not_true, ifD_B, Bool.false_eq_true, if_false]
  refine loop_bind _ (loop_for l.length (fun i => [bxs l, bxs l, I i]) (.ext 0 []) (fun i hi => ?_) ?_ rfl rfl) ?_
  · have hw : IntKind.i64.wrap ((i : Int) + 1) = (i : Int) + 1 := wrap_id (by omega) (by omega)
    simp -implicitDefEqProofs [hi, e_laws_eqBox, hw]
  · simp
  · simp
theorem e_laws_eqStringS (l : List ByteArray) (h : l.length ≤ 1048577) : F_laws_eqStringS [txs l, txs l] = some (.ret [B true] []) := by
  rw [t_laws_eqStringS]
  simp only [lenD_arr, List.length_map, Option.bind_some, bin_neq, decide_true, Bool.not_true, ifD_B, Bool.false_eq_true, if_false]
  refine loop_bind _ (loop_for l.length (fun i => [txs l, txs l, I i]) (.ext 0 []) (fun i hi => ?_) ?_ rfl rfl) ?_
  · have hw : IntKind.i64.wrap ((i : Int) + 1) = (i : Int) + 1 := wrap_id (by omega) (by omega)
    simp -implicitDefEqProofs [hi, hw]
  · simp
  · simp
theorem e_laws_eqForme (x : Fm) (h : x.2.1.length ≤ 1048577) : F_laws_eqForme [fm x, fm x] = some (.ret [B true] []) := by
  rw [t_laws_eqForme]
  simp -implicitDefEqProofs [e_laws_eqStringS x.2.1 h]
theorem e_laws_eqFormeS (l : List Fm) (h : okFm l) : F_laws_eqFormeS [fms l, fms l] = some (.ret [B true] []) := by
  rw [t_laws_eqFormeS]
  have hl := h.1
  simp only [lenD_arr, List.length_map, Option.bind_some, bin_neq, decide_true, Bool.not_true, ifD_B, Bool.false_eq_true, if_false]
  refine loop_bind _ (loop_for l.length (fun i => [fms l, fms l, I i]) (.ext 0 []) (fun i hi => ?_) ?_ rfl rfl) ?_
  · have hw : IntKind.i64.wrap ((i : Int) + 1) = (i : Int) + 1 := wrap_id (by omega) (by omega)
    have ef := e_laws_eqForme l[i] (Nat.le_trans (h.2 _ (List.getElem_mem hi)) (by omega))
    simp -implicitDefEqProofs [hi, ef, hw]
  · simp
  · simp
theorem e_laws_eqShop (s : Sp) (h : okSp s) : F_laws_eqShop [sp s, sp s] = some (.ret [B true] []) := by
  rw [t_laws_eqShop]
  have := h.1.1
  simp -implicitDefEqProofs [e_laws_eqBoxS s.1 (by omega), e_laws_eqFormeS s.2.1 h.2]

/-! ### copies -/
theorem e_laws_toBox (x : Bx) : F_laws_toBox [bx x] = some (.ret [bx x] []) := by
  rw [t_laws_toBox]
  simp -implicitDefEqProofs
theorem e_laws_toBoxS (l : List Bx) (h : l.length ≤ 1048576) : F_laws_toBoxS [bxs l] = some (.ret [bxs l] []) := by
  rw [t_laws_toBoxS]
  have h1 : l.length * 40 ≤ 140737488355328 := by omega
  have h2 : l.length ≤ 140737488355328 := by omega
  simp only [lenD_arr, List.length_map, Option.bind_some, makD_nat, Nat.le_refl, h1, h2, and_self, if_true]
  rw [fillL_zero (f := bx) (l := l)]
  refine loop_bind (.ext 0 [bxs l]) (loop_for l.length (fun i => [bxs l, .arr 4 (fillL bx (bx (⟨#[]⟩, 0, 0, 0)) l i), I i]) _ (fun i hi => ?_) ?_ rfl rfl) ?_
  · have hx := List.getElem?_eq_getElem hi
    have hg := fillL_get (f := bx) (z := bx (⟨#[]⟩, 0, 0, 0)) hi
    have hs := fillL_set (f := bx) (z := bx (⟨#[]⟩, 0, 0, 0)) hx
    have hw : IntKind.i64.wrap ((i : Int) + 1) = (i : Int) + 1 := wrap_id (by omega) (by omega)
    simp -implicitDefEqProofs [hi, e_laws_toBox, Nat.le_of_lt hi, stD_arr hg, hs, hw]
  · simp [fillL_full]
  · simp
theorem e_laws_toStringS (l : List ByteArray) (h : l.length ≤ 1048576) : F_laws_toStringS [txs l] = some (.ret [txs l] []) := by
  rw [t_laws_toStringS]
  have h1 : l.length * 16 ≤ 140737488355328 := by omega
  have h2 : l.length ≤ 140737488355328 := by omega
  simp only [lenD_arr, List.length_map, Option.bind_some, makD_nat, Nat.le_refl, h1, h2, and_self, if_true]
  rw [fillL_zero (f := T) (l := l)]
  refine loop_bind (.ext 0 [txs l]) (loop_for l.length (fun i => [txs l, .arr 1 (fillL T (T ⟨#[]⟩) l i), I i]) _ (fun i hi => ?_) ?_ rfl rfl) ?_
  · have hx := List.getElem?_eq_getElem hi
    have hg := fillL_get (f := T) (z := T ⟨#[]⟩) hi
    have hs := fillL_set (f := T) (z := T ⟨#[]⟩) hx
    have hw : IntKind.i64.wrap ((i : Int) + 1) = (i : Int) + 1 := wrap_id (by omega) (by omega)
    simp -implicitDefEqProofs [hi, Nat.le_of_lt hi, stD_arr1 hg, hs, hw]
  · simp [fillL_full]
  · simp
theorem e_laws_toForme (x : Fm) (h : x.2.1.length ≤ 1048576) : F_laws_toForme [fm x] = some (.ret [fm x] []) := by
  rw [t_laws_toForme]
  simp -implicitDefEqProofs [e_laws_toStringS x.2.1 h]
theorem e_laws_toFormeS (l : List Fm) (h : okFm l) : F_laws_toFormeS [fms l] = some (.ret [fms l] []) := by
  rw [t_laws_toFormeS]
  have hl := h.1
  have h1 : l.length * 48 ≤ 140737488355328 := by omega
  have h2 : l.length ≤ 140737488355328 := by omega
  simp only [lenD_arr, List.length_map, Option.bind_some, makD_nat, Nat.le_refl, h1, h2, and_self, if_true]
  rw [fillL_zero (f := fm) (l := l)]
  refine loop_bind (.ext 0 [fms l]) (loop_for l.length (fun i => [fms l, .arr 4 (fillL fm (fm (0, [], false, 0)) l i), I i]) _ (fun i hi => ?_) ?_ rfl rfl) ?_
  · have hx := List.getElem?_eq_getElem hi
    have hg := fillL_get (f := fm) (z := fm (0, [], false, 0)) hi
    have hs := fillL_set (f := fm) (z := fm (0, [], false, 0)) hx
    have hw : IntKind.i64.wrap ((i : Int) + 1) = (i : Int) + 1 := wrap_id (by omega) (by omega)
    have ef := e_laws_toForme l[i] (h.2 _ (List.getElem_mem hi))
    simp -implicitDefEqProofs [hi, ef, Nat.le_of_lt hi, stD_arr hg, hs, hw]
  · simp [fillL_full]
  · simp
theorem e_laws_toShop (s : Sp) (h : okSp s) : F_laws_toShop [sp s] = some (.ret [sp s] []) := by
  rw [t_laws_toShop]
  simp -implicitDefEqProofs [e_laws_toBoxS s.1 h.1.1, e_laws_toFormeS s.2.1 h.2]

/-! ### sizes -/
theorem e_laws_szBox (x : Bx) (n : Int) (h : x.1.size ≤ 9223372036854775807) (h0 : 0 ≤ n) (h1 : n ≤ 1048576) : ∃ m, F_laws_szBox [bx x, I n] = some (.ret [I m] []) ∧ m ≤ n ∧ (0 ≤ m → x.1.size ≤ 1048576) := by
  rw [t_laws_szBox]
  have hw : IntKind.i64.wrap (n - x.1.size) = n - x.1.size := wrap_id (by omega) (by omega)
  by_cases hn : n - (x.1.size : Int) < 0
  · exact ⟨-1, by simp -implicitDefEqProofs [hw, hn], by omega, by omega⟩
  · exact ⟨n - x.1.size, by simp -implicitDefEqProofs [hw, hn], by omega, by omega⟩
theorem e_laws_szBoxS (l : List Bx) (n : Int) (h : l.length ≤ 9223372036854775807 ∧ ∀ x ∈ l, x.1.size ≤ 9223372036854775807) (h0 : 0 ≤ n) (h1 : n ≤ 1048576) : ∃ m, F_laws_szBoxS [bxs l, I n] = some (.ret [I m] []) ∧ m ≤ n ∧ (0 ≤ m → okBx l) := by
  have hl := h.1
  rw [t_laws_szBoxS]
  have hw : IntKind.i64.wrap (n - l.length) = n - l.length := wrap_id (by omega) (by omega)
  by_cases hn : n - (l.length : Int) < 0
  · exact ⟨-1, by simp -implicitDefEqProofs [hw, hn], by omega, by omega⟩
  simp -implicitDefEqProofs [hw, hn]
  refine sz_loop (R := fun X => ∃ m, X = some (.ret [I m] []) ∧ m ≤ n ∧ (0 ≤ m → okBx l)) l (fun i m => [bxs l, I m, I i]) (fun x => x.1.size ≤ 1048576) (fun i hi m g0 g1 => ?_) (fun m => ?_) (n - l.length) (by omega) (by omega) rfl ?_ (fun m g0 g1 gP => ?_)
  · have hwi : IntKind.i64.wrap ((i : Int) + 1) = (i : Int) + 1 := wrap_id (by omega) (by omega)
    obtain ⟨m', e, k1, k2⟩ := e_laws_szBox l[i] m (h.2 _ (List.getElem_mem hi)) g0 g1
    by_cases hm : m' < 0
    · exact .inl (by simp -implicitDefEqProofs [hi, e, hm])
    · exact .inr ⟨m', by simp -implicitDefEqProofs [hi, e, hm, hwi], by omega, k1, k2 (by omega)⟩
  · simp -implicitDefEqProofs
  · exact ⟨-1, by simp -implicitDefEqProofs, by omega, by omega⟩
  · exact ⟨m, by simp -implicitDefEqProofs, by omega, fun _ => ⟨by omega, gP⟩⟩
theorem e_laws_szStringS (l : List ByteArray) (n : Int) (h : l.length ≤ 9223372036854775807 ∧ ∀ x ∈ l, x.size ≤ 9223372036854775807) (h0 : 0 ≤ n) (h1 : n ≤ 1048576) : ∃ m, F_laws_szStringS [txs l, I n] = some (.ret [I m] []) ∧ m ≤ n ∧ (0 ≤ m → l.length ≤ 1048576) := by
  have hl := h.1
  rw [t_laws_szStringS]
  have hw : IntKind.i64.wrap (n - l.length) = n - l.length := wrap_id (by omega) (by omega)
  by_cases hn : n - (l.length : Int) < 0
  · exact ⟨-1, by simp -implicitDefEqProofs [hw, hn], by omega, by omega⟩
  simp -implicitDefEqProofs [hw, hn]
  refine sz_loop (R := fun X => ∃ m, X = some (.ret [I m] []) ∧ m ≤ n ∧ (0 ≤ m → l.length ≤ 1048576)) l (fun i m => [txs l, I m, I i]) (fun _ => True) (fun i hi m g0 g1 => ?_) (fun m => ?_) (n - l.length) (by omega) (by omega) rfl ?_ (fun m g0 g1 gP => ?_)
  · have hwi : IntKind.i64.wrap ((i : Int) + 1) = (i : Int) + 1 := wrap_id (by omega) (by omega)
    have hs := h.2 l[i] (List.getElem_mem hi)
    have hwm : IntKind.i64.wrap (m - l[i].size) = m - l[i].size := wrap_id (by omega) (by omega)
    by_cases hm : m - (l[i].size : Int) < 0
    · exact .inl (by simp -implicitDefEqProofs [hi, hwm, hm])
    · exact .inr ⟨m - l[i].size, by simp -implicitDefEqProofs [hi, hwm, hm, hwi], by omega, by omega, trivial⟩
  · simp -implicitDefEqProofs
  · exact ⟨-1, by simp -implicitDefEqProofs, by omega, by omega⟩
  · exact ⟨m, by simp -implicitDefEqProofs, by omega, fun _ => by omega⟩
theorem e_laws_szForme (x : Fm) (n : Int) (h : x.2.1.length ≤ 9223372036854775807 ∧ ∀ c ∈ x.2.1, c.size ≤ 9223372036854775807) (h0 : 0 ≤ n) (h1 : n ≤ 1048576) : ∃ m, F_laws_szForme [fm x, I n] = some (.ret [I m] []) ∧ m ≤ n ∧ (0 ≤ m → x.2.1.length ≤ 1048576) := by
  rw [t_laws_szForme]
  obtain ⟨m, e, k1, k2⟩ := e_laws_szStringS x.2.1 n h h0 h1
  by_cases hm : m < 0
  · exact ⟨-1, by simp -implicitDefEqProofs [e, hm], by omega, by omega⟩
  · exact ⟨m, by simp -implicitDefEqProofs [e, hm], k1, k2⟩
theorem e_laws_szFormeS (l : List Fm) (n : Int) (h : l.length ≤ 9223372036854775807 ∧ ∀ x ∈ l, x.2.1.length ≤ 9223372036854775807 ∧ ∀ c ∈ x.2.1, c.size ≤ 9223372036854775807) (h0 : 0 ≤ n) (h1 : n ≤ 1048576) : ∃ m, F_laws_szFormeS [fms l, I n] = some (.ret [I m] []) ∧ m ≤ n ∧ (0 ≤ m → okFm l) := by
  have hl := h.1
  rw [t_laws_szFormeS]
  have hw : IntKind.i64.wrap (n - l.length) = n - l.length := wrap_id (by omega) (by omega)
  by_cases hn : n - (l.length : Int) < 0
  · exact ⟨-1, by simp -implicitDefEqProofs [hw, hn], by omega, by omega⟩
  simp -implicitDefEqProofs [hw, hn]
  refine sz_loop (R := fun X => ∃ m, X = some (.ret [I m] []) ∧ m ≤ n ∧ (0 ≤ m → okFm l)) l (fun i m => [fms l, I m, I i]) (fun x => x.2.1.length ≤ 1048576) (fun i hi m g0 g1 => ?_) (fun m => ?_) (n - l.length) (by omega) (by omega) rfl ?_ (fun m g0 g1 gP => ?_)
  · have hwi : IntKind.i64.wrap ((i : Int) + 1) = (i : Int) + 1 := wrap_id (by omega) (by omega)
    obtain ⟨m', e, k1, k2⟩ := e_laws_szForme l[i] m (h.2 _ (List.getElem_mem hi)) g0 g1
    by_cases hm : m' < 0
    · exact .inl (by simp -implicitDefEqProofs [hi, e, hm])
    · exact .inr ⟨m', by simp -implicitDefEqProofs [hi, e, hm, hwi], by omega, k1, k2 (by omega)⟩
  · simp -implicitDefEqProofs
  · exact ⟨-1, by simp -implicitDefEqProofs, by omega, by omega⟩
  · exact ⟨m, by simp -implicitDefEqProofs, by omega, fun _ => ⟨by omega, gP⟩⟩
theorem e_laws_szShop (s : Sp) (h : inSp s) : ∃ m, F_laws_szShop [sp s, I 1048576] = some (.ret [I m] []) ∧ m ≤ 1048576 ∧ (0 ≤ m → okSp s) := by
  rw [t_laws_szShop]
  obtain ⟨m1, e1, k1, k2⟩ := e_laws_szBoxS s.1 1048576 h.1 (by omega) (by omega)
  by_cases h1 : m1 < 0
  · exact ⟨-1, by simp -implicitDefEqProofs [e1, h1], by omega, by omega⟩
  obtain ⟨m2, e2, g1, g2⟩ := e_laws_szFormeS s.2.1 m1 h.2 (by omega) k1
  by_cases h2 : m2 < 0
  · exact ⟨-1, by simp -implicitDefEqProofs [e1, h1, e2, h2], by omega, by omega⟩
  · exact ⟨m2, by simp -implicitDefEqProofs [e1, h1, e2, h2], by omega, fun h => ⟨k2 (by omega), g2 h⟩⟩

end Go.Proofs.Ytankikbbdfgkbaa
/-
  Formes in memory: a row of structs, each with a row of texts of its own.
-/
namespace Go.Proofs.Ytankikbbdfgkbaa
open Go Go.Proofs Go.V Go.RowKit
set_option linter.unusedSimpArgs false
set_option linter.unusedVariables false

/-- The cells of a forme whose texts lie at y. -/
def cellsF (x : Fm) (y : Value) : List Value := [.int .i64 x.1, y, .bool x.2.2.1, .int .i64 x.2.2.2]
def rowsF : List Fm → List Value → List Value
  | x :: l, y :: ys => cellsF x y ++ rowsF l ys
  | _, _ => []
theorem rowsF_len : ∀ (l : List Fm) (ys : List Value), ys.length = l.length → (rowsF l ys).length = l.length * 4
  | [], [], _ => rfl
  | x :: l, y :: ys, h => by
    simp only [rowsF, List.length_append, rowsF_len l ys (by simpa using h), cellsF, List.length_cons, List.length_nil]
    omega
  | [], _ :: _, h => by simp at h
  | _ :: _, [], h => by simp at h
/-- Field f of the forme at i. -/
theorem rowsF_at : ∀ (l : List Fm) (ys : List Value) (i : Nat) (x : Fm) (y : Value), l[i]? = some x → ys[i]? = some y → ∀ f, f < 4 → (rowsF l ys)[i * 4 + f]? = (cellsF x y)[f]?
  | a :: l, b :: ys, 0, x, y, h1, h2, f, hf => by
    simp only [List.getElem?_cons_zero, Option.some.injEq] at h1 h2
    subst h1 h2
    simp only [rowsF]
    rw [Nat.zero_mul, Nat.zero_add, List.getElem?_append_left (by simpa [cellsF] using hf)]
  | a :: l, b :: ys, i + 1, x, y, h1, h2, f, hf => by
    simp only [List.getElem?_cons_succ] at h1 h2
    simp only [rowsF]
    rw [show (i + 1) * 4 + f = 4 + (i * 4 + f) by omega, List.getElem?_append_right (by simp [cellsF])]
    simp only [cellsF, List.length_cons, List.length_nil]
    rw [show 4 + (i * 4 + f) - (0 + 1 + 1 + 1 + 1) = i * 4 + f by omega]
    exact rowsF_at l ys i x y h1 h2 f hf
  | [], _, _, _, _, h1, _, _, _ => by simp at h1
  | _ :: _, [], _, _, _, _, h2, _, _ => by simp at h2
theorem rowsF_set : ∀ (l : List Fm) (ys : List Value) (i : Nat) (x x' : Fm) (y : Value), l[i]? = some x → ys[i]? = some y → rowsF (l.set i x') ys = (((rowsF l ys).set (i * 4) (.int .i64 x'.1)).set (i * 4 + 2) (.bool x'.2.2.1)).set (i * 4 + 3) (.int .i64 x'.2.2.2)
  | a :: l, b :: ys, 0, x, x', y, h1, h2 => by
    simp [rowsF, cellsF]
  | a :: l, b :: ys, i + 1, x, x', y, h1, h2 => by
    simp only [List.getElem?_cons_succ] at h1 h2
    have ih := rowsF_set l ys i x x' y h1 h2
    simp only [rowsF, List.set_cons_succ, cellsF, List.cons_append, List.nil_append]
    rw [ih]
    have e0 : (i + 1) * 4 = i * 4 + 4 := by omega
    simp [e0, Nat.add_assoc, List.set_cons_succ]
  | [], _, _, _, _, _, h1, _ => by simp at h1
  | _ :: _, [], _, _, _, _, _, h2 => by simp at h2
theorem ownsRow_set {w : World} {base e size n : Nat} {v : Value} {xs : List Value} (h : w.ownsRow base e size v n xs) {g cap : Nat} (hv : v = .slice (some ⟨g, 0, none⟩) n cap) (j : Nat) (u : Value) : (w.setCell ⟨g, j, none⟩ u).ownsRow base e size v n (xs.set j u) := by
  obtain ⟨h1, ⟨hn, _⟩ | ⟨g', cap', cur, hg', h2, h3, h4, h5, h6, h7⟩⟩ := h
  · rw [hn] at hv
    cases hv
  · have e1 := hg'.symm.trans hv
    simp only [Value.slice.injEq, Option.some.injEq, Addr.mk.injEq, and_true, true_and] at e1
    obtain ⟨rfl, rfl⟩ := e1
    refine ⟨by rw [List.length_set]; exact h1, .inr ⟨g', cap', cur.setIfInBounds j u, hg', h2, heap_setCell_same _ _ _ _ _ _ h3, h4, h5, by rw [Array.size_setIfInBounds]; exact h6, ?_⟩⟩
    rw [Array.toList_setIfInBounds, List.take_set, h7]
/-- Formes in memory. -/
structure FmsAt (w : World) (B : Nat) (V : Value) (ys : List Value) (l : List Fm) : Prop where
  len : ys.length = l.length
  own : w.ownsRow B 63 4 V l.length (rowsF l ys)
  row : ∀ (i : Nat) (x : Fm) (y : Value), l[i]? = some x → ys[i]? = some y → OwnV w (fun _ => False) (fun b => y.ownBlock = some b) 1 (txs x.2.1) y
  blk : ∀ (i : Nat) (y : Value) (b : Nat), ys[i]? = some y → y.ownBlock = some b → B ≤ b ∧ V.ownBlock ≠ some b
  dis : ∀ (i j : Nat) (y z : Value), i ≠ j → ys[i]? = some y → ys[j]? = some z → y.ownBlock = none ∨ y.ownBlock ≠ z.ownBlock
end Go.Proofs.Ytankikbbdfgkbaa
/-
  Locked formes told, both sides; marks of texts.
-/
namespace Go.Proofs.Ytankikbbdfgkbaa
open Go Go.V
set_option linter.unusedSimpArgs false
set_option linter.unusedVariables false

abbrev ints (l : List Int) : D := .arr 1 (l.map I)
theorem app_ints {l m : List Int} (h : l.length + m.length ≤ 1048576) : appD 1 8 (ints l) (ints m) = some (ints (l ++ m)) := by
  rw [appD_eq, if_pos (by simp only [List.length_map, true_or, true_and]; omega)]
  show _ = some (D.arr 1 ((l ++ m).map I))
  rw [List.map_append]
theorem one_int (n : Int) : mkArr 1 [I n] = some (ints [n]) := by simp [mkArr, lenOkD]
theorem chk_int (l : List Int) : chkA (ints l) = some (ints l) := chkA_map fun _ => rfl
/-- The numbers of the locked ones. -/
def lckL (l : List Fm) : List Int := (l.filter fun x => x.2.2.1).map fun x => x.1
def lckR (s : Sp) : List Int := if shopOk s then lckL s.2.1 else []
theorem fm_get {l : List Fm} {i : Nat} (h : i < l.length) : elemD 4 (fms l) (I (i : Int)) = some [I l[i].1, txs l[i].2.1, B l[i].2.2.1, I l[i].2.2.2] := by
  rw [elemD_int (by omega)]
  simp [h, D.cells]
theorem st_fm (x : Fm) : stD 4 (.agg [I 0, .arr 1 [], B false, I 0]) (.ref 0 0) (.agg [I x.1, txs x.2.1, B x.2.2.1, I x.2.2.2]) = some (.agg [I x.1, txs x.2.1, B x.2.2.1, I x.2.2.2]) := by
  simp [stD, D.cells, D.single, putCells, D.ofCells]
theorem lck_succ {l : List Fm} {i : Nat} (h : i < l.length) : lckL (l.take (i + 1)) = lckL (l.take i) ++ if l[i].2.2.1 then [l[i].1] else [] := by
  unfold lckL
  rw [List.take_succ_eq_append_getElem h, List.filter_append, List.map_append]
  congr 1
  cases hb : l[i].2.2.1 <;> simp [hb]
theorem lck_len (l : List Fm) : (lckL l).length ≤ l.length := by
  unfold lckL
  rw [List.length_map]
  exact List.length_filter_le _ _
theorem e_spec_LockedFormes (s : Sp) (h : okSp s) : F_spec_LockedFormes [sp s] = some (.ret [ints (lckR s), B (shopOk s)] []) := by
  rw [t_spec_LockedFormes]
  unfold lckR
  cases hok : shopOk s
  · simp -implicitDefEqProofs [e_spec_shGood s h, hok]
  have hl := h.2.1
  simp -implicitDefEqProofs [e_spec_shGood s h, hok]
  refine loop_bind _ (loop_for s.2.1.length (fun i => [ints (lckL (s.2.1.take i)), fms s.2.1, I s.2.1.length, I i]) (.ext 0 [ints (lckL s.2.1)]) (fun i hi => ?_) ?_ rfl rfl) ?_
  · have hw : IntKind.i64.wrap ((i : Int) + 1) = (i : Int) + 1 := wrap_id (by omega) (by omega)
    have hi' : (i : Int) < (s.2.1.length : Int) := by omega
    have hll := lck_len (s.2.1.take i)
    rw [List.length_take] at hll
    have hg := fm_get hi
    rw [lck_succ hi]
    generalize s.2.1[i] = x at *
    obtain ⟨x1, x2, x3, x4⟩ := x
    have hs := st_fm (x1, x2, x3, x4)
    cases x3
    · simp -implicitDefEqProofs only [sl_zero, sl_succ, liveD_agg, liveD_ref, liveD_arr, ref0_eq, Option.bind_some, Option.map_some, callK_ret, gate_t, gate_f, gate_s, gateC_t, gateC_f, gateC_s, nrmK_some, pickD_B, ifD_B, ifN_B, if_true, if_false, Bool.false_eq_true, un_not, Bool.not_true, Bool.not_false, decide_true, decide_false, and_self, outK_ext, Nat.beq_refl, bin_lss, bin_gtr, bin_leq, bin_geq, bin_eql, bin_neq, bin_add, bin_sub, bin_mul, lenD_arr, lenD_str, List.length_map, ldD_ptr, takeD_f, chkV_v, offD_ptr, List.drop_zero, List.drop_succ_cons, atD_agg, mkArr_nil, Int.reduceLT, Int.reduceLE, Int.reduceEq, hi', hg, hs, hw, ldD_ptr, Int.natCast_add, Int.natCast_one, List.append_nil]
      simp [hs, hw, takeD]
    · have ha := app_ints (l := lckL (s.2.1.take i)) (m := [x1]) (by simp; omega)
      simp -implicitDefEqProofs only [sl_zero, sl_succ, liveD_agg, liveD_ref, liveD_arr, ref0_eq, Option.bind_some, Option.map_some, callK_ret, gate_t, gate_f, gate_s, gateC_t, gateC_f, gateC_s, nrmK_some, pickD_B, ifD_B, ifN_B, if_true, if_false, Bool.false_eq_true, un_not, Bool.not_true, Bool.not_false, decide_true, decide_false, and_self, outK_ext, Nat.beq_refl, bin_lss, bin_gtr, bin_leq, bin_geq, bin_eql, bin_neq, bin_add, bin_sub, bin_mul, lenD_arr, lenD_str, List.length_map, ldD_ptr, takeD_f, chkV_v, offD_ptr, List.drop_zero, List.drop_succ_cons, atD_agg, mkArr_nil, Int.reduceLT, Int.reduceLE, Int.reduceEq, hi', hg, hs, hw, ldD_ptr, one_int, chk_int, ha, Int.natCast_add, Int.natCast_one]
      simp [hs, hw, takeD]
      simp -implicitDefEqProofs only [sl_zero, sl_succ, liveD_agg, liveD_ref, liveD_arr, ref0_eq, Option.bind_some, Option.map_some, callK_ret, gate_t, gate_f, gate_s, gateC_t, gateC_f, gateC_s, nrmK_some, pickD_B, ifD_B, ifN_B, if_true, if_false, Bool.false_eq_true, un_not, Bool.not_true, Bool.not_false, decide_true, decide_false, and_self, outK_ext, Nat.beq_refl, bin_lss, bin_gtr, bin_leq, bin_geq, bin_eql, bin_neq, bin_add, bin_sub, bin_mul, lenD_arr, lenD_str, List.length_map, ldD_ptr, takeD_f, chkV_v, offD_ptr, List.drop_zero, List.drop_succ_cons, atD_agg, mkArr_nil, Int.reduceLT, Int.reduceLE, Int.reduceEq, one_int, chk_int, ha]
  · simp -implicitDefEqProofs only [sl_zero, sl_succ, liveD_agg, liveD_ref, liveD_arr, ref0_eq, Option.bind_some, Option.map_some, callK_ret, gate_t, gate_f, gate_s, gateC_t, gateC_f, gateC_s, nrmK_some, pickD_B, ifD_B, ifN_B, if_true, if_false, Bool.false_eq_true, un_not, Bool.not_true, Bool.not_false, decide_true, decide_false, and_self, outK_ext, Nat.beq_refl, bin_lss, bin_gtr, bin_leq, bin_geq, bin_eql, bin_neq, bin_add, bin_sub, bin_mul, lenD_arr, lenD_str, List.length_map, ldD_ptr, takeD_f, chkV_v, offD_ptr, List.drop_zero, List.drop_succ_cons, atD_agg, mkArr_nil, Int.reduceLT, Int.reduceLE, Int.reduceEq, Int.lt_irrefl, List.take_length]
  · simp -implicitDefEqProofs only [sl_zero, sl_succ, liveD_agg, liveD_ref, liveD_arr, ref0_eq, Option.bind_some, Option.map_some, callK_ret, gate_t, gate_f, gate_s, gateC_t, gateC_f, gateC_s, nrmK_some, pickD_B, ifD_B, ifN_B, if_true, if_false, Bool.false_eq_true, un_not, Bool.not_true, Bool.not_false, decide_true, decide_false, and_self, outK_ext, Nat.beq_refl, bin_lss, bin_gtr, bin_leq, bin_geq, bin_eql, bin_neq, bin_add, bin_sub, bin_mul, lenD_arr, lenD_str, List.length_map, ldD_ptr, takeD_f, chkV_v, offD_ptr, List.drop_zero, List.drop_succ_cons, atD_agg, mkArr_nil, Int.reduceLT, Int.reduceLE, Int.reduceEq]
theorem e_impl_LockedFormes (s : Sp) (h : okSp s) : F_impl_LockedFormes [sp s] = some (.ret [ints (lckR s), B (shopOk s)] []) := by
  rw [t_impl_LockedFormes]
  unfold lckR
  cases hok : shopOk s
  · simp -implicitDefEqProofs [e_impl_IsShop s h, hok, mkArr_nil]
  have hl := h.2.1
  simp -implicitDefEqProofs [e_impl_IsShop s h, hok]
  refine loop_bind _ (loop_for s.2.1.length (fun i => [ints (lckL (s.2.1.take i)), fms s.2.1, I s.2.1.length, I i]) (.ext 0 [ints (lckL s.2.1)]) (fun i hi => ?_) ?_ rfl rfl) ?_
  · have hw : IntKind.i64.wrap ((i : Int) + 1) = (i : Int) + 1 := wrap_id (by omega) (by omega)
    have hi' : (i : Int) < (s.2.1.length : Int) := by omega
    have hll := lck_len (s.2.1.take i)
    rw [List.length_take] at hll
    have hg := fm_get hi
    rw [lck_succ hi]
    generalize s.2.1[i] = x at *
    obtain ⟨x1, x2, x3, x4⟩ := x
    have hs := st_fm (x1, x2, x3, x4)
    cases x3
    · simp -implicitDefEqProofs only [sl_zero, sl_succ, liveD_agg, liveD_ref, liveD_arr, ref0_eq, Option.bind_some, Option.map_some, callK_ret, gate_t, gate_f, gate_s, gateC_t, gateC_f, gateC_s, nrmK_some, pickD_B, ifD_B, ifN_B, if_true, if_false, Bool.false_eq_true, un_not, Bool.not_true, Bool.not_false, decide_true, decide_false, and_self, outK_ext, Nat.beq_refl, bin_lss, bin_gtr, bin_leq, bin_geq, bin_eql, bin_neq, bin_add, bin_sub, bin_mul, lenD_arr, lenD_str, List.length_map, ldD_ptr, takeD_f, chkV_v, offD_ptr, List.drop_zero, List.drop_succ_cons, atD_agg, mkArr_nil, Int.reduceLT, Int.reduceLE, Int.reduceEq, hi', hg, hs, hw, ldD_ptr, Int.natCast_add, Int.natCast_one, List.append_nil]
      simp [hs, hw, takeD]
    · have ha := app_ints (l := lckL (s.2.1.take i)) (m := [x1]) (by simp; omega)
      simp -implicitDefEqProofs only [sl_zero, sl_succ, liveD_agg, liveD_ref, liveD_arr, ref0_eq, Option.bind_some, Option.map_some, callK_ret, gate_t, gate_f, gate_s, gateC_t, gateC_f, gateC_s, nrmK_some, pickD_B, ifD_B, ifN_B, if_true, if_false, Bool.false_eq_true, un_not, Bool.not_true, Bool.not_false, decide_true, decide_false, and_self, outK_ext, Nat.beq_refl, bin_lss, bin_gtr, bin_leq, bin_geq, bin_eql, bin_neq, bin_add, bin_sub, bin_mul, lenD_arr, lenD_str, List.length_map, ldD_ptr, takeD_f, chkV_v, offD_ptr, List.drop_zero, List.drop_succ_cons, atD_agg, mkArr_nil, Int.reduceLT, Int.reduceLE, Int.reduceEq, hi', hg, hs, hw, ldD_ptr, one_int, chk_int, ha, Int.natCast_add, Int.natCast_one]
      simp [hs, hw, takeD]
      simp -implicitDefEqProofs only [sl_zero, sl_succ, liveD_agg, liveD_ref, liveD_arr, ref0_eq, Option.bind_some, Option.map_some, callK_ret, gate_t, gate_f, gate_s, gateC_t, gateC_f, gateC_s, nrmK_some, pickD_B, ifD_B, ifN_B, if_true, if_false, Bool.false_eq_true, un_not, Bool.not_true, Bool.not_false, decide_true, decide_false, and_self, outK_ext, Nat.beq_refl, bin_lss, bin_gtr, bin_leq, bin_geq, bin_eql, bin_neq, bin_add, bin_sub, bin_mul, lenD_arr, lenD_str, List.length_map, ldD_ptr, takeD_f, chkV_v, offD_ptr, List.drop_zero, List.drop_succ_cons, atD_agg, mkArr_nil, Int.reduceLT, Int.reduceLE, Int.reduceEq, one_int, chk_int, ha]
  · simp -implicitDefEqProofs only [sl_zero, sl_succ, liveD_agg, liveD_ref, liveD_arr, ref0_eq, Option.bind_some, Option.map_some, callK_ret, gate_t, gate_f, gate_s, gateC_t, gateC_f, gateC_s, nrmK_some, pickD_B, ifD_B, ifN_B, if_true, if_false, Bool.false_eq_true, un_not, Bool.not_true, Bool.not_false, decide_true, decide_false, and_self, outK_ext, Nat.beq_refl, bin_lss, bin_gtr, bin_leq, bin_geq, bin_eql, bin_neq, bin_add, bin_sub, bin_mul, lenD_arr, lenD_str, List.length_map, ldD_ptr, takeD_f, chkV_v, offD_ptr, List.drop_zero, List.drop_succ_cons, atD_agg, mkArr_nil, Int.reduceLT, Int.reduceLE, Int.reduceEq, Int.lt_irrefl, List.take_length]
  · simp -implicitDefEqProofs only [sl_zero, sl_succ, liveD_agg, liveD_ref, liveD_arr, ref0_eq, Option.bind_some, Option.map_some, callK_ret, gate_t, gate_f, gate_s, gateC_t, gateC_f, gateC_s, nrmK_some, pickD_B, ifD_B, ifN_B, if_true, if_false, Bool.false_eq_true, un_not, Bool.not_true, Bool.not_false, decide_true, decide_false, and_self, outK_ext, Nat.beq_refl, bin_lss, bin_gtr, bin_leq, bin_geq, bin_eql, bin_neq, bin_add, bin_sub, bin_mul, lenD_arr, lenD_str, List.length_map, ldD_ptr, takeD_f, chkV_v, offD_ptr, List.drop_zero, List.drop_succ_cons, atD_agg, mkArr_nil, Int.reduceLT, Int.reduceLE, Int.reduceEq]
end Go.Proofs.Ytankikbbdfgkbaa
/-
  Marks: of texts, of boxes.
-/
namespace Go.Proofs.Ytankikbbdfgkbaa
open Go Go.V
set_option linter.unusedSimpArgs false
set_option linter.unusedVariables false

theorem add_small {a b : ByteArray} (h : a.size + b.size ≤ 1000000000000) : bin .add false [] (T a) (T b) = some (T (a ++ b)) := by
  rw [bin_addS, if_pos (by omega)]
theorem rem10 (k : Int) : bin .rem false [] (I k) (I 10) = some (I (k.tmod 10)) := by simp [bin, intBin]
theorem quo10 (k : Int) : bin .quo false [] (I k) (I 10) = some (I (IntKind.i64.wrap (k.tdiv 10))) := by simp [bin, intBin]
theorem conv_u8 (n : Int) : convD (some .u8) false (I n) = some (U (IntKind.u8.wrap n)) := by simp [convD]
theorem one_u8 (n : Int) : mkArr 1 [U n] = some (.arr 1 [U n]) := by simp [mkArr, lenOkD]
theorem str_u8 (n : Int) : strD (.arr 1 [U n]) = some (T ⟨#[UInt8.ofNat n.toNat]⟩) := by simp [strD, bytesOf]
theorem mark_text (k : Int) (h1 : 0 < k) (h2 : k ≤ 100000000000) : ∃ s, F_laws_markText [I k] = some (.ret [T s] []) := by
  rw [t_laws_markText]
  have hk : ¬ k ≤ 0 := by omega
  simp -implicitDefEqProofs only [sl_zero, sl_succ, liveD_agg, liveD_ref, liveD_arr, ref0_eq, Option.bind_some, Option.map_some, callK_ret, gate_t, gate_f, gate_s, gateC_t, gateC_f, gateC_s, nrmK_some, pickD_B, ifD_B, ifN_B, if_true, if_false, Bool.false_eq_true, un_not, Bool.not_true, Bool.not_false, decide_true, decide_false, and_self, outK_ext, Nat.beq_refl, bin_lss, bin_gtr, bin_leq, bin_geq, bin_eql, bin_neq, bin_add, bin_sub, bin_mul, lenD_arr, lenD_str, List.length_map, ldD_ptr, takeD_f, chkV_v, offD_ptr, List.drop_zero, List.drop_succ_cons, atD_agg, mkArr_nil, Int.reduceLT, Int.reduceLE, Int.reduceEq, hk]
  refine loop_wf_bind (fun r => ∃ s, r = some (.ret [T s] [])) (fun a : Int × ByteArray => [I a.1, T a.2]) (fun a => 0 ≤ a.1 ∧ a.1 ≤ 100000000000 ∧ (a.2.size : Int) + a.1 ≤ 100000000000) (fun a => a.1.toNat)
    (fun o => ∃ s : ByteArray, o = .ext 0 [T s] ∧ s.size ≤ 100000000000) (fun a ha => ?_) (k, ⟨⟨[]⟩⟩) ⟨by omega, h2, by show (0 : Int) + k ≤ _; omega⟩ rfl (fun o ho => ?_)
  · obtain ⟨n, out⟩ := a
    obtain ⟨a1, a2, a3⟩ := ha
    simp only at a1 a2 a3
    by_cases hn : 0 < n
    · left
      have ed : n.tdiv 10 = n / 10 := Int.tdiv_eq_ediv_of_nonneg a1
      have em : n.tmod 10 = n % 10 := Int.tmod_eq_emod_of_nonneg a1
      have w1 : IntKind.i64.wrap (n.tdiv 10) = n / 10 := by rw [ed, wrap_id (by omega) (by omega)]
      have w2 : IntKind.i64.wrap (48 + n.tmod 10) = 48 + n % 10 := by rw [em, wrap_id (by omega) (by omega)]
      have hsz : (ByteArray.mk #[UInt8.ofNat (IntKind.u8.wrap (48 + n % 10)).toNat]).size = 1 := rfl
      have ha := add_small (a := ⟨#[UInt8.ofNat (IntKind.u8.wrap (48 + n % 10)).toNat]⟩) (b := out) (by rw [hsz]; omega)
      refine ⟨(n / 10, ⟨#[UInt8.ofNat (IntKind.u8.wrap (48 + n % 10)).toNat]⟩ ++ out), ?_, ⟨by show 0 ≤ n / 10; omega, by show n / 10 ≤ _; omega, ?_⟩, ?_⟩
      · simp -implicitDefEqProofs only [sl_zero, sl_succ, liveD_agg, liveD_ref, liveD_arr, ref0_eq, Option.bind_some, Option.map_some, callK_ret, gate_t, gate_f, gate_s, gateC_t, gateC_f, gateC_s, nrmK_some, pickD_B, ifD_B, ifN_B, if_true, if_false, Bool.false_eq_true, un_not, Bool.not_true, Bool.not_false, decide_true, decide_false, and_self, outK_ext, Nat.beq_refl, bin_lss, bin_gtr, bin_leq, bin_geq, bin_eql, bin_neq, bin_add, bin_sub, bin_mul, lenD_arr, lenD_str, List.length_map, ldD_ptr, takeD_f, chkV_v, offD_ptr, List.drop_zero, List.drop_succ_cons, atD_agg, mkArr_nil, Int.reduceLT, Int.reduceLE, Int.reduceEq, hn, rem10, w2, conv_u8, one_u8, str_u8, ha, quo10, w1]
      · show ((_ ++ out : ByteArray).size : Int) + n / 10 ≤ _
        rw [ByteArray.size_append, hsz]
        omega
      · show (n / 10).toNat < n.toNat
        omega
    · right
      exact ⟨.ext 0 [T out], by simp -implicitDefEqProofs only [sl_zero, sl_succ, liveD_agg, liveD_ref, liveD_arr, ref0_eq, Option.bind_some, Option.map_some, callK_ret, gate_t, gate_f, gate_s, gateC_t, gateC_f, gateC_s, nrmK_some, pickD_B, ifD_B, ifN_B, if_true, if_false, Bool.false_eq_true, un_not, Bool.not_true, Bool.not_false, decide_true, decide_false, and_self, outK_ext, Nat.beq_refl, bin_lss, bin_gtr, bin_leq, bin_geq, bin_eql, bin_neq, bin_add, bin_sub, bin_mul, lenD_arr, lenD_str, List.length_map, ldD_ptr, takeD_f, chkV_v, offD_ptr, List.drop_zero, List.drop_succ_cons, atD_agg, mkArr_nil, Int.reduceLT, Int.reduceLE, Int.reduceEq, hn], rfl, out, rfl, by omega⟩
  · obtain ⟨s, rfl, hs⟩ := ho
    have ha := add_small (a := ⟨⟨[109]⟩⟩) (b := s) (by show 1 + s.size ≤ _; omega)
    exact ⟨⟨⟨[109]⟩⟩ ++ s, by simp -implicitDefEqProofs only [sl_zero, sl_succ, liveD_agg, liveD_ref, liveD_arr, ref0_eq, Option.bind_some, Option.map_some, callK_ret, gate_t, gate_f, gate_s, gateC_t, gateC_f, gateC_s, nrmK_some, pickD_B, ifD_B, ifN_B, if_true, if_false, Bool.false_eq_true, un_not, Bool.not_true, Bool.not_false, decide_true, decide_false, and_self, outK_ext, Nat.beq_refl, bin_lss, bin_gtr, bin_leq, bin_geq, bin_eql, bin_neq, bin_add, bin_sub, bin_mul, lenD_arr, lenD_str, List.length_map, ldD_ptr, takeD_f, chkV_v, offD_ptr, List.drop_zero, List.drop_succ_cons, atD_agg, mkArr_nil, Int.reduceLT, Int.reduceLE, Int.reduceEq, ha]⟩
/-- The text of a mark. -/
noncomputable def mtx (k : Int) : ByteArray := if h : 0 < k ∧ k ≤ 100000000000 then Classical.choose (mark_text k h.1 h.2) else ⟨#[]⟩
theorem e_markText (k : Int) (h1 : 0 < k) (h2 : k ≤ 100000000000) : F_laws_markText [I k] = some (.ret [T (mtx k)] []) := by
  unfold mtx
  rw [dif_pos ⟨h1, h2⟩]
  exact Classical.choose_spec (mark_text k h1 h2)
noncomputable def mksL (k : Int) (n : Nat) : List ByteArray := (List.range n).map fun (j : Nat) => mtx (k + j)
theorem e_laws_markStringS (l : List ByteArray) (k : Int) (h : l.length ≤ 1048577) (h1 : 0 < k) (h2 : k ≤ 10000000000) : F_laws_markStringS [txs l, I k] = some (.ret [I (k + l.length)] [txs (mksL k l.length)]) := by
  rw [t_laws_markStringS]
  refine loop_bind _ (loop_for l.length (fun i => [.arr 1 (markL (fun (j : Nat) => T (mtx (k + (j : Int)))) T l i), I (k + i), I i]) (.ext 0 [txs (mksL k l.length), I (k + l.length)]) (fun i hi => ?_) ?_ rfl ?_) ?_
  · have hw : IntKind.i64.wrap ((i : Int) + 1) = (i : Int) + 1 := wrap_id (by omega) (by omega)
    have w1 : IntKind.i64.wrap (k + (i : Int) + 1) = k + (i + 1) := by rw [wrap_id (by omega) (by omega)]; omega
    have hm := e_markText (k + i) (by omega) (by omega)
    have hg := markL_get (g := fun (j : Nat) => T (mtx (k + (j : Int)))) (f := T) hi
    have hs := markL_set (g := fun (j : Nat) => T (mtx (k + (j : Int)))) (f := T) hi
    have hl := markL_length (g := fun (j : Nat) => T (mtx (k + (j : Int)))) (f := T) (Nat.le_of_lt hi)
    generalize markL (fun (j : Nat) => T (mtx (k + (j : Int)))) T l i = L at *
    have s1 := stD_arr1 (z := 1) (v := .string (mtx (k + i))) hg
    simp [hi, hl, hw, w1, hm, s1]
    exact hs
  · simp [markL_full, mksL]
  · simp [markL_zero (g := fun (j : Nat) => T (mtx (k + (j : Int)))) (f := T)]
  · simp
noncomputable def mkBx (k : Int) (j : Nat) : Bx := (mtx (k + 4 * j), k + 4 * j + 1, k + 4 * j + 2, k + 4 * j + 3)
noncomputable def mksB (k : Int) (n : Nat) : List Bx := (List.range n).map (mkBx k)
theorem e_laws_markBoxS (l : List Bx) (k : Int) (h : l.length ≤ 1048577) (h1 : 0 < k) (h2 : k ≤ 1000000000) : F_laws_markBoxS [bxs l, I k] = some (.ret [I (k + 4 * l.length)] [bxs (mksB k l.length)]) := by
  rw [t_laws_markBoxS]
  refine loop_bind _ (loop_for l.length (fun i => [.arr 4 (markL (fun j => bx (mkBx k j)) bx l i), I (k + 4 * i), I i]) (.ext 0 [bxs (mksB k l.length), I (k + 4 * l.length)]) (fun i hi => ?_) ?_ rfl ?_) ?_
  · have hw : IntKind.i64.wrap ((i : Int) + 1) = (i : Int) + 1 := wrap_id (by omega) (by omega)
    have w1 : IntKind.i64.wrap (k + 4 * (i : Int) + 1) = k + 4 * i + 1 := wrap_id (by omega) (by omega)
    have w2 : IntKind.i64.wrap (k + 4 * (i : Int) + 1 + 1) = k + 4 * i + 2 := by rw [wrap_id (by omega) (by omega)]; omega
    have w3 : IntKind.i64.wrap (k + 4 * (i : Int) + 2 + 1) = k + 4 * i + 3 := by rw [wrap_id (by omega) (by omega)]; omega
    have w4 : IntKind.i64.wrap (k + 4 * (i : Int) + 3 + 1) = k + 4 * (i + 1) := by rw [wrap_id (by omega) (by omega)]; omega
    have hm := e_markText (k + 4 * i) (by omega) (by omega)
    have hg := markL_get (g := fun j => bx (mkBx k j)) (f := bx) hi
    have hs := markL_set (g := fun j => bx (mkBx k j)) (f := bx) hi
    have hl := markL_length (g := fun j => bx (mkBx k j)) (f := bx) (Nat.le_of_lt hi)
    generalize markL (fun j => bx (mkBx k j)) bx l i = L at *
    have s1 := stD_part (z := 4) (f := 0) (v := .string (mtx (k + 4 * i))) hg (by simp)
    have s2 := stD_part (z := 4) (L := L.set i (.agg [T (mtx (k + 4 * i)), I l[i].2.1, I l[i].2.2.1, I l[i].2.2.2])) (i := i) (f := 1) (v := .int .i64 (k + 4 * i + 1)) (c := [T (mtx (k + 4 * i)), I l[i].2.1, I l[i].2.2.1, I l[i].2.2.2]) (by simp [hl, hi]) (by simp)
    have s3 := stD_part (z := 4) (L := L.set i (.agg [T (mtx (k + 4 * i)), I (k + 4 * i + 1), I l[i].2.2.1, I l[i].2.2.2])) (i := i) (f := 2) (v := .int .i64 (k + 4 * i + 2)) (c := [T (mtx (k + 4 * i)), I (k + 4 * i + 1), I l[i].2.2.1, I l[i].2.2.2]) (by simp [hl, hi]) (by simp)
    have s4 := stD_part (z := 4) (L := L.set i (.agg [T (mtx (k + 4 * i)), I (k + 4 * i + 1), I (k + 4 * i + 2), I l[i].2.2.2])) (i := i) (f := 3) (v := .int .i64 (k + 4 * i + 3)) (c := [T (mtx (k + 4 * i)), I (k + 4 * i + 1), I (k + 4 * i + 2), I l[i].2.2.2]) (by simp [hl, hi]) (by simp)
    simp only [putCells_eq, List.take_zero, List.nil_append, List.length_singleton, Nat.zero_add, List.drop_succ_cons, List.drop_zero, List.singleton_append, List.take_succ_cons, List.cons_append, Nat.reduceAdd, List.set_set, List.drop_nil] at s1 s2 s3 s4
    simp [hi, hl, hw, hm, w1, w2, w3, w4, s1, s2, s3, s4]
    exact hs
  · simp [markL_full, mksB, mkBx]
  · simp [markL_zero (g := fun j => bx (mkBx k j)) (f := bx)]
  · simp
end Go.Proofs.Ytankikbbdfgkbaa
/-
  From contracts of the kit (what a call with given values comes to) to contracts said of data.
-/
namespace Go.V
open Go.RowKit

section
variable {P : Program} {G : List (Nat × (Obj → Prop))}

theorem meets_of_calls {f : FuncId} {S : FS} (he : ∀ args w, (callFunc f args).run P w = .ok (.enter f args) w)
    (h : ∀ ds rs us, S.f ds = some (.ret rs us) → ∀ (args : Array Value) (w : World) (F : Nat → Prop) (ow : Nat → Option Nat), gOk G w F → ArgsOk w F ow 0 S.pm ds args.toList → (∀ b, F b → b < w.heap.size ∧ ow b = none) → (∀ b i, ow b = some i → b < w.heap.size) →
      Calls P f args w fun e w' => ∃ v, e = .returned v ∧ ∃ F' R vs, v = resV vs ∧ CallPost S args rs us w F ow F' R vs w') : Meets G P f S := by
  intro ds rs us hd args w F ow hg ha hF hO o a next Q hn
  rw [he, Oper.upon_enter]
  refine Calls.mono (h ds rs us hd args w F ow hg ha hF hO) (fun e w' hv => ?_)
  obtain ⟨v, rfl, F', R, vs, h1, h2⟩ := hv
  exact hn v w' ⟨F', R, vs, h1, h2⟩

theorem usOk_none {w : World} {F : Nat → Prop} : ∀ (ks : List Kd) (ys : List Value), (ks.all fun k => !isIo k) = true → ks.length = ys.length → UsOk w F ks [] ys
  | [], [], _, _ => trivial
  | k :: ks, y :: ys, h, hl => by
    simp only [List.all_cons, Bool.and_eq_true, Bool.not_eq_true'] at h
    simp only [UsOk, h.1]
    exact usOk_none ks ys h.2 (by simpa using hl)
  | [], _ :: _, _, hl => by cases hl
  | _ :: _, [], _, hl => by cases hl

theorem argsOk_len {w : World} {F : Nat → Prop} {ow : Nat → Option Nat} : ∀ (ks : List Kd) (ds : List D) (ys : List Value) (i : Nat), ArgsOk w F ow i ks ds ys → ds.length = ks.length ∧ ys.length = ks.length
  | [], [], [], _, _ => ⟨rfl, rfl⟩
  | k :: ks, d :: ds, y :: ys, i, h => by
    obtain ⟨h1, h2⟩ := argsOk_len ks ds ys (i + 1) h.2
    exact ⟨by simp [h1], by simp [h2]⟩
  | [], _ :: _, _, _, h => h.elim
  | [], [], _ :: _, _, h => h.elim
  | _ :: _, [], _, _, h => by cases ‹List Value› <;> exact h.elim
  | _ :: _, _ :: _, [], _, h => h.elim

theorem args_one {w : World} {F : Nat → Prop} {ow : Nat → Option Nat} {k : Kd} {ds : List D} {l : List Value} (h : ArgsOk w F ow 0 [k] ds l) : ∃ d y, ds = [d] ∧ l = [y] ∧ ArgOk w F (fun g => ow g = some 0) k d y := by
  match ds, l, h with
  | [d], [y], h => exact ⟨d, y, rfl, rfl, h.1⟩
  | [], l, h => cases l <;> exact h.elim
  | d :: d' :: ds, l, h =>
    match l, h with
    | [], h => exact h.elim
    | [y], h => exact h.2.elim
    | y :: y' :: ys, h => exact h.2.elim
  | [d], [], h => exact h.elim
  | [d], y :: y' :: ys, h => exact h.2.elim

theorem args_two {w : World} {F : Nat → Prop} {ow : Nat → Option Nat} {k k' : Kd} {ds : List D} {l : List Value} (h : ArgsOk w F ow 0 [k, k'] ds l) :
    ∃ d y d' y', ds = [d, d'] ∧ l = [y, y'] ∧ ArgOk w F (fun g => ow g = some 0) k d y ∧ ArgOk w F (fun g => ow g = some 1) k' d' y' := by
  obtain ⟨h1, h2⟩ := argsOk_len _ _ _ _ h
  match ds, l, h1, h2, h with
  | [d, d'], [y, y'], _, _, h => exact ⟨d, y, d', y', rfl, rfl, h.1, h.2.1⟩

theorem argD {w : World} {F own : Nat → Prop} {lv : Nat} {x y : Value} (h : ArgOk w F own (.dat lv) (.v x) y) : y = x ∧ flat x = true := by
  rcases h with h | h
  · cases h
  · exact RepV_v.1 h

/-- What a call leaves that writes nothing that was there. -/
theorem post_own {S : FS} {args : Array Value} {rs : List D} {vs : List Value} {w w' : World} {F : Nat → Prop} {ow : Nat → Option Nat} (R : Nat → Option Nat) (hB : Below w.heap.size w w') (hF : ∀ b, F b → b < w.heap.size ∧ ow b = none)
    (hR : ∀ b j, R b = some j → w.heap.size ≤ b ∧ b < w'.heap.size) (hio : (S.pm.all fun k => !isIo k) = true) (hl : S.pm.length = args.size) (h1 : vs.length = S.rm.length) (h2 : rs.length = S.rm.length)
    (hres : ∀ j, ResOk w' F w.heap.size (fun g => R g = some j) (nthK S.rm j) (nth rs j) (vs.getD j undef)) : CallPost S args rs [] w F ow F R vs w' :=
  ⟨hB.os, hB.tape, hB.output, hB.size, fun b hb _ => hB.block b hb, fun _ h => h, fun b hb => ⟨.inl hb, Nat.lt_of_lt_of_le (hF b hb).1 hB.size, by
    cases h : R b with
    | none => rfl
    | some j => exact absurd (hR b j h).1 (Nat.not_le.2 (hF b hb).1)⟩, hR, h1, h2, hres, usOk_none _ _ hio (by simpa using hl)⟩

/-- Scalars handed back. -/
theorem post_flat {S : FS} {args : Array Value} {w w' : World} {F : Nat → Prop} {ow : Nat → Option Nat} (hB : Below w.heap.size w w') (hF : ∀ b, F b → b < w.heap.size ∧ ow b = none) (hio : (S.pm.all fun k => !isIo k) = true) (hl : S.pm.length = args.size)
    (rs : List D) (vs : List Value) (hrm : S.rm = rs.map fun _ => .dat 0) (hv : vs.length = rs.length) (h : ∀ (j : Nat) (d : D), rs[j]? = some d → ∃ y : Value, vs[j]? = some y ∧ RepV w' (fun _ => False) d y) : CallPost S args rs [] w F ow F (fun _ => none) vs w' := by
  refine post_own _ hB hF (fun b j h => by cases h) hio hl (by rw [hrm, hv]; simp) (by rw [hrm]; simp) (fun j => ?_)
  rw [nth_eq, List.getD_eq_getElem?_getD]
  cases hj : rs[j]? with
  | none => exact .inl rfl
  | some d =>
    obtain ⟨y, h1, h2⟩ := h j d hj
    have hk : nthK S.rm j = .dat 0 := by
      rw [hrm]
      clear hrm h hv h1 h2
      induction rs generalizing j with
      | nil => simp at hj
      | cons r rs ih =>
        cases j with
        | zero => rfl
        | succ j => exact ih j (by simpa using hj)
    refine .inr ?_
    rw [hk, List.getD_eq_getElem?_getD, h1]
    exact RepV_mono (fun b hb => hb.elim) (fun _ _ => rfl) h2

theorem RepL_texts {w : World} {F : Nat → Prop} : ∀ (l : List ByteArray), RepL w F (l.map T) (l.map Value.string)
  | [] => RepL_nil.2 rfl
  | s :: l => RepL_cons.2 ⟨[.string s], l.map Value.string, rfl, by simp only [RepC]; exact ⟨trivial, rfl⟩, RepL_texts l⟩

/-- A new slice of texts handed back. -/
theorem ownV_texts {w' : World} {F own : Nat → Prop} {A c e : Nat} {cur : Array Value} {l : List ByteArray} (hb : w'.heap[A]? = some (.cells cur e (0, 0))) (hc : l.length ≤ c) (hs : c ≤ cur.size) (hl : ∀ (i : Nat) (u : Value), (l.map Value.string)[i]? = some u → cur[i]? = some u) (ho : own A) :
    OwnV w' F own 1 (.arr 1 (l.map T)) (.slice (some ⟨A, 0, none⟩) l.length c) := by
  refine ⟨l.map T, rfl, fun x hx => ?_, .inr ⟨A, 0, c, l.map Value.string, cur, e, by simp, by simpa using hc, hb, by omega, RepL_texts l, fun i u hu => by simpa using hl i u hu, ho⟩⟩
  obtain ⟨s, _, rfl⟩ := List.mem_map.1 hx
  rfl

end
end Go.V
/-
  Calls that mark a row of their own.
-/
namespace Go.Proofs.Ytankikbbdfgkbaa
open Go Go.Proofs Go.V Go.RowKit
set_option linter.unusedSimpArgs false
set_option linter.unusedVariables false

theorem calls_of_meets' {P : Program} {G : List (Nat × (Obj → Prop))} {f : FuncId} {S : FS} (he : ∀ args w, (callFunc f args).run P w = .ok (.enter f args) w) (hm : Meets G P f S) {ds rs us : List D} (hd : S.f ds = some (.ret rs us)) {args : Array Value} {w : World} {F : Nat → Prop} {ow : Nat → Option Nat}
    (hgl : gOk G w F) (ha : ArgsOk w F ow 0 S.pm ds args.toList) (hF : ∀ b, F b → b < w.heap.size ∧ ow b = none) (hO : ∀ b i, ow b = some i → b < w.heap.size) :
    Calls P f args w fun e w' => ∃ v, e = .returned v ∧ ∃ F' R vs, v = resV vs ∧ CallPost S args rs us w F ow F' R vs w' := by
  have h2 := hm ds rs us hd args w F ow hgl ha hF hO { (default : Oper) with dst := some 0 } { tmps := #[undef], defers := [] } (fun a w' => ∃ F' R vs, a.tmps.getD 0 undef = resV vs ∧ CallPost S args rs us w F ow F' R vs w') (fun _ _ _ => False) (fun v w' h => by
    obtain ⟨F', R, vs, rfl, h⟩ := h
    exact ⟨F', R, vs, by simp [Act.put], h⟩)
  rw [he, Oper.upon_enter] at h2
  refine Calls.mono h2 fun e w' he => ?_
  cases e with
  | returned v =>
    obtain ⟨F', R, vs, h3, h4⟩ := he
    exact ⟨v, rfl, F', R, vs, by simpa [Act.put] using h3, h4⟩
  | panicked c => exact he.elim
  | outgrown => obtain ⟨_, _, h⟩ := he; exact h.elim

theorem calls_flat1 {P : Program} {G : List (Nat × (Obj → Prop))} {f : FuncId} {S : FS} (he : ∀ args w, (callFunc f args).run P w = .ok (.enter f args) w) (hm : Meets G P f S) {ds : List D} {y : Value} (f' : List D → Option Out) (hf' : S.f = f') (hd : f' ds = some (.ret [.v y] [])) (hrm : S.rm = [.dat 0]) {args : Array Value} {w : World} {F : Nat → Prop}
    (hgl : gOk G w F) (ha : ArgsOk w F (fun _ => none) 0 S.pm ds args.toList) (hF : ∀ b, F b → b < w.heap.size) : Calls P f args w fun e w' => e = .returned y ∧ Below w.heap.size w w' := by
  refine (calls_of_meets' he hm (hf' ▸ hd) hgl ha (fun b hb => ⟨hF b hb, rfl⟩) (fun b i h => by cases h)).mono ?_
  rintro e w' ⟨v, rfl, F', R, vs, rfl, hpost⟩
  have hl := hpost.len
  rw [hrm] at hl
  obtain ⟨u, rfl⟩ := List.length_eq_one_iff.1 hl
  have h0 := hpost.res 0
  rw [hrm] at h0
  simp only [nthK, nth, List.getD_cons_zero] at h0
  rcases h0 with h0 | h0
  · cases h0
  exact ⟨by rw [resV, (RepV_v.1 h0).1], ⟨hpost.os, hpost.tape, hpost.output, hpost.size, fun b hb => hpost.keep b hb rfl⟩⟩
/-- All blocks but some are as they were. -/
structure KeptX (S : Nat → Prop) (w w' : World) : Prop where
  os : w'.os = w.os
  tape : w'.tape = w.tape
  output : w'.output = w.output
  size : w.heap.size ≤ w'.heap.size
  block : ∀ b, b < w.heap.size → ¬ S b → w'.heap[b]? = w.heap[b]?
theorem KeptX.trans {S : Nat → Prop} {a b c : World} (h : KeptX S a b) (k : KeptX S b c) : KeptX S a c :=
  ⟨k.os.trans h.os, k.tape.trans h.tape, k.output.trans h.output, Nat.le_trans h.size k.size, fun i hi hs => (k.block i (Nat.lt_of_lt_of_le hi h.size) hs).trans (h.block i hi hs)⟩
theorem KeptX.refl (S : Nat → Prop) (w : World) : KeptX S w w := ⟨rfl, rfl, rfl, Nat.le_refl _, fun _ _ _ => rfl⟩
theorem KeptX.mono {S T : Nat → Prop} {w w' : World} (h : KeptX S w w') (hst : ∀ b, S b → T b) : KeptX T w w' := ⟨h.os, h.tape, h.output, h.size, fun b hb ht => h.block b hb fun hs => ht (hst b hs)⟩
theorem KeptX.set {S : Nat → Prop} {w w' : World} (h : KeptX S w w') (a : Addr) (v : Value) (ha : S a.block) : KeptX S w (w'.setCell a v) :=
  h.trans ⟨rfl, rfl, rfl, by simp [World.setCell], fun b _ hs => heap_setCell_other _ _ _ _ fun e => hs (e ▸ ha)⟩
theorem KeptX.below {S : Nat → Prop} {w w' : World} {B : Nat} (h : KeptX S w w') (hb : ∀ b, S b → B ≤ b) (hs : B ≤ w.heap.size) : Below B w w' := ⟨h.os, h.tape, h.output, h.size, fun b hlt => h.block b (by omega) fun hS => by have := hb b hS; omega⟩
/-- The row that a value owns. -/
abbrev ownB (y : Value) : Nat → Prop := fun b => y.ownBlock = some b
theorem own_io {w' : World} {F' : Nat → Prop} {z : Nat} {d : D} {y : Value} (h : OwnV w' (FB F' 0 0) (fun _ => True) z d y) : OwnV w' (fun _ => False) (ownB y) z d y := by
  obtain ⟨l, rfl, h2, h3⟩ := h
  refine ⟨l, rfl, h2, ?_⟩
  rcases h3 with h3 | ⟨g, o, c, us, cs, e, h4, h5, h6, h7, h8, h9, _⟩
  · exact .inl h3
  · exact .inr ⟨g, o, c, us, cs, e, h4, h5, h6, h7, RepL_mono (fun b hb => hb.elim) (fun b hb => hb.elim) _ _ h8, h9, by rw [h4]; rfl⟩
theorem calls_mark {f : Nat} {z : Nat} {ff : List D → Option Out} {d d' : D} {k k' : Int} (he : ∀ args w, (callFunc f args).run Try.prog w = .ok (.enter f args) w) (hm : Meets gl0 Try.prog f { pm := [.own z 0 true, .dat 0], rm := [.dat 0], f := ff }) (hd : ff [d, I k] = some (.ret [I k'] [d'])) {w : World} {y : Value}
    (hy : OwnV w (fun _ => False) (ownB y) z d y) (hb : ∀ b, ownB y b → b < w.heap.size) :
    Calls Try.prog f #[y, .int .i64 k] w fun e w' => e = .returned (.int .i64 k') ∧ OwnV w' (fun _ => False) (ownB y) z d' y ∧ KeptX (ownB y) w w' := by
  refine (calls_of_meets' (ow := fun b => if y.ownBlock = some b then some 0 else none) (F := fun _ => False) (ds := [d, I k]) (rs := [I k']) (us := [d']) (args := #[y, .int .i64 k]) he hm hd gOk_nil
    (show ArgOk w _ _ (.own z 0 true) d y ∧ ArgOk w _ _ (.dat 0) (I k) (.int .i64 k) ∧ True from ⟨.inr ?_, .inr (RepV_v.2 ⟨rfl, rfl⟩), trivial⟩) (fun b hb => hb.elim) (fun b i h => ?_)).mono ?_
  · obtain ⟨l, rfl, h2, h3⟩ := hy
    refine ⟨l, rfl, h2, ?_⟩
    rcases h3 with h3 | ⟨g, o, c, us, cs, e, h4, h5, h6, h7, h8, h9, h10⟩
    · exact .inl h3
    · exact .inr ⟨g, o, c, us, cs, e, h4, h5, h6, h7, RepL_mono (fun b hb => hb.elim) (fun b hb => hb.elim) _ _ h8, h9, by simp [h10]⟩
  · split at h
    · rename_i e
      exact hb b e
    · cases h
  · rintro e w' ⟨v, rfl, F', R, vs, rfl, hp⟩
    have hl := hp.len
    obtain ⟨u, rfl⟩ := List.length_eq_one_iff.1 (hl.trans rfl)
    have h0 := hp.res 0
    simp only [nthK, nth, List.getD_cons_zero] at h0
    rcases h0 with h0 | h0
    · cases h0
    obtain ⟨rfl, _⟩ := RepV_v.1 h0
    have hu := hp.us
    simp only [UsOk, isIo, if_true] at hu
    obtain ⟨hu1, hu2, _⟩ := hu
    rcases hu2 with hu2 | hu2
    · exact absurd hu2 hu1
    · exact ⟨rfl, own_io hu2, ⟨hp.os, hp.tape, hp.output, hp.size, fun b hlt hS => hp.keep b hlt (if_neg hS)⟩⟩
set_option maxRecDepth 100000 in
theorem call_markStringS (l : List ByteArray) (k : Int) (h : l.length ≤ 1048577) (h1 : 0 < k) (h2 : k ≤ 10000000000) {w : World} {y : Value} (hy : OwnV w (fun _ => False) (ownB y) 1 (txs l) y) (hb : ∀ b, ownB y b → b < w.heap.size) :
    Calls Try.prog 62 #[y, .int .i64 k] w fun e w' => e = .returned (.int .i64 (k + l.length)) ∧ OwnV w' (fun _ => False) (ownB y) 1 (txs (mksL k l.length)) y ∧ KeptX (ownB y) w w' :=
  calls_mark (Go.Proofs.enters_of Try.func62 (by kernel_rfl) rfl) M_laws_markStringS (e_laws_markStringS l k h h1 h2) hy hb
set_option maxRecDepth 100000 in
theorem call_markBoxS (l : List Bx) (k : Int) (h : l.length ≤ 1048577) (h1 : 0 < k) (h2 : k ≤ 1000000000) {w : World} {y : Value} (hy : OwnV w (fun _ => False) (ownB y) 4 (bxs l) y) (hb : ∀ b, ownB y b → b < w.heap.size) :
    Calls Try.prog 37 #[y, .int .i64 k] w fun e w' => e = .returned (.int .i64 (k + 4 * l.length)) ∧ OwnV w' (fun _ => False) (ownB y) 4 (bxs (mksB k l.length)) y ∧ KeptX (ownB y) w w' :=
  calls_mark (Go.Proofs.enters_of Try.func37 (by kernel_rfl) rfl) M_laws_markBoxS (e_laws_markBoxS l k h h1 h2) hy hb
end Go.Proofs.Ytankikbbdfgkbaa
/-
  laws.markFormeS, walked by hand.
-/
namespace Go.Proofs.Ytankikbbdfgkbaa
open Go Go.Proofs Go.V Go.RowKit
set_option linter.unusedSimpArgs false
set_option linter.unusedVariables false

noncomputable def mkFm (k : Int) (x : Fm) : Fm := (k, mksL (k + 1) x.2.1.length, (k + 1 + x.2.1.length) % 3 == 0, k + 1 + x.2.1.length + 1)
noncomputable def mkF (k : Int) : List Fm → List Fm
  | [] => []
  | x :: l => mkFm k x :: mkF (k + 3 + x.2.1.length) l
def totF : List Fm → Int
  | [] => 0
  | x :: l => 3 + x.2.1.length + totF l
theorem totF_nn : ∀ l, 0 ≤ totF l
  | [] => Int.le_refl _
  | x :: l => by have := totF_nn l; simp only [totF]; omega
theorem totF_app : ∀ (l m : List Fm), totF (l ++ m) = totF l + totF m
  | [], m => by simp [totF]
  | x :: l, m => by simp only [List.cons_append, totF, totF_app l m]; omega
theorem mkF_app : ∀ (l m : List Fm) (k : Int), mkF k (l ++ m) = mkF k l ++ mkF (k + totF l) m
  | [], m, k => by simp [mkF, totF]
  | x :: l, m, k => by
    simp only [List.cons_append, mkF, totF, mkF_app l m]
    rw [show k + 3 + (x.2.1.length : Int) + totF l = k + (3 + x.2.1.length + totF l) by omega]
theorem mkF_len : ∀ (l : List Fm) (k : Int), (mkF k l).length = l.length
  | [], _ => rfl
  | x :: l, k => by simp [mkF, mkF_len l]
/-- The formes after some rounds. -/
noncomputable def stF (k : Int) (l : List Fm) (i : Nat) : List Fm := mkF k (l.take i) ++ l.drop i
theorem stF_len (k : Int) (l : List Fm) (i : Nat) : (stF k l i).length = l.length := by simp [stF, mkF_len]; omega
theorem stF_get (k : Int) (l : List Fm) {i : Nat} (h : i < l.length) : (stF k l i)[i]? = some l[i] := by
  unfold stF
  rw [List.getElem?_append_right (by rw [mkF_len, List.length_take]; omega), mkF_len, List.length_take, Nat.min_eq_left (Nat.le_of_lt h), Nat.sub_self, List.getElem?_drop]
  simp [h]
theorem stF_succ (k : Int) (l : List Fm) {i : Nat} (h : i < l.length) : stF k l (i + 1) = (stF k l i).set i (mkFm (k + totF (l.take i)) l[i]) := by
  unfold stF
  rw [List.take_succ_eq_append_getElem h, mkF_app, List.drop_eq_getElem_cons h, List.set_append_right _ _ (by rw [mkF_len, List.length_take]; omega), mkF_len, List.length_take, Nat.min_eq_left (Nat.le_of_lt h), Nat.sub_self, List.set_cons_zero]
  simp [mkF]
theorem tot_succ (l : List Fm) {i : Nat} (h : i < l.length) : totF (l.take (i + 1)) = totF (l.take i) + 3 + l[i].2.1.length := by
  rw [List.take_succ_eq_append_getElem h, totF_app]
  simp [totF]
  omega
theorem tot_le (l : List Fm) (i : Nat) : totF (l.take i) + totF (l.drop i) = totF l := by rw [← totF_app, List.take_append_drop]
def FmS (V : Value) (ys : List Value) : Nat → Prop := fun b => ownB V b ∨ ∃ y ∈ ys, ownB y b
theorem own_keep {w w' : World} {z : Nat} {d : D} {y : Value} (h : OwnV w (fun _ => False) (ownB y) z d y) (hb : ∀ b, ownB y b → w'.heap[b]? = w.heap[b]?) : OwnV w' (fun _ => False) (ownB y) z d y :=
  OwnV_mono' (fun b hb => hb.elim) (fun b hb => hb.elim) (fun g _ ho => ⟨ho, hb g ho⟩) h
theorem own_froz {w : World} {base e size n g cap : Nat} {xs : List Value} (h : w.ownsRow base e size (.slice (some ⟨g, 0, none⟩) n cap) n xs) (j : Nat) : w.frozen? ⟨g, j, none⟩ = false := by
  obtain ⟨_, ⟨hn, _⟩ | ⟨g', cap', cur, hg', _, h3, _⟩⟩ := h
  · cases hn
  · simp only [Value.slice.injEq, Option.some.injEq, Addr.mk.injEq, and_true, true_and] at hg'
    obtain ⟨rfl, rfl⟩ := hg'
    exact Lib.frozen_of_heap h3 j
theorem add_zero_at (g j : Nat) : ((⟨g, 0, none⟩ : Addr).add j) = ⟨g, j, none⟩ := by cases j <;> simp [Addr.add]
theorem own_cell {w : World} {base e size n g cap : Nat} {xs : List Value} (h : w.ownsRow base e size (.slice (some ⟨g, 0, none⟩) n cap) n xs) {j : Nat} {u : Value} (hj : xs[j]? = some u) : w.cell? ⟨g, j, none⟩ = some u := by
  have := h.cells (g := g) rfl j u hj
  rwa [add_zero_at] at this
theorem own_lt {w : World} {z : Nat} {d : D} {y : Value} (h : OwnV w (fun _ => False) (ownB y) z d y) : ∀ b, ownB y b → b < w.heap.size := fun b hb => by
  obtain ⟨l, _, _, h3⟩ := h
  rcases h3 with ⟨rfl, _⟩ | ⟨g, o, c, us, cs, e, h4, _, h6, _⟩
  · simp [ownB, Value.ownBlock] at hb
  · rw [h4] at hb
    simp only [ownB, Value.ownBlock, Option.some.injEq] at hb
    subst hb
    exact (Array.getElem?_eq_some_iff.1 h6).1
set_option maxHeartbeats 4000000 in
set_option maxRecDepth 1000000 in
theorem markF_walk (l : List Fm) (k : Int) (hk : 0 < k) (hK : k + totF l ≤ 1000000000) (hln : l.length ≤ 1048576) (hls : ∀ x ∈ l, x.2.1.length ≤ 1048576) (w : World) (B g cap : Nat) (ys : List Value) (h : FmsAt w B (.slice (some ⟨g, 0, none⟩) l.length cap) ys l) :
    Calls Try.prog 38 #[.slice (some ⟨g, 0, none⟩) l.length cap, .int .i64 k] w fun e w' => e = .returned (.int .i64 (k + totF l)) ∧ FmsAt w' B (.slice (some ⟨g, 0, none⟩) l.length cap) ys (mkF k l) ∧ KeptX (FmS (.slice (some ⟨g, 0, none⟩) l.length cap) ys) w w' := by
  go_enter Try.func38, Try.ntmps38
  go_wp2
  go_loopw [1, 5] (fun vk vi wr => ∃ i : Nat, vi = .int .i64 i ∧ i ≤ l.length ∧ vk = .int .i64 (k + totF (l.take i)) ∧ FmsAt wr B (.slice (some ⟨g, 0, none⟩) l.length cap) ys (stF k l i) ∧ KeptX (FmS (.slice (some ⟨g, 0, none⟩) l.length cap) ys) w wr) (fun _ vi _ => l.length - (intOf vi).toNat)
  case atStart =>
    exact ⟨0, rfl, Nat.zero_le _, by simp [totF], by simpa [stF, mkF] using h, KeptX.refl _ _⟩
  case round =>
    obtain ⟨i, rfl, hin, rfl, hF, hX⟩ := hrel
    by_cases hp : i < l.length
    · have hpi : (i : Int) < (l.length : Int) := by omega
      have hx := stF_get k l hp
      have ht0 := totF_nn (l.take i)
      have ht1 := tot_succ l hp
      have ht2 := tot_le l (i + 1)
      have ht3 := totF_nn (l.drop (i + 1))
      have hxl := hls l[i] (List.getElem_mem hp)
      obtain ⟨y, hy⟩ : ∃ y, ys[i]? = some y := ⟨ys[i]'(by rw [hF.len, stF_len]; exact hp), List.getElem?_eq_getElem _⟩
      have hcells := fun f hf => (rowsF_at _ _ i l[i] y hx hy f hf)
      have hown := hF.own
      rw [stF_len] at hown
      have hrow := hF.row i l[i] y hx hy
      have hblk := fun b hb => (hF.blk i y b hy hb).2
      have hyg : ∀ b, ownB y b → b ≠ g := fun b hb e => hblk b hb (by rw [e]; rfl)
      have hlen4 : (rowsF (stF k l i) ys).length = l.length * 4 := by rw [rowsF_len _ _ hF.len, stF_len]
      have hset := rowsF_set (stF k l i) ys i l[i] (mkFm (k + totF (l.take i)) l[i]) y hx hy
      rw [← stF_succ k l hp] at hset
      have hw1 : ∀ b, b ≠ g → (wr.setCell ⟨g, i * 4, none⟩ (.int .i64 (k + totF (l.take i)))).heap[b]? = wr.heap[b]? := fun b hb => heap_setCell_other _ _ _ _ (by simpa using hb)
      have hown1 := ownsRow_set hown rfl (i * 4) (.int .i64 (k + totF (l.take i)))
      have f0 := own_froz hown (i * 4)
      have c1 := own_cell hown1 (j := i * 4 + 1) (u := y) (by rw [List.getElem?_set_ne (by omega), hcells 1 (by omega)]; rfl)
      have c0 := own_cell hown (j := i * 4) (u := .int .i64 l[i].1) (by have := hcells 0 (by omega); simpa [cellsF] using this)
      have hrow1 := own_keep (w' := wr.setCell ⟨g, i * 4, none⟩ (.int .i64 (k + totF (l.take i)))) hrow (fun b hb => hw1 b (hyg b hb))
      have hcm := call_markStringS l[i].2.1 (k + totF (l.take i) + 1) (by omega) (by omega) (by omega) hrow1 (own_lt hrow1)
      generalize hxe : l[i] = x at *
      go_wp2_with (go_at_call 62; refine hcm.mono ?_)
      rintro e w2 ⟨rfl, hy2, hx2⟩
      have hown2 := hown1.kept (row := y.ownBlock) ⟨hx2.os, hx2.tape, hx2.output, hx2.size, fun b hb hn => hx2.block b hb fun e => hn e.symm⟩ (.inr fun e => hyg g e.symm rfl)
      have hown3 := fun v => ownsRow_set hown2 rfl (i * 4 + 2) v
      have f2 := own_froz hown2 (i * 4 + 2)
      have f3 := fun v => own_froz (hown3 v) (i * 4 + 3)
      have c2 := own_cell hown2 (j := i * 4 + 2) (u := .bool x.2.2.1) (by rw [List.getElem?_set_ne (by omega), hcells 2 (by omega)]; rfl)
      have c3 := fun v => own_cell (hown3 v) (j := i * 4 + 3) (u := .int .i64 x.2.2.2) (by rw [List.getElem?_set_ne (by omega), List.getElem?_set_ne (by omega), hcells 3 (by omega)]; rfl)
      go_wp2
      refine ⟨⟨i + 1, congrArg (Value.int .i64) (by omega), by omega, congrArg (Value.int .i64) (by omega), ?_, ?_⟩, ?_⟩
      · have hw4 : ∀ (v u : Value) (b : Nat), b ≠ g → ((w2.setCell ⟨g, i * 4 + 2, none⟩ v).setCell ⟨g, i * 4 + 3, none⟩ u).heap[b]? = w2.heap[b]? := fun v u b hb => by
          rw [heap_setCell_other _ _ _ _ (by simpa using hb), heap_setCell_other _ _ _ _ (by simpa using hb)]
        have hss := stF_succ k l hp
        rw [hxe] at hss
        refine ⟨by rw [stF_len]; exact hF.len.trans (stF_len k l i), ?_, fun j x' y' hj hyj => ?_, hF.blk, hF.dis⟩
        · rw [stF_len, hset]
          exact ownsRow_set (hown3 _) rfl (i * 4 + 3) _
        · by_cases e : j = i
          · subst e
            rw [hss, List.getElem?_set_self (by rw [stF_len]; exact hp)] at hj
            obtain rfl := Option.some.inj hj
            obtain rfl : y = y' := Option.some.inj (hy.symm.trans hyj)
            exact own_keep hy2 fun b hb => hw4 _ _ b (hyg b hb)
          · rw [hss, List.getElem?_set_ne (fun h => e h.symm)] at hj
            have hr := hF.row j x' y' hj hyj
            refine own_keep hr fun b hb => ?_
            have hbg : b ≠ g := fun h => (hF.blk j y' b hyj hb).2 (by rw [h]; rfl)
            have hby : ¬ ownB y b := fun h => by
              rcases hF.dis j i y' y e hyj hy with h1 | h1
              · rw [ownB, h1] at hb
                cases hb
              · exact h1 (hb.trans h.symm)
            have hlt := own_lt hr b hb
            rw [hw4 _ _ b hbg, hx2.block b (by simpa [World.setCell] using hlt) hby, hw1 b hbg]
      · have hS : FmS (.slice (some ⟨g, 0, none⟩) l.length cap) ys g := .inl rfl
        have hm : ∀ b, ownB y b → FmS (.slice (some ⟨g, 0, none⟩) l.length cap) ys b := fun b hb => .inr ⟨y, List.mem_of_getElem? hy, hb⟩
        exact (((hX.set _ _ hS).trans (hx2.mono hm)).set _ _ hS).set _ _ hS
      · show l.length - ((i : Int) + 1).toNat < l.length - (i : Int).toNat
        omega
    · have hpi : ¬ (i : Int) < (l.length : Int) := by omega
      have hie : i = l.length := by omega
      subst hie
      rw [List.take_length]
      have hst : stF k l l.length = mkF k l := by simp [stF]
      rw [hst] at hF
      go_wp2
      go_ret
      exact ⟨rfl, hF, hX⟩
end Go.Proofs.Ytankikbbdfgkbaa
