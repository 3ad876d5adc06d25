/-
  What the functions compute: their evaluated texts, printed.
-/
import Derived.Test.YtfjkapnonljdeaaRows
import Derived.Test.YtfjkapnonljdeaaM4
namespace Go.Proofs.Ytfjkapnonljdeaa
open Go Go.V
theorem t_laws_szBox (x0 x1 : D) : F_laws_szBox [x0, x1] =
  ((boxD 4 x0).bind fun y => (liveD y (D.ref 0 0)).bind fun z => ((atD y z).bind (takeD false 1)).bind fun z => (lenD true z).bind fun z => (bin BinOp.sub false [] x1 z).bind fun z =>
 (bin BinOp.lss false [] z (D.v (Value.int IntKind.i64 0))).bind fun z_1 => ifD z_1 (some (Out.ret [D.v (Value.int IntKind.i64 (-1))] [])) (some (Out.ret [z] []))) := by kernel_rfl
theorem t_laws_szBoxS (x0 x1 : D) : F_laws_szBoxS [x0, x1] =
  ((lenD false x0).bind fun z => (bin BinOp.sub false [] x1 z).bind fun z => (bin BinOp.lss false [] z (D.v (Value.int IntKind.i64 0))).bind fun z_1 => ifD z_1 (some (Out.ret [D.v (Value.int IntKind.i64 (-1))] [])) ((loopC
 (fun s => (lenD false (sl s 0)).bind fun z => (bin BinOp.lss false [] (sl s 2) z).bind fun z => ifD z ((Option.map D.ptr (elemD 4 (sl s 0) (sl s 2))).bind fun z => ((ldD true 4 z).bind chkV).bind fun z =>
 callK (F_laws_szBox [z, sl s 1]) fun rs _u => (bin BinOp.lss false [] (sl rs 0) (D.v (Value.int IntKind.i64 0))).bind fun z => ifD z (some (Out.ret [D.v (Value.int IntKind.i64 (-1))] []))
 ((bin BinOp.add false [] (sl s 2) (D.v (Value.int IntKind.i64 1))).bind fun z => some (Out.nrm [sl s 0, sl rs 0, z]))) (some (Out.ext 0 [sl s 1]))) [x0, z, D.v (Value.int IntKind.i64 0)]).bind
 fun o => outK o (fun i s => ifN (i.beq 0) (some (Out.ret [sl s 0] [])) none) fun a b => some (Out.ret a b))) := by kernel_rfl
theorem t_laws_szStringS (x0 x1 : D) : F_laws_szStringS [x0, x1] =
  ((lenD false x0).bind fun z => (bin BinOp.sub false [] x1 z).bind fun z => (bin BinOp.lss false [] z (D.v (Value.int IntKind.i64 0))).bind fun z_1 => ifD z_1 (some (Out.ret [D.v (Value.int IntKind.i64 (-1))] [])) ((loopC
 (fun s => (lenD false (sl s 0)).bind fun z => (bin BinOp.lss false [] (sl s 2) z).bind fun z => ifD z ((Option.map D.ptr (elemD 1 (sl s 0) (sl s 2))).bind fun z => ((ldD false 1 z).bind chkV).bind fun z =>
 (lenD true z).bind fun z => (bin BinOp.sub false [] (sl s 1) z).bind fun z => (bin BinOp.lss false [] z (D.v (Value.int IntKind.i64 0))).bind fun z_2 => ifD z_2 (some (Out.ret [D.v (Value.int IntKind.i64 (-1))] []))
 ((bin BinOp.add false [] (sl s 2) (D.v (Value.int IntKind.i64 1))).bind fun z_3 => some (Out.nrm [sl s 0, z, z_3]))) (some (Out.ext 0 [sl s 1]))) [x0, z, D.v (Value.int IntKind.i64 0)]).bind
 fun o => outK o (fun i s => ifN (i.beq 0) (some (Out.ret [sl s 0] [])) none) fun a b => some (Out.ret a b))) := by kernel_rfl
theorem t_laws_szForme (x0 x1 : D) : F_laws_szForme [x0, x1] =
  ((boxD 4 x0).bind fun y => (liveD y (D.ref 0 1)).bind fun z => ((atD y z).bind (takeD false 1)).bind fun z => callK (F_laws_szStringS [z, x1]) fun rs _u =>
 (bin BinOp.lss false [] (sl rs 0) (D.v (Value.int IntKind.i64 0))).bind fun z => ifD z (some (Out.ret [D.v (Value.int IntKind.i64 (-1))] [])) (some (Out.ret [sl rs 0] []))) := by kernel_rfl
theorem t_laws_szFormeS (x0 x1 : D) : F_laws_szFormeS [x0, x1] =
  ((lenD false x0).bind fun z => (bin BinOp.sub false [] x1 z).bind fun z => (bin BinOp.lss false [] z (D.v (Value.int IntKind.i64 0))).bind fun z_1 => ifD z_1 (some (Out.ret [D.v (Value.int IntKind.i64 (-1))] [])) ((loopC
 (fun s => (lenD false (sl s 0)).bind fun z => (bin BinOp.lss false [] (sl s 2) z).bind fun z => ifD z ((Option.map D.ptr (elemD 4 (sl s 0) (sl s 2))).bind fun z => (ldD true 4 z).bind fun z =>
 callK (F_laws_szForme [z, sl s 1]) fun rs _u => (bin BinOp.lss false [] (sl rs 0) (D.v (Value.int IntKind.i64 0))).bind fun z => ifD z (some (Out.ret [D.v (Value.int IntKind.i64 (-1))] []))
 ((bin BinOp.add false [] (sl s 2) (D.v (Value.int IntKind.i64 1))).bind fun z => some (Out.nrm [sl s 0, sl rs 0, z]))) (some (Out.ext 0 [sl s 1]))) [x0, z, D.v (Value.int IntKind.i64 0)]).bind
 fun o => outK o (fun i s => ifN (i.beq 0) (some (Out.ret [sl s 0] [])) none) fun a b => some (Out.ret a b))) := by kernel_rfl
theorem t_laws_szShop (x0 x1 : D) : F_laws_szShop [x0, x1] =
  ((boxD 4 x0).bind fun y => (liveD y (D.ref 0 0)).bind fun z => ((atD y z).bind (takeD false 1)).bind fun z => callK (F_laws_szBoxS [z, x1]) fun rs _u =>
 (bin BinOp.lss false [] (sl rs 0) (D.v (Value.int IntKind.i64 0))).bind fun z => ifD z (some (Out.ret [D.v (Value.int IntKind.i64 (-1))] [])) ((liveD y (D.ref 0 1)).bind fun z =>
 ((atD y z).bind (takeD false 1)).bind fun z => callK (F_laws_szFormeS [z, sl rs 0]) fun rs _u => (bin BinOp.lss false [] (sl rs 0) (D.v (Value.int IntKind.i64 0))).bind fun z =>
 ifD z (some (Out.ret [D.v (Value.int IntKind.i64 (-1))] [])) (some (Out.ret [sl rs 0] [])))) := by kernel_rfl
theorem t_laws_toBox (x0 : D) : F_laws_toBox [x0] =
  ((boxD 4 x0).bind fun y => (liveD y (D.ref 0 0)).bind fun z => ((atD y z).bind (takeD false 1)).bind fun z => (liveD (D.agg [D.v (Value.string { data := { toList := [] } }), D.v (Value.int IntKind.i64 0),
 D.v (Value.int IntKind.i64 0), D.v (Value.int IntKind.i64 0)]) (D.ref 0 0)).bind fun z_1 => (stD 1 (D.agg [D.v (Value.string { data := { toList := [] } }), D.v (Value.int IntKind.i64 0),
 D.v (Value.int IntKind.i64 0), D.v (Value.int IntKind.i64 0)]) z_1 z).bind fun b => (liveD y (D.ref 0 1)).bind fun z => ((atD y z).bind (takeD false 1)).bind fun z => (liveD b (D.ref 0 1)).bind fun z_2 =>
 (stD 1 b z_2 z).bind fun b => (liveD y (D.ref 0 2)).bind fun z => ((atD y z).bind (takeD false 1)).bind fun z => (liveD b (D.ref 0 2)).bind fun z_3 => (stD 1 b z_3 z).bind fun b => (liveD y (D.ref 0 3)).bind fun z =>
 ((atD y z).bind (takeD false 1)).bind fun z => (liveD b (D.ref 0 3)).bind fun z_4 => (stD 1 b z_4 z).bind fun b => (fldD true 4 0 b).bind fun z => (stD 4 (D.agg [D.v (Value.string { data := { toList := [] } }),
 D.v (Value.int IntKind.i64 0), D.v (Value.int IntKind.i64 0), D.v (Value.int IntKind.i64 0)]) (D.ref 0 0) z).bind fun b => (fldD true 4 0 b).bind fun y => some (Out.ret [y] [])) := by kernel_rfl
theorem t_laws_toBoxS (x0 : D) : F_laws_toBoxS [x0] =
  ((lenD false x0).bind fun z => (makD 4 40 (D.agg [D.v (Value.string { data := { toList := [] } }), D.v (Value.int IntKind.i64 0), D.v (Value.int IntKind.i64 0), D.v (Value.int IntKind.i64 0)]) z z).bind fun y => (loopC
 (fun s => (lenD false (sl s 0)).bind fun z => (bin BinOp.lss false [] (sl s 2) z).bind fun z => ifD z ((liveD (sl s 1) (D.ref 0 0)).bind fun z => (Option.map D.ptr (elemD 4 (sl s 0) (sl s 2))).bind fun z_1 =>
 ((ldD true 4 z_1).bind chkV).bind fun z_2 => callK (F_laws_toBox [z_2]) fun rs _u => ((liveD z (sl s 1)).bind fun b => refI 4 b (sl s 2)).bind fun z => (stD 4 (sl s 1) z (sl rs 0)).bind fun b =>
 (bin BinOp.add false [] (sl s 2) (D.v (Value.int IntKind.i64 1))).bind fun z => some (Out.nrm [sl s 0, b, z])) (some (Out.ext 0 [sl s 1]))) [x0, y, D.v (Value.int IntKind.i64 0)]).bind
 fun o => outK o (fun i s => ifN (i.beq 0) (some (Out.ret [sl s 0] [])) none) fun a b => some (Out.ret a b)) := by kernel_rfl
theorem t_laws_toStringS (x0 : D) : F_laws_toStringS [x0] =
  ((lenD false x0).bind fun z => (makD 1 16 (D.v (Value.string { data := { toList := [] } })) z z).bind fun y => (loopC (fun s => (lenD false (sl s 0)).bind fun z => (bin BinOp.lss false [] (sl s 2) z).bind fun z => ifD z
 ((liveD (sl s 1) (D.ref 0 0)).bind fun z => (Option.map D.ptr (elemD 1 (sl s 0) (sl s 2))).bind fun z_1 => ((ldD false 1 z_1).bind chkV).bind fun z_2 => ((liveD z (sl s 1)).bind fun b => refI 1 b (sl s 2)).bind fun z =>
 (stD 1 (sl s 1) z z_2).bind fun b => (bin BinOp.add false [] (sl s 2) (D.v (Value.int IntKind.i64 1))).bind fun z => some (Out.nrm [sl s 0, b, z])) (some (Out.ext 0 [sl s 1]))) [x0, y, D.v (Value.int IntKind.i64 0)]).bind
 fun o => outK o (fun i s => ifN (i.beq 0) (some (Out.ret [sl s 0] [])) none) fun a b => some (Out.ret a b)) := by kernel_rfl
theorem t_laws_toForme (x0 : D) : F_laws_toForme [x0] =
  ((boxD 4 x0).bind fun y => (liveD y (D.ref 0 0)).bind fun z => (((atD y z).bind (takeD false 1)).bind chkV).bind fun z => (liveD
 (D.agg [D.v (Value.int IntKind.i64 0), D.arr 1 [], D.v (Value.bool false), D.v (Value.int IntKind.i64 0)]) (D.ref 0 0)).bind fun z_1 => (stD 1 (D.agg
 [D.v (Value.int IntKind.i64 0), D.arr 1 [], D.v (Value.bool false), D.v (Value.int IntKind.i64 0)]) z_1 z).bind fun b => (liveD y (D.ref 0 1)).bind fun z => ((atD y z).bind (takeD false 1)).bind fun z =>
 callK (F_laws_toStringS [z]) fun rs _u => (liveD b (D.ref 0 1)).bind fun z => (stD 1 b z (sl rs 0)).bind fun b => (liveD y (D.ref 0 2)).bind fun z => (((atD y z).bind (takeD false 1)).bind chkV).bind fun z =>
 (liveD b (D.ref 0 2)).bind fun z_2 => (stD 1 b z_2 z).bind fun b => (liveD y (D.ref 0 3)).bind fun z => (((atD y z).bind (takeD false 1)).bind chkV).bind fun z => (liveD b (D.ref 0 3)).bind fun z_3 =>
 (stD 1 b z_3 z).bind fun b => (fldD true 4 0 b).bind fun z => (stD 4 (D.agg [D.v (Value.int IntKind.i64 0), D.arr 1 [], D.v (Value.bool false), D.v (Value.int IntKind.i64 0)]) (D.ref 0 0) z).bind
 fun b => (fldD true 4 0 b).bind fun y => some (Out.ret [y] [])) := by kernel_rfl
theorem t_laws_toFormeS (x0 : D) : F_laws_toFormeS [x0] =
  ((lenD false x0).bind fun z => (makD 4 48 (D.agg [D.v (Value.int IntKind.i64 0), D.arr 1 [], D.v (Value.bool false), D.v (Value.int IntKind.i64 0)]) z z).bind fun y => (loopC (fun s => (lenD false (sl s 0)).bind fun z =>
 (bin BinOp.lss false [] (sl s 2) z).bind fun z => ifD z ((liveD (sl s 1) (D.ref 0 0)).bind fun z => (Option.map D.ptr (elemD 4 (sl s 0) (sl s 2))).bind fun z_1 => (ldD true 4 z_1).bind fun z_2 =>
 callK (F_laws_toForme [z_2]) fun rs _u => ((liveD z (sl s 1)).bind fun b => refI 4 b (sl s 2)).bind fun z => (stD 4 (sl s 1) z (sl rs 0)).bind fun b =>
 (bin BinOp.add false [] (sl s 2) (D.v (Value.int IntKind.i64 1))).bind fun z => some (Out.nrm [sl s 0, b, z])) (some (Out.ext 0 [sl s 1]))) [x0, y, D.v (Value.int IntKind.i64 0)]).bind
 fun o => outK o (fun i s => ifN (i.beq 0) (some (Out.ret [sl s 0] [])) none) fun a b => some (Out.ret a b)) := by kernel_rfl
theorem t_laws_toShop (x0 : D) : F_laws_toShop [x0] =
  ((boxD 4 x0).bind fun y => (liveD y (D.ref 0 0)).bind fun z => ((atD y z).bind (takeD false 1)).bind fun z => callK (F_laws_toBoxS [z]) fun rs _u =>
 (liveD (D.agg [D.arr 4 [], D.arr 4 [], D.v (Value.int IntKind.i64 0), D.v (Value.int IntKind.i64 0)]) (D.ref 0 0)).bind fun z =>
 (stD 1 (D.agg [D.arr 4 [], D.arr 4 [], D.v (Value.int IntKind.i64 0), D.v (Value.int IntKind.i64 0)]) z (sl rs 0)).bind fun b => (liveD y (D.ref 0 1)).bind fun z => ((atD y z).bind (takeD false 1)).bind fun z =>
 callK (F_laws_toFormeS [z]) fun rs _u => (liveD b (D.ref 0 1)).bind fun z => (stD 1 b z (sl rs 0)).bind fun b => (liveD y (D.ref 0 2)).bind fun z => (((atD y z).bind (takeD false 1)).bind chkV).bind fun z =>
 (liveD b (D.ref 0 2)).bind fun z_1 => (stD 1 b z_1 z).bind fun b => (liveD y (D.ref 0 3)).bind fun z => (((atD y z).bind (takeD false 1)).bind chkV).bind fun z => (liveD b (D.ref 0 3)).bind fun z_2 =>
 (stD 1 b z_2 z).bind fun b => (fldD true 4 0 b).bind fun z => (stD 4 (D.agg [D.arr 4 [], D.arr 4 [], D.v (Value.int IntKind.i64 0), D.v (Value.int IntKind.i64 0)]) (D.ref 0 0) z).bind
 fun b => (fldD true 4 0 b).bind fun y => some (Out.ret [y] [])) := by kernel_rfl
theorem t_spec_shFind (x0 x1 : D) : F_spec_shFind [x0, x1] =
  ((boxD 4 x0).bind fun y => (liveD y (D.ref 0 1)).bind fun z => ((atD y z).bind (takeD false 1)).bind fun z => (lenD false z).bind fun z_1 => (loopC (fun s => (bin BinOp.lss false [] (sl s 3) (sl s 2)).bind fun z => ifD z
 ((Option.map D.ptr (elemD 4 (sl s 1) (sl s 3))).bind fun z => (ldD true 4 z).bind fun z => (stD 4 (D.agg [D.v (Value.int IntKind.i64 0), D.arr 1 [], D.v (Value.bool false), D.v (Value.int IntKind.i64 0)])
 (D.ref 0 0) z).bind fun b => (liveD b (D.ref 0 0)).bind fun z => (((atD b z).bind (takeD false 1)).bind chkV).bind fun z => (bin BinOp.eql false [] z (sl s 0)).bind fun z => ifD z (some (Out.ret [sl s 3] []))
 ((bin BinOp.add false [] (sl s 3) (D.v (Value.int IntKind.i64 1))).bind fun z => some (Out.nrm [sl s 0, sl s 1, sl s 2, z]))) (some (Out.ext 0 []))) [x1, z, z_1, D.v (Value.int IntKind.i64 0)]).bind fun o =>
 outK o (fun i _u => ifN (i.beq 0) (some (Out.ret [D.v (Value.int IntKind.i64 (-1))] [])) none) fun a b => some (Out.ret a b)) := by kernel_rfl
theorem t_spec_l1In (x0 x1 x2 : D) : F_spec_l1In [x0, x1, x2] =
  ((bin BinOp.geq false [] x0 x1).bind fun z => (gate (D.tup []) z true (some x0)).bind fun z_1 => (gate (D.tup []) z true (some x2)).bind fun z_2 => (gate (D.tup []) z true (bin BinOp.leq false [] z_1 z_2)).bind fun z_3 =>
 (pickD z z_3 (D.v (Value.bool false))).bind fun z => some (Out.ret [z] [])) := by kernel_rfl
theorem t_spec_caFind (x0 x1 : D) : F_spec_caFind [x0, x1] =
  ((lenD false x0).bind fun z => (loopC (fun s => (bin BinOp.lss false [] (sl s 3) (sl s 2)).bind fun z => ifD z ((Option.map D.ptr (elemD 4 (sl s 1) (sl s 3))).bind fun z => ((ldD true 4 z).bind chkV).bind fun z => (stD 4
 (D.agg [D.v (Value.string { data := { toList := [] } }), D.v (Value.int IntKind.i64 0), D.v (Value.int IntKind.i64 0), D.v (Value.int IntKind.i64 0)]) (D.ref 0 0) z).bind fun b => (liveD b (D.ref 0 0)).bind fun z =>
 ((atD b z).bind (takeD false 1)).bind fun z => (bin BinOp.eql false [] z (sl s 0)).bind fun z => ifD z (some (Out.ret [sl s 3] [])) ((bin BinOp.add false [] (sl s 3) (D.v (Value.int IntKind.i64 1))).bind fun z =>
 some (Out.nrm [sl s 0, sl s 1, sl s 2, z]))) (some (Out.ext 0 []))) [x1, x0, z, D.v (Value.int IntKind.i64 0)]).bind fun o =>
 outK o (fun i _u => ifN (i.beq 0) (some (Out.ret [D.v (Value.int IntKind.i64 (-1))] [])) none) fun a b => some (Out.ret a b)) := by kernel_rfl
theorem t_spec_shForme (x0 x1 : D) : F_spec_shForme [x0, x1] =
  ((boxD 4 x1).bind fun y => (liveD y (D.ref 0 0)).bind fun z => (((atD y z).bind (takeD false 1)).bind chkV).bind fun z => callK (F_spec_l1In [z, D.v (Value.int IntKind.i64 1), D.v (Value.int IntKind.i64 99)]) fun rs _u =>
 (un UnOp.not (sl rs 0)).bind fun z => (gate D.bad z false (liveD y (D.ref 0 1))).bind fun z_1 => (gate (D.tup []) z false ((atD y z_1).bind (takeD false 1))).bind fun z_2 =>
 (gate (D.tup []) z false (lenD false z_2)).bind fun z_3 => (gate (D.tup []) z false (bin BinOp.gtr false [] z_3 (D.v (Value.int IntKind.i64 40)))).bind fun z_4 => (pickD z (D.v (Value.bool true)) z_4).bind fun z =>
 (gate D.bad z false (liveD y (D.ref 0 3))).bind fun z_5 => (gate (D.tup []) z false (((atD y z_5).bind (takeD false 1)).bind chkV)).bind fun z_6 => gateC z false (callK
 (F_spec_l1In [z_6, D.v (Value.int IntKind.i64 0), D.v (Value.int IntKind.i64 100000)]) fun rs _u => some (Out.nrm [sl rs 0])) [D.tup []] fun outs => (gate (D.tup []) z false (un UnOp.not (sl outs 0))).bind fun z_7 =>
 (pickD z (D.v (Value.bool true)) z_7).bind fun z => (gate D.bad z false (liveD y (D.ref 0 2))).bind fun z_8 => (gate (D.tup []) z false (((atD y z_8).bind (takeD false 1)).bind chkV)).bind fun z_9 =>
 (gate (D.tup []) z false (some z_9)).bind fun z_10 => (gate D.bad z_10 true (liveD y (D.ref 0 1))).bind fun z_11 => (gate (D.tup []) z_10 true ((atD y z_11).bind (takeD false 1))).bind fun z_12 =>
 (gate (D.tup []) z_10 true (lenD false z_12)).bind fun z_13 => (gate (D.tup []) z_10 true (bin BinOp.eql false [] z_13 (D.v (Value.int IntKind.i64 0)))).bind fun z_14 =>
 (gate (D.tup []) z false (pickD z_10 z_14 (D.v (Value.bool false)))).bind fun z_15 => (pickD z (D.v (Value.bool true)) z_15).bind fun z => ifD z (some (Out.ret [D.v (Value.bool false)] []))
 ((liveD y (D.ref 0 1)).bind fun z => ((atD y z).bind (takeD false 1)).bind fun z => (lenD false z).bind fun z_16 => (loopC (fun s => (bin BinOp.lss false [] (sl s 3) (sl s 2)).bind fun z => ifD z ((Option.map D.ptr
 (elemD 1 (sl s 1) (sl s 3))).bind fun z => ((ldD false 1 z).bind chkV).bind fun z => callK (F_spec_caFind [sl s 0, z]) fun rs _u => (bin BinOp.lss false [] (sl rs 0) (D.v (Value.int IntKind.i64 0))).bind fun z => ifD z
 (some (Out.ret [D.v (Value.bool false)] [])) ((bin BinOp.add false [] (sl s 3) (D.v (Value.int IntKind.i64 1))).bind fun z => some (Out.nrm [sl s 0, sl s 1, sl s 2, z]))) (some (Out.ext 0 [])))
 [x0, z, z_16, D.v (Value.int IntKind.i64 0)]).bind fun o => outK o (fun i _u => ifN (i.beq 0) (some (Out.ret [D.v (Value.bool true)] [])) none) fun a b => some (Out.ret a b))) := by kernel_rfl
theorem t_spec_tyLetters (x0 x1 : D) : F_spec_tyLetters [x0, x1] =
  ((loopC (fun s => (lenD true (sl s 0)).bind fun z => (bin BinOp.lss false [] (sl s 2) z).bind fun z => ifD z ((charD (sl s 0) (sl s 2)).bind fun z => (bin BinOp.lss false [] z (D.v (Value.int IntKind.u8 97))).bind fun z =>
 (gate (D.tup []) z false (some (sl s 0))).bind fun z_1 => (gate (D.tup []) z false (some (sl s 2))).bind fun z_2 => (gate (D.tup []) z false (charD z_1 z_2)).bind fun z_3 =>
 (gate (D.tup []) z false (bin BinOp.gtr false [] z_3 (D.v (Value.int IntKind.u8 122)))).bind fun z_4 => (pickD z (D.v (Value.bool true)) z_4).bind fun z => ifD z (some (Out.ret [D.v (Value.bool false)] []))
 ((bin BinOp.add false [] (sl s 2) (D.v (Value.int IntKind.i64 1))).bind fun z => some (Out.nrm [sl s 0, sl s 1, z]))) (some (Out.ext 0 [sl s 0, sl s 1]))) [x0, x1, D.v (Value.int IntKind.i64 0)]).bind fun o => outK o
 (fun i s => ifN (i.beq 0) ((lenD true (sl s 0)).bind fun z => callK (F_spec_l1In [z, D.v (Value.int IntKind.i64 1), sl s 1]) fun rs _u => some (Out.ret [sl rs 0] [])) none) fun a b => some (Out.ret a b)) := by kernel_rfl
theorem t_spec_caBox (x0 : D) : F_spec_caBox [x0] =
  ((boxD 4 x0).bind fun y => (liveD y (D.ref 0 0)).bind fun z => ((atD y z).bind (takeD false 1)).bind fun z => callK (F_spec_tyLetters [z, D.v (Value.int IntKind.i64 3)]) fun rs _u =>
 (gate D.bad (sl rs 0) true (liveD y (D.ref 0 1))).bind fun z => (gate (D.tup []) (sl rs 0) true ((atD y z).bind (takeD false 1))).bind fun z => gateC (sl rs 0) true
 (callK (F_spec_l1In [z, D.v (Value.int IntKind.i64 0), D.v (Value.int IntKind.i64 9)]) fun rs _u => some (Out.nrm [sl rs 0])) [D.tup []] fun outs => (pickD (sl rs 0) (sl outs 0) (D.v (Value.bool false))).bind fun z =>
 (gate D.bad z true (liveD y (D.ref 0 2))).bind fun z_1 => (gate (D.tup []) z true ((atD y z_1).bind (takeD false 1))).bind fun z_2 => gateC z true
 (callK (F_spec_l1In [z_2, D.v (Value.int IntKind.i64 0), D.v (Value.int IntKind.i64 9)]) fun rs _u => some (Out.nrm [sl rs 0])) [D.tup []] fun outs => (pickD z (sl outs 0) (D.v (Value.bool false))).bind fun z =>
 (gate D.bad z true (liveD y (D.ref 0 3))).bind fun z_3 => (gate (D.tup []) z true ((atD y z_3).bind (takeD false 1))).bind fun z_4 => gateC z true (callK
 (F_spec_l1In [z_4, D.v (Value.int IntKind.i64 0), D.v (Value.int IntKind.i64 9999)]) fun rs _u => some (Out.nrm [sl rs 0])) [D.tup []] fun outs =>
 (pickD z (sl outs 0) (D.v (Value.bool false))).bind fun z => some (Out.ret [z] [])) := by kernel_rfl
theorem t_spec_caGood (x0 : D) : F_spec_caGood [x0] =
  ((lenD false x0).bind fun z => (loopC (fun s => (bin BinOp.lss false [] (sl s 3) (sl s 2)).bind fun z => ifD z ((Option.map D.ptr (elemD 4 (sl s 1) (sl s 3))).bind fun z => ((ldD true 4 z).bind chkV).bind fun z => (stD 4
 (D.agg [D.v (Value.string { data := { toList := [] } }), D.v (Value.int IntKind.i64 0), D.v (Value.int IntKind.i64 0), D.v (Value.int IntKind.i64 0)]) (D.ref 0 0) z).bind fun b => (fldD true 4 0 b).bind fun z =>
 callK (F_spec_caBox [z]) fun rs _u => (un UnOp.not (sl rs 0)).bind fun z => (gate (D.tup []) z false (some (sl s 3))).bind fun z_1 => (gate (D.tup []) z false
 (bin BinOp.gtr false [] z_1 (D.v (Value.int IntKind.i64 0)))).bind fun z_2 => (gate (D.tup []) z false (some z_2)).bind fun z_3 => (gate (D.tup []) z_3 true (some (sl s 0))).bind fun z_4 =>
 (gate (D.tup []) z_3 true (some (sl s 3))).bind fun z_5 => (gate (D.tup []) z_3 true (bin BinOp.sub false [] z_5 (D.v (Value.int IntKind.i64 1)))).bind fun z_6 =>
 (gate (D.tup []) z_3 true (Option.map D.ptr (elemD 4 z_4 z_6))).bind fun z_7 => (gate (D.tup []) z_3 true (offD 0 z_7)).bind fun z_8 => (gate (D.tup []) z_3 true ((ldD false 1 z_8).bind chkV)).bind fun z_9 =>
 (gate D.bad z_3 true (liveD b (D.ref 0 0))).bind fun z_10 => (gate (D.tup []) z_3 true ((atD b z_10).bind (takeD false 1))).bind fun z_11 => (gate (D.tup []) z_3 true (bin BinOp.geq false [] z_9 z_11)).bind fun z_12 =>
 (gate (D.tup []) z false (pickD z_3 z_12 (D.v (Value.bool false)))).bind fun z_13 => (pickD z (D.v (Value.bool true)) z_13).bind fun z => ifD z (some (Out.ret [D.v (Value.bool false)] []))
 ((sliceD false 4 (sl s 0) (D.v (Value.int IntKind.i64 0)) (sl s 3)).bind fun z => (lenD false z).bind fun z_14 => (loopC (fun s => (bin BinOp.lss false [] (sl s 7) (sl s 6)).bind fun z => ifD z ((Option.map D.ptr
 (elemD 4 (sl s 5) (sl s 7))).bind fun z => ((ldD true 4 z).bind chkV).bind fun z => (stD 4 (D.agg [D.v (Value.string { data := { toList := [] } }), D.v (Value.int IntKind.i64 0), D.v (Value.int IntKind.i64 0),
 D.v (Value.int IntKind.i64 0)]) (D.ref 0 0) z).bind fun b => (liveD b (D.ref 0 1)).bind fun z => ((atD b z).bind (takeD false 1)).bind fun z => (liveD (sl s 1) (D.ref 0 1)).bind fun z_15 => ((atD (sl s 1) z_15).bind
 (takeD false 1)).bind fun z_16 => (bin BinOp.eql false [] z z_16).bind fun z => (gate D.bad z true (liveD b (D.ref 0 2))).bind fun z_17 => (gate (D.tup []) z true ((atD b z_17).bind (takeD false 1))).bind fun z_18 =>
 (gate D.bad z true (liveD (sl s 1) (D.ref 0 2))).bind fun z_19 => (gate (D.tup []) z true ((atD (sl s 1) z_19).bind (takeD false 1))).bind fun z_20 => (gate (D.tup []) z true (bin BinOp.eql false [] z_18 z_20)).bind
 fun z_21 => (pickD z z_21 (D.v (Value.bool false))).bind fun z => ifD z (some (Out.ret [D.v (Value.bool false)] [])) ((bin BinOp.add false [] (sl s 7) (D.v (Value.int IntKind.i64 1))).bind fun z => some (Out.nrm [sl s 0,
 sl s 1, sl s 2, sl s 3, sl s 4, sl s 5, sl s 6, z]))) (some (Out.ext 2 [sl s 0, sl s 2, sl s 3, sl s 4]))) [sl s 0, b, sl s 1, sl s 2, sl s 3, z, z_14, D.v (Value.int IntKind.i64 0)]).bind fun o => outK o (fun i s =>
 ifN (i.beq 2) ((bin BinOp.add false [] (sl s 3) (D.v (Value.int IntKind.i64 1))).bind fun z => some (Out.nrm [sl s 0, sl s 1, sl s 2, z])) (ifN (i.beq 1) ((bin BinOp.add false [] (sl s 3)
 (D.v (Value.int IntKind.i64 1))).bind fun z => some (Out.nrm [sl s 0, sl s 1, sl s 2, z])) (some (Out.ext i [sl s 0])))) fun a b => some (Out.ret a b))) (some (Out.ext 0 [sl s 0])))
 [x0, x0, z, D.v (Value.int IntKind.i64 0)]).bind fun o => outK o (fun i s => ifN (i.beq 0) ((lenD false (sl s 0)).bind fun z =>
 callK (F_spec_l1In [z, D.v (Value.int IntKind.i64 1), D.v (Value.int IntKind.i64 32)]) fun rs _u => some (Out.ret [sl rs 0] [])) none) fun a b => some (Out.ret a b)) := by kernel_rfl
theorem t_spec_shGood (x0 : D) : F_spec_shGood [x0] =
  ((boxD 4 x0).bind fun y => (liveD y (D.ref 0 1)).bind fun z => ((atD y z).bind (takeD false 1)).bind fun z => (lenD false z).bind fun z_1 => (loopC (fun s => (bin BinOp.lss false [] (sl s 4) (sl s 3)).bind fun z => ifD z
 ((Option.map D.ptr (elemD 4 (sl s 2) (sl s 4))).bind fun z => (ldD true 4 z).bind fun z => (stD 4 (D.agg [D.v (Value.int IntKind.i64 0), D.arr 1 [], D.v (Value.bool false), D.v (Value.int IntKind.i64 0)])
 (D.ref 0 0) z).bind fun b => (liveD (sl s 0) (D.ref 0 0)).bind fun z => ((atD (sl s 0) z).bind (takeD false 1)).bind fun z => (fldD true 4 0 b).bind fun z_2 => callK (F_spec_shForme [z, z_2]) fun rs _u =>
 (un UnOp.not (sl rs 0)).bind fun z => (gate (D.tup []) z false (some (sl s 4))).bind fun z_3 => (gate (D.tup []) z false (bin BinOp.gtr false [] z_3 (D.v (Value.int IntKind.i64 0)))).bind fun z_4 =>
 (gate (D.tup []) z false (some z_4)).bind fun z_5 => (gate D.bad z_5 true (liveD (sl s 0) (D.ref 0 1))).bind fun z_6 => (gate (D.tup []) z_5 true ((atD (sl s 0) z_6).bind (takeD false 1))).bind fun z_7 =>
 (gate (D.tup []) z_5 true (some (sl s 4))).bind fun z_8 => (gate (D.tup []) z_5 true (bin BinOp.sub false [] z_8 (D.v (Value.int IntKind.i64 1)))).bind fun z_9 =>
 (gate (D.tup []) z_5 true (Option.map D.ptr (elemD 4 z_7 z_9))).bind fun z_10 => (gate (D.tup []) z_5 true (offD 0 z_10)).bind fun z_11 => (gate (D.tup []) z_5 true ((ldD false 1 z_11).bind chkV)).bind fun z_12 =>
 (gate D.bad z_5 true (liveD b (D.ref 0 0))).bind fun z_13 => (gate (D.tup []) z_5 true (((atD b z_13).bind (takeD false 1)).bind chkV)).bind fun z_14 => (gate (D.tup []) z_5 true (bin BinOp.geq false [] z_12 z_14)).bind
 fun z_15 => (gate (D.tup []) z false (pickD z_5 z_15 (D.v (Value.bool false)))).bind fun z_16 => (pickD z (D.v (Value.bool true)) z_16).bind fun z => ifD z (some (Out.ret [D.v (Value.bool false)] []))
 ((liveD b (D.ref 0 3)).bind fun z => (((atD b z).bind (takeD false 1)).bind chkV).bind fun z => (bin BinOp.add false [] (sl s 1) z).bind fun z => (bin BinOp.add false [] (sl s 4) (D.v (Value.int IntKind.i64 1))).bind
 fun z_17 => some (Out.nrm [sl s 0, z, sl s 2, sl s 3, z_17]))) (some (Out.ext 0 [sl s 0, sl s 1]))) [y, D.v (Value.int IntKind.i64 0), z, z_1, D.v (Value.int IntKind.i64 0)]).bind fun o => outK o (fun i s => ifN (i.beq 0)
 ((liveD (sl s 0) (D.ref 0 0)).bind fun z => ((atD (sl s 0) z).bind (takeD false 1)).bind fun z => callK (F_spec_caGood [z]) fun rs _u => (gate D.bad (sl rs 0) true (liveD (sl s 0) (D.ref 0 1))).bind fun z =>
 (gate (D.tup []) (sl rs 0) true ((atD (sl s 0) z).bind (takeD false 1))).bind fun z => (gate (D.tup []) (sl rs 0) true (lenD false z)).bind fun z => (gate (D.tup []) (sl rs 0) true
 (bin BinOp.leq false [] z (D.v (Value.int IntKind.i64 5)))).bind fun z => (pickD (sl rs 0) z (D.v (Value.bool false))).bind fun z => (gate D.bad z true (liveD (sl s 0) (D.ref 0 2))).bind fun z_2 =>
 (gate (D.tup []) z true (((atD (sl s 0) z_2).bind (takeD false 1)).bind chkV)).bind fun z_3 => gateC z true (callK (F_spec_l1In [z_3, D.v (Value.int IntKind.i64 0), D.v (Value.int IntKind.i64 9999)])
 fun rs _u => some (Out.nrm [sl rs 0])) [D.tup []] fun outs => (pickD z (sl outs 0) (D.v (Value.bool false))).bind fun z => (gate D.bad z true (liveD (sl s 0) (D.ref 0 3))).bind fun z_4 => (gate (D.tup []) z true
 (((atD (sl s 0) z_4).bind (takeD false 1)).bind chkV)).bind fun z_5 => (gate (D.tup []) z true (some (sl s 1))).bind fun z_6 => gateC z true (callK (F_spec_l1In [z_5, z_6, D.v (Value.int IntKind.i64 1000000)])
 fun rs _u => some (Out.nrm [sl rs 0])) [D.tup []] fun outs => (pickD z (sl outs 0) (D.v (Value.bool false))).bind fun z => some (Out.ret [z] [])) none) fun a b => some (Out.ret a b)) := by kernel_rfl
theorem t_spec_FormeText (x0 x1 : D) : F_spec_FormeText [x0, x1] =
  ((boxD 4 x0).bind fun y => (fldD true 4 0 y).bind fun z => callK (F_spec_shFind [z, x1]) fun rs _u => (fldD true 4 0 y).bind fun z => callK (F_spec_shGood [z]) fun rs_1 _u => (un UnOp.not (sl rs_1 0)).bind fun z =>
 (gate (D.tup []) z false (some (sl rs 0))).bind fun z_1 => (gate (D.tup []) z false (bin BinOp.lss false [] z_1 (D.v (Value.int IntKind.i64 0)))).bind fun z_2 => (pickD z (D.v (Value.bool true)) z_2).bind fun z =>
 ifD z (some (Out.ret [D.v (Value.string { data := { toList := [] } }), D.v (Value.bool false)] [])) ((liveD y (D.ref 0 1)).bind fun z => ((atD y z).bind (takeD false 1)).bind fun z =>
 (Option.map D.ptr (elemD 4 z (sl rs 0))).bind fun z => (offD 1 z).bind fun z => (ldD false 1 z).bind fun z => (lenD false z).bind fun z_3 => (loopC (fun s => (bin BinOp.lss false [] (sl s 3) (sl s 2)).bind fun z => ifD z
 ((Option.map D.ptr (elemD 1 (sl s 1) (sl s 3))).bind fun z => ((ldD false 1 z).bind chkV).bind fun z => (bin BinOp.add false [] (sl s 0) z).bind fun z => (bin BinOp.add false [] (sl s 3)
 (D.v (Value.int IntKind.i64 1))).bind fun z_4 => some (Out.nrm [z, sl s 1, sl s 2, z_4])) (some (Out.ext 0 [sl s 0]))) [D.v (Value.string { data := { toList := [] } }), z, z_3, D.v (Value.int IntKind.i64 0)]).bind
 fun o => outK o (fun i s => ifN (i.beq 0) (some (Out.ret [sl s 0, D.v (Value.bool true)] [])) none) fun a b => some (Out.ret a b))) := by kernel_rfl
theorem t_impl_Shop_formeAt (x0 x1 : D) : F_impl_Shop_formeAt [x0, x1] =
  ((boxD 4 x0).bind fun y => (loopC (fun s => (liveD (sl s 1) (D.ref 0 1)).bind fun z => ((atD (sl s 1) z).bind (takeD false 1)).bind fun z => (lenD false z).bind fun z => (bin BinOp.lss false [] (sl s 2) z).bind fun z =>
 (gate D.bad z true (liveD (sl s 1) (D.ref 0 1))).bind fun z_1 => (gate (D.tup []) z true ((atD (sl s 1) z_1).bind (takeD false 1))).bind fun z_2 => (gate (D.tup []) z true (some (sl s 2))).bind fun z_3 =>
 (gate (D.tup []) z true (Option.map D.ptr (elemD 4 z_2 z_3))).bind fun z_4 => (gate (D.tup []) z true (offD 0 z_4)).bind fun z_5 => (gate (D.tup []) z true ((ldD false 1 z_5).bind chkV)).bind fun z_6 =>
 (gate (D.tup []) z true (some (sl s 0))).bind fun z_7 => (gate (D.tup []) z true (bin BinOp.lss false [] z_6 z_7)).bind fun z_8 => (pickD z z_8 (D.v (Value.bool false))).bind fun z => ifD z
 ((bin BinOp.add false [] (sl s 2) (D.v (Value.int IntKind.i64 1))).bind fun z => some (Out.nrm [sl s 0, sl s 1, z])) (some (Out.ext 0 [sl s 0, sl s 1, sl s 2]))) [x1, y, D.v (Value.int IntKind.i64 0)]).bind fun o =>
 outK o (fun i s => ifN (i.beq 0) ((liveD (sl s 1) (D.ref 0 1)).bind fun z => ((atD (sl s 1) z).bind (takeD false 1)).bind fun z => (lenD false z).bind fun z => (bin BinOp.lss false [] (sl s 2) z).bind fun z =>
 (gate D.bad z true (liveD (sl s 1) (D.ref 0 1))).bind fun z_1 => (gate (D.tup []) z true ((atD (sl s 1) z_1).bind (takeD false 1))).bind fun z_2 => (gate (D.tup []) z true (some (sl s 2))).bind fun z_3 =>
 (gate (D.tup []) z true (Option.map D.ptr (elemD 4 z_2 z_3))).bind fun z_4 => (gate (D.tup []) z true (offD 0 z_4)).bind fun z_5 => (gate (D.tup []) z true ((ldD false 1 z_5).bind chkV)).bind fun z_6 =>
 (gate (D.tup []) z true (some (sl s 0))).bind fun z_7 => (gate (D.tup []) z true (bin BinOp.eql false [] z_6 z_7)).bind fun z_8 => (pickD z z_8 (D.v (Value.bool false))).bind fun z => some (Out.ret [sl s 2, z] [])) none)
 fun a b => some (Out.ret a b)) := by kernel_rfl
theorem t_impl_within (x0 x1 x2 : D) : F_impl_within [x0, x1, x2] =
  ((bin BinOp.geq false [] x0 x1).bind fun z => (gate (D.tup []) z true (some x0)).bind fun z_1 => (gate (D.tup []) z true (some x2)).bind fun z_2 => (gate (D.tup []) z true (bin BinOp.leq false [] z_1 z_2)).bind fun z_3 =>
 (pickD z z_3 (D.v (Value.bool false))).bind fun z => some (Out.ret [z] [])) := by kernel_rfl
theorem t_impl_isFormeId (x0 : D) : F_impl_isFormeId [x0] =
  (callK (F_impl_within [x0, D.v (Value.int IntKind.i64 1), D.v (Value.int IntKind.i64 99)]) fun rs _u => some (Out.ret [sl rs 0] [])) := by kernel_rfl
theorem t_impl_boxAt (x0 x1 : D) : F_impl_boxAt [x0, x1] =
  ((lenD false x0).bind fun z => (loopC (fun s => (bin BinOp.lss false [] (sl s 3) (sl s 2)).bind fun z => ifD z ((Option.map D.ptr (elemD 4 (sl s 1) (sl s 3))).bind fun z => ((ldD true 4 z).bind chkV).bind fun z => (stD 4
 (D.agg [D.v (Value.string { data := { toList := [] } }), D.v (Value.int IntKind.i64 0), D.v (Value.int IntKind.i64 0), D.v (Value.int IntKind.i64 0)]) (D.ref 0 0) z).bind fun b => (liveD b (D.ref 0 0)).bind fun z =>
 ((atD b z).bind (takeD false 1)).bind fun z => (bin BinOp.eql false [] z (sl s 0)).bind fun z => ifD z (some (Out.ret [sl s 3] [])) ((bin BinOp.add false [] (sl s 3) (D.v (Value.int IntKind.i64 1))).bind fun z =>
 some (Out.nrm [sl s 0, sl s 1, sl s 2, z]))) (some (Out.ext 0 []))) [x1, x0, z, D.v (Value.int IntKind.i64 0)]).bind fun o =>
 outK o (fun i _u => ifN (i.beq 0) (some (Out.ret [D.v (Value.int IntKind.i64 (-1))] [])) none) fun a b => some (Out.ret a b)) := by kernel_rfl
theorem t_impl_areLetters (x0 x1 x2 : D) : F_impl_areLetters [x0, x1, x2] =
  ((loopC (fun s => (lenD true (sl s 0)).bind fun z => (bin BinOp.lss false [] (sl s 3) z).bind fun z => ifD z ((charD (sl s 0) (sl s 3)).bind fun z => (bin BinOp.lss false [] z (D.v (Value.int IntKind.u8 97))).bind fun z =>
 (gate (D.tup []) z false (some (sl s 0))).bind fun z_1 => (gate (D.tup []) z false (some (sl s 3))).bind fun z_2 => (gate (D.tup []) z false (charD z_1 z_2)).bind fun z_3 =>
 (gate (D.tup []) z false (bin BinOp.gtr false [] z_3 (D.v (Value.int IntKind.u8 122)))).bind fun z_4 => (pickD z (D.v (Value.bool true)) z_4).bind fun z => ifD z (some (Out.ret [D.v (Value.bool false)] []))
 ((bin BinOp.add false [] (sl s 3) (D.v (Value.int IntKind.i64 1))).bind fun z => some (Out.nrm [sl s 0, sl s 1, sl s 2, z]))) (some (Out.ext 0 [sl s 0, sl s 1, sl s 2]))) [x0, x1, x2, D.v (Value.int IntKind.i64 0)]).bind
 fun o => outK o (fun i s => ifN (i.beq 0) ((lenD true (sl s 0)).bind fun z => callK (F_impl_within [z, sl s 1, sl s 2]) fun rs _u => some (Out.ret [sl rs 0] [])) none) fun a b => some (Out.ret a b)) := by kernel_rfl
theorem t_impl_isCode (x0 : D) : F_impl_isCode [x0] =
  (callK (F_impl_areLetters [x0, D.v (Value.int IntKind.i64 1), D.v (Value.int IntKind.i64 3)]) fun rs _u => some (Out.ret [sl rs 0] [])) := by kernel_rfl
theorem t_impl_isPlace (x0 : D) : F_impl_isPlace [x0] =
  (callK (F_impl_within [x0, D.v (Value.int IntKind.i64 0), D.v (Value.int IntKind.i64 9)]) fun rs _u => some (Out.ret [sl rs 0] [])) := by kernel_rfl
theorem t_impl_IsBox (x0 : D) : F_impl_IsBox [x0] =
  ((boxD 4 x0).bind fun y => (liveD y (D.ref 0 0)).bind fun z => ((atD y z).bind (takeD false 1)).bind fun z => callK (F_impl_isCode [z]) fun rs _u => (gate D.bad (sl rs 0) true (liveD y (D.ref 0 1))).bind fun z =>
 (gate (D.tup []) (sl rs 0) true ((atD y z).bind (takeD false 1))).bind fun z => gateC (sl rs 0) true (callK (F_impl_isPlace [z]) fun rs _u => some (Out.nrm [sl rs 0])) [D.tup []] fun outs =>
 (pickD (sl rs 0) (sl outs 0) (D.v (Value.bool false))).bind fun z => (gate D.bad z true (liveD y (D.ref 0 2))).bind fun z_1 => (gate (D.tup []) z true ((atD y z_1).bind (takeD false 1))).bind fun z_2 =>
 gateC z true (callK (F_impl_isPlace [z_2]) fun rs _u => some (Out.nrm [sl rs 0])) [D.tup []] fun outs => (pickD z (sl outs 0) (D.v (Value.bool false))).bind fun z =>
 (gate D.bad z true (liveD y (D.ref 0 3))).bind fun z_3 => (gate (D.tup []) z true ((atD y z_3).bind (takeD false 1))).bind fun z_4 => gateC z true (callK
 (F_impl_within [z_4, D.v (Value.int IntKind.i64 0), D.v (Value.int IntKind.i64 9999)]) fun rs _u => some (Out.nrm [sl rs 0])) [D.tup []] fun outs =>
 (pickD z (sl outs 0) (D.v (Value.bool false))).bind fun z => some (Out.ret [z] [])) := by kernel_rfl
theorem t_impl_isTaken (x0 x1 x2 : D) : F_impl_isTaken [x0, x1, x2] =
  ((lenD false x0).bind fun z => (loopC (fun s => (bin BinOp.lss false [] (sl s 4) (sl s 3)).bind fun z => ifD z ((Option.map D.ptr (elemD 4 (sl s 2) (sl s 4))).bind fun z => ((ldD true 4 z).bind chkV).bind fun z => (stD 4
 (D.agg [D.v (Value.string { data := { toList := [] } }), D.v (Value.int IntKind.i64 0), D.v (Value.int IntKind.i64 0), D.v (Value.int IntKind.i64 0)]) (D.ref 0 0) z).bind fun b => (liveD b (D.ref 0 1)).bind fun z =>
 ((atD b z).bind (takeD false 1)).bind fun z => (bin BinOp.eql false [] z (sl s 0)).bind fun z => (gate D.bad z true (liveD b (D.ref 0 2))).bind fun z_1 =>
 (gate (D.tup []) z true ((atD b z_1).bind (takeD false 1))).bind fun z_2 => (gate (D.tup []) z true (some (sl s 1))).bind fun z_3 => (gate (D.tup []) z true (bin BinOp.eql false [] z_2 z_3)).bind fun z_4 =>
 (pickD z z_4 (D.v (Value.bool false))).bind fun z => ifD z (some (Out.ret [D.v (Value.bool true)] [])) ((bin BinOp.add false [] (sl s 4) (D.v (Value.int IntKind.i64 1))).bind fun z =>
 some (Out.nrm [sl s 0, sl s 1, sl s 2, sl s 3, z]))) (some (Out.ext 0 []))) [x1, x2, x0, z, D.v (Value.int IntKind.i64 0)]).bind fun o =>
 outK o (fun i _u => ifN (i.beq 0) (some (Out.ret [D.v (Value.bool false)] [])) none) fun a b => some (Out.ret a b)) := by kernel_rfl
theorem t_impl_IsCase (x0 : D) : F_impl_IsCase [x0] =
  ((lenD false x0).bind fun z => (loopC (fun s => (bin BinOp.lss false [] (sl s 3) (sl s 2)).bind fun z => ifD z ((Option.map D.ptr (elemD 4 (sl s 1) (sl s 3))).bind fun z => ((ldD true 4 z).bind chkV).bind fun z => (stD 4
 (D.agg [D.v (Value.string { data := { toList := [] } }), D.v (Value.int IntKind.i64 0), D.v (Value.int IntKind.i64 0), D.v (Value.int IntKind.i64 0)]) (D.ref 0 0) z).bind fun b => (fldD true 4 0 b).bind fun z =>
 callK (F_impl_IsBox [z]) fun rs _u => (un UnOp.not (sl rs 0)).bind fun z => (gate (D.tup []) z false (some (sl s 3))).bind fun z_1 => (gate (D.tup []) z false
 (bin BinOp.gtr false [] z_1 (D.v (Value.int IntKind.i64 0)))).bind fun z_2 => (gate (D.tup []) z false (some z_2)).bind fun z_3 => (gate (D.tup []) z_3 true (some (sl s 0))).bind fun z_4 =>
 (gate (D.tup []) z_3 true (some (sl s 3))).bind fun z_5 => (gate (D.tup []) z_3 true (bin BinOp.sub false [] z_5 (D.v (Value.int IntKind.i64 1)))).bind fun z_6 =>
 (gate (D.tup []) z_3 true (Option.map D.ptr (elemD 4 z_4 z_6))).bind fun z_7 => (gate (D.tup []) z_3 true (offD 0 z_7)).bind fun z_8 => (gate (D.tup []) z_3 true ((ldD false 1 z_8).bind chkV)).bind fun z_9 =>
 (gate D.bad z_3 true (liveD b (D.ref 0 0))).bind fun z_10 => (gate (D.tup []) z_3 true ((atD b z_10).bind (takeD false 1))).bind fun z_11 => (gate (D.tup []) z_3 true (bin BinOp.geq false [] z_9 z_11)).bind fun z_12 =>
 (gate (D.tup []) z false (pickD z_3 z_12 (D.v (Value.bool false)))).bind fun z_13 => (pickD z (D.v (Value.bool true)) z_13).bind fun z => (gate (D.tup []) z false (some (sl s 0))).bind fun z_14 =>
 (gate (D.tup []) z false (some (sl s 3))).bind fun z_15 => (gate (D.tup []) z false (sliceD false 4 z_14 (D.v (Value.int IntKind.i64 0)) z_15)).bind fun z_16 => (gate D.bad z false (liveD b (D.ref 0 1))).bind fun z_17 =>
 (gate (D.tup []) z false ((atD b z_17).bind (takeD false 1))).bind fun z_18 => (gate D.bad z false (liveD b (D.ref 0 2))).bind fun z_19 => (gate (D.tup []) z false ((atD b z_19).bind (takeD false 1))).bind fun z_20 =>
 gateC z false (callK (F_impl_isTaken [z_16, z_18, z_20]) fun rs _u => some (Out.nrm [sl rs 0])) [D.tup []] fun outs => (pickD z (D.v (Value.bool true)) (sl outs 0)).bind fun z => ifD z
 (some (Out.ret [D.v (Value.bool false)] [])) ((bin BinOp.add false [] (sl s 3) (D.v (Value.int IntKind.i64 1))).bind fun z => some (Out.nrm [sl s 0, sl s 1, sl s 2, z]))) (some (Out.ext 0 [sl s 0])))
 [x0, x0, z, D.v (Value.int IntKind.i64 0)]).bind fun o => outK o (fun i s => ifN (i.beq 0) ((lenD false (sl s 0)).bind fun z =>
 callK (F_impl_within [z, D.v (Value.int IntKind.i64 1), D.v (Value.int IntKind.i64 32)]) fun rs _u => some (Out.ret [sl rs 0] [])) none) fun a b => some (Out.ret a b)) := by kernel_rfl
theorem t_impl_areCodes (x0 x1 : D) : F_impl_areCodes [x0, x1] =
  ((lenD false x1).bind fun z => (loopC (fun s => (bin BinOp.lss false [] (sl s 4) (sl s 3)).bind fun z => ifD z ((Option.map D.ptr (elemD 1 (sl s 2) (sl s 4))).bind fun z => ((ldD false 1 z).bind chkV).bind fun z =>
 callK (F_impl_boxAt [sl s 0, z]) fun rs _u => (bin BinOp.lss false [] (sl rs 0) (D.v (Value.int IntKind.i64 0))).bind fun z => ifD z (some (Out.ret [D.v (Value.bool false)] []))
 ((bin BinOp.add false [] (sl s 4) (D.v (Value.int IntKind.i64 1))).bind fun z => some (Out.nrm [sl s 0, sl s 1, sl s 2, sl s 3, z]))) (some (Out.ext 0 [sl s 0, sl s 1])))
 [x0, x1, x1, z, D.v (Value.int IntKind.i64 0)]).bind fun o => outK o (fun i s => ifN (i.beq 0) (callK (F_impl_IsCase [sl s 0]) fun rs _u => (gate (D.tup []) (sl rs 0) true (some (sl s 1))).bind fun z =>
 (gate (D.tup []) (sl rs 0) true (lenD false z)).bind fun z => (gate (D.tup []) (sl rs 0) true (bin BinOp.leq false [] z (D.v (Value.int IntKind.i64 60)))).bind
 fun z => (pickD (sl rs 0) z (D.v (Value.bool false))).bind fun z => some (Out.ret [z] [])) none) fun a b => some (Out.ret a b)) := by kernel_rfl
theorem t_impl_isForme (x0 x1 : D) : F_impl_isForme [x0, x1] =
  ((boxD 4 x1).bind fun y => (liveD y (D.ref 0 0)).bind fun z => (((atD y z).bind (takeD false 1)).bind chkV).bind fun z => callK (F_impl_isFormeId [z]) fun rs _u => (gate (D.tup []) (sl rs 0) true (some x0)).bind fun z =>
 (gate D.bad (sl rs 0) true (liveD y (D.ref 0 1))).bind fun z_1 => (gate (D.tup []) (sl rs 0) true ((atD y z_1).bind (takeD false 1))).bind fun z_2 =>
 gateC (sl rs 0) true (callK (F_impl_areCodes [z, z_2]) fun rs _u => some (Out.nrm [sl rs 0])) [D.tup []] fun outs => (pickD (sl rs 0) (sl outs 0) (D.v (Value.bool false))).bind fun z =>
 (gate D.bad z true (liveD y (D.ref 0 1))).bind fun z_3 => (gate (D.tup []) z true ((atD y z_3).bind (takeD false 1))).bind fun z_4 => (gate (D.tup []) z true (lenD false z_4)).bind fun z_5 =>
 (gate (D.tup []) z true (bin BinOp.leq false [] z_5 (D.v (Value.int IntKind.i64 40)))).bind fun z_6 => (pickD z z_6 (D.v (Value.bool false))).bind fun z => (gate D.bad z true (liveD y (D.ref 0 3))).bind fun z_7 =>
 (gate (D.tup []) z true (((atD y z_7).bind (takeD false 1)).bind chkV)).bind fun z_8 => gateC z true (callK (F_impl_within [z_8, D.v (Value.int IntKind.i64 0), D.v (Value.int IntKind.i64 100000)])
 fun rs _u => some (Out.nrm [sl rs 0])) [D.tup []] fun outs => (pickD z (sl outs 0) (D.v (Value.bool false))).bind fun z => (gate D.bad z true (liveD y (D.ref 0 2))).bind fun z_9 =>
 (gate (D.tup []) z true (((atD y z_9).bind (takeD false 1)).bind chkV)).bind fun z_10 => (gate (D.tup []) z true (un UnOp.not z_10)).bind fun z_11 => (gate (D.tup []) z true (some z_11)).bind fun z_12 =>
 (gate D.bad z_12 false (liveD y (D.ref 0 1))).bind fun z_13 => (gate (D.tup []) z_12 false ((atD y z_13).bind (takeD false 1))).bind fun z_14 => (gate (D.tup []) z_12 false (lenD false z_14)).bind fun z_15 =>
 (gate (D.tup []) z_12 false (bin BinOp.gtr false [] z_15 (D.v (Value.int IntKind.i64 0)))).bind fun z_16 => (gate (D.tup []) z true (pickD z_12 (D.v (Value.bool true)) z_16)).bind fun z_17 =>
 (pickD z z_17 (D.v (Value.bool false))).bind fun z => some (Out.ret [z] [])) := by kernel_rfl
theorem t_impl_IsShop (x0 : D) : F_impl_IsShop [x0] =
  ((boxD 4 x0).bind fun y => (liveD y (D.ref 0 1)).bind fun z => ((atD y z).bind (takeD false 1)).bind fun z => (lenD false z).bind fun z_1 => (loopC (fun s => (bin BinOp.lss false [] (sl s 4) (sl s 3)).bind fun z => ifD z
 ((Option.map D.ptr (elemD 4 (sl s 2) (sl s 4))).bind fun z => (ldD true 4 z).bind fun z => (stD 4 (D.agg [D.v (Value.int IntKind.i64 0), D.arr 1 [], D.v (Value.bool false), D.v (Value.int IntKind.i64 0)])
 (D.ref 0 0) z).bind fun b => (liveD (sl s 0) (D.ref 0 0)).bind fun z => ((atD (sl s 0) z).bind (takeD false 1)).bind fun z => (fldD true 4 0 b).bind fun z_2 => callK (F_impl_isForme [z, z_2]) fun rs _u =>
 (un UnOp.not (sl rs 0)).bind fun z => (gate (D.tup []) z false (some (sl s 4))).bind fun z_3 => (gate (D.tup []) z false (bin BinOp.gtr false [] z_3 (D.v (Value.int IntKind.i64 0)))).bind fun z_4 =>
 (gate (D.tup []) z false (some z_4)).bind fun z_5 => (gate D.bad z_5 true (liveD (sl s 0) (D.ref 0 1))).bind fun z_6 => (gate (D.tup []) z_5 true ((atD (sl s 0) z_6).bind (takeD false 1))).bind fun z_7 =>
 (gate (D.tup []) z_5 true (some (sl s 4))).bind fun z_8 => (gate (D.tup []) z_5 true (bin BinOp.sub false [] z_8 (D.v (Value.int IntKind.i64 1)))).bind fun z_9 =>
 (gate (D.tup []) z_5 true (Option.map D.ptr (elemD 4 z_7 z_9))).bind fun z_10 => (gate (D.tup []) z_5 true (offD 0 z_10)).bind fun z_11 => (gate (D.tup []) z_5 true ((ldD false 1 z_11).bind chkV)).bind fun z_12 =>
 (gate D.bad z_5 true (liveD b (D.ref 0 0))).bind fun z_13 => (gate (D.tup []) z_5 true (((atD b z_13).bind (takeD false 1)).bind chkV)).bind fun z_14 => (gate (D.tup []) z_5 true (bin BinOp.geq false [] z_12 z_14)).bind
 fun z_15 => (gate (D.tup []) z false (pickD z_5 z_15 (D.v (Value.bool false)))).bind fun z_16 => (pickD z (D.v (Value.bool true)) z_16).bind fun z => ifD z (some (Out.ret [D.v (Value.bool false)] []))
 ((liveD b (D.ref 0 3)).bind fun z => (((atD b z).bind (takeD false 1)).bind chkV).bind fun z => (bin BinOp.add false [] (sl s 1) z).bind fun z => (bin BinOp.add false [] (sl s 4) (D.v (Value.int IntKind.i64 1))).bind
 fun z_17 => some (Out.nrm [sl s 0, z, sl s 2, sl s 3, z_17]))) (some (Out.ext 0 [sl s 0, sl s 1]))) [y, D.v (Value.int IntKind.i64 0), z, z_1, D.v (Value.int IntKind.i64 0)]).bind fun o => outK o (fun i s => ifN (i.beq 0)
 ((liveD (sl s 0) (D.ref 0 0)).bind fun z => ((atD (sl s 0) z).bind (takeD false 1)).bind fun z => callK (F_impl_IsCase [z]) fun rs _u => (gate D.bad (sl rs 0) true (liveD (sl s 0) (D.ref 0 1))).bind fun z =>
 (gate (D.tup []) (sl rs 0) true ((atD (sl s 0) z).bind (takeD false 1))).bind fun z => (gate (D.tup []) (sl rs 0) true (lenD false z)).bind fun z => (gate (D.tup []) (sl rs 0) true
 (bin BinOp.leq false [] z (D.v (Value.int IntKind.i64 5)))).bind fun z => (pickD (sl rs 0) z (D.v (Value.bool false))).bind fun z => (gate D.bad z true (liveD (sl s 0) (D.ref 0 2))).bind fun z_2 =>
 (gate (D.tup []) z true (((atD (sl s 0) z_2).bind (takeD false 1)).bind chkV)).bind fun z_3 => gateC z true (callK (F_impl_within [z_3, D.v (Value.int IntKind.i64 0), D.v (Value.int IntKind.i64 9999)])
 fun rs _u => some (Out.nrm [sl rs 0])) [D.tup []] fun outs => (pickD z (sl outs 0) (D.v (Value.bool false))).bind fun z => (gate D.bad z true (liveD (sl s 0) (D.ref 0 3))).bind fun z_4 => (gate (D.tup []) z true
 (((atD (sl s 0) z_4).bind (takeD false 1)).bind chkV)).bind fun z_5 => gateC z true (callK (F_impl_within [z_5, D.v (Value.int IntKind.i64 0), D.v (Value.int IntKind.i64 1000000)]) fun rs _u => some (Out.nrm [sl rs 0]))
 [D.tup []] fun outs => (pickD z (sl outs 0) (D.v (Value.bool false))).bind fun z => (gate D.bad z true (liveD (sl s 0) (D.ref 0 3))).bind fun z_6 => (gate (D.tup []) z true
 (((atD (sl s 0) z_6).bind (takeD false 1)).bind chkV)).bind fun z_7 => (gate (D.tup []) z true (some (sl s 1))).bind fun z_8 => (gate (D.tup []) z true (bin BinOp.geq false [] z_7 z_8)).bind fun z_9 =>
 (pickD z z_9 (D.v (Value.bool false))).bind fun z => some (Out.ret [z] [])) none) fun a b => some (Out.ret a b)) := by kernel_rfl
theorem t_impl_FormeText (x0 x1 : D) : F_impl_FormeText [x0, x1] =
  ((boxD 4 x0).bind fun y => (fldD true 4 0 y).bind fun z => callK (F_impl_Shop_formeAt [z, x1]) fun rs _u => (tupAt (D.tup rs) 0).bind fun z => (tupAt (D.tup rs) 1).bind fun z_1 => (fldD true 4 0 y).bind fun z_2 =>
 callK (F_impl_IsShop [z_2]) fun rs _u => (un UnOp.not (sl rs 0)).bind fun z_3 => (gate (D.tup []) z_3 false (some z_1)).bind fun z_4 => (gate (D.tup []) z_3 false (un UnOp.not z_4)).bind fun z_5 =>
 (pickD z_3 (D.v (Value.bool true)) z_5).bind fun z_6 => ifD z_6 (some (Out.ret [D.v (Value.string { data := { toList := [] } }), D.v (Value.bool false)] [])) ((liveD y (D.ref 0 1)).bind fun z_7 =>
 ((atD y z_7).bind (takeD false 1)).bind fun z_8 => (Option.map D.ptr (elemD 4 z_8 z)).bind fun z => (offD 1 z).bind fun z => (ldD false 1 z).bind fun z =>
 callK (fJoin [z, D.v (Value.string { data := { toList := [] } })]) fun rs _u => some (Out.ret [sl rs 0, D.v (Value.bool true)] []))) := by kernel_rfl
theorem t_laws_eqBox (x0 x1 : D) : F_laws_eqBox [x0, x1] =
  ((boxD 4 x0).bind fun y => (boxD 4 x1).bind fun y_1 => (liveD y (D.ref 0 0)).bind fun z => ((atD y z).bind (takeD false 1)).bind fun z => (liveD y_1 (D.ref 0 0)).bind fun z_1 =>
 ((atD y_1 z_1).bind (takeD false 1)).bind fun z_2 => (bin BinOp.neq false [] z z_2).bind fun z => ifD z (some (Out.ret [D.v (Value.bool false)] [])) ((liveD y (D.ref 0 1)).bind fun z =>
 ((atD y z).bind (takeD false 1)).bind fun z => (liveD y_1 (D.ref 0 1)).bind fun z_3 => ((atD y_1 z_3).bind (takeD false 1)).bind fun z_4 => (bin BinOp.neq false [] z z_4).bind fun z =>
 ifD z (some (Out.ret [D.v (Value.bool false)] [])) ((liveD y (D.ref 0 2)).bind fun z => ((atD y z).bind (takeD false 1)).bind fun z => (liveD y_1 (D.ref 0 2)).bind fun z_5 =>
 ((atD y_1 z_5).bind (takeD false 1)).bind fun z_6 => (bin BinOp.neq false [] z z_6).bind fun z => ifD z (some (Out.ret [D.v (Value.bool false)] [])) ((liveD y (D.ref 0 3)).bind fun z =>
 ((atD y z).bind (takeD false 1)).bind fun z => (liveD y_1 (D.ref 0 3)).bind fun z_7 => ((atD y_1 z_7).bind (takeD false 1)).bind fun z_8 => (bin BinOp.neq false [] z z_8).bind fun z =>
 ifD z (some (Out.ret [D.v (Value.bool false)] [])) (some (Out.ret [D.v (Value.bool true)] [])))))) := by kernel_rfl
theorem t_laws_eqBoxS (x0 x1 : D) : F_laws_eqBoxS [x0, x1] =
  ((lenD false x0).bind fun z => (lenD false x1).bind fun z_1 => (bin BinOp.neq false [] z z_1).bind fun z => ifD z (some (Out.ret [D.v (Value.bool false)] [])) ((loopC (fun s => (lenD false (sl s 0)).bind fun z =>
 (bin BinOp.lss false [] (sl s 2) z).bind fun z => ifD z ((Option.map D.ptr (elemD 4 (sl s 0) (sl s 2))).bind fun z => ((ldD true 4 z).bind chkV).bind fun z => (Option.map D.ptr (elemD 4 (sl s 1) (sl s 2))).bind fun z_2 =>
 ((ldD true 4 z_2).bind chkV).bind fun z_3 => callK (F_laws_eqBox [z, z_3]) fun rs _u => (un UnOp.not (sl rs 0)).bind fun z => ifD z (some (Out.ret [D.v (Value.bool false)] []))
 ((bin BinOp.add false [] (sl s 2) (D.v (Value.int IntKind.i64 1))).bind fun z => some (Out.nrm [sl s 0, sl s 1, z]))) (some (Out.ext 0 []))) [x0, x1, D.v (Value.int IntKind.i64 0)]).bind fun o =>
 outK o (fun i _u => ifN (i.beq 0) (some (Out.ret [D.v (Value.bool true)] [])) none) fun a b => some (Out.ret a b))) := by kernel_rfl
theorem t_laws_eqStringS (x0 x1 : D) : F_laws_eqStringS [x0, x1] =
  ((lenD false x0).bind fun z => (lenD false x1).bind fun z_1 => (bin BinOp.neq false [] z z_1).bind fun z => ifD z (some (Out.ret [D.v (Value.bool false)] [])) ((loopC (fun s => (lenD false (sl s 0)).bind fun z =>
 (bin BinOp.lss false [] (sl s 2) z).bind fun z => ifD z ((Option.map D.ptr (elemD 1 (sl s 0) (sl s 2))).bind fun z => ((ldD false 1 z).bind chkV).bind fun z =>
 (Option.map D.ptr (elemD 1 (sl s 1) (sl s 2))).bind fun z_2 => ((ldD false 1 z_2).bind chkV).bind fun z_3 => (bin BinOp.neq false [] z z_3).bind fun z => ifD z (some (Out.ret [D.v (Value.bool false)] []))
 ((bin BinOp.add false [] (sl s 2) (D.v (Value.int IntKind.i64 1))).bind fun z => some (Out.nrm [sl s 0, sl s 1, z]))) (some (Out.ext 0 []))) [x0, x1, D.v (Value.int IntKind.i64 0)]).bind fun o =>
 outK o (fun i _u => ifN (i.beq 0) (some (Out.ret [D.v (Value.bool true)] [])) none) fun a b => some (Out.ret a b))) := by kernel_rfl
theorem t_laws_eqForme (x0 x1 : D) : F_laws_eqForme [x0, x1] =
  ((boxD 4 x0).bind fun y => (boxD 4 x1).bind fun y_1 => (liveD y (D.ref 0 0)).bind fun z => (((atD y z).bind (takeD false 1)).bind chkV).bind fun z => (liveD y_1 (D.ref 0 0)).bind fun z_1 =>
 (((atD y_1 z_1).bind (takeD false 1)).bind chkV).bind fun z_2 => (bin BinOp.neq false [] z z_2).bind fun z => ifD z (some (Out.ret [D.v (Value.bool false)] [])) ((liveD y (D.ref 0 1)).bind fun z =>
 ((atD y z).bind (takeD false 1)).bind fun z => (liveD y_1 (D.ref 0 1)).bind fun z_3 => ((atD y_1 z_3).bind (takeD false 1)).bind fun z_4 => callK (F_laws_eqStringS [z, z_4]) fun rs _u =>
 (un UnOp.not (sl rs 0)).bind fun z => ifD z (some (Out.ret [D.v (Value.bool false)] [])) ((liveD y (D.ref 0 2)).bind fun z => (((atD y z).bind (takeD false 1)).bind chkV).bind fun z =>
 (liveD y_1 (D.ref 0 2)).bind fun z_5 => (((atD y_1 z_5).bind (takeD false 1)).bind chkV).bind fun z_6 => (bin BinOp.neq true [] z z_6).bind fun z => ifD z (some (Out.ret [D.v (Value.bool false)] []))
 ((liveD y (D.ref 0 3)).bind fun z => (((atD y z).bind (takeD false 1)).bind chkV).bind fun z => (liveD y_1 (D.ref 0 3)).bind fun z_7 => (((atD y_1 z_7).bind (takeD false 1)).bind chkV).bind fun z_8 =>
 (bin BinOp.neq false [] z z_8).bind fun z => ifD z (some (Out.ret [D.v (Value.bool false)] [])) (some (Out.ret [D.v (Value.bool true)] [])))))) := by kernel_rfl
theorem t_laws_eqFormeS (x0 x1 : D) : F_laws_eqFormeS [x0, x1] =
  ((lenD false x0).bind fun z => (lenD false x1).bind fun z_1 => (bin BinOp.neq false [] z z_1).bind fun z => ifD z (some (Out.ret [D.v (Value.bool false)] [])) ((loopC (fun s => (lenD false (sl s 0)).bind fun z =>
 (bin BinOp.lss false [] (sl s 2) z).bind fun z => ifD z ((Option.map D.ptr (elemD 4 (sl s 0) (sl s 2))).bind fun z => (ldD true 4 z).bind fun z => (Option.map D.ptr (elemD 4 (sl s 1) (sl s 2))).bind fun z_2 =>
 (ldD true 4 z_2).bind fun z_3 => callK (F_laws_eqForme [z, z_3]) fun rs _u => (un UnOp.not (sl rs 0)).bind fun z => ifD z (some (Out.ret [D.v (Value.bool false)] []))
 ((bin BinOp.add false [] (sl s 2) (D.v (Value.int IntKind.i64 1))).bind fun z => some (Out.nrm [sl s 0, sl s 1, z]))) (some (Out.ext 0 []))) [x0, x1, D.v (Value.int IntKind.i64 0)]).bind fun o =>
 outK o (fun i _u => ifN (i.beq 0) (some (Out.ret [D.v (Value.bool true)] [])) none) fun a b => some (Out.ret a b))) := by kernel_rfl
theorem t_laws_eqShop (x0 x1 : D) : F_laws_eqShop [x0, x1] =
  ((boxD 4 x0).bind fun y => (boxD 4 x1).bind fun y_1 => (liveD y (D.ref 0 0)).bind fun z => ((atD y z).bind (takeD false 1)).bind fun z => (liveD y_1 (D.ref 0 0)).bind fun z_1 =>
 ((atD y_1 z_1).bind (takeD false 1)).bind fun z_2 => callK (F_laws_eqBoxS [z, z_2]) fun rs _u => (un UnOp.not (sl rs 0)).bind fun z => ifD z (some (Out.ret [D.v (Value.bool false)] []))
 ((liveD y (D.ref 0 1)).bind fun z => ((atD y z).bind (takeD false 1)).bind fun z => (liveD y_1 (D.ref 0 1)).bind fun z_3 => ((atD y_1 z_3).bind (takeD false 1)).bind fun z_4 =>
 callK (F_laws_eqFormeS [z, z_4]) fun rs _u => (un UnOp.not (sl rs 0)).bind fun z => ifD z (some (Out.ret [D.v (Value.bool false)] [])) ((liveD y (D.ref 0 2)).bind fun z =>
 (((atD y z).bind (takeD false 1)).bind chkV).bind fun z => (liveD y_1 (D.ref 0 2)).bind fun z_5 => (((atD y_1 z_5).bind (takeD false 1)).bind chkV).bind fun z_6 => (bin BinOp.neq false [] z z_6).bind fun z =>
 ifD z (some (Out.ret [D.v (Value.bool false)] [])) ((liveD y (D.ref 0 3)).bind fun z => (((atD y z).bind (takeD false 1)).bind chkV).bind fun z => (liveD y_1 (D.ref 0 3)).bind fun z_7 =>
 (((atD y_1 z_7).bind (takeD false 1)).bind chkV).bind fun z_8 => (bin BinOp.neq false [] z z_8).bind fun z => ifD z (some (Out.ret [D.v (Value.bool false)] [])) (some (Out.ret [D.v (Value.bool true)] [])))))) := by kernel_rfl
theorem t_laws_FnExactFormeText (x0 x1 : D) : F_laws_FnExactFormeText [x0, x1] =
  ((boxD 4 x0).bind fun y => (fldD true 4 0 y).bind fun z => callK (F_laws_szShop [z, D.v (Value.int IntKind.i64 1048576)]) fun rs _u => (bin BinOp.lss false [] (sl rs 0) (D.v (Value.int IntKind.i64 0))).bind fun z =>
 ifD z (some (Out.ret [D.v (Value.bool true)] [])) ((fldD true 4 0 y).bind fun z => callK (F_laws_toShop [z]) fun rs _u => callK (F_spec_FormeText [sl rs 0, x1]) fun rs _u => (tupAt (D.tup rs) 0).bind fun z =>
 (tupAt (D.tup rs) 1).bind fun z_1 => (fldD true 4 0 y).bind fun z_2 => callK (F_laws_toShop [z_2]) fun rs _u => (stD 4 (D.agg [D.arr 4 [], D.arr 4 [], D.v (Value.int IntKind.i64 0), D.v (Value.int IntKind.i64 0)])
 (D.ref 0 0) (sl rs 0)).bind fun b => (fldD true 4 0 b).bind fun z_3 => callK (F_impl_FormeText [z_3, x1]) fun rs _u => (tupAt (D.tup rs) 0).bind fun z_4 => (tupAt (D.tup rs) 1).bind fun z_5 =>
 (bin BinOp.neq false [] z_4 z).bind fun z => (gate (D.tup []) z false (some z_5)).bind fun z_6 => (gate (D.tup []) z false (some z_1)).bind fun z_7 =>
 (gate (D.tup []) z false (bin BinOp.neq true [] z_6 z_7)).bind fun z_8 => (pickD z (D.v (Value.bool true)) z_8).bind fun z => ifD z (some (Out.ret [D.v (Value.bool false)] [])) ((fldD true 4 0 b).bind fun z =>
 (fldD true 4 0 y).bind fun z_9 => callK (F_laws_toShop [z_9]) fun rs _u => callK (F_laws_eqShop [z, sl rs 0]) fun rs _u => (un UnOp.not (sl rs 0)).bind fun z => ifD z (some (Out.ret [D.v (Value.bool false)] []))
 (some (Out.ret [D.v (Value.bool true)] []))))) := by kernel_rfl
end Go.Proofs.Ytfjkapnonljdeaa
/-
  Numbers within bounds.
-/
namespace Go.Proofs.Ytfjkapnonljdeaa
open Go Go.V

theorem e_spec_l1In (a b c : Int) : F_spec_l1In [I a, I b, I c] = some (.ret [B (decide (b ≤ a ∧ a ≤ c))] []) := by
  rw [t_spec_l1In]
  by_cases h : b ≤ a <;> simp [h]
theorem e_impl_within (a b c : Int) : F_impl_within [I a, I b, I c] = some (.ret [B (decide (b ≤ a ∧ a ≤ c))] []) := by
  rw [t_impl_within]
  by_cases h : b ≤ a <;> simp [h]
end Go.Proofs.Ytfjkapnonljdeaa
/-
  More laws of loops; letters; cases.
-/
namespace Go.Proofs.Ytfjkapnonljdeaa
open Go Go.V
set_option linter.unusedSimpArgs false

/-- The first place where something holds. -/
def findI {β : Type} (p : β → Bool) : Nat → List β → Option Nat
  | _, [] => none
  | i, x :: l => if p x = true then some i else findI p (i + 1) l
theorem loop_find {β : Type} {body : List D → Option Out} (l : List β) (st : Nat → List D) (p : β → Bool) (o1 : Nat → Out) (o2 : Out) (hs : ∀ (i : Nat) (hi : i < l.length), body (st i) = some (if p l[i] = true then o1 i else .nrm (st (i + 1)))) (he : body (st l.length) = some o2)
    (h1 : ∀ i, (o1 i).ends = true) (h2 : o2.ends = true) {s0 : List D} (h : s0 = st 0) : loopC body s0 = some ((findI p 0 l).elim o2 o1) := by
  have e : ∀ (m : List β) (i : Nat), goL (fun i x (_ : Unit) => if p x = true then .inr (o1 i) else .inl ()) (fun _ => o2) i m () = (findI p i m).elim o2 o1 := by
    intro m
    induction m with
    | nil => intro i; simp [goL, findI]
    | cons x m ih =>
      intro i
      simp only [goL, findI]
      by_cases hp : p x = true
      · simp [hp]
      · simp [hp, ih]
  rw [← e]
  refine loop_list l (fun i _ => st i) (fun _ _ => True) _ _ (fun i x a hx _ => ?_) (fun _ _ => ⟨he, h2⟩) () trivial h
  have hi : i < l.length := (List.getElem?_eq_some_iff.1 hx).1
  have hxe : l[i] = x := (List.getElem?_eq_some_iff.1 hx).2
  have := hs i hi
  rw [hxe] at this
  by_cases hp : p x = true
  · simpa [hp, h1] using this
  · simpa [hp] using this
/-- All is well, and something is gathered. -/
theorem loop_allf {α β : Type} {body : List D → Option Out} (l : List β) (st : Nat → α → List D) (Inv : Nat → α → Prop) (p : Nat → β → Bool) (f : α → β → α) (o1 : Out) (fin : α → Out) (a : α) (hs : ∀ (i : Nat) (a : α) (hi : i < l.length), Inv i a → body (st i a) = some (if p i l[i] = true then .nrm (st (i + 1) (f a l[i])) else o1) ∧ (p i l[i] = true → Inv (i + 1) (f a l[i])))
    (he : ∀ a, Inv l.length a → body (st l.length a) = some (fin a)) (h1 : o1.ends = true) (h2 : ∀ a, (fin a).ends = true) (h0 : Inv 0 a) {s0 : List D} (h : s0 = st 0 a) : loopC body s0 = some (if allI p 0 l = true then fin (l.foldl f a) else o1) := by
  have e : ∀ (m : List β) (i : Nat) (a : α), goL (fun i x (a : α) => if p i x = true then .inl (f a x) else .inr o1) fin i m a = if allI p i m = true then fin (m.foldl f a) else o1 := by
    intro m
    induction m with
    | nil => intro i a; simp [goL, allI]
    | cons x m ih =>
      intro i a
      simp only [goL, allI, List.foldl_cons]
      by_cases hp : p i x = true
      · simp [hp, ih]
      · simp [hp]
  rw [← e]
  refine loop_list l st Inv _ _ (fun i x a hx hI => ?_) (fun a hI => ⟨he a hI, h2 a⟩) a h0 h
  have hi : i < l.length := (List.getElem?_eq_some_iff.1 hx).1
  have hxe : l[i] = x := (List.getElem?_eq_some_iff.1 hx).2
  have := hs i a hi hI
  rw [hxe] at this
  by_cases hp : p i x = true
  · simpa [hp] using this
  · simpa [hp, h1] using this
/-- What is left of a size. -/
theorem sz_loop {β : Type} {body : List D → Option Out} {K : Out → Option Out} {R : Option Out → Prop} (l : List β) (st : Nat → Int → List D) (P : β → Prop)
    (hs : ∀ (i : Nat) (hi : i < l.length) (m : Int), 0 ≤ m → m ≤ 1048576 → body (st i m) = some (.ret [I (-1)] []) ∨ ∃ m', body (st i m) = some (.nrm (st (i + 1) m')) ∧ 0 ≤ m' ∧ m' ≤ m ∧ P l[i])
    (he : ∀ m, body (st l.length m) = some (.ext 0 [I m])) (m0 : Int) (h0 : 0 ≤ m0) (h1 : m0 ≤ 1048576) {s0 : List D} (h : s0 = st 0 m0)
    (hk1 : R (K (.ret [I (-1)] []))) (hk2 : ∀ m, 0 ≤ m → m ≤ m0 → (∀ x ∈ l, P x) → R (K (.ext 0 [I m]))) : R ((loopC body s0).bind K) := by
  have key : ∀ (n i : Nat) (m : Int), i + n = l.length → 0 ≤ m → m ≤ m0 → (∀ (j : Nat) (hj : j < l.length), j < i → P l[j]) → ∃ o, Runs body (st i m) o ∧ (o = .ret [I (-1)] [] ∨ ∃ m', o = .ext 0 [I m'] ∧ 0 ≤ m' ∧ m' ≤ m0 ∧ ∀ x ∈ l, P x) := by
    intro n
    induction n with
    | zero =>
      intro i m hi g0 g1 hP
      have : i = l.length := by omega
      subst this
      refine ⟨_, Runs.one (he m) rfl, .inr ⟨m, rfl, g0, g1, fun x hx => ?_⟩⟩
      obtain ⟨j, hj, rfl⟩ := List.mem_iff_getElem.1 hx
      exact hP j hj hj
    | succ n ih =>
      intro i m hi g0 g1 hP
      have hlt : i < l.length := by omega
      rcases hs i hlt m g0 (by omega) with e | ⟨m', e, k0, k1, kP⟩
      · exact ⟨_, Runs.one e rfl, .inl rfl⟩
      · obtain ⟨o, r1, r2⟩ := ih (i + 1) m' (by omega) k0 (by omega) (fun j hj hji => by
          rcases Nat.lt_or_ge j i with h | h
          · exact hP j hj h
          · have : j = i := by omega
            subst this
            exact kP)
        exact ⟨o, .nrm e r1, r2⟩
  obtain ⟨o, r1, r2⟩ := key l.length 0 m0 (by omega) h0 (Int.le_refl _) (fun _ _ h => absurd h (by omega))
  rw [h, r1.loop]
  rcases r2 with rfl | ⟨m, rfl, g0, g1, gP⟩
  · exact hk1
  · exact hk2 m g0 g1 gP

def chars (s : ByteArray) : List UInt8 := s.data.toList
theorem charD_nat {s : ByteArray} {k : IntKind} {i : Nat} : charD (T s) (.v (.int k (i : Int))) = ((chars s)[i]?).map fun b => U b.toNat := by simp [charD, chars]
theorem size_list (s : ByteArray) : s.size = (chars s).length := rfl
theorem bin_geqS {a b : ByteArray} {bl : Bool} {eq : List Nat} : bin .geq bl eq (T a) (T b) = some (B (!Op.bytesLess a.toList b.toList)) := by simp [bin, strBin]

/-! ### letters -/
def az (b : UInt8) : Bool := decide (97 ≤ (b.toNat : Int)) && decide ((b.toNat : Int) ≤ 122)
def letters (s : ByteArray) (lo hi : Int) : Bool := allI (fun _ b => az b) 0 (chars s) && decide (lo ≤ (s.size : Int) ∧ (s.size : Int) ≤ hi)
theorem e_spec_tyLetters (s : ByteArray) (n : Int) (h : s.size ≤ 9223372036854775807) : F_spec_tyLetters [T s, I n] = some (.ret [B (letters s 1 n)] []) := by
  rw [t_spec_tyLetters]
  rw [size_list] at h
  refine loop_bind _ (loop_all (chars s) (fun i => [T s, I n, I i]) (fun _ b => az b) (.ret [B false] []) (.ext 0 [T s, I n]) (fun i hi => ?_) ?_ rfl rfl rfl) ?_
  · have hw : IntKind.i64.wrap ((i : Int) + 1) = (i : Int) + 1 := wrap_id (by omega) (by omega)
    by_cases h1 : 97 ≤ (((chars s)[i]).toNat : Int)
    · by_cases h2 : (((chars s)[i]).toNat : Int) ≤ 122
      · simp -implicitDefEqProofs [size_list, charD_nat, hi, hw, az, h1, h2, Int.not_lt.2 h1, Int.not_lt.2 h2]
      · simp -implicitDefEqProofs [size_list, charD_nat, hi, hw, az, h1, h2, Int.not_lt.2 h1, Int.not_le.1 h2]
    · simp -implicitDefEqProofs [size_list, charD_nat, hi, hw, az, h1, Int.not_le.1 h1]
  · simp -implicitDefEqProofs [size_list]
  · by_cases hg : allI (fun _ b => az b) 0 (chars s) = true <;> simp -implicitDefEqProofs [hg, letters, e_spec_l1In]
theorem e_impl_areLetters (s : ByteArray) (m n : Int) (h : s.size ≤ 9223372036854775807) : F_impl_areLetters [T s, I m, I n] = some (.ret [B (letters s m n)] []) := by
  rw [t_impl_areLetters]
  rw [size_list] at h
  refine loop_bind _ (loop_all (chars s) (fun i => [T s, I m, I n, I i]) (fun _ b => az b) (.ret [B false] []) (.ext 0 [T s, I m, I n]) (fun i hi => ?_) ?_ rfl rfl rfl) ?_
  · have hw : IntKind.i64.wrap ((i : Int) + 1) = (i : Int) + 1 := wrap_id (by omega) (by omega)
    by_cases h1 : 97 ≤ (((chars s)[i]).toNat : Int)
    · by_cases h2 : (((chars s)[i]).toNat : Int) ≤ 122
      · simp -implicitDefEqProofs [size_list, charD_nat, hi, hw, az, h1, h2, Int.not_lt.2 h1, Int.not_lt.2 h2]
      · simp -implicitDefEqProofs [size_list, charD_nat, hi, hw, az, h1, h2, Int.not_lt.2 h1, Int.not_le.1 h2]
    · simp -implicitDefEqProofs [size_list, charD_nat, hi, hw, az, h1, Int.not_le.1 h1]
  · simp -implicitDefEqProofs [size_list]
  · by_cases hg : allI (fun _ b => az b) 0 (chars s) = true <;> simp -implicitDefEqProofs [hg, letters, e_impl_within]
theorem e_impl_isCode (s : ByteArray) (h : s.size ≤ 9223372036854775807) : F_impl_isCode [T s] = some (.ret [B (letters s 1 3)] []) := by
  rw [t_impl_isCode]
  simp [e_impl_areLetters s 1 3 h]
theorem e_impl_isPlace (n : Int) : F_impl_isPlace [I n] = some (.ret [B (decide (0 ≤ n ∧ n ≤ 9))] []) := by
  rw [t_impl_isPlace]
  simp [e_impl_within]

/-! ### cases -/
abbrev Bx := ByteArray × Int × Int × Int
abbrev bx (x : Bx) : D := .agg [T x.1, I x.2.1, I x.2.2.1, I x.2.2.2]
abbrev bxs (l : List Bx) : D := .arr 4 (l.map bx)
theorem isV_bx (x : Bx) : (bx x).isV = true := rfl
/-- Sizes are what a machine can hold. -/
def okBx (l : List Bx) : Prop := l.length ≤ 1048576 ∧ ∀ x ∈ l, x.1.size ≤ 1048576
def isBx (x : Bx) : Bool := letters x.1 1 3 && decide (0 ≤ x.2.1 ∧ x.2.1 ≤ 9) && decide (0 ≤ x.2.2.1 ∧ x.2.2.1 ≤ 9) && decide (0 ≤ x.2.2.2 ∧ x.2.2.2 ≤ 9999)
theorem e_spec_caBox (x : Bx) (h : x.1.size ≤ 1048576) : F_spec_caBox [bx x] = some (.ret [B (isBx x)] []) := by
  rw [t_spec_caBox]
  have e := e_spec_tyLetters x.1 3 (by omega)
  cases h0 : letters x.1 1 3 <;> rw [h0] at e
  · simp -implicitDefEqProofs [e, isBx, h0]
  · by_cases h1 : 0 ≤ x.2.1 ∧ x.2.1 ≤ 9 <;> by_cases h2 : 0 ≤ x.2.2.1 ∧ x.2.2.1 ≤ 9 <;> simp -implicitDefEqProofs [e, e_spec_l1In, isBx, h0, h1, h2]
theorem e_impl_IsBox (x : Bx) (h : x.1.size ≤ 1048576) : F_impl_IsBox [bx x] = some (.ret [B (isBx x)] []) := by
  rw [t_impl_IsBox]
  have e := e_impl_isCode x.1 (by omega)
  cases h0 : letters x.1 1 3 <;> rw [h0] at e
  · simp -implicitDefEqProofs [e, isBx, h0]
  · by_cases h1 : 0 ≤ x.2.1 ∧ x.2.1 ≤ 9 <;> by_cases h2 : 0 ≤ x.2.2.1 ∧ x.2.2.1 ≤ 9 <;> simp -implicitDefEqProofs [e, e_impl_isPlace, e_impl_within, isBx, h0, h1, h2]
def sameP (x y : Bx) : Bool := decide (y.2.1 = x.2.1) && decide (y.2.2.1 = x.2.2.1)
def pBx (l : List Bx) (i : Nat) (x : Bx) : Bool := isBx x && !(decide (0 < i) && !Op.bytesLess (l.getD (i - 1) (ByteArray.empty, 0, 0, 0)).1.toList x.1.toList) && allI (fun _ y => !sameP x y) 0 (l.take i)
def goodC (l : List Bx) : Bool := allI (pBx l) 0 l && decide (1 ≤ (l.length : Int) ∧ (l.length : Int) ≤ 32)
theorem take_bxs {l : List Bx} {i : Nat} (hi : i ≤ l.length) : sliceD false 4 (bxs l) (I 0) (I (i : Int)) = some (bxs (l.take i)) := by
  have := sliceD_nat (z := 4) (l := l.map bx) (k := .i64) (k' := .i64) (Nat.zero_le i) (by simpa using hi)
  rw [List.drop_zero, ← List.map_take] at this
  exact this
theorem e_spec_caGood (l : List Bx) (h : okBx l) : F_spec_caGood [bxs l] = some (.ret [B (goodC l)] []) := by
  rw [t_spec_caGood]
  have hl := h.1
  simp only [lenD_arr, List.length_map, Option.bind_some]
  refine loop_bind _ (loop_all l (fun i => [bxs l, bxs l, I l.length, I i]) (pBx l) (.ret [B false] []) (.ext 0 [bxs l]) (fun i hi => ?_) ?_ rfl rfl rfl) ?_
  · have hw : IntKind.i64.wrap ((i : Int) + 1) = (i : Int) + 1 := wrap_id (by omega) (by omega)
    have eb := e_spec_caBox l[i] (h.2 _ (List.getElem_mem hi))
    have ht := take_bxs (Nat.le_of_lt hi)
    cases h1 : isBx l[i]
    · rw [h1] at eb
      simp -implicitDefEqProofs [hi, eb, h1, pBx]
    · rw [h1] at eb
      by_cases h0 : 0 < i
      · have hw2 : IntKind.i64.wrap ((i : Int) - 1) = ((i - 1 : Nat) : Int) := by rw [wrap_id (by omega) (by omega)]; omega
        have hy : i - 1 < l.length := by omega
        cases h2 : Op.bytesLess l[i - 1].1.toList l[i].1.toList
        · simp -implicitDefEqProofs [hi, hy, eb, h1, pBx, hw2, h0, h2, bin_geqS]
        · have hp : pBx l i l[i] = allI (fun _ y => !sameP l[i] y) 0 (l.take i) := by simp [pBx, h1, h0, h2, hy]
          rw [hp]
          have htl : (l.take i).length ≤ 1048576 := by simp; omega
          simp -implicitDefEqProofs [hi, hy, eb, hw2, h0, h2, bin_geqS, ht, hw, ← List.map_take, -List.length_take, -List.map_take]
          generalize l.take i = t at ht htl
          refine loop_bind _ (loop_all t (fun j => [bxs l, bx l[i], bxs l, I l.length, I i, bxs t, I t.length, I j]) (fun _ y => !sameP l[i] y) (.ret [B false] []) (.ext 2 [bxs l, bxs l, I l.length, I i]) (fun j hj => ?_) ?_ rfl rfl rfl) ?_
          · have hwj : IntKind.i64.wrap ((j : Int) + 1) = (j : Int) + 1 := wrap_id (by omega) (by omega)
            by_cases c1 : t[j].2.1 = l[i].2.1 <;> by_cases c2 : t[j].2.2.1 = l[i].2.2.1 <;> simp -implicitDefEqProofs [hj, hwj, c1, c2, sameP]
          · simp -implicitDefEqProofs
          · cases ha : allI (fun _ y => !sameP l[i] y) 0 t <;> simp -implicitDefEqProofs [hw]
      · have hp : pBx l i l[i] = allI (fun _ y => !sameP l[i] y) 0 (l.take i) := by simp [pBx, h1, h0]
        rw [hp]
        have htl : (l.take i).length ≤ 1048576 := by simp; omega
        simp -implicitDefEqProofs [hi, eb, h0, bin_geqS, ht, hw, ← List.map_take, -List.length_take, -List.map_take]
        generalize l.take i = t at ht htl
        refine loop_bind _ (loop_all t (fun j => [bxs l, bx l[i], bxs l, I l.length, I i, bxs t, I t.length, I j]) (fun _ y => !sameP l[i] y) (.ret [B false] []) (.ext 2 [bxs l, bxs l, I l.length, I i]) (fun j hj => ?_) ?_ rfl rfl rfl) ?_
        · have hwj : IntKind.i64.wrap ((j : Int) + 1) = (j : Int) + 1 := wrap_id (by omega) (by omega)
          by_cases c1 : t[j].2.1 = l[i].2.1 <;> by_cases c2 : t[j].2.2.1 = l[i].2.2.1 <;> simp -implicitDefEqProofs [hj, hwj, c1, c2, sameP]
        · simp -implicitDefEqProofs
        · cases ha : allI (fun _ y => !sameP l[i] y) 0 t <;> simp -implicitDefEqProofs [hw]
  · simp
  · by_cases hg : allI (pBx l) 0 l = true <;> simp -implicitDefEqProofs [hg, goodC, e_spec_l1In]

end Go.Proofs.Ytfjkapnonljdeaa
/-
  Boxes of codes; formes; shops.
-/
namespace Go.Proofs.Ytfjkapnonljdeaa
open Go Go.V
set_option linter.unusedSimpArgs false

theorem e_impl_isTaken (t : List Bx) (x : Bx) (h : t.length ≤ 1048576) : F_impl_isTaken [bxs t, I x.2.1, I x.2.2.1] = some (.ret [B (!allI (fun _ y => !sameP x y) 0 t)] []) := by
  rw [t_impl_isTaken]
  simp only [lenD_arr, List.length_map, Option.bind_some]
  refine loop_bind _ (loop_all t (fun j => [I x.2.1, I x.2.2.1, bxs t, I t.length, I j]) (fun _ y => !sameP x y) (.ret [B true] []) (.ext 0 []) (fun j hj => ?_) ?_ rfl rfl rfl) ?_
  · have hwj : IntKind.i64.wrap ((j : Int) + 1) = (j : Int) + 1 := wrap_id (by omega) (by omega)
    by_cases c1 : t[j].2.1 = x.2.1 <;> by_cases c2 : t[j].2.2.1 = x.2.2.1 <;> simp -implicitDefEqProofs [hj, hwj, c1, c2, sameP]
  · simp -implicitDefEqProofs
  · cases ha : allI (fun _ y => !sameP x y) 0 t <;> simp -implicitDefEqProofs
theorem e_impl_IsCase (l : List Bx) (h : okBx l) : F_impl_IsCase [bxs l] = some (.ret [B (goodC l)] []) := by
  rw [t_impl_IsCase]
  have hl := h.1
  simp only [lenD_arr, List.length_map, Option.bind_some]
  refine loop_bind _ (loop_all l (fun i => [bxs l, bxs l, I l.length, I i]) (pBx l) (.ret [B false] []) (.ext 0 [bxs l]) (fun i hi => ?_) ?_ rfl rfl rfl) ?_
  · have hw : IntKind.i64.wrap ((i : Int) + 1) = (i : Int) + 1 := wrap_id (by omega) (by omega)
    have eb := e_impl_IsBox l[i] (h.2 _ (List.getElem_mem hi))
    have ht := take_bxs (Nat.le_of_lt hi)
    have et := e_impl_isTaken (l.take i) l[i] (by simp; omega)
    cases h1 : isBx l[i]
    · rw [h1] at eb
      simp -implicitDefEqProofs [hi, eb, h1, pBx]
    · rw [h1] at eb
      by_cases h0 : 0 < i
      · have hw2 : IntKind.i64.wrap ((i : Int) - 1) = ((i - 1 : Nat) : Int) := by rw [wrap_id (by omega) (by omega)]; omega
        have hy : i - 1 < l.length := by omega
        cases h2 : Op.bytesLess l[i - 1].1.toList l[i].1.toList
        · simp -implicitDefEqProofs [hi, hy, eb, h1, pBx, hw2, h0, h2, bin_geqS]
        · have hp : pBx l i l[i] = allI (fun _ y => !sameP l[i] y) 0 (l.take i) := by simp [pBx, h1, h0, h2, hy]
          rw [hp]
          cases ha : allI (fun _ y => !sameP l[i] y) 0 (l.take i) <;> rw [ha] at et <;> simp -implicitDefEqProofs [hi, hy, eb, hw2, h0, h2, bin_geqS, ht, hw, et, ← List.map_take, -List.map_take]
      · have hp : pBx l i l[i] = allI (fun _ y => !sameP l[i] y) 0 (l.take i) := by simp [pBx, h1, h0]
        rw [hp]
        cases ha : allI (fun _ y => !sameP l[i] y) 0 (l.take i) <;> rw [ha] at et <;> simp -implicitDefEqProofs [hi, eb, h0, bin_geqS, ht, hw, et, ← List.map_take, -List.map_take]
  · simp
  · by_cases hg : allI (pBx l) 0 l = true <;> simp -implicitDefEqProofs [hg, goodC, e_impl_within]

/-- The place of a code, or -1. -/
def fB (l : List Bx) (c : ByteArray) : Int := (findI (fun b : Bx => decide (b.1 = c)) 0 l).elim (-1) fun j => (j : Int)
theorem e_spec_caFind (l : List Bx) (c : ByteArray) (h : l.length ≤ 1048576) : F_spec_caFind [bxs l, T c] = some (.ret [I (fB l c)] []) := by
  rw [t_spec_caFind]
  simp only [lenD_arr, List.length_map, Option.bind_some]
  refine loop_bind _ (loop_find l (fun i => [T c, bxs l, I l.length, I i]) (fun b : Bx => decide (b.1 = c)) (fun j => .ret [I j] []) (.ext 0 []) (fun i hi => ?_) ?_ (fun _ => rfl) rfl rfl) ?_
  · have hw : IntKind.i64.wrap ((i : Int) + 1) = (i : Int) + 1 := wrap_id (by omega) (by omega)
    by_cases hc : l[i].1 = c <;> simp -implicitDefEqProofs [hi, hw, hc]
  · simp
  · unfold fB
    cases findI (fun b : Bx => decide (b.1 = c)) 0 l <;> simp -implicitDefEqProofs
theorem e_impl_boxAt (l : List Bx) (c : ByteArray) (h : l.length ≤ 1048576) : F_impl_boxAt [bxs l, T c] = some (.ret [I (fB l c)] []) := by
  rw [t_impl_boxAt]
  simp only [lenD_arr, List.length_map, Option.bind_some]
  refine loop_bind _ (loop_find l (fun i => [T c, bxs l, I l.length, I i]) (fun b : Bx => decide (b.1 = c)) (fun j => .ret [I j] []) (.ext 0 []) (fun i hi => ?_) ?_ (fun _ => rfl) rfl rfl) ?_
  · have hw : IntKind.i64.wrap ((i : Int) + 1) = (i : Int) + 1 := wrap_id (by omega) (by omega)
    by_cases hc : l[i].1 = c <;> simp -implicitDefEqProofs [hi, hw, hc]
  · simp
  · unfold fB
    cases findI (fun b : Bx => decide (b.1 = c)) 0 l <;> simp -implicitDefEqProofs

abbrev txs (l : List ByteArray) : D := .arr 1 (l.map T)
def hasAll (l : List Bx) (cs : List ByteArray) : Bool := allI (fun _ c => !decide (fB l c < 0)) 0 cs
theorem e_impl_areCodes (l : List Bx) (cs : List ByteArray) (h : okBx l) (hc : cs.length ≤ 1048576) : F_impl_areCodes [bxs l, txs cs] = some (.ret [B (hasAll l cs && goodC l && decide ((cs.length : Int) ≤ 60))] []) := by
  rw [t_impl_areCodes]
  simp only [lenD_arr, List.length_map, Option.bind_some]
  refine loop_bind _ (loop_all cs (fun i => [bxs l, txs cs, txs cs, I cs.length, I i]) (fun _ c => !decide (fB l c < 0)) (.ret [B false] []) (.ext 0 [bxs l, txs cs]) (fun i hi => ?_) ?_ rfl rfl rfl) ?_
  · have hw : IntKind.i64.wrap ((i : Int) + 1) = (i : Int) + 1 := wrap_id (by omega) (by omega)
    have eb := e_impl_boxAt l cs[i] h.1
    by_cases hb : fB l cs[i] < 0 <;> simp -implicitDefEqProofs [hi, hw, eb, hb]
  · simp
  · cases ha : allI (fun _ c => !decide (fB l c < 0)) 0 cs
    · simp -implicitDefEqProofs [hasAll, ha]
    · cases hg : goodC l <;> simp -implicitDefEqProofs [hasAll, ha, e_impl_IsCase l h, hg]

/-! ### formes -/
abbrev Fm := Int × List ByteArray × Bool × Int
abbrev fm (x : Fm) : D := .agg [I x.1, txs x.2.1, B x.2.2.1, I x.2.2.2]
abbrev fms (l : List Fm) : D := .arr 4 (l.map fm)
def okFm (l : List Fm) : Prop := l.length ≤ 1048576 ∧ ∀ x ∈ l, x.2.1.length ≤ 1048576
def isFm (l : List Bx) (x : Fm) : Bool := decide (1 ≤ x.1 ∧ x.1 ≤ 99) && !decide (40 < (x.2.1.length : Int)) && decide (0 ≤ x.2.2.2 ∧ x.2.2.2 ≤ 100000) && !(x.2.2.1 && decide ((x.2.1.length : Int) = 0)) && hasAll l x.2.1
theorem e_spec_shForme (l : List Bx) (x : Fm) (h : l.length ≤ 1048576) (hx : x.2.1.length ≤ 1048576) : F_spec_shForme [bxs l, fm x] = some (.ret [B (isFm l x)] []) := by
  rw [t_spec_shForme]
  by_cases h1 : 1 ≤ x.1 ∧ x.1 ≤ 99
  case neg => simp -implicitDefEqProofs [e_spec_l1In, isFm, h1]
  by_cases h2 : 40 < (x.2.1.length : Int)
  case pos => simp -implicitDefEqProofs [e_spec_l1In, isFm, h1, h2]
  by_cases h3 : 0 ≤ x.2.2.2 ∧ x.2.2.2 ≤ 100000
  case neg => simp -implicitDefEqProofs [e_spec_l1In, isFm, h1, h2, h3]
  have main : ∀ (body : List D → Option Out) (K : Out → Option Out) (r : Option Out), (∀ (i : Nat) (hi : i < x.2.1.length), body [bxs l, txs x.2.1, I x.2.1.length, I i] = some (if (!decide (fB l x.2.1[i] < 0)) = true then .nrm [bxs l, txs x.2.1, I x.2.1.length, I (i + 1 : Nat)] else .ret [B false] [])) →
      body [bxs l, txs x.2.1, I x.2.1.length, I x.2.1.length] = some (.ext 0 []) → K (if hasAll l x.2.1 = true then .ext 0 [] else .ret [B false] []) = r → (loopC body [bxs l, txs x.2.1, I x.2.1.length, I 0]).bind K = r := fun body K r g1 g2 g3 =>
    loop_bind _ (loop_all x.2.1 (fun i => [bxs l, txs x.2.1, I x.2.1.length, I i]) (fun _ c => !decide (fB l c < 0)) (.ret [B false] []) (.ext 0 []) g1 g2 rfl rfl rfl) g3
  cases h4 : x.2.2.1
  · simp -implicitDefEqProofs [e_spec_l1In, isFm, h1, h2, h3, h4]
    refine main _ _ _ (fun i hi => ?_) ?_ ?_
    · have hw : IntKind.i64.wrap ((i : Int) + 1) = (i : Int) + 1 := wrap_id (by omega) (by omega)
      have eb := e_spec_caFind l x.2.1[i] h
      by_cases hb : fB l x.2.1[i] < 0 <;> simp -implicitDefEqProofs [hi, hw, eb, hb]
    · simp
    · cases hasAll l x.2.1 <;> simp -implicitDefEqProofs
  · by_cases h5 : (x.2.1.length : Int) = 0
    · have h5' : x.2.1 = [] := List.eq_nil_of_length_eq_zero (by omega)
      simp -implicitDefEqProofs [e_spec_l1In, isFm, h1, h3, h4, h5']
    · have h5' : ¬ x.2.1 = [] := fun e => h5 (by simp [e])
      simp -implicitDefEqProofs [e_spec_l1In, isFm, h1, h2, h3, h4, h5, h5']
      refine main _ _ _ (fun i hi => ?_) ?_ ?_
      · have hw : IntKind.i64.wrap ((i : Int) + 1) = (i : Int) + 1 := wrap_id (by omega) (by omega)
        have eb := e_spec_caFind l x.2.1[i] h
        by_cases hb : fB l x.2.1[i] < 0 <;> simp -implicitDefEqProofs [hi, hw, eb, hb]
      · simp
      · cases hasAll l x.2.1 <;> simp -implicitDefEqProofs
theorem e_impl_isFormeId (a : Int) : F_impl_isFormeId [I a] = some (.ret [B (decide (1 ≤ a ∧ a ≤ 99))] []) := by
  rw [t_impl_isFormeId]
  simp [e_impl_within]
theorem e_impl_isForme (l : List Bx) (x : Fm) (h : okBx l) (hx : x.2.1.length ≤ 1048576) : F_impl_isForme [bxs l, fm x] = some (.ret [B (isFm l x && goodC l)] []) := by
  rw [t_impl_isForme]
  have ec := e_impl_areCodes l x.2.1 h hx
  by_cases h1 : 1 ≤ x.1 ∧ x.1 ≤ 99
  case neg => simp -implicitDefEqProofs [e_impl_isFormeId, isFm, h1]
  cases ha : hasAll l x.2.1
  · simp -implicitDefEqProofs [e_impl_isFormeId, isFm, h1, ec, ha]
  cases hg : goodC l
  · simp -implicitDefEqProofs [e_impl_isFormeId, isFm, h1, ec, ha, hg]
  by_cases h60 : (x.2.1.length : Int) ≤ 60
  case neg =>
    have h40 : 40 < (x.2.1.length : Int) := by omega
    simp -implicitDefEqProofs [e_impl_isFormeId, isFm, h1, ec, ha, hg, h60, h40]
  by_cases h2 : 40 < (x.2.1.length : Int)
  case pos => simp -implicitDefEqProofs [e_impl_isFormeId, isFm, h1, ec, ha, hg, h60, h2, Int.not_le.2 h2]
  have h2' : (x.2.1.length : Int) ≤ 40 := by omega
  by_cases h3 : 0 ≤ x.2.2.2 ∧ x.2.2.2 ≤ 100000
  case neg => simp -implicitDefEqProofs [e_impl_isFormeId, e_impl_within, isFm, h1, ec, ha, hg, h60, h2, h2', h3]
  cases h4 : x.2.2.1
  · simp -implicitDefEqProofs [e_impl_isFormeId, e_impl_within, isFm, h1, ec, ha, hg, h60, h2, h2', h3, h4]
  · by_cases h5 : (x.2.1.length : Int) = 0
    · have h5' : x.2.1 = [] := List.eq_nil_of_length_eq_zero (by omega)
      rw [h5'] at ec ha
      simp -implicitDefEqProofs [e_impl_isFormeId, e_impl_within, isFm, h1, ec, ha, hg, h3, h4, h5']
    · have h5' : ¬ x.2.1 = [] := fun e => h5 (by simp [e])
      have h6 : 0 < (x.2.1.length : Int) := by omega
      have h6' : 0 < x.2.1.length := by omega
      simp -implicitDefEqProofs [e_impl_isFormeId, e_impl_within, isFm, h1, ec, ha, hg, h60, h2, h2', h3, h4, h5, h5', h6, h6']

end Go.Proofs.Ytfjkapnonljdeaa
/-
  Shops: copies, sizes, whether one is valid, its types; two laws.
-/
namespace Go.Proofs.Ytfjkapnonljdeaa
open Go Go.V
set_option linter.unusedSimpArgs false

abbrev Sp := List Bx × List Fm × Int × Int
abbrev sp (s : Sp) : D := .agg [bxs s.1, fms s.2.1, I s.2.2.1, I s.2.2.2]
def okSp (s : Sp) : Prop := okBx s.1 ∧ okFm s.2.1
/-- What comes in: lengths are lengths of a machine. -/
def inSp (s : Sp) : Prop := (s.1.length ≤ 9223372036854775807 ∧ ∀ x ∈ s.1, x.1.size ≤ 9223372036854775807) ∧ s.2.1.length ≤ 9223372036854775807 ∧ ∀ x ∈ s.2.1, x.2.1.length ≤ 9223372036854775807 ∧ ∀ c ∈ x.2.1, c.size ≤ 9223372036854775807

/-! ### valid shops -/
def pS (s : Sp) (i : Nat) (x : Fm) : Bool := isFm s.1 x && !(decide (0 < i) && decide (x.1 ≤ (s.2.1.getD (i - 1) (0, [], false, 0)).1))
def printed (l : List Fm) : Int := l.foldl (fun a x => a + x.2.2.2) 0
def shopOk (s : Sp) : Bool := allI (pS s) 0 s.2.1 && goodC s.1 && decide ((s.2.1.length : Int) ≤ 5) && decide (0 ≤ s.2.2.1 ∧ s.2.2.1 ≤ 9999) && decide (printed s.2.1 ≤ s.2.2.2 ∧ s.2.2.2 ≤ 1000000)
theorem isFm_printed {l : List Bx} {x : Fm} (h : isFm l x = true) : 0 ≤ x.2.2.2 ∧ x.2.2.2 ≤ 100000 := by
  simp only [isFm, Bool.and_eq_true, decide_eq_true_eq] at h
  exact h.1.1.2
theorem e_spec_shGood (s : Sp) (h : okSp s) : F_spec_shGood [sp s] = some (.ret [B (shopOk s)] []) := by
  rw [t_spec_shGood]
  have hl := h.2.1
  have hb := h.1.1
  simp -implicitDefEqProofs
  refine loop_bind _ (loop_allf s.2.1 (fun i a => [sp s, I a, fms s.2.1, I s.2.1.length, I i]) (fun i a => 0 ≤ a ∧ a ≤ 100000 * (i : Int)) (pS s) (fun a x => a + x.2.2.2) (.ret [B false] []) (fun a => .ext 0 [sp s, I a]) 0 (fun i a hi hI => ?_) (fun a _ => ?_) rfl (fun _ => rfl) (by simp) rfl) ?_
  · have hw : IntKind.i64.wrap ((i : Int) + 1) = (i : Int) + 1 := wrap_id (by omega) (by omega)
    have ef := e_spec_shForme s.1 s.2.1[i] hb (h.2.2 _ (List.getElem_mem hi))
    cases h1 : isFm s.1 s.2.1[i]
    · rw [h1] at ef
      exact ⟨by simp -implicitDefEqProofs [hi, ef, h1, pS], fun hc => by simp [pS, h1] at hc⟩
    · rw [h1] at ef
      have hpr := isFm_printed h1
      have hwa : IntKind.i64.wrap (a + s.2.1[i].2.2.2) = a + s.2.1[i].2.2.2 := wrap_id (by omega) (by omega)
      refine ⟨?_, fun _ => by omega⟩
      by_cases h0 : 0 < i
      · have hw2 : IntKind.i64.wrap ((i : Int) - 1) = ((i - 1 : Nat) : Int) := by rw [wrap_id (by omega) (by omega)]; omega
        have hy : i - 1 < s.2.1.length := by omega
        by_cases h2 : s.2.1[i].1 ≤ s.2.1[i - 1].1 <;> simp -implicitDefEqProofs [hi, hy, ef, h1, pS, hw, hw2, hwa, h0, h2]
      · simp -implicitDefEqProofs [hi, ef, h1, pS, hw, hwa, h0]
  · simp -implicitDefEqProofs
  · unfold shopOk printed
    cases ha : allI (pS s) 0 s.2.1
    · simp -implicitDefEqProofs
    generalize List.foldl (fun a (x : Fm) => a + x.2.2.2) 0 s.2.1 = S
    cases hg : goodC s.1
    · simp -implicitDefEqProofs [e_spec_caGood s.1 h.1, hg]
    by_cases h5 : s.2.1.length ≤ 5
    case neg => simp -implicitDefEqProofs [e_spec_caGood s.1 h.1, hg, h5, show ¬ (s.2.1.length : Int) ≤ 5 by omega]
    have h5' : (s.2.1.length : Int) ≤ 5 := by omega
    by_cases h6 : 0 ≤ s.2.2.1 ∧ s.2.2.1 ≤ 9999 <;> simp -implicitDefEqProofs [e_spec_caGood s.1 h.1, e_spec_l1In, hg, h5, h5', h6]
theorem e_impl_IsShop (s : Sp) (h : okSp s) : F_impl_IsShop [sp s] = some (.ret [B (shopOk s)] []) := by
  rw [t_impl_IsShop]
  have hl := h.2.1
  have hb := h.1.1
  simp -implicitDefEqProofs
  cases hg : goodC s.1
  · refine loop_bind _ (loop_allf s.2.1 (fun i a => [sp s, I a, fms s.2.1, I s.2.1.length, I i]) (fun i a => True) (fun _ _ => false) (fun a x => a + x.2.2.2) (.ret [B false] []) (fun a => .ext 0 [sp s, I a]) 0 (fun i a hi hI => ⟨?_, fun _ => trivial⟩) (fun a _ => ?_) rfl (fun _ => rfl) trivial rfl) ?_
    · have ef := e_impl_isForme s.1 s.2.1[i] h.1 (h.2.2 _ (List.getElem_mem hi))
      rw [hg, Bool.and_false] at ef
      simp -implicitDefEqProofs [hi, ef]
    · simp -implicitDefEqProofs
    · cases allI (fun _ (_ : Fm) => false) 0 s.2.1 <;> simp -implicitDefEqProofs [shopOk, hg, e_impl_IsCase s.1 h.1]
  refine loop_bind _ (loop_allf s.2.1 (fun i a => [sp s, I a, fms s.2.1, I s.2.1.length, I i]) (fun i a => 0 ≤ a ∧ a ≤ 100000 * (i : Int)) (pS s) (fun a x => a + x.2.2.2) (.ret [B false] []) (fun a => .ext 0 [sp s, I a]) 0 (fun i a hi hI => ?_) (fun a _ => ?_) rfl (fun _ => rfl) (by simp) rfl) ?_
  · have hw : IntKind.i64.wrap ((i : Int) + 1) = (i : Int) + 1 := wrap_id (by omega) (by omega)
    have ef := e_impl_isForme s.1 s.2.1[i] h.1 (h.2.2 _ (List.getElem_mem hi))
    rw [hg, Bool.and_true] at ef
    cases h1 : isFm s.1 s.2.1[i]
    · rw [h1] at ef
      exact ⟨by simp -implicitDefEqProofs [hi, ef, h1, pS], fun hc => by simp [pS, h1] at hc⟩
    · rw [h1] at ef
      have hpr := isFm_printed h1
      have hwa : IntKind.i64.wrap (a + s.2.1[i].2.2.2) = a + s.2.1[i].2.2.2 := wrap_id (by omega) (by omega)
      refine ⟨?_, fun _ => by omega⟩
      by_cases h0 : 0 < i
      · have hw2 : IntKind.i64.wrap ((i : Int) - 1) = ((i - 1 : Nat) : Int) := by rw [wrap_id (by omega) (by omega)]; omega
        have hy : i - 1 < s.2.1.length := by omega
        by_cases h2 : s.2.1[i].1 ≤ s.2.1[i - 1].1 <;> simp -implicitDefEqProofs [hi, hy, ef, h1, pS, hw, hw2, hwa, h0, h2]
      · simp -implicitDefEqProofs [hi, ef, h1, pS, hw, hwa, h0]
  · simp -implicitDefEqProofs
  · unfold shopOk
    cases ha : allI (pS s) 0 s.2.1
    · simp -implicitDefEqProofs
    have hS : 0 ≤ printed s.2.1 := by
      have key : ∀ (l : List Fm) (i : Nat) (a : Int), 0 ≤ a → allI (pS s) i l = true → 0 ≤ l.foldl (fun a x => a + x.2.2.2) a := by
        intro l
        induction l with
        | nil => intro i a ha _; exact ha
        | cons x l ih =>
          intro i a h0 hp
          simp only [allI, Bool.and_eq_true] at hp
          have := isFm_printed (l := s.1) (x := x) (by
            have := hp.1
            simp only [pS, Bool.and_eq_true] at this
            exact this.1)
          exact ih (i + 1) _ (show (0 : Int) ≤ a + x.2.2.2 by omega) hp.2
      exact key s.2.1 0 0 (by omega) ha
    unfold printed at hS ⊢
    generalize List.foldl (fun a (x : Fm) => a + x.2.2.2) 0 s.2.1 = S at hS
    by_cases h5 : s.2.1.length ≤ 5
    case neg => simp -implicitDefEqProofs [e_impl_IsCase s.1 h.1, hg, h5, show ¬ (s.2.1.length : Int) ≤ 5 by omega]
    have h5' : (s.2.1.length : Int) ≤ 5 := by omega
    by_cases h6 : 0 ≤ s.2.2.1 ∧ s.2.2.1 ≤ 9999
    case neg => simp -implicitDefEqProofs [e_impl_IsCase s.1 h.1, e_impl_within, hg, h5, h5', h6]
    by_cases h7 : 0 ≤ s.2.2.2 ∧ s.2.2.2 ≤ 1000000
    case neg =>
      have h8 : ¬ (S ≤ s.2.2.2 ∧ s.2.2.2 ≤ 1000000) := by omega
      simp -implicitDefEqProofs [e_impl_IsCase s.1 h.1, e_impl_within, hg, h5, h5', h6, h7, h8]
    by_cases h8 : S ≤ s.2.2.2 <;> simp -implicitDefEqProofs [e_impl_IsCase s.1 h.1, e_impl_within, hg, h5, h5', h6, h7, h8]
/-! ### equal shops -/
theorem e_laws_eqBox (x : Bx) : F_laws_eqBox [bx x, bx x] = some (.ret [B true] []) := by
  rw [t_laws_eqBox]
  simp -implicitDefEqProofs
theorem e_laws_eqBoxS (l : List Bx) (h : l.length ≤ 1048577) : F_laws_eqBoxS [bxs l, bxs l] = some (.ret [B true] []) := by
  rw [t_laws_eqBoxS]
  simp only [lenD_arr, List.length_map, Option.bind_some, bin_neq, decide_true, Bool.not_true, ifD_B, Bool.false_eq_true, if_false]
  refine loop_bind _ (loop_for l.length (fun i => [bxs l, bxs l, I i]) (.ext 0 []) (fun i hi => ?_) ?_ rfl rfl) ?_
  · have hw : IntKind.i64.wrap ((i : Int) + 1) = (i : Int) + 1 := wrap_id (by omega) (by omega)
    simp -implicitDefEqProofs [hi, e_laws_eqBox, hw]
  · simp
  · simp
theorem e_laws_eqStringS (l : List ByteArray) (h : l.length ≤ 1048577) : F_laws_eqStringS [txs l, txs l] = some (.ret [B true] []) := by
  rw [t_laws_eqStringS]
  simp only [lenD_arr, List.length_map, Option.bind_some, bin_neq, decide_true, Bool.not_true, ifD_B, Bool.false_eq_true, if_false]
  refine loop_bind _ (loop_for l.length (fun i => [txs l, txs l, I i]) (.ext 0 []) (fun i hi => ?_) ?_ rfl rfl) ?_
  · have hw : IntKind.i64.wrap ((i : Int) + 1) = (i : Int) + 1 := wrap_id (by omega) (by omega)
    simp -implicitDefEqProofs [hi, hw]
  · simp
  · simp
theorem e_laws_eqForme (x : Fm) (h : x.2.1.length ≤ 1048577) : F_laws_eqForme [fm x, fm x] = some (.ret [B true] []) := by
  rw [t_laws_eqForme]
  simp -implicitDefEqProofs [e_laws_eqStringS x.2.1 h]
theorem e_laws_eqFormeS (l : List Fm) (h : okFm l) : F_laws_eqFormeS [fms l, fms l] = some (.ret [B true] []) := by
  rw [t_laws_eqFormeS]
  have hl := h.1
  simp only [lenD_arr, List.length_map, Option.bind_some, bin_neq, decide_true, Bool.not_true, ifD_B, Bool.false_eq_true, if_false]
  refine loop_bind _ (loop_for l.length (fun i => [fms l, fms l, I i]) (.ext 0 []) (fun i hi => ?_) ?_ rfl rfl) ?_
  · have hw : IntKind.i64.wrap ((i : Int) + 1) = (i : Int) + 1 := wrap_id (by omega) (by omega)
    have ef := e_laws_eqForme l[i] (Nat.le_trans (h.2 _ (List.getElem_mem hi)) (by omega))
    simp -implicitDefEqProofs [hi, ef, hw]
  · simp
  · simp
theorem e_laws_eqShop (s : Sp) (h : okSp s) : F_laws_eqShop [sp s, sp s] = some (.ret [B true] []) := by
  rw [t_laws_eqShop]
  have := h.1.1
  simp -implicitDefEqProofs [e_laws_eqBoxS s.1 (by omega), e_laws_eqFormeS s.2.1 h.2]

/-! ### copies -/
theorem e_laws_toBox (x : Bx) : F_laws_toBox [bx x] = some (.ret [bx x] []) := by
  rw [t_laws_toBox]
  simp -implicitDefEqProofs
theorem e_laws_toBoxS (l : List Bx) (h : l.length ≤ 1048576) : F_laws_toBoxS [bxs l] = some (.ret [bxs l] []) := by
  rw [t_laws_toBoxS]
  have h1 : l.length * 40 ≤ 140737488355328 := by omega
  have h2 : l.length ≤ 140737488355328 := by omega
  simp only [lenD_arr, List.length_map, Option.bind_some, makD_nat, Nat.le_refl, h1, h2, and_self, if_true]
  rw [fillL_zero (f := bx) (l := l)]
  refine loop_bind (.ext 0 [bxs l]) (loop_for l.length (fun i => [bxs l, .arr 4 (fillL bx (bx (⟨#[]⟩, 0, 0, 0)) l i), I i]) _ (fun i hi => ?_) ?_ rfl rfl) ?_
  · have hx := List.getElem?_eq_getElem hi
    have hg := fillL_get (f := bx) (z := bx (⟨#[]⟩, 0, 0, 0)) hi
    have hs := fillL_set (f := bx) (z := bx (⟨#[]⟩, 0, 0, 0)) hx
    have hw : IntKind.i64.wrap ((i : Int) + 1) = (i : Int) + 1 := wrap_id (by omega) (by omega)
    simp -implicitDefEqProofs [hi, e_laws_toBox, Nat.le_of_lt hi, stD_arr hg, hs, hw]
  · simp [fillL_full]
  · simp
theorem e_laws_toStringS (l : List ByteArray) (h : l.length ≤ 1048576) : F_laws_toStringS [txs l] = some (.ret [txs l] []) := by
  rw [t_laws_toStringS]
  have h1 : l.length * 16 ≤ 140737488355328 := by omega
  have h2 : l.length ≤ 140737488355328 := by omega
  simp only [lenD_arr, List.length_map, Option.bind_some, makD_nat, Nat.le_refl, h1, h2, and_self, if_true]
  rw [fillL_zero (f := T) (l := l)]
  refine loop_bind (.ext 0 [txs l]) (loop_for l.length (fun i => [txs l, .arr 1 (fillL T (T ⟨#[]⟩) l i), I i]) _ (fun i hi => ?_) ?_ rfl rfl) ?_
  · have hx := List.getElem?_eq_getElem hi
    have hg := fillL_get (f := T) (z := T ⟨#[]⟩) hi
    have hs := fillL_set (f := T) (z := T ⟨#[]⟩) hx
    have hw : IntKind.i64.wrap ((i : Int) + 1) = (i : Int) + 1 := wrap_id (by omega) (by omega)
    simp -implicitDefEqProofs [hi, Nat.le_of_lt hi, stD_arr1 hg, hs, hw]
  · simp [fillL_full]
  · simp
theorem e_laws_toForme (x : Fm) (h : x.2.1.length ≤ 1048576) : F_laws_toForme [fm x] = some (.ret [fm x] []) := by
  rw [t_laws_toForme]
  simp -implicitDefEqProofs [e_laws_toStringS x.2.1 h]
theorem e_laws_toFormeS (l : List Fm) (h : okFm l) : F_laws_toFormeS [fms l] = some (.ret [fms l] []) := by
  rw [t_laws_toFormeS]
  have hl := h.1
  have h1 : l.length * 48 ≤ 140737488355328 := by omega
  have h2 : l.length ≤ 140737488355328 := by omega
  simp only [lenD_arr, List.length_map, Option.bind_some, makD_nat, Nat.le_refl, h1, h2, and_self, if_true]
  rw [fillL_zero (f := fm) (l := l)]
  refine loop_bind (.ext 0 [fms l]) (loop_for l.length (fun i => [fms l, .arr 4 (fillL fm (fm (0, [], false, 0)) l i), I i]) _ (fun i hi => ?_) ?_ rfl rfl) ?_
  · have hx := List.getElem?_eq_getElem hi
    have hg := fillL_get (f := fm) (z := fm (0, [], false, 0)) hi
    have hs := fillL_set (f := fm) (z := fm (0, [], false, 0)) hx
    have hw : IntKind.i64.wrap ((i : Int) + 1) = (i : Int) + 1 := wrap_id (by omega) (by omega)
    have ef := e_laws_toForme l[i] (h.2 _ (List.getElem_mem hi))
    simp -implicitDefEqProofs [hi, ef, Nat.le_of_lt hi, stD_arr hg, hs, hw]
  · simp [fillL_full]
  · simp
theorem e_laws_toShop (s : Sp) (h : okSp s) : F_laws_toShop [sp s] = some (.ret [sp s] []) := by
  rw [t_laws_toShop]
  simp -implicitDefEqProofs [e_laws_toBoxS s.1 h.1.1, e_laws_toFormeS s.2.1 h.2]

/-! ### sizes -/
theorem e_laws_szBox (x : Bx) (n : Int) (h : x.1.size ≤ 9223372036854775807) (h0 : 0 ≤ n) (h1 : n ≤ 1048576) : ∃ m, F_laws_szBox [bx x, I n] = some (.ret [I m] []) ∧ m ≤ n ∧ (0 ≤ m → x.1.size ≤ 1048576) := by
  rw [t_laws_szBox]
  have hw : IntKind.i64.wrap (n - x.1.size) = n - x.1.size := wrap_id (by omega) (by omega)
  by_cases hn : n - (x.1.size : Int) < 0
  · exact ⟨-1, by simp -implicitDefEqProofs [hw, hn], by omega, by omega⟩
  · exact ⟨n - x.1.size, by simp -implicitDefEqProofs [hw, hn], by omega, by omega⟩
theorem e_laws_szBoxS (l : List Bx) (n : Int) (h : l.length ≤ 9223372036854775807 ∧ ∀ x ∈ l, x.1.size ≤ 9223372036854775807) (h0 : 0 ≤ n) (h1 : n ≤ 1048576) : ∃ m, F_laws_szBoxS [bxs l, I n] = some (.ret [I m] []) ∧ m ≤ n ∧ (0 ≤ m → okBx l) := by
  have hl := h.1
  rw [t_laws_szBoxS]
  have hw : IntKind.i64.wrap (n - l.length) = n - l.length := wrap_id (by omega) (by omega)
  by_cases hn : n - (l.length : Int) < 0
  · exact ⟨-1, by simp -implicitDefEqProofs [hw, hn], by omega, by omega⟩
  simp -implicitDefEqProofs [hw, hn]
  refine sz_loop (R := fun X => ∃ m, X = some (.ret [I m] []) ∧ m ≤ n ∧ (0 ≤ m → okBx l)) l (fun i m => [bxs l, I m, I i]) (fun x => x.1.size ≤ 1048576) (fun i hi m g0 g1 => ?_) (fun m => ?_) (n - l.length) (by omega) (by omega) rfl ?_ (fun m g0 g1 gP => ?_)
  · have hwi : IntKind.i64.wrap ((i : Int) + 1) = (i : Int) + 1 := wrap_id (by omega) (by omega)
    obtain ⟨m', e, k1, k2⟩ := e_laws_szBox l[i] m (h.2 _ (List.getElem_mem hi)) g0 g1
    by_cases hm : m' < 0
    · exact .inl (by simp -implicitDefEqProofs [hi, e, hm])
    · exact .inr ⟨m', by simp -implicitDefEqProofs [hi, e, hm, hwi], by omega, k1, k2 (by omega)⟩
  · simp -implicitDefEqProofs
  · exact ⟨-1, by simp -implicitDefEqProofs, by omega, by omega⟩
  · exact ⟨m, by simp -implicitDefEqProofs, by omega, fun _ => ⟨by omega, gP⟩⟩
theorem e_laws_szStringS (l : List ByteArray) (n : Int) (h : l.length ≤ 9223372036854775807 ∧ ∀ x ∈ l, x.size ≤ 9223372036854775807) (h0 : 0 ≤ n) (h1 : n ≤ 1048576) : ∃ m, F_laws_szStringS [txs l, I n] = some (.ret [I m] []) ∧ m ≤ n ∧ (0 ≤ m → l.length ≤ 1048576) := by
  have hl := h.1
  rw [t_laws_szStringS]
  have hw : IntKind.i64.wrap (n - l.length) = n - l.length := wrap_id (by omega) (by omega)
  by_cases hn : n - (l.length : Int) < 0
  · exact ⟨-1, by simp -implicitDefEqProofs [hw, hn], by omega, by omega⟩
  simp -implicitDefEqProofs [hw, hn]
  refine sz_loop (R := fun X => ∃ m, X = some (.ret [I m] []) ∧ m ≤ n ∧ (0 ≤ m → l.length ≤ 1048576)) l (fun i m => [txs l, I m, I i]) (fun _ => True) (fun i hi m g0 g1 => ?_) (fun m => ?_) (n - l.length) (by omega) (by omega) rfl ?_ (fun m g0 g1 gP => ?_)
  · have hwi : IntKind.i64.wrap ((i : Int) + 1) = (i : Int) + 1 := wrap_id (by omega) (by omega)
    have hs := h.2 l[i] (List.getElem_mem hi)
    have hwm : IntKind.i64.wrap (m - l[i].size) = m - l[i].size := wrap_id (by omega) (by omega)
    by_cases hm : m - (l[i].size : Int) < 0
    · exact .inl (by simp -implicitDefEqProofs [hi, hwm, hm])
    · exact .inr ⟨m - l[i].size, by simp -implicitDefEqProofs [hi, hwm, hm, hwi], by omega, by omega, trivial⟩
  · simp -implicitDefEqProofs
  · exact ⟨-1, by simp -implicitDefEqProofs, by omega, by omega⟩
  · exact ⟨m, by simp -implicitDefEqProofs, by omega, fun _ => by omega⟩
theorem e_laws_szForme (x : Fm) (n : Int) (h : x.2.1.length ≤ 9223372036854775807 ∧ ∀ c ∈ x.2.1, c.size ≤ 9223372036854775807) (h0 : 0 ≤ n) (h1 : n ≤ 1048576) : ∃ m, F_laws_szForme [fm x, I n] = some (.ret [I m] []) ∧ m ≤ n ∧ (0 ≤ m → x.2.1.length ≤ 1048576) := by
  rw [t_laws_szForme]
  obtain ⟨m, e, k1, k2⟩ := e_laws_szStringS x.2.1 n h h0 h1
  by_cases hm : m < 0
  · exact ⟨-1, by simp -implicitDefEqProofs [e, hm], by omega, by omega⟩
  · exact ⟨m, by simp -implicitDefEqProofs [e, hm], k1, k2⟩
theorem e_laws_szFormeS (l : List Fm) (n : Int) (h : l.length ≤ 9223372036854775807 ∧ ∀ x ∈ l, x.2.1.length ≤ 9223372036854775807 ∧ ∀ c ∈ x.2.1, c.size ≤ 9223372036854775807) (h0 : 0 ≤ n) (h1 : n ≤ 1048576) : ∃ m, F_laws_szFormeS [fms l, I n] = some (.ret [I m] []) ∧ m ≤ n ∧ (0 ≤ m → okFm l) := by
  have hl := h.1
  rw [t_laws_szFormeS]
  have hw : IntKind.i64.wrap (n - l.length) = n - l.length := wrap_id (by omega) (by omega)
  by_cases hn : n - (l.length : Int) < 0
  · exact ⟨-1, by simp -implicitDefEqProofs [hw, hn], by omega, by omega⟩
  simp -implicitDefEqProofs [hw, hn]
  refine sz_loop (R := fun X => ∃ m, X = some (.ret [I m] []) ∧ m ≤ n ∧ (0 ≤ m → okFm l)) l (fun i m => [fms l, I m, I i]) (fun x => x.2.1.length ≤ 1048576) (fun i hi m g0 g1 => ?_) (fun m => ?_) (n - l.length) (by omega) (by omega) rfl ?_ (fun m g0 g1 gP => ?_)
  · have hwi : IntKind.i64.wrap ((i : Int) + 1) = (i : Int) + 1 := wrap_id (by omega) (by omega)
    obtain ⟨m', e, k1, k2⟩ := e_laws_szForme l[i] m (h.2 _ (List.getElem_mem hi)) g0 g1
    by_cases hm : m' < 0
    · exact .inl (by simp -implicitDefEqProofs [hi, e, hm])
    · exact .inr ⟨m', by simp -implicitDefEqProofs [hi, e, hm, hwi], by omega, k1, k2 (by omega)⟩
  · simp -implicitDefEqProofs
  · exact ⟨-1, by simp -implicitDefEqProofs, by omega, by omega⟩
  · exact ⟨m, by simp -implicitDefEqProofs, by omega, fun _ => ⟨by omega, gP⟩⟩
theorem e_laws_szShop (s : Sp) (h : inSp s) : ∃ m, F_laws_szShop [sp s, I 1048576] = some (.ret [I m] []) ∧ m ≤ 1048576 ∧ (0 ≤ m → okSp s) := by
  rw [t_laws_szShop]
  obtain ⟨m1, e1, k1, k2⟩ := e_laws_szBoxS s.1 1048576 h.1 (by omega) (by omega)
  by_cases h1 : m1 < 0
  · exact ⟨-1, by simp -implicitDefEqProofs [e1, h1], by omega, by omega⟩
  obtain ⟨m2, e2, g1, g2⟩ := e_laws_szFormeS s.2.1 m1 h.2 (by omega) k1
  by_cases h2 : m2 < 0
  · exact ⟨-1, by simp -implicitDefEqProofs [e1, h1, e2, h2], by omega, by omega⟩
  · exact ⟨m2, by simp -implicitDefEqProofs [e1, h1, e2, h2], by omega, fun h => ⟨k2 (by omega), g2 h⟩⟩

end Go.Proofs.Ytfjkapnonljdeaa
/-
  The text of a forme.
-/
namespace Go.Proofs.Ytfjkapnonljdeaa
open Go Go.V
set_option linter.unusedSimpArgs false

theorem findI_at {β : Type} {p : β → Bool} : ∀ {l : List β} {i j : Nat}, findI p i l = some j → i ≤ j ∧ ∃ h : j - i < l.length, p l[j - i] = true ∧ ∀ (k : Nat) (hk : k < l.length), k < j - i → p l[k] = false
  | [], i, j, h => by simp [findI] at h
  | x :: l, i, j, h => by
    simp only [findI] at h
    by_cases hp : p x = true
    · rw [if_pos hp] at h
      cases h
      refine ⟨Nat.le_refl _, by simp, ?_, fun k _ hk => by omega⟩
      simpa using hp
    · rw [if_neg hp] at h
      obtain ⟨h1, h2, h3, h4⟩ := findI_at h
      have e : j - i = (j - (i + 1)) + 1 := by omega
      refine ⟨by omega, by rw [e]; simpa using h2, ?_, fun k hk hlt => ?_⟩
      · have : (x :: l)[j - i]'(by rw [e]; simpa using h2) = l[j - (i + 1)] := by
          simp only [e, List.getElem_cons_succ]
        rw [this]
        exact h3
      · cases k with
        | zero => simpa using hp
        | succ k =>
          rw [List.getElem_cons_succ]
          exact h4 k (by simpa using hk) (by omega)
theorem findI_none {β : Type} {p : β → Bool} : ∀ {l : List β} {i : Nat}, findI p i l = none → ∀ x ∈ l, p x = false
  | [], _, _, x, hx => by cases hx
  | y :: l, i, h, x, hx => by
    simp only [findI] at h
    by_cases hp : p y = true
    · rw [if_pos hp] at h; cases h
    · rw [if_neg hp] at h
      rcases List.mem_cons.1 hx with rfl | hx
      · simpa using hp
      · exact findI_none h x hx
def idP (n : Int) (x : Fm) : Bool := decide (x.1 = n)
theorem e_spec_shFind (s : Sp) (n : Int) (h : okSp s) : F_spec_shFind [sp s, I n] = some (.ret [I ((findI (idP n) 0 s.2.1).elim (-1) fun j => (j : Int))] []) := by
  rw [t_spec_shFind]
  have hl := h.2.1
  simp -implicitDefEqProofs
  refine loop_bind _ (loop_find s.2.1 (fun i => [I n, fms s.2.1, I s.2.1.length, I i]) (idP n) (fun j => .ret [I j] []) (.ext 0 []) (fun i hi => ?_) ?_ (fun _ => rfl) rfl rfl) ?_
  · have hw : IntKind.i64.wrap ((i : Int) + 1) = (i : Int) + 1 := wrap_id (by omega) (by omega)
    by_cases hc : s.2.1[i].1 = n <;> simp -implicitDefEqProofs [hi, hw, hc, idP]
  · simp
  · cases findI (idP n) 0 s.2.1 <;> simp -implicitDefEqProofs
/-- Where a forme is, or would be. -/
theorem e_formeAt (s : Sp) (n : Int) (h : okSp s) : ∃ i : Nat, i ≤ s.2.1.length ∧ (∀ (k : Nat) (hk : k < s.2.1.length), k < i → s.2.1[k].1 < n) ∧ (∀ hi : i < s.2.1.length, ¬ s.2.1[i].1 < n) ∧
    F_impl_Shop_formeAt [sp s, I n] = some (.ret [I (i : Int), B (if hi : i < s.2.1.length then decide (s.2.1[i].1 = n) else false)] []) := by
  rw [t_impl_Shop_formeAt]
  have hl := h.2.1
  simp -implicitDefEqProofs only [show boxD 4 (sp s) = some (sp s) by simp, Option.bind_some]
  refine loop_wf_bind (fun X => ∃ i : Nat, i ≤ s.2.1.length ∧ (∀ (k : Nat) (hk : k < s.2.1.length), k < i → s.2.1[k].1 < n) ∧ (∀ hi : i < s.2.1.length, ¬ s.2.1[i].1 < n) ∧ X = some (.ret [I (i : Int), B (if hi : i < s.2.1.length then decide (s.2.1[i].1 = n) else false)] []))
    (fun i : Nat => [I n, sp s, I (i : Int)]) (fun i => i ≤ s.2.1.length ∧ ∀ (k : Nat) (hk : k < s.2.1.length), k < i → s.2.1[k].1 < n) (fun i => s.2.1.length - i)
    (fun o => ∃ i : Nat, o = .ext 0 [I n, sp s, I (i : Int)] ∧ i ≤ s.2.1.length ∧ (∀ (k : Nat) (hk : k < s.2.1.length), k < i → s.2.1[k].1 < n) ∧ ∀ hi : i < s.2.1.length, ¬ s.2.1[i].1 < n) ?_ 0 ⟨Nat.zero_le _, fun k _ h => by omega⟩ rfl ?_
  · rintro i ⟨g1, g2⟩
    by_cases hi : i < s.2.1.length
    · have hi' : (i : Int) < (s.2.1.length : Int) := by omega
      have hw : IntKind.i64.wrap ((i : Int) + 1) = ((i + 1 : Nat) : Int) := by rw [wrap_id (by omega) (by omega)]; omega
      by_cases hc : s.2.1[i].1 < n
      · left
        refine ⟨i + 1, by simp -implicitDefEqProofs [hi, hi', hc, hw], ⟨by omega, fun k hk hlt => ?_⟩, by omega⟩
        by_cases hki : k = i
        · subst hki; exact hc
        · exact g2 k hk (by omega)
      · right
        exact ⟨.ext 0 [I n, sp s, I (i : Int)], by simp -implicitDefEqProofs [hi, hi', hc], rfl, i, rfl, g1, g2, fun _ => hc⟩
    · right
      have hi' : ¬ (i : Int) < (s.2.1.length : Int) := by omega
      exact ⟨.ext 0 [I n, sp s, I (i : Int)], by simp -implicitDefEqProofs [hi, hi'], rfl, i, rfl, g1, g2, fun h => absurd h hi⟩
  · rintro o ⟨i, rfl, g1, g2, g3⟩
    refine ⟨i, g1, g2, g3, ?_⟩
    by_cases hi : i < s.2.1.length
    · have hi' : (i : Int) < (s.2.1.length : Int) := by omega
      simp -implicitDefEqProofs [hi, hi']
    · have hi' : ¬ (i : Int) < (s.2.1.length : Int) := by omega
      simp -implicitDefEqProofs [hi, hi']
/-- A valid shop's formes come in the order of their numbers. -/
theorem shop_inc {s : Sp} (h : shopOk s = true) : (∀ x ∈ s.2.1, isFm s.1 x = true) ∧ ∀ (i j : Nat) (hj : j < s.2.1.length) (hij : i < j), s.2.1[i].1 < s.2.1[j].1 := by
  simp only [shopOk, Bool.and_eq_true] at h
  have ha := h.1.1.1.1
  have key : ∀ (m : Nat) (k : Nat), k + m = s.2.1.length → allI (pS s) k (s.2.1.drop k) = true → ∀ (j : Nat) (hj : j < s.2.1.length), k ≤ j → pS s j s.2.1[j] = true := by
    intro m
    induction m with
    | zero => intro k hk _ j hj hkj; omega
    | succ m ih =>
      intro k hk hp j hj hkj
      rw [List.drop_eq_getElem_cons (by omega)] at hp
      simp only [allI, Bool.and_eq_true] at hp
      by_cases hkj' : k = j
      · subst hkj'; exact hp.1
      · exact ih (k + 1) (by omega) hp.2 j hj (by omega)
  have hall := key s.2.1.length 0 (by omega) (by rw [List.drop_zero]; exact ha)
  refine ⟨fun x hx => ?_, ?_⟩
  · obtain ⟨j, hj, rfl⟩ := List.getElem_of_mem hx
    have := hall j hj (Nat.zero_le _)
    simp only [pS, Bool.and_eq_true] at this
    exact this.1
  · intro i j
    induction j with
    | zero => intro _ h; omega
    | succ j ih =>
      intro hj hij
      have h1 := hall (j + 1) hj (Nat.zero_le _)
      simp only [pS, Bool.and_eq_true, Bool.not_eq_true', Bool.and_eq_false_iff, decide_eq_false_iff_not] at h1
      have h2 : s.2.1[j].1 < s.2.1[j + 1].1 := by
        rcases h1.2 with h2 | h2
        · omega
        · simp only [Nat.add_sub_cancel] at h2
          have e : (s.2.1.getD j (0, [], false, 0)).1 = s.2.1[j].1 := by simp [show j < s.2.1.length by omega]
          rw [e] at h2
          omega
      by_cases hij' : i = j
      · subst hij'; exact h2
      · exact Int.lt_trans (ih (by omega) (by omega)) h2
theorem code_size {l : List Bx} (h : okBx l) {cs : List ByteArray} (ha : hasAll l cs = true) : ∀ c ∈ cs, c.size ≤ 1048576 := by
  have key : ∀ (m : List ByteArray) (i : Nat), allI (fun _ c => !decide (fB l c < 0)) i m = true → ∀ c ∈ m, c.size ≤ 1048576 := by
    intro m
    induction m with
    | nil => intro i _ c hc; cases hc
    | cons x m ih =>
      intro i hp c hc
      simp only [allI, Bool.and_eq_true, Bool.not_eq_true', decide_eq_false_iff_not] at hp
      rcases List.mem_cons.1 hc with rfl | hc
      · have h1 := hp.1
        unfold fB at h1
        cases hf : findI (fun b : Bx => decide (b.1 = c)) 0 l with
        | none => rw [hf] at h1; simp at h1
        | some j =>
          obtain ⟨_, h2, h3, _⟩ := findI_at hf
          rw [← of_decide_eq_true h3]
          exact h.2 _ (List.getElem_mem h2)
      · exact ih (i + 1) hp.2 c hc
  exact key cs 0 ha
def catT (l : List ByteArray) : ByteArray := l.foldl (· ++ ·) ⟨#[]⟩
theorem catT_size {m : Nat} : ∀ (l : List ByteArray) (a : ByteArray), (∀ c ∈ l, c.size ≤ m) → (l.foldl (· ++ ·) a).size ≤ a.size + l.length * m
  | [], a, _ => by simp
  | x :: l, a, h => by
    have h1 := catT_size (m := m) l (a ++ x) fun c hc => h c (by simp [hc])
    have h2 := h x (by simp)
    rw [ByteArray.size_append] at h1
    rw [List.foldl_cons, List.length_cons, Nat.succ_mul]
    omega
theorem cat_chars : ∀ (l : List ByteArray) (a : ByteArray), chars (l.foldl (· ++ ·) a) = chars a ++ (l.map chars).flatten
  | [], a => by simp
  | x :: l, a => by
    rw [List.foldl_cons, cat_chars l]
    simp [chars]
theorem joinE (l : List ByteArray) : joinOf l ⟨#[]⟩ = catT l := by
  have h : chars (joinOf l ⟨#[]⟩) = chars (catT l) := by
    unfold catT
    rw [cat_chars]
    unfold joinOf
    have : Lib.join (l.map (·.data.toList)) [] = (l.map chars).flatten := by
      cases l with
      | nil => rfl
      | cons x l =>
        rw [List.map_cons, Lib.join_cons]
        simp [Lib.joinTail, chars]
        rfl
    simp only [chars, List.toList_toArray] at this ⊢
    rw [this]
    simp
  cases hx : joinOf l ⟨#[]⟩ with | mk a =>
    cases hy : catT l with | mk b =>
      rw [hx, hy] at h
      simp only [chars] at h
      congr
      exact Array.ext' h
theorem catT_take {l : List ByteArray} {i : Nat} (hi : i < l.length) : catT (l.take (i + 1)) = catT (l.take i) ++ l[i] := by
  unfold catT
  rw [List.take_succ_eq_append_getElem hi, List.foldl_append]
  rfl
/-- The text of the forme with a number. -/
def fmtR (s : Sp) (n : Int) : Option ByteArray := if shopOk s = true then (s.2.1.find? (idP n)).map fun x => catT x.2.1 else none
theorem find_some {s : Sp} {n : Int} (h : shopOk s = true) {j : Nat} (hj : j < s.2.1.length) (e : s.2.1[j].1 = n) : s.2.1.find? (idP n) = some s.2.1[j] := by
  obtain ⟨_, hinc⟩ := shop_inc h
  have key : ∀ (l : List Fm) (k : Nat) (hk : k < l.length), l[k].1 = n → (∀ (i : Nat) (hi : i < l.length), i < k → ¬ l[i].1 = n) → l.find? (idP n) = some l[k] := by
    intro l
    induction l with
    | nil => intro k hk; simp at hk
    | cons x l ih =>
      intro k hk hkn hb
      cases k with
      | zero =>
        simp only [List.getElem_cons_zero] at hkn ⊢
        rw [List.find?_cons_of_pos (by simpa [idP] using hkn)]
      | succ k =>
        have h0 := hb 0 (by simp) (by omega)
        simp only [List.getElem_cons_zero] at h0
        rw [List.find?_cons_of_neg (by simpa [idP] using h0)]
        simp only [List.getElem_cons_succ] at hkn ⊢
        exact ih k (by simpa using hk) hkn fun i hi hik => by
          have := hb (i + 1) (by simpa using hi) (by omega)
          simpa using this
  exact key _ j hj e fun i hi hij he => by
    have := hinc i j hj hij
    omega
theorem e_spec_FormeText (s : Sp) (n : Int) (h : okSp s) : F_spec_FormeText [sp s, I n] = some (.ret [T ((fmtR s n).getD ⟨#[]⟩), B (fmtR s n).isSome] []) := by
  rw [t_spec_FormeText]
  have e0 : (D.v (Value.string { data := { toList := [] } })) = T ⟨#[]⟩ := rfl
  have hb4 : boxD 4 (sp s) = some (sp s) := by simp
  have hf4 : fldD true 4 0 (sp s) = some (sp s) := by simp
  have hsf := e_spec_shFind s n h
  have hsg := e_spec_shGood s h
  unfold fmtR
  cases hg : shopOk s
  · rw [hg] at hsg
    simp -implicitDefEqProofs only [e0, hb4, hf4, Option.bind_some, hsf, hsg, callK_ret, sl_zero, un_not, Bool.not_false, gate_f, if_true, pickD_B, ifD_B, Bool.false_eq_true, if_false]
    rfl
  rw [hg] at hsg
  cases hf : findI (idP n) 0 s.2.1 with
  | none =>
    rw [hf] at hsf
    have hno : s.2.1.find? (idP n) = none := List.find?_eq_none.2 fun x hx => by rw [findI_none hf x hx]; simp
    simp -implicitDefEqProofs only [e0, hb4, hf4, Option.bind_some, hsf, hsg, callK_ret, sl_zero, un_not, Bool.not_true, gate_f, if_true, Bool.false_eq_true, if_false, Option.elim, bin_lss, show (-1 : Int) < 0 by decide, decide_true, pickD_B, ifD_B, hno, Option.map_none]
    rfl
  | some j =>
    rw [hf] at hsf
    obtain ⟨_, h2, h3, _⟩ := findI_at hf
    simp only [Nat.sub_zero] at h2 h3
    have hid := of_decide_eq_true h3
    have hfs := find_some hg h2 hid
    have hneg : ¬ ((j : Int) < 0) := by omega
    have hall := shop_inc hg
    have hfm := hall.1 _ (List.getElem_mem h2)
    simp only [isFm, Bool.and_eq_true, Bool.not_eq_true', decide_eq_false_iff_not] at hfm
    have hcs := code_size h.1 hfm.2
    have hlen : s.2.1[j].2.1.length ≤ 40 := by omega
    have hel : elemD 4 (fms s.2.1) (I (j : Int)) = some [I s.2.1[j].1, txs s.2.1[j].2.1, B s.2.1[j].2.2.1, I s.2.1[j].2.2.2] := by simp [h2]
    simp -implicitDefEqProofs only [e0, hb4, hf4, Option.bind_some, hsf, hsg, callK_ret, sl_zero, un_not, Bool.not_true, gate_f, if_true, Bool.false_eq_true, if_false, Option.elim, bin_lss, hneg, decide_false, pickD_B, ifD_B, hfs, Option.map_some, Option.getD_some, Option.isSome_some, liveD_agg, atD_agg, List.drop_succ_cons, List.drop_zero, takeD_f, hel, offD_ptr, ldD_ptr, lenD_arr, List.length_map]
    generalize s.2.1[j].2.1 = cs at hcs hlen
    refine loop_bind _ (loop_for cs.length (fun i => [T (catT (cs.take i)), txs cs, I cs.length, I i]) (.ext 0 [T (catT cs)]) (fun i hi => ?_) ?_ rfl rfl) ?_
    · have hi' : (i : Int) < (cs.length : Int) := by omega
      have hw : IntKind.i64.wrap ((i : Int) + 1) = ((i + 1 : Nat) : Int) := by rw [wrap_id (by omega) (by omega)]; omega
      have hel : elemD 1 (txs cs) (I (i : Int)) = some [T cs[i]] := by simp [hi]
      have z1 := catT_size (m := 1048576) (cs.take i) ⟨#[]⟩ fun c hc => hcs c (List.mem_of_mem_take hc)
      have z2 := hcs cs[i] (List.getElem_mem hi)
      have z3 : (cs.take i).length ≤ 40 := by rw [List.length_take]; omega
      have z4 : (⟨#[]⟩ : ByteArray).size = 0 := rfl
      have z5 : (catT (cs.take i)).size ≤ 40 * 1048576 := by
        unfold catT
        have : (cs.take i).length * 1048576 ≤ 40 * 1048576 := Nat.mul_le_mul_right _ z3
        omega
      have ha : bin .add false [] (T (catT (cs.take i))) (T cs[i]) = some (T (catT (cs.take (i + 1)))) := by
        rw [bin_addS, if_pos (by omega), catT_take hi]
      show _ = some (Out.nrm [T (catT (cs.take (i + 1))), txs cs, I cs.length, I ((i + 1 : Nat) : Int)])
      simp -implicitDefEqProofs only [sl_zero, sl_succ, bin_lss, hi', decide_true, Option.bind_some, ifD_B, if_true, hel, Option.map_some, ldD_ptr, takeD_f, chkV_v, ha, bin_add, hw]
    · simp
    · simp
theorem e_impl_FormeText (s : Sp) (n : Int) (h : okSp s) : F_impl_FormeText [sp s, I n] = some (.ret [T ((fmtR s n).getD ⟨#[]⟩), B (fmtR s n).isSome] []) := by
  rw [t_impl_FormeText]
  have e0 : (D.v (Value.string { data := { toList := [] } })) = T ⟨#[]⟩ := rfl
  have hb4 : boxD 4 (sp s) = some (sp s) := by simp
  have hf4 : fldD true 4 0 (sp s) = some (sp s) := by simp
  obtain ⟨i, g1, g2, g3, hfa⟩ := e_formeAt s n h
  have hsg := e_impl_IsShop s h
  have tp0 : ∀ (a : Int) (b : Bool), tupAt (.tup [I a, B b]) 0 = some (I a) := fun _ _ => rfl
  have tp1 : ∀ (a : Int) (b : Bool), tupAt (.tup [I a, B b]) 1 = some (B b) := fun _ _ => rfl
  unfold fmtR
  cases hg : shopOk s
  · rw [hg] at hsg
    simp -implicitDefEqProofs only [e0, hb4, hf4, Option.bind_some, hfa, hsg, callK_ret, tp0, tp1, sl_zero, un_not, Bool.not_false, gate_f, if_true, pickD_B, ifD_B, Bool.false_eq_true, if_false]
    rfl
  rw [hg] at hsg
  by_cases hi : i < s.2.1.length ∧ (∃ hi : i < s.2.1.length, s.2.1[i].1 = n)
  · obtain ⟨hi, _, hid⟩ := hi
    rw [dif_pos hi, hid, decide_eq_true rfl] at hfa
    have hfs := find_some hg hi hid
    have hall := shop_inc hg
    have hfm := hall.1 _ (List.getElem_mem hi)
    simp only [isFm, Bool.and_eq_true, Bool.not_eq_true', decide_eq_false_iff_not] at hfm
    have hcs := code_size h.1 hfm.2
    have hlen : s.2.1[i].2.1.length ≤ 40 := by omega
    have hel : elemD 4 (fms s.2.1) (I (i : Int)) = some [I s.2.1[i].1, txs s.2.1[i].2.1, B s.2.1[i].2.2.1, I s.2.1[i].2.2.2] := by simp [hi]
    have z1 := catT_size (m := 1048576) s.2.1[i].2.1 ⟨#[]⟩ hcs
    have z4 : (⟨#[]⟩ : ByteArray).size = 0 := rfl
    have z5 : (catT s.2.1[i].2.1).size ≤ 40 * 1048576 := by
      unfold catT
      have : s.2.1[i].2.1.length * 1048576 ≤ 40 * 1048576 := Nat.mul_le_mul_right _ hlen
      omega
    have hj : fJoin [txs s.2.1[i].2.1, T ⟨#[]⟩] = some (.ret [T (catT s.2.1[i].2.1)] []) := by
      simp only [fJoin, textsOf_T, Option.bind_some, joinE]
      rw [if_pos ⟨by omega, by omega⟩]
    simp -implicitDefEqProofs only [e0, hb4, hf4, Option.bind_some, hfa, hsg, callK_ret, tp0, tp1, sl_zero, un_not, Bool.not_true, gate_f, if_true, Bool.false_eq_true, if_false, pickD_B, ifD_B, hfs, Option.map_some, Option.getD_some, Option.isSome_some, liveD_agg, atD_agg, List.drop_succ_cons, List.drop_zero, takeD_f, hel, offD_ptr, ldD_ptr, hj]
  · have hb : (if hi : i < s.2.1.length then decide (s.2.1[i].1 = n) else false) = false := by
      split
      · rename_i hi'
        exact decide_eq_false fun e => hi ⟨hi', hi', e⟩
      · rfl
    have hno : s.2.1.find? (idP n) = none := List.find?_eq_none.2 fun x hx => by
      obtain ⟨j, hj, rfl⟩ := List.getElem_of_mem hx
      simp only [idP, decide_eq_true_eq]
      intro e
      rcases Nat.lt_trichotomy j i with hji | hji | hji
      · have := g2 j hj hji; omega
      · subst hji; exact hi ⟨hj, hj, e⟩
      · have h1 := (shop_inc hg).2 i j hj hji
        have h2 := g3 (by omega)
        omega
    rw [hb] at hfa
    simp -implicitDefEqProofs only [e0, hb4, hf4, Option.bind_some, hfa, hsg, callK_ret, tp0, tp1, sl_zero, un_not, Bool.not_true, Bool.not_false, gate_f, if_true, Bool.false_eq_true, if_false, pickD_B, ifD_B, hno, Option.map_none]
    rfl
theorem law_FormeText (s : Sp) (n : Int) (h : inSp s) : F_laws_FnExactFormeText [sp s, I n] = some (.ret [B true] []) := by
  rw [t_laws_FnExactFormeText]
  obtain ⟨m, e, _, k⟩ := e_laws_szShop s h
  by_cases hm : m < 0
  · simp -implicitDefEqProofs [e, hm]
  · have hk := k (by omega)
    simp -implicitDefEqProofs [e, hm, e_laws_toShop s hk, e_spec_FormeText s n hk, e_impl_FormeText s n hk, e_laws_eqShop s hk]
end Go.Proofs.Ytfjkapnonljdeaa
