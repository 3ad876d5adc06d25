/-
  What the functions compute: their evaluated texts, printed.
-/
import Derived.Test.YtcnkgmbnmndahaaC2
namespace Go.Proofs.Ytcnkgmbnmndahaa
open Go Go.V
theorem t_laws_szOrderS (x0 x1 : D) : F_laws_szOrderS [x0, x1] =
  ((lenD false x0).bind fun z => (bin BinOp.sub false [] x1 z).bind fun z => (bin BinOp.lss false [] z (D.v (Value.int IntKind.i64 0))).bind fun z_1 =>
 ifD z_1 (some (Out.ret [D.v (Value.int IntKind.i64 (-1))] [])) (some (Out.ret [z] []))) := by kernel_rfl
theorem t_laws_toOrder (x0 : D) : F_laws_toOrder [x0] =
  ((boxD 4 x0).bind fun y => (liveD y (D.ref 0 0)).bind fun z => ((atD y z).bind (takeD false 1)).bind fun z => (liveD (D.agg [D.v (Value.int IntKind.i64 0), D.v (Value.int IntKind.i64 0), D.v (Value.int IntKind.i64 0),
 D.v (Value.int IntKind.i64 0)]) (D.ref 0 0)).bind fun z_1 => (stD 1 (D.agg [D.v (Value.int IntKind.i64 0), D.v (Value.int IntKind.i64 0), D.v (Value.int IntKind.i64 0), D.v (Value.int IntKind.i64 0)]) z_1 z).bind fun b =>
 (liveD y (D.ref 0 1)).bind fun z => ((atD y z).bind (takeD false 1)).bind fun z => (liveD b (D.ref 0 1)).bind fun z_2 => (stD 1 b z_2 z).bind fun b => (liveD y (D.ref 0 2)).bind fun z =>
 ((atD y z).bind (takeD false 1)).bind fun z => (liveD b (D.ref 0 2)).bind fun z_3 => (stD 1 b z_3 z).bind fun b => (liveD y (D.ref 0 3)).bind fun z => ((atD y z).bind (takeD false 1)).bind fun z =>
 (liveD b (D.ref 0 3)).bind fun z_4 => (stD 1 b z_4 z).bind fun b => (fldD true 4 0 b).bind fun z => (stD 4 (D.agg [D.v (Value.int IntKind.i64 0), D.v (Value.int IntKind.i64 0),
 D.v (Value.int IntKind.i64 0), D.v (Value.int IntKind.i64 0)]) (D.ref 0 0) z).bind fun b => (fldD true 4 0 b).bind fun y => some (Out.ret [y] [])) := by kernel_rfl
theorem t_laws_toOrderS (x0 : D) : F_laws_toOrderS [x0] =
  ((lenD false x0).bind fun z => (makD 4 32 (D.agg [D.v (Value.int IntKind.i64 0), D.v (Value.int IntKind.i64 0), D.v (Value.int IntKind.i64 0), D.v (Value.int IntKind.i64 0)]) z z).bind fun y => (loopC (fun s =>
 (lenD false (sl s 0)).bind fun z => (bin BinOp.lss false [] (sl s 2) z).bind fun z => ifD z ((liveD (sl s 1) (D.ref 0 0)).bind fun z => (Option.map D.ptr (elemD 4 (sl s 0) (sl s 2))).bind fun z_1 =>
 ((ldD true 4 z_1).bind chkV).bind fun z_2 => callK (F_laws_toOrder [z_2]) fun rs _u => ((liveD z (sl s 1)).bind fun b => refI 4 b (sl s 2)).bind fun z => (stD 4 (sl s 1) z (sl rs 0)).bind fun b =>
 (bin BinOp.add false [] (sl s 2) (D.v (Value.int IntKind.i64 1))).bind fun z => some (Out.nrm [sl s 0, b, z])) (some (Out.ext 0 [sl s 1]))) [x0, y, D.v (Value.int IntKind.i64 0)]).bind
 fun o => outK o (fun i s => ifN (i.beq 0) (some (Out.ret [sl s 0] [])) none) fun a b => some (Out.ret a b)) := by kernel_rfl
theorem t_spec_l1In (x0 x1 x2 : D) : F_spec_l1In [x0, x1, x2] =
  ((bin BinOp.geq false [] x0 x1).bind fun z => (gate (D.tup []) z true (some x0)).bind fun z_1 => (gate (D.tup []) z true (some x2)).bind fun z_2 => (gate (D.tup []) z true (bin BinOp.leq false [] z_1 z_2)).bind fun z_3 =>
 (pickD z z_3 (D.v (Value.bool false))).bind fun z => some (Out.ret [z] [])) := by kernel_rfl
theorem t_spec_orOne (x0 : D) : F_spec_orOne [x0] =
  ((boxD 4 x0).bind fun y => (liveD y (D.ref 0 0)).bind fun z => ((atD y z).bind (takeD false 1)).bind fun z => callK (F_spec_l1In [z, D.v (Value.int IntKind.i64 1), D.v (Value.int IntKind.i64 99)]) fun rs _u =>
 (gate D.bad (sl rs 0) true (liveD y (D.ref 0 1))).bind fun z => (gate (D.tup []) (sl rs 0) true ((atD y z).bind (takeD false 1))).bind fun z => gateC (sl rs 0) true
 (callK (F_spec_l1In [z, D.v (Value.int IntKind.i64 0), D.v (Value.int IntKind.i64 500)]) fun rs _u => some (Out.nrm [sl rs 0])) [D.tup []] fun outs => (pickD (sl rs 0) (sl outs 0) (D.v (Value.bool false))).bind fun z =>
 (gate D.bad z true (liveD y (D.ref 0 2))).bind fun z_1 => (gate (D.tup []) z true ((atD y z_1).bind (takeD false 1))).bind fun z_2 => gateC z true
 (callK (F_spec_l1In [z_2, D.v (Value.int IntKind.i64 0), D.v (Value.int IntKind.i64 500)]) fun rs _u => some (Out.nrm [sl rs 0])) [D.tup []] fun outs => (pickD z (sl outs 0) (D.v (Value.bool false))).bind fun z =>
 (gate D.bad z true (liveD y (D.ref 0 3))).bind fun z_3 => (gate (D.tup []) z true ((atD y z_3).bind (takeD false 1))).bind fun z_4 => gateC z true (callK
 (F_spec_l1In [z_4, D.v (Value.int IntKind.i64 0), D.v (Value.int IntKind.i64 10000)]) fun rs _u => some (Out.nrm [sl rs 0])) [D.tup []] fun outs =>
 (pickD z (sl outs 0) (D.v (Value.bool false))).bind fun z => some (Out.ret [z] [])) := by kernel_rfl
theorem t_spec_orGood (x0 : D) : F_spec_orGood [x0] =
  ((lenD false x0).bind fun z => (loopC (fun s => (bin BinOp.lss false [] (sl s 3) (sl s 2)).bind fun z => ifD z ((Option.map D.ptr (elemD 4 (sl s 1) (sl s 3))).bind fun z => ((ldD true 4 z).bind chkV).bind fun z => (stD 4
 (D.agg [D.v (Value.int IntKind.i64 0), D.v (Value.int IntKind.i64 0), D.v (Value.int IntKind.i64 0), D.v (Value.int IntKind.i64 0)]) (D.ref 0 0) z).bind fun b => (fldD true 4 0 b).bind fun z =>
 callK (F_spec_orOne [z]) fun rs _u => (un UnOp.not (sl rs 0)).bind fun z => (gate (D.tup []) z false (some (sl s 3))).bind fun z_1 => (gate (D.tup []) z false
 (bin BinOp.gtr false [] z_1 (D.v (Value.int IntKind.i64 0)))).bind fun z_2 => (gate (D.tup []) z false (some z_2)).bind fun z_3 => (gate (D.tup []) z_3 true (some (sl s 0))).bind fun z_4 =>
 (gate (D.tup []) z_3 true (some (sl s 3))).bind fun z_5 => (gate (D.tup []) z_3 true (bin BinOp.sub false [] z_5 (D.v (Value.int IntKind.i64 1)))).bind fun z_6 =>
 (gate (D.tup []) z_3 true (Option.map D.ptr (elemD 4 z_4 z_6))).bind fun z_7 => (gate (D.tup []) z_3 true (offD 0 z_7)).bind fun z_8 => (gate (D.tup []) z_3 true ((ldD false 1 z_8).bind chkV)).bind fun z_9 =>
 (gate D.bad z_3 true (liveD b (D.ref 0 0))).bind fun z_10 => (gate (D.tup []) z_3 true ((atD b z_10).bind (takeD false 1))).bind fun z_11 => (gate (D.tup []) z_3 true (bin BinOp.geq false [] z_9 z_11)).bind fun z_12 =>
 (gate (D.tup []) z false (pickD z_3 z_12 (D.v (Value.bool false)))).bind fun z_13 => (pickD z (D.v (Value.bool true)) z_13).bind fun z => ifD z (some (Out.ret [D.v (Value.bool false)] []))
 ((bin BinOp.add false [] (sl s 3) (D.v (Value.int IntKind.i64 1))).bind fun z => some (Out.nrm [sl s 0, sl s 1, sl s 2, z]))) (some (Out.ext 0 [sl s 0]))) [x0, x0, z, D.v (Value.int IntKind.i64 0)]).bind fun o => outK o
 (fun i s => ifN (i.beq 0) ((lenD false (sl s 0)).bind fun z => (bin BinOp.leq false [] z (D.v (Value.int IntKind.i64 8))).bind fun z => some (Out.ret [z] [])) none) fun a b => some (Out.ret a b)) := by kernel_rfl
theorem t_spec_AreOrders (x0 : D) : F_spec_AreOrders [x0] =
  (callK (F_spec_orGood [x0]) fun rs _u => some (Out.ret [sl rs 0] [])) := by kernel_rfl
theorem t_impl_within (x0 x1 x2 : D) : F_impl_within [x0, x1, x2] =
  ((bin BinOp.geq false [] x0 x1).bind fun z => (gate (D.tup []) z true (some x0)).bind fun z_1 => (gate (D.tup []) z true (some x2)).bind fun z_2 => (gate (D.tup []) z true (bin BinOp.leq false [] z_1 z_2)).bind fun z_3 =>
 (pickD z z_3 (D.v (Value.bool false))).bind fun z => some (Out.ret [z] [])) := by kernel_rfl
theorem t_impl_isOrder (x0 : D) : F_impl_isOrder [x0] =
  ((boxD 4 x0).bind fun y => (liveD y (D.ref 0 0)).bind fun z => ((atD y z).bind (takeD false 1)).bind fun z => callK (F_impl_within [z, D.v (Value.int IntKind.i64 1), D.v (Value.int IntKind.i64 99)]) fun rs _u =>
 (gate D.bad (sl rs 0) true (liveD y (D.ref 0 1))).bind fun z => (gate (D.tup []) (sl rs 0) true ((atD y z).bind (takeD false 1))).bind fun z => gateC (sl rs 0) true
 (callK (F_impl_within [z, D.v (Value.int IntKind.i64 0), D.v (Value.int IntKind.i64 500)]) fun rs _u => some (Out.nrm [sl rs 0])) [D.tup []] fun outs => (pickD (sl rs 0) (sl outs 0) (D.v (Value.bool false))).bind fun z =>
 (gate D.bad z true (liveD y (D.ref 0 2))).bind fun z_1 => (gate (D.tup []) z true ((atD y z_1).bind (takeD false 1))).bind fun z_2 => gateC z true
 (callK (F_impl_within [z_2, D.v (Value.int IntKind.i64 0), D.v (Value.int IntKind.i64 500)]) fun rs _u => some (Out.nrm [sl rs 0])) [D.tup []] fun outs => (pickD z (sl outs 0) (D.v (Value.bool false))).bind fun z =>
 (gate D.bad z true (liveD y (D.ref 0 3))).bind fun z_3 => (gate (D.tup []) z true ((atD y z_3).bind (takeD false 1))).bind fun z_4 => gateC z true (callK (F_impl_within
 [z_4, D.v (Value.int IntKind.i64 0), D.v (Value.int IntKind.i64 10000)]) fun rs _u => some (Out.nrm [sl rs 0])) [D.tup []] fun outs => (pickD z (sl outs 0) (D.v (Value.bool false))).bind fun z => some (Out.ret [z] [])) := by kernel_rfl
theorem t_impl_AreOrders (x0 : D) : F_impl_AreOrders [x0] =
  ((lenD false x0).bind fun z => (loopC (fun s => (bin BinOp.lss false [] (sl s 3) (sl s 2)).bind fun z => ifD z ((Option.map D.ptr (elemD 4 (sl s 1) (sl s 3))).bind fun z => ((ldD true 4 z).bind chkV).bind fun z => (stD 4
 (D.agg [D.v (Value.int IntKind.i64 0), D.v (Value.int IntKind.i64 0), D.v (Value.int IntKind.i64 0), D.v (Value.int IntKind.i64 0)]) (D.ref 0 0) z).bind fun b => (fldD true 4 0 b).bind fun z =>
 callK (F_impl_isOrder [z]) fun rs _u => (un UnOp.not (sl rs 0)).bind fun z => (gate (D.tup []) z false (some (sl s 3))).bind fun z_1 => (gate (D.tup []) z false
 (bin BinOp.gtr false [] z_1 (D.v (Value.int IntKind.i64 0)))).bind fun z_2 => (gate (D.tup []) z false (some z_2)).bind fun z_3 => (gate (D.tup []) z_3 true (some (sl s 0))).bind fun z_4 =>
 (gate (D.tup []) z_3 true (some (sl s 3))).bind fun z_5 => (gate (D.tup []) z_3 true (bin BinOp.sub false [] z_5 (D.v (Value.int IntKind.i64 1)))).bind fun z_6 =>
 (gate (D.tup []) z_3 true (Option.map D.ptr (elemD 4 z_4 z_6))).bind fun z_7 => (gate (D.tup []) z_3 true (offD 0 z_7)).bind fun z_8 => (gate (D.tup []) z_3 true ((ldD false 1 z_8).bind chkV)).bind fun z_9 =>
 (gate D.bad z_3 true (liveD b (D.ref 0 0))).bind fun z_10 => (gate (D.tup []) z_3 true ((atD b z_10).bind (takeD false 1))).bind fun z_11 => (gate (D.tup []) z_3 true (bin BinOp.geq false [] z_9 z_11)).bind fun z_12 =>
 (gate (D.tup []) z false (pickD z_3 z_12 (D.v (Value.bool false)))).bind fun z_13 => (pickD z (D.v (Value.bool true)) z_13).bind fun z => ifD z (some (Out.ret [D.v (Value.bool false)] []))
 ((bin BinOp.add false [] (sl s 3) (D.v (Value.int IntKind.i64 1))).bind fun z => some (Out.nrm [sl s 0, sl s 1, sl s 2, z]))) (some (Out.ext 0 [sl s 0]))) [x0, x0, z, D.v (Value.int IntKind.i64 0)]).bind fun o => outK o
 (fun i s => ifN (i.beq 0) ((lenD false (sl s 0)).bind fun z => (bin BinOp.leq false [] z (D.v (Value.int IntKind.i64 8))).bind fun z => some (Out.ret [z] [])) none) fun a b => some (Out.ret a b)) := by kernel_rfl
theorem t_laws_eqOrder (x0 x1 : D) : F_laws_eqOrder [x0, x1] =
  ((boxD 4 x0).bind fun y => (boxD 4 x1).bind fun y_1 => (liveD y (D.ref 0 0)).bind fun z => ((atD y z).bind (takeD false 1)).bind fun z => (liveD y_1 (D.ref 0 0)).bind fun z_1 =>
 ((atD y_1 z_1).bind (takeD false 1)).bind fun z_2 => (bin BinOp.neq false [] z z_2).bind fun z => ifD z (some (Out.ret [D.v (Value.bool false)] [])) ((liveD y (D.ref 0 1)).bind fun z =>
 ((atD y z).bind (takeD false 1)).bind fun z => (liveD y_1 (D.ref 0 1)).bind fun z_3 => ((atD y_1 z_3).bind (takeD false 1)).bind fun z_4 => (bin BinOp.neq false [] z z_4).bind fun z =>
 ifD z (some (Out.ret [D.v (Value.bool false)] [])) ((liveD y (D.ref 0 2)).bind fun z => ((atD y z).bind (takeD false 1)).bind fun z => (liveD y_1 (D.ref 0 2)).bind fun z_5 =>
 ((atD y_1 z_5).bind (takeD false 1)).bind fun z_6 => (bin BinOp.neq false [] z z_6).bind fun z => ifD z (some (Out.ret [D.v (Value.bool false)] [])) ((liveD y (D.ref 0 3)).bind fun z =>
 ((atD y z).bind (takeD false 1)).bind fun z => (liveD y_1 (D.ref 0 3)).bind fun z_7 => ((atD y_1 z_7).bind (takeD false 1)).bind fun z_8 => (bin BinOp.neq false [] z z_8).bind fun z =>
 ifD z (some (Out.ret [D.v (Value.bool false)] [])) (some (Out.ret [D.v (Value.bool true)] [])))))) := by kernel_rfl
theorem t_laws_eqOrderS (x0 x1 : D) : F_laws_eqOrderS [x0, x1] =
  ((lenD false x0).bind fun z => (lenD false x1).bind fun z_1 => (bin BinOp.neq false [] z z_1).bind fun z => ifD z (some (Out.ret [D.v (Value.bool false)] [])) ((loopC (fun s => (lenD false (sl s 0)).bind fun z =>
 (bin BinOp.lss false [] (sl s 2) z).bind fun z => ifD z ((Option.map D.ptr (elemD 4 (sl s 0) (sl s 2))).bind fun z => ((ldD true 4 z).bind chkV).bind fun z => (Option.map D.ptr (elemD 4 (sl s 1) (sl s 2))).bind fun z_2 =>
 ((ldD true 4 z_2).bind chkV).bind fun z_3 => callK (F_laws_eqOrder [z, z_3]) fun rs _u => (un UnOp.not (sl rs 0)).bind fun z => ifD z (some (Out.ret [D.v (Value.bool false)] []))
 ((bin BinOp.add false [] (sl s 2) (D.v (Value.int IntKind.i64 1))).bind fun z => some (Out.nrm [sl s 0, sl s 1, z]))) (some (Out.ext 0 []))) [x0, x1, D.v (Value.int IntKind.i64 0)]).bind fun o =>
 outK o (fun i _u => ifN (i.beq 0) (some (Out.ret [D.v (Value.bool true)] [])) none) fun a b => some (Out.ret a b))) := by kernel_rfl
theorem t_laws_FnExactAreOrders (x0 : D) : F_laws_FnExactAreOrders [x0] =
  (callK (F_laws_szOrderS [x0, D.v (Value.int IntKind.i64 1048576)]) fun rs _u => (bin BinOp.lss false [] (sl rs 0) (D.v (Value.int IntKind.i64 0))).bind fun z => ifD z (some (Out.ret [D.v (Value.bool true)] []))
 (callK (F_laws_toOrderS [x0]) fun rs _u => callK (F_spec_AreOrders [sl rs 0]) fun rs _u => callK (F_laws_toOrderS [x0]) fun rs_1 _u => callK (F_impl_AreOrders [sl rs_1 0]) fun rs_2 _u =>
 (bin BinOp.neq true [] (sl rs_2 0) (sl rs 0)).bind fun z => ifD z (some (Out.ret [D.v (Value.bool false)] [])) (callK (F_laws_toOrderS [x0]) fun rs _u => callK (F_laws_eqOrderS [sl rs_1 0, sl rs 0]) fun rs _u =>
 (un UnOp.not (sl rs 0)).bind fun z => ifD z (some (Out.ret [D.v (Value.bool false)] [])) (some (Out.ret [D.v (Value.bool true)] []))))) := by kernel_rfl
end Go.Proofs.Ytcnkgmbnmndahaa
