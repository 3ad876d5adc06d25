/-
  What the functions compute: their evaluated texts, printed.
-/
import Derived.Test.YtdgenchlghojlaaRows
import Derived.Test.YtdgenchlghojlaaM4
namespace Go.Proofs.Ytdgenchlghojlaa
open Go Go.V
theorem t_laws_szOrderS (x0 x1 : D) : F_laws_szOrderS [x0, x1] =
  ((lenD false x0).bind fun z => (bin BinOp.sub false [] x1 z).bind fun z => (bin BinOp.lss false [] z (D.v (Value.int IntKind.i64 0))).bind fun z_1 =>
 ifD z_1 (some (Out.ret [D.v (Value.int IntKind.i64 (-1))] [])) (some (Out.ret [z] []))) := by kernel_rfl
theorem t_laws_toOrder (x0 : D) : F_laws_toOrder [x0] =
  ((boxD 4 x0).bind fun y => (liveD y (D.ref 0 0)).bind fun z => ((atD y z).bind (takeD false 1)).bind fun z => (liveD (D.agg [D.v (Value.int IntKind.i64 0), D.v (Value.int IntKind.i64 0), D.v (Value.int IntKind.i64 0),
 D.v (Value.int IntKind.i64 0)]) (D.ref 0 0)).bind fun z_1 => (stD 1 (D.agg [D.v (Value.int IntKind.i64 0), D.v (Value.int IntKind.i64 0), D.v (Value.int IntKind.i64 0), D.v (Value.int IntKind.i64 0)]) z_1 z).bind fun b =>
 (liveD y (D.ref 0 1)).bind fun z => ((atD y z).bind (takeD false 1)).bind fun z => (liveD b (D.ref 0 1)).bind fun z_2 => (stD 1 b z_2 z).bind fun b => (liveD y (D.ref 0 2)).bind fun z =>
 ((atD y z).bind (takeD false 1)).bind fun z => (liveD b (D.ref 0 2)).bind fun z_3 => (stD 1 b z_3 z).bind fun b => (liveD y (D.ref 0 3)).bind fun z => ((atD y z).bind (takeD false 1)).bind fun z =>
 (liveD b (D.ref 0 3)).bind fun z_4 => (stD 1 b z_4 z).bind fun b => (fldD true 4 0 b).bind fun z => (stD 4 (D.agg [D.v (Value.int IntKind.i64 0), D.v (Value.int IntKind.i64 0),
 D.v (Value.int IntKind.i64 0), D.v (Value.int IntKind.i64 0)]) (D.ref 0 0) z).bind fun b => (fldD true 4 0 b).bind fun y => some (Out.ret [y] [])) := by kernel_rfl
theorem t_laws_toOrderS (x0 : D) : F_laws_toOrderS [x0] =
  ((lenD false x0).bind fun z => (makD 4 32 (D.agg [D.v (Value.int IntKind.i64 0), D.v (Value.int IntKind.i64 0), D.v (Value.int IntKind.i64 0), D.v (Value.int IntKind.i64 0)]) z z).bind fun y => (loopC (fun s =>
 (lenD false (sl s 0)).bind fun z => (bin BinOp.lss false [] (sl s 2) z).bind fun z => ifD z ((liveD (sl s 1) (D.ref 0 0)).bind fun z => (Option.map D.ptr (elemD 4 (sl s 0) (sl s 2))).bind fun z_1 =>
 ((ldD true 4 z_1).bind chkV).bind fun z_2 => callK (F_laws_toOrder [z_2]) fun rs _u => ((liveD z (sl s 1)).bind fun b => refI 4 b (sl s 2)).bind fun z => (stD 4 (sl s 1) z (sl rs 0)).bind fun b =>
 (bin BinOp.add false [] (sl s 2) (D.v (Value.int IntKind.i64 1))).bind fun z => some (Out.nrm [sl s 0, b, z])) (some (Out.ext 0 [sl s 1]))) [x0, y, D.v (Value.int IntKind.i64 0)]).bind
 fun o => outK o (fun i s => ifN (i.beq 0) (some (Out.ret [sl s 0] [])) none) fun a b => some (Out.ret a b)) := by kernel_rfl
theorem t_laws_toIntS (x0 : D) : F_laws_toIntS [x0] =
  ((lenD false x0).bind fun z => (makD 1 8 (D.v (Value.int IntKind.i64 0)) z z).bind fun y => (loopC (fun s => (lenD false (sl s 0)).bind fun z => (bin BinOp.lss false [] (sl s 2) z).bind fun z => ifD z
 ((liveD (sl s 1) (D.ref 0 0)).bind fun z => (Option.map D.ptr (elemD 1 (sl s 0) (sl s 2))).bind fun z_1 => ((ldD false 1 z_1).bind chkV).bind fun z_2 => ((liveD z (sl s 1)).bind fun b => refI 1 b (sl s 2)).bind fun z =>
 (stD 1 (sl s 1) z z_2).bind fun b => (bin BinOp.add false [] (sl s 2) (D.v (Value.int IntKind.i64 1))).bind fun z => some (Out.nrm [sl s 0, b, z])) (some (Out.ext 0 [sl s 1]))) [x0, y, D.v (Value.int IntKind.i64 0)]).bind
 fun o => outK o (fun i s => ifN (i.beq 0) (some (Out.ret [sl s 0] [])) none) fun a b => some (Out.ret a b)) := by kernel_rfl
theorem t_spec_l1In (x0 x1 x2 : D) : F_spec_l1In [x0, x1, x2] =
  ((bin BinOp.geq false [] x0 x1).bind fun z => (gate (D.tup []) z true (some x0)).bind fun z_1 => (gate (D.tup []) z true (some x2)).bind fun z_2 => (gate (D.tup []) z true (bin BinOp.leq false [] z_1 z_2)).bind fun z_3 =>
 (pickD z z_3 (D.v (Value.bool false))).bind fun z => some (Out.ret [z] [])) := by kernel_rfl
theorem t_spec_orOne (x0 : D) : F_spec_orOne [x0] =
  ((boxD 4 x0).bind fun y => (liveD y (D.ref 0 0)).bind fun z => ((atD y z).bind (takeD false 1)).bind fun z => callK (F_spec_l1In [z, D.v (Value.int IntKind.i64 1), D.v (Value.int IntKind.i64 99)]) fun rs _u =>
 (gate D.bad (sl rs 0) true (liveD y (D.ref 0 1))).bind fun z => (gate (D.tup []) (sl rs 0) true ((atD y z).bind (takeD false 1))).bind fun z => gateC (sl rs 0) true
 (callK (F_spec_l1In [z, D.v (Value.int IntKind.i64 0), D.v (Value.int IntKind.i64 500)]) fun rs _u => some (Out.nrm [sl rs 0])) [D.tup []] fun outs => (pickD (sl rs 0) (sl outs 0) (D.v (Value.bool false))).bind fun z =>
 (gate D.bad z true (liveD y (D.ref 0 2))).bind fun z_1 => (gate (D.tup []) z true ((atD y z_1).bind (takeD false 1))).bind fun z_2 => gateC z true
 (callK (F_spec_l1In [z_2, D.v (Value.int IntKind.i64 0), D.v (Value.int IntKind.i64 500)]) fun rs _u => some (Out.nrm [sl rs 0])) [D.tup []] fun outs => (pickD z (sl outs 0) (D.v (Value.bool false))).bind fun z =>
 (gate D.bad z true (liveD y (D.ref 0 3))).bind fun z_3 => (gate (D.tup []) z true ((atD y z_3).bind (takeD false 1))).bind fun z_4 => gateC z true (callK
 (F_spec_l1In [z_4, D.v (Value.int IntKind.i64 0), D.v (Value.int IntKind.i64 10000)]) fun rs _u => some (Out.nrm [sl rs 0])) [D.tup []] fun outs =>
 (pickD z (sl outs 0) (D.v (Value.bool false))).bind fun z => some (Out.ret [z] [])) := by kernel_rfl
theorem t_spec_orGood (x0 : D) : F_spec_orGood [x0] =
  ((lenD false x0).bind fun z => (loopC (fun s => (bin BinOp.lss false [] (sl s 3) (sl s 2)).bind fun z => ifD z ((Option.map D.ptr (elemD 4 (sl s 1) (sl s 3))).bind fun z => ((ldD true 4 z).bind chkV).bind fun z => (stD 4
 (D.agg [D.v (Value.int IntKind.i64 0), D.v (Value.int IntKind.i64 0), D.v (Value.int IntKind.i64 0), D.v (Value.int IntKind.i64 0)]) (D.ref 0 0) z).bind fun b => (fldD true 4 0 b).bind fun z =>
 callK (F_spec_orOne [z]) fun rs _u => (un UnOp.not (sl rs 0)).bind fun z => (gate (D.tup []) z false (some (sl s 3))).bind fun z_1 => (gate (D.tup []) z false
 (bin BinOp.gtr false [] z_1 (D.v (Value.int IntKind.i64 0)))).bind fun z_2 => (gate (D.tup []) z false (some z_2)).bind fun z_3 => (gate (D.tup []) z_3 true (some (sl s 0))).bind fun z_4 =>
 (gate (D.tup []) z_3 true (some (sl s 3))).bind fun z_5 => (gate (D.tup []) z_3 true (bin BinOp.sub false [] z_5 (D.v (Value.int IntKind.i64 1)))).bind fun z_6 =>
 (gate (D.tup []) z_3 true (Option.map D.ptr (elemD 4 z_4 z_6))).bind fun z_7 => (gate (D.tup []) z_3 true (offD 0 z_7)).bind fun z_8 => (gate (D.tup []) z_3 true ((ldD false 1 z_8).bind chkV)).bind fun z_9 =>
 (gate D.bad z_3 true (liveD b (D.ref 0 0))).bind fun z_10 => (gate (D.tup []) z_3 true ((atD b z_10).bind (takeD false 1))).bind fun z_11 => (gate (D.tup []) z_3 true (bin BinOp.geq false [] z_9 z_11)).bind fun z_12 =>
 (gate (D.tup []) z false (pickD z_3 z_12 (D.v (Value.bool false)))).bind fun z_13 => (pickD z (D.v (Value.bool true)) z_13).bind fun z => ifD z (some (Out.ret [D.v (Value.bool false)] []))
 ((bin BinOp.add false [] (sl s 3) (D.v (Value.int IntKind.i64 1))).bind fun z => some (Out.nrm [sl s 0, sl s 1, sl s 2, z]))) (some (Out.ext 0 [sl s 0]))) [x0, x0, z, D.v (Value.int IntKind.i64 0)]).bind fun o => outK o
 (fun i s => ifN (i.beq 0) ((lenD false (sl s 0)).bind fun z => (bin BinOp.leq false [] z (D.v (Value.int IntKind.i64 8))).bind fun z => some (Out.ret [z] [])) none) fun a b => some (Out.ret a b)) := by kernel_rfl
theorem t_spec_l1Has (x0 x1 : D) : F_spec_l1Has [x0, x1] =
  ((lenD false x0).bind fun z => (loopC (fun s => (bin BinOp.lss false [] (sl s 3) (sl s 2)).bind fun z => ifD z ((Option.map D.ptr (elemD 1 (sl s 1) (sl s 3))).bind fun z => ((ldD false 1 z).bind chkV).bind fun z =>
 (bin BinOp.eql false [] z (sl s 0)).bind fun z => ifD z (some (Out.ret [D.v (Value.bool true)] [])) ((bin BinOp.add false [] (sl s 3) (D.v (Value.int IntKind.i64 1))).bind fun z =>
 some (Out.nrm [sl s 0, sl s 1, sl s 2, z]))) (some (Out.ext 0 []))) [x1, x0, z, D.v (Value.int IntKind.i64 0)]).bind fun o =>
 outK o (fun i _u => ifN (i.beq 0) (some (Out.ret [D.v (Value.bool false)] [])) none) fun a b => some (Out.ret a b)) := by kernel_rfl
theorem t_spec_orAsked (x0 x1 : D) : F_spec_orAsked [x0, x1] =
  (callK (F_spec_orGood [x0]) fun rs _u => (un UnOp.not (sl rs 0)).bind fun z => (gate (D.tup []) z false (some x1)).bind fun z_1 => (gate (D.tup []) z false (lenD false z_1)).bind fun z_2 =>
 (gate (D.tup []) z false (some x0)).bind fun z_3 => (gate (D.tup []) z false (lenD false z_3)).bind fun z_4 => (gate (D.tup []) z false (bin BinOp.neq false [] z_2 z_4)).bind fun z_5 =>
 (pickD z (D.v (Value.bool true)) z_5).bind fun z => ifD z (some (Out.ret [D.v (Value.bool false)] [])) ((lenD false x1).bind fun z => (loopC (fun s => (bin BinOp.lss false [] (sl s 4) (sl s 3)).bind fun z => ifD z
 ((Option.map D.ptr (elemD 1 (sl s 2) (sl s 4))).bind fun z => ((ldD false 1 z).bind chkV).bind fun z => (lenD false (sl s 0)).bind fun z_6 => (bin BinOp.sub false [] z_6 (D.v (Value.int IntKind.i64 1))).bind fun z_7 =>
 callK (F_spec_l1In [z, D.v (Value.int IntKind.i64 0), z_7]) fun rs _u => (un UnOp.not (sl rs 0)).bind fun z_8 => (gate (D.tup []) z_8 false (some (sl s 1))).bind fun z_9 =>
 (gate (D.tup []) z_8 false (some (sl s 4))).bind fun z_10 => (gate (D.tup []) z_8 false (sliceD false 1 z_9 (D.v (Value.int IntKind.i64 0)) z_10)).bind fun z_11 => (gate (D.tup []) z_8 false (some z)).bind fun z =>
 gateC z_8 false (callK (F_spec_l1Has [z_11, z]) fun rs _u => some (Out.nrm [sl rs 0])) [D.tup []] fun outs => (pickD z_8 (D.v (Value.bool true)) (sl outs 0)).bind fun z =>
 ifD z (some (Out.ret [D.v (Value.bool false)] [])) ((bin BinOp.add false [] (sl s 4) (D.v (Value.int IntKind.i64 1))).bind fun z => some (Out.nrm [sl s 0, sl s 1, sl s 2, sl s 3, z]))) (some (Out.ext 0 [])))
 [x0, x1, x1, z, D.v (Value.int IntKind.i64 0)]).bind fun o => outK o (fun i _u => ifN (i.beq 0) (some (Out.ret [D.v (Value.bool true)] [])) none) fun a b => some (Out.ret a b))) := by kernel_rfl
theorem t_spec_l1Most (x0 x1 : D) : F_spec_l1Most [x0, x1] =
  ((bin BinOp.gtr false [] x0 x1).bind fun z => ifD z (some (Out.ret [x0] [])) (some (Out.ret [x1] []))) := by kernel_rfl
theorem t_spec_orTimes (x0 x1 : D) : F_spec_orTimes [x0, x1] =
  ((lenD false x1).bind fun z => (loopC (fun s => (bin BinOp.lss false [] (sl s 7) (sl s 6)).bind fun z => ifD z ((Option.map D.ptr (elemD 1 (sl s 5) (sl s 7))).bind fun z => ((ldD false 1 z).bind chkV).bind fun z =>
 (Option.map D.ptr (elemD 4 (sl s 0) z)).bind fun z_1 => (offD 1 z_1).bind fun z_2 => ((ldD false 1 z_2).bind chkV).bind fun z_3 => (bin BinOp.add false [] (sl s 2) z_3).bind fun z_4 =>
 (bin BinOp.sub false [] z_4 (sl s 3)).bind fun z_5 => callK (F_spec_l1Most [D.v (Value.int IntKind.i64 0), z_5]) fun rs _u => (bin BinOp.add false [] (sl s 4) (sl rs 0)).bind fun z_6 =>
 callK (F_spec_l1Most [sl s 3, z_4]) fun rs _u => (Option.map D.ptr (elemD 4 (sl s 0) z)).bind fun z => (offD 2 z).bind fun z => ((ldD false 1 z).bind chkV).bind fun z => (bin BinOp.add false [] (sl rs 0) z).bind fun z =>
 (mkArr 1 [z]).bind fun a => (chkA a).bind fun b => (appD 1 8 (sl s 1) b).bind fun y => (bin BinOp.add false [] (sl s 7) (D.v (Value.int IntKind.i64 1))).bind fun z_7 =>
 some (Out.nrm [sl s 0, y, z_4, z, z_6, sl s 5, sl s 6, z_7])) (some (Out.ext 0 [sl s 1, sl s 4]))) [x0, D.arr 1 [], D.v (Value.int IntKind.i64 0), D.v (Value.int IntKind.i64 0), D.v (Value.int IntKind.i64 0),
 x1, z, D.v (Value.int IntKind.i64 0)]).bind fun o => outK o (fun i s => ifN (i.beq 0) (some (Out.ret [sl s 0, sl s 1] [])) none) fun a b => some (Out.ret a b)) := by kernel_rfl
theorem t_spec_FinishTimes (x0 x1 : D) : F_spec_FinishTimes [x0, x1] =
  (callK (F_spec_orAsked [x0, x1]) fun rs _u => (un UnOp.not (sl rs 0)).bind fun z => ifD z (some (Out.ret [D.arr 1 [], D.v (Value.bool false)] [])) (callK (F_spec_orTimes [x0, x1]) fun rs _u =>
 (tupAt (D.tup rs) 0).bind fun y => (tupAt (tupCut (D.tup rs) 0) 1).bind fun _u => some (Out.ret [y, D.v (Value.bool true)] []))) := by kernel_rfl
theorem t_impl_isOrder (x0 : D) : F_impl_isOrder [x0] =
  ((boxD 4 x0).bind fun y => (liveD y (D.ref 0 0)).bind fun z => ((atD y z).bind (takeD false 1)).bind fun z => callK (F_impl_within [z, D.v (Value.int IntKind.i64 1), D.v (Value.int IntKind.i64 99)]) fun rs _u =>
 (gate D.bad (sl rs 0) true (liveD y (D.ref 0 1))).bind fun z => (gate (D.tup []) (sl rs 0) true ((atD y z).bind (takeD false 1))).bind fun z => gateC (sl rs 0) true
 (callK (F_impl_within [z, D.v (Value.int IntKind.i64 0), D.v (Value.int IntKind.i64 500)]) fun rs _u => some (Out.nrm [sl rs 0])) [D.tup []] fun outs => (pickD (sl rs 0) (sl outs 0) (D.v (Value.bool false))).bind fun z =>
 (gate D.bad z true (liveD y (D.ref 0 2))).bind fun z_1 => (gate (D.tup []) z true ((atD y z_1).bind (takeD false 1))).bind fun z_2 => gateC z true
 (callK (F_impl_within [z_2, D.v (Value.int IntKind.i64 0), D.v (Value.int IntKind.i64 500)]) fun rs _u => some (Out.nrm [sl rs 0])) [D.tup []] fun outs => (pickD z (sl outs 0) (D.v (Value.bool false))).bind fun z =>
 (gate D.bad z true (liveD y (D.ref 0 3))).bind fun z_3 => (gate (D.tup []) z true ((atD y z_3).bind (takeD false 1))).bind fun z_4 => gateC z true (callK (F_impl_within
 [z_4, D.v (Value.int IntKind.i64 0), D.v (Value.int IntKind.i64 10000)]) fun rs _u => some (Out.nrm [sl rs 0])) [D.tup []] fun outs => (pickD z (sl outs 0) (D.v (Value.bool false))).bind fun z => some (Out.ret [z] [])) := by kernel_rfl
theorem t_impl_AreOrders (x0 : D) : F_impl_AreOrders [x0] =
  ((lenD false x0).bind fun z => (loopC (fun s => (bin BinOp.lss false [] (sl s 3) (sl s 2)).bind fun z => ifD z ((Option.map D.ptr (elemD 4 (sl s 1) (sl s 3))).bind fun z => ((ldD true 4 z).bind chkV).bind fun z => (stD 4
 (D.agg [D.v (Value.int IntKind.i64 0), D.v (Value.int IntKind.i64 0), D.v (Value.int IntKind.i64 0), D.v (Value.int IntKind.i64 0)]) (D.ref 0 0) z).bind fun b => (fldD true 4 0 b).bind fun z =>
 callK (F_impl_isOrder [z]) fun rs _u => (un UnOp.not (sl rs 0)).bind fun z => (gate (D.tup []) z false (some (sl s 3))).bind fun z_1 => (gate (D.tup []) z false
 (bin BinOp.gtr false [] z_1 (D.v (Value.int IntKind.i64 0)))).bind fun z_2 => (gate (D.tup []) z false (some z_2)).bind fun z_3 => (gate (D.tup []) z_3 true (some (sl s 0))).bind fun z_4 =>
 (gate (D.tup []) z_3 true (some (sl s 3))).bind fun z_5 => (gate (D.tup []) z_3 true (bin BinOp.sub false [] z_5 (D.v (Value.int IntKind.i64 1)))).bind fun z_6 =>
 (gate (D.tup []) z_3 true (Option.map D.ptr (elemD 4 z_4 z_6))).bind fun z_7 => (gate (D.tup []) z_3 true (offD 0 z_7)).bind fun z_8 => (gate (D.tup []) z_3 true ((ldD false 1 z_8).bind chkV)).bind fun z_9 =>
 (gate D.bad z_3 true (liveD b (D.ref 0 0))).bind fun z_10 => (gate (D.tup []) z_3 true ((atD b z_10).bind (takeD false 1))).bind fun z_11 => (gate (D.tup []) z_3 true (bin BinOp.geq false [] z_9 z_11)).bind fun z_12 =>
 (gate (D.tup []) z false (pickD z_3 z_12 (D.v (Value.bool false)))).bind fun z_13 => (pickD z (D.v (Value.bool true)) z_13).bind fun z => ifD z (some (Out.ret [D.v (Value.bool false)] []))
 ((bin BinOp.add false [] (sl s 3) (D.v (Value.int IntKind.i64 1))).bind fun z => some (Out.nrm [sl s 0, sl s 1, sl s 2, z]))) (some (Out.ext 0 [sl s 0]))) [x0, x0, z, D.v (Value.int IntKind.i64 0)]).bind fun o => outK o
 (fun i s => ifN (i.beq 0) ((lenD false (sl s 0)).bind fun z => (bin BinOp.leq false [] z (D.v (Value.int IntKind.i64 8))).bind fun z => some (Out.ret [z] [])) none) fun a b => some (Out.ret a b)) := by kernel_rfl
theorem t_impl_isSequence (x0 x1 : D) : F_impl_isSequence [x0, x1] =
  (callK (F_impl_AreOrders [x0]) fun rs _u => (gate (D.tup []) (sl rs 0) true (some x1)).bind fun z => (gate (D.tup []) (sl rs 0) true (lenD false z)).bind fun z => (gate (D.tup []) (sl rs 0) true (some x0)).bind fun z_1 =>
 (gate (D.tup []) (sl rs 0) true (lenD false z_1)).bind fun z_2 => (gate (D.tup []) (sl rs 0) true (bin BinOp.eql false [] z z_2)).bind fun z => (pickD (sl rs 0) z (D.v (Value.bool false))).bind fun z =>
 (gate (D.tup []) z true (some x1)).bind fun z_3 => (gate (D.tup []) z true (some x0)).bind fun z_4 => (gate (D.tup []) z true (lenD false z_4)).bind fun z_5 =>
 gateC z true (callK (fDif [z_3, z_5]) fun rs _u => some (Out.nrm [sl rs 0])) [D.tup []] fun outs => (pickD z (sl outs 0) (D.v (Value.bool false))).bind fun z => some (Out.ret [z] [])) := by kernel_rfl
theorem t_impl_finished (x0 x1 : D) : F_impl_finished [x0, x1] =
  ((mkArr 1 []).bind fun a => (lenD false x1).bind fun z => (loopC (fun s => (bin BinOp.lss false [] (sl s 6) (sl s 5)).bind fun z => ifD z ((Option.map D.ptr (elemD 1 (sl s 4) (sl s 6))).bind fun z =>
 ((ldD false 1 z).bind chkV).bind fun z => (Option.map D.ptr (elemD 4 (sl s 0) z)).bind fun z_1 => (offD 1 z_1).bind fun z_2 => ((ldD false 1 z_2).bind chkV).bind fun z_3 =>
 (bin BinOp.add false [] (sl s 2) z_3).bind fun z_4 => ((maxD (sl s 3) z_4).bind fun z => some z).bind fun z_5 => (Option.map D.ptr (elemD 4 (sl s 0) z)).bind fun z => (offD 2 z).bind fun z =>
 ((ldD false 1 z).bind chkV).bind fun z => (bin BinOp.add false [] z_5 z).bind fun z => (mkArr 1 [z]).bind fun a => (chkA a).bind fun b => (appD 1 8 (sl s 1) b).bind fun y =>
 (bin BinOp.add false [] (sl s 6) (D.v (Value.int IntKind.i64 1))).bind fun z_6 => some (Out.nrm [sl s 0, y, z_4, z, sl s 4, sl s 5, z_6])) (some (Out.ext 0 [sl s 1])))
 [x0, a, D.v (Value.int IntKind.i64 0), D.v (Value.int IntKind.i64 0), x1, z, D.v (Value.int IntKind.i64 0)]).bind fun o => outK o (fun i s => ifN (i.beq 0) (some (Out.ret [sl s 0] [])) none) fun a b => some (Out.ret a b)) := by kernel_rfl
theorem t_impl_FinishTimes (x0 x1 : D) : F_impl_FinishTimes [x0, x1] =
  (callK (F_impl_isSequence [x0, x1]) fun rs _u => (un UnOp.not (sl rs 0)).bind fun z => ifD z ((mkArr 1 []).bind fun a => some (Out.ret [a, D.v (Value.bool false)] []))
 (callK (F_impl_finished [x0, x1]) fun rs _u => some (Out.ret [sl rs 0, D.v (Value.bool true)] []))) := by kernel_rfl
theorem t_laws_eqIntS (x0 x1 : D) : F_laws_eqIntS [x0, x1] =
  ((lenD false x0).bind fun z => (lenD false x1).bind fun z_1 => (bin BinOp.neq false [] z z_1).bind fun z => ifD z (some (Out.ret [D.v (Value.bool false)] [])) ((loopC (fun s => (lenD false (sl s 0)).bind fun z =>
 (bin BinOp.lss false [] (sl s 2) z).bind fun z => ifD z ((Option.map D.ptr (elemD 1 (sl s 0) (sl s 2))).bind fun z => ((ldD false 1 z).bind chkV).bind fun z =>
 (Option.map D.ptr (elemD 1 (sl s 1) (sl s 2))).bind fun z_2 => ((ldD false 1 z_2).bind chkV).bind fun z_3 => (bin BinOp.neq false [] z z_3).bind fun z => ifD z (some (Out.ret [D.v (Value.bool false)] []))
 ((bin BinOp.add false [] (sl s 2) (D.v (Value.int IntKind.i64 1))).bind fun z => some (Out.nrm [sl s 0, sl s 1, z]))) (some (Out.ext 0 []))) [x0, x1, D.v (Value.int IntKind.i64 0)]).bind fun o =>
 outK o (fun i _u => ifN (i.beq 0) (some (Out.ret [D.v (Value.bool true)] [])) none) fun a b => some (Out.ret a b))) := by kernel_rfl
theorem t_laws_eqOrder (x0 x1 : D) : F_laws_eqOrder [x0, x1] =
  ((boxD 4 x0).bind fun y => (boxD 4 x1).bind fun y_1 => (liveD y (D.ref 0 0)).bind fun z => ((atD y z).bind (takeD false 1)).bind fun z => (liveD y_1 (D.ref 0 0)).bind fun z_1 =>
 ((atD y_1 z_1).bind (takeD false 1)).bind fun z_2 => (bin BinOp.neq false [] z z_2).bind fun z => ifD z (some (Out.ret [D.v (Value.bool false)] [])) ((liveD y (D.ref 0 1)).bind fun z =>
 ((atD y z).bind (takeD false 1)).bind fun z => (liveD y_1 (D.ref 0 1)).bind fun z_3 => ((atD y_1 z_3).bind (takeD false 1)).bind fun z_4 => (bin BinOp.neq false [] z z_4).bind fun z =>
 ifD z (some (Out.ret [D.v (Value.bool false)] [])) ((liveD y (D.ref 0 2)).bind fun z => ((atD y z).bind (takeD false 1)).bind fun z => (liveD y_1 (D.ref 0 2)).bind fun z_5 =>
 ((atD y_1 z_5).bind (takeD false 1)).bind fun z_6 => (bin BinOp.neq false [] z z_6).bind fun z => ifD z (some (Out.ret [D.v (Value.bool false)] [])) ((liveD y (D.ref 0 3)).bind fun z =>
 ((atD y z).bind (takeD false 1)).bind fun z => (liveD y_1 (D.ref 0 3)).bind fun z_7 => ((atD y_1 z_7).bind (takeD false 1)).bind fun z_8 => (bin BinOp.neq false [] z z_8).bind fun z =>
 ifD z (some (Out.ret [D.v (Value.bool false)] [])) (some (Out.ret [D.v (Value.bool true)] [])))))) := by kernel_rfl
theorem t_laws_eqOrderS (x0 x1 : D) : F_laws_eqOrderS [x0, x1] =
  ((lenD false x0).bind fun z => (lenD false x1).bind fun z_1 => (bin BinOp.neq false [] z z_1).bind fun z => ifD z (some (Out.ret [D.v (Value.bool false)] [])) ((loopC (fun s => (lenD false (sl s 0)).bind fun z =>
 (bin BinOp.lss false [] (sl s 2) z).bind fun z => ifD z ((Option.map D.ptr (elemD 4 (sl s 0) (sl s 2))).bind fun z => ((ldD true 4 z).bind chkV).bind fun z => (Option.map D.ptr (elemD 4 (sl s 1) (sl s 2))).bind fun z_2 =>
 ((ldD true 4 z_2).bind chkV).bind fun z_3 => callK (F_laws_eqOrder [z, z_3]) fun rs _u => (un UnOp.not (sl rs 0)).bind fun z => ifD z (some (Out.ret [D.v (Value.bool false)] []))
 ((bin BinOp.add false [] (sl s 2) (D.v (Value.int IntKind.i64 1))).bind fun z => some (Out.nrm [sl s 0, sl s 1, z]))) (some (Out.ext 0 []))) [x0, x1, D.v (Value.int IntKind.i64 0)]).bind fun o =>
 outK o (fun i _u => ifN (i.beq 0) (some (Out.ret [D.v (Value.bool true)] [])) none) fun a b => some (Out.ret a b))) := by kernel_rfl
theorem t_laws_markOrderS (x0 x1 : D) : F_laws_markOrderS [x0, x1] =
  ((loopC (fun s => (liveD (sl s 0) (D.ref 0 0)).bind fun z => ((liveD z (sl s 0)).bind (lenD false)).bind fun z => (bin BinOp.lss false [] (sl s 2) z).bind fun z => ifD z ((liveD (sl s 0) (D.ref 0 0)).bind fun z =>
 ((liveD z (sl s 0)).bind fun b => refI 4 b (sl s 2)).bind fun z => (refAdd 0 z).bind fun z => (stD 1 (sl s 0) z (sl s 1)).bind fun b => (bin BinOp.add false [] (sl s 1) (D.v (Value.int IntKind.i64 1))).bind fun z =>
 (liveD b (D.ref 0 0)).bind fun z_1 => ((liveD z_1 b).bind fun b => refI 4 b (sl s 2)).bind fun z_2 => (refAdd 1 z_2).bind fun z_3 => (stD 1 b z_3 z).bind fun b =>
 (bin BinOp.add false [] z (D.v (Value.int IntKind.i64 1))).bind fun z => (liveD b (D.ref 0 0)).bind fun z_4 => ((liveD z_4 b).bind fun b => refI 4 b (sl s 2)).bind fun z_5 => (refAdd 2 z_5).bind fun z_6 =>
 (stD 1 b z_6 z).bind fun b => (bin BinOp.add false [] z (D.v (Value.int IntKind.i64 1))).bind fun z => (liveD b (D.ref 0 0)).bind fun z_7 => ((liveD z_7 b).bind fun b => refI 4 b (sl s 2)).bind fun z_8 =>
 (refAdd 3 z_8).bind fun z_9 => (stD 1 b z_9 z).bind fun b => (bin BinOp.add false [] z (D.v (Value.int IntKind.i64 1))).bind fun z => (bin BinOp.add false [] (sl s 2) (D.v (Value.int IntKind.i64 1))).bind
 fun z_10 => some (Out.nrm [b, z, z_10])) (some (Out.ext 0 [sl s 0, sl s 1]))) [x0, x1, D.v (Value.int IntKind.i64 0)]).bind fun o =>
 outK o (fun i s => ifN (i.beq 0) ((liveD (sl s 0) (sl s 0)).bind fun _u => some (Out.ret [sl s 1] [sl s 0])) none) fun a b => some (Out.ret a b)) := by kernel_rfl
theorem t_laws_markIntS (x0 x1 : D) : F_laws_markIntS [x0, x1] =
  ((loopC (fun s => (liveD (sl s 0) (D.ref 0 0)).bind fun z => ((liveD z (sl s 0)).bind (lenD false)).bind fun z => (bin BinOp.lss false [] (sl s 2) z).bind fun z => ifD z ((liveD (sl s 0) (D.ref 0 0)).bind fun z =>
 ((liveD z (sl s 0)).bind fun b => refI 1 b (sl s 2)).bind fun z => (stD 1 (sl s 0) z (sl s 1)).bind fun b => (bin BinOp.add false [] (sl s 1) (D.v (Value.int IntKind.i64 1))).bind fun z =>
 (bin BinOp.add false [] (sl s 2) (D.v (Value.int IntKind.i64 1))).bind fun z_1 => some (Out.nrm [b, z, z_1])) (some (Out.ext 0 [sl s 0, sl s 1]))) [x0, x1, D.v (Value.int IntKind.i64 0)]).bind fun o =>
 outK o (fun i s => ifN (i.beq 0) ((liveD (sl s 0) (sl s 0)).bind fun _u => some (Out.ret [sl s 1] [sl s 0])) none) fun a b => some (Out.ret a b)) := by kernel_rfl
theorem t_laws_heldIntS (x0 x1 : D) : F_laws_heldIntS [x0, x1] =
  ((loopC (fun s => (lenD false (sl s 0)).bind fun z => (bin BinOp.lss false [] (sl s 2) z).bind fun z => ifD z ((Option.map D.ptr (elemD 1 (sl s 0) (sl s 2))).bind fun z => ((ldD false 1 z).bind chkV).bind fun z =>
 (bin BinOp.neq false [] z (sl s 1)).bind fun z => ifD z (some (Out.ret [D.v (Value.int IntKind.i64 (-1))] [])) ((bin BinOp.add false [] (sl s 1) (D.v (Value.int IntKind.i64 1))).bind fun z =>
 (bin BinOp.add false [] (sl s 2) (D.v (Value.int IntKind.i64 1))).bind fun z_1 => some (Out.nrm [sl s 0, z, z_1]))) (some (Out.ext 0 [sl s 1]))) [x0, x1, D.v (Value.int IntKind.i64 0)]).bind
 fun o => outK o (fun i s => ifN (i.beq 0) (some (Out.ret [sl s 0] [])) none) fun a b => some (Out.ret a b)) := by kernel_rfl
theorem t_laws_FnExactFinishTimes (x0 x1 : D) : F_laws_FnExactFinishTimes [x0, x1] =
  ((lenD false x1).bind fun z => (bin BinOp.gtr false [] z (D.v (Value.int IntKind.i64 1048576))).bind fun z => ifD z (some (Out.ret [D.v (Value.bool true)] []))
 (callK (F_laws_szOrderS [x0, D.v (Value.int IntKind.i64 1048576)]) fun rs _u => (bin BinOp.lss false [] (sl rs 0) (D.v (Value.int IntKind.i64 0))).bind fun z => ifD z (some (Out.ret [D.v (Value.bool true)] []))
 (callK (F_laws_toOrderS [x0]) fun rs _u => callK (F_laws_toIntS [x1]) fun rs_1 _u => callK (F_spec_FinishTimes [sl rs 0, sl rs_1 0]) fun rs _u => (tupAt (D.tup rs) 0).bind fun y =>
 (tupAt (tupCut (D.tup rs) 0) 1).bind fun z => callK (F_laws_toOrderS [x0]) fun rs _u => (liveD (sl rs 0) (D.ref 0 0)).bind fun z_1 => callK (F_laws_toIntS [x1]) fun rs_2 _u =>
 (liveD (sl rs_2 0) (D.ref 0 0)).bind fun z_2 => (liveD z_1 (D.ref 0 0)).bind fun z_3 => (liveD z_2 (D.ref 0 0)).bind fun z_4 => (liveD z_3 (sl rs 0)).bind fun i => (liveD z_4 (sl rs_2 0)).bind fun i_1 =>
 callK (F_impl_FinishTimes [i, i_1]) fun rs_3 _u => (tupAt (D.tup rs_3) 0).bind fun y_1 => (tupAt (tupCut (D.tup rs_3) 0) 1).bind fun z_5 => (liveD y_1 (D.ref 0 0)).bind fun z_6 => (liveD z_6 (D.ref 0 0)).bind fun z_7 =>
 (liveD z_7 y_1).bind fun i => callK (F_laws_eqIntS [i, y]) fun rs_4 _u => (un UnOp.not (sl rs_4 0)).bind fun z_8 => (gate (D.tup []) z_8 false (some z_5)).bind fun z_9 =>
 (gate (D.tup []) z_8 false (some z)).bind fun z_10 => (gate (D.tup []) z_8 false (bin BinOp.neq true [] z_9 z_10)).bind fun z_11 => (pickD z_8 (D.v (Value.bool true)) z_11).bind fun z_12 =>
 ifD z_12 (some (Out.ret [D.v (Value.bool false)] [])) ((liveD z_1 (D.ref 0 0)).bind fun z_13 => callK (F_laws_toOrderS [x0]) fun rs_5 _u => (liveD z_13 (sl rs 0)).bind fun i => callK (F_laws_eqOrderS [i, sl rs_5 0])
 fun rs_6 _u => (un UnOp.not (sl rs_6 0)).bind fun z_14 => ifD z_14 (some (Out.ret [D.v (Value.bool false)] [])) ((liveD z_2 (D.ref 0 0)).bind fun z_15 => callK (F_laws_toIntS [x1]) fun rs_7 _u =>
 (liveD z_15 (sl rs_2 0)).bind fun i => callK (F_laws_eqIntS [i, sl rs_7 0]) fun rs_8 _u => (un UnOp.not (sl rs_8 0)).bind fun z_16 => ifD z_16 (some (Out.ret [D.v (Value.bool false)] [])) ((liveD z_1 (D.ref 0 0)).bind
 fun z_17 => (ref0 z_17 (sl rs 0)).bind fun i => (liveD i i).bind fun i => callK (F_laws_markOrderS [i, D.v (Value.int IntKind.i64 1)]) fun rs _u => (liveD z_2 (D.ref 0 0)).bind fun z_18 => (ref0 z_18 (sl rs_2 0)).bind
 fun i => (liveD i i).bind fun i => callK (F_laws_markIntS [i, sl rs 0]) fun rs _u => (bin BinOp.lss false [] (sl rs 0) (D.v (Value.int IntKind.i64 0))).bind fun z_19 => (gate D.bad z_19 false (liveD z_6 (D.ref 0 0))).bind
 fun z_20 => (gate (D.tup []) z_19 false (some y)).bind fun z_21 => gateC z_19 false ((liveD z_20 y_1).bind fun i => callK (F_laws_eqIntS [i, z_21]) fun rs _u => some (Out.nrm [sl rs 0])) [D.tup []] fun outs => (gate
 (D.tup []) z_19 false (un UnOp.not (sl outs 0))).bind fun z_22 => (pickD z_19 (D.v (Value.bool true)) z_22).bind fun z_23 => (gate (D.tup []) z_23 false (some z_5)).bind fun z_24 => (gate (D.tup []) z_23 false (some
 z)).bind fun z_25 => (gate (D.tup []) z_23 false (bin BinOp.neq true [] z_24 z_25)).bind fun z_26 => (pickD z_23 (D.v (Value.bool true)) z_26).bind fun z_27 => ifD z_27 (some (Out.ret [D.v (Value.bool false)] [])) ((liveD
 z_6 (D.ref 0 0)).bind fun z_28 => (ref0 z_28 y_1).bind fun i => (liveD i i).bind fun i => callK (F_laws_markIntS [i, D.v (Value.int IntKind.i64 1)]) fun rs us => (liveD z_6 (D.ref 0 0)).bind fun z_29 => (liveD z_29 (sl us
 0)).bind fun i => callK (F_laws_heldIntS [i, D.v (Value.int IntKind.i64 1)]) fun rs_9 _u => (bin BinOp.lss false [] (sl rs_9 0) (D.v (Value.int IntKind.i64 0))).bind fun z_30 => ifD z_30 (some (Out.ret [D.v (Value.bool
 false)] [])) ((bin BinOp.neq false [] (sl rs_9 0) (sl rs 0)).bind fun z_31 => ifD z_31 (some (Out.ret [D.v (Value.bool false)] [])) (callK (F_laws_toOrderS [x0]) fun rs_10 _u => callK (F_laws_toIntS [x1]) fun rs_11 _u =>
 callK (F_impl_FinishTimes [sl rs_10 0, sl rs_11 0]) fun rs_12 _u => (tupAt (D.tup rs_12) 0).bind fun y_2 => (tupAt (tupCut (D.tup rs_12) 0) 1).bind fun z_32 => callK (F_laws_eqIntS [y_2, y]) fun rs_13 _u => (un UnOp.not
 (sl rs_13 0)).bind fun z_33 => (gate (D.tup []) z_33 false (some z_32)).bind fun z_34 => (gate (D.tup []) z_33 false (some z)).bind fun z => (gate (D.tup []) z_33 false (bin BinOp.neq true [] z_34 z)).bind fun z => (pickD
 z_33 (D.v (Value.bool true)) z).bind fun z => ifD z (some (Out.ret [D.v (Value.bool false)] [])) ((liveD z_6 (D.ref 0 0)).bind fun z => (liveD z (sl us 0)).bind fun i => callK (F_laws_heldIntS [i, D.v (Value.int
 IntKind.i64 1)]) fun rs_14 _u => (bin BinOp.lss false [] (sl rs_14 0) (D.v (Value.int IntKind.i64 0))).bind fun z => ifD z (some (Out.ret [D.v (Value.bool false)] [])) ((bin BinOp.neq false [] (sl rs_14 0) (sl rs 0)).bind
 fun z => ifD z (some (Out.ret [D.v (Value.bool false)] [])) (some (Out.ret [D.v (Value.bool true)] []))))))))))))) := by kernel_rfl
theorem t_spec_orLate (x0 x1 : D) : F_spec_orLate [x0, x1] =
  (callK (F_spec_orTimes [x0, x1]) fun rs _u => (tupAt (D.tup rs) 0).bind fun y => (tupAt (tupCut (D.tup rs) 0) 1).bind fun _u => (lenD false x1).bind fun z => (loopC (fun s =>
 (bin BinOp.lss false [] (sl s 5) (sl s 4)).bind fun z => ifD z ((Option.map D.ptr (elemD 1 (sl s 3) (sl s 5))).bind fun z => ((ldD false 1 z).bind chkV).bind fun z =>
 (Option.map D.ptr (elemD 1 (sl s 1) (sl s 5))).bind fun z_1 => ((ldD false 1 z_1).bind chkV).bind fun z_2 => (Option.map D.ptr (elemD 4 (sl s 0) z)).bind fun z => (offD 3 z).bind fun z =>
 ((ldD false 1 z).bind chkV).bind fun z => (bin BinOp.sub false [] z_2 z).bind fun z => callK (F_spec_l1Most [D.v (Value.int IntKind.i64 0), z]) fun rs _u => (mkArr 1 [sl rs 0]).bind fun a => (chkA a).bind fun b =>
 (appD 1 8 (sl s 2) b).bind fun y => (bin BinOp.add false [] (sl s 5) (D.v (Value.int IntKind.i64 1))).bind fun z => some (Out.nrm [sl s 0, sl s 1, y, sl s 3, sl s 4, z])) (some (Out.ext 0 [sl s 2])))
 [x0, y, D.arr 1 [], x1, z, D.v (Value.int IntKind.i64 0)]).bind fun o => outK o (fun i s => ifN (i.beq 0) (some (Out.ret [sl s 0] [])) none) fun a b => some (Out.ret a b)) := by kernel_rfl
theorem t_spec_juSum (x0 : D) : F_spec_juSum [x0] =
  ((lenD false x0).bind fun z => (loopC (fun s => (bin BinOp.lss false [] (sl s 3) (sl s 2)).bind fun z => ifD z ((Option.map D.ptr (elemD 1 (sl s 1) (sl s 3))).bind fun z => ((ldD false 1 z).bind chkV).bind fun z =>
 (bin BinOp.add false [] (sl s 0) z).bind fun z => (bin BinOp.add false [] (sl s 3) (D.v (Value.int IntKind.i64 1))).bind fun z_1 => some (Out.nrm [z, sl s 1, sl s 2, z_1])) (some (Out.ext 0 [sl s 0])))
 [D.v (Value.int IntKind.i64 0), x0, z, D.v (Value.int IntKind.i64 0)]).bind fun o => outK o (fun i s => ifN (i.beq 0) (some (Out.ret [sl s 0] [])) none) fun a b => some (Out.ret a b)) := by kernel_rfl
theorem t_spec_TotalLateness (x0 x1 : D) : F_spec_TotalLateness [x0, x1] =
  (callK (F_spec_orAsked [x0, x1]) fun rs _u => (un UnOp.not (sl rs 0)).bind fun z => ifD z (some (Out.ret [D.v (Value.int IntKind.i64 0), D.v (Value.bool false)] [])) (callK (F_spec_orLate [x0, x1]) fun rs _u =>
 callK (F_spec_juSum [sl rs 0]) fun rs _u => some (Out.ret [sl rs 0, D.v (Value.bool true)] []))) := by kernel_rfl
theorem t_impl_lateness (x0 x1 : D) : F_impl_lateness [x0, x1] =
  ((mkArr 1 []).bind fun a => callK (F_impl_finished [x0, x1]) fun rs _u => (lenD false (sl rs 0)).bind fun z => (loopC (fun s => (bin BinOp.lss false [] (sl s 5) (sl s 4)).bind fun z => ifD z
 ((Option.map D.ptr (elemD 1 (sl s 3) (sl s 5))).bind fun z => ((ldD false 1 z).bind chkV).bind fun z => (Option.map D.ptr (elemD 1 (sl s 1) (sl s 5))).bind fun z_1 => ((ldD false 1 z_1).bind chkV).bind fun z_2 =>
 (Option.map D.ptr (elemD 4 (sl s 0) z_2)).bind fun z_3 => (offD 3 z_3).bind fun z_4 => ((ldD false 1 z_4).bind chkV).bind fun z_5 => (bin BinOp.sub false [] z z_5).bind fun z =>
 ((maxD (D.v (Value.int IntKind.i64 0)) z).bind fun z => some z).bind fun z => (mkArr 1 [z]).bind fun a => (chkA a).bind fun b => (appD 1 8 (sl s 2) b).bind fun y =>
 (bin BinOp.add false [] (sl s 5) (D.v (Value.int IntKind.i64 1))).bind fun z => some (Out.nrm [sl s 0, sl s 1, y, sl s 3, sl s 4, z])) (some (Out.ext 0 [sl s 2])))
 [x0, x1, a, sl rs 0, z, D.v (Value.int IntKind.i64 0)]).bind fun o => outK o (fun i s => ifN (i.beq 0) (some (Out.ret [sl s 0] [])) none) fun a b => some (Out.ret a b)) := by kernel_rfl
theorem t_impl_sum (x0 : D) : F_impl_sum [x0] =
  ((lenD false x0).bind fun z => (loopC (fun s => (bin BinOp.lss false [] (sl s 3) (sl s 2)).bind fun z => ifD z ((Option.map D.ptr (elemD 1 (sl s 1) (sl s 3))).bind fun z => ((ldD false 1 z).bind chkV).bind fun z =>
 (bin BinOp.add false [] (sl s 0) z).bind fun z => (bin BinOp.add false [] (sl s 3) (D.v (Value.int IntKind.i64 1))).bind fun z_1 => some (Out.nrm [z, sl s 1, sl s 2, z_1])) (some (Out.ext 0 [sl s 0])))
 [D.v (Value.int IntKind.i64 0), x0, z, D.v (Value.int IntKind.i64 0)]).bind fun o => outK o (fun i s => ifN (i.beq 0) (some (Out.ret [sl s 0] [])) none) fun a b => some (Out.ret a b)) := by kernel_rfl
theorem t_impl_TotalLateness (x0 x1 : D) : F_impl_TotalLateness [x0, x1] =
  (callK (F_impl_isSequence [x0, x1]) fun rs _u => (un UnOp.not (sl rs 0)).bind fun z => ifD z (some (Out.ret [D.v (Value.int IntKind.i64 0), D.v (Value.bool false)] [])) (callK (F_impl_lateness [x0, x1]) fun rs _u =>
 callK (F_impl_sum [sl rs 0]) fun rs _u => some (Out.ret [sl rs 0, D.v (Value.bool true)] []))) := by kernel_rfl
theorem t_laws_FnExactTotalLateness (x0 x1 : D) : F_laws_FnExactTotalLateness [x0, x1] =
  ((lenD false x1).bind fun z => (bin BinOp.gtr false [] z (D.v (Value.int IntKind.i64 1048576))).bind fun z => ifD z (some (Out.ret [D.v (Value.bool true)] []))
 (callK (F_laws_szOrderS [x0, D.v (Value.int IntKind.i64 1048576)]) fun rs _u => (bin BinOp.lss false [] (sl rs 0) (D.v (Value.int IntKind.i64 0))).bind fun z => ifD z (some (Out.ret [D.v (Value.bool true)] []))
 (callK (F_laws_toOrderS [x0]) fun rs _u => callK (F_laws_toIntS [x1]) fun rs_1 _u => callK (F_spec_TotalLateness [sl rs 0, sl rs_1 0]) fun rs _u => (tupAt (D.tup rs) 0).bind fun z => (tupAt (D.tup rs) 1).bind fun z_1 =>
 callK (F_laws_toOrderS [x0]) fun rs _u => callK (F_laws_toIntS [x1]) fun rs_2 _u => callK (F_impl_TotalLateness [sl rs 0, sl rs_2 0]) fun rs_3 _u => (tupAt (D.tup rs_3) 0).bind fun z_2 =>
 (tupAt (D.tup rs_3) 1).bind fun z_3 => (bin BinOp.neq false [] z_2 z).bind fun z => (gate (D.tup []) z false (some z_3)).bind fun z_4 => (gate (D.tup []) z false (some z_1)).bind fun z_5 =>
 (gate (D.tup []) z false (bin BinOp.neq true [] z_4 z_5)).bind fun z_6 => (pickD z (D.v (Value.bool true)) z_6).bind fun z => ifD z (some (Out.ret [D.v (Value.bool false)] [])) (callK (F_laws_toOrderS [x0]) fun rs_4 _u =>
 callK (F_laws_eqOrderS [sl rs 0, sl rs_4 0]) fun rs _u => (un UnOp.not (sl rs 0)).bind fun z => ifD z (some (Out.ret [D.v (Value.bool false)] [])) (callK (F_laws_toIntS [x1]) fun rs _u =>
 callK (F_laws_eqIntS [sl rs_2 0, sl rs 0]) fun rs _u => (un UnOp.not (sl rs 0)).bind fun z => ifD z (some (Out.ret [D.v (Value.bool false)] [])) (some (Out.ret [D.v (Value.bool true)] []))))))) := by kernel_rfl
theorem t_spec_IdlePress (x0 x1 : D) : F_spec_IdlePress [x0, x1] =
  (callK (F_spec_orAsked [x0, x1]) fun rs _u => (un UnOp.not (sl rs 0)).bind fun z => ifD z (some (Out.ret [D.v (Value.int IntKind.i64 0), D.v (Value.bool false)] [])) (callK (F_spec_orTimes [x0, x1]) fun rs _u =>
 (tupAt (D.tup rs) 0).bind fun _u => (tupAt (tupCut (D.tup rs) 0) 1).bind fun z => some (Out.ret [z, D.v (Value.bool true)] []))) := by kernel_rfl
theorem t_impl_greatest (x0 : D) : F_impl_greatest [x0] =
  ((lenD false x0).bind fun z => (loopC (fun s => (bin BinOp.lss false [] (sl s 3) (sl s 2)).bind fun z => ifD z ((Option.map D.ptr (elemD 1 (sl s 1) (sl s 3))).bind fun z => ((ldD false 1 z).bind chkV).bind fun z =>
 ((maxD (sl s 0) z).bind fun z => some z).bind fun z => (bin BinOp.add false [] (sl s 3) (D.v (Value.int IntKind.i64 1))).bind fun z_1 => some (Out.nrm [z, sl s 1, sl s 2, z_1])) (some (Out.ext 0 [sl s 0])))
 [D.v (Value.int IntKind.i64 0), x0, z, D.v (Value.int IntKind.i64 0)]).bind fun o => outK o (fun i s => ifN (i.beq 0) (some (Out.ret [sl s 0] [])) none) fun a b => some (Out.ret a b)) := by kernel_rfl
theorem t_impl_IdlePress (x0 x1 : D) : F_impl_IdlePress [x0, x1] =
  (callK (F_impl_isSequence [x0, x1]) fun rs _u => (un UnOp.not (sl rs 0)).bind fun z => ifD z (some (Out.ret [D.v (Value.int IntKind.i64 0), D.v (Value.bool false)] [])) (callK (F_impl_finished [x0, x1]) fun rs _u =>
 callK (F_impl_greatest [sl rs 0]) fun rs _u => (lenD false x0).bind fun z => (loopC (fun s => (bin BinOp.lss false [] (sl s 3) (sl s 2)).bind fun z => ifD z ((Option.map D.ptr (elemD 4 (sl s 1) (sl s 3))).bind fun z =>
 ((ldD true 4 z).bind chkV).bind fun z => (stD 4 (D.agg [D.v (Value.int IntKind.i64 0), D.v (Value.int IntKind.i64 0), D.v (Value.int IntKind.i64 0), D.v (Value.int IntKind.i64 0)]) (D.ref 0 0) z).bind fun b =>
 (liveD b (D.ref 0 2)).bind fun z => ((atD b z).bind (takeD false 1)).bind fun z => (bin BinOp.sub false [] (sl s 0) z).bind fun z => (bin BinOp.add false [] (sl s 3) (D.v (Value.int IntKind.i64 1))).bind fun z_1 =>
 some (Out.nrm [z, sl s 1, sl s 2, z_1])) (some (Out.ext 0 [sl s 0]))) [sl rs 0, x0, z, D.v (Value.int IntKind.i64 0)]).bind fun o =>
 outK o (fun i s => ifN (i.beq 0) (some (Out.ret [sl s 0, D.v (Value.bool true)] [])) none) fun a b => some (Out.ret a b))) := by kernel_rfl
theorem t_laws_FnExactIdlePress (x0 x1 : D) : F_laws_FnExactIdlePress [x0, x1] =
  ((lenD false x1).bind fun z => (bin BinOp.gtr false [] z (D.v (Value.int IntKind.i64 1048576))).bind fun z => ifD z (some (Out.ret [D.v (Value.bool true)] []))
 (callK (F_laws_szOrderS [x0, D.v (Value.int IntKind.i64 1048576)]) fun rs _u => (bin BinOp.lss false [] (sl rs 0) (D.v (Value.int IntKind.i64 0))).bind fun z => ifD z (some (Out.ret [D.v (Value.bool true)] []))
 (callK (F_laws_toOrderS [x0]) fun rs _u => callK (F_laws_toIntS [x1]) fun rs_1 _u => callK (F_spec_IdlePress [sl rs 0, sl rs_1 0]) fun rs _u => (tupAt (D.tup rs) 0).bind fun z => (tupAt (D.tup rs) 1).bind fun z_1 =>
 callK (F_laws_toOrderS [x0]) fun rs _u => callK (F_laws_toIntS [x1]) fun rs_2 _u => callK (F_impl_IdlePress [sl rs 0, sl rs_2 0]) fun rs_3 _u => (tupAt (D.tup rs_3) 0).bind fun z_2 =>
 (tupAt (D.tup rs_3) 1).bind fun z_3 => (bin BinOp.neq false [] z_2 z).bind fun z => (gate (D.tup []) z false (some z_3)).bind fun z_4 => (gate (D.tup []) z false (some z_1)).bind fun z_5 =>
 (gate (D.tup []) z false (bin BinOp.neq true [] z_4 z_5)).bind fun z_6 => (pickD z (D.v (Value.bool true)) z_6).bind fun z => ifD z (some (Out.ret [D.v (Value.bool false)] [])) (callK (F_laws_toOrderS [x0]) fun rs_4 _u =>
 callK (F_laws_eqOrderS [sl rs 0, sl rs_4 0]) fun rs _u => (un UnOp.not (sl rs 0)).bind fun z => ifD z (some (Out.ret [D.v (Value.bool false)] [])) (callK (F_laws_toIntS [x1]) fun rs _u =>
 callK (F_laws_eqIntS [sl rs_2 0, sl rs 0]) fun rs _u => (un UnOp.not (sl rs 0)).bind fun z => ifD z (some (Out.ret [D.v (Value.bool false)] [])) (some (Out.ret [D.v (Value.bool true)] []))))))) := by kernel_rfl
end Go.Proofs.Ytdgenchlghojlaa
/-
  Orders: what the functions compute, said plainly.
-/
namespace Go.Proofs.Ytdgenchlghojlaa
open Go Go.V
set_option linter.unusedSimpArgs false

abbrev Od := Int × Int × Int × Int
abbrev od (x : Od) : D := .agg [I x.1, I x.2.1, I x.2.2.1, I x.2.2.2]
abbrev ods (l : List Od) : D := .arr 4 (l.map od)

theorem e_spec_l1In (a b c : Int) : F_spec_l1In [I a, I b, I c] = some (.ret [B (decide (b ≤ a ∧ a ≤ c))] []) := by
  rw [t_spec_l1In]
  by_cases h : b ≤ a <;> simp [h]
theorem e_impl_within (a b c : Int) : F_impl_within [I a, I b, I c] = some (.ret [B (decide (b ≤ a ∧ a ≤ c))] []) := by
  rw [t_impl_within]
  by_cases h : b ≤ a <;> simp [h]
theorem e_laws_toOrder (x : Od) : F_laws_toOrder [od x] = some (.ret [od x] []) := by
  rw [t_laws_toOrder]
  simp -implicitDefEqProofs
def isOd (x : Od) : Bool := decide (1 ≤ x.1 ∧ x.1 ≤ 99) && decide (0 ≤ x.2.1 ∧ x.2.1 ≤ 500) && decide (0 ≤ x.2.2.1 ∧ x.2.2.1 ≤ 500) && decide (0 ≤ x.2.2.2 ∧ x.2.2.2 ≤ 10000)
theorem e_spec_orOne (x : Od) : F_spec_orOne [od x] = some (.ret [B (isOd x)] []) := by
  rw [t_spec_orOne]
  by_cases h1 : 1 ≤ x.1 ∧ x.1 ≤ 99 <;> by_cases h2 : 0 ≤ x.2.1 ∧ x.2.1 ≤ 500 <;> by_cases h3 : 0 ≤ x.2.2.1 ∧ x.2.2.1 ≤ 500 <;> simp -implicitDefEqProofs [e_spec_l1In, isOd, h1, h2, h3]
theorem e_impl_isOrder (x : Od) : F_impl_isOrder [od x] = some (.ret [B (isOd x)] []) := by
  rw [t_impl_isOrder]
  by_cases h1 : 1 ≤ x.1 ∧ x.1 ≤ 99 <;> by_cases h2 : 0 ≤ x.2.1 ∧ x.2.1 ≤ 500 <;> by_cases h3 : 0 ≤ x.2.2.1 ∧ x.2.2.1 ≤ 500 <;> simp -implicitDefEqProofs [e_impl_within, isOd, h1, h2, h3]
theorem e_laws_szOrderS (l : List Od) (n : Int) : ∃ m, F_laws_szOrderS [ods l, I n] = some (.ret [I m] []) ∧ (0 ≤ m → m = IntKind.i64.wrap (n - l.length)) := by
  rw [t_laws_szOrderS]
  by_cases h : IntKind.i64.wrap (n - l.length) < 0
  · exact ⟨-1, by simp [h], by omega⟩
  · exact ⟨_, by simp [h], fun _ => rfl⟩
theorem e_laws_toOrderS (l : List Od) (h : l.length ≤ 1048576) : F_laws_toOrderS [ods l] = some (.ret [ods l] []) := by
  rw [t_laws_toOrderS]
  have h1 : l.length * 32 ≤ 140737488355328 := by omega
  have h2 : l.length ≤ 140737488355328 := by omega
  simp only [lenD_arr, List.length_map, Option.bind_some, makD_nat, Nat.le_refl, h1, h2, and_self, if_true]
  rw [fillL_zero (f := od) (l := l)]
  refine loop_bind (.ext 0 [ods l]) (loop_for l.length (fun i => [ods l, .arr 4 (fillL od (od (0, 0, 0, 0)) l i), I i]) _ (fun i hi => ?_) ?_ rfl rfl) ?_
  · have hx := List.getElem?_eq_getElem hi
    have hg := fillL_get (f := od) (z := od (0, 0, 0, 0)) hi
    have hs := fillL_set (f := od) (z := od (0, 0, 0, 0)) hx
    have hw : IntKind.i64.wrap ((i : Int) + 1) = (i : Int) + 1 := wrap_id (by omega) (by omega)
    simp -implicitDefEqProofs [hi, e_laws_toOrder, Nat.le_of_lt hi, stD_arr hg, hs, hw]
  · simp [fillL_full]
  · simp
/-- Are a list orders? -/
def pOd (l : List Od) (i : Nat) (x : Od) : Bool := isOd x && !(decide (0 < i) && decide (x.1 ≤ (l.getD (i - 1) (0, 0, 0, 0)).1))
def goodO (l : List Od) : Bool := allI (pOd l) 0 l && decide (l.length ≤ 8)
theorem e_spec_orGood (l : List Od) (h : l.length ≤ 1048576) : F_spec_orGood [ods l] = some (.ret [B (goodO l)] []) := by
  rw [t_spec_orGood]
  simp only [lenD_arr, List.length_map, Option.bind_some]
  refine loop_bind _ (loop_all l (fun i => [ods l, ods l, I l.length, I i]) (pOd l) (.ret [B false] []) (.ext 0 [ods l]) (fun i hi => ?_) ?_ rfl rfl rfl) ?_
  · have hw : IntKind.i64.wrap ((i : Int) + 1) = (i : Int) + 1 := wrap_id (by omega) (by omega)
    cases h1 : isOd l[i]
    · simp -implicitDefEqProofs [hi, e_spec_orOne, h1, pOd]
    · by_cases h0 : 0 < i
      · have hw2 : IntKind.i64.wrap ((i : Int) - 1) = ((i - 1 : Nat) : Int) := by rw [wrap_id (by omega) (by omega)]; omega
        have hy : i - 1 < l.length := by omega
        by_cases h2 : l[i].1 ≤ l[i - 1].1 <;> simp -implicitDefEqProofs [hi, hy, e_spec_orOne, h1, pOd, hw, hw2, h0, h2]
      · simp -implicitDefEqProofs [hi, e_spec_orOne, h1, pOd, hw, h0]
  · simp
  · by_cases hg : allI (pOd l) 0 l = true <;> simp [hg, goodO]
    omega
theorem e_impl_AreOrders (l : List Od) (h : l.length ≤ 1048576) : F_impl_AreOrders [ods l] = some (.ret [B (goodO l)] []) := by
  rw [t_impl_AreOrders]
  simp only [lenD_arr, List.length_map, Option.bind_some]
  refine loop_bind _ (loop_all l (fun i => [ods l, ods l, I l.length, I i]) (pOd l) (.ret [B false] []) (.ext 0 [ods l]) (fun i hi => ?_) ?_ rfl rfl rfl) ?_
  · have hw : IntKind.i64.wrap ((i : Int) + 1) = (i : Int) + 1 := wrap_id (by omega) (by omega)
    cases h1 : isOd l[i]
    · simp -implicitDefEqProofs [hi, e_impl_isOrder, h1, pOd]
    · by_cases h0 : 0 < i
      · have hw2 : IntKind.i64.wrap ((i : Int) - 1) = ((i - 1 : Nat) : Int) := by rw [wrap_id (by omega) (by omega)]; omega
        have hy : i - 1 < l.length := by omega
        by_cases h2 : l[i].1 ≤ l[i - 1].1 <;> simp -implicitDefEqProofs [hi, hy, e_impl_isOrder, h1, pOd, hw, hw2, h0, h2]
      · simp -implicitDefEqProofs [hi, e_impl_isOrder, h1, pOd, hw, h0]
  · simp
  · by_cases hg : allI (pOd l) 0 l = true <;> simp [hg, goodO]
    omega
theorem e_laws_eqOrder (x : Od) : F_laws_eqOrder [od x, od x] = some (.ret [B true] []) := by
  rw [t_laws_eqOrder]
  simp -implicitDefEqProofs
theorem e_laws_eqOrderS (l : List Od) (h : l.length ≤ 1048577) : F_laws_eqOrderS [ods l, ods l] = some (.ret [B true] []) := by
  rw [t_laws_eqOrderS]
  simp only [lenD_arr, List.length_map, Option.bind_some, bin_neq, decide_true, Bool.not_true, ifD_B, Bool.false_eq_true, if_false]
  refine loop_bind _ (loop_for l.length (fun i => [ods l, ods l, I i]) (.ext 0 []) (fun i hi => ?_) ?_ rfl rfl) ?_
  · have hw : IntKind.i64.wrap ((i : Int) + 1) = (i : Int) + 1 := wrap_id (by omega) (by omega)
    simp -implicitDefEqProofs [hi, e_laws_eqOrder, hw]
  · simp
  · simp
end Go.Proofs.Ytdgenchlghojlaa
/-
  Numbers and orders: copies, marks.
-/
namespace Go.Proofs.Ytdgenchlghojlaa
open Go Go.V
set_option linter.unusedSimpArgs false

abbrev ints (l : List Int) : D := .arr 1 (l.map I)
theorem e_laws_toIntS (l : List Int) (h : l.length ≤ 1048576) : F_laws_toIntS [ints l] = some (.ret [ints l] []) := by
  rw [t_laws_toIntS]
  have h1 : l.length * 8 ≤ 140737488355328 := by omega
  have h2 : l.length ≤ 140737488355328 := by omega
  simp only [lenD_arr, List.length_map, Option.bind_some, makD_nat, Nat.le_refl, h1, h2, and_self, if_true]
  rw [fillL_zero (f := fun n => I n) (l := l)]
  refine loop_bind (.ext 0 [ints l]) (loop_for l.length (fun i => [ints l, .arr 1 (fillL (fun n => I n) (I 0) l i), I i]) _ (fun i hi => ?_) ?_ rfl rfl) ?_
  · have hx := List.getElem?_eq_getElem hi
    have hg := fillL_get (f := fun n => I n) (z := I 0) hi
    have hs := fillL_set (f := fun n => I n) (z := I 0) hx
    have hw : IntKind.i64.wrap ((i : Int) + 1) = (i : Int) + 1 := wrap_id (by omega) (by omega)
    
    simp -implicitDefEqProofs [hi, Nat.le_of_lt hi, stD_arr1 hg, hs, hw]
  · simp [fillL_full]
  · simp
theorem e_laws_eqIntS (l : List Int) (h : l.length ≤ 1048577) : F_laws_eqIntS [ints l, ints l] = some (.ret [B true] []) := by
  rw [t_laws_eqIntS]
  simp only [lenD_arr, List.length_map, Option.bind_some, bin_neq, decide_true, Bool.not_true, ifD_B, Bool.false_eq_true, if_false]
  refine loop_bind _ (loop_for l.length (fun i => [ints l, ints l, I i]) (.ext 0 []) (fun i hi => ?_) ?_ rfl rfl) ?_
  · have hw : IntKind.i64.wrap ((i : Int) + 1) = (i : Int) + 1 := wrap_id (by omega) (by omega)
    simp -implicitDefEqProofs [hi, hw]
  · simp
  · simp
def marksI (k : Int) (n : Nat) : List Int := (List.range n).map fun (j : Nat) => k + (j : Int)
theorem e_laws_markIntS (l : List Int) (k : Int) (h : l.length ≤ 1048577) (h1 : 0 ≤ k) (h2 : k ≤ 100000000) : F_laws_markIntS [ints l, I k] = some (.ret [I (k + l.length)] [ints (marksI k l.length)]) := by
  rw [t_laws_markIntS]
  refine loop_bind _ (loop_for l.length (fun i => [.arr 1 (markL (fun (j : Nat) => I (k + (j : Int))) (fun n => I n) l i), I (k + i), I i]) (.ext 0 [ints (marksI k l.length), I (k + l.length)]) (fun i hi => ?_) ?_ rfl ?_) ?_
  · have hw : IntKind.i64.wrap ((i : Int) + 1) = (i : Int) + 1 := wrap_id (by omega) (by omega)
    have w1 : IntKind.i64.wrap (k + (i : Int) + 1) = k + (i + 1) := by rw [wrap_id (by omega) (by omega)]; omega
    have hg := markL_get (g := fun (j : Nat) => I (k + (j : Int))) (f := fun n => I n) hi
    have hs := markL_set (g := fun (j : Nat) => I (k + (j : Int))) (f := fun n => I n) hi
    have hl := markL_length (g := fun (j : Nat) => I (k + (j : Int))) (f := fun n => I n) (Nat.le_of_lt hi)
    generalize markL (fun (j : Nat) => I (k + (j : Int))) (fun n => I n) l i = L at *
    have s1 := stD_arr1 (z := 1) (v := .int .i64 (k + i)) hg
    simp [hi, hl, hw, w1, s1]
    exact hs
  · simp [markL_full, marksI]
  · simp [markL_zero (g := fun (j : Nat) => I (k + (j : Int))) (f := fun n => I n)]
  · simp
theorem e_laws_heldIntS (k : Int) (n : Nat) (h : n ≤ 1048577) (h1 : 0 ≤ k) (h2 : k ≤ 100000000) : F_laws_heldIntS [ints (marksI k n), I k] = some (.ret [I (k + n)] []) := by
  rw [t_laws_heldIntS]
  refine loop_bind _ (loop_for n (fun i => [ints (marksI k n), I (k + i), I i]) (.ext 0 [I (k + n)]) (fun i hi => ?_) ?_ rfl ?_) ?_
  · have hw : IntKind.i64.wrap ((i : Int) + 1) = (i : Int) + 1 := wrap_id (by omega) (by omega)
    have w1 : IntKind.i64.wrap (k + (i : Int) + 1) = k + (i + 1) := by rw [wrap_id (by omega) (by omega)]; omega
    simp [marksI, hi, hw, w1]
  · simp [marksI]
  · simp
  · simp
def mk4 (k : Int) (j : Nat) : Od := (k + 4 * j, k + 4 * j + 1, k + 4 * j + 2, k + 4 * j + 3)
def marksO (k : Int) (n : Nat) : List Od := (List.range n).map (mk4 k)
theorem e_laws_markOrderS (l : List Od) (k : Int) (h : l.length ≤ 1048577) (h1 : 0 ≤ k) (h2 : k ≤ 100000000) : F_laws_markOrderS [ods l, I k] = some (.ret [I (k + 4 * l.length)] [ods (marksO k l.length)]) := by
  rw [t_laws_markOrderS]
  refine loop_bind _ (loop_for l.length (fun i => [.arr 4 (markL (fun j => od (mk4 k j)) od l i), I (k + 4 * i), I i]) (.ext 0 [ods (marksO k l.length), I (k + 4 * l.length)]) (fun i hi => ?_) ?_ rfl ?_) ?_
  · have hw : IntKind.i64.wrap ((i : Int) + 1) = (i : Int) + 1 := wrap_id (by omega) (by omega)
    have w1 : IntKind.i64.wrap (k + 4 * (i : Int) + 1) = k + 4 * i + 1 := wrap_id (by omega) (by omega)
    have w2 : IntKind.i64.wrap (k + 4 * (i : Int) + 1 + 1) = k + 4 * i + 2 := by rw [wrap_id (by omega) (by omega)]; omega
    have w3 : IntKind.i64.wrap (k + 4 * (i : Int) + 2 + 1) = k + 4 * i + 3 := by rw [wrap_id (by omega) (by omega)]; omega
    have w4 : IntKind.i64.wrap (k + 4 * (i : Int) + 3 + 1) = k + 4 * (i + 1) := by rw [wrap_id (by omega) (by omega)]; omega
    have hg := markL_get (g := fun j => od (mk4 k j)) (f := od) hi
    have hs := markL_set (g := fun j => od (mk4 k j)) (f := od) hi
    have hl := markL_length (g := fun j => od (mk4 k j)) (f := od) (Nat.le_of_lt hi)
    generalize markL (fun j => od (mk4 k j)) od l i = L at *
    have s1 := stD_part (z := 4) (f := 0) (v := .int .i64 (k + 4 * i)) hg (by simp)
    have s2 := stD_part (z := 4) (L := L.set i (.agg [I (k + 4 * i), I l[i].2.1, I l[i].2.2.1, I l[i].2.2.2])) (i := i) (f := 1) (v := .int .i64 (k + 4 * i + 1)) (c := [I (k + 4 * i), I l[i].2.1, I l[i].2.2.1, I l[i].2.2.2]) (by simp [hl, hi]) (by simp)
    have s3 := stD_part (z := 4) (L := L.set i (.agg [I (k + 4 * i), I (k + 4 * i + 1), I l[i].2.2.1, I l[i].2.2.2])) (i := i) (f := 2) (v := .int .i64 (k + 4 * i + 2)) (c := [I (k + 4 * i), I (k + 4 * i + 1), I l[i].2.2.1, I l[i].2.2.2]) (by simp [hl, hi]) (by simp)
    have s4 := stD_part (z := 4) (L := L.set i (.agg [I (k + 4 * i), I (k + 4 * i + 1), I (k + 4 * i + 2), I l[i].2.2.2])) (i := i) (f := 3) (v := .int .i64 (k + 4 * i + 3)) (c := [I (k + 4 * i), I (k + 4 * i + 1), I (k + 4 * i + 2), I l[i].2.2.2]) (by simp [hl, hi]) (by simp)
    simp only [putCells_eq, List.take_zero, List.nil_append, List.length_singleton, Nat.zero_add, List.drop_succ_cons, List.drop_zero, List.singleton_append, List.take_succ_cons, List.cons_append, Nat.reduceAdd, List.set_set, List.drop_nil] at s1 s2 s3 s4
    simp [hi, hl, hw, w1, w2, w3, w4, s1, s2, s3, s4]
    exact hs
  · simp [markL_full, marksO, mk4]
  · simp [markL_zero (g := fun j => od (mk4 k j)) (f := od)]
  · simp
end Go.Proofs.Ytdgenchlghojlaa
/-
  Orders in a sequence: the plain laws.
-/
namespace Go.Proofs.Ytdgenchlghojlaa
open Go Go.V
set_option linter.unusedSimpArgs false

/-! ### sums over all places -/
def sumTo : Nat → (Nat → Int) → Int
  | 0, _ => 0
  | n + 1, f => sumTo n f + f n
theorem sumTo_congr {f g : Nat → Int} : ∀ (n : Nat), (∀ k, k < n → f k = g k) → sumTo n f = sumTo n g
  | 0, _ => rfl
  | n + 1, h => by
    simp only [sumTo]
    rw [sumTo_congr n fun k hk => h k (by omega), h n (by omega)]
theorem sumTo_add {f g : Nat → Int} : ∀ (n : Nat), sumTo n (fun k => f k + g k) = sumTo n f + sumTo n g
  | 0 => rfl
  | n + 1 => by
    simp only [sumTo]
    rw [sumTo_add n]
    omega
theorem sumTo_zero : ∀ (n : Nat), sumTo n (fun _ => 0) = 0
  | 0 => rfl
  | n + 1 => by simp only [sumTo]; rw [sumTo_zero n]; rfl
theorem sumTo_one {f : Nat → Int} (x : Nat) : ∀ (n : Nat), sumTo n (fun k => if k = x then f k else 0) = if x < n then f x else 0
  | 0 => by simp [sumTo]
  | n + 1 => by
    simp only [sumTo]
    rw [sumTo_one x n]
    by_cases h : n = x
    · subst h
      simp
    · rw [if_neg h]
      by_cases h2 : x < n
      · rw [if_pos h2, if_pos (by omega)]; omega
      · rw [if_neg h2, if_neg (by omega)]; omega
theorem sumTo_le {f : Nat → Int} : ∀ (n : Nat), (∀ k, k < n → f k ≤ 1) → sumTo n f ≤ n
  | 0, _ => by simp [sumTo]
  | n + 1, h => by
    simp only [sumTo]
    have h1 := sumTo_le n fun k hk => h k (by omega)
    have h2 := h n (by omega)
    omega
theorem sumTo_full {f : Nat → Int} : ∀ (n : Nat), (∀ k, k < n → f k ≤ 1) → sumTo n f = n → ∀ k, k < n → f k = 1
  | 0, _, _, k, hk => by omega
  | n + 1, h, e, k, hk => by
    simp only [sumTo] at e
    have h1 := sumTo_le n fun k hk => h k (by omega)
    have h2 := h n (by omega)
    by_cases hkn : k = n
    · subst hkn; omega
    · exact sumTo_full n (fun k hk => h k (by omega)) (by omega) k (by omega)
def sumL (f : Nat → Int) : List Nat → Int
  | [] => 0
  | k :: s => f k + sumL f s
theorem sumTo_mem {f : Nat → Int} {n : Nat} : ∀ (s : List Nat), (∀ k ∈ s, k < n) → s.Nodup → sumTo n (fun k => if k ∈ s then f k else 0) = sumL f s
  | [], _, _ => by simp [sumL, sumTo_zero]
  | x :: s, h, hd => by
    rw [List.nodup_cons] at hd
    have ih := sumTo_mem (f := f) s (fun k hk => h k (by simp [hk])) hd.2
    have e : sumTo n (fun k => if k ∈ x :: s then f k else 0) = sumTo n (fun k => (if k = x then f k else 0) + (if k ∈ s then f k else 0)) := by
      refine sumTo_congr n fun k _ => ?_
      by_cases h1 : k = x
      · subst h1
        simp [hd.1]
      · simp [h1]
    rw [e, sumTo_add, sumTo_one, if_pos (h x (by simp)), ih]
    rfl
theorem sumL_one : ∀ (s : List Nat), sumL (fun _ => 1) s = s.length
  | [] => rfl
  | _ :: s => by simp only [sumL, sumL_one s, List.length_cons]; omega
/-- A list of all places, each once. -/
theorem sum_perm {f : Nat → Int} {n : Nat} {s : List Nat} (h : ∀ k ∈ s, k < n) (hd : s.Nodup) (hl : s.length = n) : sumL f s = sumTo n f := by
  have h1 := sumTo_mem (f := fun _ => 1) s h hd
  rw [sumL_one, hl] at h1
  have all := sumTo_full n (fun k _ => by split <;> omega) h1
  rw [← sumTo_mem (f := f) s h hd]
  refine sumTo_congr n fun k hk => ?_
  have := all k hk
  by_cases hm : k ∈ s
  · rw [if_pos hm]
  · rw [if_neg hm] at this; omega

/-! ### sequences -/
theorem difG_facts {n : Int} : ∀ (l seen : List Int), difG n l seen = true → (∀ x ∈ l, 0 ≤ x ∧ x ≤ n - 1) ∧ l.Nodup ∧ ∀ x ∈ l, x ∉ seen
  | [], _, _ => by simp
  | x :: l, seen, h => by
    simp only [difG, Bool.and_eq_true, decide_eq_true_eq, Bool.not_eq_true', decide_eq_false_iff_not] at h
    obtain ⟨⟨h1, h2⟩, h3⟩ := h
    obtain ⟨g1, g2, g3⟩ := difG_facts l (x :: seen) h3
    refine ⟨fun y hy => ?_, List.nodup_cons.2 ⟨fun hm => g3 x hm (by simp), g2⟩, fun y hy => ?_⟩
    · rcases List.mem_cons.1 hy with rfl | hy
      · exact h1
      · exact g1 y hy
    · rcases List.mem_cons.1 hy with rfl | hy
      · exact h2
      · exact fun hm => g3 y hy (by simp [hm])
abbrev oAt (l : List Od) (k : Int) : Od := l.getD k.toNat (0, 0, 0, 0)
/-- What is composed, what is printed, how long the press waits. -/
def runO (l : List Od) : Int × Int × Int → Int → Int × Int × Int
  | (c, p, w), k => (c + (oAt l k).2.1, max p (c + (oAt l k).2.1) + (oAt l k).2.2.1, w + max 0 (c + (oAt l k).2.1 - p))
def timesO (l : List Od) : Int × Int × Int → List Int → List Int
  | _, [] => []
  | a, k :: s => (runO l a k).2.1 :: timesO l (runO l a k) s
theorem timesO_len (l : List Od) : ∀ (s : List Int) (a : Int × Int × Int), (timesO l a s).length = s.length
  | [], _ => rfl
  | k :: s, a => by simp [timesO, timesO_len l s]
theorem timesO_snoc (l : List Od) (k : Int) : ∀ (s : List Int) (a : Int × Int × Int), timesO l a (s ++ [k]) = timesO l a s ++ [((s ++ [k]).foldl (runO l) a).2.1]
  | [], a => by simp [timesO]
  | x :: s, a => by
    rw [List.cons_append]
    simp only [timesO, timesO_snoc l k s, List.cons_append, List.foldl_cons]
theorem way_take {l : List Od} {s : List Int} {i : Nat} (hi : i < s.length) (a : Int × Int × Int) : (s.take (i + 1)).foldl (runO l) a = runO l ((s.take i).foldl (runO l) a) s[i] := by
  rw [List.take_succ_eq_append_getElem hi, List.foldl_append]
  rfl
theorem times_take {l : List Od} {s : List Int} {i : Nat} (hi : i < s.length) (a : Int × Int × Int) : timesO l a (s.take (i + 1)) = timesO l a (s.take i) ++ [((s.take (i + 1)).foldl (runO l) a).2.1] := by
  rw [List.take_succ_eq_append_getElem hi, timesO_snoc]
/-- Bounds on the way. -/
theorem way_in {l : List Od} (hg : ∀ x ∈ l, isOd x = true) {s : List Int} (hs : ∀ k ∈ s, 0 ≤ k ∧ k < l.length) : ∀ (i : Nat), i ≤ s.length →
    0 ≤ ((s.take i).foldl (runO l) (0, 0, 0)).1 ∧ ((s.take i).foldl (runO l) (0, 0, 0)).1 ≤ 500 * i ∧ 0 ≤ ((s.take i).foldl (runO l) (0, 0, 0)).2.1 ∧ ((s.take i).foldl (runO l) (0, 0, 0)).2.1 ≤ 1000 * i ∧
    0 ≤ ((s.take i).foldl (runO l) (0, 0, 0)).2.2 ∧ ((s.take i).foldl (runO l) (0, 0, 0)).2.2 ≤ 500 * i * i := by
  intro i
  induction i with
  | zero => intro _; simp
  | succ i ih =>
    intro hi
    obtain ⟨h1, h2, h3, h4, h5, h6⟩ := ih (by omega)
    have hk := hs s[i] (List.getElem_mem (by omega))
    rw [way_take (by omega)]
    generalize (s.take i).foldl (runO l) (0, 0, 0) = a at *
    obtain ⟨c, p, w⟩ := a
    simp only at h1 h2 h3 h4 h5 h6
    have hlt : s[i].toNat < l.length := by omega
    have ho : isOd (oAt l s[i]) = true := by
      have e : oAt l s[i] = l[s[i].toNat] := by simp [oAt, hlt]
      rw [e]
      exact hg _ (List.getElem_mem hlt)
    simp only [isOd, Bool.and_eq_true, decide_eq_true_eq] at ho
    have hsq : (500 : Int) * i * i + 500 * i + 500 ≤ 500 * ((i + 1 : Nat) : Int) * ((i + 1 : Nat) : Int) := by
      have : 500 * ((i + 1 : Nat) : Int) * ((i + 1 : Nat) : Int) = 500 * i * i + 1000 * i + 500 := by
        rw [Int.natCast_add]
        simp only [Int.natCast_one, Int.mul_add, Int.add_mul]
        omega
      omega
    simp only [runO]
    refine ⟨by omega, by omega, by omega, by omega, by omega, ?_⟩
    have : max 0 (c + (oAt l s[i]).2.1 - p) ≤ 500 * i + 500 := by omega
    omega
/-- The press has printed all and has waited. -/
theorem way_sum (l : List Od) : ∀ (s : List Int) (a : Int × Int × Int), (s.foldl (runO l) a).2.1 - (s.foldl (runO l) a).2.2 = a.2.1 - a.2.2 + sumL (fun k => (l.getD k (0, 0, 0, 0)).2.2.1) (s.map Int.toNat)
  | [], a => by simp [sumL]
  | k :: s, (c, p, w) => by
    rw [List.foldl_cons, way_sum l s]
    simp only [runO, oAt, List.map_cons, sumL]
    omega
theorem sumTo_list (f : Od → Int) : ∀ (l : List Od), sumTo l.length (fun k => f (l.getD k (0, 0, 0, 0))) = l.foldl (fun a x => a + f x) 0 := by
  intro l
  have key : ∀ (n : Nat), n ≤ l.length → sumTo n (fun k => f (l.getD k (0, 0, 0, 0))) = (l.take n).foldl (fun a x => a + f x) 0 := by
    intro n
    induction n with
    | zero => intro _; simp [sumTo]
    | succ n ih =>
      intro hn
      rw [List.take_succ_eq_append_getElem (by omega), List.foldl_append]
      simp only [sumTo, List.foldl_cons, List.foldl_nil]
      rw [ih (by omega)]
      congr 2
      simp [show n < l.length by omega]
  have := key l.length (Nat.le_refl _)
  rwa [List.take_length] at this
def printS (l : List Od) : Int := l.foldl (fun a x => a + x.2.2.1) 0
theorem idle_eq {l : List Od} {s : List Int} (h : difG l.length s [] = true) (hl : s.length = l.length) : (s.foldl (runO l) (0, 0, 0)).2.1 - printS l = (s.foldl (runO l) (0, 0, 0)).2.2 := by
  obtain ⟨h1, h2, _⟩ := difG_facts s [] h
  have hr := way_sum l s (0, 0, 0)
  have hm : ∀ k ∈ s.map Int.toNat, k < l.length := by
    intro k hk
    obtain ⟨x, hx, rfl⟩ := List.mem_map.1 hk
    have := h1 x hx
    omega
  have hd : (s.map Int.toNat).Nodup := by
    unfold List.Nodup at h2 ⊢
    rw [List.pairwise_map]
    refine h2.imp_of_mem fun {a b} ha hb hne => ?_
    have := h1 a ha
    have := h1 b hb
    omega
  rw [sum_perm hm hd (by rw [List.length_map]; exact hl), sumTo_list (fun x => x.2.2.1)] at hr
  unfold printS
  simp only at hr
  omega
/-- The greatest of the times is the last one. -/
def mostL (l : List Int) : Int := l.foldl max 0
theorem most_times {l : List Od} (hg : ∀ x ∈ l, isOd x = true) {s : List Int} (hs : ∀ k ∈ s, 0 ≤ k ∧ k < l.length) : mostL (timesO l (0, 0, 0) s) = (s.foldl (runO l) (0, 0, 0)).2.1 := by
  have key : ∀ (i : Nat), i ≤ s.length → mostL (timesO l (0, 0, 0) (s.take i)) = ((s.take i).foldl (runO l) (0, 0, 0)).2.1 := by
    intro i
    induction i with
    | zero => intro _; simp [mostL, timesO]
    | succ i ih =>
      intro hi
      have h := way_in hg hs i (by omega)
      have h' := way_in hg hs (i + 1) hi
      rw [times_take (by omega)]
      unfold mostL at ih ⊢
      rw [List.foldl_append, ih (by omega)]
      simp only [List.foldl_cons, List.foldl_nil]
      rw [way_take (by omega)] at h' ⊢
      have hk := hs s[i] (List.getElem_mem (by omega))
      have hlt : s[i].toNat < l.length := by omega
      have ho : isOd (oAt l s[i]) = true := by
        have e : oAt l s[i] = l[s[i].toNat] := by simp [oAt, hlt]
        rw [e]
        exact hg _ (List.getElem_mem hlt)
      simp only [isOd, Bool.and_eq_true, decide_eq_true_eq] at ho
      generalize (s.take i).foldl (runO l) (0, 0, 0) = a at *
      obtain ⟨c, p, w⟩ := a
      simp only [runO]
      omega
  have := key s.length (Nat.le_refl _)
  rwa [List.take_length] at this
theorem goodO_all {l : List Od} (h : goodO l = true) : (∀ x ∈ l, isOd x = true) ∧ l.length ≤ 8 := by
  simp only [goodO, Bool.and_eq_true, decide_eq_true_eq] at h
  refine ⟨?_, h.2⟩
  have key : ∀ (m : List Od) (i : Nat), allI (pOd l) i m = true → ∀ x ∈ m, isOd x = true := by
    intro m
    induction m with
    | nil => intro i _ x hx; cases hx
    | cons y m ih =>
      intro i hp x hx
      simp only [allI, Bool.and_eq_true, pOd] at hp
      rcases List.mem_cons.1 hx with rfl | hx
      · exact hp.1.1
      · exact ih (i + 1) hp.2 x hx
  exact key l 0 h.1
/-- Orders and a sequence of all of them. -/
def askO (l : List Od) (s : List Int) : Bool := goodO l && decide (s.length = l.length) && difG l.length s []
theorem askO_facts {l : List Od} {s : List Int} (h : askO l s = true) : (∀ x ∈ l, isOd x = true) ∧ l.length ≤ 8 ∧ s.length = l.length ∧ difG l.length s [] = true ∧ ∀ k ∈ s, 0 ≤ k ∧ k < l.length := by
  simp only [askO, Bool.and_eq_true, decide_eq_true_eq] at h
  obtain ⟨⟨h1, h2⟩, h3⟩ := h
  obtain ⟨g1, g2⟩ := goodO_all h1
  refine ⟨g1, g2, h2, h3, fun k hk => ?_⟩
  have := (difG_facts s [] h3).1 k hk
  omega
end Go.Proofs.Ytdgenchlghojlaa
/-
  Orders in a sequence: what the functions compute.
-/
namespace Go.Proofs.Ytdgenchlghojlaa
open Go Go.V
set_option linter.unusedSimpArgs false

theorem e_spec_l1Most (a b : Int) : F_spec_l1Most [I a, I b] = some (.ret [I (max a b)] []) := by
  rw [t_spec_l1Most]
  by_cases h : b < a
  · simp -implicitDefEqProofs [h, Int.max_eq_left (Int.le_of_lt h)]
  · simp -implicitDefEqProofs [h, Int.max_eq_right (Int.not_lt.1 h)]
theorem maxD_I (a b : Int) : maxD (I a) (I b) = some (I (max a b)) := by
  by_cases h : a < b
  · simp [maxD, h, Int.max_eq_right (Int.le_of_lt h)]
  · simp [maxD, h, Int.max_eq_left (Int.not_lt.1 h)]
theorem allI_not {n : Int} : ∀ (l : List Int) (i : Nat), allI (fun _ x => !decide (x = n)) i l = !decide (n ∈ l)
  | [], _ => by simp [allI]
  | x :: l, i => by
    simp only [allI, allI_not l]
    by_cases h : x = n
    · simp [h]
    · simp [h, Ne.symm h]
theorem e_spec_l1Has (l : List Int) (n : Int) (h : l.length ≤ 1048577) : F_spec_l1Has [ints l, I n] = some (.ret [B (decide (n ∈ l))] []) := by
  rw [t_spec_l1Has]
  simp only [lenD_arr, List.length_map, Option.bind_some]
  refine loop_bind _ (loop_all l (fun i => [I n, ints l, I l.length, I i]) (fun _ x => !decide (x = n)) (.ret [B true] []) (.ext 0 []) (fun i hi => ?_) ?_ rfl rfl rfl) ?_
  · have hw : IntKind.i64.wrap ((i : Int) + 1) = (i : Int) + 1 := wrap_id (by omega) (by omega)
    by_cases h1 : l[i] = n <;> simp -implicitDefEqProofs [hi, hw, h1]
  · simp
  · rw [allI_not]
    by_cases hm : n ∈ l <;> simp [hm]
/-- Each number is in its range and not met before. -/
def pDif (n : Int) (s : List Int) (i : Nat) (x : Int) : Bool := decide (0 ≤ x ∧ x ≤ n - 1) && !decide (x ∈ s.take i)
theorem dif_all {n : Int} {s : List Int} : ∀ (m : Nat) (i : Nat) (seen : List Int), i + m = s.length → (∀ x, x ∈ seen ↔ x ∈ s.take i) → allI (pDif n s) i (s.drop i) = difG n (s.drop i) seen
  | 0, i, seen, hi, hs => by
    rw [List.drop_eq_nil_of_le (by omega)]
    rfl
  | m + 1, i, seen, hi, hs => by
    have hlt : i < s.length := by omega
    rw [List.drop_eq_getElem_cons hlt]
    simp only [allI, difG, pDif, hs]
    rw [dif_all m (i + 1) (s[i] :: seen) (by omega)]
    intro x
    rw [List.take_succ_eq_append_getElem hlt, List.mem_append, List.mem_singleton, List.mem_cons, hs]
    exact Or.comm
theorem e_spec_orAsked (l : List Od) (s : List Int) (hl : l.length ≤ 1048576) : F_spec_orAsked [ods l, ints s] = some (.ret [B (askO l s)] []) := by
  rw [t_spec_orAsked]
  cases hg : goodO l
  · simp -implicitDefEqProofs [e_spec_orGood l hl, hg, askO]
  by_cases hn : s.length = l.length
  case neg =>
    have hn' : ¬ (s.length : Int) = (l.length : Int) := by omega
    simp -implicitDefEqProofs [e_spec_orGood l hl, hg, askO, hn, hn']
  have hn' : (s.length : Int) = (l.length : Int) := by omega
  simp -implicitDefEqProofs only [e_spec_orGood l hl, hg, callK_ret, sl_zero, un_not, Bool.not_true, Option.bind_some, gate_f, Bool.false_eq_true, if_false, lenD_arr, List.length_map, bin_neq, hn', decide_true, pickD_B, ifD_B]
  refine loop_bind _ (loop_all s (fun i => [ods l, ints s, ints s, I l.length, I i]) (pDif l.length s) (.ret [B false] []) (.ext 0 []) (fun i hi => ?_) ?_ rfl rfl rfl) ?_
  · have hi' : (i : Int) < (l.length : Int) := by omega
    have hw : IntKind.i64.wrap ((i : Int) + 1) = (i : Int) + 1 := wrap_id (by omega) (by omega)
    have hw2 : IntKind.i64.wrap ((l.length : Int) - 1) = (l.length : Int) - 1 := wrap_id (by omega) (by omega)
    have hsl : sliceD false 1 (ints s) (I 0) (I (i : Int)) = some (ints (s.take i)) := by
      have := sliceD_nat (z := 1) (i := 0) (j := i) (l := s.map fun n => I n) (k := .i64) (k' := .i64) (Nat.zero_le _) (by simp; omega)
      rw [List.drop_zero, ← List.map_take] at this
      exact this
    have hh := e_spec_l1Has (s.take i) s[i] (by rw [List.length_take]; omega)
    have hel : elemD 1 (ints s) (I (i : Int)) = some [I s[i]] := by simp [hi]
    by_cases h1 : 0 ≤ s[i] ∧ s[i] ≤ (l.length : Int) - 1
    · by_cases h2 : s[i] ∈ s.take i
      · simp -implicitDefEqProofs [hi', hel, hw, hw2, hsl, hh, h1, h2, pDif, e_spec_l1In]
      · simp -implicitDefEqProofs [hi', hel, hw, hw2, hsl, hh, h1, h2, pDif, e_spec_l1In]
    · simp -implicitDefEqProofs [hi', hel, hw, hw2, h1, pDif, e_spec_l1In]
  · have : ¬ (s.length : Int) < (l.length : Int) := by omega
    simp -implicitDefEqProofs [this]
  · have := dif_all (n := l.length) (s := s) s.length 0 [] (by omega) (by simp)
    rw [List.drop_zero] at this
    rw [this]
    unfold askO
    cases hd : difG l.length s [] <;> simp [hg, hn]
theorem e_fDif (s : List Int) (n : Nat) (hin : ∀ x ∈ s, inI x) (hs : s.length ≤ 1048576) (hn : n ≤ 1048576) : fDif [ints s, I (n : Int)] = some (.ret [B (difG n s [])] []) := by
  simp only [fDif]
  rw [intsOf_map s hin, Option.bind_some, if_pos ⟨hs, by omega, by omega⟩]
theorem e_impl_isSequence (l : List Od) (s : List Int) (hl : l.length ≤ 1048576) (hs : s.length ≤ 1048576) (hin : ∀ x ∈ s, inI x) : F_impl_isSequence [ods l, ints s] = some (.ret [B (askO l s)] []) := by
  rw [t_impl_isSequence]
  cases hg : goodO l
  · simp -implicitDefEqProofs [e_impl_AreOrders l hl, hg, askO]
  by_cases hn : s.length = l.length
  case neg =>
    have hn' : ¬ (s.length : Int) = (l.length : Int) := by omega
    simp -implicitDefEqProofs [e_impl_AreOrders l hl, hg, askO, hn, hn']
  have hn' : (s.length : Int) = (l.length : Int) := by omega
  have hd := e_fDif s l.length hin hs hl
  simp -implicitDefEqProofs [e_impl_AreOrders l hl, hg, askO, hn, hd]

theorem one_int (a : Int) : mkArr 1 [I a] = some (ints [a]) := by simp [mkArr, lenOkD]
theorem chk_int (a : Int) : chkA (ints [a]) = some (ints [a]) := chkA_map fun _ => rfl
theorem app_ints {l m : List Int} (h : l.length + m.length ≤ 1048577) : appD 1 8 (ints l) (ints m) = some (ints (l ++ m)) := by
  rw [appD_eq, if_pos (by simp only [List.length_map]; omega)]
  simp
theorem ord_at {l : List Od} {k : Int} (h : 0 ≤ k ∧ k < l.length) : elemD 4 (ods l) (I k) = some [I (oAt l k).1, I (oAt l k).2.1, I (oAt l k).2.2.1, I (oAt l k).2.2.2] := by
  have hlt : k.toNat < l.length := by omega
  rw [elemD_int h.1]
  simp [hlt, oAt]
abbrev at0 (l : List Od) (s : List Int) (i : Nat) : Int × Int × Int := (s.take i).foldl (runO l) (0, 0, 0)
theorem e_spec_orTimes (l : List Od) (s : List Int) (hg : ∀ x ∈ l, isOd x = true) (hs : ∀ k ∈ s, 0 ≤ k ∧ k < l.length) (hl : s.length ≤ 100) : F_spec_orTimes [ods l, ints s] = some (.ret [ints (timesO l (0, 0, 0) s), I (s.foldl (runO l) (0, 0, 0)).2.2] []) := by
  rw [t_spec_orTimes]
  simp only [lenD_arr, List.length_map, Option.bind_some]
  refine loop_bind _ (loop_for s.length (fun i => [ods l, ints (timesO l (0, 0, 0) (s.take i)), I (at0 l s i).1, I (at0 l s i).2.1, I (at0 l s i).2.2, ints s, I s.length, I i]) (.ext 0 [ints (timesO l (0, 0, 0) s), I (s.foldl (runO l) (0, 0, 0)).2.2]) (fun i hi => ?_) ?_ rfl rfl) ?_
  · have hi' : (i : Int) < (s.length : Int) := by omega
    have hk := hs s[i] (List.getElem_mem hi)
    have b1 := way_in hg hs i (by omega)
    have b2 := way_in hg hs (i + 1) hi
    have hel : elemD 1 (ints s) (I (i : Int)) = some [I s[i]] := by simp [hi]
    have hw : IntKind.i64.wrap ((i : Int) + 1) = ((i + 1 : Nat) : Int) := by rw [wrap_id (by omega) (by omega)]; omega
    have ht := times_take (l := l) hi (0, 0, 0)
    have hlen := timesO_len l (s.take i) (0, 0, 0)
    rw [List.length_take] at hlen
    have hap := app_ints (l := timesO l (0, 0, 0) (s.take i)) (m := [((s.take (i + 1)).foldl (runO l) (0, 0, 0)).2.1]) (by simp only [List.length_singleton]; omega)
    rw [← ht] at hap
    have hsq : (500 : Int) * ((i + 1 : Nat) : Int) * ((i + 1 : Nat) : Int) ≤ 500 * 100 * 100 := by
      have h1 : ((i + 1 : Nat) : Int) ≤ 100 := by omega
      have h2 : (500 : Int) * ((i + 1 : Nat) : Int) ≤ 500 * 100 := by omega
      exact Int.mul_le_mul h2 h1 (by omega) (by omega)
    show _ = some (Out.nrm [ods l, ints (timesO l (0, 0, 0) (s.take (i + 1))), I (at0 l s (i + 1)).1, I (at0 l s (i + 1)).2.1, I (at0 l s (i + 1)).2.2, ints s, I s.length, I ((i + 1 : Nat) : Int)])
    unfold at0 at *
    rw [way_take hi] at b2 hap ⊢
    generalize (s.take i).foldl (runO l) (0, 0, 0) = a at *
    obtain ⟨c, p, w⟩ := a
    simp only [runO] at b1 b2 hap ⊢
    have w1 : IntKind.i64.wrap (c + (oAt l s[i]).2.1) = c + (oAt l s[i]).2.1 := wrap_id (by omega) (by omega)
    have w2 : IntKind.i64.wrap (c + (oAt l s[i]).2.1 - p) = c + (oAt l s[i]).2.1 - p := wrap_id (by omega) (by omega)
    have w3 : IntKind.i64.wrap (w + max 0 (c + (oAt l s[i]).2.1 - p)) = w + max 0 (c + (oAt l s[i]).2.1 - p) := wrap_id (by omega) (by omega)
    have w4 : IntKind.i64.wrap (max p (c + (oAt l s[i]).2.1) + (oAt l s[i]).2.2.1) = max p (c + (oAt l s[i]).2.1) + (oAt l s[i]).2.2.1 := wrap_id (by omega) (by omega)
    simp -implicitDefEqProofs only [sl_zero, sl_succ, bin_lss, hi', decide_true, Option.bind_some, ifD_B, if_true, hel, Option.map_some, ldD_ptr, takeD_f, chkV_v, ord_at hk, offD_ptr, List.drop_succ_cons, List.drop_zero, bin_add, w1, bin_sub, w2, e_spec_l1Most, callK_ret, w3, w4, one_int, chk_int, hap, hw]
  · simp [at0]
  · simp
theorem e_impl_finished (l : List Od) (s : List Int) (hg : ∀ x ∈ l, isOd x = true) (hs : ∀ k ∈ s, 0 ≤ k ∧ k < l.length) (hl : s.length ≤ 100) : F_impl_finished [ods l, ints s] = some (.ret [ints (timesO l (0, 0, 0) s)] []) := by
  rw [t_impl_finished]
  simp only [lenD_arr, List.length_map, Option.bind_some, mkArr_nil]
  refine loop_bind _ (loop_for s.length (fun i => [ods l, ints (timesO l (0, 0, 0) (s.take i)), I (at0 l s i).1, I (at0 l s i).2.1, ints s, I s.length, I i]) (.ext 0 [ints (timesO l (0, 0, 0) s)]) (fun i hi => ?_) ?_ rfl rfl) ?_
  · have hi' : (i : Int) < (s.length : Int) := by omega
    have hk := hs s[i] (List.getElem_mem hi)
    have b1 := way_in hg hs i (by omega)
    have b2 := way_in hg hs (i + 1) hi
    have hel : elemD 1 (ints s) (I (i : Int)) = some [I s[i]] := by simp [hi]
    have hw : IntKind.i64.wrap ((i : Int) + 1) = ((i + 1 : Nat) : Int) := by rw [wrap_id (by omega) (by omega)]; omega
    have ht := times_take (l := l) hi (0, 0, 0)
    have hlen := timesO_len l (s.take i) (0, 0, 0)
    rw [List.length_take] at hlen
    have hap := app_ints (l := timesO l (0, 0, 0) (s.take i)) (m := [((s.take (i + 1)).foldl (runO l) (0, 0, 0)).2.1]) (by simp only [List.length_singleton]; omega)
    rw [← ht] at hap
    show _ = some (Out.nrm [ods l, ints (timesO l (0, 0, 0) (s.take (i + 1))), I (at0 l s (i + 1)).1, I (at0 l s (i + 1)).2.1, ints s, I s.length, I ((i + 1 : Nat) : Int)])
    unfold at0 at *
    rw [way_take hi] at b2 hap ⊢
    generalize (s.take i).foldl (runO l) (0, 0, 0) = a at *
    obtain ⟨c, p, w⟩ := a
    simp only [runO] at b1 b2 hap ⊢
    have w1 : IntKind.i64.wrap (c + (oAt l s[i]).2.1) = c + (oAt l s[i]).2.1 := wrap_id (by omega) (by omega)
    have w4 : IntKind.i64.wrap (max p (c + (oAt l s[i]).2.1) + (oAt l s[i]).2.2.1) = max p (c + (oAt l s[i]).2.1) + (oAt l s[i]).2.2.1 := wrap_id (by omega) (by omega)
    simp -implicitDefEqProofs only [sl_zero, sl_succ, bin_lss, hi', decide_true, Option.bind_some, ifD_B, if_true, hel, Option.map_some, ldD_ptr, takeD_f, chkV_v, ord_at hk, offD_ptr, List.drop_succ_cons, List.drop_zero, bin_add, w1, maxD_I, w4, one_int, chk_int, hap, hw]
  · simp
  · simp
theorem e_impl_greatest (l : List Int) (h : l.length ≤ 1048577) : F_impl_greatest [ints l] = some (.ret [I (mostL l)] []) := by
  rw [t_impl_greatest]
  simp only [lenD_arr, List.length_map, Option.bind_some]
  refine loop_bind _ (loop_foldl l (fun i a => [I a, ints l, I l.length, I i]) max (fun a => .ext 0 [I a]) 0 (fun i a hi => ?_) (fun a => ?_) (fun _ => rfl) rfl) ?_
  · have hw : IntKind.i64.wrap ((i : Int) + 1) = (i : Int) + 1 := wrap_id (by omega) (by omega)
    simp -implicitDefEqProofs [hi, hw, maxD_I]
  · simp
  · simp [mostL]
end Go.Proofs.Ytdgenchlghojlaa
/-
  Late orders, sums; three laws.
-/
namespace Go.Proofs.Ytdgenchlghojlaa
open Go Go.V
set_option linter.unusedSimpArgs false

abbrev tms (l : List Od) (s : List Int) : List Int := timesO l (0, 0, 0) s
def lateF (l : List Od) (s : List Int) (i : Nat) : Int := max 0 ((tms l s).getD i 0 - (oAt l (s.getD i 0)).2.2.2)
def lateO (l : List Od) (s : List Int) (n : Nat) : List Int := (List.range n).map (lateF l s)
theorem lateO_succ (l : List Od) (s : List Int) (n : Nat) : lateO l s (n + 1) = lateO l s n ++ [lateF l s n] := by simp [lateO, List.range_succ]
theorem lateO_len (l : List Od) (s : List Int) (n : Nat) : (lateO l s n).length = n := by simp [lateO]
theorem times_at {l : List Od} (hg : ∀ x ∈ l, isOd x = true) {s : List Int} (hs : ∀ k ∈ s, 0 ≤ k ∧ k < l.length) (hl : s.length ≤ 100) {i : Nat} (hi : i < s.length) : ∃ t, (tms l s)[i]? = some t ∧ 0 ≤ t ∧ t ≤ 100000 := by
  have hlen := timesO_len l s (0, 0, 0)
  have key : ∀ (n : Nat), n ≤ s.length → ∀ t ∈ timesO l (0, 0, 0) (s.take n), 0 ≤ t ∧ t ≤ 100000 := by
    intro n
    induction n with
    | zero => intro _ t ht; simp [timesO] at ht
    | succ n ih =>
      intro hn t ht
      rw [times_take (by omega)] at ht
      rcases List.mem_append.1 ht with ht | ht
      · exact ih (by omega) t ht
      · rw [List.mem_singleton.1 ht]
        have := way_in hg hs (n + 1) hn
        omega
  have hlt : i < (tms l s).length := by rw [hlen]; exact hi
  refine ⟨(tms l s)[i], List.getElem?_eq_getElem hlt, ?_⟩
  have := key s.length (Nat.le_refl _) (tms l s)[i] (by rw [List.take_length]; exact List.getElem_mem hlt)
  exact this
theorem od_due {l : List Od} (hg : ∀ x ∈ l, isOd x = true) {k : Int} (hk : 0 ≤ k ∧ k < l.length) : 0 ≤ (oAt l k).2.2.2 ∧ (oAt l k).2.2.2 ≤ 10000 := by
  have hlt : k.toNat < l.length := by omega
  have e : oAt l k = l[k.toNat] := by simp [oAt, hlt]
  have ho := hg _ (List.getElem_mem hlt)
  rw [← e] at ho
  simp only [isOd, Bool.and_eq_true, decide_eq_true_eq] at ho
  exact ho.2
theorem late_in {l : List Od} (hg : ∀ x ∈ l, isOd x = true) {s : List Int} (hs : ∀ k ∈ s, 0 ≤ k ∧ k < l.length) (hl : s.length ≤ 100) : ∀ x ∈ lateO l s s.length, 0 ≤ x ∧ x ≤ 100000 := by
  intro x hx
  obtain ⟨i, hi, rfl⟩ := List.mem_map.1 hx
  have hi := List.mem_range.1 hi
  obtain ⟨t, h1, h2, h3⟩ := times_at hg hs hl hi
  have hd := od_due hg (hs s[i] (List.getElem_mem hi))
  have e1 : (tms l s).getD i 0 = t := by rw [List.getD_eq_getElem?_getD, h1]; rfl
  have e2 : s.getD i 0 = s[i] := by simp [hi]
  unfold lateF
  rw [e1, e2]
  omega
theorem e_spec_orLate (l : List Od) (s : List Int) (hg : ∀ x ∈ l, isOd x = true) (hs : ∀ k ∈ s, 0 ≤ k ∧ k < l.length) (hl : s.length ≤ 100) : F_spec_orLate [ods l, ints s] = some (.ret [ints (lateO l s s.length)] []) := by
  rw [t_spec_orLate]
  simp only [e_spec_orTimes l s hg hs hl, callK_ret, show ∀ a b : D, tupAt (.tup [ints (tms l s), I (s.foldl (runO l) (0, 0, 0)).2.2]) 0 = some (ints (tms l s)) from fun _ _ => rfl, show tupAt (.tup [ints (tms l s), I (s.foldl (runO l) (0, 0, 0)).2.2]) 0 = some (ints (tms l s)) from rfl,
    show tupAt (tupCut (.tup [ints (tms l s), I (s.foldl (runO l) (0, 0, 0)).2.2]) 0) 1 = some (I (s.foldl (runO l) (0, 0, 0)).2.2) from rfl, lenD_arr, List.length_map, Option.bind_some]
  refine loop_bind _ (loop_for s.length (fun i => [ods l, ints (tms l s), ints (lateO l s i), ints s, I s.length, I i]) (.ext 0 [ints (lateO l s s.length)]) (fun i hi => ?_) ?_ rfl rfl) ?_
  · have hi' : (i : Int) < (s.length : Int) := by omega
    have hk := hs s[i] (List.getElem_mem hi)
    have hel : elemD 1 (ints s) (I (i : Int)) = some [I s[i]] := by simp [hi]
    obtain ⟨t, h1, h2, h3⟩ := times_at hg hs hl hi
    have hel2 : elemD 1 (ints (tms l s)) (I (i : Int)) = some [I t] := by simp [h1]
    have hd := od_due hg hk
    have hw : IntKind.i64.wrap ((i : Int) + 1) = ((i + 1 : Nat) : Int) := by rw [wrap_id (by omega) (by omega)]; omega
    have hwd : IntKind.i64.wrap (t - (oAt l s[i]).2.2.2) = t - (oAt l s[i]).2.2.2 := wrap_id (by omega) (by omega)
    have hlen := lateO_len l s i
    have hap := app_ints (l := lateO l s i) (m := [lateF l s i]) (by simp only [List.length_singleton]; omega)
    rw [← lateO_succ] at hap
    have e1 : (tms l s).getD i 0 = t := by rw [List.getD_eq_getElem?_getD, h1]; rfl
    have e2 : s.getD i 0 = s[i] := by simp [hi]
    have hf : lateF l s i = max 0 (t - (oAt l s[i]).2.2.2) := by unfold lateF; rw [e1, e2]
    rw [hf] at hap
    simp -implicitDefEqProofs only [sl_zero, sl_succ, bin_lss, hi', decide_true, Option.bind_some, ifD_B, if_true, hel, hel2, Option.map_some, ldD_ptr, takeD_f, chkV_v, ord_at hk, offD_ptr, List.drop_succ_cons, List.drop_zero, bin_add, bin_sub, hwd, e_spec_l1Most, callK_ret, one_int, chk_int, hap, hw]
  · simp
  · simp
theorem e_impl_lateness (l : List Od) (s : List Int) (hg : ∀ x ∈ l, isOd x = true) (hs : ∀ k ∈ s, 0 ≤ k ∧ k < l.length) (hl : s.length ≤ 100) : F_impl_lateness [ods l, ints s] = some (.ret [ints (lateO l s s.length)] []) := by
  rw [t_impl_lateness]
  have hlen := timesO_len l s (0, 0, 0)
  simp only [mkArr_nil, e_impl_finished l s hg hs hl, callK_ret, sl_zero, lenD_arr, List.length_map, Option.bind_some, hlen]
  refine loop_bind _ (loop_for s.length (fun i => [ods l, ints s, ints (lateO l s i), ints (tms l s), I s.length, I i]) (.ext 0 [ints (lateO l s s.length)]) (fun i hi => ?_) ?_ rfl rfl) ?_
  · have hi' : (i : Int) < (s.length : Int) := by omega
    have hk := hs s[i] (List.getElem_mem hi)
    have hel : elemD 1 (ints s) (I (i : Int)) = some [I s[i]] := by simp [hi]
    obtain ⟨t, h1, h2, h3⟩ := times_at hg hs hl hi
    have hel2 : elemD 1 (ints (tms l s)) (I (i : Int)) = some [I t] := by simp [h1]
    have hd := od_due hg hk
    have hw : IntKind.i64.wrap ((i : Int) + 1) = ((i + 1 : Nat) : Int) := by rw [wrap_id (by omega) (by omega)]; omega
    have hwd : IntKind.i64.wrap (t - (oAt l s[i]).2.2.2) = t - (oAt l s[i]).2.2.2 := wrap_id (by omega) (by omega)
    have hlen := lateO_len l s i
    have hap := app_ints (l := lateO l s i) (m := [lateF l s i]) (by simp only [List.length_singleton]; omega)
    rw [← lateO_succ] at hap
    have e1 : (tms l s).getD i 0 = t := by rw [List.getD_eq_getElem?_getD, h1]; rfl
    have e2 : s.getD i 0 = s[i] := by simp [hi]
    have hf : lateF l s i = max 0 (t - (oAt l s[i]).2.2.2) := by unfold lateF; rw [e1, e2]
    rw [hf] at hap
    simp -implicitDefEqProofs only [sl_zero, sl_succ, bin_lss, hi', decide_true, Option.bind_some, ifD_B, if_true, hel, hel2, Option.map_some, ldD_ptr, takeD_f, chkV_v, ord_at hk, offD_ptr, List.drop_succ_cons, List.drop_zero, bin_add, bin_sub, hwd, maxD_I, one_int, chk_int, hap, hw]
  · simp
  · simp
theorem sum_step (l : List Int) (hl : l.length ≤ 1048576) (hx : ∀ x ∈ l, 0 ≤ x ∧ x ≤ 100000) (i : Nat) (a : Int) (hi : i < l.length) (ha : 0 ≤ a ∧ a ≤ 100000 * (i : Int)) : IntKind.i64.wrap (a + l[i]) = a + l[i] ∧ (0 ≤ a + l[i] ∧ a + l[i] ≤ 100000 * ((i + 1 : Nat) : Int)) := by
  have := hx l[i] (List.getElem_mem hi)
  exact ⟨wrap_id (by omega) (by omega), by omega, by omega⟩
theorem foldI_add (l : List Int) : ∀ (i : Nat) (a : Int), foldI (fun _ a x => a + x) i l a = l.foldl (· + ·) a := by
  induction l with
  | nil => intro i a; rfl
  | cons x l ih => intro i a; simp only [foldI, List.foldl_cons, ih]
theorem e_spec_juSum (l : List Int) (hl : l.length ≤ 1048576) (hx : ∀ x ∈ l, 0 ≤ x ∧ x ≤ 100000) : F_spec_juSum [ints l] = some (.ret [I (l.foldl (· + ·) 0)] []) := by
  rw [t_spec_juSum]
  simp only [lenD_arr, List.length_map, Option.bind_some]
  refine loop_bind _ (loop_foldi l (fun i a => [I a, ints l, I l.length, I i]) (fun i a => 0 ≤ a ∧ a ≤ 100000 * (i : Int)) (fun _ a x => a + x) (fun a => .ext 0 [I a]) 0 (fun i a hi ha => ?_) (fun a _ => ?_) (fun _ => rfl) (by simp) rfl) ?_
  · have hw : IntKind.i64.wrap ((i : Int) + 1) = (i : Int) + 1 := wrap_id (by omega) (by omega)
    obtain ⟨h1, h2⟩ := sum_step l hl hx i a hi ha
    exact ⟨by simp -implicitDefEqProofs [hi, hw, h1], h2⟩
  · simp
  · simp [foldI_add]
theorem e_impl_sum (l : List Int) (hl : l.length ≤ 1048576) (hx : ∀ x ∈ l, 0 ≤ x ∧ x ≤ 100000) : F_impl_sum [ints l] = some (.ret [I (l.foldl (· + ·) 0)] []) := by
  rw [t_impl_sum]
  simp only [lenD_arr, List.length_map, Option.bind_some]
  refine loop_bind _ (loop_foldi l (fun i a => [I a, ints l, I l.length, I i]) (fun i a => 0 ≤ a ∧ a ≤ 100000 * (i : Int)) (fun _ a x => a + x) (fun a => .ext 0 [I a]) 0 (fun i a hi ha => ?_) (fun a _ => ?_) (fun _ => rfl) (by simp) rfl) ?_
  · have hw : IntKind.i64.wrap ((i : Int) + 1) = (i : Int) + 1 := wrap_id (by omega) (by omega)
    obtain ⟨h1, h2⟩ := sum_step l hl hx i a hi ha
    exact ⟨by simp -implicitDefEqProofs [hi, hw, h1], h2⟩
  · simp
  · simp [foldI_add]

/-! ### the functions of the laws -/
def finR (l : List Od) (s : List Int) : List Int := if askO l s = true then tms l s else []
def totR (l : List Od) (s : List Int) : Int := if askO l s = true then (lateO l s s.length).foldl (· + ·) 0 else 0
def idlR (l : List Od) (s : List Int) : Int := if askO l s = true then (s.foldl (runO l) (0, 0, 0)).2.2 else 0
section
variable (l : List Od) (s : List Int) (hl : l.length ≤ 1048576) (hs : s.length ≤ 1048576) (hin : ∀ x ∈ s, inI x)
include hl
theorem e_spec_FinishTimes : F_spec_FinishTimes [ods l, ints s] = some (.ret [ints (finR l s), B (askO l s)] []) := by
  rw [t_spec_FinishTimes]
  unfold finR
  cases ha : askO l s
  · simp -implicitDefEqProofs [e_spec_orAsked l s hl, ha]
  · obtain ⟨h1, h2, h3, h4, h5⟩ := askO_facts ha
    simp -implicitDefEqProofs [e_spec_orAsked l s hl, ha, e_spec_orTimes l s h1 h5 (by omega)]
theorem e_spec_TotalLateness : F_spec_TotalLateness [ods l, ints s] = some (.ret [I (totR l s), B (askO l s)] []) := by
  rw [t_spec_TotalLateness]
  unfold totR
  cases ha : askO l s
  · simp -implicitDefEqProofs [e_spec_orAsked l s hl, ha]
  · obtain ⟨h1, h2, h3, h4, h5⟩ := askO_facts ha
    simp -implicitDefEqProofs [e_spec_orAsked l s hl, ha, e_spec_orLate l s h1 h5 (by omega), e_spec_juSum _ (show (lateO l s s.length).length ≤ 1048576 by rw [lateO_len]; omega) (late_in h1 h5 (by omega))]
theorem e_spec_IdlePress : F_spec_IdlePress [ods l, ints s] = some (.ret [I (idlR l s), B (askO l s)] []) := by
  rw [t_spec_IdlePress]
  unfold idlR
  cases ha : askO l s
  · simp -implicitDefEqProofs [e_spec_orAsked l s hl, ha]
  · obtain ⟨h1, h2, h3, h4, h5⟩ := askO_facts ha
    simp -implicitDefEqProofs [e_spec_orAsked l s hl, ha, e_spec_orTimes l s h1 h5 (by omega)]
include hs hin
theorem e_impl_FinishTimes : F_impl_FinishTimes [ods l, ints s] = some (.ret [ints (finR l s), B (askO l s)] []) := by
  rw [t_impl_FinishTimes]
  unfold finR
  cases ha : askO l s
  · simp -implicitDefEqProofs [e_impl_isSequence l s hl hs hin, ha, mkArr_nil]
  · obtain ⟨h1, h2, h3, h4, h5⟩ := askO_facts ha
    simp -implicitDefEqProofs [e_impl_isSequence l s hl hs hin, ha, e_impl_finished l s h1 h5 (by omega)]
theorem e_impl_TotalLateness : F_impl_TotalLateness [ods l, ints s] = some (.ret [I (totR l s), B (askO l s)] []) := by
  rw [t_impl_TotalLateness]
  unfold totR
  cases ha : askO l s
  · simp -implicitDefEqProofs [e_impl_isSequence l s hl hs hin, ha]
  · obtain ⟨h1, h2, h3, h4, h5⟩ := askO_facts ha
    simp -implicitDefEqProofs [e_impl_isSequence l s hl hs hin, ha, e_impl_lateness l s h1 h5 (by omega), e_impl_sum _ (show (lateO l s s.length).length ≤ 1048576 by rw [lateO_len]; omega) (late_in h1 h5 (by omega))]
theorem e_impl_IdlePress : F_impl_IdlePress [ods l, ints s] = some (.ret [I (idlR l s), B (askO l s)] []) := by
  rw [t_impl_IdlePress]
  unfold idlR
  cases ha : askO l s
  · simp -implicitDefEqProofs [e_impl_isSequence l s hl hs hin, ha]
  · obtain ⟨h1, h2, h3, h4, h5⟩ := askO_facts ha
    have hm := most_times h1 h5
    have hid := idle_eq h4 h3
    have hlen := timesO_len l s (0, 0, 0)
    have hb := way_in h1 h5 s.length (Nat.le_refl _)
    rw [List.take_length] at hb
    have hb4 := hb.2.2.2.1
    have hb3 := hb.2.2.1
    simp -implicitDefEqProofs only [e_impl_isSequence l s hl hs hin, ha, callK_ret, sl_zero, un_not, Bool.not_true, Option.bind_some, ifD_B, Bool.false_eq_true, if_false, if_true, e_impl_finished l s h1 h5 (by omega), e_impl_greatest (timesO l (0, 0, 0) s) (by rw [hlen]; omega), hm, lenD_arr, List.length_map]
    refine loop_bind _ (loop_foldi l (fun i a => [I a, ods l, I l.length, I i]) (fun i a => -500 * (i : Int) ≤ a ∧ a ≤ 100000) (fun _ a x => a - x.2.2.1) (fun a => .ext 0 [I a]) _ (fun i a hi hA => ?_) (fun a _ => ?_) (fun _ => rfl) (by simp; omega) rfl) ?_
    · have hw : IntKind.i64.wrap ((i : Int) + 1) = (i : Int) + 1 := wrap_id (by omega) (by omega)
      have ho := h1 l[i] (List.getElem_mem hi)
      simp only [isOd, Bool.and_eq_true, decide_eq_true_eq] at ho
      have hwa : IntKind.i64.wrap (a - l[i].2.2.1) = a - l[i].2.2.1 := wrap_id (by omega) (by omega)
      exact ⟨by simp -implicitDefEqProofs [hi, hw, hwa], by omega⟩
    · simp
    · have key : ∀ (m : List Od) (i : Nat) (a b : Int), foldI (fun _ a (x : Od) => a - x.2.2.1) i m (a - b) = a - m.foldl (fun a x => a + x.2.2.1) b := by
        intro m
        induction m with
        | nil => intro i a b; rfl
        | cons x m ih =>
          intro i a b
          simp only [foldI, List.foldl_cons]
          rw [← ih (i + 1) a (b + x.2.2.1)]
          congr 1
          omega
      have hk := key l 0 (s.foldl (runO l) (0, 0, 0)).2.1 0
      rw [Int.sub_zero] at hk
      unfold printS at hid
      rw [hk, hid]
      simp
end
theorem finR_len (l : List Od) (s : List Int) : (finR l s).length ≤ s.length := by
  unfold finR
  split
  · rw [timesO_len]; exact Nat.le_refl _
  · exact Nat.zero_le _
theorem law_IdlePress (l : List Od) (s : List Int) (_h : l.length ≤ 9223372036854775807) (hin : ∀ x ∈ s, inI x) : F_laws_FnExactIdlePress [ods l, ints s] = some (.ret [B true] []) := by
  rw [t_laws_FnExactIdlePress]
  by_cases hs : 1048576 < (s.length : Int)
  · simp -implicitDefEqProofs [hs]
  obtain ⟨m, h1, h2⟩ := e_laws_szOrderS l 1048576
  by_cases hm : m < 0
  · simp -implicitDefEqProofs [hs, h1, hm]
  have h3 := h2 (by omega)
  rw [wrap_id (by omega) (by omega)] at h3
  have hl : l.length ≤ 1048576 := by omega
  have hs' : s.length ≤ 1048576 := by omega
  simp -implicitDefEqProofs [hs, h1, hm, e_laws_toOrderS l hl, e_laws_toIntS s hs', e_spec_IdlePress l s hl, e_impl_IdlePress l s hl hs' hin, e_laws_eqOrderS l (by omega), e_laws_eqIntS s (by omega)]
theorem law_TotalLateness (l : List Od) (s : List Int) (_h : l.length ≤ 9223372036854775807) (hin : ∀ x ∈ s, inI x) : F_laws_FnExactTotalLateness [ods l, ints s] = some (.ret [B true] []) := by
  rw [t_laws_FnExactTotalLateness]
  by_cases hs : 1048576 < (s.length : Int)
  · simp -implicitDefEqProofs [hs]
  obtain ⟨m, h1, h2⟩ := e_laws_szOrderS l 1048576
  by_cases hm : m < 0
  · simp -implicitDefEqProofs [hs, h1, hm]
  have h3 := h2 (by omega)
  rw [wrap_id (by omega) (by omega)] at h3
  have hl : l.length ≤ 1048576 := by omega
  have hs' : s.length ≤ 1048576 := by omega
  simp -implicitDefEqProofs [hs, h1, hm, e_laws_toOrderS l hl, e_laws_toIntS s hs', e_spec_TotalLateness l s hl, e_impl_TotalLateness l s hl hs' hin, e_laws_eqOrderS l (by omega), e_laws_eqIntS s (by omega)]
theorem law_FinishTimes (l : List Od) (s : List Int) (_h : l.length ≤ 9223372036854775807) (hin : ∀ x ∈ s, inI x) : F_laws_FnExactFinishTimes [ods l, ints s] = some (.ret [B true] []) := by
  rw [t_laws_FnExactFinishTimes]
  by_cases hs : 1048576 < (s.length : Int)
  · simp -implicitDefEqProofs [hs]
  obtain ⟨m, h1, h2⟩ := e_laws_szOrderS l 1048576
  by_cases hm : m < 0
  · simp -implicitDefEqProofs [hs, h1, hm]
  have h3 := h2 (by omega)
  rw [wrap_id (by omega) (by omega)] at h3
  have hl : l.length ≤ 1048576 := by omega
  have hs' : s.length ≤ 1048576 := by omega
  have hn := finR_len l s
  have k1 := e_laws_markOrderS l 1 (by omega) (by omega) (by omega)
  have k2 := e_laws_markIntS s (1 + 4 * (l.length : Int)) (by omega) (by omega) (by omega)
  have k3 := e_laws_markIntS (finR l s) 1 (by omega) (by omega) (by omega)
  have k4 := e_laws_heldIntS 1 (finR l s).length (by omega) (by omega) (by omega)
  have p1 : ¬ (1 + 4 * (l.length : Int) + (s.length : Int) < 0) := by omega
  have p2 : ¬ (1 + ((finR l s).length : Int) < 0) := by omega
  simp -implicitDefEqProofs [hs, h1, hm, e_laws_toOrderS l hl, e_laws_toIntS s hs', e_spec_FinishTimes l s hl, e_impl_FinishTimes l s hl hs' hin, e_laws_eqOrderS l (by omega), e_laws_eqIntS s (by omega), e_laws_eqIntS (finR l s) (by omega), k1, k2, k3, k4, p1, p2]
end Go.Proofs.Ytdgenchlghojlaa
