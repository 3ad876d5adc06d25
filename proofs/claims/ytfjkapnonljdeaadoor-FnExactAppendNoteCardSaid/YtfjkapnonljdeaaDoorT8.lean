/-
  What the functions compute: their evaluated texts, printed.
-/
import Derived.Test.YtfjkapnonljdeaaDoorC6
namespace Go.Proofs.YtfjkapnonljdeaaDoor
open Go Go.V
theorem t_laws_toOrder (x0 : D) : F_laws_toOrder [x0] =
  ((boxD 4 x0).bind fun y => (liveD y (D.ref 0 0)).bind fun z => ((atD y z).bind (takeD false 1)).bind fun z => (liveD (D.agg [D.v (Value.int IntKind.i64 0), D.v (Value.int IntKind.i64 0), D.v (Value.int IntKind.i64 0),
 D.v (Value.int IntKind.i64 0)]) (D.ref 0 0)).bind fun z_1 => (stD 1 (D.agg [D.v (Value.int IntKind.i64 0), D.v (Value.int IntKind.i64 0), D.v (Value.int IntKind.i64 0), D.v (Value.int IntKind.i64 0)]) z_1 z).bind fun b =>
 (liveD y (D.ref 0 1)).bind fun z => ((atD y z).bind (takeD false 1)).bind fun z => (liveD b (D.ref 0 1)).bind fun z_2 => (stD 1 b z_2 z).bind fun b => (liveD y (D.ref 0 2)).bind fun z =>
 ((atD y z).bind (takeD false 1)).bind fun z => (liveD b (D.ref 0 2)).bind fun z_3 => (stD 1 b z_3 z).bind fun b => (liveD y (D.ref 0 3)).bind fun z => ((atD y z).bind (takeD false 1)).bind fun z =>
 (liveD b (D.ref 0 3)).bind fun z_4 => (stD 1 b z_4 z).bind fun b => (fldD true 4 0 b).bind fun z => (stD 4 (D.agg [D.v (Value.int IntKind.i64 0), D.v (Value.int IntKind.i64 0),
 D.v (Value.int IntKind.i64 0), D.v (Value.int IntKind.i64 0)]) (D.ref 0 0) z).bind fun b => (fldD true 4 0 b).bind fun y => some (Out.ret [y] [])) := by kernel_rfl
theorem t_spec_l1In (x0 x1 x2 : D) : F_spec_l1In [x0, x1, x2] =
  ((bin BinOp.geq false [] x0 x1).bind fun z => (gate (D.tup []) z true (some x0)).bind fun z_1 => (gate (D.tup []) z true (some x2)).bind fun z_2 => (gate (D.tup []) z true (bin BinOp.leq false [] z_1 z_2)).bind fun z_3 =>
 (pickD z z_3 (D.v (Value.bool false))).bind fun z => some (Out.ret [z] [])) := by kernel_rfl
theorem t_spec_orOne (x0 : D) : F_spec_orOne [x0] =
  ((boxD 4 x0).bind fun y => (liveD y (D.ref 0 0)).bind fun z => ((atD y z).bind (takeD false 1)).bind fun z => callK (F_spec_l1In [z, D.v (Value.int IntKind.i64 1), D.v (Value.int IntKind.i64 99)]) fun rs _u =>
 (gate D.bad (sl rs 0) true (liveD y (D.ref 0 1))).bind fun z => (gate (D.tup []) (sl rs 0) true ((atD y z).bind (takeD false 1))).bind fun z => gateC (sl rs 0) true
 (callK (F_spec_l1In [z, D.v (Value.int IntKind.i64 0), D.v (Value.int IntKind.i64 500)]) fun rs _u => some (Out.nrm [sl rs 0])) [D.tup []] fun outs => (pickD (sl rs 0) (sl outs 0) (D.v (Value.bool false))).bind fun z =>
 (gate D.bad z true (liveD y (D.ref 0 2))).bind fun z_1 => (gate (D.tup []) z true ((atD y z_1).bind (takeD false 1))).bind fun z_2 => gateC z true
 (callK (F_spec_l1In [z_2, D.v (Value.int IntKind.i64 0), D.v (Value.int IntKind.i64 500)]) fun rs _u => some (Out.nrm [sl rs 0])) [D.tup []] fun outs => (pickD z (sl outs 0) (D.v (Value.bool false))).bind fun z =>
 (gate D.bad z true (liveD y (D.ref 0 3))).bind fun z_3 => (gate (D.tup []) z true ((atD y z_3).bind (takeD false 1))).bind fun z_4 => gateC z true (callK
 (F_spec_l1In [z_4, D.v (Value.int IntKind.i64 0), D.v (Value.int IntKind.i64 10000)]) fun rs _u => some (Out.nrm [sl rs 0])) [D.tup []] fun outs =>
 (pickD z (sl outs 0) (D.v (Value.bool false))).bind fun z => some (Out.ret [z] [])) := by kernel_rfl
theorem t_spec_l1Num (n : Nat) (x0 : D) : R_spec_l1Num (n + 1) [x0] =
  ((bin BinOp.lss false [] x0 (D.v (Value.int IntKind.i64 10))).bind fun z => ifD z ((bin BinOp.add false [] (D.v (Value.int IntKind.i64 48)) x0).bind fun z => (convD (some IntKind.u8) false z).bind fun z =>
 (mkArr 1 [z]).bind fun a => (strD a).bind fun z => some (Out.ret [z] [])) ((bin BinOp.quo false [] x0 (D.v (Value.int IntKind.i64 10))).bind fun z => callK (R_spec_l1Num n [z]) fun rs _u =>
 (bin BinOp.rem false [] x0 (D.v (Value.int IntKind.i64 10))).bind fun z => (bin BinOp.add false [] (D.v (Value.int IntKind.i64 48)) z).bind fun z => (convD (some IntKind.u8) false z).bind fun z =>
 (mkArr 1 [z]).bind fun a => (strD a).bind fun z => (bin BinOp.add false [] (sl rs 0) z).bind fun z => some (Out.ret [z] []))) := by kernel_rfl
theorem t_spec_orText (x0 : D) : F_spec_orText [x0] =
  ((boxD 4 x0).bind fun y => (liveD y (D.ref 0 0)).bind fun z => ((atD y z).bind (takeD false 1)).bind fun z => callK (F_spec_l1Num [z]) fun rs _u =>
 (bin BinOp.add false [] (D.v (Value.string { data := { toList := [35] } })) (sl rs 0)).bind fun z => (bin BinOp.add false [] z (D.v (Value.string { data := { toList := [32] } }))).bind fun z =>
 (liveD y (D.ref 0 1)).bind fun z_1 => ((atD y z_1).bind (takeD false 1)).bind fun z_2 => callK (F_spec_l1Num [z_2]) fun rs _u => (bin BinOp.add false [] z (sl rs 0)).bind fun z =>
 (bin BinOp.add false [] z (D.v (Value.string { data := { toList := [43] } }))).bind fun z => (liveD y (D.ref 0 2)).bind fun z_3 => ((atD y z_3).bind (takeD false 1)).bind fun z_4 => callK (F_spec_l1Num [z_4]) fun rs _u =>
 (bin BinOp.add false [] z (sl rs 0)).bind fun z => (bin BinOp.add false [] z (D.v (Value.string { data := { toList := [32, 98, 121, 32] } }))).bind fun z => (liveD y (D.ref 0 3)).bind fun z_5 =>
 ((atD y z_5).bind (takeD false 1)).bind fun z_6 => callK (F_spec_l1Num [z_6]) fun rs _u => (bin BinOp.add false [] z (sl rs 0)).bind fun z => some (Out.ret [z] [])) := by kernel_rfl
theorem t_spec_OrderText (x0 : D) : F_spec_OrderText [x0] =
  ((boxD 4 x0).bind fun y => (fldD true 4 0 y).bind fun z => callK (F_spec_orOne [z]) fun rs _u => (un UnOp.not (sl rs 0)).bind fun z =>
 ifD z (some (Out.ret [D.v (Value.string { data := { toList := [] } }), D.v (Value.bool false)] [])) ((fldD true 4 0 y).bind fun z =>
 callK (F_spec_orText [z]) fun rs _u => some (Out.ret [sl rs 0, D.v (Value.bool true)] []))) := by kernel_rfl
theorem t_impl_within (x0 x1 x2 : D) : F_impl_within [x0, x1, x2] =
  ((bin BinOp.geq false [] x0 x1).bind fun z => (gate (D.tup []) z true (some x0)).bind fun z_1 => (gate (D.tup []) z true (some x2)).bind fun z_2 => (gate (D.tup []) z true (bin BinOp.leq false [] z_1 z_2)).bind fun z_3 =>
 (pickD z z_3 (D.v (Value.bool false))).bind fun z => some (Out.ret [z] [])) := by kernel_rfl
theorem t_impl_isOrder (x0 : D) : F_impl_isOrder [x0] =
  ((boxD 4 x0).bind fun y => (liveD y (D.ref 0 0)).bind fun z => ((atD y z).bind (takeD false 1)).bind fun z => callK (F_impl_within [z, D.v (Value.int IntKind.i64 1), D.v (Value.int IntKind.i64 99)]) fun rs _u =>
 (gate D.bad (sl rs 0) true (liveD y (D.ref 0 1))).bind fun z => (gate (D.tup []) (sl rs 0) true ((atD y z).bind (takeD false 1))).bind fun z => gateC (sl rs 0) true
 (callK (F_impl_within [z, D.v (Value.int IntKind.i64 0), D.v (Value.int IntKind.i64 500)]) fun rs _u => some (Out.nrm [sl rs 0])) [D.tup []] fun outs => (pickD (sl rs 0) (sl outs 0) (D.v (Value.bool false))).bind fun z =>
 (gate D.bad z true (liveD y (D.ref 0 2))).bind fun z_1 => (gate (D.tup []) z true ((atD y z_1).bind (takeD false 1))).bind fun z_2 => gateC z true
 (callK (F_impl_within [z_2, D.v (Value.int IntKind.i64 0), D.v (Value.int IntKind.i64 500)]) fun rs _u => some (Out.nrm [sl rs 0])) [D.tup []] fun outs => (pickD z (sl outs 0) (D.v (Value.bool false))).bind fun z =>
 (gate D.bad z true (liveD y (D.ref 0 3))).bind fun z_3 => (gate (D.tup []) z true ((atD y z_3).bind (takeD false 1))).bind fun z_4 => gateC z true (callK (F_impl_within
 [z_4, D.v (Value.int IntKind.i64 0), D.v (Value.int IntKind.i64 10000)]) fun rs _u => some (Out.nrm [sl rs 0])) [D.tup []] fun outs => (pickD z (sl outs 0) (D.v (Value.bool false))).bind fun z => some (Out.ret [z] [])) := by kernel_rfl
theorem t_impl_orderText (x0 : D) : F_impl_orderText [x0] =
  ((boxD 4 x0).bind fun y => (liveD y (D.ref 0 0)).bind fun z => ((atD y z).bind (takeD false 1)).bind fun z => callK (fItoa [z]) fun rs _u =>
 (bin BinOp.add false [] (D.v (Value.string { data := { toList := [35] } })) (sl rs 0)).bind fun z => (bin BinOp.add false [] z (D.v (Value.string { data := { toList := [32] } }))).bind fun z =>
 (liveD y (D.ref 0 1)).bind fun z_1 => ((atD y z_1).bind (takeD false 1)).bind fun z_2 => callK (fItoa [z_2]) fun rs _u => (bin BinOp.add false [] z (sl rs 0)).bind fun z =>
 (bin BinOp.add false [] z (D.v (Value.string { data := { toList := [43] } }))).bind fun z => (liveD y (D.ref 0 2)).bind fun z_3 => ((atD y z_3).bind (takeD false 1)).bind fun z_4 => callK (fItoa [z_4]) fun rs _u =>
 (bin BinOp.add false [] z (sl rs 0)).bind fun z => (bin BinOp.add false [] z (D.v (Value.string { data := { toList := [32, 98, 121, 32] } }))).bind fun z => (liveD y (D.ref 0 3)).bind fun z_5 =>
 ((atD y z_5).bind (takeD false 1)).bind fun z_6 => callK (fItoa [z_6]) fun rs _u => (bin BinOp.add false [] z (sl rs 0)).bind fun z => some (Out.ret [z] [])) := by kernel_rfl
theorem t_impl_OrderText (x0 : D) : F_impl_OrderText [x0] =
  ((boxD 4 x0).bind fun y => (fldD true 4 0 y).bind fun z => callK (F_impl_isOrder [z]) fun rs _u => (un UnOp.not (sl rs 0)).bind fun z =>
 ifD z (some (Out.ret [D.v (Value.string { data := { toList := [] } }), D.v (Value.bool false)] [])) ((fldD true 4 0 y).bind fun z =>
 callK (F_impl_orderText [z]) fun rs _u => some (Out.ret [sl rs 0, D.v (Value.bool true)] []))) := by kernel_rfl
theorem t_laws_FnExactOrderText (x0 : D) : F_laws_FnExactOrderText [x0] =
  ((boxD 4 x0).bind fun y => (fldD true 4 0 y).bind fun z => callK (F_laws_toOrder [z]) fun rs _u => callK (F_spec_OrderText [sl rs 0]) fun rs _u => (tupAt (D.tup rs) 0).bind fun z => (tupAt (D.tup rs) 1).bind fun z_1 =>
 (fldD true 4 0 y).bind fun z_2 => callK (F_laws_toOrder [z_2]) fun rs _u => callK (F_impl_OrderText [sl rs 0]) fun rs _u => (tupAt (D.tup rs) 0).bind fun z_3 => (tupAt (D.tup rs) 1).bind fun z_4 =>
 (bin BinOp.neq false [] z_3 z).bind fun z => (gate (D.tup []) z false (some z_4)).bind fun z_5 => (gate (D.tup []) z false (some z_1)).bind fun z_6 =>
 (gate (D.tup []) z false (bin BinOp.neq true [] z_5 z_6)).bind fun z_7 => (pickD z (D.v (Value.bool true)) z_7).bind fun z => ifD z (some (Out.ret [D.v (Value.bool false)] [])) (some (Out.ret [D.v (Value.bool true)] []))) := by kernel_rfl
theorem t_spec_l1Split (x0 x1 : D) : F_spec_l1Split [x0, x1] =
  ((loopC (fun s => (lenD true (sl s 0)).bind fun z => (bin BinOp.lss false [] (sl s 4) z).bind fun z => ifD z ((charD (sl s 0) (sl s 4)).bind fun z => (bin BinOp.eql false [] z (sl s 1)).bind fun z => ifD z
 ((sliceD true 0 (sl s 0) (sl s 3) (sl s 4)).bind fun z => (mkArr 1 [z]).bind fun a => (chkA a).bind fun b => (appD 1 16 (sl s 2) b).bind fun y =>
 (bin BinOp.add false [] (sl s 4) (D.v (Value.int IntKind.i64 1))).bind fun z => (bin BinOp.add false [] (sl s 4) (D.v (Value.int IntKind.i64 1))).bind fun z_1 => some (Out.nrm [sl s 0, sl s 1, y, z, z_1]))
 ((bin BinOp.add false [] (sl s 4) (D.v (Value.int IntKind.i64 1))).bind fun z => some (Out.nrm [sl s 0, sl s 1, sl s 2, sl s 3, z]))) (some (Out.ext 0 [sl s 0, sl s 2, sl s 3])))
 [x0, x1, D.arr 1 [], D.v (Value.int IntKind.i64 0), D.v (Value.int IntKind.i64 0)]).bind fun o => outK o (fun i s => ifN (i.beq 0) ((sliceHi true 0 (sl s 0) (sl s 2)).bind fun z => (mkArr 1 [z]).bind fun a =>
 (chkA a).bind fun b => (appD 1 16 (sl s 1) b).bind fun y => some (Out.ret [y] [])) none) fun a b => some (Out.ret a b)) := by kernel_rfl
theorem t_spec_cnLines (x0 : D) : F_spec_cnLines [x0] =
  ((lenD true x0).bind fun z => (bin BinOp.gtr false [] z (D.v (Value.int IntKind.i64 2000))).bind fun z => (gate (D.tup []) z false (some x0)).bind fun z_1 =>
 (gate (D.tup []) z false (bin BinOp.neq false [] z_1 (D.v (Value.string { data := { toList := [] } })))).bind fun z_2 => (gate (D.tup []) z false (some z_2)).bind fun z_3 =>
 (gate (D.tup []) z_3 true (some x0)).bind fun z_4 => (gate (D.tup []) z_3 true (some x0)).bind fun z_5 => (gate (D.tup []) z_3 true (lenD true z_5)).bind fun z_6 =>
 (gate (D.tup []) z_3 true (bin BinOp.sub false [] z_6 (D.v (Value.int IntKind.i64 1)))).bind fun z_7 => (gate (D.tup []) z_3 true (charD z_4 z_7)).bind fun z_8 =>
 (gate (D.tup []) z_3 true (bin BinOp.neq false [] z_8 (D.v (Value.int IntKind.u8 10)))).bind fun z_9 => (gate (D.tup []) z false (pickD z_3 z_9 (D.v (Value.bool false)))).bind fun z_10 =>
 (pickD z (D.v (Value.bool true)) z_10).bind fun z => ifD z (some (Out.ret [D.arr 1 [], D.v (Value.bool false)] [])) (callK (F_spec_l1Split [x0, D.v (Value.int IntKind.u8 10)]) fun rs _u =>
 (lenD false (sl rs 0)).bind fun z => (bin BinOp.sub false [] z (D.v (Value.int IntKind.i64 1))).bind fun z => (sliceD false 1 (sl rs 0) (D.v (Value.int IntKind.i64 0)) z).bind fun z => (lenD false z).bind fun z_11 =>
 (bin BinOp.leq false [] z_11 (D.v (Value.int IntKind.i64 40))).bind fun z_12 => some (Out.ret [z, z_12] []))) := by kernel_rfl
theorem t_spec_JoinScripts (x0 x1 : D) : F_spec_JoinScripts [x0, x1] =
  (callK (F_spec_cnLines [x0]) fun rs _u => (tupAt (D.tup rs) 0).bind fun _u => (tupAt (D.tup rs) 1).bind fun z => callK (F_spec_cnLines [x1]) fun rs _u => (tupAt (D.tup rs) 0).bind fun _u =>
 (tupAt (D.tup rs) 1).bind fun z_1 => (bin BinOp.add false [] x0 x1).bind fun z_2 => callK (F_spec_cnLines [z_2]) fun rs _u => (tupAt (D.tup rs) 0).bind fun _u => (tupAt (D.tup rs) 1).bind fun z_3 =>
 (un UnOp.not z).bind fun z => (gate (D.tup []) z false (some z_1)).bind fun z_4 => (gate (D.tup []) z false (un UnOp.not z_4)).bind fun z_5 => (pickD z (D.v (Value.bool true)) z_5).bind fun z =>
 (gate (D.tup []) z false (some z_3)).bind fun z_6 => (gate (D.tup []) z false (un UnOp.not z_6)).bind fun z_7 => (pickD z (D.v (Value.bool true)) z_7).bind fun z => ifD z (some (Out.ret
 [D.v (Value.string { data := { toList := [] } }), D.v (Value.bool false)] [])) ((bin BinOp.add false [] x0 x1).bind fun z => some (Out.ret [z, D.v (Value.bool true)] []))) := by kernel_rfl
theorem t_impl_linesOf (x0 : D) : F_impl_linesOf [x0] =
  ((mkArr 1 []).bind fun a => (bin BinOp.neq false [] x0 (D.v (Value.string { data := { toList := [] } }))).bind fun z => ifD z (callK (fTrimSuffix [x0, D.v (Value.string { data := { toList := [10] } })]) fun rs _u =>
 callK (fSplit [sl rs 0, D.v (Value.string { data := { toList := [10] } })]) fun rs _u => (lenD true x0).bind fun z => (bin BinOp.leq false [] z (D.v (Value.int IntKind.i64 2000))).bind fun z =>
 (gate (D.tup []) z true (some (sl rs 0))).bind fun z_1 => (gate (D.tup []) z true (lenD false z_1)).bind fun z_2 => (gate (D.tup []) z true (bin BinOp.leq false [] z_2 (D.v (Value.int IntKind.i64 40)))).bind fun z_3 =>
 (pickD z z_3 (D.v (Value.bool false))).bind fun z => (gate (D.tup []) z true (some x0)).bind fun z_4 => (gate (D.tup []) z true (bin BinOp.eql false [] z_4 (D.v (Value.string { data := { toList := [] } })))).bind
 fun z_5 => (gate (D.tup []) z true (some z_5)).bind fun z_6 => (gate (D.tup []) z_6 false (some x0)).bind fun z_7 => gateC z_6 false (callK (fHasSuffix [z_7, D.v (Value.string { data := { toList := [10] } })])
 fun rs _u => some (Out.nrm [sl rs 0])) [D.tup []] fun outs => (gate (D.tup []) z true (pickD z_6 (D.v (Value.bool true)) (sl outs 0))).bind fun z_8 =>
 (pickD z z_8 (D.v (Value.bool false))).bind fun z => some (Out.ret [sl rs 0, z] [])) ((lenD true x0).bind fun z => (bin BinOp.leq false [] z (D.v (Value.int IntKind.i64 2000))).bind fun z =>
 (gate (D.tup []) z true (some a)).bind fun z_1 => (gate (D.tup []) z true (lenD false z_1)).bind fun z_2 => (gate (D.tup []) z true (bin BinOp.leq false [] z_2 (D.v (Value.int IntKind.i64 40)))).bind fun z_3 =>
 (pickD z z_3 (D.v (Value.bool false))).bind fun z => (gate (D.tup []) z true (some x0)).bind fun z_4 => (gate (D.tup []) z true (bin BinOp.eql false [] z_4 (D.v (Value.string { data := { toList := [] } })))).bind
 fun z_5 => (gate (D.tup []) z true (some z_5)).bind fun z_6 => (gate (D.tup []) z_6 false (some x0)).bind fun z_7 => gateC z_6 false
 (callK (fHasSuffix [z_7, D.v (Value.string { data := { toList := [10] } })]) fun rs _u => some (Out.nrm [sl rs 0])) [D.tup []] fun outs =>
 (gate (D.tup []) z true (pickD z_6 (D.v (Value.bool true)) (sl outs 0))).bind fun z_8 => (pickD z z_8 (D.v (Value.bool false))).bind fun z => some (Out.ret [a, z] []))) := by kernel_rfl
theorem t_impl_JoinScripts (x0 x1 : D) : F_impl_JoinScripts [x0, x1] =
  (callK (F_impl_linesOf [x0]) fun rs _u => (tupAt (D.tup rs) 0).bind fun _u => (tupAt (D.tup rs) 1).bind fun z => callK (F_impl_linesOf [x1]) fun rs _u => (tupAt (D.tup rs) 0).bind fun _u =>
 (tupAt (D.tup rs) 1).bind fun z_1 => (bin BinOp.add false [] x0 x1).bind fun z_2 => callK (F_impl_linesOf [z_2]) fun rs _u => (tupAt (D.tup rs) 0).bind fun _u => (tupAt (D.tup rs) 1).bind fun z_3 =>
 (un UnOp.not z).bind fun z => (gate (D.tup []) z false (some z_1)).bind fun z_4 => (gate (D.tup []) z false (un UnOp.not z_4)).bind fun z_5 => (pickD z (D.v (Value.bool true)) z_5).bind fun z =>
 (gate (D.tup []) z false (some z_3)).bind fun z_6 => (gate (D.tup []) z false (un UnOp.not z_6)).bind fun z_7 => (pickD z (D.v (Value.bool true)) z_7).bind fun z => ifD z (some (Out.ret
 [D.v (Value.string { data := { toList := [] } }), D.v (Value.bool false)] [])) ((bin BinOp.add false [] x0 x1).bind fun z => some (Out.ret [z, D.v (Value.bool true)] []))) := by kernel_rfl
theorem t_laws_FnExactJoinScripts (x0 x1 : D) : F_laws_FnExactJoinScripts [x0, x1] =
  ((lenD true x0).bind fun z => (bin BinOp.gtr false [] z (D.v (Value.int IntKind.i64 1048576))).bind fun z => ifD z (some (Out.ret [D.v (Value.bool true)] [])) ((lenD true x1).bind fun z =>
 (bin BinOp.gtr false [] z (D.v (Value.int IntKind.i64 1048576))).bind fun z => ifD z (some (Out.ret [D.v (Value.bool true)] [])) (callK (F_spec_JoinScripts [x0, x1]) fun rs _u => (tupAt (D.tup rs) 0).bind fun z =>
 (tupAt (D.tup rs) 1).bind fun z_1 => callK (F_impl_JoinScripts [x0, x1]) fun rs _u => (tupAt (D.tup rs) 0).bind fun z_2 => (tupAt (D.tup rs) 1).bind fun z_3 => (bin BinOp.neq false [] z_2 z).bind fun z =>
 (gate (D.tup []) z false (some z_3)).bind fun z_4 => (gate (D.tup []) z false (some z_1)).bind fun z_5 => (gate (D.tup []) z false (bin BinOp.neq true [] z_4 z_5)).bind fun z_6 =>
 (pickD z (D.v (Value.bool true)) z_6).bind fun z => ifD z (some (Out.ret [D.v (Value.bool false)] [])) (some (Out.ret [D.v (Value.bool true)] []))))) := by kernel_rfl
theorem t_laws_szBox (x0 x1 : D) : F_laws_szBox [x0, x1] =
  ((boxD 4 x0).bind fun y => (liveD y (D.ref 0 0)).bind fun z => ((atD y z).bind (takeD false 1)).bind fun z => (lenD true z).bind fun z => (bin BinOp.sub false [] x1 z).bind fun z =>
 (bin BinOp.lss false [] z (D.v (Value.int IntKind.i64 0))).bind fun z_1 => ifD z_1 (some (Out.ret [D.v (Value.int IntKind.i64 (-1))] [])) (some (Out.ret [z] []))) := by kernel_rfl
theorem t_laws_szBoxS (x0 x1 : D) : F_laws_szBoxS [x0, x1] =
  ((lenD false x0).bind fun z => (bin BinOp.sub false [] x1 z).bind fun z => (bin BinOp.lss false [] z (D.v (Value.int IntKind.i64 0))).bind fun z_1 => ifD z_1 (some (Out.ret [D.v (Value.int IntKind.i64 (-1))] [])) ((loopC
 (fun s => (lenD false (sl s 0)).bind fun z => (bin BinOp.lss false [] (sl s 2) z).bind fun z => ifD z ((Option.map D.ptr (elemD 4 (sl s 0) (sl s 2))).bind fun z => ((ldD true 4 z).bind chkV).bind fun z =>
 callK (F_laws_szBox [z, sl s 1]) fun rs _u => (bin BinOp.lss false [] (sl rs 0) (D.v (Value.int IntKind.i64 0))).bind fun z => ifD z (some (Out.ret [D.v (Value.int IntKind.i64 (-1))] []))
 ((bin BinOp.add false [] (sl s 2) (D.v (Value.int IntKind.i64 1))).bind fun z => some (Out.nrm [sl s 0, sl rs 0, z]))) (some (Out.ext 0 [sl s 1]))) [x0, z, D.v (Value.int IntKind.i64 0)]).bind
 fun o => outK o (fun i s => ifN (i.beq 0) (some (Out.ret [sl s 0] [])) none) fun a b => some (Out.ret a b))) := by kernel_rfl
theorem t_laws_szStringS (x0 x1 : D) : F_laws_szStringS [x0, x1] =
  ((lenD false x0).bind fun z => (bin BinOp.sub false [] x1 z).bind fun z => (bin BinOp.lss false [] z (D.v (Value.int IntKind.i64 0))).bind fun z_1 => ifD z_1 (some (Out.ret [D.v (Value.int IntKind.i64 (-1))] [])) ((loopC
 (fun s => (lenD false (sl s 0)).bind fun z => (bin BinOp.lss false [] (sl s 2) z).bind fun z => ifD z ((Option.map D.ptr (elemD 1 (sl s 0) (sl s 2))).bind fun z => ((ldD false 1 z).bind chkV).bind fun z =>
 (lenD true z).bind fun z => (bin BinOp.sub false [] (sl s 1) z).bind fun z => (bin BinOp.lss false [] z (D.v (Value.int IntKind.i64 0))).bind fun z_2 => ifD z_2 (some (Out.ret [D.v (Value.int IntKind.i64 (-1))] []))
 ((bin BinOp.add false [] (sl s 2) (D.v (Value.int IntKind.i64 1))).bind fun z_3 => some (Out.nrm [sl s 0, z, z_3]))) (some (Out.ext 0 [sl s 1]))) [x0, z, D.v (Value.int IntKind.i64 0)]).bind
 fun o => outK o (fun i s => ifN (i.beq 0) (some (Out.ret [sl s 0] [])) none) fun a b => some (Out.ret a b))) := by kernel_rfl
theorem t_laws_szForme (x0 x1 : D) : F_laws_szForme [x0, x1] =
  ((boxD 4 x0).bind fun y => (liveD y (D.ref 0 1)).bind fun z => ((atD y z).bind (takeD false 1)).bind fun z => callK (F_laws_szStringS [z, x1]) fun rs _u =>
 (bin BinOp.lss false [] (sl rs 0) (D.v (Value.int IntKind.i64 0))).bind fun z => ifD z (some (Out.ret [D.v (Value.int IntKind.i64 (-1))] [])) (some (Out.ret [sl rs 0] []))) := by kernel_rfl
theorem t_laws_szFormeS (x0 x1 : D) : F_laws_szFormeS [x0, x1] =
  ((lenD false x0).bind fun z => (bin BinOp.sub false [] x1 z).bind fun z => (bin BinOp.lss false [] z (D.v (Value.int IntKind.i64 0))).bind fun z_1 => ifD z_1 (some (Out.ret [D.v (Value.int IntKind.i64 (-1))] [])) ((loopC
 (fun s => (lenD false (sl s 0)).bind fun z => (bin BinOp.lss false [] (sl s 2) z).bind fun z => ifD z ((Option.map D.ptr (elemD 4 (sl s 0) (sl s 2))).bind fun z => (ldD true 4 z).bind fun z =>
 callK (F_laws_szForme [z, sl s 1]) fun rs _u => (bin BinOp.lss false [] (sl rs 0) (D.v (Value.int IntKind.i64 0))).bind fun z => ifD z (some (Out.ret [D.v (Value.int IntKind.i64 (-1))] []))
 ((bin BinOp.add false [] (sl s 2) (D.v (Value.int IntKind.i64 1))).bind fun z => some (Out.nrm [sl s 0, sl rs 0, z]))) (some (Out.ext 0 [sl s 1]))) [x0, z, D.v (Value.int IntKind.i64 0)]).bind
 fun o => outK o (fun i s => ifN (i.beq 0) (some (Out.ret [sl s 0] [])) none) fun a b => some (Out.ret a b))) := by kernel_rfl
theorem t_laws_szShop (x0 x1 : D) : F_laws_szShop [x0, x1] =
  ((boxD 4 x0).bind fun y => (liveD y (D.ref 0 0)).bind fun z => ((atD y z).bind (takeD false 1)).bind fun z => callK (F_laws_szBoxS [z, x1]) fun rs _u =>
 (bin BinOp.lss false [] (sl rs 0) (D.v (Value.int IntKind.i64 0))).bind fun z => ifD z (some (Out.ret [D.v (Value.int IntKind.i64 (-1))] [])) ((liveD y (D.ref 0 1)).bind fun z =>
 ((atD y z).bind (takeD false 1)).bind fun z => callK (F_laws_szFormeS [z, sl rs 0]) fun rs _u => (bin BinOp.lss false [] (sl rs 0) (D.v (Value.int IntKind.i64 0))).bind fun z =>
 ifD z (some (Out.ret [D.v (Value.int IntKind.i64 (-1))] [])) (some (Out.ret [sl rs 0] [])))) := by kernel_rfl
theorem t_laws_toBox (x0 : D) : F_laws_toBox [x0] =
  ((boxD 4 x0).bind fun y => (liveD y (D.ref 0 0)).bind fun z => ((atD y z).bind (takeD false 1)).bind fun z => (liveD (D.agg [D.v (Value.string { data := { toList := [] } }), D.v (Value.int IntKind.i64 0),
 D.v (Value.int IntKind.i64 0), D.v (Value.int IntKind.i64 0)]) (D.ref 0 0)).bind fun z_1 => (stD 1 (D.agg [D.v (Value.string { data := { toList := [] } }), D.v (Value.int IntKind.i64 0),
 D.v (Value.int IntKind.i64 0), D.v (Value.int IntKind.i64 0)]) z_1 z).bind fun b => (liveD y (D.ref 0 1)).bind fun z => ((atD y z).bind (takeD false 1)).bind fun z => (liveD b (D.ref 0 1)).bind fun z_2 =>
 (stD 1 b z_2 z).bind fun b => (liveD y (D.ref 0 2)).bind fun z => ((atD y z).bind (takeD false 1)).bind fun z => (liveD b (D.ref 0 2)).bind fun z_3 => (stD 1 b z_3 z).bind fun b => (liveD y (D.ref 0 3)).bind fun z =>
 ((atD y z).bind (takeD false 1)).bind fun z => (liveD b (D.ref 0 3)).bind fun z_4 => (stD 1 b z_4 z).bind fun b => (fldD true 4 0 b).bind fun z => (stD 4 (D.agg [D.v (Value.string { data := { toList := [] } }),
 D.v (Value.int IntKind.i64 0), D.v (Value.int IntKind.i64 0), D.v (Value.int IntKind.i64 0)]) (D.ref 0 0) z).bind fun b => (fldD true 4 0 b).bind fun y => some (Out.ret [y] [])) := by kernel_rfl
theorem t_laws_toBoxS (x0 : D) : F_laws_toBoxS [x0] =
  ((lenD false x0).bind fun z => (makD 4 40 (D.agg [D.v (Value.string { data := { toList := [] } }), D.v (Value.int IntKind.i64 0), D.v (Value.int IntKind.i64 0), D.v (Value.int IntKind.i64 0)]) z z).bind fun y => (loopC
 (fun s => (lenD false (sl s 0)).bind fun z => (bin BinOp.lss false [] (sl s 2) z).bind fun z => ifD z ((liveD (sl s 1) (D.ref 0 0)).bind fun z => (Option.map D.ptr (elemD 4 (sl s 0) (sl s 2))).bind fun z_1 =>
 ((ldD true 4 z_1).bind chkV).bind fun z_2 => callK (F_laws_toBox [z_2]) fun rs _u => ((liveD z (sl s 1)).bind fun b => refI 4 b (sl s 2)).bind fun z => (stD 4 (sl s 1) z (sl rs 0)).bind fun b =>
 (bin BinOp.add false [] (sl s 2) (D.v (Value.int IntKind.i64 1))).bind fun z => some (Out.nrm [sl s 0, b, z])) (some (Out.ext 0 [sl s 1]))) [x0, y, D.v (Value.int IntKind.i64 0)]).bind
 fun o => outK o (fun i s => ifN (i.beq 0) (some (Out.ret [sl s 0] [])) none) fun a b => some (Out.ret a b)) := by kernel_rfl
theorem t_laws_toStringS (x0 : D) : F_laws_toStringS [x0] =
  ((lenD false x0).bind fun z => (makD 1 16 (D.v (Value.string { data := { toList := [] } })) z z).bind fun y => (loopC (fun s => (lenD false (sl s 0)).bind fun z => (bin BinOp.lss false [] (sl s 2) z).bind fun z => ifD z
 ((liveD (sl s 1) (D.ref 0 0)).bind fun z => (Option.map D.ptr (elemD 1 (sl s 0) (sl s 2))).bind fun z_1 => ((ldD false 1 z_1).bind chkV).bind fun z_2 => ((liveD z (sl s 1)).bind fun b => refI 1 b (sl s 2)).bind fun z =>
 (stD 1 (sl s 1) z z_2).bind fun b => (bin BinOp.add false [] (sl s 2) (D.v (Value.int IntKind.i64 1))).bind fun z => some (Out.nrm [sl s 0, b, z])) (some (Out.ext 0 [sl s 1]))) [x0, y, D.v (Value.int IntKind.i64 0)]).bind
 fun o => outK o (fun i s => ifN (i.beq 0) (some (Out.ret [sl s 0] [])) none) fun a b => some (Out.ret a b)) := by kernel_rfl
theorem t_laws_toForme (x0 : D) : F_laws_toForme [x0] =
  ((boxD 4 x0).bind fun y => (liveD y (D.ref 0 0)).bind fun z => (((atD y z).bind (takeD false 1)).bind chkV).bind fun z => (liveD
 (D.agg [D.v (Value.int IntKind.i64 0), D.arr 1 [], D.v (Value.bool false), D.v (Value.int IntKind.i64 0)]) (D.ref 0 0)).bind fun z_1 => (stD 1 (D.agg
 [D.v (Value.int IntKind.i64 0), D.arr 1 [], D.v (Value.bool false), D.v (Value.int IntKind.i64 0)]) z_1 z).bind fun b => (liveD y (D.ref 0 1)).bind fun z => ((atD y z).bind (takeD false 1)).bind fun z =>
 callK (F_laws_toStringS [z]) fun rs _u => (liveD b (D.ref 0 1)).bind fun z => (stD 1 b z (sl rs 0)).bind fun b => (liveD y (D.ref 0 2)).bind fun z => (((atD y z).bind (takeD false 1)).bind chkV).bind fun z =>
 (liveD b (D.ref 0 2)).bind fun z_2 => (stD 1 b z_2 z).bind fun b => (liveD y (D.ref 0 3)).bind fun z => (((atD y z).bind (takeD false 1)).bind chkV).bind fun z => (liveD b (D.ref 0 3)).bind fun z_3 =>
 (stD 1 b z_3 z).bind fun b => (fldD true 4 0 b).bind fun z => (stD 4 (D.agg [D.v (Value.int IntKind.i64 0), D.arr 1 [], D.v (Value.bool false), D.v (Value.int IntKind.i64 0)]) (D.ref 0 0) z).bind
 fun b => (fldD true 4 0 b).bind fun y => some (Out.ret [y] [])) := by kernel_rfl
theorem t_laws_toFormeS (x0 : D) : F_laws_toFormeS [x0] =
  ((lenD false x0).bind fun z => (makD 4 48 (D.agg [D.v (Value.int IntKind.i64 0), D.arr 1 [], D.v (Value.bool false), D.v (Value.int IntKind.i64 0)]) z z).bind fun y => (loopC (fun s => (lenD false (sl s 0)).bind fun z =>
 (bin BinOp.lss false [] (sl s 2) z).bind fun z => ifD z ((liveD (sl s 1) (D.ref 0 0)).bind fun z => (Option.map D.ptr (elemD 4 (sl s 0) (sl s 2))).bind fun z_1 => (ldD true 4 z_1).bind fun z_2 =>
 callK (F_laws_toForme [z_2]) fun rs _u => ((liveD z (sl s 1)).bind fun b => refI 4 b (sl s 2)).bind fun z => (stD 4 (sl s 1) z (sl rs 0)).bind fun b =>
 (bin BinOp.add false [] (sl s 2) (D.v (Value.int IntKind.i64 1))).bind fun z => some (Out.nrm [sl s 0, b, z])) (some (Out.ext 0 [sl s 1]))) [x0, y, D.v (Value.int IntKind.i64 0)]).bind
 fun o => outK o (fun i s => ifN (i.beq 0) (some (Out.ret [sl s 0] [])) none) fun a b => some (Out.ret a b)) := by kernel_rfl
theorem t_laws_toShop (x0 : D) : F_laws_toShop [x0] =
  ((boxD 4 x0).bind fun y => (liveD y (D.ref 0 0)).bind fun z => ((atD y z).bind (takeD false 1)).bind fun z => callK (F_laws_toBoxS [z]) fun rs _u =>
 (liveD (D.agg [D.arr 4 [], D.arr 4 [], D.v (Value.int IntKind.i64 0), D.v (Value.int IntKind.i64 0)]) (D.ref 0 0)).bind fun z =>
 (stD 1 (D.agg [D.arr 4 [], D.arr 4 [], D.v (Value.int IntKind.i64 0), D.v (Value.int IntKind.i64 0)]) z (sl rs 0)).bind fun b => (liveD y (D.ref 0 1)).bind fun z => ((atD y z).bind (takeD false 1)).bind fun z =>
 callK (F_laws_toFormeS [z]) fun rs _u => (liveD b (D.ref 0 1)).bind fun z => (stD 1 b z (sl rs 0)).bind fun b => (liveD y (D.ref 0 2)).bind fun z => (((atD y z).bind (takeD false 1)).bind chkV).bind fun z =>
 (liveD b (D.ref 0 2)).bind fun z_1 => (stD 1 b z_1 z).bind fun b => (liveD y (D.ref 0 3)).bind fun z => (((atD y z).bind (takeD false 1)).bind chkV).bind fun z => (liveD b (D.ref 0 3)).bind fun z_2 =>
 (stD 1 b z_2 z).bind fun b => (fldD true 4 0 b).bind fun z => (stD 4 (D.agg [D.arr 4 [], D.arr 4 [], D.v (Value.int IntKind.i64 0), D.v (Value.int IntKind.i64 0)]) (D.ref 0 0) z).bind
 fun b => (fldD true 4 0 b).bind fun y => some (Out.ret [y] [])) := by kernel_rfl
theorem t_spec_caFind (x0 x1 : D) : F_spec_caFind [x0, x1] =
  ((lenD false x0).bind fun z => (loopC (fun s => (bin BinOp.lss false [] (sl s 3) (sl s 2)).bind fun z => ifD z ((Option.map D.ptr (elemD 4 (sl s 1) (sl s 3))).bind fun z => ((ldD true 4 z).bind chkV).bind fun z => (stD 4
 (D.agg [D.v (Value.string { data := { toList := [] } }), D.v (Value.int IntKind.i64 0), D.v (Value.int IntKind.i64 0), D.v (Value.int IntKind.i64 0)]) (D.ref 0 0) z).bind fun b => (liveD b (D.ref 0 0)).bind fun z =>
 ((atD b z).bind (takeD false 1)).bind fun z => (bin BinOp.eql false [] z (sl s 0)).bind fun z => ifD z (some (Out.ret [sl s 3] [])) ((bin BinOp.add false [] (sl s 3) (D.v (Value.int IntKind.i64 1))).bind fun z =>
 some (Out.nrm [sl s 0, sl s 1, sl s 2, z]))) (some (Out.ext 0 []))) [x1, x0, z, D.v (Value.int IntKind.i64 0)]).bind fun o =>
 outK o (fun i _u => ifN (i.beq 0) (some (Out.ret [D.v (Value.int IntKind.i64 (-1))] [])) none) fun a b => some (Out.ret a b)) := by kernel_rfl
theorem t_spec_shForme (x0 x1 : D) : F_spec_shForme [x0, x1] =
  ((boxD 4 x1).bind fun y => (liveD y (D.ref 0 0)).bind fun z => (((atD y z).bind (takeD false 1)).bind chkV).bind fun z => callK (F_spec_l1In [z, D.v (Value.int IntKind.i64 1), D.v (Value.int IntKind.i64 99)]) fun rs _u =>
 (un UnOp.not (sl rs 0)).bind fun z => (gate D.bad z false (liveD y (D.ref 0 1))).bind fun z_1 => (gate (D.tup []) z false ((atD y z_1).bind (takeD false 1))).bind fun z_2 =>
 (gate (D.tup []) z false (lenD false z_2)).bind fun z_3 => (gate (D.tup []) z false (bin BinOp.gtr false [] z_3 (D.v (Value.int IntKind.i64 40)))).bind fun z_4 => (pickD z (D.v (Value.bool true)) z_4).bind fun z =>
 (gate D.bad z false (liveD y (D.ref 0 3))).bind fun z_5 => (gate (D.tup []) z false (((atD y z_5).bind (takeD false 1)).bind chkV)).bind fun z_6 => gateC z false (callK
 (F_spec_l1In [z_6, D.v (Value.int IntKind.i64 0), D.v (Value.int IntKind.i64 100000)]) fun rs _u => some (Out.nrm [sl rs 0])) [D.tup []] fun outs => (gate (D.tup []) z false (un UnOp.not (sl outs 0))).bind fun z_7 =>
 (pickD z (D.v (Value.bool true)) z_7).bind fun z => (gate D.bad z false (liveD y (D.ref 0 2))).bind fun z_8 => (gate (D.tup []) z false (((atD y z_8).bind (takeD false 1)).bind chkV)).bind fun z_9 =>
 (gate (D.tup []) z false (some z_9)).bind fun z_10 => (gate D.bad z_10 true (liveD y (D.ref 0 1))).bind fun z_11 => (gate (D.tup []) z_10 true ((atD y z_11).bind (takeD false 1))).bind fun z_12 =>
 (gate (D.tup []) z_10 true (lenD false z_12)).bind fun z_13 => (gate (D.tup []) z_10 true (bin BinOp.eql false [] z_13 (D.v (Value.int IntKind.i64 0)))).bind fun z_14 =>
 (gate (D.tup []) z false (pickD z_10 z_14 (D.v (Value.bool false)))).bind fun z_15 => (pickD z (D.v (Value.bool true)) z_15).bind fun z => ifD z (some (Out.ret [D.v (Value.bool false)] []))
 ((liveD y (D.ref 0 1)).bind fun z => ((atD y z).bind (takeD false 1)).bind fun z => (lenD false z).bind fun z_16 => (loopC (fun s => (bin BinOp.lss false [] (sl s 3) (sl s 2)).bind fun z => ifD z ((Option.map D.ptr
 (elemD 1 (sl s 1) (sl s 3))).bind fun z => ((ldD false 1 z).bind chkV).bind fun z => callK (F_spec_caFind [sl s 0, z]) fun rs _u => (bin BinOp.lss false [] (sl rs 0) (D.v (Value.int IntKind.i64 0))).bind fun z => ifD z
 (some (Out.ret [D.v (Value.bool false)] [])) ((bin BinOp.add false [] (sl s 3) (D.v (Value.int IntKind.i64 1))).bind fun z => some (Out.nrm [sl s 0, sl s 1, sl s 2, z]))) (some (Out.ext 0 [])))
 [x0, z, z_16, D.v (Value.int IntKind.i64 0)]).bind fun o => outK o (fun i _u => ifN (i.beq 0) (some (Out.ret [D.v (Value.bool true)] [])) none) fun a b => some (Out.ret a b))) := by kernel_rfl
theorem t_spec_tyLetters (x0 x1 : D) : F_spec_tyLetters [x0, x1] =
  ((loopC (fun s => (lenD true (sl s 0)).bind fun z => (bin BinOp.lss false [] (sl s 2) z).bind fun z => ifD z ((charD (sl s 0) (sl s 2)).bind fun z => (bin BinOp.lss false [] z (D.v (Value.int IntKind.u8 97))).bind fun z =>
 (gate (D.tup []) z false (some (sl s 0))).bind fun z_1 => (gate (D.tup []) z false (some (sl s 2))).bind fun z_2 => (gate (D.tup []) z false (charD z_1 z_2)).bind fun z_3 =>
 (gate (D.tup []) z false (bin BinOp.gtr false [] z_3 (D.v (Value.int IntKind.u8 122)))).bind fun z_4 => (pickD z (D.v (Value.bool true)) z_4).bind fun z => ifD z (some (Out.ret [D.v (Value.bool false)] []))
 ((bin BinOp.add false [] (sl s 2) (D.v (Value.int IntKind.i64 1))).bind fun z => some (Out.nrm [sl s 0, sl s 1, z]))) (some (Out.ext 0 [sl s 0, sl s 1]))) [x0, x1, D.v (Value.int IntKind.i64 0)]).bind fun o => outK o
 (fun i s => ifN (i.beq 0) ((lenD true (sl s 0)).bind fun z => callK (F_spec_l1In [z, D.v (Value.int IntKind.i64 1), sl s 1]) fun rs _u => some (Out.ret [sl rs 0] [])) none) fun a b => some (Out.ret a b)) := by kernel_rfl
theorem t_spec_caBox (x0 : D) : F_spec_caBox [x0] =
  ((boxD 4 x0).bind fun y => (liveD y (D.ref 0 0)).bind fun z => ((atD y z).bind (takeD false 1)).bind fun z => callK (F_spec_tyLetters [z, D.v (Value.int IntKind.i64 3)]) fun rs _u =>
 (gate D.bad (sl rs 0) true (liveD y (D.ref 0 1))).bind fun z => (gate (D.tup []) (sl rs 0) true ((atD y z).bind (takeD false 1))).bind fun z => gateC (sl rs 0) true
 (callK (F_spec_l1In [z, D.v (Value.int IntKind.i64 0), D.v (Value.int IntKind.i64 9)]) fun rs _u => some (Out.nrm [sl rs 0])) [D.tup []] fun outs => (pickD (sl rs 0) (sl outs 0) (D.v (Value.bool false))).bind fun z =>
 (gate D.bad z true (liveD y (D.ref 0 2))).bind fun z_1 => (gate (D.tup []) z true ((atD y z_1).bind (takeD false 1))).bind fun z_2 => gateC z true
 (callK (F_spec_l1In [z_2, D.v (Value.int IntKind.i64 0), D.v (Value.int IntKind.i64 9)]) fun rs _u => some (Out.nrm [sl rs 0])) [D.tup []] fun outs => (pickD z (sl outs 0) (D.v (Value.bool false))).bind fun z =>
 (gate D.bad z true (liveD y (D.ref 0 3))).bind fun z_3 => (gate (D.tup []) z true ((atD y z_3).bind (takeD false 1))).bind fun z_4 => gateC z true (callK
 (F_spec_l1In [z_4, D.v (Value.int IntKind.i64 0), D.v (Value.int IntKind.i64 9999)]) fun rs _u => some (Out.nrm [sl rs 0])) [D.tup []] fun outs =>
 (pickD z (sl outs 0) (D.v (Value.bool false))).bind fun z => some (Out.ret [z] [])) := by kernel_rfl
theorem t_spec_caGood (x0 : D) : F_spec_caGood [x0] =
  ((lenD false x0).bind fun z => (loopC (fun s => (bin BinOp.lss false [] (sl s 3) (sl s 2)).bind fun z => ifD z ((Option.map D.ptr (elemD 4 (sl s 1) (sl s 3))).bind fun z => ((ldD true 4 z).bind chkV).bind fun z => (stD 4
 (D.agg [D.v (Value.string { data := { toList := [] } }), D.v (Value.int IntKind.i64 0), D.v (Value.int IntKind.i64 0), D.v (Value.int IntKind.i64 0)]) (D.ref 0 0) z).bind fun b => (fldD true 4 0 b).bind fun z =>
 callK (F_spec_caBox [z]) fun rs _u => (un UnOp.not (sl rs 0)).bind fun z => (gate (D.tup []) z false (some (sl s 3))).bind fun z_1 => (gate (D.tup []) z false
 (bin BinOp.gtr false [] z_1 (D.v (Value.int IntKind.i64 0)))).bind fun z_2 => (gate (D.tup []) z false (some z_2)).bind fun z_3 => (gate (D.tup []) z_3 true (some (sl s 0))).bind fun z_4 =>
 (gate (D.tup []) z_3 true (some (sl s 3))).bind fun z_5 => (gate (D.tup []) z_3 true (bin BinOp.sub false [] z_5 (D.v (Value.int IntKind.i64 1)))).bind fun z_6 =>
 (gate (D.tup []) z_3 true (Option.map D.ptr (elemD 4 z_4 z_6))).bind fun z_7 => (gate (D.tup []) z_3 true (offD 0 z_7)).bind fun z_8 => (gate (D.tup []) z_3 true ((ldD false 1 z_8).bind chkV)).bind fun z_9 =>
 (gate D.bad z_3 true (liveD b (D.ref 0 0))).bind fun z_10 => (gate (D.tup []) z_3 true ((atD b z_10).bind (takeD false 1))).bind fun z_11 => (gate (D.tup []) z_3 true (bin BinOp.geq false [] z_9 z_11)).bind fun z_12 =>
 (gate (D.tup []) z false (pickD z_3 z_12 (D.v (Value.bool false)))).bind fun z_13 => (pickD z (D.v (Value.bool true)) z_13).bind fun z => ifD z (some (Out.ret [D.v (Value.bool false)] []))
 ((sliceD false 4 (sl s 0) (D.v (Value.int IntKind.i64 0)) (sl s 3)).bind fun z => (lenD false z).bind fun z_14 => (loopC (fun s => (bin BinOp.lss false [] (sl s 7) (sl s 6)).bind fun z => ifD z ((Option.map D.ptr
 (elemD 4 (sl s 5) (sl s 7))).bind fun z => ((ldD true 4 z).bind chkV).bind fun z => (stD 4 (D.agg [D.v (Value.string { data := { toList := [] } }), D.v (Value.int IntKind.i64 0), D.v (Value.int IntKind.i64 0),
 D.v (Value.int IntKind.i64 0)]) (D.ref 0 0) z).bind fun b => (liveD b (D.ref 0 1)).bind fun z => ((atD b z).bind (takeD false 1)).bind fun z => (liveD (sl s 1) (D.ref 0 1)).bind fun z_15 => ((atD (sl s 1) z_15).bind
 (takeD false 1)).bind fun z_16 => (bin BinOp.eql false [] z z_16).bind fun z => (gate D.bad z true (liveD b (D.ref 0 2))).bind fun z_17 => (gate (D.tup []) z true ((atD b z_17).bind (takeD false 1))).bind fun z_18 =>
 (gate D.bad z true (liveD (sl s 1) (D.ref 0 2))).bind fun z_19 => (gate (D.tup []) z true ((atD (sl s 1) z_19).bind (takeD false 1))).bind fun z_20 => (gate (D.tup []) z true (bin BinOp.eql false [] z_18 z_20)).bind
 fun z_21 => (pickD z z_21 (D.v (Value.bool false))).bind fun z => ifD z (some (Out.ret [D.v (Value.bool false)] [])) ((bin BinOp.add false [] (sl s 7) (D.v (Value.int IntKind.i64 1))).bind fun z => some (Out.nrm [sl s 0,
 sl s 1, sl s 2, sl s 3, sl s 4, sl s 5, sl s 6, z]))) (some (Out.ext 2 [sl s 0, sl s 2, sl s 3, sl s 4]))) [sl s 0, b, sl s 1, sl s 2, sl s 3, z, z_14, D.v (Value.int IntKind.i64 0)]).bind fun o => outK o (fun i s =>
 ifN (i.beq 2) ((bin BinOp.add false [] (sl s 3) (D.v (Value.int IntKind.i64 1))).bind fun z => some (Out.nrm [sl s 0, sl s 1, sl s 2, z])) (ifN (i.beq 1) ((bin BinOp.add false [] (sl s 3)
 (D.v (Value.int IntKind.i64 1))).bind fun z => some (Out.nrm [sl s 0, sl s 1, sl s 2, z])) (some (Out.ext i [sl s 0])))) fun a b => some (Out.ret a b))) (some (Out.ext 0 [sl s 0])))
 [x0, x0, z, D.v (Value.int IntKind.i64 0)]).bind fun o => outK o (fun i s => ifN (i.beq 0) ((lenD false (sl s 0)).bind fun z =>
 callK (F_spec_l1In [z, D.v (Value.int IntKind.i64 1), D.v (Value.int IntKind.i64 32)]) fun rs _u => some (Out.ret [sl rs 0] [])) none) fun a b => some (Out.ret a b)) := by kernel_rfl
theorem t_spec_shGood (x0 : D) : F_spec_shGood [x0] =
  ((boxD 4 x0).bind fun y => (liveD y (D.ref 0 1)).bind fun z => ((atD y z).bind (takeD false 1)).bind fun z => (lenD false z).bind fun z_1 => (loopC (fun s => (bin BinOp.lss false [] (sl s 4) (sl s 3)).bind fun z => ifD z
 ((Option.map D.ptr (elemD 4 (sl s 2) (sl s 4))).bind fun z => (ldD true 4 z).bind fun z => (stD 4 (D.agg [D.v (Value.int IntKind.i64 0), D.arr 1 [], D.v (Value.bool false), D.v (Value.int IntKind.i64 0)])
 (D.ref 0 0) z).bind fun b => (liveD (sl s 0) (D.ref 0 0)).bind fun z => ((atD (sl s 0) z).bind (takeD false 1)).bind fun z => (fldD true 4 0 b).bind fun z_2 => callK (F_spec_shForme [z, z_2]) fun rs _u =>
 (un UnOp.not (sl rs 0)).bind fun z => (gate (D.tup []) z false (some (sl s 4))).bind fun z_3 => (gate (D.tup []) z false (bin BinOp.gtr false [] z_3 (D.v (Value.int IntKind.i64 0)))).bind fun z_4 =>
 (gate (D.tup []) z false (some z_4)).bind fun z_5 => (gate D.bad z_5 true (liveD (sl s 0) (D.ref 0 1))).bind fun z_6 => (gate (D.tup []) z_5 true ((atD (sl s 0) z_6).bind (takeD false 1))).bind fun z_7 =>
 (gate (D.tup []) z_5 true (some (sl s 4))).bind fun z_8 => (gate (D.tup []) z_5 true (bin BinOp.sub false [] z_8 (D.v (Value.int IntKind.i64 1)))).bind fun z_9 =>
 (gate (D.tup []) z_5 true (Option.map D.ptr (elemD 4 z_7 z_9))).bind fun z_10 => (gate (D.tup []) z_5 true (offD 0 z_10)).bind fun z_11 => (gate (D.tup []) z_5 true ((ldD false 1 z_11).bind chkV)).bind fun z_12 =>
 (gate D.bad z_5 true (liveD b (D.ref 0 0))).bind fun z_13 => (gate (D.tup []) z_5 true (((atD b z_13).bind (takeD false 1)).bind chkV)).bind fun z_14 => (gate (D.tup []) z_5 true (bin BinOp.geq false [] z_12 z_14)).bind
 fun z_15 => (gate (D.tup []) z false (pickD z_5 z_15 (D.v (Value.bool false)))).bind fun z_16 => (pickD z (D.v (Value.bool true)) z_16).bind fun z => ifD z (some (Out.ret [D.v (Value.bool false)] []))
 ((liveD b (D.ref 0 3)).bind fun z => (((atD b z).bind (takeD false 1)).bind chkV).bind fun z => (bin BinOp.add false [] (sl s 1) z).bind fun z => (bin BinOp.add false [] (sl s 4) (D.v (Value.int IntKind.i64 1))).bind
 fun z_17 => some (Out.nrm [sl s 0, z, sl s 2, sl s 3, z_17]))) (some (Out.ext 0 [sl s 0, sl s 1]))) [y, D.v (Value.int IntKind.i64 0), z, z_1, D.v (Value.int IntKind.i64 0)]).bind fun o => outK o (fun i s => ifN (i.beq 0)
 ((liveD (sl s 0) (D.ref 0 0)).bind fun z => ((atD (sl s 0) z).bind (takeD false 1)).bind fun z => callK (F_spec_caGood [z]) fun rs _u => (gate D.bad (sl rs 0) true (liveD (sl s 0) (D.ref 0 1))).bind fun z =>
 (gate (D.tup []) (sl rs 0) true ((atD (sl s 0) z).bind (takeD false 1))).bind fun z => (gate (D.tup []) (sl rs 0) true (lenD false z)).bind fun z => (gate (D.tup []) (sl rs 0) true
 (bin BinOp.leq false [] z (D.v (Value.int IntKind.i64 5)))).bind fun z => (pickD (sl rs 0) z (D.v (Value.bool false))).bind fun z => (gate D.bad z true (liveD (sl s 0) (D.ref 0 2))).bind fun z_2 =>
 (gate (D.tup []) z true (((atD (sl s 0) z_2).bind (takeD false 1)).bind chkV)).bind fun z_3 => gateC z true (callK (F_spec_l1In [z_3, D.v (Value.int IntKind.i64 0), D.v (Value.int IntKind.i64 9999)])
 fun rs _u => some (Out.nrm [sl rs 0])) [D.tup []] fun outs => (pickD z (sl outs 0) (D.v (Value.bool false))).bind fun z => (gate D.bad z true (liveD (sl s 0) (D.ref 0 3))).bind fun z_4 => (gate (D.tup []) z true
 (((atD (sl s 0) z_4).bind (takeD false 1)).bind chkV)).bind fun z_5 => (gate (D.tup []) z true (some (sl s 1))).bind fun z_6 => gateC z true (callK (F_spec_l1In [z_5, z_6, D.v (Value.int IntKind.i64 1000000)])
 fun rs _u => some (Out.nrm [sl rs 0])) [D.tup []] fun outs => (pickD z (sl outs 0) (D.v (Value.bool false))).bind fun z => some (Out.ret [z] [])) none) fun a b => some (Out.ret a b)) := by kernel_rfl
theorem t_spec_ShopText (x0 : D) : F_spec_ShopText [x0] =
  ((boxD 4 x0).bind fun y => (fldD true 4 0 y).bind fun z => callK (F_spec_shGood [z]) fun rs _u => (un UnOp.not (sl rs 0)).bind fun z =>
 ifD z (some (Out.ret [D.v (Value.string { data := { toList := [] } }), D.v (Value.bool false)] [])) ((liveD y (D.ref 0 1)).bind fun z => ((atD y z).bind (takeD false 1)).bind fun z => (lenD false z).bind fun z_1 => (loopC
 (fun s => (bin BinOp.lss false [] (sl s 4) (sl s 3)).bind fun z => ifD z ((Option.map D.ptr (elemD 4 (sl s 2) (sl s 4))).bind fun z => (ldD true 4 z).bind fun z => (stD 4 (D.agg
 [D.v (Value.int IntKind.i64 0), D.arr 1 [], D.v (Value.bool false), D.v (Value.int IntKind.i64 0)]) (D.ref 0 0) z).bind fun b => (liveD b (D.ref 0 0)).bind fun z =>
 (((atD b z).bind (takeD false 1)).bind chkV).bind fun z => callK (F_spec_l1Num [z]) fun rs _u => (bin BinOp.add false [] (sl rs 0) (D.v (Value.string { data := { toList := [58] } }))).bind fun z =>
 (liveD b (D.ref 0 1)).bind fun z_2 => ((atD b z_2).bind (takeD false 1)).bind fun z_3 => (lenD false z_3).bind fun z_4 => callK (F_spec_l1Num [z_4]) fun rs _u => (bin BinOp.add false [] z (sl rs 0)).bind fun z =>
 (bin BinOp.add false [] (sl s 1) z).bind fun z => (liveD b (D.ref 0 2)).bind fun z_5 => (((atD b z_5).bind (takeD false 1)).bind chkV).bind fun z_6 => ifD z_6 ((bin BinOp.add false [] z (D.v (Value.string
 { data := { toList := [42] } }))).bind fun z => (liveD b (D.ref 0 3)).bind fun z_7 => (((atD b z_7).bind (takeD false 1)).bind chkV).bind fun z_8 => callK (F_spec_l1Num [z_8]) fun rs _u => (bin BinOp.add false [] (D.v
 (Value.string { data := { toList := [112] } })) (sl rs 0)).bind fun z_9 => (bin BinOp.add false [] z_9 (D.v (Value.string { data := { toList := [32] } }))).bind fun z_10 => (bin BinOp.add false [] z z_10).bind fun z =>
 (bin BinOp.add false [] (sl s 4) (D.v (Value.int IntKind.i64 1))).bind fun z_11 => some (Out.nrm [sl s 0, z, sl s 2, sl s 3, z_11])) ((liveD b (D.ref 0 3)).bind fun z_7 =>
 (((atD b z_7).bind (takeD false 1)).bind chkV).bind fun z_8 => callK (F_spec_l1Num [z_8]) fun rs _u => (bin BinOp.add false [] (D.v (Value.string { data := { toList := [112] } })) (sl rs 0)).bind fun z_9 =>
 (bin BinOp.add false [] z_9 (D.v (Value.string { data := { toList := [32] } }))).bind fun z_10 => (bin BinOp.add false [] z z_10).bind fun z => (bin BinOp.add false [] (sl s 4) (D.v (Value.int IntKind.i64 1))).bind
 fun z_11 => some (Out.nrm [sl s 0, z, sl s 2, sl s 3, z_11]))) (some (Out.ext 0 [sl s 0, sl s 1]))) [y, D.v (Value.string { data := { toList := [] } }), z, z_1, D.v (Value.int IntKind.i64 0)]).bind fun o => outK o
 (fun i s => ifN (i.beq 0) ((bin BinOp.add false [] (sl s 1) (D.v (Value.string { data := { toList := [108, 111, 115, 116, 32] } }))).bind fun z => (liveD (sl s 0) (D.ref 0 2)).bind fun z_2 =>
 (((atD (sl s 0) z_2).bind (takeD false 1)).bind chkV).bind fun z_3 => callK (F_spec_l1Num [z_3]) fun rs _u => (bin BinOp.add false [] z (sl rs 0)).bind fun z => (bin BinOp.add false [] z (D.v (Value.string
 { data := { toList := [32, 115, 104, 101, 101, 116, 115, 32] } }))).bind fun z => (liveD (sl s 0) (D.ref 0 3)).bind fun z_4 => (((atD (sl s 0) z_4).bind (takeD false 1)).bind chkV).bind fun z_5 =>
 callK (F_spec_l1Num [z_5]) fun rs _u => (bin BinOp.add false [] z (sl rs 0)).bind fun z => some (Out.ret [z, D.v (Value.bool true)] [])) none) fun a b => some (Out.ret a b))) := by kernel_rfl
theorem t_impl_isFormeId (x0 : D) : F_impl_isFormeId [x0] =
  (callK (F_impl_within [x0, D.v (Value.int IntKind.i64 1), D.v (Value.int IntKind.i64 99)]) fun rs _u => some (Out.ret [sl rs 0] [])) := by kernel_rfl
theorem t_impl_boxAt (x0 x1 : D) : F_impl_boxAt [x0, x1] =
  ((lenD false x0).bind fun z => (loopC (fun s => (bin BinOp.lss false [] (sl s 3) (sl s 2)).bind fun z => ifD z ((Option.map D.ptr (elemD 4 (sl s 1) (sl s 3))).bind fun z => ((ldD true 4 z).bind chkV).bind fun z => (stD 4
 (D.agg [D.v (Value.string { data := { toList := [] } }), D.v (Value.int IntKind.i64 0), D.v (Value.int IntKind.i64 0), D.v (Value.int IntKind.i64 0)]) (D.ref 0 0) z).bind fun b => (liveD b (D.ref 0 0)).bind fun z =>
 ((atD b z).bind (takeD false 1)).bind fun z => (bin BinOp.eql false [] z (sl s 0)).bind fun z => ifD z (some (Out.ret [sl s 3] [])) ((bin BinOp.add false [] (sl s 3) (D.v (Value.int IntKind.i64 1))).bind fun z =>
 some (Out.nrm [sl s 0, sl s 1, sl s 2, z]))) (some (Out.ext 0 []))) [x1, x0, z, D.v (Value.int IntKind.i64 0)]).bind fun o =>
 outK o (fun i _u => ifN (i.beq 0) (some (Out.ret [D.v (Value.int IntKind.i64 (-1))] [])) none) fun a b => some (Out.ret a b)) := by kernel_rfl
theorem t_impl_areLetters (x0 x1 x2 : D) : F_impl_areLetters [x0, x1, x2] =
  ((loopC (fun s => (lenD true (sl s 0)).bind fun z => (bin BinOp.lss false [] (sl s 3) z).bind fun z => ifD z ((charD (sl s 0) (sl s 3)).bind fun z => (bin BinOp.lss false [] z (D.v (Value.int IntKind.u8 97))).bind fun z =>
 (gate (D.tup []) z false (some (sl s 0))).bind fun z_1 => (gate (D.tup []) z false (some (sl s 3))).bind fun z_2 => (gate (D.tup []) z false (charD z_1 z_2)).bind fun z_3 =>
 (gate (D.tup []) z false (bin BinOp.gtr false [] z_3 (D.v (Value.int IntKind.u8 122)))).bind fun z_4 => (pickD z (D.v (Value.bool true)) z_4).bind fun z => ifD z (some (Out.ret [D.v (Value.bool false)] []))
 ((bin BinOp.add false [] (sl s 3) (D.v (Value.int IntKind.i64 1))).bind fun z => some (Out.nrm [sl s 0, sl s 1, sl s 2, z]))) (some (Out.ext 0 [sl s 0, sl s 1, sl s 2]))) [x0, x1, x2, D.v (Value.int IntKind.i64 0)]).bind
 fun o => outK o (fun i s => ifN (i.beq 0) ((lenD true (sl s 0)).bind fun z => callK (F_impl_within [z, sl s 1, sl s 2]) fun rs _u => some (Out.ret [sl rs 0] [])) none) fun a b => some (Out.ret a b)) := by kernel_rfl
theorem t_impl_isCode (x0 : D) : F_impl_isCode [x0] =
  (callK (F_impl_areLetters [x0, D.v (Value.int IntKind.i64 1), D.v (Value.int IntKind.i64 3)]) fun rs _u => some (Out.ret [sl rs 0] [])) := by kernel_rfl
theorem t_impl_isPlace (x0 : D) : F_impl_isPlace [x0] =
  (callK (F_impl_within [x0, D.v (Value.int IntKind.i64 0), D.v (Value.int IntKind.i64 9)]) fun rs _u => some (Out.ret [sl rs 0] [])) := by kernel_rfl
theorem t_impl_IsBox (x0 : D) : F_impl_IsBox [x0] =
  ((boxD 4 x0).bind fun y => (liveD y (D.ref 0 0)).bind fun z => ((atD y z).bind (takeD false 1)).bind fun z => callK (F_impl_isCode [z]) fun rs _u => (gate D.bad (sl rs 0) true (liveD y (D.ref 0 1))).bind fun z =>
 (gate (D.tup []) (sl rs 0) true ((atD y z).bind (takeD false 1))).bind fun z => gateC (sl rs 0) true (callK (F_impl_isPlace [z]) fun rs _u => some (Out.nrm [sl rs 0])) [D.tup []] fun outs =>
 (pickD (sl rs 0) (sl outs 0) (D.v (Value.bool false))).bind fun z => (gate D.bad z true (liveD y (D.ref 0 2))).bind fun z_1 => (gate (D.tup []) z true ((atD y z_1).bind (takeD false 1))).bind fun z_2 =>
 gateC z true (callK (F_impl_isPlace [z_2]) fun rs _u => some (Out.nrm [sl rs 0])) [D.tup []] fun outs => (pickD z (sl outs 0) (D.v (Value.bool false))).bind fun z =>
 (gate D.bad z true (liveD y (D.ref 0 3))).bind fun z_3 => (gate (D.tup []) z true ((atD y z_3).bind (takeD false 1))).bind fun z_4 => gateC z true (callK
 (F_impl_within [z_4, D.v (Value.int IntKind.i64 0), D.v (Value.int IntKind.i64 9999)]) fun rs _u => some (Out.nrm [sl rs 0])) [D.tup []] fun outs =>
 (pickD z (sl outs 0) (D.v (Value.bool false))).bind fun z => some (Out.ret [z] [])) := by kernel_rfl
theorem t_impl_isTaken (x0 x1 x2 : D) : F_impl_isTaken [x0, x1, x2] =
  ((lenD false x0).bind fun z => (loopC (fun s => (bin BinOp.lss false [] (sl s 4) (sl s 3)).bind fun z => ifD z ((Option.map D.ptr (elemD 4 (sl s 2) (sl s 4))).bind fun z => ((ldD true 4 z).bind chkV).bind fun z => (stD 4
 (D.agg [D.v (Value.string { data := { toList := [] } }), D.v (Value.int IntKind.i64 0), D.v (Value.int IntKind.i64 0), D.v (Value.int IntKind.i64 0)]) (D.ref 0 0) z).bind fun b => (liveD b (D.ref 0 1)).bind fun z =>
 ((atD b z).bind (takeD false 1)).bind fun z => (bin BinOp.eql false [] z (sl s 0)).bind fun z => (gate D.bad z true (liveD b (D.ref 0 2))).bind fun z_1 =>
 (gate (D.tup []) z true ((atD b z_1).bind (takeD false 1))).bind fun z_2 => (gate (D.tup []) z true (some (sl s 1))).bind fun z_3 => (gate (D.tup []) z true (bin BinOp.eql false [] z_2 z_3)).bind fun z_4 =>
 (pickD z z_4 (D.v (Value.bool false))).bind fun z => ifD z (some (Out.ret [D.v (Value.bool true)] [])) ((bin BinOp.add false [] (sl s 4) (D.v (Value.int IntKind.i64 1))).bind fun z =>
 some (Out.nrm [sl s 0, sl s 1, sl s 2, sl s 3, z]))) (some (Out.ext 0 []))) [x1, x2, x0, z, D.v (Value.int IntKind.i64 0)]).bind fun o =>
 outK o (fun i _u => ifN (i.beq 0) (some (Out.ret [D.v (Value.bool false)] [])) none) fun a b => some (Out.ret a b)) := by kernel_rfl
theorem t_impl_IsCase (x0 : D) : F_impl_IsCase [x0] =
  ((lenD false x0).bind fun z => (loopC (fun s => (bin BinOp.lss false [] (sl s 3) (sl s 2)).bind fun z => ifD z ((Option.map D.ptr (elemD 4 (sl s 1) (sl s 3))).bind fun z => ((ldD true 4 z).bind chkV).bind fun z => (stD 4
 (D.agg [D.v (Value.string { data := { toList := [] } }), D.v (Value.int IntKind.i64 0), D.v (Value.int IntKind.i64 0), D.v (Value.int IntKind.i64 0)]) (D.ref 0 0) z).bind fun b => (fldD true 4 0 b).bind fun z =>
 callK (F_impl_IsBox [z]) fun rs _u => (un UnOp.not (sl rs 0)).bind fun z => (gate (D.tup []) z false (some (sl s 3))).bind fun z_1 => (gate (D.tup []) z false
 (bin BinOp.gtr false [] z_1 (D.v (Value.int IntKind.i64 0)))).bind fun z_2 => (gate (D.tup []) z false (some z_2)).bind fun z_3 => (gate (D.tup []) z_3 true (some (sl s 0))).bind fun z_4 =>
 (gate (D.tup []) z_3 true (some (sl s 3))).bind fun z_5 => (gate (D.tup []) z_3 true (bin BinOp.sub false [] z_5 (D.v (Value.int IntKind.i64 1)))).bind fun z_6 =>
 (gate (D.tup []) z_3 true (Option.map D.ptr (elemD 4 z_4 z_6))).bind fun z_7 => (gate (D.tup []) z_3 true (offD 0 z_7)).bind fun z_8 => (gate (D.tup []) z_3 true ((ldD false 1 z_8).bind chkV)).bind fun z_9 =>
 (gate D.bad z_3 true (liveD b (D.ref 0 0))).bind fun z_10 => (gate (D.tup []) z_3 true ((atD b z_10).bind (takeD false 1))).bind fun z_11 => (gate (D.tup []) z_3 true (bin BinOp.geq false [] z_9 z_11)).bind fun z_12 =>
 (gate (D.tup []) z false (pickD z_3 z_12 (D.v (Value.bool false)))).bind fun z_13 => (pickD z (D.v (Value.bool true)) z_13).bind fun z => (gate (D.tup []) z false (some (sl s 0))).bind fun z_14 =>
 (gate (D.tup []) z false (some (sl s 3))).bind fun z_15 => (gate (D.tup []) z false (sliceD false 4 z_14 (D.v (Value.int IntKind.i64 0)) z_15)).bind fun z_16 => (gate D.bad z false (liveD b (D.ref 0 1))).bind fun z_17 =>
 (gate (D.tup []) z false ((atD b z_17).bind (takeD false 1))).bind fun z_18 => (gate D.bad z false (liveD b (D.ref 0 2))).bind fun z_19 => (gate (D.tup []) z false ((atD b z_19).bind (takeD false 1))).bind fun z_20 =>
 gateC z false (callK (F_impl_isTaken [z_16, z_18, z_20]) fun rs _u => some (Out.nrm [sl rs 0])) [D.tup []] fun outs => (pickD z (D.v (Value.bool true)) (sl outs 0)).bind fun z => ifD z
 (some (Out.ret [D.v (Value.bool false)] [])) ((bin BinOp.add false [] (sl s 3) (D.v (Value.int IntKind.i64 1))).bind fun z => some (Out.nrm [sl s 0, sl s 1, sl s 2, z]))) (some (Out.ext 0 [sl s 0])))
 [x0, x0, z, D.v (Value.int IntKind.i64 0)]).bind fun o => outK o (fun i s => ifN (i.beq 0) ((lenD false (sl s 0)).bind fun z =>
 callK (F_impl_within [z, D.v (Value.int IntKind.i64 1), D.v (Value.int IntKind.i64 32)]) fun rs _u => some (Out.ret [sl rs 0] [])) none) fun a b => some (Out.ret a b)) := by kernel_rfl
theorem t_impl_areCodes (x0 x1 : D) : F_impl_areCodes [x0, x1] =
  ((lenD false x1).bind fun z => (loopC (fun s => (bin BinOp.lss false [] (sl s 4) (sl s 3)).bind fun z => ifD z ((Option.map D.ptr (elemD 1 (sl s 2) (sl s 4))).bind fun z => ((ldD false 1 z).bind chkV).bind fun z =>
 callK (F_impl_boxAt [sl s 0, z]) fun rs _u => (bin BinOp.lss false [] (sl rs 0) (D.v (Value.int IntKind.i64 0))).bind fun z => ifD z (some (Out.ret [D.v (Value.bool false)] []))
 ((bin BinOp.add false [] (sl s 4) (D.v (Value.int IntKind.i64 1))).bind fun z => some (Out.nrm [sl s 0, sl s 1, sl s 2, sl s 3, z]))) (some (Out.ext 0 [sl s 0, sl s 1])))
 [x0, x1, x1, z, D.v (Value.int IntKind.i64 0)]).bind fun o => outK o (fun i s => ifN (i.beq 0) (callK (F_impl_IsCase [sl s 0]) fun rs _u => (gate (D.tup []) (sl rs 0) true (some (sl s 1))).bind fun z =>
 (gate (D.tup []) (sl rs 0) true (lenD false z)).bind fun z => (gate (D.tup []) (sl rs 0) true (bin BinOp.leq false [] z (D.v (Value.int IntKind.i64 60)))).bind
 fun z => (pickD (sl rs 0) z (D.v (Value.bool false))).bind fun z => some (Out.ret [z] [])) none) fun a b => some (Out.ret a b)) := by kernel_rfl
theorem t_impl_isForme (x0 x1 : D) : F_impl_isForme [x0, x1] =
  ((boxD 4 x1).bind fun y => (liveD y (D.ref 0 0)).bind fun z => (((atD y z).bind (takeD false 1)).bind chkV).bind fun z => callK (F_impl_isFormeId [z]) fun rs _u => (gate (D.tup []) (sl rs 0) true (some x0)).bind fun z =>
 (gate D.bad (sl rs 0) true (liveD y (D.ref 0 1))).bind fun z_1 => (gate (D.tup []) (sl rs 0) true ((atD y z_1).bind (takeD false 1))).bind fun z_2 =>
 gateC (sl rs 0) true (callK (F_impl_areCodes [z, z_2]) fun rs _u => some (Out.nrm [sl rs 0])) [D.tup []] fun outs => (pickD (sl rs 0) (sl outs 0) (D.v (Value.bool false))).bind fun z =>
 (gate D.bad z true (liveD y (D.ref 0 1))).bind fun z_3 => (gate (D.tup []) z true ((atD y z_3).bind (takeD false 1))).bind fun z_4 => (gate (D.tup []) z true (lenD false z_4)).bind fun z_5 =>
 (gate (D.tup []) z true (bin BinOp.leq false [] z_5 (D.v (Value.int IntKind.i64 40)))).bind fun z_6 => (pickD z z_6 (D.v (Value.bool false))).bind fun z => (gate D.bad z true (liveD y (D.ref 0 3))).bind fun z_7 =>
 (gate (D.tup []) z true (((atD y z_7).bind (takeD false 1)).bind chkV)).bind fun z_8 => gateC z true (callK (F_impl_within [z_8, D.v (Value.int IntKind.i64 0), D.v (Value.int IntKind.i64 100000)])
 fun rs _u => some (Out.nrm [sl rs 0])) [D.tup []] fun outs => (pickD z (sl outs 0) (D.v (Value.bool false))).bind fun z => (gate D.bad z true (liveD y (D.ref 0 2))).bind fun z_9 =>
 (gate (D.tup []) z true (((atD y z_9).bind (takeD false 1)).bind chkV)).bind fun z_10 => (gate (D.tup []) z true (un UnOp.not z_10)).bind fun z_11 => (gate (D.tup []) z true (some z_11)).bind fun z_12 =>
 (gate D.bad z_12 false (liveD y (D.ref 0 1))).bind fun z_13 => (gate (D.tup []) z_12 false ((atD y z_13).bind (takeD false 1))).bind fun z_14 => (gate (D.tup []) z_12 false (lenD false z_14)).bind fun z_15 =>
 (gate (D.tup []) z_12 false (bin BinOp.gtr false [] z_15 (D.v (Value.int IntKind.i64 0)))).bind fun z_16 => (gate (D.tup []) z true (pickD z_12 (D.v (Value.bool true)) z_16)).bind fun z_17 =>
 (pickD z z_17 (D.v (Value.bool false))).bind fun z => some (Out.ret [z] [])) := by kernel_rfl
theorem t_impl_IsShop (x0 : D) : F_impl_IsShop [x0] =
  ((boxD 4 x0).bind fun y => (liveD y (D.ref 0 1)).bind fun z => ((atD y z).bind (takeD false 1)).bind fun z => (lenD false z).bind fun z_1 => (loopC (fun s => (bin BinOp.lss false [] (sl s 4) (sl s 3)).bind fun z => ifD z
 ((Option.map D.ptr (elemD 4 (sl s 2) (sl s 4))).bind fun z => (ldD true 4 z).bind fun z => (stD 4 (D.agg [D.v (Value.int IntKind.i64 0), D.arr 1 [], D.v (Value.bool false), D.v (Value.int IntKind.i64 0)])
 (D.ref 0 0) z).bind fun b => (liveD (sl s 0) (D.ref 0 0)).bind fun z => ((atD (sl s 0) z).bind (takeD false 1)).bind fun z => (fldD true 4 0 b).bind fun z_2 => callK (F_impl_isForme [z, z_2]) fun rs _u =>
 (un UnOp.not (sl rs 0)).bind fun z => (gate (D.tup []) z false (some (sl s 4))).bind fun z_3 => (gate (D.tup []) z false (bin BinOp.gtr false [] z_3 (D.v (Value.int IntKind.i64 0)))).bind fun z_4 =>
 (gate (D.tup []) z false (some z_4)).bind fun z_5 => (gate D.bad z_5 true (liveD (sl s 0) (D.ref 0 1))).bind fun z_6 => (gate (D.tup []) z_5 true ((atD (sl s 0) z_6).bind (takeD false 1))).bind fun z_7 =>
 (gate (D.tup []) z_5 true (some (sl s 4))).bind fun z_8 => (gate (D.tup []) z_5 true (bin BinOp.sub false [] z_8 (D.v (Value.int IntKind.i64 1)))).bind fun z_9 =>
 (gate (D.tup []) z_5 true (Option.map D.ptr (elemD 4 z_7 z_9))).bind fun z_10 => (gate (D.tup []) z_5 true (offD 0 z_10)).bind fun z_11 => (gate (D.tup []) z_5 true ((ldD false 1 z_11).bind chkV)).bind fun z_12 =>
 (gate D.bad z_5 true (liveD b (D.ref 0 0))).bind fun z_13 => (gate (D.tup []) z_5 true (((atD b z_13).bind (takeD false 1)).bind chkV)).bind fun z_14 => (gate (D.tup []) z_5 true (bin BinOp.geq false [] z_12 z_14)).bind
 fun z_15 => (gate (D.tup []) z false (pickD z_5 z_15 (D.v (Value.bool false)))).bind fun z_16 => (pickD z (D.v (Value.bool true)) z_16).bind fun z => ifD z (some (Out.ret [D.v (Value.bool false)] []))
 ((liveD b (D.ref 0 3)).bind fun z => (((atD b z).bind (takeD false 1)).bind chkV).bind fun z => (bin BinOp.add false [] (sl s 1) z).bind fun z => (bin BinOp.add false [] (sl s 4) (D.v (Value.int IntKind.i64 1))).bind
 fun z_17 => some (Out.nrm [sl s 0, z, sl s 2, sl s 3, z_17]))) (some (Out.ext 0 [sl s 0, sl s 1]))) [y, D.v (Value.int IntKind.i64 0), z, z_1, D.v (Value.int IntKind.i64 0)]).bind fun o => outK o (fun i s => ifN (i.beq 0)
 ((liveD (sl s 0) (D.ref 0 0)).bind fun z => ((atD (sl s 0) z).bind (takeD false 1)).bind fun z => callK (F_impl_IsCase [z]) fun rs _u => (gate D.bad (sl rs 0) true (liveD (sl s 0) (D.ref 0 1))).bind fun z =>
 (gate (D.tup []) (sl rs 0) true ((atD (sl s 0) z).bind (takeD false 1))).bind fun z => (gate (D.tup []) (sl rs 0) true (lenD false z)).bind fun z => (gate (D.tup []) (sl rs 0) true
 (bin BinOp.leq false [] z (D.v (Value.int IntKind.i64 5)))).bind fun z => (pickD (sl rs 0) z (D.v (Value.bool false))).bind fun z => (gate D.bad z true (liveD (sl s 0) (D.ref 0 2))).bind fun z_2 =>
 (gate (D.tup []) z true (((atD (sl s 0) z_2).bind (takeD false 1)).bind chkV)).bind fun z_3 => gateC z true (callK (F_impl_within [z_3, D.v (Value.int IntKind.i64 0), D.v (Value.int IntKind.i64 9999)])
 fun rs _u => some (Out.nrm [sl rs 0])) [D.tup []] fun outs => (pickD z (sl outs 0) (D.v (Value.bool false))).bind fun z => (gate D.bad z true (liveD (sl s 0) (D.ref 0 3))).bind fun z_4 => (gate (D.tup []) z true
 (((atD (sl s 0) z_4).bind (takeD false 1)).bind chkV)).bind fun z_5 => gateC z true (callK (F_impl_within [z_5, D.v (Value.int IntKind.i64 0), D.v (Value.int IntKind.i64 1000000)]) fun rs _u => some (Out.nrm [sl rs 0]))
 [D.tup []] fun outs => (pickD z (sl outs 0) (D.v (Value.bool false))).bind fun z => (gate D.bad z true (liveD (sl s 0) (D.ref 0 3))).bind fun z_6 => (gate (D.tup []) z true
 (((atD (sl s 0) z_6).bind (takeD false 1)).bind chkV)).bind fun z_7 => (gate (D.tup []) z true (some (sl s 1))).bind fun z_8 => (gate (D.tup []) z true (bin BinOp.geq false [] z_7 z_8)).bind fun z_9 =>
 (pickD z z_9 (D.v (Value.bool false))).bind fun z => some (Out.ret [z] [])) none) fun a b => some (Out.ret a b)) := by kernel_rfl
theorem t_impl_ShopText (x0 : D) : F_impl_ShopText [x0] =
  ((boxD 4 x0).bind fun y => (fldD true 4 0 y).bind fun z => callK (F_impl_IsShop [z]) fun rs _u => (un UnOp.not (sl rs 0)).bind fun z =>
 ifD z (some (Out.ret [D.v (Value.string { data := { toList := [] } }), D.v (Value.bool false)] [])) ((liveD y (D.ref 0 1)).bind fun z => ((atD y z).bind (takeD false 1)).bind fun z => (lenD false z).bind fun z_1 => (loopC
 (fun s => (bin BinOp.lss false [] (sl s 4) (sl s 3)).bind fun z => ifD z ((Option.map D.ptr (elemD 4 (sl s 2) (sl s 4))).bind fun z => (ldD true 4 z).bind fun z => (stD 4 (D.agg
 [D.v (Value.int IntKind.i64 0), D.arr 1 [], D.v (Value.bool false), D.v (Value.int IntKind.i64 0)]) (D.ref 0 0) z).bind fun b => (liveD b (D.ref 0 0)).bind fun z =>
 (((atD b z).bind (takeD false 1)).bind chkV).bind fun z => callK (fItoa [z]) fun rs _u => (bin BinOp.add false [] (sl rs 0) (D.v (Value.string { data := { toList := [58] } }))).bind fun z =>
 (liveD b (D.ref 0 1)).bind fun z_2 => ((atD b z_2).bind (takeD false 1)).bind fun z_3 => (lenD false z_3).bind fun z_4 => callK (fItoa [z_4]) fun rs _u => (bin BinOp.add false [] z (sl rs 0)).bind fun z =>
 (bin BinOp.add false [] (sl s 1) z).bind fun z => (liveD b (D.ref 0 2)).bind fun z_5 => (((atD b z_5).bind (takeD false 1)).bind chkV).bind fun z_6 => ifD z_6 ((bin BinOp.add false [] z (D.v (Value.string
 { data := { toList := [42] } }))).bind fun z => (liveD b (D.ref 0 3)).bind fun z_7 => (((atD b z_7).bind (takeD false 1)).bind chkV).bind fun z_8 => callK (fItoa [z_8]) fun rs _u => (bin BinOp.add false [] (D.v
 (Value.string { data := { toList := [112] } })) (sl rs 0)).bind fun z_9 => (bin BinOp.add false [] z_9 (D.v (Value.string { data := { toList := [32] } }))).bind fun z_10 => (bin BinOp.add false [] z z_10).bind fun z =>
 (bin BinOp.add false [] (sl s 4) (D.v (Value.int IntKind.i64 1))).bind fun z_11 => some (Out.nrm [sl s 0, z, sl s 2, sl s 3, z_11])) ((liveD b (D.ref 0 3)).bind fun z_7 =>
 (((atD b z_7).bind (takeD false 1)).bind chkV).bind fun z_8 => callK (fItoa [z_8]) fun rs _u => (bin BinOp.add false [] (D.v (Value.string { data := { toList := [112] } })) (sl rs 0)).bind fun z_9 =>
 (bin BinOp.add false [] z_9 (D.v (Value.string { data := { toList := [32] } }))).bind fun z_10 => (bin BinOp.add false [] z z_10).bind fun z => (bin BinOp.add false [] (sl s 4) (D.v (Value.int IntKind.i64 1))).bind
 fun z_11 => some (Out.nrm [sl s 0, z, sl s 2, sl s 3, z_11]))) (some (Out.ext 0 [sl s 0, sl s 1]))) [y, D.v (Value.string { data := { toList := [] } }), z, z_1, D.v (Value.int IntKind.i64 0)]).bind fun o => outK o
 (fun i s => ifN (i.beq 0) ((bin BinOp.add false [] (sl s 1) (D.v (Value.string { data := { toList := [108, 111, 115, 116, 32] } }))).bind fun z => (liveD (sl s 0) (D.ref 0 2)).bind fun z_2 =>
 (((atD (sl s 0) z_2).bind (takeD false 1)).bind chkV).bind fun z_3 => callK (fItoa [z_3]) fun rs _u => (bin BinOp.add false [] z (sl rs 0)).bind fun z => (bin BinOp.add false [] z (D.v (Value.string
 { data := { toList := [32, 115, 104, 101, 101, 116, 115, 32] } }))).bind fun z => (liveD (sl s 0) (D.ref 0 3)).bind fun z_4 => (((atD (sl s 0) z_4).bind (takeD false 1)).bind chkV).bind fun z_5 =>
 callK (fItoa [z_5]) fun rs _u => (bin BinOp.add false [] z (sl rs 0)).bind fun z => some (Out.ret [z, D.v (Value.bool true)] [])) none) fun a b => some (Out.ret a b))) := by kernel_rfl
theorem t_laws_eqBox (x0 x1 : D) : F_laws_eqBox [x0, x1] =
  ((boxD 4 x0).bind fun y => (boxD 4 x1).bind fun y_1 => (liveD y (D.ref 0 0)).bind fun z => ((atD y z).bind (takeD false 1)).bind fun z => (liveD y_1 (D.ref 0 0)).bind fun z_1 =>
 ((atD y_1 z_1).bind (takeD false 1)).bind fun z_2 => (bin BinOp.neq false [] z z_2).bind fun z => ifD z (some (Out.ret [D.v (Value.bool false)] [])) ((liveD y (D.ref 0 1)).bind fun z =>
 ((atD y z).bind (takeD false 1)).bind fun z => (liveD y_1 (D.ref 0 1)).bind fun z_3 => ((atD y_1 z_3).bind (takeD false 1)).bind fun z_4 => (bin BinOp.neq false [] z z_4).bind fun z =>
 ifD z (some (Out.ret [D.v (Value.bool false)] [])) ((liveD y (D.ref 0 2)).bind fun z => ((atD y z).bind (takeD false 1)).bind fun z => (liveD y_1 (D.ref 0 2)).bind fun z_5 =>
 ((atD y_1 z_5).bind (takeD false 1)).bind fun z_6 => (bin BinOp.neq false [] z z_6).bind fun z => ifD z (some (Out.ret [D.v (Value.bool false)] [])) ((liveD y (D.ref 0 3)).bind fun z =>
 ((atD y z).bind (takeD false 1)).bind fun z => (liveD y_1 (D.ref 0 3)).bind fun z_7 => ((atD y_1 z_7).bind (takeD false 1)).bind fun z_8 => (bin BinOp.neq false [] z z_8).bind fun z =>
 ifD z (some (Out.ret [D.v (Value.bool false)] [])) (some (Out.ret [D.v (Value.bool true)] [])))))) := by kernel_rfl
theorem t_laws_eqBoxS (x0 x1 : D) : F_laws_eqBoxS [x0, x1] =
  ((lenD false x0).bind fun z => (lenD false x1).bind fun z_1 => (bin BinOp.neq false [] z z_1).bind fun z => ifD z (some (Out.ret [D.v (Value.bool false)] [])) ((loopC (fun s => (lenD false (sl s 0)).bind fun z =>
 (bin BinOp.lss false [] (sl s 2) z).bind fun z => ifD z ((Option.map D.ptr (elemD 4 (sl s 0) (sl s 2))).bind fun z => ((ldD true 4 z).bind chkV).bind fun z => (Option.map D.ptr (elemD 4 (sl s 1) (sl s 2))).bind fun z_2 =>
 ((ldD true 4 z_2).bind chkV).bind fun z_3 => callK (F_laws_eqBox [z, z_3]) fun rs _u => (un UnOp.not (sl rs 0)).bind fun z => ifD z (some (Out.ret [D.v (Value.bool false)] []))
 ((bin BinOp.add false [] (sl s 2) (D.v (Value.int IntKind.i64 1))).bind fun z => some (Out.nrm [sl s 0, sl s 1, z]))) (some (Out.ext 0 []))) [x0, x1, D.v (Value.int IntKind.i64 0)]).bind fun o =>
 outK o (fun i _u => ifN (i.beq 0) (some (Out.ret [D.v (Value.bool true)] [])) none) fun a b => some (Out.ret a b))) := by kernel_rfl
theorem t_laws_eqStringS (x0 x1 : D) : F_laws_eqStringS [x0, x1] =
  ((lenD false x0).bind fun z => (lenD false x1).bind fun z_1 => (bin BinOp.neq false [] z z_1).bind fun z => ifD z (some (Out.ret [D.v (Value.bool false)] [])) ((loopC (fun s => (lenD false (sl s 0)).bind fun z =>
 (bin BinOp.lss false [] (sl s 2) z).bind fun z => ifD z ((Option.map D.ptr (elemD 1 (sl s 0) (sl s 2))).bind fun z => ((ldD false 1 z).bind chkV).bind fun z =>
 (Option.map D.ptr (elemD 1 (sl s 1) (sl s 2))).bind fun z_2 => ((ldD false 1 z_2).bind chkV).bind fun z_3 => (bin BinOp.neq false [] z z_3).bind fun z => ifD z (some (Out.ret [D.v (Value.bool false)] []))
 ((bin BinOp.add false [] (sl s 2) (D.v (Value.int IntKind.i64 1))).bind fun z => some (Out.nrm [sl s 0, sl s 1, z]))) (some (Out.ext 0 []))) [x0, x1, D.v (Value.int IntKind.i64 0)]).bind fun o =>
 outK o (fun i _u => ifN (i.beq 0) (some (Out.ret [D.v (Value.bool true)] [])) none) fun a b => some (Out.ret a b))) := by kernel_rfl
theorem t_laws_eqForme (x0 x1 : D) : F_laws_eqForme [x0, x1] =
  ((boxD 4 x0).bind fun y => (boxD 4 x1).bind fun y_1 => (liveD y (D.ref 0 0)).bind fun z => (((atD y z).bind (takeD false 1)).bind chkV).bind fun z => (liveD y_1 (D.ref 0 0)).bind fun z_1 =>
 (((atD y_1 z_1).bind (takeD false 1)).bind chkV).bind fun z_2 => (bin BinOp.neq false [] z z_2).bind fun z => ifD z (some (Out.ret [D.v (Value.bool false)] [])) ((liveD y (D.ref 0 1)).bind fun z =>
 ((atD y z).bind (takeD false 1)).bind fun z => (liveD y_1 (D.ref 0 1)).bind fun z_3 => ((atD y_1 z_3).bind (takeD false 1)).bind fun z_4 => callK (F_laws_eqStringS [z, z_4]) fun rs _u =>
 (un UnOp.not (sl rs 0)).bind fun z => ifD z (some (Out.ret [D.v (Value.bool false)] [])) ((liveD y (D.ref 0 2)).bind fun z => (((atD y z).bind (takeD false 1)).bind chkV).bind fun z =>
 (liveD y_1 (D.ref 0 2)).bind fun z_5 => (((atD y_1 z_5).bind (takeD false 1)).bind chkV).bind fun z_6 => (bin BinOp.neq true [] z z_6).bind fun z => ifD z (some (Out.ret [D.v (Value.bool false)] []))
 ((liveD y (D.ref 0 3)).bind fun z => (((atD y z).bind (takeD false 1)).bind chkV).bind fun z => (liveD y_1 (D.ref 0 3)).bind fun z_7 => (((atD y_1 z_7).bind (takeD false 1)).bind chkV).bind fun z_8 =>
 (bin BinOp.neq false [] z z_8).bind fun z => ifD z (some (Out.ret [D.v (Value.bool false)] [])) (some (Out.ret [D.v (Value.bool true)] [])))))) := by kernel_rfl
theorem t_laws_eqFormeS (x0 x1 : D) : F_laws_eqFormeS [x0, x1] =
  ((lenD false x0).bind fun z => (lenD false x1).bind fun z_1 => (bin BinOp.neq false [] z z_1).bind fun z => ifD z (some (Out.ret [D.v (Value.bool false)] [])) ((loopC (fun s => (lenD false (sl s 0)).bind fun z =>
 (bin BinOp.lss false [] (sl s 2) z).bind fun z => ifD z ((Option.map D.ptr (elemD 4 (sl s 0) (sl s 2))).bind fun z => (ldD true 4 z).bind fun z => (Option.map D.ptr (elemD 4 (sl s 1) (sl s 2))).bind fun z_2 =>
 (ldD true 4 z_2).bind fun z_3 => callK (F_laws_eqForme [z, z_3]) fun rs _u => (un UnOp.not (sl rs 0)).bind fun z => ifD z (some (Out.ret [D.v (Value.bool false)] []))
 ((bin BinOp.add false [] (sl s 2) (D.v (Value.int IntKind.i64 1))).bind fun z => some (Out.nrm [sl s 0, sl s 1, z]))) (some (Out.ext 0 []))) [x0, x1, D.v (Value.int IntKind.i64 0)]).bind fun o =>
 outK o (fun i _u => ifN (i.beq 0) (some (Out.ret [D.v (Value.bool true)] [])) none) fun a b => some (Out.ret a b))) := by kernel_rfl
theorem t_laws_eqShop (x0 x1 : D) : F_laws_eqShop [x0, x1] =
  ((boxD 4 x0).bind fun y => (boxD 4 x1).bind fun y_1 => (liveD y (D.ref 0 0)).bind fun z => ((atD y z).bind (takeD false 1)).bind fun z => (liveD y_1 (D.ref 0 0)).bind fun z_1 =>
 ((atD y_1 z_1).bind (takeD false 1)).bind fun z_2 => callK (F_laws_eqBoxS [z, z_2]) fun rs _u => (un UnOp.not (sl rs 0)).bind fun z => ifD z (some (Out.ret [D.v (Value.bool false)] []))
 ((liveD y (D.ref 0 1)).bind fun z => ((atD y z).bind (takeD false 1)).bind fun z => (liveD y_1 (D.ref 0 1)).bind fun z_3 => ((atD y_1 z_3).bind (takeD false 1)).bind fun z_4 =>
 callK (F_laws_eqFormeS [z, z_4]) fun rs _u => (un UnOp.not (sl rs 0)).bind fun z => ifD z (some (Out.ret [D.v (Value.bool false)] [])) ((liveD y (D.ref 0 2)).bind fun z =>
 (((atD y z).bind (takeD false 1)).bind chkV).bind fun z => (liveD y_1 (D.ref 0 2)).bind fun z_5 => (((atD y_1 z_5).bind (takeD false 1)).bind chkV).bind fun z_6 => (bin BinOp.neq false [] z z_6).bind fun z =>
 ifD z (some (Out.ret [D.v (Value.bool false)] [])) ((liveD y (D.ref 0 3)).bind fun z => (((atD y z).bind (takeD false 1)).bind chkV).bind fun z => (liveD y_1 (D.ref 0 3)).bind fun z_7 =>
 (((atD y_1 z_7).bind (takeD false 1)).bind chkV).bind fun z_8 => (bin BinOp.neq false [] z z_8).bind fun z => ifD z (some (Out.ret [D.v (Value.bool false)] [])) (some (Out.ret [D.v (Value.bool true)] [])))))) := by kernel_rfl
theorem t_laws_FnExactShopText (x0 : D) : F_laws_FnExactShopText [x0] =
  ((boxD 4 x0).bind fun y => (fldD true 4 0 y).bind fun z => callK (F_laws_szShop [z, D.v (Value.int IntKind.i64 1048576)]) fun rs _u => (bin BinOp.lss false [] (sl rs 0) (D.v (Value.int IntKind.i64 0))).bind fun z =>
 ifD z (some (Out.ret [D.v (Value.bool true)] [])) ((fldD true 4 0 y).bind fun z => callK (F_laws_toShop [z]) fun rs _u => callK (F_spec_ShopText [sl rs 0]) fun rs _u => (tupAt (D.tup rs) 0).bind fun z =>
 (tupAt (D.tup rs) 1).bind fun z_1 => (fldD true 4 0 y).bind fun z_2 => callK (F_laws_toShop [z_2]) fun rs _u => (stD 4 (D.agg [D.arr 4 [], D.arr 4 [], D.v (Value.int IntKind.i64 0), D.v (Value.int IntKind.i64 0)])
 (D.ref 0 0) (sl rs 0)).bind fun b => (fldD true 4 0 b).bind fun z_3 => callK (F_impl_ShopText [z_3]) fun rs _u => (tupAt (D.tup rs) 0).bind fun z_4 => (tupAt (D.tup rs) 1).bind fun z_5 =>
 (bin BinOp.neq false [] z_4 z).bind fun z => (gate (D.tup []) z false (some z_5)).bind fun z_6 => (gate (D.tup []) z false (some z_1)).bind fun z_7 =>
 (gate (D.tup []) z false (bin BinOp.neq true [] z_6 z_7)).bind fun z_8 => (pickD z (D.v (Value.bool true)) z_8).bind fun z => ifD z (some (Out.ret [D.v (Value.bool false)] [])) ((fldD true 4 0 b).bind fun z =>
 (fldD true 4 0 y).bind fun z_9 => callK (F_laws_toShop [z_9]) fun rs _u => callK (F_laws_eqShop [z, sl rs 0]) fun rs _u => (un UnOp.not (sl rs 0)).bind fun z => ifD z (some (Out.ret [D.v (Value.bool false)] []))
 (some (Out.ret [D.v (Value.bool true)] []))))) := by kernel_rfl
theorem t_spec_l1Read (x0 : D) : F_spec_l1Read [x0] =
  ((lenD true x0).bind fun z => callK (F_spec_l1In [z, D.v (Value.int IntKind.i64 1), D.v (Value.int IntKind.i64 6)]) fun rs _u => (un UnOp.not (sl rs 0)).bind fun z => (gate (D.tup []) z false (some x0)).bind fun z_1 =>
 (gate (D.tup []) z false (charD z_1 (D.v (Value.int IntKind.i64 0)))).bind fun z_2 => (gate (D.tup []) z false (bin BinOp.eql false [] z_2 (D.v (Value.int IntKind.u8 48)))).bind fun z_3 =>
 (gate (D.tup []) z false (some z_3)).bind fun z_4 => (gate (D.tup []) z_4 true (some x0)).bind fun z_5 => (gate (D.tup []) z_4 true (lenD true z_5)).bind fun z_6 =>
 (gate (D.tup []) z_4 true (bin BinOp.gtr false [] z_6 (D.v (Value.int IntKind.i64 1)))).bind fun z_7 => (gate (D.tup []) z false (pickD z_4 z_7 (D.v (Value.bool false)))).bind fun z_8 =>
 (pickD z (D.v (Value.bool true)) z_8).bind fun z => ifD z (some (Out.ret [D.v (Value.int IntKind.i64 (-1))] [])) ((loopC (fun s => (lenD true (sl s 0)).bind fun z => (bin BinOp.lss false [] (sl s 2) z).bind fun z => ifD z
 ((charD (sl s 0) (sl s 2)).bind fun z => (bin BinOp.lss false [] z (D.v (Value.int IntKind.u8 48))).bind fun z => (gate (D.tup []) z false (some (sl s 0))).bind fun z_9 =>
 (gate (D.tup []) z false (some (sl s 2))).bind fun z_10 => (gate (D.tup []) z false (charD z_9 z_10)).bind fun z_11 => (gate (D.tup []) z false (bin BinOp.gtr false [] z_11 (D.v (Value.int IntKind.u8 57)))).bind
 fun z_12 => (pickD z (D.v (Value.bool true)) z_12).bind fun z => ifD z (some (Out.ret [D.v (Value.int IntKind.i64 (-1))] [])) ((bin BinOp.mul false [] (D.v (Value.int IntKind.i64 10)) (sl s 1)).bind fun z =>
 (charD (sl s 0) (sl s 2)).bind fun z_13 => (bin BinOp.sub false [] z_13 (D.v (Value.int IntKind.u8 48))).bind fun z_14 => (convD (some IntKind.i64) false z_14).bind fun z_15 =>
 (bin BinOp.add false [] z z_15).bind fun z => (bin BinOp.add false [] (sl s 2) (D.v (Value.int IntKind.i64 1))).bind fun z_16 => some (Out.nrm [sl s 0, z, z_16]))) (some (Out.ext 0 [sl s 1])))
 [x0, D.v (Value.int IntKind.i64 0), D.v (Value.int IntKind.i64 0)]).bind fun o => outK o (fun i s => ifN (i.beq 0) (some (Out.ret [sl s 0] [])) none) fun a b => some (Out.ret a b))) := by kernel_rfl
theorem t_spec_ParseOrder (x0 : D) : F_spec_ParseOrder [x0] =
  (callK (F_spec_l1Split [x0, D.v (Value.int IntKind.u8 32)]) fun rs _u => (lenD false (sl rs 0)).bind fun z => (bin BinOp.neq false [] z (D.v (Value.int IntKind.i64 4))).bind fun z =>
 (gate (D.tup []) z false (some (sl rs 0))).bind fun z_1 => (gate (D.tup []) z false (Option.map D.ptr (elemD 1 z_1 (D.v (Value.int IntKind.i64 0))))).bind fun z_2 =>
 (gate (D.tup []) z false ((ldD false 1 z_2).bind chkV)).bind fun z_3 => (gate (D.tup []) z false (bin BinOp.eql false [] z_3 (D.v (Value.string { data := { toList := [] } })))).bind fun z_4 =>
 (pickD z (D.v (Value.bool true)) z_4).bind fun z => ifD z ((bldD [] [D.v (Value.int IntKind.i64 0), D.v (Value.int IntKind.i64 0), D.v (Value.int IntKind.i64 0), D.v (Value.int IntKind.i64 0)] []).bind fun z => (stD 4
 (D.agg [D.v (Value.int IntKind.i64 0), D.v (Value.int IntKind.i64 0), D.v (Value.int IntKind.i64 0), D.v (Value.int IntKind.i64 0)]) (D.ref 0 0) z).bind
 fun b => (fldD true 4 0 b).bind fun y => some (Out.ret [y, D.v (Value.bool false)] [])) ((Option.map D.ptr (elemD 1 (sl rs 0) (D.v (Value.int IntKind.i64 1)))).bind fun z => ((ldD false 1 z).bind chkV).bind fun z =>
 callK (F_spec_l1Split [z, D.v (Value.int IntKind.u8 43)]) fun rs_1 _u => (lenD false (sl rs_1 0)).bind fun z => (bin BinOp.neq false [] z (D.v (Value.int IntKind.i64 2))).bind fun z => ifD z ((bldD []
 [D.v (Value.int IntKind.i64 0), D.v (Value.int IntKind.i64 0), D.v (Value.int IntKind.i64 0), D.v (Value.int IntKind.i64 0)] []).bind fun z => (stD 4 (D.agg [D.v (Value.int IntKind.i64 0), D.v (Value.int IntKind.i64 0),
 D.v (Value.int IntKind.i64 0), D.v (Value.int IntKind.i64 0)]) (D.ref 0 0) z).bind fun b => (fldD true 4 0 b).bind fun y => some (Out.ret [y, D.v (Value.bool false)] []))
 ((Option.map D.ptr (elemD 1 (sl rs 0) (D.v (Value.int IntKind.i64 0)))).bind fun z => ((ldD false 1 z).bind chkV).bind fun z => (sliceHi true 0 z (D.v (Value.int IntKind.i64 1))).bind fun z =>
 callK (F_spec_l1Read [z]) fun rs_2 _u => (Option.map D.ptr (elemD 1 (sl rs_1 0) (D.v (Value.int IntKind.i64 0)))).bind fun z => ((ldD false 1 z).bind chkV).bind fun z => callK (F_spec_l1Read [z]) fun rs_3 _u =>
 (Option.map D.ptr (elemD 1 (sl rs_1 0) (D.v (Value.int IntKind.i64 1)))).bind fun z => ((ldD false 1 z).bind chkV).bind fun z => callK (F_spec_l1Read [z]) fun rs_4 _u => (Option.map D.ptr
 (elemD 1 (sl rs 0) (D.v (Value.int IntKind.i64 3)))).bind fun z => ((ldD false 1 z).bind chkV).bind fun z => callK (F_spec_l1Read [z]) fun rs _u => (bldD [(0, 1), (1, 1), (2, 1), (3, 1)] [D.v (Value.int IntKind.i64 0),
 D.v (Value.int IntKind.i64 0), D.v (Value.int IntKind.i64 0), D.v (Value.int IntKind.i64 0)] [sl rs_2 0, sl rs_3 0, sl rs_4 0, sl rs 0]).bind fun z => (stD 4 (D.agg [D.v (Value.int IntKind.i64 0),
 D.v (Value.int IntKind.i64 0), D.v (Value.int IntKind.i64 0), D.v (Value.int IntKind.i64 0)]) (D.ref 0 0) z).bind fun b => (fldD true 4 0 b).bind fun z => callK (F_spec_orOne [z]) fun rs _u =>
 (un UnOp.not (sl rs 0)).bind fun z => (gate (D.tup []) z false (fldD true 4 0 b)).bind fun z_5 => gateC z false (callK (F_spec_orText [z_5]) fun rs _u => some (Out.nrm [sl rs 0])) [D.tup []] fun outs =>
 (gate (D.tup []) z false (some x0)).bind fun z_6 => (gate (D.tup []) z false (bin BinOp.neq false [] (sl outs 0) z_6)).bind fun z_7 => (pickD z (D.v (Value.bool true)) z_7).bind fun z => ifD z ((bldD []
 [D.v (Value.int IntKind.i64 0), D.v (Value.int IntKind.i64 0), D.v (Value.int IntKind.i64 0), D.v (Value.int IntKind.i64 0)] []).bind fun z => (stD 4 (D.agg [D.v (Value.int IntKind.i64 0), D.v (Value.int IntKind.i64 0),
 D.v (Value.int IntKind.i64 0), D.v (Value.int IntKind.i64 0)]) (D.ref 0 0) z).bind fun b => (fldD true 4 0 b).bind fun y => some (Out.ret [y, D.v (Value.bool false)] [])) ((fldD true 4 0 b).bind fun z => (stD 4 (D.agg
 [D.v (Value.int IntKind.i64 0), D.v (Value.int IntKind.i64 0), D.v (Value.int IntKind.i64 0), D.v (Value.int IntKind.i64 0)]) (D.ref 0 0) z).bind fun b => (fldD true 4 0 b).bind fun y => some (Out.ret
 [y, D.v (Value.bool true)] []))))) := by kernel_rfl
theorem t_impl_numbersIn (x0 : D) : F_impl_numbersIn [x0] =
  ((mkArr 1 []).bind fun a => callK (fFieldsFunc 98 isSep [x0, D.clo 98 []]) fun rs _u => (lenD false (sl rs 0)).bind fun z => (loopC (fun s => (bin BinOp.lss false [] (sl s 3) (sl s 2)).bind fun z => ifD z
 ((Option.map D.ptr (elemD 1 (sl s 1) (sl s 3))).bind fun z => ((ldD false 1 z).bind chkV).bind fun z => callK (fAtoi [z]) fun rs _u => (tupAt (D.tup rs) 0).bind fun z => (tupAt (D.tup rs) 1).bind fun z_1 =>
 (binI true BinOp.neq z_1 (D.v Value.nilIface)).bind fun z_2 => ifD z_2 ((mkArr 1 []).bind fun a => some (Out.ret [a] [])) ((mkArr 1 [z]).bind fun a => (chkA a).bind fun b => (appD 1 8 (sl s 0) b).bind fun y =>
 (bin BinOp.add false [] (sl s 3) (D.v (Value.int IntKind.i64 1))).bind fun z => some (Out.nrm [y, sl s 1, sl s 2, z]))) (some (Out.ext 0 [sl s 0]))) [a, sl rs 0, z, D.v (Value.int IntKind.i64 0)]).bind
 fun o => outK o (fun i s => ifN (i.beq 0) (some (Out.ret [sl s 0] [])) none) fun a b => some (Out.ret a b)) := by kernel_rfl
theorem t_impl_ParseOrder (x0 : D) : F_impl_ParseOrder [x0] =
  (callK (F_impl_numbersIn [x0]) fun rs _u => (lenD false (sl rs 0)).bind fun z => (bin BinOp.neq false [] z (D.v (Value.int IntKind.i64 4))).bind fun z => ifD z ((bldD []
 [D.v (Value.int IntKind.i64 0), D.v (Value.int IntKind.i64 0), D.v (Value.int IntKind.i64 0), D.v (Value.int IntKind.i64 0)] []).bind fun z => (stD 4 (D.agg
 [D.v (Value.int IntKind.i64 0), D.v (Value.int IntKind.i64 0), D.v (Value.int IntKind.i64 0), D.v (Value.int IntKind.i64 0)]) (D.ref 0 0) z).bind
 fun b => (fldD true 4 0 b).bind fun y => some (Out.ret [y, D.v (Value.bool false)] [])) ((Option.map D.ptr (elemD 1 (sl rs 0) (D.v (Value.int IntKind.i64 0)))).bind fun z => ((ldD false 1 z).bind chkV).bind fun z =>
 (Option.map D.ptr (elemD 1 (sl rs 0) (D.v (Value.int IntKind.i64 1)))).bind fun z_1 => ((ldD false 1 z_1).bind chkV).bind fun z_2 => (Option.map D.ptr (elemD 1 (sl rs 0) (D.v (Value.int IntKind.i64 2)))).bind fun z_3 =>
 ((ldD false 1 z_3).bind chkV).bind fun z_4 => (Option.map D.ptr (elemD 1 (sl rs 0) (D.v (Value.int IntKind.i64 3)))).bind fun z_5 => ((ldD false 1 z_5).bind chkV).bind fun z_6 => (bldD [(0, 1), (1, 1), (2, 1), (3, 1)]
 [D.v (Value.int IntKind.i64 0), D.v (Value.int IntKind.i64 0), D.v (Value.int IntKind.i64 0), D.v (Value.int IntKind.i64 0)] [z, z_2, z_4, z_6]).bind fun z => (stD 4 (D.agg
 [D.v (Value.int IntKind.i64 0), D.v (Value.int IntKind.i64 0), D.v (Value.int IntKind.i64 0), D.v (Value.int IntKind.i64 0)]) (D.ref 0 0) z).bind fun b => (fldD true 4 0 b).bind fun z =>
 callK (F_impl_isOrder [z]) fun rs _u => (un UnOp.not (sl rs 0)).bind fun z => (gate (D.tup []) z false (fldD true 4 0 b)).bind fun z_7 => gateC z false
 (callK (F_impl_orderText [z_7]) fun rs _u => some (Out.nrm [sl rs 0])) [D.tup []] fun outs => (gate (D.tup []) z false (some x0)).bind fun z_8 => (gate (D.tup []) z false (bin BinOp.neq false [] (sl outs 0) z_8)).bind
 fun z_9 => (pickD z (D.v (Value.bool true)) z_9).bind fun z => ifD z ((bldD [] [D.v (Value.int IntKind.i64 0), D.v (Value.int IntKind.i64 0), D.v (Value.int IntKind.i64 0), D.v (Value.int IntKind.i64 0)] []).bind fun z =>
 (stD 4 (D.agg [D.v (Value.int IntKind.i64 0), D.v (Value.int IntKind.i64 0), D.v (Value.int IntKind.i64 0), D.v (Value.int IntKind.i64 0)]) (D.ref 0 0) z).bind fun b => (fldD true 4 0 b).bind fun y =>
 some (Out.ret [y, D.v (Value.bool false)] [])) ((fldD true 4 0 b).bind fun z => (stD 4 (D.agg [D.v (Value.int IntKind.i64 0), D.v (Value.int IntKind.i64 0), D.v (Value.int IntKind.i64 0), D.v (Value.int IntKind.i64 0)])
 (D.ref 0 0) z).bind fun b => (fldD true 4 0 b).bind fun y => some (Out.ret [y, D.v (Value.bool true)] [])))) := by kernel_rfl
theorem t_laws_eqOrder (x0 x1 : D) : F_laws_eqOrder [x0, x1] =
  ((boxD 4 x0).bind fun y => (boxD 4 x1).bind fun y_1 => (liveD y (D.ref 0 0)).bind fun z => ((atD y z).bind (takeD false 1)).bind fun z => (liveD y_1 (D.ref 0 0)).bind fun z_1 =>
 ((atD y_1 z_1).bind (takeD false 1)).bind fun z_2 => (bin BinOp.neq false [] z z_2).bind fun z => ifD z (some (Out.ret [D.v (Value.bool false)] [])) ((liveD y (D.ref 0 1)).bind fun z =>
 ((atD y z).bind (takeD false 1)).bind fun z => (liveD y_1 (D.ref 0 1)).bind fun z_3 => ((atD y_1 z_3).bind (takeD false 1)).bind fun z_4 => (bin BinOp.neq false [] z z_4).bind fun z =>
 ifD z (some (Out.ret [D.v (Value.bool false)] [])) ((liveD y (D.ref 0 2)).bind fun z => ((atD y z).bind (takeD false 1)).bind fun z => (liveD y_1 (D.ref 0 2)).bind fun z_5 =>
 ((atD y_1 z_5).bind (takeD false 1)).bind fun z_6 => (bin BinOp.neq false [] z z_6).bind fun z => ifD z (some (Out.ret [D.v (Value.bool false)] [])) ((liveD y (D.ref 0 3)).bind fun z =>
 ((atD y z).bind (takeD false 1)).bind fun z => (liveD y_1 (D.ref 0 3)).bind fun z_7 => ((atD y_1 z_7).bind (takeD false 1)).bind fun z_8 => (bin BinOp.neq false [] z z_8).bind fun z =>
 ifD z (some (Out.ret [D.v (Value.bool false)] [])) (some (Out.ret [D.v (Value.bool true)] [])))))) := by kernel_rfl
theorem t_laws_FnExactParseOrder (x0 : D) : F_laws_FnExactParseOrder [x0] =
  ((lenD true x0).bind fun z => (bin BinOp.gtr false [] z (D.v (Value.int IntKind.i64 1048576))).bind fun z => ifD z (some (Out.ret [D.v (Value.bool true)] [])) (callK (F_spec_ParseOrder [x0]) fun rs _u =>
 (tupAt (D.tup rs) 0).bind fun z => (tupAt (D.tup rs) 1).bind fun z_1 => (stD 4 (D.agg [D.v (Value.int IntKind.i64 0), D.v (Value.int IntKind.i64 0), D.v (Value.int IntKind.i64 0), D.v (Value.int IntKind.i64 0)])
 (D.ref 0 0) z).bind fun b => callK (F_impl_ParseOrder [x0]) fun rs _u => (tupAt (D.tup rs) 0).bind fun z => (tupAt (D.tup rs) 1).bind fun z_2 => (stD 4 (D.agg [D.v (Value.int IntKind.i64 0), D.v (Value.int IntKind.i64 0),
 D.v (Value.int IntKind.i64 0), D.v (Value.int IntKind.i64 0)]) (D.ref 0 0) z).bind fun b_1 => (fldD true 4 0 b_1).bind fun z => (fldD true 4 0 b).bind fun z_3 => callK (F_laws_eqOrder [z, z_3]) fun rs _u =>
 (un UnOp.not (sl rs 0)).bind fun z => (gate (D.tup []) z false (some z_2)).bind fun z_4 => (gate (D.tup []) z false (some z_1)).bind fun z_5 => (gate (D.tup []) z false (bin BinOp.neq true [] z_4 z_5)).bind fun z_6 =>
 (pickD z (D.v (Value.bool true)) z_6).bind fun z => ifD z (some (Out.ret [D.v (Value.bool false)] [])) (some (Out.ret [D.v (Value.bool true)] [])))) := by kernel_rfl
theorem t_spec_joNote (x0 : D) : F_spec_joNote [x0] =
  ((boxD 3 x0).bind fun y => (liveD y (D.ref 0 0)).bind fun z => ((atD y z).bind (takeD false 1)).bind fun z => callK (F_spec_l1In [z, D.v (Value.int IntKind.i64 0), D.v (Value.int IntKind.i64 9999)]) fun rs _u =>
 (gate D.bad (sl rs 0) true (liveD y (D.ref 0 1))).bind fun z => (gate (D.tup []) (sl rs 0) true ((atD y z).bind (takeD false 1))).bind fun z => gateC (sl rs 0) true
 (callK (F_spec_l1In [z, D.v (Value.int IntKind.i64 0), D.v (Value.int IntKind.i64 3)]) fun rs _u => some (Out.nrm [sl rs 0])) [D.tup []] fun outs => (pickD (sl rs 0) (sl outs 0) (D.v (Value.bool false))).bind fun z =>
 (gate D.bad z true (liveD y (D.ref 0 2))).bind fun z_1 => (gate (D.tup []) z true ((atD y z_1).bind (takeD false 1))).bind fun z_2 => gateC z true
 (callK (F_spec_l1In [z_2, D.v (Value.int IntKind.i64 1), D.v (Value.int IntKind.i64 99999)]) fun rs _u => some (Out.nrm [sl rs 0])) [D.tup []] fun outs =>
 (pickD z (sl outs 0) (D.v (Value.bool false))).bind fun z => some (Out.ret [z] [])) := by kernel_rfl
theorem t_spec_joGood (x0 : D) : F_spec_joGood [x0] =
  ((lenD false x0).bind fun z => (loopC (fun s => (bin BinOp.lss false [] (sl s 3) (sl s 2)).bind fun z => ifD z ((Option.map D.ptr (elemD 3 (sl s 1) (sl s 3))).bind fun z => ((ldD true 3 z).bind chkV).bind fun z => (stD 3
 (D.agg [D.v (Value.int IntKind.i64 0), D.v (Value.int IntKind.i64 0), D.v (Value.int IntKind.i64 0)]) (D.ref 0 0) z).bind fun b => (fldD true 3 0 b).bind fun z => callK (F_spec_joNote [z]) fun rs _u =>
 (un UnOp.not (sl rs 0)).bind fun z => (gate (D.tup []) z false (some (sl s 3))).bind fun z_1 => (gate (D.tup []) z false (bin BinOp.gtr false [] z_1 (D.v (Value.int IntKind.i64 0)))).bind fun z_2 =>
 (gate (D.tup []) z false (some z_2)).bind fun z_3 => (gate (D.tup []) z_3 true (some (sl s 0))).bind fun z_4 => (gate (D.tup []) z_3 true (some (sl s 3))).bind fun z_5 => (gate (D.tup []) z_3 true
 (bin BinOp.sub false [] z_5 (D.v (Value.int IntKind.i64 1)))).bind fun z_6 => (gate (D.tup []) z_3 true (Option.map D.ptr (elemD 3 z_4 z_6))).bind fun z_7 => (gate (D.tup []) z_3 true (offD 0 z_7)).bind fun z_8 =>
 (gate (D.tup []) z_3 true ((ldD false 1 z_8).bind chkV)).bind fun z_9 => (gate D.bad z_3 true (liveD b (D.ref 0 0))).bind fun z_10 => (gate (D.tup []) z_3 true ((atD b z_10).bind (takeD false 1))).bind fun z_11 =>
 (gate (D.tup []) z_3 true (bin BinOp.gtr false [] z_9 z_11)).bind fun z_12 => (gate (D.tup []) z false (pickD z_3 z_12 (D.v (Value.bool false)))).bind fun z_13 => (pickD z (D.v (Value.bool true)) z_13).bind fun z =>
 ifD z (some (Out.ret [D.v (Value.bool false)] [])) ((bin BinOp.add false [] (sl s 3) (D.v (Value.int IntKind.i64 1))).bind fun z => some (Out.nrm [sl s 0, sl s 1, sl s 2, z]))) (some (Out.ext 0 [sl s 0])))
 [x0, x0, z, D.v (Value.int IntKind.i64 0)]).bind fun o => outK o (fun i s => ifN (i.beq 0) ((lenD false (sl s 0)).bind fun z =>
 (bin BinOp.leq false [] z (D.v (Value.int IntKind.i64 24))).bind fun z => some (Out.ret [z] [])) none) fun a b => some (Out.ret a b)) := by kernel_rfl
theorem t_spec_joCheck (x0 x1 : D) : F_spec_joCheck [x0, x1] =
  ((boxD 3 x1).bind fun y => (bin BinOp.mul false [] (D.v (Value.int IntKind.i64 31)) x0).bind fun z => (liveD y (D.ref 0 0)).bind fun z_1 => ((atD y z_1).bind (takeD false 1)).bind fun z_2 =>
 (bin BinOp.mul false [] (D.v (Value.int IntKind.i64 17)) z_2).bind fun z_3 => (bin BinOp.add false [] z z_3).bind fun z => (liveD y (D.ref 0 1)).bind fun z_4 => ((atD y z_4).bind (takeD false 1)).bind fun z_5 =>
 (bin BinOp.mul false [] (D.v (Value.int IntKind.i64 5)) z_5).bind fun z_6 => (bin BinOp.add false [] z z_6).bind fun z => (liveD y (D.ref 0 2)).bind fun z_7 => ((atD y z_7).bind (takeD false 1)).bind fun z_8 =>
 (bin BinOp.add false [] z z_8).bind fun z => (bin BinOp.rem false [] z (D.v (Value.int IntKind.i64 9973))).bind fun z => some (Out.ret [z] [])) := by kernel_rfl
theorem t_spec_joLine (x0 x1 : D) : F_spec_joLine [x0, x1] =
  ((boxD 3 x0).bind fun y => (liveD y (D.ref 0 0)).bind fun z => ((atD y z).bind (takeD false 1)).bind fun z => callK (F_spec_l1Num [z]) fun rs _u =>
 (bin BinOp.add false [] (sl rs 0) (D.v (Value.string { data := { toList := [32] } }))).bind fun z => (liveD y (D.ref 0 1)).bind fun z_1 => ((atD y z_1).bind (takeD false 1)).bind fun z_2 =>
 callK (F_spec_l1Num [z_2]) fun rs _u => (bin BinOp.add false [] z (sl rs 0)).bind fun z => (bin BinOp.add false [] z (D.v (Value.string { data := { toList := [32] } }))).bind fun z => (liveD y (D.ref 0 2)).bind fun z_3 =>
 ((atD y z_3).bind (takeD false 1)).bind fun z_4 => callK (F_spec_l1Num [z_4]) fun rs _u => (bin BinOp.add false [] z (sl rs 0)).bind fun z =>
 (bin BinOp.add false [] z (D.v (Value.string { data := { toList := [32] } }))).bind fun z => callK (F_spec_l1Num [x1]) fun rs _u => (bin BinOp.add false [] z (sl rs 0)).bind fun z =>
 (bin BinOp.add false [] z (D.v (Value.string { data := { toList := [10] } }))).bind fun z => some (Out.ret [z] [])) := by kernel_rfl
theorem t_spec_joRead (x0 : D) : F_spec_joRead [x0] =
  (callK (F_spec_l1Split [x0, D.v (Value.int IntKind.u8 10)]) fun rs _u => (lenD false (sl rs 0)).bind fun z => (bin BinOp.sub false [] z (D.v (Value.int IntKind.i64 1))).bind fun z =>
 (sliceD false 1 (sl rs 0) (D.v (Value.int IntKind.i64 0)) z).bind fun z => (lenD false z).bind fun z_1 => (loopC (fun s => (bin BinOp.lss false [] (sl s 5) (sl s 4)).bind fun z => ifD z
 ((Option.map D.ptr (elemD 1 (sl s 3) (sl s 5))).bind fun z => ((ldD false 1 z).bind chkV).bind fun z => callK (F_spec_l1Split [z, D.v (Value.int IntKind.u8 32)]) fun rs _u => (lenD false (sl rs 0)).bind fun z_2 =>
 (bin BinOp.neq false [] z_2 (D.v (Value.int IntKind.i64 4))).bind fun z_3 => ifD z_3 (some (Out.ext 0 [sl s 0, sl s 1])) ((Option.map D.ptr (elemD 1 (sl rs 0) (D.v (Value.int IntKind.i64 0)))).bind fun z_4 =>
 ((ldD false 1 z_4).bind chkV).bind fun z_5 => callK (F_spec_l1Read [z_5]) fun rs_1 _u => (Option.map D.ptr (elemD 1 (sl rs 0) (D.v (Value.int IntKind.i64 1)))).bind fun z_6 => ((ldD false 1 z_6).bind chkV).bind fun z_7 =>
 callK (F_spec_l1Read [z_7]) fun rs_2 _u => (Option.map D.ptr (elemD 1 (sl rs 0) (D.v (Value.int IntKind.i64 2)))).bind fun z_8 => ((ldD false 1 z_8).bind chkV).bind fun z_9 => callK (F_spec_l1Read [z_9]) fun rs _u =>
 (bldD [(0, 1), (1, 1), (2, 1)] [D.v (Value.int IntKind.i64 0), D.v (Value.int IntKind.i64 0), D.v (Value.int IntKind.i64 0)] [sl rs_1 0, sl rs_2 0, sl rs 0]).bind fun z_10 => (stD 3 (D.agg [D.v (Value.int IntKind.i64 0),
 D.v (Value.int IntKind.i64 0), D.v (Value.int IntKind.i64 0)]) (D.ref 0 0) z_10).bind fun b => (mkArr 3 []).bind fun a => (liveD (sl s 0) (D.ref 0 0)).bind fun z_11 => (liveD z_11 (sl s 0)).bind fun b_1 =>
 (appD 3 24 a b_1).bind fun y => (fldD true 3 0 b).bind fun z_12 => (mkArr 3 [z_12]).bind fun a => (chkA a).bind fun b_2 => (appD 3 24 y b_2).bind fun y => (liveD y (D.ref 0 0)).bind fun z_13 =>
 (liveD z_13 y).bind fun i => callK (F_spec_joGood [i]) fun rs _u => (un UnOp.not (sl rs 0)).bind fun z_14 => (gate (D.tup []) z_14 false (fldD true 3 0 b)).bind fun z_15 => (gate (D.tup []) z_14 false
 (some (sl s 2))).bind fun z_16 => (gate (D.tup []) z_14 false (fldD true 3 0 b)).bind fun z_17 => gateC z_14 false (callK (F_spec_joCheck [z_16, z_17]) fun rs _u => some (Out.nrm [sl rs 0])) [D.tup []] fun outs =>
 gateC z_14 false (callK (F_spec_joLine [z_15, sl outs 0]) fun rs _u => some (Out.nrm [sl rs 0])) [D.tup []] fun outs => (gate (D.tup []) z_14 false (some z)).bind fun z_18 => (gate (D.tup []) z_14 false
 (bin BinOp.add false [] z_18 (D.v (Value.string { data := { toList := [10] } })))).bind fun z_19 => (gate (D.tup []) z_14 false (bin BinOp.neq false [] (sl outs 0) z_19)).bind fun z_20 => (pickD z_14 (D.v (Value.bool
 true)) z_20).bind fun z_21 => ifD z_21 (some (Out.ext 0 [sl s 0, sl s 1])) ((fldD true 3 0 b).bind fun z_22 => callK (F_spec_joCheck [sl s 2, z_22]) fun rs _u => (lenD true z).bind fun z => (bin BinOp.add false [] z (D.v
 (Value.int IntKind.i64 1))).bind fun z => (bin BinOp.add false [] (sl s 1) z).bind fun z => (bin BinOp.add false [] (sl s 5) (D.v (Value.int IntKind.i64 1))).bind fun z_23 => some (Out.nrm [y, z, sl rs 0, sl s 3, sl s 4,
 z_23])))) (some (Out.ext 0 [sl s 0, sl s 1]))) [D.arr 3 [], D.v (Value.int IntKind.i64 0), D.v (Value.int IntKind.i64 7), z, z_1, D.v (Value.int IntKind.i64 0)]).bind fun o =>
 outK o (fun i s => ifN (i.beq 0) (some (Out.ret [sl s 0, sl s 1] [])) none) fun a b => some (Out.ret a b)) := by kernel_rfl
theorem t_spec_FirstBadLine (x0 : D) : F_spec_FirstBadLine [x0] =
  (callK (F_spec_joRead [x0]) fun rs _u => (tupAt (D.tup rs) 0).bind fun y => (tupAt (tupCut (D.tup rs) 0) 1).bind fun z => (lenD true x0).bind fun z_1 =>
 (bin BinOp.gtr false [] z_1 (D.v (Value.int IntKind.i64 300))).bind fun z_2 => (gate (D.tup []) z_2 false (some z)).bind fun z => (gate (D.tup []) z_2 false (some x0)).bind fun z_3 =>
 (gate (D.tup []) z_2 false (lenD true z_3)).bind fun z_4 => (gate (D.tup []) z_2 false (bin BinOp.eql false [] z z_4)).bind fun z => (pickD z_2 (D.v (Value.bool true)) z).bind fun z =>
 ifD z (some (Out.ret [D.v (Value.int IntKind.i64 0), D.v (Value.bool false)] [])) ((lenD false y).bind fun z => some (Out.ret [z, D.v (Value.bool true)] []))) := by kernel_rfl
theorem t_impl_isJournalText (x0 : D) : F_impl_isJournalText [x0] =
  ((lenD true x0).bind fun z => (bin BinOp.leq false [] z (D.v (Value.int IntKind.i64 300))).bind fun z => some (Out.ret [z] [])) := by kernel_rfl
theorem t_impl_isNoteDay (x0 : D) : F_impl_isNoteDay [x0] =
  (callK (F_impl_within [x0, D.v (Value.int IntKind.i64 0), D.v (Value.int IntKind.i64 9999)]) fun rs _u => some (Out.ret [sl rs 0] [])) := by kernel_rfl
theorem t_impl_isNote (x0 : D) : F_impl_isNote [x0] =
  ((boxD 3 x0).bind fun y => (liveD y (D.ref 0 0)).bind fun z => ((atD y z).bind (takeD false 1)).bind fun z => callK (F_impl_isNoteDay [z]) fun rs _u => (gate D.bad (sl rs 0) true (liveD y (D.ref 0 1))).bind fun z =>
 (gate (D.tup []) (sl rs 0) true ((atD y z).bind (takeD false 1))).bind fun z => gateC (sl rs 0) true (callK (F_impl_within [z, D.v (Value.int IntKind.i64 0), D.v (Value.int IntKind.i64 3)]) fun rs _u =>
 some (Out.nrm [sl rs 0])) [D.tup []] fun outs => (pickD (sl rs 0) (sl outs 0) (D.v (Value.bool false))).bind fun z => (gate D.bad z true (liveD y (D.ref 0 2))).bind fun z_1 =>
 (gate (D.tup []) z true ((atD y z_1).bind (takeD false 1))).bind fun z_2 => gateC z true (callK (F_impl_within [z_2, D.v (Value.int IntKind.i64 1), D.v (Value.int IntKind.i64 99999)])
 fun rs _u => some (Out.nrm [sl rs 0])) [D.tup []] fun outs => (pickD z (sl outs 0) (D.v (Value.bool false))).bind fun z => some (Out.ret [z] [])) := by kernel_rfl
theorem t_impl_AreNotes (x0 : D) : F_impl_AreNotes [x0] =
  ((lenD false x0).bind fun z => (loopC (fun s => (bin BinOp.lss false [] (sl s 3) (sl s 2)).bind fun z => ifD z ((Option.map D.ptr (elemD 3 (sl s 1) (sl s 3))).bind fun z => ((ldD true 3 z).bind chkV).bind fun z => (stD 3
 (D.agg [D.v (Value.int IntKind.i64 0), D.v (Value.int IntKind.i64 0), D.v (Value.int IntKind.i64 0)]) (D.ref 0 0) z).bind fun b => (fldD true 3 0 b).bind fun z => callK (F_impl_isNote [z]) fun rs _u =>
 (un UnOp.not (sl rs 0)).bind fun z => (gate (D.tup []) z false (some (sl s 3))).bind fun z_1 => (gate (D.tup []) z false (bin BinOp.gtr false [] z_1 (D.v (Value.int IntKind.i64 0)))).bind fun z_2 =>
 (gate (D.tup []) z false (some z_2)).bind fun z_3 => (gate (D.tup []) z_3 true (some (sl s 0))).bind fun z_4 => (gate (D.tup []) z_3 true (some (sl s 3))).bind fun z_5 => (gate (D.tup []) z_3 true
 (bin BinOp.sub false [] z_5 (D.v (Value.int IntKind.i64 1)))).bind fun z_6 => (gate (D.tup []) z_3 true (Option.map D.ptr (elemD 3 z_4 z_6))).bind fun z_7 => (gate (D.tup []) z_3 true (offD 0 z_7)).bind fun z_8 =>
 (gate (D.tup []) z_3 true ((ldD false 1 z_8).bind chkV)).bind fun z_9 => (gate D.bad z_3 true (liveD b (D.ref 0 0))).bind fun z_10 => (gate (D.tup []) z_3 true ((atD b z_10).bind (takeD false 1))).bind fun z_11 =>
 (gate (D.tup []) z_3 true (bin BinOp.gtr false [] z_9 z_11)).bind fun z_12 => (gate (D.tup []) z false (pickD z_3 z_12 (D.v (Value.bool false)))).bind fun z_13 => (pickD z (D.v (Value.bool true)) z_13).bind fun z =>
 ifD z (some (Out.ret [D.v (Value.bool false)] [])) ((bin BinOp.add false [] (sl s 3) (D.v (Value.int IntKind.i64 1))).bind fun z => some (Out.nrm [sl s 0, sl s 1, sl s 2, z]))) (some (Out.ext 0 [sl s 0])))
 [x0, x0, z, D.v (Value.int IntKind.i64 0)]).bind fun o => outK o (fun i s => ifN (i.beq 0) ((lenD false (sl s 0)).bind fun z =>
 (bin BinOp.leq false [] z (D.v (Value.int IntKind.i64 24))).bind fun z => some (Out.ret [z] [])) none) fun a b => some (Out.ret a b)) := by kernel_rfl
theorem t_impl_recovered (x0 : D) : F_impl_recovered [x0] =
  ((mkArr 3 []).bind fun a => (loopC (fun s => (sliceHi true 0 (sl s 0) (sl s 3)).bind fun z => callK (fCut [z, D.v (Value.string { data := { toList := [10] } })]) fun rs _u => (tupAt (D.tup rs) 0).bind fun z =>
 (tupAt (D.tup rs) 1).bind fun _u => (tupAt (D.tup rs) 2).bind fun z_1 => callK (F_impl_numbersIn [z]) fun rs _u => (un UnOp.not z_1).bind fun z_2 => (gate (D.tup []) z_2 false (some (sl rs 0))).bind fun z_3 =>
 (gate (D.tup []) z_2 false (lenD false z_3)).bind fun z_4 => (gate (D.tup []) z_2 false (bin BinOp.neq false [] z_4 (D.v (Value.int IntKind.i64 4)))).bind fun z_5 => (pickD z_2 (D.v (Value.bool true)) z_5).bind fun z_6 =>
 ifD z_6 (some (Out.ret [sl s 1, sl s 3] [])) ((Option.map D.ptr (elemD 1 (sl rs 0) (D.v (Value.int IntKind.i64 0)))).bind fun z_7 => ((ldD false 1 z_7).bind chkV).bind fun z_8 =>
 (Option.map D.ptr (elemD 1 (sl rs 0) (D.v (Value.int IntKind.i64 1)))).bind fun z_9 => ((ldD false 1 z_9).bind chkV).bind fun z_10 => (Option.map D.ptr (elemD 1 (sl rs 0) (D.v (Value.int IntKind.i64 2)))).bind fun z_11 =>
 ((ldD false 1 z_11).bind chkV).bind fun z_12 => (bldD [(0, 1), (1, 1), (2, 1)] [D.v (Value.int IntKind.i64 0), D.v (Value.int IntKind.i64 0), D.v (Value.int IntKind.i64 0)] [z_8, z_10, z_12]).bind fun z_13 => (stD 3
 (D.agg [D.v (Value.int IntKind.i64 0), D.v (Value.int IntKind.i64 0), D.v (Value.int IntKind.i64 0)]) (D.ref 0 0) z_13).bind fun b => (mkArr 3 []).bind fun a => (liveD (sl s 1) (D.ref 0 0)).bind fun z_14 =>
 (liveD z_14 (sl s 1)).bind fun b_1 => (appD 3 24 a b_1).bind fun y => (fldD true 3 0 b).bind fun z_15 => (mkArr 3 [z_15]).bind fun a => (chkA a).bind fun b_2 => (appD 3 24 y b_2).bind fun y =>
 (liveD y (D.ref 0 0)).bind fun z_16 => (liveD z_16 y).bind fun i => callK (F_impl_AreNotes [i]) fun rs _u => (un UnOp.not (sl rs 0)).bind fun z_17 => (gate (D.tup []) z_17 false (fldD true 3 0 b)).bind fun z_18 =>
 (gate (D.tup []) z_17 false (some (sl s 2))).bind fun z_19 => (gate (D.tup []) z_17 false (fldD true 3 0 b)).bind fun z_20 => gateC z_17 false (callK (F_impl_check [z_19, z_20]) fun rs _u => some (Out.nrm [sl rs 0]))
 [D.tup []] fun outs => gateC z_17 false (callK (F_impl_noteLine [z_18, sl outs 0]) fun rs _u => some (Out.nrm [sl rs 0])) [D.tup []] fun outs => (gate (D.tup []) z_17 false (some z)).bind fun z_21 =>
 (gate (D.tup []) z_17 false (bin BinOp.add false [] z_21 (D.v (Value.string { data := { toList := [10] } })))).bind fun z_22 => (gate (D.tup []) z_17 false (bin BinOp.neq false [] (sl outs 0) z_22)).bind fun z_23 =>
 (pickD z_17 (D.v (Value.bool true)) z_23).bind fun z_24 => ifD z_24 (some (Out.ret [sl s 1, sl s 3] [])) ((fldD true 3 0 b).bind fun z_25 => callK (F_impl_check [sl s 2, z_25]) fun rs _u => (lenD true z).bind fun z =>
 (bin BinOp.add false [] z (D.v (Value.int IntKind.i64 1))).bind fun z => (bin BinOp.add false [] (sl s 3) z).bind fun z => some (Out.nrm [sl s 0, y, sl rs 0, z]))))
 [x0, a, D.v (Value.int IntKind.i64 7), D.v (Value.int IntKind.i64 0)]).bind fun o => outK o (fun i s => ifN (i.beq 0) (some (Out.ret [sl s 0, sl s 1] [])) none) fun a b => some (Out.ret a b)) := by kernel_rfl
theorem t_impl_Recovered (x0 : D) : F_impl_Recovered [x0] =
  (callK (F_impl_isJournalText [x0]) fun rs _u => (un UnOp.not (sl rs 0)).bind fun z => ifD z ((mkArr 3 []).bind fun a => some (Out.ret [a, D.v (Value.int IntKind.i64 0), D.v (Value.bool false)] []))
 (callK (F_impl_recovered [x0]) fun rs _u => (tupAt (D.tup rs) 0).bind fun y => (tupAt (tupCut (D.tup rs) 0) 1).bind fun z => some (Out.ret [y, z, D.v (Value.bool true)] []))) := by kernel_rfl
theorem t_impl_FirstBadLine (x0 : D) : F_impl_FirstBadLine [x0] =
  (callK (F_impl_Recovered [x0]) fun rs _u => (tupAt (D.tup rs) 0).bind fun y => (tupAt (tupCut (D.tup rs) 0) 1).bind fun z => (tupAt (tupCut (D.tup rs) 0) 2).bind fun z_1 => (un UnOp.not z_1).bind fun z_2 =>
 (gate (D.tup []) z_2 false (some z)).bind fun z => (gate (D.tup []) z_2 false (some x0)).bind fun z_3 => (gate (D.tup []) z_2 false (lenD true z_3)).bind fun z_4 =>
 (gate (D.tup []) z_2 false (bin BinOp.eql false [] z z_4)).bind fun z => (pickD z_2 (D.v (Value.bool true)) z).bind fun z => ifD z (some (Out.ret [D.v (Value.int IntKind.i64 0), D.v (Value.bool false)] []))
 ((lenD false y).bind fun z => some (Out.ret [z, D.v (Value.bool true)] []))) := by kernel_rfl
theorem t_laws_FnExactFirstBadLine (x0 : D) : F_laws_FnExactFirstBadLine [x0] =
  ((lenD true x0).bind fun z => (bin BinOp.gtr false [] z (D.v (Value.int IntKind.i64 1048576))).bind fun z => ifD z (some (Out.ret [D.v (Value.bool true)] [])) (callK (F_spec_FirstBadLine [x0]) fun rs _u =>
 (tupAt (D.tup rs) 0).bind fun z => (tupAt (D.tup rs) 1).bind fun z_1 => callK (F_impl_FirstBadLine [x0]) fun rs _u => (tupAt (D.tup rs) 0).bind fun z_2 => (tupAt (D.tup rs) 1).bind fun z_3 =>
 (bin BinOp.neq false [] z_2 z).bind fun z => (gate (D.tup []) z false (some z_3)).bind fun z_4 => (gate (D.tup []) z false (some z_1)).bind fun z_5 =>
 (gate (D.tup []) z false (bin BinOp.neq true [] z_4 z_5)).bind fun z_6 => (pickD z (D.v (Value.bool true)) z_6).bind fun z => ifD z (some (Out.ret [D.v (Value.bool false)] [])) (some (Out.ret [D.v (Value.bool true)] [])))) := by kernel_rfl
theorem t_spec_ReadJournal (x0 : D) : F_spec_ReadJournal [x0] =
  (callK (F_spec_joRead [x0]) fun rs _u => (tupAt (D.tup rs) 0).bind fun y => (tupAt (tupCut (D.tup rs) 0) 1).bind fun z => (lenD true x0).bind fun z_1 =>
 (bin BinOp.gtr false [] z_1 (D.v (Value.int IntKind.i64 300))).bind fun z_2 => (gate (D.tup []) z_2 false (some z)).bind fun z => (gate (D.tup []) z_2 false (some x0)).bind fun z_3 =>
 (gate (D.tup []) z_2 false (lenD true z_3)).bind fun z_4 => (gate (D.tup []) z_2 false (bin BinOp.neq false [] z z_4)).bind fun z => (pickD z_2 (D.v (Value.bool true)) z).bind fun z =>
 ifD z (some (Out.ret [D.arr 3 [], D.v (Value.bool false)] [])) (some (Out.ret [y, D.v (Value.bool true)] []))) := by kernel_rfl
theorem t_spec_SameStart (x0 x1 : D) : F_spec_SameStart [x0, x1] =
  (callK (F_spec_ReadJournal [x0]) fun rs _u => (tupAt (D.tup rs) 0).bind fun y => (tupAt (tupCut (D.tup rs) 0) 1).bind fun z => callK (F_spec_ReadJournal [x1]) fun rs _u => (tupAt (D.tup rs) 0).bind fun y_1 =>
 (tupAt (tupCut (D.tup rs) 0) 1).bind fun z_1 => (un UnOp.not z).bind fun z => (gate (D.tup []) z false (some z_1)).bind fun z_2 => (gate (D.tup []) z false (un UnOp.not z_2)).bind fun z_3 =>
 (pickD z (D.v (Value.bool true)) z_3).bind fun z => ifD z (some (Out.ret [D.v (Value.int IntKind.i64 0), D.v (Value.bool false)] [])) ((loopC (fun s => (lenD false (sl s 0)).bind fun z =>
 (bin BinOp.lss false [] (sl s 2) z).bind fun z => (gate (D.tup []) z true (some (sl s 2))).bind fun z_4 => (gate (D.tup []) z true (some (sl s 1))).bind fun z_5 => (gate (D.tup []) z true (lenD false z_5)).bind fun z_6 =>
 (gate (D.tup []) z true (bin BinOp.lss false [] z_4 z_6)).bind fun z_7 => (pickD z z_7 (D.v (Value.bool false))).bind fun z => (gate (D.tup []) z true (some (sl s 0))).bind fun z_8 =>
 (gate (D.tup []) z true (some (sl s 2))).bind fun z_9 => (gate (D.tup []) z true (Option.map D.ptr (elemD 3 z_8 z_9))).bind fun z_10 => (gate (D.tup []) z true ((ldD true 3 z_10).bind chkV)).bind fun z_11 =>
 (gate (D.tup []) z true (some (sl s 1))).bind fun z_12 => (gate (D.tup []) z true (some (sl s 2))).bind fun z_13 => (gate (D.tup []) z true (Option.map D.ptr (elemD 3 z_12 z_13))).bind fun z_14 =>
 (gate (D.tup []) z true ((ldD true 3 z_14).bind chkV)).bind fun z_15 => (gate (D.tup []) z true (bin BinOp.eql false [1, 1, 1] z_11 z_15)).bind fun z_16 => (pickD z z_16 (D.v (Value.bool false))).bind fun z => ifD z
 ((bin BinOp.add false [] (sl s 2) (D.v (Value.int IntKind.i64 1))).bind fun z => some (Out.nrm [sl s 0, sl s 1, z])) (some (Out.ext 0 [sl s 2]))) [y, y_1, D.v (Value.int IntKind.i64 0)]).bind fun o =>
 outK o (fun i s => ifN (i.beq 0) (some (Out.ret [sl s 0, D.v (Value.bool true)] [])) none) fun a b => some (Out.ret a b))) := by kernel_rfl
theorem t_impl_readJournal (x0 : D) : F_impl_readJournal [x0] =
  (callK (F_impl_isJournalText [x0]) fun rs _u => (un UnOp.not (sl rs 0)).bind fun z => ifD z ((mkArr 3 []).bind fun a => some (Out.ret [a, D.v (Value.bool false)] [])) (callK (F_impl_recovered [x0]) fun rs _u =>
 (tupAt (D.tup rs) 0).bind fun y => (tupAt (tupCut (D.tup rs) 0) 1).bind fun z => (lenD true x0).bind fun z_1 => (bin BinOp.lss false [] z z_1).bind fun z =>
 ifD z ((mkArr 3 []).bind fun a => some (Out.ret [a, D.v (Value.bool false)] [])) (some (Out.ret [y, D.v (Value.bool true)] [])))) := by kernel_rfl
theorem t_impl_SameStart (x0 x1 : D) : F_impl_SameStart [x0, x1] =
  (callK (F_impl_readJournal [x0]) fun rs _u => (tupAt (D.tup rs) 0).bind fun y => (tupAt (tupCut (D.tup rs) 0) 1).bind fun z => callK (F_impl_readJournal [x1]) fun rs _u => (tupAt (D.tup rs) 0).bind fun y_1 =>
 (tupAt (tupCut (D.tup rs) 0) 1).bind fun z_1 => (un UnOp.not z).bind fun z => (gate (D.tup []) z false (some z_1)).bind fun z_2 => (gate (D.tup []) z false (un UnOp.not z_2)).bind fun z_3 =>
 (pickD z (D.v (Value.bool true)) z_3).bind fun z => ifD z (some (Out.ret [D.v (Value.int IntKind.i64 0), D.v (Value.bool false)] [])) ((loopC (fun s => (lenD false (sl s 0)).bind fun z =>
 (bin BinOp.lss false [] (sl s 2) z).bind fun z => (gate (D.tup []) z true (some (sl s 2))).bind fun z_4 => (gate (D.tup []) z true (some (sl s 1))).bind fun z_5 => (gate (D.tup []) z true (lenD false z_5)).bind fun z_6 =>
 (gate (D.tup []) z true (bin BinOp.lss false [] z_4 z_6)).bind fun z_7 => (pickD z z_7 (D.v (Value.bool false))).bind fun z => (gate (D.tup []) z true (some (sl s 0))).bind fun z_8 =>
 (gate (D.tup []) z true (some (sl s 2))).bind fun z_9 => (gate (D.tup []) z true (Option.map D.ptr (elemD 3 z_8 z_9))).bind fun z_10 => (gate (D.tup []) z true ((ldD true 3 z_10).bind chkV)).bind fun z_11 =>
 (gate (D.tup []) z true (some (sl s 1))).bind fun z_12 => (gate (D.tup []) z true (some (sl s 2))).bind fun z_13 => (gate (D.tup []) z true (Option.map D.ptr (elemD 3 z_12 z_13))).bind fun z_14 =>
 (gate (D.tup []) z true ((ldD true 3 z_14).bind chkV)).bind fun z_15 => (gate (D.tup []) z true (bin BinOp.eql false [1, 1, 1] z_11 z_15)).bind fun z_16 => (pickD z z_16 (D.v (Value.bool false))).bind fun z => ifD z
 ((bin BinOp.add false [] (sl s 2) (D.v (Value.int IntKind.i64 1))).bind fun z => some (Out.nrm [sl s 0, sl s 1, z])) (some (Out.ext 0 [sl s 2]))) [y, y_1, D.v (Value.int IntKind.i64 0)]).bind fun o =>
 outK o (fun i s => ifN (i.beq 0) (some (Out.ret [sl s 0, D.v (Value.bool true)] [])) none) fun a b => some (Out.ret a b))) := by kernel_rfl
theorem t_laws_FnExactSameStart (x0 x1 : D) : F_laws_FnExactSameStart [x0, x1] =
  ((lenD true x0).bind fun z => (bin BinOp.gtr false [] z (D.v (Value.int IntKind.i64 1048576))).bind fun z => ifD z (some (Out.ret [D.v (Value.bool true)] [])) ((lenD true x1).bind fun z =>
 (bin BinOp.gtr false [] z (D.v (Value.int IntKind.i64 1048576))).bind fun z => ifD z (some (Out.ret [D.v (Value.bool true)] [])) (callK (F_spec_SameStart [x0, x1]) fun rs _u => (tupAt (D.tup rs) 0).bind fun z =>
 (tupAt (D.tup rs) 1).bind fun z_1 => callK (F_impl_SameStart [x0, x1]) fun rs _u => (tupAt (D.tup rs) 0).bind fun z_2 => (tupAt (D.tup rs) 1).bind fun z_3 => (bin BinOp.neq false [] z_2 z).bind fun z =>
 (gate (D.tup []) z false (some z_3)).bind fun z_4 => (gate (D.tup []) z false (some z_1)).bind fun z_5 => (gate (D.tup []) z false (bin BinOp.neq true [] z_4 z_5)).bind fun z_6 =>
 (pickD z (D.v (Value.bool true)) z_6).bind fun z => ifD z (some (Out.ret [D.v (Value.bool false)] [])) (some (Out.ret [D.v (Value.bool true)] []))))) := by kernel_rfl
theorem t_spec_Recovered (x0 : D) : F_spec_Recovered [x0] =
  ((lenD true x0).bind fun z => (bin BinOp.gtr false [] z (D.v (Value.int IntKind.i64 300))).bind fun z => ifD z (some (Out.ret [D.arr 3 [], D.v (Value.int IntKind.i64 0), D.v (Value.bool false)] []))
 (callK (F_spec_joRead [x0]) fun rs _u => (tupAt (D.tup rs) 0).bind fun y => (tupAt (tupCut (D.tup rs) 0) 1).bind fun z => some (Out.ret [y, z, D.v (Value.bool true)] []))) := by kernel_rfl
theorem t_laws_eqNote (x0 x1 : D) : F_laws_eqNote [x0, x1] =
  ((boxD 3 x0).bind fun y => (boxD 3 x1).bind fun y_1 => (liveD y (D.ref 0 0)).bind fun z => ((atD y z).bind (takeD false 1)).bind fun z => (liveD y_1 (D.ref 0 0)).bind fun z_1 =>
 ((atD y_1 z_1).bind (takeD false 1)).bind fun z_2 => (bin BinOp.neq false [] z z_2).bind fun z => ifD z (some (Out.ret [D.v (Value.bool false)] [])) ((liveD y (D.ref 0 1)).bind fun z =>
 ((atD y z).bind (takeD false 1)).bind fun z => (liveD y_1 (D.ref 0 1)).bind fun z_3 => ((atD y_1 z_3).bind (takeD false 1)).bind fun z_4 => (bin BinOp.neq false [] z z_4).bind fun z =>
 ifD z (some (Out.ret [D.v (Value.bool false)] [])) ((liveD y (D.ref 0 2)).bind fun z => ((atD y z).bind (takeD false 1)).bind fun z => (liveD y_1 (D.ref 0 2)).bind fun z_5 =>
 ((atD y_1 z_5).bind (takeD false 1)).bind fun z_6 => (bin BinOp.neq false [] z z_6).bind fun z => ifD z (some (Out.ret [D.v (Value.bool false)] [])) (some (Out.ret [D.v (Value.bool true)] []))))) := by kernel_rfl
theorem t_laws_eqNoteS (x0 x1 : D) : F_laws_eqNoteS [x0, x1] =
  ((lenD false x0).bind fun z => (lenD false x1).bind fun z_1 => (bin BinOp.neq false [] z z_1).bind fun z => ifD z (some (Out.ret [D.v (Value.bool false)] [])) ((loopC (fun s => (lenD false (sl s 0)).bind fun z =>
 (bin BinOp.lss false [] (sl s 2) z).bind fun z => ifD z ((Option.map D.ptr (elemD 3 (sl s 0) (sl s 2))).bind fun z => ((ldD true 3 z).bind chkV).bind fun z => (Option.map D.ptr (elemD 3 (sl s 1) (sl s 2))).bind fun z_2 =>
 ((ldD true 3 z_2).bind chkV).bind fun z_3 => callK (F_laws_eqNote [z, z_3]) fun rs _u => (un UnOp.not (sl rs 0)).bind fun z => ifD z (some (Out.ret [D.v (Value.bool false)] []))
 ((bin BinOp.add false [] (sl s 2) (D.v (Value.int IntKind.i64 1))).bind fun z => some (Out.nrm [sl s 0, sl s 1, z]))) (some (Out.ext 0 []))) [x0, x1, D.v (Value.int IntKind.i64 0)]).bind fun o =>
 outK o (fun i _u => ifN (i.beq 0) (some (Out.ret [D.v (Value.bool true)] [])) none) fun a b => some (Out.ret a b))) := by kernel_rfl
theorem t_laws_markNoteS (x0 x1 : D) : F_laws_markNoteS [x0, x1] =
  ((loopC (fun s => (liveD (sl s 0) (D.ref 0 0)).bind fun z => ((liveD z (sl s 0)).bind (lenD false)).bind fun z => (bin BinOp.lss false [] (sl s 2) z).bind fun z => ifD z ((liveD (sl s 0) (D.ref 0 0)).bind fun z =>
 ((liveD z (sl s 0)).bind fun b => refI 3 b (sl s 2)).bind fun z => (refAdd 0 z).bind fun z => (stD 1 (sl s 0) z (sl s 1)).bind fun b => (bin BinOp.add false [] (sl s 1) (D.v (Value.int IntKind.i64 1))).bind fun z =>
 (liveD b (D.ref 0 0)).bind fun z_1 => ((liveD z_1 b).bind fun b => refI 3 b (sl s 2)).bind fun z_2 => (refAdd 1 z_2).bind fun z_3 => (stD 1 b z_3 z).bind fun b =>
 (bin BinOp.add false [] z (D.v (Value.int IntKind.i64 1))).bind fun z => (liveD b (D.ref 0 0)).bind fun z_4 => ((liveD z_4 b).bind fun b => refI 3 b (sl s 2)).bind fun z_5 => (refAdd 2 z_5).bind fun z_6 =>
 (stD 1 b z_6 z).bind fun b => (bin BinOp.add false [] z (D.v (Value.int IntKind.i64 1))).bind fun z => (bin BinOp.add false [] (sl s 2) (D.v (Value.int IntKind.i64 1))).bind fun z_7 => some (Out.nrm [b, z, z_7]))
 (some (Out.ext 0 [sl s 0, sl s 1]))) [x0, x1, D.v (Value.int IntKind.i64 0)]).bind fun o => outK o (fun i s => ifN (i.beq 0) ((liveD (sl s 0) (sl s 0)).bind fun _u => some (Out.ret [sl s 1] [sl s 0])) none)
 fun a b => some (Out.ret a b)) := by kernel_rfl
theorem t_laws_heldNoteS (x0 x1 : D) : F_laws_heldNoteS [x0, x1] =
  ((loopC (fun s => (lenD false (sl s 0)).bind fun z => (bin BinOp.lss false [] (sl s 2) z).bind fun z => ifD z ((Option.map D.ptr (elemD 3 (sl s 0) (sl s 2))).bind fun z => (offD 0 z).bind fun z =>
 ((ldD false 1 z).bind chkV).bind fun z => (bin BinOp.neq false [] z (sl s 1)).bind fun z => ifD z (some (Out.ret [D.v (Value.int IntKind.i64 (-1))] []))
 ((bin BinOp.add false [] (sl s 1) (D.v (Value.int IntKind.i64 1))).bind fun z => (Option.map D.ptr (elemD 3 (sl s 0) (sl s 2))).bind fun z_1 => (offD 1 z_1).bind fun z_2 => ((ldD false 1 z_2).bind chkV).bind fun z_3 =>
 (bin BinOp.neq false [] z_3 z).bind fun z_4 => ifD z_4 (some (Out.ret [D.v (Value.int IntKind.i64 (-1))] [])) ((bin BinOp.add false [] z (D.v (Value.int IntKind.i64 1))).bind fun z =>
 (Option.map D.ptr (elemD 3 (sl s 0) (sl s 2))).bind fun z_5 => (offD 2 z_5).bind fun z_6 => ((ldD false 1 z_6).bind chkV).bind fun z_7 => (bin BinOp.neq false [] z_7 z).bind fun z_8 =>
 ifD z_8 (some (Out.ret [D.v (Value.int IntKind.i64 (-1))] [])) ((bin BinOp.add false [] z (D.v (Value.int IntKind.i64 1))).bind fun z => (bin BinOp.add false [] (sl s 2) (D.v (Value.int IntKind.i64 1))).bind
 fun z_9 => some (Out.nrm [sl s 0, z, z_9]))))) (some (Out.ext 0 [sl s 1]))) [x0, x1, D.v (Value.int IntKind.i64 0)]).bind
 fun o => outK o (fun i s => ifN (i.beq 0) (some (Out.ret [sl s 0] [])) none) fun a b => some (Out.ret a b)) := by kernel_rfl
theorem t_laws_FnExactRecovered (x0 : D) : F_laws_FnExactRecovered [x0] =
  ((lenD true x0).bind fun z => (bin BinOp.gtr false [] z (D.v (Value.int IntKind.i64 1048576))).bind fun z => ifD z (some (Out.ret [D.v (Value.bool true)] [])) (callK (F_spec_Recovered [x0]) fun rs _u =>
 (tupAt (D.tup rs) 0).bind fun y => (tupAt (tupCut (D.tup rs) 0) 1).bind fun z => (tupAt (tupCut (D.tup rs) 0) 2).bind fun z_1 => callK (F_impl_Recovered [x0]) fun rs _u => (tupAt (D.tup rs) 0).bind fun y_1 =>
 (tupAt (tupCut (D.tup rs) 0) 1).bind fun z_2 => (tupAt (tupCut (D.tup rs) 0) 2).bind fun z_3 => (liveD y_1 (D.ref 0 0)).bind fun z_4 => (liveD z_4 (D.ref 0 0)).bind fun z_5 => (liveD z_5 y_1).bind fun i =>
 callK (F_laws_eqNoteS [i, y]) fun rs _u => (un UnOp.not (sl rs 0)).bind fun z_6 => (gate (D.tup []) z_6 false (some z_2)).bind fun z_7 => (gate (D.tup []) z_6 false (some z)).bind fun z_8 =>
 (gate (D.tup []) z_6 false (bin BinOp.neq false [] z_7 z_8)).bind fun z_9 => (pickD z_6 (D.v (Value.bool true)) z_9).bind fun z_10 => (gate (D.tup []) z_10 false (some z_3)).bind fun z_11 =>
 (gate (D.tup []) z_10 false (some z_1)).bind fun z_12 => (gate (D.tup []) z_10 false (bin BinOp.neq true [] z_11 z_12)).bind fun z_13 => (pickD z_10 (D.v (Value.bool true)) z_13).bind fun z_14 =>
 ifD z_14 (some (Out.ret [D.v (Value.bool false)] [])) ((liveD z_4 (D.ref 0 0)).bind fun z_15 => (ref0 z_15 y_1).bind fun i => (liveD i i).bind fun i => callK (F_laws_markNoteS [i, D.v (Value.int IntKind.i64 1)])
 fun rs us => (liveD z_4 (D.ref 0 0)).bind fun z_16 => (liveD z_16 (sl us 0)).bind fun i => callK (F_laws_heldNoteS [i, D.v (Value.int IntKind.i64 1)]) fun rs_1 _u => (bin BinOp.lss false [] (sl rs_1 0)
 (D.v (Value.int IntKind.i64 0))).bind fun z_17 => ifD z_17 (some (Out.ret [D.v (Value.bool false)] [])) ((bin BinOp.neq false [] (sl rs_1 0) (sl rs 0)).bind fun z_18 => ifD z_18
 (some (Out.ret [D.v (Value.bool false)] [])) (callK (F_impl_Recovered [x0]) fun rs_2 _u => (tupAt (D.tup rs_2) 0).bind fun y_2 => (tupAt (tupCut (D.tup rs_2) 0) 1).bind fun z_19 => (tupAt (tupCut (D.tup rs_2) 0) 2).bind
 fun z_20 => callK (F_laws_eqNoteS [y_2, y]) fun rs_3 _u => (un UnOp.not (sl rs_3 0)).bind fun z_21 => (gate (D.tup []) z_21 false (some z_19)).bind fun z_22 => (gate (D.tup []) z_21 false (some z)).bind fun z =>
 (gate (D.tup []) z_21 false (bin BinOp.neq false [] z_22 z)).bind fun z => (pickD z_21 (D.v (Value.bool true)) z).bind fun z => (gate (D.tup []) z false (some z_20)).bind fun z_23 => (gate (D.tup []) z false
 (some z_1)).bind fun z_24 => (gate (D.tup []) z false (bin BinOp.neq true [] z_23 z_24)).bind fun z_25 => (pickD z (D.v (Value.bool true)) z_25).bind fun z => ifD z (some (Out.ret [D.v (Value.bool false)] [])) ((liveD z_4
 (D.ref 0 0)).bind fun z => (liveD z (sl us 0)).bind fun i => callK (F_laws_heldNoteS [i, D.v (Value.int IntKind.i64 1)]) fun rs_4 _u => (bin BinOp.lss false [] (sl rs_4 0) (D.v (Value.int IntKind.i64 0))).bind fun z =>
 ifD z (some (Out.ret [D.v (Value.bool false)] [])) ((bin BinOp.neq false [] (sl rs_4 0) (sl rs 0)).bind fun z => ifD z (some (Out.ret [D.v (Value.bool false)] [])) (some (Out.ret [D.v (Value.bool true)] []))))))))) := by kernel_rfl
theorem t_impl_ReadJournal (x0 : D) : F_impl_ReadJournal [x0] =
  (callK (F_impl_readJournal [x0]) fun rs _u => (tupAt (D.tup rs) 0).bind fun y => (tupAt (tupCut (D.tup rs) 0) 1).bind fun z => some (Out.ret [y, z] [])) := by kernel_rfl
theorem t_laws_FnExactReadJournal (x0 : D) : F_laws_FnExactReadJournal [x0] =
  ((lenD true x0).bind fun z => (bin BinOp.gtr false [] z (D.v (Value.int IntKind.i64 1048576))).bind fun z => ifD z (some (Out.ret [D.v (Value.bool true)] [])) (callK (F_spec_ReadJournal [x0]) fun rs _u =>
 (tupAt (D.tup rs) 0).bind fun y => (tupAt (tupCut (D.tup rs) 0) 1).bind fun z => callK (F_impl_ReadJournal [x0]) fun rs _u => (tupAt (D.tup rs) 0).bind fun y_1 => (tupAt (tupCut (D.tup rs) 0) 1).bind fun z_1 =>
 (liveD y_1 (D.ref 0 0)).bind fun z_2 => (liveD z_2 (D.ref 0 0)).bind fun z_3 => (liveD z_3 y_1).bind fun i => callK (F_laws_eqNoteS [i, y]) fun rs _u => (un UnOp.not (sl rs 0)).bind fun z_4 =>
 (gate (D.tup []) z_4 false (some z_1)).bind fun z_5 => (gate (D.tup []) z_4 false (some z)).bind fun z_6 => (gate (D.tup []) z_4 false (bin BinOp.neq true [] z_5 z_6)).bind fun z_7 =>
 (pickD z_4 (D.v (Value.bool true)) z_7).bind fun z_8 => ifD z_8 (some (Out.ret [D.v (Value.bool false)] [])) ((liveD z_2 (D.ref 0 0)).bind fun z_9 => (ref0 z_9 y_1).bind fun i => (liveD i i).bind fun i =>
 callK (F_laws_markNoteS [i, D.v (Value.int IntKind.i64 1)]) fun rs us => (liveD z_2 (D.ref 0 0)).bind fun z_10 => (liveD z_10 (sl us 0)).bind fun i => callK (F_laws_heldNoteS [i, D.v (Value.int IntKind.i64 1)])
 fun rs_1 _u => (bin BinOp.lss false [] (sl rs_1 0) (D.v (Value.int IntKind.i64 0))).bind fun z_11 => ifD z_11 (some (Out.ret [D.v (Value.bool false)] [])) ((bin BinOp.neq false [] (sl rs_1 0) (sl rs 0)).bind fun z_12 =>
 ifD z_12 (some (Out.ret [D.v (Value.bool false)] [])) (callK (F_impl_ReadJournal [x0]) fun rs_2 _u => (tupAt (D.tup rs_2) 0).bind fun y_2 => (tupAt (tupCut (D.tup rs_2) 0) 1).bind fun z_13 =>
 callK (F_laws_eqNoteS [y_2, y]) fun rs_3 _u => (un UnOp.not (sl rs_3 0)).bind fun z_14 => (gate (D.tup []) z_14 false (some z_13)).bind fun z_15 => (gate (D.tup []) z_14 false (some z)).bind fun z =>
 (gate (D.tup []) z_14 false (bin BinOp.neq true [] z_15 z)).bind fun z => (pickD z_14 (D.v (Value.bool true)) z).bind fun z => ifD z (some (Out.ret [D.v (Value.bool false)] [])) ((liveD z_2 (D.ref 0 0)).bind fun z =>
 (liveD z (sl us 0)).bind fun i => callK (F_laws_heldNoteS [i, D.v (Value.int IntKind.i64 1)]) fun rs_4 _u => (bin BinOp.lss false [] (sl rs_4 0) (D.v (Value.int IntKind.i64 0))).bind fun z => ifD z (some (Out.ret
 [D.v (Value.bool false)] [])) ((bin BinOp.neq false [] (sl rs_4 0) (sl rs 0)).bind fun z => ifD z (some (Out.ret [D.v (Value.bool false)] [])) (some (Out.ret [D.v (Value.bool true)] []))))))))) := by kernel_rfl
end Go.Proofs.YtfjkapnonljdeaaDoor
