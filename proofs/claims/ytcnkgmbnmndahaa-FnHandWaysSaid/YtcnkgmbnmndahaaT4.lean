/-
  What the functions compute: their evaluated texts, printed.
-/
import Derived.Test.YtcnkgmbnmndahaaC2
namespace Go.Proofs.Ytcnkgmbnmndahaa
open Go Go.V
theorem t_laws_szBox (x0 x1 : D) : F_laws_szBox [x0, x1] =
  ((boxD 4 x0).bind fun y => (liveD y (D.ref 0 0)).bind fun z => ((atD y z).bind (takeD false 1)).bind fun z => (lenD true z).bind fun z => (bin BinOp.sub false [] x1 z).bind fun z =>
 (bin BinOp.lss false [] z (D.v (Value.int IntKind.i64 0))).bind fun z_1 => ifD z_1 (some (Out.ret [D.v (Value.int IntKind.i64 (-1))] [])) (some (Out.ret [z] []))) := by kernel_rfl
theorem t_laws_szBoxS (x0 x1 : D) : F_laws_szBoxS [x0, x1] =
  ((lenD false x0).bind fun z => (bin BinOp.sub false [] x1 z).bind fun z => (bin BinOp.lss false [] z (D.v (Value.int IntKind.i64 0))).bind fun z_1 => ifD z_1 (some (Out.ret [D.v (Value.int IntKind.i64 (-1))] [])) ((loopC
 (fun s => (lenD false (sl s 0)).bind fun z => (bin BinOp.lss false [] (sl s 2) z).bind fun z => ifD z ((Option.map D.ptr (elemD 4 (sl s 0) (sl s 2))).bind fun z => ((ldD true 4 z).bind chkV).bind fun z =>
 callK (F_laws_szBox [z, sl s 1]) fun rs _u => (bin BinOp.lss false [] (sl rs 0) (D.v (Value.int IntKind.i64 0))).bind fun z => ifD z (some (Out.ret [D.v (Value.int IntKind.i64 (-1))] []))
 ((bin BinOp.add false [] (sl s 2) (D.v (Value.int IntKind.i64 1))).bind fun z => some (Out.nrm [sl s 0, sl rs 0, z]))) (some (Out.ext 0 [sl s 1]))) [x0, z, D.v (Value.int IntKind.i64 0)]).bind
 fun o => outK o (fun i s => ifN (i.beq 0) (some (Out.ret [sl s 0] [])) none) fun a b => some (Out.ret a b))) := by kernel_rfl
theorem t_laws_szStringS (x0 x1 : D) : F_laws_szStringS [x0, x1] =
  ((lenD false x0).bind fun z => (bin BinOp.sub false [] x1 z).bind fun z => (bin BinOp.lss false [] z (D.v (Value.int IntKind.i64 0))).bind fun z_1 => ifD z_1 (some (Out.ret [D.v (Value.int IntKind.i64 (-1))] [])) ((loopC
 (fun s => (lenD false (sl s 0)).bind fun z => (bin BinOp.lss false [] (sl s 2) z).bind fun z => ifD z ((Option.map D.ptr (elemD 1 (sl s 0) (sl s 2))).bind fun z => ((ldD false 1 z).bind chkV).bind fun z =>
 (lenD true z).bind fun z => (bin BinOp.sub false [] (sl s 1) z).bind fun z => (bin BinOp.lss false [] z (D.v (Value.int IntKind.i64 0))).bind fun z_2 => ifD z_2 (some (Out.ret [D.v (Value.int IntKind.i64 (-1))] []))
 ((bin BinOp.add false [] (sl s 2) (D.v (Value.int IntKind.i64 1))).bind fun z_3 => some (Out.nrm [sl s 0, z, z_3]))) (some (Out.ext 0 [sl s 1]))) [x0, z, D.v (Value.int IntKind.i64 0)]).bind
 fun o => outK o (fun i s => ifN (i.beq 0) (some (Out.ret [sl s 0] [])) none) fun a b => some (Out.ret a b))) := by kernel_rfl
theorem t_laws_szForme (x0 x1 : D) : F_laws_szForme [x0, x1] =
  ((boxD 4 x0).bind fun y => (liveD y (D.ref 0 1)).bind fun z => ((atD y z).bind (takeD false 1)).bind fun z => callK (F_laws_szStringS [z, x1]) fun rs _u =>
 (bin BinOp.lss false [] (sl rs 0) (D.v (Value.int IntKind.i64 0))).bind fun z => ifD z (some (Out.ret [D.v (Value.int IntKind.i64 (-1))] [])) (some (Out.ret [sl rs 0] []))) := by kernel_rfl
theorem t_laws_szFormeS (x0 x1 : D) : F_laws_szFormeS [x0, x1] =
  ((lenD false x0).bind fun z => (bin BinOp.sub false [] x1 z).bind fun z => (bin BinOp.lss false [] z (D.v (Value.int IntKind.i64 0))).bind fun z_1 => ifD z_1 (some (Out.ret [D.v (Value.int IntKind.i64 (-1))] [])) ((loopC
 (fun s => (lenD false (sl s 0)).bind fun z => (bin BinOp.lss false [] (sl s 2) z).bind fun z => ifD z ((Option.map D.ptr (elemD 4 (sl s 0) (sl s 2))).bind fun z => (ldD true 4 z).bind fun z =>
 callK (F_laws_szForme [z, sl s 1]) fun rs _u => (bin BinOp.lss false [] (sl rs 0) (D.v (Value.int IntKind.i64 0))).bind fun z => ifD z (some (Out.ret [D.v (Value.int IntKind.i64 (-1))] []))
 ((bin BinOp.add false [] (sl s 2) (D.v (Value.int IntKind.i64 1))).bind fun z => some (Out.nrm [sl s 0, sl rs 0, z]))) (some (Out.ext 0 [sl s 1]))) [x0, z, D.v (Value.int IntKind.i64 0)]).bind
 fun o => outK o (fun i s => ifN (i.beq 0) (some (Out.ret [sl s 0] [])) none) fun a b => some (Out.ret a b))) := by kernel_rfl
theorem t_laws_szShop (x0 x1 : D) : F_laws_szShop [x0, x1] =
  ((boxD 4 x0).bind fun y => (liveD y (D.ref 0 0)).bind fun z => ((atD y z).bind (takeD false 1)).bind fun z => callK (F_laws_szBoxS [z, x1]) fun rs _u =>
 (bin BinOp.lss false [] (sl rs 0) (D.v (Value.int IntKind.i64 0))).bind fun z => ifD z (some (Out.ret [D.v (Value.int IntKind.i64 (-1))] [])) ((liveD y (D.ref 0 1)).bind fun z =>
 ((atD y z).bind (takeD false 1)).bind fun z => callK (F_laws_szFormeS [z, sl rs 0]) fun rs _u => (bin BinOp.lss false [] (sl rs 0) (D.v (Value.int IntKind.i64 0))).bind fun z =>
 ifD z (some (Out.ret [D.v (Value.int IntKind.i64 (-1))] [])) (some (Out.ret [sl rs 0] [])))) := by kernel_rfl
theorem t_laws_toBox (x0 : D) : F_laws_toBox [x0] =
  ((boxD 4 x0).bind fun y => (liveD y (D.ref 0 0)).bind fun z => ((atD y z).bind (takeD false 1)).bind fun z => (liveD (D.agg [D.v (Value.string { data := { toList := [] } }), D.v (Value.int IntKind.i64 0),
 D.v (Value.int IntKind.i64 0), D.v (Value.int IntKind.i64 0)]) (D.ref 0 0)).bind fun z_1 => (stD 1 (D.agg [D.v (Value.string { data := { toList := [] } }), D.v (Value.int IntKind.i64 0),
 D.v (Value.int IntKind.i64 0), D.v (Value.int IntKind.i64 0)]) z_1 z).bind fun b => (liveD y (D.ref 0 1)).bind fun z => ((atD y z).bind (takeD false 1)).bind fun z => (liveD b (D.ref 0 1)).bind fun z_2 =>
 (stD 1 b z_2 z).bind fun b => (liveD y (D.ref 0 2)).bind fun z => ((atD y z).bind (takeD false 1)).bind fun z => (liveD b (D.ref 0 2)).bind fun z_3 => (stD 1 b z_3 z).bind fun b => (liveD y (D.ref 0 3)).bind fun z =>
 ((atD y z).bind (takeD false 1)).bind fun z => (liveD b (D.ref 0 3)).bind fun z_4 => (stD 1 b z_4 z).bind fun b => (fldD true 4 0 b).bind fun z => (stD 4 (D.agg [D.v (Value.string { data := { toList := [] } }),
 D.v (Value.int IntKind.i64 0), D.v (Value.int IntKind.i64 0), D.v (Value.int IntKind.i64 0)]) (D.ref 0 0) z).bind fun b => (fldD true 4 0 b).bind fun y => some (Out.ret [y] [])) := by kernel_rfl
theorem t_laws_toBoxS (x0 : D) : F_laws_toBoxS [x0] =
  ((lenD false x0).bind fun z => (makD 4 40 (D.agg [D.v (Value.string { data := { toList := [] } }), D.v (Value.int IntKind.i64 0), D.v (Value.int IntKind.i64 0), D.v (Value.int IntKind.i64 0)]) z z).bind fun y => (loopC
 (fun s => (lenD false (sl s 0)).bind fun z => (bin BinOp.lss false [] (sl s 2) z).bind fun z => ifD z ((liveD (sl s 1) (D.ref 0 0)).bind fun z => (Option.map D.ptr (elemD 4 (sl s 0) (sl s 2))).bind fun z_1 =>
 ((ldD true 4 z_1).bind chkV).bind fun z_2 => callK (F_laws_toBox [z_2]) fun rs _u => ((liveD z (sl s 1)).bind fun b => refI 4 b (sl s 2)).bind fun z => (stD 4 (sl s 1) z (sl rs 0)).bind fun b =>
 (bin BinOp.add false [] (sl s 2) (D.v (Value.int IntKind.i64 1))).bind fun z => some (Out.nrm [sl s 0, b, z])) (some (Out.ext 0 [sl s 1]))) [x0, y, D.v (Value.int IntKind.i64 0)]).bind
 fun o => outK o (fun i s => ifN (i.beq 0) (some (Out.ret [sl s 0] [])) none) fun a b => some (Out.ret a b)) := by kernel_rfl
theorem t_laws_toStringS (x0 : D) : F_laws_toStringS [x0] =
  ((lenD false x0).bind fun z => (makD 1 16 (D.v (Value.string { data := { toList := [] } })) z z).bind fun y => (loopC (fun s => (lenD false (sl s 0)).bind fun z => (bin BinOp.lss false [] (sl s 2) z).bind fun z => ifD z
 ((liveD (sl s 1) (D.ref 0 0)).bind fun z => (Option.map D.ptr (elemD 1 (sl s 0) (sl s 2))).bind fun z_1 => ((ldD false 1 z_1).bind chkV).bind fun z_2 => ((liveD z (sl s 1)).bind fun b => refI 1 b (sl s 2)).bind fun z =>
 (stD 1 (sl s 1) z z_2).bind fun b => (bin BinOp.add false [] (sl s 2) (D.v (Value.int IntKind.i64 1))).bind fun z => some (Out.nrm [sl s 0, b, z])) (some (Out.ext 0 [sl s 1]))) [x0, y, D.v (Value.int IntKind.i64 0)]).bind
 fun o => outK o (fun i s => ifN (i.beq 0) (some (Out.ret [sl s 0] [])) none) fun a b => some (Out.ret a b)) := by kernel_rfl
theorem t_laws_toForme (x0 : D) : F_laws_toForme [x0] =
  ((boxD 4 x0).bind fun y => (liveD y (D.ref 0 0)).bind fun z => (((atD y z).bind (takeD false 1)).bind chkV).bind fun z => (liveD
 (D.agg [D.v (Value.int IntKind.i64 0), D.arr 1 [], D.v (Value.bool false), D.v (Value.int IntKind.i64 0)]) (D.ref 0 0)).bind fun z_1 => (stD 1 (D.agg
 [D.v (Value.int IntKind.i64 0), D.arr 1 [], D.v (Value.bool false), D.v (Value.int IntKind.i64 0)]) z_1 z).bind fun b => (liveD y (D.ref 0 1)).bind fun z => ((atD y z).bind (takeD false 1)).bind fun z =>
 callK (F_laws_toStringS [z]) fun rs _u => (liveD b (D.ref 0 1)).bind fun z => (stD 1 b z (sl rs 0)).bind fun b => (liveD y (D.ref 0 2)).bind fun z => (((atD y z).bind (takeD false 1)).bind chkV).bind fun z =>
 (liveD b (D.ref 0 2)).bind fun z_2 => (stD 1 b z_2 z).bind fun b => (liveD y (D.ref 0 3)).bind fun z => (((atD y z).bind (takeD false 1)).bind chkV).bind fun z => (liveD b (D.ref 0 3)).bind fun z_3 =>
 (stD 1 b z_3 z).bind fun b => (fldD true 4 0 b).bind fun z => (stD 4 (D.agg [D.v (Value.int IntKind.i64 0), D.arr 1 [], D.v (Value.bool false), D.v (Value.int IntKind.i64 0)]) (D.ref 0 0) z).bind
 fun b => (fldD true 4 0 b).bind fun y => some (Out.ret [y] [])) := by kernel_rfl
theorem t_laws_toFormeS (x0 : D) : F_laws_toFormeS [x0] =
  ((lenD false x0).bind fun z => (makD 4 48 (D.agg [D.v (Value.int IntKind.i64 0), D.arr 1 [], D.v (Value.bool false), D.v (Value.int IntKind.i64 0)]) z z).bind fun y => (loopC (fun s => (lenD false (sl s 0)).bind fun z =>
 (bin BinOp.lss false [] (sl s 2) z).bind fun z => ifD z ((liveD (sl s 1) (D.ref 0 0)).bind fun z => (Option.map D.ptr (elemD 4 (sl s 0) (sl s 2))).bind fun z_1 => (ldD true 4 z_1).bind fun z_2 =>
 callK (F_laws_toForme [z_2]) fun rs _u => ((liveD z (sl s 1)).bind fun b => refI 4 b (sl s 2)).bind fun z => (stD 4 (sl s 1) z (sl rs 0)).bind fun b =>
 (bin BinOp.add false [] (sl s 2) (D.v (Value.int IntKind.i64 1))).bind fun z => some (Out.nrm [sl s 0, b, z])) (some (Out.ext 0 [sl s 1]))) [x0, y, D.v (Value.int IntKind.i64 0)]).bind
 fun o => outK o (fun i s => ifN (i.beq 0) (some (Out.ret [sl s 0] [])) none) fun a b => some (Out.ret a b)) := by kernel_rfl
theorem t_laws_toShop (x0 : D) : F_laws_toShop [x0] =
  ((boxD 4 x0).bind fun y => (liveD y (D.ref 0 0)).bind fun z => ((atD y z).bind (takeD false 1)).bind fun z => callK (F_laws_toBoxS [z]) fun rs _u =>
 (liveD (D.agg [D.arr 4 [], D.arr 4 [], D.v (Value.int IntKind.i64 0), D.v (Value.int IntKind.i64 0)]) (D.ref 0 0)).bind fun z =>
 (stD 1 (D.agg [D.arr 4 [], D.arr 4 [], D.v (Value.int IntKind.i64 0), D.v (Value.int IntKind.i64 0)]) z (sl rs 0)).bind fun b => (liveD y (D.ref 0 1)).bind fun z => ((atD y z).bind (takeD false 1)).bind fun z =>
 callK (F_laws_toFormeS [z]) fun rs _u => (liveD b (D.ref 0 1)).bind fun z => (stD 1 b z (sl rs 0)).bind fun b => (liveD y (D.ref 0 2)).bind fun z => (((atD y z).bind (takeD false 1)).bind chkV).bind fun z =>
 (liveD b (D.ref 0 2)).bind fun z_1 => (stD 1 b z_1 z).bind fun b => (liveD y (D.ref 0 3)).bind fun z => (((atD y z).bind (takeD false 1)).bind chkV).bind fun z => (liveD b (D.ref 0 3)).bind fun z_2 =>
 (stD 1 b z_2 z).bind fun b => (fldD true 4 0 b).bind fun z => (stD 4 (D.agg [D.arr 4 [], D.arr 4 [], D.v (Value.int IntKind.i64 0), D.v (Value.int IntKind.i64 0)]) (D.ref 0 0) z).bind
 fun b => (fldD true 4 0 b).bind fun y => some (Out.ret [y] [])) := by kernel_rfl
theorem t_spec_caFind (x0 x1 : D) : F_spec_caFind [x0, x1] =
  ((lenD false x0).bind fun z => (loopC (fun s => (bin BinOp.lss false [] (sl s 3) (sl s 2)).bind fun z => ifD z ((Option.map D.ptr (elemD 4 (sl s 1) (sl s 3))).bind fun z => ((ldD true 4 z).bind chkV).bind fun z => (stD 4
 (D.agg [D.v (Value.string { data := { toList := [] } }), D.v (Value.int IntKind.i64 0), D.v (Value.int IntKind.i64 0), D.v (Value.int IntKind.i64 0)]) (D.ref 0 0) z).bind fun b => (liveD b (D.ref 0 0)).bind fun z =>
 ((atD b z).bind (takeD false 1)).bind fun z => (bin BinOp.eql false [] z (sl s 0)).bind fun z => ifD z (some (Out.ret [sl s 3] [])) ((bin BinOp.add false [] (sl s 3) (D.v (Value.int IntKind.i64 1))).bind fun z =>
 some (Out.nrm [sl s 0, sl s 1, sl s 2, z]))) (some (Out.ext 0 []))) [x1, x0, z, D.v (Value.int IntKind.i64 0)]).bind fun o =>
 outK o (fun i _u => ifN (i.beq 0) (some (Out.ret [D.v (Value.int IntKind.i64 (-1))] [])) none) fun a b => some (Out.ret a b)) := by kernel_rfl
theorem t_spec_shForme (x0 x1 : D) : F_spec_shForme [x0, x1] =
  ((boxD 4 x1).bind fun y => (liveD y (D.ref 0 0)).bind fun z => (((atD y z).bind (takeD false 1)).bind chkV).bind fun z => callK (F_spec_l1In [z, D.v (Value.int IntKind.i64 1), D.v (Value.int IntKind.i64 99)]) fun rs _u =>
 (un UnOp.not (sl rs 0)).bind fun z => (gate D.bad z false (liveD y (D.ref 0 1))).bind fun z_1 => (gate (D.tup []) z false ((atD y z_1).bind (takeD false 1))).bind fun z_2 =>
 (gate (D.tup []) z false (lenD false z_2)).bind fun z_3 => (gate (D.tup []) z false (bin BinOp.gtr false [] z_3 (D.v (Value.int IntKind.i64 40)))).bind fun z_4 => (pickD z (D.v (Value.bool true)) z_4).bind fun z =>
 (gate D.bad z false (liveD y (D.ref 0 3))).bind fun z_5 => (gate (D.tup []) z false (((atD y z_5).bind (takeD false 1)).bind chkV)).bind fun z_6 => gateC z false (callK
 (F_spec_l1In [z_6, D.v (Value.int IntKind.i64 0), D.v (Value.int IntKind.i64 100000)]) fun rs _u => some (Out.nrm [sl rs 0])) [D.tup []] fun outs => (gate (D.tup []) z false (un UnOp.not (sl outs 0))).bind fun z_7 =>
 (pickD z (D.v (Value.bool true)) z_7).bind fun z => (gate D.bad z false (liveD y (D.ref 0 2))).bind fun z_8 => (gate (D.tup []) z false (((atD y z_8).bind (takeD false 1)).bind chkV)).bind fun z_9 =>
 (gate (D.tup []) z false (some z_9)).bind fun z_10 => (gate D.bad z_10 true (liveD y (D.ref 0 1))).bind fun z_11 => (gate (D.tup []) z_10 true ((atD y z_11).bind (takeD false 1))).bind fun z_12 =>
 (gate (D.tup []) z_10 true (lenD false z_12)).bind fun z_13 => (gate (D.tup []) z_10 true (bin BinOp.eql false [] z_13 (D.v (Value.int IntKind.i64 0)))).bind fun z_14 =>
 (gate (D.tup []) z false (pickD z_10 z_14 (D.v (Value.bool false)))).bind fun z_15 => (pickD z (D.v (Value.bool true)) z_15).bind fun z => ifD z (some (Out.ret [D.v (Value.bool false)] []))
 ((liveD y (D.ref 0 1)).bind fun z => ((atD y z).bind (takeD false 1)).bind fun z => (lenD false z).bind fun z_16 => (loopC (fun s => (bin BinOp.lss false [] (sl s 3) (sl s 2)).bind fun z => ifD z ((Option.map D.ptr
 (elemD 1 (sl s 1) (sl s 3))).bind fun z => ((ldD false 1 z).bind chkV).bind fun z => callK (F_spec_caFind [sl s 0, z]) fun rs _u => (bin BinOp.lss false [] (sl rs 0) (D.v (Value.int IntKind.i64 0))).bind fun z => ifD z
 (some (Out.ret [D.v (Value.bool false)] [])) ((bin BinOp.add false [] (sl s 3) (D.v (Value.int IntKind.i64 1))).bind fun z => some (Out.nrm [sl s 0, sl s 1, sl s 2, z]))) (some (Out.ext 0 [])))
 [x0, z, z_16, D.v (Value.int IntKind.i64 0)]).bind fun o => outK o (fun i _u => ifN (i.beq 0) (some (Out.ret [D.v (Value.bool true)] [])) none) fun a b => some (Out.ret a b))) := by kernel_rfl
theorem t_spec_tyLetters (x0 x1 : D) : F_spec_tyLetters [x0, x1] =
  ((loopC (fun s => (lenD true (sl s 0)).bind fun z => (bin BinOp.lss false [] (sl s 2) z).bind fun z => ifD z ((charD (sl s 0) (sl s 2)).bind fun z => (bin BinOp.lss false [] z (D.v (Value.int IntKind.u8 97))).bind fun z =>
 (gate (D.tup []) z false (some (sl s 0))).bind fun z_1 => (gate (D.tup []) z false (some (sl s 2))).bind fun z_2 => (gate (D.tup []) z false (charD z_1 z_2)).bind fun z_3 =>
 (gate (D.tup []) z false (bin BinOp.gtr false [] z_3 (D.v (Value.int IntKind.u8 122)))).bind fun z_4 => (pickD z (D.v (Value.bool true)) z_4).bind fun z => ifD z (some (Out.ret [D.v (Value.bool false)] []))
 ((bin BinOp.add false [] (sl s 2) (D.v (Value.int IntKind.i64 1))).bind fun z => some (Out.nrm [sl s 0, sl s 1, z]))) (some (Out.ext 0 [sl s 0, sl s 1]))) [x0, x1, D.v (Value.int IntKind.i64 0)]).bind fun o => outK o
 (fun i s => ifN (i.beq 0) ((lenD true (sl s 0)).bind fun z => callK (F_spec_l1In [z, D.v (Value.int IntKind.i64 1), sl s 1]) fun rs _u => some (Out.ret [sl rs 0] [])) none) fun a b => some (Out.ret a b)) := by kernel_rfl
theorem t_spec_caBox (x0 : D) : F_spec_caBox [x0] =
  ((boxD 4 x0).bind fun y => (liveD y (D.ref 0 0)).bind fun z => ((atD y z).bind (takeD false 1)).bind fun z => callK (F_spec_tyLetters [z, D.v (Value.int IntKind.i64 3)]) fun rs _u =>
 (gate D.bad (sl rs 0) true (liveD y (D.ref 0 1))).bind fun z => (gate (D.tup []) (sl rs 0) true ((atD y z).bind (takeD false 1))).bind fun z => gateC (sl rs 0) true
 (callK (F_spec_l1In [z, D.v (Value.int IntKind.i64 0), D.v (Value.int IntKind.i64 9)]) fun rs _u => some (Out.nrm [sl rs 0])) [D.tup []] fun outs => (pickD (sl rs 0) (sl outs 0) (D.v (Value.bool false))).bind fun z =>
 (gate D.bad z true (liveD y (D.ref 0 2))).bind fun z_1 => (gate (D.tup []) z true ((atD y z_1).bind (takeD false 1))).bind fun z_2 => gateC z true
 (callK (F_spec_l1In [z_2, D.v (Value.int IntKind.i64 0), D.v (Value.int IntKind.i64 9)]) fun rs _u => some (Out.nrm [sl rs 0])) [D.tup []] fun outs => (pickD z (sl outs 0) (D.v (Value.bool false))).bind fun z =>
 (gate D.bad z true (liveD y (D.ref 0 3))).bind fun z_3 => (gate (D.tup []) z true ((atD y z_3).bind (takeD false 1))).bind fun z_4 => gateC z true (callK
 (F_spec_l1In [z_4, D.v (Value.int IntKind.i64 0), D.v (Value.int IntKind.i64 9999)]) fun rs _u => some (Out.nrm [sl rs 0])) [D.tup []] fun outs =>
 (pickD z (sl outs 0) (D.v (Value.bool false))).bind fun z => some (Out.ret [z] [])) := by kernel_rfl
theorem t_spec_caGood (x0 : D) : F_spec_caGood [x0] =
  ((lenD false x0).bind fun z => (loopC (fun s => (bin BinOp.lss false [] (sl s 3) (sl s 2)).bind fun z => ifD z ((Option.map D.ptr (elemD 4 (sl s 1) (sl s 3))).bind fun z => ((ldD true 4 z).bind chkV).bind fun z => (stD 4
 (D.agg [D.v (Value.string { data := { toList := [] } }), D.v (Value.int IntKind.i64 0), D.v (Value.int IntKind.i64 0), D.v (Value.int IntKind.i64 0)]) (D.ref 0 0) z).bind fun b => (fldD true 4 0 b).bind fun z =>
 callK (F_spec_caBox [z]) fun rs _u => (un UnOp.not (sl rs 0)).bind fun z => (gate (D.tup []) z false (some (sl s 3))).bind fun z_1 => (gate (D.tup []) z false
 (bin BinOp.gtr false [] z_1 (D.v (Value.int IntKind.i64 0)))).bind fun z_2 => (gate (D.tup []) z false (some z_2)).bind fun z_3 => (gate (D.tup []) z_3 true (some (sl s 0))).bind fun z_4 =>
 (gate (D.tup []) z_3 true (some (sl s 3))).bind fun z_5 => (gate (D.tup []) z_3 true (bin BinOp.sub false [] z_5 (D.v (Value.int IntKind.i64 1)))).bind fun z_6 =>
 (gate (D.tup []) z_3 true (Option.map D.ptr (elemD 4 z_4 z_6))).bind fun z_7 => (gate (D.tup []) z_3 true (offD 0 z_7)).bind fun z_8 => (gate (D.tup []) z_3 true ((ldD false 1 z_8).bind chkV)).bind fun z_9 =>
 (gate D.bad z_3 true (liveD b (D.ref 0 0))).bind fun z_10 => (gate (D.tup []) z_3 true ((atD b z_10).bind (takeD false 1))).bind fun z_11 => (gate (D.tup []) z_3 true (bin BinOp.geq false [] z_9 z_11)).bind fun z_12 =>
 (gate (D.tup []) z false (pickD z_3 z_12 (D.v (Value.bool false)))).bind fun z_13 => (pickD z (D.v (Value.bool true)) z_13).bind fun z => ifD z (some (Out.ret [D.v (Value.bool false)] []))
 ((sliceD false 4 (sl s 0) (D.v (Value.int IntKind.i64 0)) (sl s 3)).bind fun z => (lenD false z).bind fun z_14 => (loopC (fun s => (bin BinOp.lss false [] (sl s 7) (sl s 6)).bind fun z => ifD z ((Option.map D.ptr
 (elemD 4 (sl s 5) (sl s 7))).bind fun z => ((ldD true 4 z).bind chkV).bind fun z => (stD 4 (D.agg [D.v (Value.string { data := { toList := [] } }), D.v (Value.int IntKind.i64 0), D.v (Value.int IntKind.i64 0),
 D.v (Value.int IntKind.i64 0)]) (D.ref 0 0) z).bind fun b => (liveD b (D.ref 0 1)).bind fun z => ((atD b z).bind (takeD false 1)).bind fun z => (liveD (sl s 1) (D.ref 0 1)).bind fun z_15 => ((atD (sl s 1) z_15).bind
 (takeD false 1)).bind fun z_16 => (bin BinOp.eql false [] z z_16).bind fun z => (gate D.bad z true (liveD b (D.ref 0 2))).bind fun z_17 => (gate (D.tup []) z true ((atD b z_17).bind (takeD false 1))).bind fun z_18 =>
 (gate D.bad z true (liveD (sl s 1) (D.ref 0 2))).bind fun z_19 => (gate (D.tup []) z true ((atD (sl s 1) z_19).bind (takeD false 1))).bind fun z_20 => (gate (D.tup []) z true (bin BinOp.eql false [] z_18 z_20)).bind
 fun z_21 => (pickD z z_21 (D.v (Value.bool false))).bind fun z => ifD z (some (Out.ret [D.v (Value.bool false)] [])) ((bin BinOp.add false [] (sl s 7) (D.v (Value.int IntKind.i64 1))).bind fun z => some (Out.nrm [sl s 0,
 sl s 1, sl s 2, sl s 3, sl s 4, sl s 5, sl s 6, z]))) (some (Out.ext 2 [sl s 0, sl s 2, sl s 3, sl s 4]))) [sl s 0, b, sl s 1, sl s 2, sl s 3, z, z_14, D.v (Value.int IntKind.i64 0)]).bind fun o => outK o (fun i s =>
 ifN (i.beq 2) ((bin BinOp.add false [] (sl s 3) (D.v (Value.int IntKind.i64 1))).bind fun z => some (Out.nrm [sl s 0, sl s 1, sl s 2, z])) (ifN (i.beq 1) ((bin BinOp.add false [] (sl s 3)
 (D.v (Value.int IntKind.i64 1))).bind fun z => some (Out.nrm [sl s 0, sl s 1, sl s 2, z])) (some (Out.ext i [sl s 0])))) fun a b => some (Out.ret a b))) (some (Out.ext 0 [sl s 0])))
 [x0, x0, z, D.v (Value.int IntKind.i64 0)]).bind fun o => outK o (fun i s => ifN (i.beq 0) ((lenD false (sl s 0)).bind fun z =>
 callK (F_spec_l1In [z, D.v (Value.int IntKind.i64 1), D.v (Value.int IntKind.i64 32)]) fun rs _u => some (Out.ret [sl rs 0] [])) none) fun a b => some (Out.ret a b)) := by kernel_rfl
theorem t_spec_shGood (x0 : D) : F_spec_shGood [x0] =
  ((boxD 4 x0).bind fun y => (liveD y (D.ref 0 1)).bind fun z => ((atD y z).bind (takeD false 1)).bind fun z => (lenD false z).bind fun z_1 => (loopC (fun s => (bin BinOp.lss false [] (sl s 4) (sl s 3)).bind fun z => ifD z
 ((Option.map D.ptr (elemD 4 (sl s 2) (sl s 4))).bind fun z => (ldD true 4 z).bind fun z => (stD 4 (D.agg [D.v (Value.int IntKind.i64 0), D.arr 1 [], D.v (Value.bool false), D.v (Value.int IntKind.i64 0)])
 (D.ref 0 0) z).bind fun b => (liveD (sl s 0) (D.ref 0 0)).bind fun z => ((atD (sl s 0) z).bind (takeD false 1)).bind fun z => (fldD true 4 0 b).bind fun z_2 => callK (F_spec_shForme [z, z_2]) fun rs _u =>
 (un UnOp.not (sl rs 0)).bind fun z => (gate (D.tup []) z false (some (sl s 4))).bind fun z_3 => (gate (D.tup []) z false (bin BinOp.gtr false [] z_3 (D.v (Value.int IntKind.i64 0)))).bind fun z_4 =>
 (gate (D.tup []) z false (some z_4)).bind fun z_5 => (gate D.bad z_5 true (liveD (sl s 0) (D.ref 0 1))).bind fun z_6 => (gate (D.tup []) z_5 true ((atD (sl s 0) z_6).bind (takeD false 1))).bind fun z_7 =>
 (gate (D.tup []) z_5 true (some (sl s 4))).bind fun z_8 => (gate (D.tup []) z_5 true (bin BinOp.sub false [] z_8 (D.v (Value.int IntKind.i64 1)))).bind fun z_9 =>
 (gate (D.tup []) z_5 true (Option.map D.ptr (elemD 4 z_7 z_9))).bind fun z_10 => (gate (D.tup []) z_5 true (offD 0 z_10)).bind fun z_11 => (gate (D.tup []) z_5 true ((ldD false 1 z_11).bind chkV)).bind fun z_12 =>
 (gate D.bad z_5 true (liveD b (D.ref 0 0))).bind fun z_13 => (gate (D.tup []) z_5 true (((atD b z_13).bind (takeD false 1)).bind chkV)).bind fun z_14 => (gate (D.tup []) z_5 true (bin BinOp.geq false [] z_12 z_14)).bind
 fun z_15 => (gate (D.tup []) z false (pickD z_5 z_15 (D.v (Value.bool false)))).bind fun z_16 => (pickD z (D.v (Value.bool true)) z_16).bind fun z => ifD z (some (Out.ret [D.v (Value.bool false)] []))
 ((liveD b (D.ref 0 3)).bind fun z => (((atD b z).bind (takeD false 1)).bind chkV).bind fun z => (bin BinOp.add false [] (sl s 1) z).bind fun z => (bin BinOp.add false [] (sl s 4) (D.v (Value.int IntKind.i64 1))).bind
 fun z_17 => some (Out.nrm [sl s 0, z, sl s 2, sl s 3, z_17]))) (some (Out.ext 0 [sl s 0, sl s 1]))) [y, D.v (Value.int IntKind.i64 0), z, z_1, D.v (Value.int IntKind.i64 0)]).bind fun o => outK o (fun i s => ifN (i.beq 0)
 ((liveD (sl s 0) (D.ref 0 0)).bind fun z => ((atD (sl s 0) z).bind (takeD false 1)).bind fun z => callK (F_spec_caGood [z]) fun rs _u => (gate D.bad (sl rs 0) true (liveD (sl s 0) (D.ref 0 1))).bind fun z =>
 (gate (D.tup []) (sl rs 0) true ((atD (sl s 0) z).bind (takeD false 1))).bind fun z => (gate (D.tup []) (sl rs 0) true (lenD false z)).bind fun z => (gate (D.tup []) (sl rs 0) true
 (bin BinOp.leq false [] z (D.v (Value.int IntKind.i64 5)))).bind fun z => (pickD (sl rs 0) z (D.v (Value.bool false))).bind fun z => (gate D.bad z true (liveD (sl s 0) (D.ref 0 2))).bind fun z_2 =>
 (gate (D.tup []) z true (((atD (sl s 0) z_2).bind (takeD false 1)).bind chkV)).bind fun z_3 => gateC z true (callK (F_spec_l1In [z_3, D.v (Value.int IntKind.i64 0), D.v (Value.int IntKind.i64 9999)])
 fun rs _u => some (Out.nrm [sl rs 0])) [D.tup []] fun outs => (pickD z (sl outs 0) (D.v (Value.bool false))).bind fun z => (gate D.bad z true (liveD (sl s 0) (D.ref 0 3))).bind fun z_4 => (gate (D.tup []) z true
 (((atD (sl s 0) z_4).bind (takeD false 1)).bind chkV)).bind fun z_5 => (gate (D.tup []) z true (some (sl s 1))).bind fun z_6 => gateC z true (callK (F_spec_l1In [z_5, z_6, D.v (Value.int IntKind.i64 1000000)])
 fun rs _u => some (Out.nrm [sl rs 0])) [D.tup []] fun outs => (pickD z (sl outs 0) (D.v (Value.bool false))).bind fun z => some (Out.ret [z] [])) none) fun a b => some (Out.ret a b)) := by kernel_rfl
theorem t_spec_IsShop (x0 : D) : F_spec_IsShop [x0] =
  ((boxD 4 x0).bind fun y => (fldD true 4 0 y).bind fun z => callK (F_spec_shGood [z]) fun rs _u => some (Out.ret [sl rs 0] [])) := by kernel_rfl
theorem t_impl_isFormeId (x0 : D) : F_impl_isFormeId [x0] =
  (callK (F_impl_within [x0, D.v (Value.int IntKind.i64 1), D.v (Value.int IntKind.i64 99)]) fun rs _u => some (Out.ret [sl rs 0] [])) := by kernel_rfl
theorem t_impl_boxAt (x0 x1 : D) : F_impl_boxAt [x0, x1] =
  ((lenD false x0).bind fun z => (loopC (fun s => (bin BinOp.lss false [] (sl s 3) (sl s 2)).bind fun z => ifD z ((Option.map D.ptr (elemD 4 (sl s 1) (sl s 3))).bind fun z => ((ldD true 4 z).bind chkV).bind fun z => (stD 4
 (D.agg [D.v (Value.string { data := { toList := [] } }), D.v (Value.int IntKind.i64 0), D.v (Value.int IntKind.i64 0), D.v (Value.int IntKind.i64 0)]) (D.ref 0 0) z).bind fun b => (liveD b (D.ref 0 0)).bind fun z =>
 ((atD b z).bind (takeD false 1)).bind fun z => (bin BinOp.eql false [] z (sl s 0)).bind fun z => ifD z (some (Out.ret [sl s 3] [])) ((bin BinOp.add false [] (sl s 3) (D.v (Value.int IntKind.i64 1))).bind fun z =>
 some (Out.nrm [sl s 0, sl s 1, sl s 2, z]))) (some (Out.ext 0 []))) [x1, x0, z, D.v (Value.int IntKind.i64 0)]).bind fun o =>
 outK o (fun i _u => ifN (i.beq 0) (some (Out.ret [D.v (Value.int IntKind.i64 (-1))] [])) none) fun a b => some (Out.ret a b)) := by kernel_rfl
theorem t_impl_areLetters (x0 x1 x2 : D) : F_impl_areLetters [x0, x1, x2] =
  ((loopC (fun s => (lenD true (sl s 0)).bind fun z => (bin BinOp.lss false [] (sl s 3) z).bind fun z => ifD z ((charD (sl s 0) (sl s 3)).bind fun z => (bin BinOp.lss false [] z (D.v (Value.int IntKind.u8 97))).bind fun z =>
 (gate (D.tup []) z false (some (sl s 0))).bind fun z_1 => (gate (D.tup []) z false (some (sl s 3))).bind fun z_2 => (gate (D.tup []) z false (charD z_1 z_2)).bind fun z_3 =>
 (gate (D.tup []) z false (bin BinOp.gtr false [] z_3 (D.v (Value.int IntKind.u8 122)))).bind fun z_4 => (pickD z (D.v (Value.bool true)) z_4).bind fun z => ifD z (some (Out.ret [D.v (Value.bool false)] []))
 ((bin BinOp.add false [] (sl s 3) (D.v (Value.int IntKind.i64 1))).bind fun z => some (Out.nrm [sl s 0, sl s 1, sl s 2, z]))) (some (Out.ext 0 [sl s 0, sl s 1, sl s 2]))) [x0, x1, x2, D.v (Value.int IntKind.i64 0)]).bind
 fun o => outK o (fun i s => ifN (i.beq 0) ((lenD true (sl s 0)).bind fun z => callK (F_impl_within [z, sl s 1, sl s 2]) fun rs _u => some (Out.ret [sl rs 0] [])) none) fun a b => some (Out.ret a b)) := by kernel_rfl
theorem t_impl_isCode (x0 : D) : F_impl_isCode [x0] =
  (callK (F_impl_areLetters [x0, D.v (Value.int IntKind.i64 1), D.v (Value.int IntKind.i64 3)]) fun rs _u => some (Out.ret [sl rs 0] [])) := by kernel_rfl
theorem t_impl_isPlace (x0 : D) : F_impl_isPlace [x0] =
  (callK (F_impl_within [x0, D.v (Value.int IntKind.i64 0), D.v (Value.int IntKind.i64 9)]) fun rs _u => some (Out.ret [sl rs 0] [])) := by kernel_rfl
theorem t_impl_IsBox (x0 : D) : F_impl_IsBox [x0] =
  ((boxD 4 x0).bind fun y => (liveD y (D.ref 0 0)).bind fun z => ((atD y z).bind (takeD false 1)).bind fun z => callK (F_impl_isCode [z]) fun rs _u => (gate D.bad (sl rs 0) true (liveD y (D.ref 0 1))).bind fun z =>
 (gate (D.tup []) (sl rs 0) true ((atD y z).bind (takeD false 1))).bind fun z => gateC (sl rs 0) true (callK (F_impl_isPlace [z]) fun rs _u => some (Out.nrm [sl rs 0])) [D.tup []] fun outs =>
 (pickD (sl rs 0) (sl outs 0) (D.v (Value.bool false))).bind fun z => (gate D.bad z true (liveD y (D.ref 0 2))).bind fun z_1 => (gate (D.tup []) z true ((atD y z_1).bind (takeD false 1))).bind fun z_2 =>
 gateC z true (callK (F_impl_isPlace [z_2]) fun rs _u => some (Out.nrm [sl rs 0])) [D.tup []] fun outs => (pickD z (sl outs 0) (D.v (Value.bool false))).bind fun z =>
 (gate D.bad z true (liveD y (D.ref 0 3))).bind fun z_3 => (gate (D.tup []) z true ((atD y z_3).bind (takeD false 1))).bind fun z_4 => gateC z true (callK
 (F_impl_within [z_4, D.v (Value.int IntKind.i64 0), D.v (Value.int IntKind.i64 9999)]) fun rs _u => some (Out.nrm [sl rs 0])) [D.tup []] fun outs =>
 (pickD z (sl outs 0) (D.v (Value.bool false))).bind fun z => some (Out.ret [z] [])) := by kernel_rfl
theorem t_impl_isTaken (x0 x1 x2 : D) : F_impl_isTaken [x0, x1, x2] =
  ((lenD false x0).bind fun z => (loopC (fun s => (bin BinOp.lss false [] (sl s 4) (sl s 3)).bind fun z => ifD z ((Option.map D.ptr (elemD 4 (sl s 2) (sl s 4))).bind fun z => ((ldD true 4 z).bind chkV).bind fun z => (stD 4
 (D.agg [D.v (Value.string { data := { toList := [] } }), D.v (Value.int IntKind.i64 0), D.v (Value.int IntKind.i64 0), D.v (Value.int IntKind.i64 0)]) (D.ref 0 0) z).bind fun b => (liveD b (D.ref 0 1)).bind fun z =>
 ((atD b z).bind (takeD false 1)).bind fun z => (bin BinOp.eql false [] z (sl s 0)).bind fun z => (gate D.bad z true (liveD b (D.ref 0 2))).bind fun z_1 =>
 (gate (D.tup []) z true ((atD b z_1).bind (takeD false 1))).bind fun z_2 => (gate (D.tup []) z true (some (sl s 1))).bind fun z_3 => (gate (D.tup []) z true (bin BinOp.eql false [] z_2 z_3)).bind fun z_4 =>
 (pickD z z_4 (D.v (Value.bool false))).bind fun z => ifD z (some (Out.ret [D.v (Value.bool true)] [])) ((bin BinOp.add false [] (sl s 4) (D.v (Value.int IntKind.i64 1))).bind fun z =>
 some (Out.nrm [sl s 0, sl s 1, sl s 2, sl s 3, z]))) (some (Out.ext 0 []))) [x1, x2, x0, z, D.v (Value.int IntKind.i64 0)]).bind fun o =>
 outK o (fun i _u => ifN (i.beq 0) (some (Out.ret [D.v (Value.bool false)] [])) none) fun a b => some (Out.ret a b)) := by kernel_rfl
theorem t_impl_IsCase (x0 : D) : F_impl_IsCase [x0] =
  ((lenD false x0).bind fun z => (loopC (fun s => (bin BinOp.lss false [] (sl s 3) (sl s 2)).bind fun z => ifD z ((Option.map D.ptr (elemD 4 (sl s 1) (sl s 3))).bind fun z => ((ldD true 4 z).bind chkV).bind fun z => (stD 4
 (D.agg [D.v (Value.string { data := { toList := [] } }), D.v (Value.int IntKind.i64 0), D.v (Value.int IntKind.i64 0), D.v (Value.int IntKind.i64 0)]) (D.ref 0 0) z).bind fun b => (fldD true 4 0 b).bind fun z =>
 callK (F_impl_IsBox [z]) fun rs _u => (un UnOp.not (sl rs 0)).bind fun z => (gate (D.tup []) z false (some (sl s 3))).bind fun z_1 => (gate (D.tup []) z false
 (bin BinOp.gtr false [] z_1 (D.v (Value.int IntKind.i64 0)))).bind fun z_2 => (gate (D.tup []) z false (some z_2)).bind fun z_3 => (gate (D.tup []) z_3 true (some (sl s 0))).bind fun z_4 =>
 (gate (D.tup []) z_3 true (some (sl s 3))).bind fun z_5 => (gate (D.tup []) z_3 true (bin BinOp.sub false [] z_5 (D.v (Value.int IntKind.i64 1)))).bind fun z_6 =>
 (gate (D.tup []) z_3 true (Option.map D.ptr (elemD 4 z_4 z_6))).bind fun z_7 => (gate (D.tup []) z_3 true (offD 0 z_7)).bind fun z_8 => (gate (D.tup []) z_3 true ((ldD false 1 z_8).bind chkV)).bind fun z_9 =>
 (gate D.bad z_3 true (liveD b (D.ref 0 0))).bind fun z_10 => (gate (D.tup []) z_3 true ((atD b z_10).bind (takeD false 1))).bind fun z_11 => (gate (D.tup []) z_3 true (bin BinOp.geq false [] z_9 z_11)).bind fun z_12 =>
 (gate (D.tup []) z false (pickD z_3 z_12 (D.v (Value.bool false)))).bind fun z_13 => (pickD z (D.v (Value.bool true)) z_13).bind fun z => (gate (D.tup []) z false (some (sl s 0))).bind fun z_14 =>
 (gate (D.tup []) z false (some (sl s 3))).bind fun z_15 => (gate (D.tup []) z false (sliceD false 4 z_14 (D.v (Value.int IntKind.i64 0)) z_15)).bind fun z_16 => (gate D.bad z false (liveD b (D.ref 0 1))).bind fun z_17 =>
 (gate (D.tup []) z false ((atD b z_17).bind (takeD false 1))).bind fun z_18 => (gate D.bad z false (liveD b (D.ref 0 2))).bind fun z_19 => (gate (D.tup []) z false ((atD b z_19).bind (takeD false 1))).bind fun z_20 =>
 gateC z false (callK (F_impl_isTaken [z_16, z_18, z_20]) fun rs _u => some (Out.nrm [sl rs 0])) [D.tup []] fun outs => (pickD z (D.v (Value.bool true)) (sl outs 0)).bind fun z => ifD z
 (some (Out.ret [D.v (Value.bool false)] [])) ((bin BinOp.add false [] (sl s 3) (D.v (Value.int IntKind.i64 1))).bind fun z => some (Out.nrm [sl s 0, sl s 1, sl s 2, z]))) (some (Out.ext 0 [sl s 0])))
 [x0, x0, z, D.v (Value.int IntKind.i64 0)]).bind fun o => outK o (fun i s => ifN (i.beq 0) ((lenD false (sl s 0)).bind fun z =>
 callK (F_impl_within [z, D.v (Value.int IntKind.i64 1), D.v (Value.int IntKind.i64 32)]) fun rs _u => some (Out.ret [sl rs 0] [])) none) fun a b => some (Out.ret a b)) := by kernel_rfl
theorem t_impl_areCodes (x0 x1 : D) : F_impl_areCodes [x0, x1] =
  ((lenD false x1).bind fun z => (loopC (fun s => (bin BinOp.lss false [] (sl s 4) (sl s 3)).bind fun z => ifD z ((Option.map D.ptr (elemD 1 (sl s 2) (sl s 4))).bind fun z => ((ldD false 1 z).bind chkV).bind fun z =>
 callK (F_impl_boxAt [sl s 0, z]) fun rs _u => (bin BinOp.lss false [] (sl rs 0) (D.v (Value.int IntKind.i64 0))).bind fun z => ifD z (some (Out.ret [D.v (Value.bool false)] []))
 ((bin BinOp.add false [] (sl s 4) (D.v (Value.int IntKind.i64 1))).bind fun z => some (Out.nrm [sl s 0, sl s 1, sl s 2, sl s 3, z]))) (some (Out.ext 0 [sl s 0, sl s 1])))
 [x0, x1, x1, z, D.v (Value.int IntKind.i64 0)]).bind fun o => outK o (fun i s => ifN (i.beq 0) (callK (F_impl_IsCase [sl s 0]) fun rs _u => (gate (D.tup []) (sl rs 0) true (some (sl s 1))).bind fun z =>
 (gate (D.tup []) (sl rs 0) true (lenD false z)).bind fun z => (gate (D.tup []) (sl rs 0) true (bin BinOp.leq false [] z (D.v (Value.int IntKind.i64 60)))).bind
 fun z => (pickD (sl rs 0) z (D.v (Value.bool false))).bind fun z => some (Out.ret [z] [])) none) fun a b => some (Out.ret a b)) := by kernel_rfl
theorem t_impl_isForme (x0 x1 : D) : F_impl_isForme [x0, x1] =
  ((boxD 4 x1).bind fun y => (liveD y (D.ref 0 0)).bind fun z => (((atD y z).bind (takeD false 1)).bind chkV).bind fun z => callK (F_impl_isFormeId [z]) fun rs _u => (gate (D.tup []) (sl rs 0) true (some x0)).bind fun z =>
 (gate D.bad (sl rs 0) true (liveD y (D.ref 0 1))).bind fun z_1 => (gate (D.tup []) (sl rs 0) true ((atD y z_1).bind (takeD false 1))).bind fun z_2 =>
 gateC (sl rs 0) true (callK (F_impl_areCodes [z, z_2]) fun rs _u => some (Out.nrm [sl rs 0])) [D.tup []] fun outs => (pickD (sl rs 0) (sl outs 0) (D.v (Value.bool false))).bind fun z =>
 (gate D.bad z true (liveD y (D.ref 0 1))).bind fun z_3 => (gate (D.tup []) z true ((atD y z_3).bind (takeD false 1))).bind fun z_4 => (gate (D.tup []) z true (lenD false z_4)).bind fun z_5 =>
 (gate (D.tup []) z true (bin BinOp.leq false [] z_5 (D.v (Value.int IntKind.i64 40)))).bind fun z_6 => (pickD z z_6 (D.v (Value.bool false))).bind fun z => (gate D.bad z true (liveD y (D.ref 0 3))).bind fun z_7 =>
 (gate (D.tup []) z true (((atD y z_7).bind (takeD false 1)).bind chkV)).bind fun z_8 => gateC z true (callK (F_impl_within [z_8, D.v (Value.int IntKind.i64 0), D.v (Value.int IntKind.i64 100000)])
 fun rs _u => some (Out.nrm [sl rs 0])) [D.tup []] fun outs => (pickD z (sl outs 0) (D.v (Value.bool false))).bind fun z => (gate D.bad z true (liveD y (D.ref 0 2))).bind fun z_9 =>
 (gate (D.tup []) z true (((atD y z_9).bind (takeD false 1)).bind chkV)).bind fun z_10 => (gate (D.tup []) z true (un UnOp.not z_10)).bind fun z_11 => (gate (D.tup []) z true (some z_11)).bind fun z_12 =>
 (gate D.bad z_12 false (liveD y (D.ref 0 1))).bind fun z_13 => (gate (D.tup []) z_12 false ((atD y z_13).bind (takeD false 1))).bind fun z_14 => (gate (D.tup []) z_12 false (lenD false z_14)).bind fun z_15 =>
 (gate (D.tup []) z_12 false (bin BinOp.gtr false [] z_15 (D.v (Value.int IntKind.i64 0)))).bind fun z_16 => (gate (D.tup []) z true (pickD z_12 (D.v (Value.bool true)) z_16)).bind fun z_17 =>
 (pickD z z_17 (D.v (Value.bool false))).bind fun z => some (Out.ret [z] [])) := by kernel_rfl
theorem t_impl_IsShop (x0 : D) : F_impl_IsShop [x0] =
  ((boxD 4 x0).bind fun y => (liveD y (D.ref 0 1)).bind fun z => ((atD y z).bind (takeD false 1)).bind fun z => (lenD false z).bind fun z_1 => (loopC (fun s => (bin BinOp.lss false [] (sl s 4) (sl s 3)).bind fun z => ifD z
 ((Option.map D.ptr (elemD 4 (sl s 2) (sl s 4))).bind fun z => (ldD true 4 z).bind fun z => (stD 4 (D.agg [D.v (Value.int IntKind.i64 0), D.arr 1 [], D.v (Value.bool false), D.v (Value.int IntKind.i64 0)])
 (D.ref 0 0) z).bind fun b => (liveD (sl s 0) (D.ref 0 0)).bind fun z => ((atD (sl s 0) z).bind (takeD false 1)).bind fun z => (fldD true 4 0 b).bind fun z_2 => callK (F_impl_isForme [z, z_2]) fun rs _u =>
 (un UnOp.not (sl rs 0)).bind fun z => (gate (D.tup []) z false (some (sl s 4))).bind fun z_3 => (gate (D.tup []) z false (bin BinOp.gtr false [] z_3 (D.v (Value.int IntKind.i64 0)))).bind fun z_4 =>
 (gate (D.tup []) z false (some z_4)).bind fun z_5 => (gate D.bad z_5 true (liveD (sl s 0) (D.ref 0 1))).bind fun z_6 => (gate (D.tup []) z_5 true ((atD (sl s 0) z_6).bind (takeD false 1))).bind fun z_7 =>
 (gate (D.tup []) z_5 true (some (sl s 4))).bind fun z_8 => (gate (D.tup []) z_5 true (bin BinOp.sub false [] z_8 (D.v (Value.int IntKind.i64 1)))).bind fun z_9 =>
 (gate (D.tup []) z_5 true (Option.map D.ptr (elemD 4 z_7 z_9))).bind fun z_10 => (gate (D.tup []) z_5 true (offD 0 z_10)).bind fun z_11 => (gate (D.tup []) z_5 true ((ldD false 1 z_11).bind chkV)).bind fun z_12 =>
 (gate D.bad z_5 true (liveD b (D.ref 0 0))).bind fun z_13 => (gate (D.tup []) z_5 true (((atD b z_13).bind (takeD false 1)).bind chkV)).bind fun z_14 => (gate (D.tup []) z_5 true (bin BinOp.geq false [] z_12 z_14)).bind
 fun z_15 => (gate (D.tup []) z false (pickD z_5 z_15 (D.v (Value.bool false)))).bind fun z_16 => (pickD z (D.v (Value.bool true)) z_16).bind fun z => ifD z (some (Out.ret [D.v (Value.bool false)] []))
 ((liveD b (D.ref 0 3)).bind fun z => (((atD b z).bind (takeD false 1)).bind chkV).bind fun z => (bin BinOp.add false [] (sl s 1) z).bind fun z => (bin BinOp.add false [] (sl s 4) (D.v (Value.int IntKind.i64 1))).bind
 fun z_17 => some (Out.nrm [sl s 0, z, sl s 2, sl s 3, z_17]))) (some (Out.ext 0 [sl s 0, sl s 1]))) [y, D.v (Value.int IntKind.i64 0), z, z_1, D.v (Value.int IntKind.i64 0)]).bind fun o => outK o (fun i s => ifN (i.beq 0)
 ((liveD (sl s 0) (D.ref 0 0)).bind fun z => ((atD (sl s 0) z).bind (takeD false 1)).bind fun z => callK (F_impl_IsCase [z]) fun rs _u => (gate D.bad (sl rs 0) true (liveD (sl s 0) (D.ref 0 1))).bind fun z =>
 (gate (D.tup []) (sl rs 0) true ((atD (sl s 0) z).bind (takeD false 1))).bind fun z => (gate (D.tup []) (sl rs 0) true (lenD false z)).bind fun z => (gate (D.tup []) (sl rs 0) true
 (bin BinOp.leq false [] z (D.v (Value.int IntKind.i64 5)))).bind fun z => (pickD (sl rs 0) z (D.v (Value.bool false))).bind fun z => (gate D.bad z true (liveD (sl s 0) (D.ref 0 2))).bind fun z_2 =>
 (gate (D.tup []) z true (((atD (sl s 0) z_2).bind (takeD false 1)).bind chkV)).bind fun z_3 => gateC z true (callK (F_impl_within [z_3, D.v (Value.int IntKind.i64 0), D.v (Value.int IntKind.i64 9999)])
 fun rs _u => some (Out.nrm [sl rs 0])) [D.tup []] fun outs => (pickD z (sl outs 0) (D.v (Value.bool false))).bind fun z => (gate D.bad z true (liveD (sl s 0) (D.ref 0 3))).bind fun z_4 => (gate (D.tup []) z true
 (((atD (sl s 0) z_4).bind (takeD false 1)).bind chkV)).bind fun z_5 => gateC z true (callK (F_impl_within [z_5, D.v (Value.int IntKind.i64 0), D.v (Value.int IntKind.i64 1000000)]) fun rs _u => some (Out.nrm [sl rs 0]))
 [D.tup []] fun outs => (pickD z (sl outs 0) (D.v (Value.bool false))).bind fun z => (gate D.bad z true (liveD (sl s 0) (D.ref 0 3))).bind fun z_6 => (gate (D.tup []) z true
 (((atD (sl s 0) z_6).bind (takeD false 1)).bind chkV)).bind fun z_7 => (gate (D.tup []) z true (some (sl s 1))).bind fun z_8 => (gate (D.tup []) z true (bin BinOp.geq false [] z_7 z_8)).bind fun z_9 =>
 (pickD z z_9 (D.v (Value.bool false))).bind fun z => some (Out.ret [z] [])) none) fun a b => some (Out.ret a b)) := by kernel_rfl
theorem t_laws_eqBox (x0 x1 : D) : F_laws_eqBox [x0, x1] =
  ((boxD 4 x0).bind fun y => (boxD 4 x1).bind fun y_1 => (liveD y (D.ref 0 0)).bind fun z => ((atD y z).bind (takeD false 1)).bind fun z => (liveD y_1 (D.ref 0 0)).bind fun z_1 =>
 ((atD y_1 z_1).bind (takeD false 1)).bind fun z_2 => (bin BinOp.neq false [] z z_2).bind fun z => ifD z (some (Out.ret [D.v (Value.bool false)] [])) ((liveD y (D.ref 0 1)).bind fun z =>
 ((atD y z).bind (takeD false 1)).bind fun z => (liveD y_1 (D.ref 0 1)).bind fun z_3 => ((atD y_1 z_3).bind (takeD false 1)).bind fun z_4 => (bin BinOp.neq false [] z z_4).bind fun z =>
 ifD z (some (Out.ret [D.v (Value.bool false)] [])) ((liveD y (D.ref 0 2)).bind fun z => ((atD y z).bind (takeD false 1)).bind fun z => (liveD y_1 (D.ref 0 2)).bind fun z_5 =>
 ((atD y_1 z_5).bind (takeD false 1)).bind fun z_6 => (bin BinOp.neq false [] z z_6).bind fun z => ifD z (some (Out.ret [D.v (Value.bool false)] [])) ((liveD y (D.ref 0 3)).bind fun z =>
 ((atD y z).bind (takeD false 1)).bind fun z => (liveD y_1 (D.ref 0 3)).bind fun z_7 => ((atD y_1 z_7).bind (takeD false 1)).bind fun z_8 => (bin BinOp.neq false [] z z_8).bind fun z =>
 ifD z (some (Out.ret [D.v (Value.bool false)] [])) (some (Out.ret [D.v (Value.bool true)] [])))))) := by kernel_rfl
theorem t_laws_eqBoxS (x0 x1 : D) : F_laws_eqBoxS [x0, x1] =
  ((lenD false x0).bind fun z => (lenD false x1).bind fun z_1 => (bin BinOp.neq false [] z z_1).bind fun z => ifD z (some (Out.ret [D.v (Value.bool false)] [])) ((loopC (fun s => (lenD false (sl s 0)).bind fun z =>
 (bin BinOp.lss false [] (sl s 2) z).bind fun z => ifD z ((Option.map D.ptr (elemD 4 (sl s 0) (sl s 2))).bind fun z => ((ldD true 4 z).bind chkV).bind fun z => (Option.map D.ptr (elemD 4 (sl s 1) (sl s 2))).bind fun z_2 =>
 ((ldD true 4 z_2).bind chkV).bind fun z_3 => callK (F_laws_eqBox [z, z_3]) fun rs _u => (un UnOp.not (sl rs 0)).bind fun z => ifD z (some (Out.ret [D.v (Value.bool false)] []))
 ((bin BinOp.add false [] (sl s 2) (D.v (Value.int IntKind.i64 1))).bind fun z => some (Out.nrm [sl s 0, sl s 1, z]))) (some (Out.ext 0 []))) [x0, x1, D.v (Value.int IntKind.i64 0)]).bind fun o =>
 outK o (fun i _u => ifN (i.beq 0) (some (Out.ret [D.v (Value.bool true)] [])) none) fun a b => some (Out.ret a b))) := by kernel_rfl
theorem t_laws_eqStringS (x0 x1 : D) : F_laws_eqStringS [x0, x1] =
  ((lenD false x0).bind fun z => (lenD false x1).bind fun z_1 => (bin BinOp.neq false [] z z_1).bind fun z => ifD z (some (Out.ret [D.v (Value.bool false)] [])) ((loopC (fun s => (lenD false (sl s 0)).bind fun z =>
 (bin BinOp.lss false [] (sl s 2) z).bind fun z => ifD z ((Option.map D.ptr (elemD 1 (sl s 0) (sl s 2))).bind fun z => ((ldD false 1 z).bind chkV).bind fun z =>
 (Option.map D.ptr (elemD 1 (sl s 1) (sl s 2))).bind fun z_2 => ((ldD false 1 z_2).bind chkV).bind fun z_3 => (bin BinOp.neq false [] z z_3).bind fun z => ifD z (some (Out.ret [D.v (Value.bool false)] []))
 ((bin BinOp.add false [] (sl s 2) (D.v (Value.int IntKind.i64 1))).bind fun z => some (Out.nrm [sl s 0, sl s 1, z]))) (some (Out.ext 0 []))) [x0, x1, D.v (Value.int IntKind.i64 0)]).bind fun o =>
 outK o (fun i _u => ifN (i.beq 0) (some (Out.ret [D.v (Value.bool true)] [])) none) fun a b => some (Out.ret a b))) := by kernel_rfl
theorem t_laws_eqForme (x0 x1 : D) : F_laws_eqForme [x0, x1] =
  ((boxD 4 x0).bind fun y => (boxD 4 x1).bind fun y_1 => (liveD y (D.ref 0 0)).bind fun z => (((atD y z).bind (takeD false 1)).bind chkV).bind fun z => (liveD y_1 (D.ref 0 0)).bind fun z_1 =>
 (((atD y_1 z_1).bind (takeD false 1)).bind chkV).bind fun z_2 => (bin BinOp.neq false [] z z_2).bind fun z => ifD z (some (Out.ret [D.v (Value.bool false)] [])) ((liveD y (D.ref 0 1)).bind fun z =>
 ((atD y z).bind (takeD false 1)).bind fun z => (liveD y_1 (D.ref 0 1)).bind fun z_3 => ((atD y_1 z_3).bind (takeD false 1)).bind fun z_4 => callK (F_laws_eqStringS [z, z_4]) fun rs _u =>
 (un UnOp.not (sl rs 0)).bind fun z => ifD z (some (Out.ret [D.v (Value.bool false)] [])) ((liveD y (D.ref 0 2)).bind fun z => (((atD y z).bind (takeD false 1)).bind chkV).bind fun z =>
 (liveD y_1 (D.ref 0 2)).bind fun z_5 => (((atD y_1 z_5).bind (takeD false 1)).bind chkV).bind fun z_6 => (bin BinOp.neq true [] z z_6).bind fun z => ifD z (some (Out.ret [D.v (Value.bool false)] []))
 ((liveD y (D.ref 0 3)).bind fun z => (((atD y z).bind (takeD false 1)).bind chkV).bind fun z => (liveD y_1 (D.ref 0 3)).bind fun z_7 => (((atD y_1 z_7).bind (takeD false 1)).bind chkV).bind fun z_8 =>
 (bin BinOp.neq false [] z z_8).bind fun z => ifD z (some (Out.ret [D.v (Value.bool false)] [])) (some (Out.ret [D.v (Value.bool true)] [])))))) := by kernel_rfl
theorem t_laws_eqFormeS (x0 x1 : D) : F_laws_eqFormeS [x0, x1] =
  ((lenD false x0).bind fun z => (lenD false x1).bind fun z_1 => (bin BinOp.neq false [] z z_1).bind fun z => ifD z (some (Out.ret [D.v (Value.bool false)] [])) ((loopC (fun s => (lenD false (sl s 0)).bind fun z =>
 (bin BinOp.lss false [] (sl s 2) z).bind fun z => ifD z ((Option.map D.ptr (elemD 4 (sl s 0) (sl s 2))).bind fun z => (ldD true 4 z).bind fun z => (Option.map D.ptr (elemD 4 (sl s 1) (sl s 2))).bind fun z_2 =>
 (ldD true 4 z_2).bind fun z_3 => callK (F_laws_eqForme [z, z_3]) fun rs _u => (un UnOp.not (sl rs 0)).bind fun z => ifD z (some (Out.ret [D.v (Value.bool false)] []))
 ((bin BinOp.add false [] (sl s 2) (D.v (Value.int IntKind.i64 1))).bind fun z => some (Out.nrm [sl s 0, sl s 1, z]))) (some (Out.ext 0 []))) [x0, x1, D.v (Value.int IntKind.i64 0)]).bind fun o =>
 outK o (fun i _u => ifN (i.beq 0) (some (Out.ret [D.v (Value.bool true)] [])) none) fun a b => some (Out.ret a b))) := by kernel_rfl
theorem t_laws_eqShop (x0 x1 : D) : F_laws_eqShop [x0, x1] =
  ((boxD 4 x0).bind fun y => (boxD 4 x1).bind fun y_1 => (liveD y (D.ref 0 0)).bind fun z => ((atD y z).bind (takeD false 1)).bind fun z => (liveD y_1 (D.ref 0 0)).bind fun z_1 =>
 ((atD y_1 z_1).bind (takeD false 1)).bind fun z_2 => callK (F_laws_eqBoxS [z, z_2]) fun rs _u => (un UnOp.not (sl rs 0)).bind fun z => ifD z (some (Out.ret [D.v (Value.bool false)] []))
 ((liveD y (D.ref 0 1)).bind fun z => ((atD y z).bind (takeD false 1)).bind fun z => (liveD y_1 (D.ref 0 1)).bind fun z_3 => ((atD y_1 z_3).bind (takeD false 1)).bind fun z_4 =>
 callK (F_laws_eqFormeS [z, z_4]) fun rs _u => (un UnOp.not (sl rs 0)).bind fun z => ifD z (some (Out.ret [D.v (Value.bool false)] [])) ((liveD y (D.ref 0 2)).bind fun z =>
 (((atD y z).bind (takeD false 1)).bind chkV).bind fun z => (liveD y_1 (D.ref 0 2)).bind fun z_5 => (((atD y_1 z_5).bind (takeD false 1)).bind chkV).bind fun z_6 => (bin BinOp.neq false [] z z_6).bind fun z =>
 ifD z (some (Out.ret [D.v (Value.bool false)] [])) ((liveD y (D.ref 0 3)).bind fun z => (((atD y z).bind (takeD false 1)).bind chkV).bind fun z => (liveD y_1 (D.ref 0 3)).bind fun z_7 =>
 (((atD y_1 z_7).bind (takeD false 1)).bind chkV).bind fun z_8 => (bin BinOp.neq false [] z z_8).bind fun z => ifD z (some (Out.ret [D.v (Value.bool false)] [])) (some (Out.ret [D.v (Value.bool true)] [])))))) := by kernel_rfl
theorem t_laws_FnExactIsShop (x0 : D) : F_laws_FnExactIsShop [x0] =
  ((boxD 4 x0).bind fun y => (fldD true 4 0 y).bind fun z => callK (F_laws_szShop [z, D.v (Value.int IntKind.i64 1048576)]) fun rs _u => (bin BinOp.lss false [] (sl rs 0) (D.v (Value.int IntKind.i64 0))).bind fun z =>
 ifD z (some (Out.ret [D.v (Value.bool true)] [])) ((fldD true 4 0 y).bind fun z => callK (F_laws_toShop [z]) fun rs _u => callK (F_spec_IsShop [sl rs 0]) fun rs _u => (fldD true 4 0 y).bind fun z =>
 callK (F_laws_toShop [z]) fun rs_1 _u => (stD 4 (D.agg [D.arr 4 [], D.arr 4 [], D.v (Value.int IntKind.i64 0), D.v (Value.int IntKind.i64 0)]) (D.ref 0 0) (sl rs_1 0)).bind fun b => (fldD true 4 0 b).bind fun z =>
 callK (F_impl_IsShop [z]) fun rs_2 _u => (bin BinOp.neq true [] (sl rs_2 0) (sl rs 0)).bind fun z => ifD z (some (Out.ret [D.v (Value.bool false)] [])) ((fldD true 4 0 b).bind fun z => (fldD true 4 0 y).bind fun z_1 =>
 callK (F_laws_toShop [z_1]) fun rs _u => callK (F_laws_eqShop [z, sl rs 0]) fun rs _u => (un UnOp.not (sl rs 0)).bind fun z => ifD z (some (Out.ret [D.v (Value.bool false)] []))
 (some (Out.ret [D.v (Value.bool true)] []))))) := by kernel_rfl
theorem t_spec_caSum (x0 : D) : F_spec_caSum [x0] =
  ((lenD false x0).bind fun z => (loopC (fun s => (bin BinOp.lss false [] (sl s 3) (sl s 2)).bind fun z => ifD z ((Option.map D.ptr (elemD 4 (sl s 1) (sl s 3))).bind fun z => ((ldD true 4 z).bind chkV).bind fun z => (stD 4
 (D.agg [D.v (Value.string { data := { toList := [] } }), D.v (Value.int IntKind.i64 0), D.v (Value.int IntKind.i64 0), D.v (Value.int IntKind.i64 0)]) (D.ref 0 0) z).bind fun b => (liveD b (D.ref 0 3)).bind fun z =>
 ((atD b z).bind (takeD false 1)).bind fun z => (bin BinOp.add false [] (sl s 0) z).bind fun z => (bin BinOp.add false [] (sl s 3) (D.v (Value.int IntKind.i64 1))).bind fun z_1 => some (Out.nrm [z, sl s 1, sl s 2, z_1]))
 (some (Out.ext 0 [sl s 0]))) [D.v (Value.int IntKind.i64 0), x0, z, D.v (Value.int IntKind.i64 0)]).bind fun o => outK o (fun i s => ifN (i.beq 0) (some (Out.ret [sl s 0] [])) none) fun a b => some (Out.ret a b)) := by kernel_rfl
theorem t_spec_TypesInShop (x0 : D) : F_spec_TypesInShop [x0] =
  ((boxD 4 x0).bind fun y => (fldD true 4 0 y).bind fun z => callK (F_spec_shGood [z]) fun rs _u => (un UnOp.not (sl rs 0)).bind fun z => ifD z (some (Out.ret [D.v (Value.int IntKind.i64 0), D.v (Value.bool false)] []))
 ((liveD y (D.ref 0 0)).bind fun z => ((atD y z).bind (takeD false 1)).bind fun z => callK (F_spec_caSum [z]) fun rs _u => (liveD y (D.ref 0 2)).bind fun z => (((atD y z).bind (takeD false 1)).bind chkV).bind fun z =>
 (bin BinOp.add false [] (sl rs 0) z).bind fun z => (liveD y (D.ref 0 1)).bind fun z_1 => ((atD y z_1).bind (takeD false 1)).bind fun z_2 => (lenD false z_2).bind fun z_3 => (loopC (fun s =>
 (bin BinOp.lss false [] (sl s 3) (sl s 2)).bind fun z => ifD z ((Option.map D.ptr (elemD 4 (sl s 1) (sl s 3))).bind fun z => (ldD true 4 z).bind fun z => (stD 4 (D.agg [D.v (Value.int IntKind.i64 0), D.arr 1 [],
 D.v (Value.bool false), D.v (Value.int IntKind.i64 0)]) (D.ref 0 0) z).bind fun b => (liveD b (D.ref 0 1)).bind fun z => ((atD b z).bind (takeD false 1)).bind fun z => (lenD false z).bind fun z =>
 (bin BinOp.add false [] (sl s 0) z).bind fun z => (bin BinOp.add false [] (sl s 3) (D.v (Value.int IntKind.i64 1))).bind fun z_4 => some (Out.nrm [z, sl s 1, sl s 2, z_4])) (some (Out.ext 0 [sl s 0])))
 [z, z_2, z_3, D.v (Value.int IntKind.i64 0)]).bind fun o => outK o (fun i s => ifN (i.beq 0) (some (Out.ret [sl s 0, D.v (Value.bool true)] [])) none) fun a b => some (Out.ret a b))) := by kernel_rfl
theorem t_impl_TypesIn (x0 : D) : F_impl_TypesIn [x0] =
  (callK (F_impl_IsCase [x0]) fun rs _u => (un UnOp.not (sl rs 0)).bind fun z => ifD z (some (Out.ret [D.v (Value.int IntKind.i64 0), D.v (Value.bool false)] [])) ((lenD false x0).bind fun z => (loopC (fun s =>
 (bin BinOp.lss false [] (sl s 3) (sl s 2)).bind fun z => ifD z ((Option.map D.ptr (elemD 4 (sl s 1) (sl s 3))).bind fun z => ((ldD true 4 z).bind chkV).bind fun z => (stD 4 (D.agg
 [D.v (Value.string { data := { toList := [] } }), D.v (Value.int IntKind.i64 0), D.v (Value.int IntKind.i64 0), D.v (Value.int IntKind.i64 0)]) (D.ref 0 0) z).bind fun b => (liveD b (D.ref 0 3)).bind fun z =>
 ((atD b z).bind (takeD false 1)).bind fun z => (bin BinOp.add false [] (sl s 0) z).bind fun z => (bin BinOp.add false [] (sl s 3) (D.v (Value.int IntKind.i64 1))).bind fun z_1 => some (Out.nrm [z, sl s 1, sl s 2, z_1]))
 (some (Out.ext 0 [sl s 0]))) [D.v (Value.int IntKind.i64 0), x0, z, D.v (Value.int IntKind.i64 0)]).bind fun o => outK o (fun i s => ifN (i.beq 0) (some (Out.ret [sl s 0, D.v (Value.bool true)] [])) none) fun a b =>
 some (Out.ret a b))) := by kernel_rfl
theorem t_impl_TypesInShop (x0 : D) : F_impl_TypesInShop [x0] =
  ((boxD 4 x0).bind fun y => (fldD true 4 0 y).bind fun z => callK (F_impl_IsShop [z]) fun rs _u => (un UnOp.not (sl rs 0)).bind fun z => ifD z (some (Out.ret [D.v (Value.int IntKind.i64 0), D.v (Value.bool false)] []))
 ((liveD y (D.ref 0 0)).bind fun z => ((atD y z).bind (takeD false 1)).bind fun z => callK (F_impl_TypesIn [z]) fun rs _u => (tupAt (D.tup rs) 0).bind fun z => (tupAt (D.tup rs) 1).bind fun _u =>
 (liveD y (D.ref 0 1)).bind fun z_1 => ((atD y z_1).bind (takeD false 1)).bind fun z_2 => (lenD false z_2).bind fun z_3 => (loopC (fun s => (bin BinOp.lss false [] (sl s 4) (sl s 3)).bind fun z => ifD z
 ((Option.map D.ptr (elemD 4 (sl s 2) (sl s 4))).bind fun z => (ldD true 4 z).bind fun z => (stD 4 (D.agg [D.v (Value.int IntKind.i64 0), D.arr 1 [], D.v (Value.bool false), D.v (Value.int IntKind.i64 0)])
 (D.ref 0 0) z).bind fun b => (liveD b (D.ref 0 1)).bind fun z => ((atD b z).bind (takeD false 1)).bind fun z => (lenD false z).bind fun z => (bin BinOp.add false [] (sl s 1) z).bind fun z =>
 (bin BinOp.add false [] (sl s 4) (D.v (Value.int IntKind.i64 1))).bind fun z_4 => some (Out.nrm [sl s 0, z, sl s 2, sl s 3, z_4])) (some (Out.ext 0 [sl s 0, sl s 1]))) [y, z, z_2, z_3, D.v (Value.int IntKind.i64 0)]).bind
 fun o => outK o (fun i s => ifN (i.beq 0) ((liveD (sl s 0) (D.ref 0 2)).bind fun z => (((atD (sl s 0) z).bind (takeD false 1)).bind chkV).bind fun z => (bin BinOp.add false [] (sl s 1) z).bind fun z =>
 some (Out.ret [z, D.v (Value.bool true)] [])) none) fun a b => some (Out.ret a b))) := by kernel_rfl
theorem t_laws_FnExactTypesInShop (x0 : D) : F_laws_FnExactTypesInShop [x0] =
  ((boxD 4 x0).bind fun y => (fldD true 4 0 y).bind fun z => callK (F_laws_szShop [z, D.v (Value.int IntKind.i64 1048576)]) fun rs _u => (bin BinOp.lss false [] (sl rs 0) (D.v (Value.int IntKind.i64 0))).bind fun z =>
 ifD z (some (Out.ret [D.v (Value.bool true)] [])) ((fldD true 4 0 y).bind fun z => callK (F_laws_toShop [z]) fun rs _u => callK (F_spec_TypesInShop [sl rs 0]) fun rs _u => (tupAt (D.tup rs) 0).bind fun z =>
 (tupAt (D.tup rs) 1).bind fun z_1 => (fldD true 4 0 y).bind fun z_2 => callK (F_laws_toShop [z_2]) fun rs _u => (stD 4 (D.agg [D.arr 4 [], D.arr 4 [], D.v (Value.int IntKind.i64 0), D.v (Value.int IntKind.i64 0)])
 (D.ref 0 0) (sl rs 0)).bind fun b => (fldD true 4 0 b).bind fun z_3 => callK (F_impl_TypesInShop [z_3]) fun rs _u => (tupAt (D.tup rs) 0).bind fun z_4 => (tupAt (D.tup rs) 1).bind fun z_5 =>
 (bin BinOp.neq false [] z_4 z).bind fun z => (gate (D.tup []) z false (some z_5)).bind fun z_6 => (gate (D.tup []) z false (some z_1)).bind fun z_7 =>
 (gate (D.tup []) z false (bin BinOp.neq true [] z_6 z_7)).bind fun z_8 => (pickD z (D.v (Value.bool true)) z_8).bind fun z => ifD z (some (Out.ret [D.v (Value.bool false)] [])) ((fldD true 4 0 b).bind fun z =>
 (fldD true 4 0 y).bind fun z_9 => callK (F_laws_toShop [z_9]) fun rs _u => callK (F_laws_eqShop [z, sl rs 0]) fun rs _u => (un UnOp.not (sl rs 0)).bind fun z => ifD z (some (Out.ret [D.v (Value.bool false)] []))
 (some (Out.ret [D.v (Value.bool true)] []))))) := by kernel_rfl
end Go.Proofs.Ytcnkgmbnmndahaa
