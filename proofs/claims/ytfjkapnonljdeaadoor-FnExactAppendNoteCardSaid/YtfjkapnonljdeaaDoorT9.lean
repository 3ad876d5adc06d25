/-
  What the functions compute: their evaluated texts, printed.
-/
import Derived.Test.YtfjkapnonljdeaaDoorC7
namespace Go.Proofs.YtfjkapnonljdeaaDoor
open Go Go.V
theorem t_laws_szNoteS (x0 x1 : D) : F_laws_szNoteS [x0, x1] =
  ((lenD false x0).bind fun z => (bin BinOp.sub false [] x1 z).bind fun z => (bin BinOp.lss false [] z (D.v (Value.int IntKind.i64 0))).bind fun z_1 =>
 ifD z_1 (some (Out.ret [D.v (Value.int IntKind.i64 (-1))] [])) (some (Out.ret [z] []))) := by kernel_rfl
theorem t_laws_toNote (x0 : D) : F_laws_toNote [x0] =
  ((boxD 3 x0).bind fun y => (liveD y (D.ref 0 0)).bind fun z => ((atD y z).bind (takeD false 1)).bind fun z => (liveD (D.agg [D.v (Value.int IntKind.i64 0), D.v (Value.int IntKind.i64 0), D.v (Value.int IntKind.i64 0)])
 (D.ref 0 0)).bind fun z_1 => (stD 1 (D.agg [D.v (Value.int IntKind.i64 0), D.v (Value.int IntKind.i64 0), D.v (Value.int IntKind.i64 0)]) z_1 z).bind fun b => (liveD y (D.ref 0 1)).bind fun z =>
 ((atD y z).bind (takeD false 1)).bind fun z => (liveD b (D.ref 0 1)).bind fun z_2 => (stD 1 b z_2 z).bind fun b => (liveD y (D.ref 0 2)).bind fun z => ((atD y z).bind (takeD false 1)).bind fun z =>
 (liveD b (D.ref 0 2)).bind fun z_3 => (stD 1 b z_3 z).bind fun b => (fldD true 3 0 b).bind fun z => (stD 3 (D.agg [D.v (Value.int IntKind.i64 0), D.v (Value.int IntKind.i64 0), D.v (Value.int IntKind.i64 0)])
 (D.ref 0 0) z).bind fun b => (fldD true 3 0 b).bind fun y => some (Out.ret [y] [])) := by kernel_rfl
theorem t_laws_toNoteS (x0 : D) : F_laws_toNoteS [x0] =
  ((lenD false x0).bind fun z => (makD 3 24 (D.agg [D.v (Value.int IntKind.i64 0), D.v (Value.int IntKind.i64 0), D.v (Value.int IntKind.i64 0)]) z z).bind fun y => (loopC (fun s => (lenD false (sl s 0)).bind fun z =>
 (bin BinOp.lss false [] (sl s 2) z).bind fun z => ifD z ((liveD (sl s 1) (D.ref 0 0)).bind fun z => (Option.map D.ptr (elemD 3 (sl s 0) (sl s 2))).bind fun z_1 => ((ldD true 3 z_1).bind chkV).bind fun z_2 =>
 callK (F_laws_toNote [z_2]) fun rs _u => ((liveD z (sl s 1)).bind fun b => refI 3 b (sl s 2)).bind fun z => (stD 3 (sl s 1) z (sl rs 0)).bind fun b =>
 (bin BinOp.add false [] (sl s 2) (D.v (Value.int IntKind.i64 1))).bind fun z => some (Out.nrm [sl s 0, b, z])) (some (Out.ext 0 [sl s 1]))) [x0, y, D.v (Value.int IntKind.i64 0)]).bind
 fun o => outK o (fun i s => ifN (i.beq 0) (some (Out.ret [sl s 0] [])) none) fun a b => some (Out.ret a b)) := by kernel_rfl
theorem t_spec_joText (x0 : D) : F_spec_joText [x0] =
  ((lenD false x0).bind fun z => (loopC (fun s => (bin BinOp.lss false [] (sl s 4) (sl s 3)).bind fun z => ifD z ((Option.map D.ptr (elemD 3 (sl s 2) (sl s 4))).bind fun z => ((ldD true 3 z).bind chkV).bind fun z => (stD 3
 (D.agg [D.v (Value.int IntKind.i64 0), D.v (Value.int IntKind.i64 0), D.v (Value.int IntKind.i64 0)]) (D.ref 0 0) z).bind fun b => (fldD true 3 0 b).bind fun z => callK (F_spec_joCheck [sl s 1, z]) fun rs _u =>
 (fldD true 3 0 b).bind fun z => callK (F_spec_joLine [z, sl rs 0]) fun rs_1 _u => (bin BinOp.add false [] (sl s 0) (sl rs_1 0)).bind fun z =>
 (bin BinOp.add false [] (sl s 4) (D.v (Value.int IntKind.i64 1))).bind fun z_1 => some (Out.nrm [z, sl rs 0, sl s 2, sl s 3, z_1])) (some (Out.ext 0 [sl s 0])))
 [D.v (Value.string { data := { toList := [] } }), D.v (Value.int IntKind.i64 7), x0, z, D.v (Value.int IntKind.i64 0)]).bind
 fun o => outK o (fun i s => ifN (i.beq 0) (some (Out.ret [sl s 0] [])) none) fun a b => some (Out.ret a b)) := by kernel_rfl
theorem t_spec_joIf (x0 : D) : F_spec_joIf [x0] =
  ((lenD true x0).bind fun z => (bin BinOp.gtr false [] z (D.v (Value.int IntKind.i64 300))).bind fun z => ifD z (some (Out.ret [D.v (Value.string { data := { toList := [] } }), D.v (Value.bool false)] []))
 (some (Out.ret [x0, D.v (Value.bool true)] []))) := by kernel_rfl
theorem t_spec_JournalText (x0 : D) : F_spec_JournalText [x0] =
  (callK (F_spec_joGood [x0]) fun rs _u => (un UnOp.not (sl rs 0)).bind fun z => ifD z (some (Out.ret [D.v (Value.string { data := { toList := [] } }), D.v (Value.bool false)] [])) (callK (F_spec_joText [x0]) fun rs _u =>
 callK (F_spec_joIf [sl rs 0]) fun rs _u => (tupAt (D.tup rs) 0).bind fun z => (tupAt (D.tup rs) 1).bind fun z_1 => some (Out.ret [z, z_1] []))) := by kernel_rfl
theorem t_impl_JournalText (x0 : D) : F_impl_JournalText [x0] =
  (callK (F_impl_AreNotes [x0]) fun rs _u => (un UnOp.not (sl rs 0)).bind fun z => (gate (D.tup []) z false (some x0)).bind fun z_1 =>
 gateC z false (callK (fJournal [z_1]) fun rs _u => some (Out.nrm [sl rs 0])) [D.tup []] fun outs => (gate (D.tup []) z false (lenD true (sl outs 0))).bind fun z_2 =>
 (gate (D.tup []) z false (bin BinOp.gtr false [] z_2 (D.v (Value.int IntKind.i64 300)))).bind fun z_3 => (pickD z (D.v (Value.bool true)) z_3).bind fun z =>
 ifD z (some (Out.ret [D.v (Value.string { data := { toList := [] } }), D.v (Value.bool false)] [])) (callK (fJournal [x0]) fun rs _u => some (Out.ret [sl rs 0, D.v (Value.bool true)] []))) := by kernel_rfl
theorem t_laws_FnExactJournalText (x0 : D) : F_laws_FnExactJournalText [x0] =
  (callK (F_laws_szNoteS [x0, D.v (Value.int IntKind.i64 1048576)]) fun rs _u => (bin BinOp.lss false [] (sl rs 0) (D.v (Value.int IntKind.i64 0))).bind fun z => ifD z (some (Out.ret [D.v (Value.bool true)] []))
 (callK (F_laws_toNoteS [x0]) fun rs _u => callK (F_spec_JournalText [sl rs 0]) fun rs _u => (tupAt (D.tup rs) 0).bind fun z => (tupAt (D.tup rs) 1).bind fun z_1 => callK (F_laws_toNoteS [x0]) fun rs _u =>
 callK (F_impl_JournalText [sl rs 0]) fun rs_1 _u => (tupAt (D.tup rs_1) 0).bind fun z_2 => (tupAt (D.tup rs_1) 1).bind fun z_3 => (bin BinOp.neq false [] z_2 z).bind fun z =>
 (gate (D.tup []) z false (some z_3)).bind fun z_4 => (gate (D.tup []) z false (some z_1)).bind fun z_5 => (gate (D.tup []) z false (bin BinOp.neq true [] z_4 z_5)).bind fun z_6 =>
 (pickD z (D.v (Value.bool true)) z_6).bind fun z => ifD z (some (Out.ret [D.v (Value.bool false)] [])) (callK (F_laws_toNoteS [x0]) fun rs_2 _u => callK (F_laws_eqNoteS [sl rs 0, sl rs_2 0]) fun rs _u =>
 (un UnOp.not (sl rs 0)).bind fun z => ifD z (some (Out.ret [D.v (Value.bool false)] [])) (some (Out.ret [D.v (Value.bool true)] []))))) := by kernel_rfl
theorem t_spec_AppendNote (x0 x1 : D) : F_spec_AppendNote [x0, x1] =
  ((boxD 3 x1).bind fun y => callK (F_spec_ReadJournal [x0]) fun rs _u => (tupAt (D.tup rs) 0).bind fun y_1 => (tupAt (tupCut (D.tup rs) 0) 1).bind fun z => (mkArr 3 []).bind fun a => (chkA y_1).bind fun b =>
 (appD 3 24 a b).bind fun y_2 => (fldD true 3 0 y).bind fun z_1 => (mkArr 3 [z_1]).bind fun a => (appD 3 24 y_2 a).bind fun y => (un UnOp.not z).bind fun z => (gate (D.tup []) z false (some y)).bind fun z_2 =>
 gateC z false (callK (F_spec_joGood [z_2]) fun rs _u => some (Out.nrm [sl rs 0])) [D.tup []] fun outs => (gate (D.tup []) z false (un UnOp.not (sl outs 0))).bind fun z_3 =>
 (pickD z (D.v (Value.bool true)) z_3).bind fun z => ifD z (some (Out.ret [D.v (Value.string { data := { toList := [] } }), D.v (Value.bool false)] [])) (callK (F_spec_joText [y]) fun rs _u =>
 callK (F_spec_joIf [sl rs 0]) fun rs _u => (tupAt (D.tup rs) 0).bind fun z => (tupAt (D.tup rs) 1).bind fun z_4 => some (Out.ret [z, z_4] []))) := by kernel_rfl
theorem t_impl_AppendNote (x0 x1 : D) : F_impl_AppendNote [x0, x1] =
  ((boxD 3 x1).bind fun y => callK (F_impl_readJournal [x0]) fun rs _u => (tupAt (D.tup rs) 0).bind fun y_1 => (tupAt (tupCut (D.tup rs) 0) 1).bind fun z => (un UnOp.not z).bind fun z =>
 (gate (D.tup []) z false (fldD true 3 0 y)).bind fun z_1 => gateC z false (callK (F_impl_isNote [z_1]) fun rs _u => some (Out.nrm [sl rs 0])) [D.tup []] fun outs =>
 (gate (D.tup []) z false (un UnOp.not (sl outs 0))).bind fun z_2 => (pickD z (D.v (Value.bool true)) z_2).bind fun z => ifD z (some (Out.ret [D.v (Value.string { data := { toList := [] } }), D.v (Value.bool false)] []))
 ((fldD true 3 0 y).bind fun z => (mkArr 3 [z]).bind fun a => (appD 3 24 y_1 a).bind fun y => callK (F_impl_JournalText [y]) fun rs _u => (tupAt (D.tup rs) 0).bind fun z =>
 (tupAt (D.tup rs) 1).bind fun z_3 => some (Out.ret [z, z_3] []))) := by kernel_rfl
theorem t_laws_FnExactAppendNote (x0 x1 : D) : F_laws_FnExactAppendNote [x0, x1] =
  ((boxD 3 x1).bind fun y => (lenD true x0).bind fun z => (bin BinOp.gtr false [] z (D.v (Value.int IntKind.i64 1048576))).bind fun z => ifD z (some (Out.ret [D.v (Value.bool true)] [])) ((fldD true 3 0 y).bind fun z =>
 callK (F_laws_toNote [z]) fun rs _u => callK (F_spec_AppendNote [x0, sl rs 0]) fun rs _u => (tupAt (D.tup rs) 0).bind fun z => (tupAt (D.tup rs) 1).bind fun z_1 => (fldD true 3 0 y).bind fun z_2 =>
 callK (F_laws_toNote [z_2]) fun rs _u => callK (F_impl_AppendNote [x0, sl rs 0]) fun rs _u => (tupAt (D.tup rs) 0).bind fun z_3 => (tupAt (D.tup rs) 1).bind fun z_4 => (bin BinOp.neq false [] z_3 z).bind fun z =>
 (gate (D.tup []) z false (some z_4)).bind fun z_5 => (gate (D.tup []) z false (some z_1)).bind fun z_6 => (gate (D.tup []) z false (bin BinOp.neq true [] z_5 z_6)).bind fun z_7 =>
 (pickD z (D.v (Value.bool true)) z_7).bind fun z => ifD z (some (Out.ret [D.v (Value.bool false)] [])) (some (Out.ret [D.v (Value.bool true)] [])))) := by kernel_rfl
end Go.Proofs.YtfjkapnonljdeaaDoor
